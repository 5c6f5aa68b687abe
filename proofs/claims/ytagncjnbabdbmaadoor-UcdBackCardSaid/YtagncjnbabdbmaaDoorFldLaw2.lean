/- The law on texts with a blank between them: true. -/
import Derived.Test.YtagncjnbabdbmaaDoorFldW
import Derived.Test.YtagncjnbabdbmaaDoorFldJoin
import Derived.Test.YtagncjnbabdbmaaDoorFldLaw1
set_option linter.unusedSimpArgs false
set_option linter.unusedVariables false
namespace Go.Proofs.YtagncjnbabdbmaaDoor
open Go.RowKit

theorem rd_own {w : World} {B : Nat} {e : TypeId} {A : Option Addr} {n c : Nat} {xs : List Value} (h : w.ownsRow B e 1 (.slice A n c) n xs) : Rd w A n xs := by
  obtain ⟨A', c', e2, _, _, hr⟩ := Rd.of_own h
  injection e2 with e2a _ _
  subst e2a
  exact hr
theorem own_gt {w : World} {B : Nat} {e : TypeId} {A : Option Addr} {n c : Nat} {xs : List Value} (h : w.ownsRow B e 1 (.slice A n c) n xs) : ∀ a, A = some a → B ≤ a.block ∧ a.block < w.heap.size := by
  intro a ha
  subst ha
  exact h.lt a.block rfl
theorem bytesF_len (ahead : List UInt8) : ∀ (f : Nat) (out s : List UInt8), (bytesF ahead f out s).1.length ≤ out.length + f
  | 0, out, s => by simp [bytesF]
  | f + 1, out, s => by
    simp only [bytesF]
    split
    · simp only []; omega
    · split
      · split
        · simp
        · have := bytesF_len ahead f (out ++ [UInt8.ofNat (numS 16 2 ((s.drop ahead.length).take 2)).toNat]) ((s.drop ahead.length).drop 2)
          rw [List.length_append, List.length_singleton] at this
          omega
      · simp
theorem bytesS_len (ahead s : List UInt8) : (bytesS ahead s).1.length ≤ s.length + 1 := by
  have := bytesF_len ahead (s.length + 1) [] s
  rw [List.length_nil] at this
  unfold bytesS
  omega
theorem runesW_len : ∀ (ws : List (List UInt8)) (out : List Int), (runesW out ws).1.length ≤ out.length + ws.length
  | [], out => by simp [runesW]
  | v :: ws, out => by
    by_cases h : (hexS v).2 = 0
    · rw [runesW_good h]
      have := runesW_len ws (out ++ [(hexS v).1])
      rw [List.length_append, List.length_singleton] at this
      rw [List.length_cons]
      omega
    · rw [runesW_bad h]; simp
theorem runesS_len (l : List UInt8) : (runesS l).1.length ≤ l.length + 1 := by
  have := runesW_len (wordsL l) []
  have h2 := (words_len l []).1
  unfold runesS
  rw [List.length_nil] at this
  unfold wordsL at this ⊢
  omega
set_option maxHeartbeats 3000000 in
theorem joins_yes (s t : ByteArray) (w : World) (hE : Env w) :
    Calls Tryd.prog 4 #[.string s, .string t] w fun e w' => e = .returned (.bool true) ∧ Below w.heap.size w w' := by
  by_cases hbig : 400 < s.size ∨ 400 < t.size
  · have hcase : (400 : Int) < (s.size : Int) ∨ ((s.size : Int) ≤ 400 ∧ (400 : Int) < (t.size : Int)) := by omega
    clear hbig
    rcases hcase with h1 | ⟨h1, h2⟩
    all_goals
      go_enter Tryd.func4, Tryd.ntmps4
      go_wp2_with fail
      refine (awake_any _ hE).mono ?_
      rintro e w1 ⟨rfl, hb1⟩
      go_wp2
      go_returns
      exact ⟨rfl, hb1⟩
  · have hsi : (s.size : Int) ≤ 400 := by omega
    have hti : (t.size : Int) ≤ 400 := by omega
    clear hbig
    have hE0 := hE
    have R1 := fun w => runes04_any s w (by omega)
    have R2 := fun w => runes04_any t w (by omega)
    have R3 := fun w => runes04_any (s ++ ⟨#[32]⟩ ++ t) w (by have h1 : (s ++ ⟨#[32]⟩ ++ t).size = s.size + 1 + t.size := by rw [ByteArray.size_append, ByteArray.size_append]; rfl
                                                              omega)
    have B1 := fun w => bytes04_any s ⟨#[]⟩ w (by omega)
    have B2 := fun w => bytes04_any t ⟨#[]⟩ w (by omega)
    have B3 := fun w => bytes04_any (s ++ t) ⟨#[]⟩ w (by rw [ByteArray.size_append]; omega)
    rw [bs_append, bs_append, show bs ⟨#[32]⟩ = [32] from rfl, runesS_two] at R3
    rw [show bs ⟨#[]⟩ = [] from rfl] at B1 B2 B3
    rw [bs_append] at B3
    have hB := fun h1 h2 => bytesS_two (a := bs s) (b := bs t) h1 h2
    have hl1 := (words_len (bs s) []).1
    have hl2 := (words_len (bs t) []).1
    have hr1 : (runesS (bs s)).1.length ≤ 1000 := by have := runesS_len (bs s); rw [bs_length] at this; omega
    have hr2 : (runesS (bs t)).1.length ≤ 1000 := by have := runesS_len (bs t); rw [bs_length] at this; omega
    obtain ⟨⟨x, h⟩, hx⟩ : ∃ z, z = bytesS [] (bs s) := ⟨_, rfl⟩
    obtain ⟨⟨y, i⟩, hy⟩ : ∃ z, z = bytesS [] (bs t) := ⟨_, rfl⟩
    obtain ⟨⟨z, j⟩, hz⟩ : ∃ q, q = bytesS [] (bs s ++ bs t) := ⟨_, rfl⟩
    have hxz : (mk8 (bytesS [] (bs s)).1).size ≤ 1000 := by have := bytesS_len [] (bs s); rw [bs_length] at this; rw [mk8_size]; omega
    have hyz : (mk8 (bytesS [] (bs t)).1).size ≤ 1000 := by have := bytesS_len [] (bs t); rw [bs_length] at this; rw [mk8_size]; omega
    rw [← hx] at B1 hB hxz
    rw [← hy] at B2 hB hyz
    rw [← hz] at B3 hB
    obtain ⟨⟨a, e⟩, ha⟩ : ∃ z, z = runesS (bs s) := ⟨_, rfl⟩
    obtain ⟨⟨b, f⟩, hb⟩ : ∃ z, z = runesS (bs t) := ⟨_, rfl⟩
    rw [← ha] at R1 R3 hr1
    rw [← hb] at R2 R3 hr2
    simp only [] at hB R3 hr1 hr2 hxz hyz
    clear hx hy hz ha hb hl1 hl2
    have hcase : (h == 0) = false ∨ ((h == 0) = true ∧ (i == 0) = false) ∨ ((h == 0) = true ∧ (i == 0) = true ∧ (j != 0) = false ∧ mk8 z = mk8 x ++ mk8 y) := by
      by_cases h0 : h = 0
      · by_cases i0 : i = 0
        · have := hB h0 i0
          injection this with hz hj
          refine .inr (.inr ⟨by simp [h0], by simp [i0], by simp [hj], ?_⟩)
          rw [hz]
          rfl
        · exact .inr (.inl ⟨by simp [h0], by simp [i0]⟩)
      · exact .inl (by simp [h0])
    clear hB
    by_cases he : e = 0
    · rw [if_pos he] at R3
      by_cases hf : f = 0
      · rw [if_pos hf] at R3
        have g1 : (e != 0) = false := by simp [he]
        have g2 : (f != 0) = false := by simp [hf]
        clear he hf
        rcases hcase with h1 | ⟨h1, h2⟩ | ⟨h1, h2, h3, h4⟩
        all_goals
          have hself := str_ne_self (mk8 x ++ mk8 y)
          try rw [h4] at B3
          go_enter Tryd.func4, Tryd.ntmps4
          go_wp2_with fail
          refine (R1 _).mono ?_
          rintro q w1 ⟨A, c, rfl, hown, hb1⟩
          replace hE := hE.below hb1
          have hlt := own_gt hown
          go_wp2_with fail
          refine (R2 _).mono ?_
          intro q w2 hF
          obtain ⟨A2, c2, rfl, hr2', hb2⟩ := hF.rd
          clear hF R1 R2
          replace hE := hE.below hb2
          replace hown := own_below hown hb2
          have hbw := below_then hb1 hb2
          have hz2 := hb2.size
          clear hb1 hb2
          go_wp2_with fail
          refine (R3 _).mono ?_
          rintro q w3 ⟨A3, c3, rfl, hown3, hb3⟩
          clear R3
          have hgt := own_gt hown3
          replace hE := hE.below hb3
          replace hown := own_below hown hb3
          replace hr2' := hr2'.below hb3
          replace hbw := below_then hbw hb3
          clear hb3
          go_wp2_with fail
          refine (B1 _).mono ?_
          rintro q w4 ⟨rfl, hb4⟩
          replace hE := hE.below hb4
          replace hown := own_below hown hb4
          replace hown3 := own_below hown3 hb4
          replace hr2' := hr2'.below hb4
          replace hbw := below_then hbw hb4
          clear hb4 B1
          go_wp2_with fail
          refine (B2 _).mono ?_
          rintro q w5 ⟨rfl, hb5⟩
          replace hE := hE.below hb5
          replace hown := own_below hown hb5
          replace hown3 := own_below hown3 hb5
          replace hr2' := hr2'.below hb5
          replace hbw := below_then hbw hb5
          clear hb5 B2
          go_wp2_with fail
          refine (B3 _).mono ?_
          rintro q w6 ⟨rfl, hb6⟩
          replace hE := hE.below hb6
          replace hown := own_below hown hb6
          replace hown3 := own_below hown3 hb6
          replace hr2' := hr2'.below hb6
          replace hbw := below_then hbw hb6
          clear hb6 B3
          have hbz := hbw.size
          go_wp2_with (at_builtin; refine wpList_app runeElem _ rfl _ _ rfl w.heap.size rfl hown rfl hr2' (runes_one _ _) (by omega) (by omega) (by omega) ?_)
          intro A7 c7 w7 hown7 hg7 hat7
          have hb7 := below_app hbw hbw.size hown hg7
          have hE7 : Env w7 := by
            obtain ⟨m, hm, hl⟩ := hE0
            exact ⟨m, by rw [hb7.cell hl]; exact hm, by have := hb7.size; omega⟩
          have hrd7 := rd_own hown7
          have hrd3 := rd_own hown3
          have hrd3' := hrd3.grown hg7 (by
            intro a ha hh
            have k1 := (hgt a ha).1
            cases A with
            | none => cases hh
            | some aa =>
              have k2 := (hlt aa rfl).2
              have : aa.block = a.block := by simpa [Value.ownBlock] using hh
              omega)
          clear hown hown3 hown7 hr2' hrd3 hg7 hat7
          have hlen : (a ++ b).length ≤ 2000 := by simp; omega
          have HR := runes_any A7 A3 (a.length + b.length) (a.length + b.length) c7 c3 (a ++ b) (a ++ b) w7 (by simpa using hrd7) (by simpa using hrd3') (by omega) (by omega)
          rw [show decide (a ++ b = a ++ b) = true from by simp] at HR
          go_wp2_with fail
          refine HR.mono ?_
          rintro q w8 ⟨rfl, hd8⟩
          have hb8 := hd8.to
          go_wp2_with fail
          refine (awake_any _ (hE7.below hb8)).mono ?_
          rintro q w9 ⟨rfl, hb9⟩
          go_wp2
          go_returns
          exact ⟨rfl, below_then hb7 (below_then hb8 hb9)⟩
      · rw [if_neg hf] at R3
        have g1 : (e != 0) = false := by simp [he]
        have g2 : (f != 0) = true := by simp [hf]
        have g3 : (f == f) = true := by simp
        clear he hf
        rcases hcase with h1 | ⟨h1, h2⟩ | ⟨h1, h2, h3, h4⟩
        all_goals
          have hself := str_ne_self (mk8 x ++ mk8 y)
          try rw [h4] at B3
          go_enter Tryd.func4, Tryd.ntmps4
          go_wp2_with fail
          refine (R1 _).mono ?_
          rintro q w1 ⟨A, c, rfl, hown, hb1⟩
          replace hE := hE.below hb1
          have hlt := own_gt hown
          go_wp2_with fail
          refine (R2 _).mono ?_
          intro q w2 hF
          obtain ⟨A2, c2, rfl, hr2', hb2⟩ := hF.rd
          clear hF R1 R2
          replace hE := hE.below hb2
          replace hown := own_below hown hb2
          have hbw := below_then hb1 hb2
          have hz2 := hb2.size
          clear hb1 hb2
          go_wp2_with fail
          refine (R3 _).mono ?_
          rintro q w3 ⟨A3, c3, rfl, hown3, hb3⟩
          clear R3
          have hgt := own_gt hown3
          replace hE := hE.below hb3
          replace hown := own_below hown hb3
          replace hr2' := hr2'.below hb3
          replace hbw := below_then hbw hb3
          clear hb3
          go_wp2_with fail
          refine (B1 _).mono ?_
          rintro q w4 ⟨rfl, hb4⟩
          replace hE := hE.below hb4
          replace hown := own_below hown hb4
          replace hown3 := own_below hown3 hb4
          replace hr2' := hr2'.below hb4
          replace hbw := below_then hbw hb4
          clear hb4 B1
          go_wp2_with fail
          refine (B2 _).mono ?_
          rintro q w5 ⟨rfl, hb5⟩
          replace hE := hE.below hb5
          replace hown := own_below hown hb5
          replace hown3 := own_below hown3 hb5
          replace hr2' := hr2'.below hb5
          replace hbw := below_then hbw hb5
          clear hb5 B2
          go_wp2_with fail
          refine (B3 _).mono ?_
          rintro q w6 ⟨rfl, hb6⟩
          replace hE := hE.below hb6
          replace hown := own_below hown hb6
          replace hown3 := own_below hown3 hb6
          replace hr2' := hr2'.below hb6
          replace hbw := below_then hbw hb6
          clear hb6 B3
          go_wp2_with fail
          refine (awake_any _ hE).mono ?_
          rintro q w7 ⟨rfl, hb7⟩
          go_wp2
          go_returns
          exact ⟨rfl, below_then hbw hb7⟩
    · rw [if_neg he] at R3
      have g1 : (e != 0) = true := by simp [he]
      have g3 : (e == e) = true := by simp
      clear he
      rcases hcase with h1 | ⟨h1, h2⟩ | ⟨h1, h2, h3, h4⟩
      all_goals
        have hself := str_ne_self (mk8 x ++ mk8 y)
        try rw [h4] at B3
        go_enter Tryd.func4, Tryd.ntmps4
        go_wp2_with fail
        refine (R1 _).mono ?_
        rintro q w1 ⟨A, c, rfl, hown, hb1⟩
        replace hE := hE.below hb1
        have hlt := own_gt hown
        go_wp2_with fail
        refine (R2 _).mono ?_
        intro q w2 hF
        obtain ⟨A2, c2, rfl, hr2', hb2⟩ := hF.rd
        clear hF R1 R2
        replace hE := hE.below hb2
        replace hown := own_below hown hb2
        have hbw := below_then hb1 hb2
        have hz2 := hb2.size
        clear hb1 hb2
        go_wp2_with fail
        refine (R3 _).mono ?_
        rintro q w3 ⟨A3, c3, rfl, hown3, hb3⟩
        clear R3
        have hgt := own_gt hown3
        replace hE := hE.below hb3
        replace hown := own_below hown hb3
        replace hr2' := hr2'.below hb3
        replace hbw := below_then hbw hb3
        clear hb3
        go_wp2_with fail
        refine (B1 _).mono ?_
        rintro q w4 ⟨rfl, hb4⟩
        replace hE := hE.below hb4
        replace hown := own_below hown hb4
        replace hown3 := own_below hown3 hb4
        replace hr2' := hr2'.below hb4
        replace hbw := below_then hbw hb4
        clear hb4 B1
        go_wp2_with fail
        refine (B2 _).mono ?_
        rintro q w5 ⟨rfl, hb5⟩
        replace hE := hE.below hb5
        replace hown := own_below hown hb5
        replace hown3 := own_below hown3 hb5
        replace hr2' := hr2'.below hb5
        replace hbw := below_then hbw hb5
        clear hb5 B2
        go_wp2_with fail
        refine (B3 _).mono ?_
        rintro q w6 ⟨rfl, hb6⟩
        replace hE := hE.below hb6
        replace hown := own_below hown hb6
        replace hown3 := own_below hown3 hb6
        replace hr2' := hr2'.below hb6
        replace hbw := below_then hbw hb6
        clear hb6 B3
        go_wp2_with fail
        refine (awake_any _ hE).mono ?_
        rintro q w7 ⟨rfl, hb7⟩
        go_wp2
        go_returns
        exact ⟨rfl, below_then hbw hb7⟩
end Go.Proofs.YtagncjnbabdbmaaDoor
