/- The law on characters that are told and read again: true. -/
import Derived.Test.YtagncjnbabdbmaaDoorFldT3
import Derived.Test.YtagncjnbabdbmaaDoorFldBackP
import Derived.Test.YtagncjnbabdbmaaDoorFldW
import Derived.Test.YtagncjnbabdbmaaDoorFldLaw1
import Derived.Deep.RegionHeld3
set_option linter.unusedSimpArgs false
set_option linter.unusedVariables false
namespace Go.Proofs.YtagncjnbabdbmaaDoor
open Go.RowKit

theorem cell_below {w w' : World} {p : Addr} {u : Value} (h : w.cell? p = some u) (hb : Below w.heap.size w w') : w'.cell? p = some u := (hb.cell (World.block_lt_of_cell? w p h)).trans h
theorem cell_alloc {w : World} {p : Addr} {u : Value} (h : w.cell? p = some u) (o : Obj) : (w.alloc o).cell? p = some u := cell_below h ((Below.refl _ _).alloc (Nat.le_refl _) o)
theorem text_one {z : Int} : textS [z] = digS z := by simp [textS, Lib.join_one]
theorem text1_any (z : Int) (A : Option Addr) (c : Nat) (w : World) (h : Rd w A 1 [.int .i32 z]) (hz : -2147483648 ≤ z ∧ z ≤ 2147483647) :
    Calls Tryd.prog 31 #[.slice A 1 c] w fun e w' => e = .returned (.string (mk8 (digS z))) ∧ Below w.heap.size w w' := by
  have := text04_any A 1 c [z] w h (by intro y hy; rw [List.mem_singleton] at hy; subst hy; exact hz) (by omega)
  rw [text_one] at this
  exact this
theorem range1_any {z : Int} (hs : scalarB z = true) (w : World) (hE : Env w) :
    Calls Tryd.prog 26 #[.string (mk8 (digS z))] w fun e w' => e = .returned (.tuple #[.int .i32 z, .int .i32 z, .int .i64 0]) ∧ Below w.heap.size w w' := by
  have := range_any (mk8 (digS z)) w hE (by have := digS_len z; rw [mk8_size]; omega)
  rw [bs_mk8, rangeS_dig hs] at this
  exact this
theorem range2_any {z : Int} (hs : scalarB z = true) (w : World) (hE : Env w) :
    Calls Tryd.prog 26 #[.string (mk8 (digS 0) ++ ⟨#[32, 46, 46, 32]⟩ ++ mk8 (digS z))] w fun e w' => e = .returned (.tuple #[.int .i32 0, .int .i32 z, .int .i64 0]) ∧ Below w.heap.size w w' := by
  have := range_any (mk8 (digS 0) ++ ⟨#[32, 46, 46, 32]⟩ ++ mk8 (digS z)) w hE (by
    have h1 := digS_len z
    have h0 := digS_len 0
    rw [ByteArray.size_append, ByteArray.size_append, mk8_size, mk8_size]
    have : (⟨#[32, 46, 46, 32]⟩ : ByteArray).size = 4 := rfl
    omega)
  rw [bs_append, bs_append, bs_mk8, bs_mk8, show bs ⟨#[32, 46, 46, 32]⟩ = [32, 46, 46, 32] from rfl, rangeS_two hs] at this
  exact this
theorem hex1_any {z : Int} (hs : scalarB z = true) (w : World) :
    Calls Tryd.prog 23 #[.string (mk8 (digS z))] w fun e w' => e = .returned (.tuple #[.int .i32 z, .int .i64 0]) ∧ Below w.heap.size w w' := by
  have := hexM (digS z) w (by have := digS_len z; rw [mk8_size]; omega)
  rw [hexS_back hs] at this
  exact this
theorem runesall_any {zs : List Int} (hs : ∀ z ∈ zs, scalarB z = true) (hn : zs.length ≤ 1000) (w : World) :
    Calls Tryd.prog 20 #[.string (mk8 (textS zs))] w (FreshRE w (zs, 0)) := by
  have := runes04_any (mk8 (textS zs)) w (by have := textS_len zs zs.length (Nat.le_refl _); rw [List.take_length] at this; rw [mk8_size]; omega)
  rw [bs_mk8, runesS_back hs] at this
  exact this
theorem take_all {zs : List Int} {P : Int → Prop} {k : Nat} {z : Int} (h : ∀ y ∈ zs.take k, P y) (hz : zs[k]? = some z) (hp : P z) : ∀ y ∈ zs.take (k + 1), P y := by
  rw [take_snoc' hz]
  intro y hy
  rcases List.mem_append.1 hy with hy | hy
  · exact h y hy
  · rw [List.mem_singleton] at hy; subst hy; exact hp
theorem env_right {w0 w : World} {p : Addr} {u : Value} (hE : Env w0) (h : w.cell? p = some u ∧ Below w0.heap.size w0 w) : Env w := hE.below h.2
theorem keep_first {w : World} {p : Addr} {u : Value} (h : w.cell? p = some u) : w.drew.cell? p = some u ∧ Below w.heap.size w w.drew := ⟨h, (show Drew w w.drew from ⟨1, rfl⟩).to⟩
theorem keep_alloc {w0 w : World} {p : Addr} {u : Value} {o : Obj} (h : w.cell? p = some u ∧ Below w0.heap.size w0 w) : (w.alloc o).cell? p = some u ∧ Below w0.heap.size w0 (w.alloc o) := ⟨cell_alloc h.1 o, h.2.alloc h.2.size o⟩
theorem keep_drew {w0 w : World} {p : Addr} {u : Value} {o : Obj} (h : w.drew.cell? p = some u ∧ Below w0.heap.size w0 w.drew) : (w.alloc o).drew.cell? p = some u ∧ Below w0.heap.size w0 (w.alloc o).drew := ⟨cell_alloc (w := w.drew) h.1 o, h.2.alloc h.2.size o⟩
theorem keep_call {w0 w w' : World} {p : Addr} {u : Value} (h : w.cell? p = some u ∧ Below w0.heap.size w0 w) (hb : Below w.heap.size w w') : w'.cell? p = some u ∧ Below w0.heap.size w0 w' := ⟨cell_below h.1 hb, below_then h.2 hb⟩
/-- A call that makes memory, at a step of a region that draws its order. -/
theorem step_callB {P : Program} {w : World} {ops : Array Oper} {o : Oper} {a : Act} {K : Act → World → Prop} {Q : Exit → Act → World → Prop} {R : Prop} {f : FuncId} {vs : Array Value} {v : Value} (hgd : o.guard = none)
    (h : Calls P f vs w (fun e w' => e = .returned v ∧ Below w.heap.size w w')) (hrun : (execOp a.eval o).run P w = .ok (.enter f vs) w) (hk : ∀ w', Below w.heap.size w w' → K (a.put o.dst v) w') :
    if Region.wanted o (yielded ops a.tmps) = true then Oper.wp P o a w K Q else R := by
  rw [if_pos (by simp [Region.wanted, hgd])]
  unfold Oper.wp
  rw [hrun, Oper.upon_enter]
  refine h.mono ?_
  rintro e w' ⟨rfl, hb⟩
  exact hk w' hb
set_option maxRecDepth 20000 in
set_option maxHeartbeats 4000000 in
theorem back_yes (A : Option Addr) (n c : Nat) (zs : List Int) (w : World) (hE : Env w) (hr : Rd w A n (Rs zs)) (hi : ∀ z ∈ zs, -2147483648 ≤ z ∧ z ≤ 2147483647) :
    Calls Tryd.prog 8 #[.slice A n c] w fun e w' => e = .returned (.bool true) ∧ Below w.heap.size w w' := by
  have hzl : zs.length = n := by have := hr.1; simpa using this
  have HZL := Lib.hid hzl
  clear hzl
  by_cases hbig : 100 < n
  · have hb : (100 : Int) < (n : Int) := by omega
    clear hbig
    go_enter Tryd.func8, Tryd.ntmps8
    go_wp2_with fail
    refine (awake_any _ hE).mono ?_
    rintro e w1 ⟨rfl, hb1⟩
    go_wp2
    go_returns
    exact ⟨rfl, hb1⟩
  · have hni : (n : Int) ≤ 100 := by omega
    clear hbig
    have HI := Lib.hid hi
    clear hi
    go_enter Tryd.func8, Tryd.ntmps8
    go_wp2
    go_loopw [3] (fun i wr => ∃ k : Nat, k ≤ n ∧ i = .int .i64 k ∧ Hid (∀ z ∈ zs.take k, scalarB z = true) ∧ Below w.heap.size w wr) (fun i _ => n - (intOf i).toNat)
    case atStart => exact ⟨0, Nat.zero_le _, rfl, (by show ∀ z ∈ zs.take 0, _; simp), Below.refl _ _⟩
    case round =>
      obtain ⟨k, hk, rfl, HS, hbw⟩ := hrel
      have hz := hbw.size
      replace hE := hE.below hbw
      by_cases hlt : k < n
      · obtain ⟨z, hzz⟩ : ∃ z, zs[k]? = some z := ⟨_, List.getElem?_eq_getElem (by rw [HZL.out]; exact hlt)⟩
        have hzi := HI.out z (List.mem_of_getElem? hzz)
        obtain ⟨b, off, rfl, hbl, hcx⟩ := (hr.below hbw).at_ (by omega)
        have hc := hcx k (.int .i32 z) (by simp [hzz])
        clear hcx
        have HZZ := Lib.hid hzz
        have hii : (k : Int) < (n : Int) := by omega
        clear hzz hr
        rcases Bool.eq_false_or_eq_true (scalarB z) with hsc | hsc
        · have HS2 : Hid (∀ y ∈ zs.take (k + 1), scalarB y = true) := take_all HS.out HZZ.out hsc
          have T1 := fun A c w h => text1_any z A c w h hzi
          have T0 := fun A c w h => text1_any 0 A c w h (by omega)
          have R1 := fun w h => range1_any hsc w h
          have R2 := fun w h => range2_any hsc w h
          have X1 := fun w => hex1_any hsc w
          clear HS HZZ
          go_wp2_with (go_at_call 33; refine (scalar_any _ _).mono ?_; rintro e w' ⟨rfl, rfl⟩)
          have hzv := hbw.size
          go_wp2_with fail
          refine (T1 _ _ _ (Rd.new1 _ _ _)).mono ?_
          rintro e w1 ⟨rfl, hb1⟩
          replace hb1 := (Below.alloc (Below.refl _ _) (Nat.le_refl _) _).trans (hb1.mono (by simp))
          replace hc := cell_below hc hb1
          replace hE := hE.below hb1
          replace hbw := below_then hbw hb1
          clear hb1
          go_wp2_with fail
          refine (X1 _).mono ?_
          rintro e w2 ⟨rfl, hb1⟩
          replace hc := cell_below hc hb1
          replace hE := hE.below hb1
          replace hbw := below_then hbw hb1
          clear hb1
          go_wp2_with fail
          refine (T1 _ _ _ (Rd.new1 _ _ _)).mono ?_
          rintro e w3 ⟨rfl, hb1⟩
          replace hb1 := (Below.alloc (Below.refl _ _) (Nat.le_refl _) _).trans (hb1.mono (by simp))
          replace hc := cell_below hc hb1
          replace hE := hE.below hb1
          replace hbw := below_then hbw hb1
          clear hb1
          go_wp2_with fail
          refine (R1 _ hE).mono ?_
          rintro e w4 ⟨rfl, hb1⟩
          replace hc := cell_below hc hb1
          replace hE := hE.below hb1
          replace hbw := below_then hbw hb1
          clear hb1
          go_upto_region 10 with fail
          have hz8 : (mk8 (digS z)).size ≤ 8 := by rw [mk8_size]; exact digS_len z
          have hz0 : (mk8 (digS 0)).size ≤ 8 := by rw [mk8_size]; exact digS_len 0
          have hz4 : (mk8 (digS 0) ++ (⟨#[32, 46, 46, 32]⟩ : ByteArray)).size ≤ 12 := by
            have : (⟨#[32, 46, 46, 32]⟩ : ByteArray).size = 4 := rfl
            rw [ByteArray.size_append]; omega
          have hz8i : ((mk8 (digS z)).size : Int) ≤ 8 := by omega
          have hz0i : ((mk8 (digS 0)).size : Int) ≤ 8 := by omega
          have hz4i : ((mk8 (digS 0) ++ (⟨#[32, 46, 46, 32]⟩ : ByteArray)).size : Int) ≤ 12 := by omega
          have hs0 : (⟨#[32, 46, 46, 32]⟩ : ByteArray).size = 4 := rfl
          have hs1 : ¬ (9223372036854775807 < (mk8 (digS 0)).size + (⟨#[32, 46, 46, 32]⟩ : ByteArray).size) := by omega
          have hs2 : ¬ (9223372036854775807 < (mk8 (digS 0)).size + 4) := by omega
          have hs3 : ¬ (9223372036854775807 < (mk8 (digS 0) ++ (⟨#[32, 46, 46, 32]⟩ : ByteArray)).size + (mk8 (digS z)).size) := by omega
          have hs4 : ¬ (9223372036854775807 < (mk8 (digS 0)).size + 4 + (mk8 (digS z)).size) := by omega
          have hs5 : ¬ (9223372036854775807 < (mk8 (digS 0)).size + (⟨#[32, 46, 46, 32]⟩ : ByteArray).size + (mk8 (digS z)).size) := by omega
          clear X1 R1 hzv hni hs0
          go_region_held3 (fun w' => w'.cell? ⟨b, off + k, none⟩ = some (.int .i32 z) ∧ Below w4.heap.size w4 w') (first | exact keep_first hc | assumption | (refine keep_alloc ?_; assumption) | (refine keep_drew ?_; assumption) | (refine keep_call ?_ hb5; assumption) | (refine keep_call ?_ hb6; assumption) | (refine keep_call ?_ hb7; assumption))
            (first
              | (go_at_call 31; refine (T0 _ _ _ ?_).mono ?_; (first | exact Rd.drew (Rd.new1 _ _ _) | exact Rd.new1 _ _ _ | exact Rd.drew (Rd.alloc (Rd.new1 _ _ _) _) | (refine Rd.drew (Rd.newAt _ _ _ ?_); simp)); rintro e w5 ⟨rfl, hb5⟩)
              | (go_at_call 31; refine (T1 _ _ _ ?_).mono ?_; (first | exact Rd.new1 _ _ _ | exact Rd.drew (Rd.new1 _ _ _) | (refine Rd.below (Rd.drew (Rd.newAt _ _ _ ?_)) hb5; simp) | (refine Rd.below (Rd.drew (Rd.alloc (Rd.new1 _ _ _) _)) hb5) | (refine Rd.below (Rd.alloc (Rd.new1 _ _ _) _) hb5) | (refine Rd.below (Rd.newAt _ _ _ ?_) hb5; simp) | (refine Rd.below (Rd.drew (Rd.alloc (Rd.new1 _ _ _) _)) ?_; assumption)); rintro e w6 ⟨rfl, hb6⟩)
              | (go_at_call 26; refine (R2 _ ?_).mono ?_; (refine env_right (p := ⟨b, off + k, none⟩) (u := .int .i32 z) hE ?_; assumption); rintro e w7 ⟨rfl, hb7⟩))
          all_goals
            have hk7 : w7.cell? ⟨b, off + k, none⟩ = some (.int .i32 z) ∧ Below w4.heap.size w4 w7 := by assumption
            obtain ⟨hc7, hb8⟩ := hk7
            replace hbw := below_then hbw hb8
            clear hb8 hE hc
            go_wp2
            go_roundw
            case rel => exact ⟨k + 1, by omega, by go_num, HS2, hbw⟩
            case measure => simp [intOf]; omega
        · clear HS
          go_wp2_with (go_at_call 33; refine (scalar_any _ _).mono ?_; rintro e w' ⟨rfl, rfl⟩)
          go_wp2_with fail
          refine (awake_any _ hE).mono ?_
          rintro e w1 ⟨rfl, hb1⟩
          go_wp2
          go_returns
          exact ⟨rfl, below_then hbw hb1⟩
      · have hkn : k = n := by omega
        subst hkn
        have hall : zs.take k = zs := List.take_of_length_le (by rw [HZL.out]; exact Nat.le_refl _)
        rw [hall] at HS
        have hkk : (k : Int) ≤ (k : Int) := by omega
        have hzn : zs.length ≤ 1000 := by rw [HZL.out]; omega
        have TX := fun w h => text04_any A k c zs w h HI.out (by omega)
        have RU := fun w => runesall_any HS.out hzn w
        replace hr := hr.below hbw
        clear hall HS hlt hk
        go_wp2_with fail
        refine (TX _ hr).mono ?_
        rintro e w1 ⟨rfl, hb1⟩
        replace hr := hr.below hb1
        replace hE := hE.below hb1
        replace hbw := below_then hbw hb1
        clear hb1
        go_wp2_with fail
        refine (RU _).mono ?_
        intro e w2 hF
        obtain ⟨A2, c2, rfl, hr2, hb1⟩ := hF.rd
        clear hF
        replace hr := hr.below hb1
        replace hE := hE.below hb1
        replace hbw := below_then hbw hb1
        clear hb1
        go_wp2_with fail
        have RS := fun w hx hy => runes_any A2 A zs.length k c2 c zs zs w hx hy (by omega) (by omega)
        rw [show decide (zs = zs) = true from by simp] at RS
        refine (RS _ hr2 hr).mono ?_
        rintro q w3 ⟨rfl, hdn⟩
        have hbn := hdn.to
        replace hE := hE.below hbn
        replace hbw := below_then hbw hbn
        clear hdn hbn hr hr2
        go_wp2_with fail
        refine (awake_any _ hE).mono ?_
        rintro q w4 ⟨rfl, hb1⟩
        go_wp2
        go_returns
        exact ⟨rfl, below_then hbw hb1⟩
end Go.Proofs.YtagncjnbabdbmaaDoor
