/- A call of the law, done; two lists of texts. -/
import Derived.Test.YthfakejhkbelhaaDoorNmsH
set_option linter.unusedSimpArgs false
set_option linter.unusedVariables false
namespace Go.Proofs.YthfakejhkbelhaaDoor
open Go.RowKit

/-- What a call does to the things, and what it answers. -/
def opN (l : List Thg) (k x : Int) (nm : List UInt8) (ot : List (List UInt8)) : List Thg × Int := if k = 0 then addN l x nm ot else if k = 1 then callN l nm ot else dropN l nm
theorem RegPost.from_ {B r : Nat} {w W w' : World} {os : List TA} {A : Option Addr} {c : Nat} {L : List Thg} (hB : B ≤ w.heap.size) (hb : Below w.heap.size w W) (h : RegPost B r W os A c L w') : RegPost B r w os A c L w' := by
  obtain ⟨os', A', c', h1, h2, h3, h4, h5⟩ := h
  have hz := hb.size
  refine ⟨os', A', c', h1, h2, (hb.mono hB).trans h3, fun g hg hn => (h4 g (by omega) hn).trans (hb.block g hg), fun g hg => ?_⟩
  rcases h5 g hg with h | h
  · exact .inl h
  · exact .inr (by omega)
section
variable {B r : Nat} {w : World} {os : List TA} {A : Option Addr} {c : Nat}
set_option maxRecDepth 20000 in
theorem calls_any (h : RegAt B r w os A c) (hE : EnvN w) (k x : Int) (nm : List UInt8) (A2 : Option Addr) (n2 c2 : Nat) (ls : List (List UInt8)) (hr2 : Rd w A2 n2 (Ss ls)) (hnil2 : A2 = none → n2 = 0 ∧ c2 = 0) (hn2 : n2 ≤ 1000) (hnc2 : n2 ≤ c2) (hfew : ∀ x ∈ os, x.1.ot.length + n2 ≤ 1000000) :
    Calls Tryd.prog 16 #[.pointer (some ⟨r, 0, none⟩), .agg #[.int .i64 k, .int .i64 x, .string (mk8 nm), .slice A2 n2 c2]] w fun e w' => e = .returned (.int .i64 (opN (os.map (·.1)) k x nm ls).2) ∧ RegPost B r w os A c (opN (os.map (·.1)) k x nm ls).1 w' := by
  have HB : ∀ o, Below w.heap.size w (w.alloc o) := fun o => (Below.refl _ _).alloc (Nat.le_refl _) _
  have hB := h.base
  unfold opN
  rcases (show k = 0 ∨ k = 1 ∨ (¬ k = 0 ∧ ¬ k = 1) by omega) with hk | hk | ⟨hk, hk'⟩
  · subst hk
    rw [if_pos rfl]
    have AD := fun o => Add_any (h.below (HB o)) (hE.below (HB o)) x nm A2 n2 c2 ls (hr2.below (HB o)) hnil2 hn2
    generalize addN (os.map (·.1)) x nm ls = res at *
    go_enter Tryd.func16, Tryd.ntmps16
    go_wp2_with fail
    refine (AD _).mono ?_
    rintro e w1 ⟨rfl, hp⟩
    have HP := Lib.hid (RegPost.from_ hB (HB _) hp)
    clear AD hp
    go_wp2
    go_returns
    exact ⟨rfl, HP.out⟩
  · subst hk
    rw [if_neg (by omega), if_pos rfl]
    have CA := fun o => Call_any (h.below (HB o)) nm (hE.below (HB o)) A2 n2 c2 ls (hr2.below (HB o)) hn2 hnc2 hfew
    generalize callN (os.map (·.1)) nm ls = res at *
    go_enter Tryd.func16, Tryd.ntmps16
    go_wp2_with fail
    refine (CA _).mono ?_
    rintro e w1 ⟨rfl, hp⟩
    have HP := Lib.hid (RegPost.from_ hB (HB _) hp)
    clear CA hp
    go_wp2
    go_returns
    exact ⟨rfl, HP.out⟩
  · rw [if_neg hk, if_neg hk']
    have q0 : (k == 0) = false := beq_eq_false_iff_ne.2 hk
    have q1 : (k == 1) = false := beq_eq_false_iff_ne.2 hk'
    have DR := fun o => Drop_any (h.below (HB o)) nm (hE.below (HB o))
    generalize dropN (os.map (·.1)) nm = res at *
    go_enter Tryd.func16, Tryd.ntmps16
    go_wp2_with fail
    refine (DR _).mono ?_
    rintro e w1 ⟨rfl, hp⟩
    have HP := Lib.hid (RegPost.from_ hB (HB _) hp)
    clear DR hp
    go_wp2
    go_returns
    exact ⟨rfl, HP.out⟩
end
set_option maxRecDepth 20000 in
set_option maxHeartbeats 4000000 in
theorem texts_any (A D : Option Addr) (n m c d : Nat) (xs ys : List (List UInt8)) (w : World) (hx : Rd w A n (Ss xs)) (hy : Rd w D m (Ss ys)) (hn : n ≤ 1000000) (hm : m ≤ 1000000) :
    Calls Tryd.prog 20 #[.slice A n c, .slice D m d] w fun e w' => e = .returned (.bool (decide (xs = ys))) ∧ Drew w w' := by
  have hxl : xs.length = n := by have := hx.1; simpa [Ss] using this
  have hyl : ys.length = m := by have := hy.1; simpa [Ss] using this
  obtain ⟨res, hres⟩ : ∃ res, res = decide (xs = ys) := ⟨_, rfl⟩
  rw [← hres]
  have HRES := Lib.hid hres
  clear hres
  by_cases hnm : n = m
  · subst hnm
    have HXL := Lib.hid hxl
    have HYL := Lib.hid hyl
    have hnn : ((n : Int) != (n : Int)) = false := by simp
    clear hxl hyl
    go_enter Tryd.func20, Tryd.ntmps20
    go_wp2
    go_loopw [5] (fun i wr => ∃ k : Nat, k ≤ n ∧ i = .int .i64 k ∧ Hid (xs.take k = ys.take k) ∧ Drew w wr) (fun i _ => n - (intOf i).toNat)
    case atStart => exact ⟨0, Nat.zero_le _, rfl, rfl, ⟨0, rfl⟩⟩
    case round =>
      obtain ⟨k, hk, rfl, HT, hd⟩ := hrel
      have hb := hd.to
      by_cases hlt : k < n
      · obtain ⟨u, hu⟩ : ∃ u, xs[k]? = some u := ⟨_, List.getElem?_eq_getElem (by rw [HXL.out]; exact hlt)⟩
        obtain ⟨v, hv⟩ : ∃ v, ys[k]? = some v := ⟨_, List.getElem?_eq_getElem (by rw [HYL.out]; exact hlt)⟩
        obtain ⟨b, off, rfl, _, hc⟩ := (hx.below hb).at_ (by omega)
        obtain ⟨b2, off2, rfl, _, hc2⟩ := (hy.below hb).at_ (by omega)
        have c1 : wr.cell? ⟨b, off + k, none⟩ = some (.string (mk8 u)) := hc k _ (by simp [Ss, hu])
        have c2 : wr.cell? ⟨b2, off2 + k, none⟩ = some (.string (mk8 v)) := hc2 k _ (by simp [Ss, hv])
        have hi : (k : Int) < (n : Int) := by omega
        have HUV := Lib.hid (And.intro hu hv)
        clear hc hc2 hx hy hu hv hb
        by_cases huv : u = v
        · subst huv
          have HT2 : Hid (xs.take (k + 1) = ys.take (k + 1)) := by show _ = _; rw [List.take_add_one, List.take_add_one, HT.out, HUV.out.1, HUV.out.2]
          have hse : ((mk8 u).toList == (mk8 u).toList) = true := by simp
          clear HT
          go_wp2
          go_quiet (fail)
          go_wp2
          go_roundw
          case rel => exact ⟨k + 1, by omega, by go_num, HT2, hd.trans ⟨_, rfl⟩⟩
          case measure => simp [intOf]; omega
        · have hne : ¬ ((mk8 u).toList = (mk8 v).toList) := fun h => huv (by rw [toList_bs, toList_bs, bs_mk8, bs_mk8] at h; exact h)
          have hne2 : ((mk8 u).toList == (mk8 v).toList) = false := by simpa using hne
          have hF : decide (xs = ys) = false := by
            rw [decide_eq_false_iff_not]
            intro e
            have h1 := HUV.out.1
            rw [e, HUV.out.2] at h1
            injection h1 with h1
            exact huv h1.symm
          have HF : Hid (res = false) := HRES.out.trans hF
          clear hF huv HT
          go_wp2
          go_quiet (fail)
          go_wp2
          go_returns
          exact ⟨ret_bool HF.out.symm, hd.trans ⟨_, rfl⟩⟩
      · have hi : (n : Int) ≤ (k : Int) := by omega
        have hT : decide (xs = ys) = true := by
          have := HT.out
          rw [List.take_of_length_le (by rw [HXL.out]; omega), List.take_of_length_le (by rw [HYL.out]; omega)] at this
          simp [this]
        have HF : Hid (res = true) := HRES.out.trans hT
        clear hT HT hx hy
        go_wp2
        go_returns
        exact ⟨ret_bool HF.out.symm, hd⟩
  · have hF : decide (xs = ys) = false := by
      rw [decide_eq_false_iff_not]
      intro e
      rw [e, hyl] at hxl
      exact hnm hxl.symm
    have HF : Hid (res = false) := HRES.out.trans hF
    have hnn : ((n : Int) != (m : Int)) = true := by simp; omega
    have hnn2 : ((n : Int) == (m : Int)) = false := by simp; omega
    clear hF hxl hyl hnm
    go_enter Tryd.func20, Tryd.ntmps20
    go_wp2
    go_returns
    exact ⟨ret_bool HF.out.symm, ⟨0, rfl⟩⟩
end Go.Proofs.YthfakejhkbelhaaDoor
