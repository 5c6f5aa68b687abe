/- slices.ContainsFunc of characters. -/
import Derived.Test.YtagncjnbabdbmaaDoorUcdW
set_option linter.unusedSimpArgs false
set_option linter.unusedVariables false
namespace Go.Proofs.YtagncjnbabdbmaaDoor
open Go.RowKit

theorem indexf_any (g : FuncId) (cb : Array Value) (en : ∀ args w, (callFunc g args).run Tryd.prog w = .ok (.enter g args) w) (p : Int → Bool) (A : Option Addr) (n c : Nat) (zs : List Int) (w : World) (hr : Rd w A n (Rs zs)) (hn : n ≤ 1099511627776)
    (hp : ∀ x W, Below w.heap.size w W → Calls Tryd.prog g (#[.int .i32 x] ++ cb) W fun e W' => e = .returned (.bool (p x)) ∧ Below W.heap.size W W') :
    Calls Tryd.prog 87 #[.slice A n c, .func (.func g) #[] cb] w fun e w' => (∃ k : Int, e = .returned (.int .i64 k) ∧ decide (0 ≤ k) = zs.any p) ∧ Below w.heap.size w w' := by
  have hzl : zs.length = n := by have := hr.1; simpa [Rs] using this
  have HZL := Lib.hid hzl
  clear hzl
  have HP := Lib.hid hp
  clear hp
  go_enter Tryd.func87, Tryd.ntmps87
  go_wp2
  go_loopw [8] (fun i wr => ∃ k : Nat, k ≤ n ∧ i = .int .i64 k ∧ Hid ((zs.take k).any p = false) ∧ Below w.heap.size w wr) (fun i _ => n - (intOf i).toNat)
  case atStart => exact ⟨0, Nat.zero_le _, rfl, by show _ = _; rfl, Below.refl _ _⟩
  case round =>
    obtain ⟨k, hk, rfl, HA, hb⟩ := hrel
    by_cases hlt : k < n
    · obtain ⟨x, hx⟩ : ∃ x, zs[k]? = some x := ⟨_, List.getElem?_eq_getElem (by rw [HZL.out]; exact hlt)⟩
      obtain ⟨b, off, rfl, hbl, hc⟩ := (hr.below hb).at_ (by omega)
      have cx : wr.cell? ⟨b, off + k, none⟩ = some (.int .i32 x) := hc k _ (by simp [Rs, hx])
      have HC := HP.out x wr hb
      have HT : Hid ((zs.take (k + 1)).any p = p x) := by
        show _ = _
        rw [List.take_add_one, hx, List.any_append, HA.out]
        simp
      have hi : (k : Int) < (n : Int) := by omega
      clear hc hr hx
      cases hpx : p x
      · rw [hpx] at HC HT
        clear hpx
        go_wp2_with fail
        refine HC.mono ?_
        rintro e w1 ⟨rfl, hb1⟩
        have hb2 := below_then hb hb1
        go_wp2
        go_roundw
        case rel => exact ⟨k + 1, by omega, by go_num, HT, hb2⟩
        case measure => simp [intOf]; omega
      · have HZ : Hid (zs.any p = true) := by
          show _ = _
          rw [← List.take_append_drop (k + 1) zs, List.any_append, HT.out, hpx]
          rfl
        rw [hpx] at HC
        clear hpx HT
        go_wp2_with fail
        refine HC.mono ?_
        rintro e w1 ⟨rfl, hb1⟩
        have hb2 := below_then hb hb1
        go_wp2
        go_returns
        rw [HZ.out]
        exact ⟨⟨(k : Int), rfl, by simp⟩, hb2⟩
    · have hi : (n : Int) ≤ (k : Int) := by omega
      have HZ : Hid (zs.any p = false) := by
        show _ = _
        rw [← HA.out, List.take_of_length_le (by rw [HZL.out]; omega)]
      go_wp2
      go_returns
      rw [HZ.out]
      exact ⟨⟨-1, rfl, by decide⟩, hb⟩
theorem containsf_any (g : FuncId) (cb : Array Value) (en : ∀ args w, (callFunc g args).run Tryd.prog w = .ok (.enter g args) w) (p : Int → Bool) (A : Option Addr) (n c : Nat) (zs : List Int) (w : World) (hr : Rd w A n (Rs zs)) (hn : n ≤ 1099511627776)
    (hp : ∀ x W, Below w.heap.size w W → Calls Tryd.prog g (#[.int .i32 x] ++ cb) W fun e W' => e = .returned (.bool (p x)) ∧ Below W.heap.size W W') :
    Calls Tryd.prog 67 #[.slice A n c, .func (.func g) #[] cb] w fun e w' => e = .returned (.bool (zs.any p)) ∧ Below w.heap.size w w' := by
  have HI := indexf_any g cb en p A n c zs w hr hn hp
  clear hp hr
  go_enter Tryd.func67, Tryd.ntmps67
  go_wp2_with fail
  refine HI.mono ?_
  rintro e w1 ⟨⟨k, rfl, hk⟩, hb⟩
  have HK := Lib.hid hk
  clear hk HI
  go_wp2
  go_returns
  refine ⟨?_, hb⟩
  rw [← HK.out]
  rfl
/-- Between two characters. -/
def betw (a b x : Int) : Bool := decide (a ≤ x) && decide (x ≤ b)
theorem sets1_any (x a b : Int) (p q : Nat) (w : World) (ha : w.cell? ⟨p, 0, none⟩ = some (.int .i32 a)) (hb : w.cell? ⟨q, 0, none⟩ = some (.int .i32 b)) :
    Calls Tryd.prog 68 #[.int .i32 x, .pointer (some ⟨p, 0, none⟩), .pointer (some ⟨q, 0, none⟩)] w fun e w' => e = .returned (.bool (betw a b x)) ∧ w = w' := by
  by_cases h1 : a ≤ x
  · by_cases h2 : x ≤ b
    · go_enter Tryd.func68, Tryd.ntmps68
      go_wp2
      go_returns
      exact ⟨ret_bool (by simp [betw, h1, h2]), rfl⟩
    · have h3 : b < x := by omega
      go_enter Tryd.func68, Tryd.ntmps68
      go_wp2
      go_returns
      exact ⟨ret_bool (by simp [betw, h2]; try omega), rfl⟩
  · have h3 : x < a := by omega
    go_enter Tryd.func68, Tryd.ntmps68
    go_wp2
    go_returns
    exact ⟨ret_bool (by simp [betw, h1]; try omega), rfl⟩
end Go.Proofs.YtagncjnbabdbmaaDoor
