/- A call that is asked: is it none too great? -/
import Derived.Test.YthfakejhkbelhaaDoorNamF
set_option linter.unusedSimpArgs false
set_option linter.unusedVariables false
namespace Go.Proofs.YthfakejhkbelhaaDoor
open Go.RowKit Go.Lib

/-- It returns yes or no. -/
def Told (w : World) (e : Ending) (w' : World) : Prop := ∃ t : Bool, e = .returned (.bool t) ∧ w = w'
set_option maxRecDepth 20000 in
set_option maxHeartbeats 2000000 in
theorem few_one (b : Nat) (k x : Int) (s : ByteArray) (A : Option Addr) (n c : Nat) (ss : List ByteArray) (w : World)
    (h0 : w.cell? ⟨b, 0, none⟩ = some (.int .i64 k)) (h1 : w.cell? ⟨b, 1, none⟩ = some (.int .i64 x)) (h2 : w.cell? ⟨b, 2, none⟩ = some (.string s)) (h3 : w.cell? ⟨b, 3, none⟩ = some (.slice A n c)) (hr : Rd w A n (ss.map Value.string)) :
    Calls Tryd.prog 15 #[.slice (some ⟨b, 0, none⟩) 1 1] w (Told w) := by
  have hl : ss.length = n := by have := hr.1; simpa using this
  by_cases hs : 100 < s.size
  · have hsi : (100 : Int) < (s.size : Int) := by omega
    clear hr hs
    go_enter Tryd.func15, Tryd.ntmps15
    go_wp2
    go_loop [3] (fun i => ∃ q : Nat, q ≤ 0 ∧ i = .int .i64 q) (fun i => 1 - (intOf i).toNat)
    case atStart => exact ⟨0, Nat.le_refl _, rfl⟩
    case round =>
      obtain ⟨q, hq, rfl⟩ := hrel
      obtain rfl : q = 0 := by omega
      go_wp2
      go_returns
      exact ⟨_, rfl, rfl⟩
  · have hsi : (s.size : Int) ≤ 100 := by omega
    by_cases hn : 10 < n
    · have hni : (10 : Int) < (n : Int) := by omega
      clear hr hs hn hl
      go_enter Tryd.func15, Tryd.ntmps15
      go_wp2
      go_loop [3] (fun i => ∃ q : Nat, q ≤ 0 ∧ i = .int .i64 q) (fun i => 1 - (intOf i).toNat)
      case atStart => exact ⟨0, Nat.le_refl _, rfl⟩
      case round =>
        obtain ⟨q, hq, rfl⟩ := hrel
        obtain rfl : q = 0 := by omega
        go_wp2
        go_returns
        exact ⟨_, rfl, rfl⟩
    · have hni : (n : Int) ≤ 10 := by omega
      have HL := Lib.hid hl
      clear hs hn hl
      go_enter Tryd.func15, Tryd.ntmps15
      go_wp2
      go_loop [3] (fun i => ∃ q : Nat, q ≤ 1 ∧ i = .int .i64 q) (fun i => 1 - (intOf i).toNat)
      case atStart => exact ⟨0, Nat.zero_le _, rfl⟩
      case round =>
        obtain ⟨q, hq, rfl⟩ := hrel
        by_cases hq0 : q = 0
        · subst hq0
          go_wp2
          go_loop [4] (fun j => ∃ m : Nat, m ≤ n ∧ j = .int .i64 m) (fun j => n - (intOf j).toNat)
          case atStart => exact ⟨0, Nat.zero_le _, rfl⟩
          case round =>
            obtain ⟨m, hm, rfl⟩ := hrel
            by_cases hmn : m < n
            · have hmi : (m : Int) < (n : Int) := by omega
              obtain ⟨g, off, rfl, hg, hcx⟩ := hr.at_ (by omega)
              obtain ⟨t, ht⟩ : ∃ t, ss[m]? = some t := ⟨_, List.getElem?_eq_getElem (by rw [HL.out]; exact hmn)⟩
              have hc := hcx m (.string t) (by simp [ht])
              clear hcx ht
              by_cases htz : 100 < t.size
              · have hti : (100 : Int) < (t.size : Int) := by omega
                clear htz
                go_wp2
                go_returns
                exact ⟨_, rfl, rfl⟩
              · have hti : (t.size : Int) ≤ 100 := by omega
                clear htz
                go_wp2
                go_round
                case rel => exact ⟨m + 1, by omega, by go_num⟩
                case measure => simp [intOf]; omega
            · have hmi : (n : Int) ≤ (m : Int) := by omega
              go_wp2
              go_round
              case rel => exact ⟨1, Nat.le_refl _, by go_num⟩
              case measure => simp [intOf]
        · obtain rfl : q = 1 := by omega
          clear hq0
          go_wp2
          go_returns
          exact ⟨_, rfl, rfl⟩
end Go.Proofs.YthfakejhkbelhaaDoor
