/- Rows of a file: reading them, whether two are one, and the chapter's examples. slices.ContainsFunc of characters. -/
import Derived.Test.YtagncjnbabdbmaaGreatDoorUcdO
import Derived.Test.YtagncjnbabdbmaaGreatDoorFldW
section
set_option linter.unusedSimpArgs false
set_option linter.unusedVariables false
namespace Go.Proofs.YtagncjnbabdbmaaGreatDoor
open Go.RowKit

/-- Rows that read so. -/
structure RowsRd (w : World) (A : Option Addr) (os : List RA) : Prop where
  cells : RdK w A os.length 7 (Vs os)
  into : ∀ x ∈ os, Rd w x.2.1 x.1.il.length (Rs x.1.il)
section
variable {w w' : World} {A : Option Addr} {os : List RA}
theorem RowsAt.rd {T : TypeId} {B c : Nat} (h : RowsAt T B w os A c) : RowsRd w A os := by
  refine ⟨?_, fun x hx => ?_⟩
  · obtain ⟨A', c', hv, _, _, hr⟩ := RdK.of_own h.own
    injection hv with h1 _ _
    subst h1
    exact hr
  · obtain ⟨A', c', hv, _, _, hr⟩ := Rd.of_own (h.into x hx)
    injection hv with h1 _ _
    subst h1
    exact hr
theorem RowsRd.below (h : RowsRd w A os) (hb : Below w.heap.size w w') : RowsRd w' A os := ⟨h.cells.below (by omega) hb, fun x hx => (h.into x hx).below hb⟩
theorem RowsRd.at_ (h : RowsRd w A os) (hn : 0 < os.length) : ∃ b off, A = some ⟨b, off, none⟩ ∧ b < w.heap.size ∧ ∀ j u, (Vs os)[j]? = some u → w.cell? ⟨b, off + j, none⟩ = some u := h.cells.at_ (by omega) hn
theorem row_cells {os : List RA} {k : Nat} {x : RowS} {Ax : Option Addr} {cx : Nat} (hx : os[k]? = some (x, Ax, cx)) {b off : Nat} (hc : ∀ j u, (Vs os)[j]? = some u → w.cell? ⟨b, off + j, none⟩ = some u) :
    w.cell? ⟨b, off + k * 7, none⟩ = some (.int .i32 x.fr) ∧ w.cell? ⟨b, off + k * 7 + 1, none⟩ = some (.int .i32 x.up) ∧ w.cell? ⟨b, off + k * 7 + 2, none⟩ = some (.string (mk8 x.nm)) ∧ w.cell? ⟨b, off + k * 7 + 3, none⟩ = some (.string (mk8 x.ct)) ∧ w.cell? ⟨b, off + k * 7 + 4, none⟩ = some (.int .i64 x.cl) ∧ w.cell? ⟨b, off + k * 7 + 5, none⟩ = some (.string (mk8 x.kd)) ∧ w.cell? ⟨b, off + k * 7 + 6, none⟩ = some (.slice Ax x.il.length cx) := by
  have hv := Vs_at os k _ hx
  have g : ∀ j u, (rowC (x, Ax, cx))[j]? = some u → w.cell? ⟨b, off + k * 7 + j, none⟩ = some u := fun j u hu => by
    have := hc _ _ (hv j u hu)
    rwa [← Nat.add_assoc] at this
  exact ⟨g 0 _ rfl, g 1 _ rfl, g 2 _ rfl, g 3 _ rfl, g 4 _ rfl, g 5 _ rfl, g 6 _ rfl⟩
end
theorem str_eq_self (s : ByteArray) : (s == s) = true := by
  cases s with | mk a => show (a == a) = true; simp
set_option maxRecDepth 20000 in
set_option maxHeartbeats 4000000 in
def awr1 : RowS := ⟨201, 201, [69], [76, 117], 0, [], [69, 769]⟩
def awr2 : RowS := ⟨202, 202, [88], [76, 117], 0, [110, 111, 66, 114, 101, 97, 107], [32]⟩
theorem aw05 : rowsS (bs ⟨#[48, 48, 67, 57, 59, 69, 59, 76, 117, 59, 48, 59, 76, 59, 48, 48, 52, 53, 32, 48, 51, 48, 49, 10, 48, 48, 67, 65, 59, 88, 59, 76, 117, 59, 48, 59, 76, 59, 60, 110, 111, 66, 114, 101, 97, 107, 62, 32, 48, 48, 50, 48]⟩) = ([awr1, awr2], 0, 0) := by kernel_rfl
set_option maxRecDepth 20000 in
set_option maxHeartbeats 4000000 in
theorem awake5_any (w : World) (hE : Env w) :
    Calls Tryz.prog 4 #[] w fun e w' => e = .returned (.bool true) ∧ Below w.heap.size w w' := by
  have H1 := rows_any ⟨#[48, 48, 67, 57, 59, 69, 59, 76, 117, 59, 48, 59, 76, 59, 48, 48, 52, 53, 32, 48, 51, 48, 49, 10, 48, 48, 67, 65, 59, 88, 59, 76, 117, 59, 48, 59, 76, 59, 60, 110, 111, 66, 114, 101, 97, 107, 62, 32, 48, 48, 50, 48]⟩ w hE (by decide)
  rw [aw05] at H1
  go_enter Tryz.func4, Tryz.ntmps4
  go_wp2_with fail
  refine H1.mono ?_
  rintro e w1 ⟨os, A, c, hos, rfl, hr, hb⟩
  have hol : os.length = 2 := by have := congrArg List.length hos; simpa using this
  obtain ⟨⟨x, A1, c1⟩, ⟨y, A2, c2⟩, rfl⟩ : ∃ p q, os = [p, q] := by
    match os, hol with
    | [p, q], _ => exact ⟨p, q, rfl⟩
  simp only [List.map_cons, List.map_nil] at hos
  injection hos with h1 h2
  injection h2 with h2 _
  subst h1
  subst h2
  obtain ⟨g, rfl, hc⟩ := own_at hr.own (show 0 < 2 by decide)
  have hin := hr.rd.into _ (List.mem_cons_self)
  have k0 : w1.cell? ⟨g, 0, none⟩ = some (.int .i32 201) := hc 0 _ rfl
  have k4 : w1.cell? ⟨g, 4, none⟩ = some (.int .i64 0) := hc 4 _ rfl
  have k6 : w1.cell? ⟨g, 6, none⟩ = some (.slice A1 2 c1) := hc 6 _ rfl
  have k12 : w1.cell? ⟨g, 12, none⟩ = some (.string ⟨#[110, 111, 66, 114, 101, 97, 107]⟩) := hc 12 _ rfl
  have hin2 : Rd w1 A1 2 (Rs [69, 769]) := hin
  clear hc hin hr hol
  have HR : ∀ w' A' c', Below w1.heap.size w1 w' → Rd w' A' 2 (Rs [69, 769]) → Calls Tryz.prog 11 #[.slice A1 2 c1, .slice A' 2 c'] w' fun e w'' => e = .returned (.bool true) ∧ Drew w' w'' := fun w' A' c' hb' hr' => by
    have := runes_any A1 A' 2 2 c1 c' [69, 769] [69, 769] w' (hin2.below hb') hr' (by omega) (by omega)
    rwa [show decide (([69, 769] : List Int) = [69, 769]) = true from by simp] at this
  clear hin2
  have hb2 : ∀ o, Below w1.heap.size w1 (w1.alloc o) := fun o => (Below.refl _ _).alloc (Nat.le_refl _) _
  go_wp2_with fail
  refine (HR _ _ _ (hb2 _) (Rd.new _ _ [.int .i32 69, .int .i32 769])).mono ?_
  rintro e w2 ⟨rfl, hd⟩
  have hb3 := below_then hb ((hb2 _).trans (hd.below _))
  have hbW := (hb2 (.cells #[.int .i32 69, .int .i32 769] 21)).trans (hd.below _)
  have j12 := (hbW.cell (World.block_lt_of_cell? _ _ k12)).trans k12
  clear hd HR hb2 k0 k4 k6 k12 hbW
  go_wp2
  go_returns
  exact ⟨rfl, hb3⟩
end Go.Proofs.YtagncjnbabdbmaaGreatDoor
end

section
set_option linter.unusedSimpArgs false
set_option linter.unusedVariables false
namespace Go.Proofs.YtagncjnbabdbmaaGreatDoor
open Go.RowKit

theorem indexf_any (g : FuncId) (cb : Array Value) (en : ∀ args w, (callFunc g args).run Tryz.prog w = .ok (.enter g args) w) (p : Int → Bool) (A : Option Addr) (n c : Nat) (zs : List Int) (w : World) (hr : Rd w A n (Rs zs)) (hn : n ≤ 1099511627776)
    (hp : ∀ x W, Below w.heap.size w W → Calls Tryz.prog g (#[.int .i32 x] ++ cb) W fun e W' => e = .returned (.bool (p x)) ∧ Below W.heap.size W W') :
    Calls Tryz.prog 30 #[.slice A n c, .func (.func g) #[] cb] w fun e w' => (∃ k : Int, e = .returned (.int .i64 k) ∧ decide (0 ≤ k) = zs.any p) ∧ Below w.heap.size w w' := by
  have hzl : zs.length = n := by have := hr.1; simpa [Rs] using this
  have HZL := Lib.hid hzl
  clear hzl
  have HP := Lib.hid hp
  clear hp
  go_enter Tryz.func30, Tryz.ntmps30
  go_wp2
  go_loopw [8] (fun i wr => ∃ k : Nat, k ≤ n ∧ i = .int .i64 k ∧ Hid ((zs.take k).any p = false) ∧ Below w.heap.size w wr) (fun i _ => n - (intOf i).toNat)
  case atStart => exact ⟨0, Nat.zero_le _, rfl, by show _ = _; rfl, Below.refl _ _⟩
  case round =>
    obtain ⟨k, hk, rfl, HA, hb⟩ := hrel
    by_cases hlt : k < n
    · obtain ⟨x, hx⟩ : ∃ x, zs[k]? = some x := ⟨_, List.getElem?_eq_getElem (by rw [HZL.out]; exact hlt)⟩
      obtain ⟨b, off, rfl, hbl, hc⟩ := (hr.below hb).at_ (by omega)
      have cx : wr.cell? ⟨b, off + k, none⟩ = some (.int .i32 x) := hc k _ (by simp [Rs, hx])
      have HC := HP.out x wr hb
      have HT : Hid ((zs.take (k + 1)).any p = p x) := by
        show _ = _
        rw [List.take_add_one, hx, List.any_append, HA.out]
        simp
      have hi : (k : Int) < (n : Int) := by omega
      clear hc hr hx
      cases hpx : p x
      · rw [hpx] at HC HT
        clear hpx
        go_wp2_with fail
        refine HC.mono ?_
        rintro e w1 ⟨rfl, hb1⟩
        have hb2 := below_then hb hb1
        go_wp2
        go_roundw
        case rel => exact ⟨k + 1, by omega, by go_num, HT, hb2⟩
        case measure => simp [intOf]; omega
      · have HZ : Hid (zs.any p = true) := by
          show _ = _
          rw [← List.take_append_drop (k + 1) zs, List.any_append, HT.out, hpx]
          rfl
        rw [hpx] at HC
        clear hpx HT
        go_wp2_with fail
        refine HC.mono ?_
        rintro e w1 ⟨rfl, hb1⟩
        have hb2 := below_then hb hb1
        go_wp2
        go_returns
        rw [HZ.out]
        exact ⟨⟨(k : Int), rfl, by simp⟩, hb2⟩
    · have hi : (n : Int) ≤ (k : Int) := by omega
      have HZ : Hid (zs.any p = false) := by
        show _ = _
        rw [← HA.out, List.take_of_length_le (by rw [HZL.out]; omega)]
      go_wp2
      go_returns
      rw [HZ.out]
      exact ⟨⟨-1, rfl, by decide⟩, hb⟩
theorem containsf_any (g : FuncId) (cb : Array Value) (en : ∀ args w, (callFunc g args).run Tryz.prog w = .ok (.enter g args) w) (p : Int → Bool) (A : Option Addr) (n c : Nat) (zs : List Int) (w : World) (hr : Rd w A n (Rs zs)) (hn : n ≤ 1099511627776)
    (hp : ∀ x W, Below w.heap.size w W → Calls Tryz.prog g (#[.int .i32 x] ++ cb) W fun e W' => e = .returned (.bool (p x)) ∧ Below W.heap.size W W') :
    Calls Tryz.prog 13 #[.slice A n c, .func (.func g) #[] cb] w fun e w' => e = .returned (.bool (zs.any p)) ∧ Below w.heap.size w w' := by
  have HI := indexf_any g cb en p A n c zs w hr hn hp
  clear hp hr
  go_enter Tryz.func13, Tryz.ntmps13
  go_wp2_with fail
  refine HI.mono ?_
  rintro e w1 ⟨⟨k, rfl, hk⟩, hb⟩
  have HK := Lib.hid hk
  clear hk HI
  go_wp2
  go_returns
  refine ⟨?_, hb⟩
  rw [← HK.out]
  rfl
/-- Between two characters. -/
def betw (a b x : Int) : Bool := decide (a ≤ x) && decide (x ≤ b)
end Go.Proofs.YtagncjnbabdbmaaGreatDoor
end
