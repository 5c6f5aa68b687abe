/- slices.Values, gone through; the characters that a base knows. Maps of few keys; how many characters are not yet marked. Plain. -/
import Derived.Test.YtggichcfklbjiaaGreatDoorG26
section
set_option linter.unusedSimpArgs false
set_option linter.unusedVariables false
namespace Go.Proofs.YtggichcfklbjiaaGreatDoor
open Go.RowKit Go.Lib Go.Maps Go.Sort Go.Shelf
attribute [local go_sem] Oper.semAt_some

/-- The list's block stands. -/
def KpV (g : Nat) (W W' : World) : Prop := W.heap.size ≤ W'.heap.size ∧ W'.heap[g]? = W.heap[g]?
theorem KpV.refl (g : Nat) (W : World) : KpV g W W := ⟨Nat.le_refl _, rfl⟩
theorem KpV.trans {g : Nat} {A B C : World} (h : KpV g A B) (k : KpV g B C) : KpV g A C := ⟨Nat.le_trans h.1 k.1, k.2.trans h.2⟩
theorem KpV.put {g : Nat} {B : Nat} (hg : g < B) (W : World) (l : Nat) (o o' : Obj) (hl : B ≤ l) (_ : W.heap[l]? = some o) (_ : o.isCells = false) (_ : o.isWalk = false) : KpV g W (W.putObj l o') :=
  ⟨by simp [World.putObj], World.putObj_heap_other (by omega)⟩
theorem KpV.cell {g off : Nat} {W W' : World} (h : KpV g W W') : W'.cell? ⟨g, off, none⟩ = W.cell? ⟨g, off, none⟩ := World.cell?_of_block h.2
theorem KpV.of_below {g n : Nat} {W W' : World} (h : Below n W W') (hg : g < n) : KpV g W W' := ⟨h.size, h.block g hg⟩
set_option maxRecDepth 100000 in
set_option maxHeartbeats 4000000 in
theorem values1_in (F : Fence) (n : Nat) (hf : F.fn 57) (hro : F.round = none) (hn : 1 ≤ n) (l Bs b len cap : Nat) (ks : List Int) (hlen : ks.length = len) (hreach : len ≤ 100000000) (J Jx : List Int → World → Prop) (W : World)
    (hY : ∀ pre x W, J pre W → pre.length < len → YieldAt F (n - 1) Tryz.prog l #[runeV x] W fun e W' =>
      (e = .returned (.bool true) ∧ J (pre ++ [x]) W' ∧ KpV b W W') ∨ (e = .returned (.bool false) ∧ Jx (pre ++ [x]) W'))
    (hBs : W.cell? ⟨Bs, 0, none⟩ = some (.slice (some ⟨b, 0, none⟩) len cap)) (hc : ∀ j u, (Rs ks)[j]? = some u → W.cell? ⟨b, 0 + j, none⟩ = some u) (h0 : J [] W) :
    CallsIn F n Tryz.prog 57 #[.func (.yield l) #[] #[], .pointer (some ⟨Bs, 0, none⟩)] W fun e W' => (∃ v, e = .returned v) ∧
      ((∃ ys, ys = ks ∧ J ys W') ∨ (∃ pre, pre <+: ks ∧ Jx pre W')) := by
  refine callsIn_of_wp Tryz.func57 rfl hf ?_ hro
  simp only [Tryz.ntmps57, List.size_toArray, List.length_cons, List.length_nil, Nat.reduceAdd, Nat.reduceSub, Array.replicate_succ, Array.replicate_zero, List.push_toArray, List.append_toArray, List.nil_append, List.cons_append]
  gi_wp2
  gi_loopw [7] (fun i wr => ∃ k : Nat, k ≤ len ∧ i = .int .i64 k ∧ J (ks.take k) wr ∧ KpV b W wr)
    (fun i _ => len - (intOf i).toNat)
  case atStart => exact ⟨0, Nat.zero_le _, rfl, h0, KpV.refl _ _⟩
  case round =>
    obtain ⟨k, hk, rfl, hJs, hnx⟩ := hrel
    by_cases hlt : k < len
    · obtain ⟨x, hx⟩ : ∃ x, ks[k]? = some x := ⟨_, List.getElem?_eq_getElem (by omega)⟩
      have c0 : wr.cell? ⟨b, k, none⟩ = some (.int .i32 x) := by
        have := hnx.cell.trans (hc k (.int .i32 x) (by simp [Rs, hx]))
        simpa using this
      have hkk : (k : Int) < (len : Int) := by omega
      have hLk : ks.take (k + 1) = ks.take k ++ [x] := by rw [List.take_add_one]; simp [hx]
      have HLK := Lib.hid hLk
      have hll : (ks.take k).length < len := by rw [List.length_take]; omega
      have HX := Lib.hid (And.intro hx hll)
      obtain ⟨fn, tmps, assign, body, hy, hR⟩ := hY _ x _ hJs hll
      dsimp only [runeV] at hy
      clear hx hLk hc hll hY
      gi_wp2
      try rw [hy]
      gi_wp2
      refine hR.mono ?_
      rintro e W3 (⟨rfl, hJ3, hk3⟩ | ⟨rfl, hJx3⟩)
      · rw [← HLK.out] at hJ3
        have hn3 := hnx.trans hk3
        clear hk3 hnx hR hy
        gi_wp2
        go_roundw
        case rel => exact ⟨k + 1, by omega, by simp, hJ3, hn3⟩
        case measure => simp [intOf]; omega
      · rw [← HLK.out] at hJx3
        clear hnx hR hy
        gi_wp2
        refine bodyPost_ret (results_none rfl _ _ _) rfl ?_
        exact ⟨⟨_, rfl⟩, .inr ⟨_, List.take_prefix _ _, hJx3⟩⟩
    · obtain rfl : k = len := by omega
      have hki : (k : Int) ≤ (k : Int) := Int.le_refl _
      gi_wp2
      go_end0
      exact ⟨⟨_, rfl⟩, .inl ⟨_, rfl, by rwa [List.take_of_length_le (by omega)] at hJs⟩⟩
set_option maxRecDepth 100000 in
set_option maxHeartbeats 2000000 in
theorem values1_nil_in (F : Fence) (n : Nat) (hf : F.fn 57) (hro : F.round = none) (l Bs : Nat) (J : List Int → World → Prop) (W : World) (hBs : W.cell? ⟨Bs, 0, none⟩ = some (.slice none 0 0)) (h0 : J [] W) :
    CallsIn F n Tryz.prog 57 #[.func (.yield l) #[] #[], .pointer (some ⟨Bs, 0, none⟩)] W fun e W' => (∃ v, e = .returned v) ∧ J [] W' := by
  refine callsIn_of_wp Tryz.func57 rfl hf ?_ hro
  simp only [Tryz.ntmps57, List.size_toArray, List.length_cons, List.length_nil, Nat.reduceAdd, Nat.reduceSub, Array.replicate_succ, Array.replicate_zero, List.push_toArray, List.append_toArray, List.nil_append, List.cons_append]
  gi_wp2
  gi_loopw [7] (fun p wr => p = .int .i64 0 ∧ J [] wr) (fun _ _ => 0)
  case atStart => exact ⟨rfl, h0⟩
  case round =>
    obtain ⟨rfl, hj⟩ := hrel
    gi_wp2
    go_end0
    exact ⟨⟨_, rfl⟩, hj⟩
/-- AN ITERATOR OVER A LIST OF CHARACTERS: block Bs boxes the list, which lies in block g. -/
def ItAt (w : World) (g Bs : Nat) (ks : List Int) : Prop :=
  Bs < w.heap.size ∧ ((ks = [] ∧ w.cell? ⟨Bs, 0, none⟩ = some (.slice none 0 0)) ∨ (g < w.heap.size ∧ ∃ cap, w.cell? ⟨Bs, 0, none⟩ = some (.slice (some ⟨g, 0, none⟩) ks.length cap) ∧ ∀ j u, (Rs ks)[j]? = some u → w.cell? ⟨g, 0 + j, none⟩ = some u))
theorem ItAt.below {w w' : World} {g Bs : Nat} {ks : List Int} (h : ItAt w g Bs ks) (hb : Below w.heap.size w w') : ItAt w' g Bs ks := by
  obtain ⟨h1, h2⟩ := h
  have hs := hb.size
  refine ⟨by omega, ?_⟩
  rcases h2 with ⟨e, h2⟩ | ⟨h2, cap, h3, h4⟩
  · exact .inl ⟨e, (hb.cell (p := ⟨Bs, 0, none⟩) h1).trans h2⟩
  · exact .inr ⟨by omega, cap, (hb.cell (p := ⟨Bs, 0, none⟩) h1).trans h3, fun j u hu => (hb.cell (p := ⟨g, 0 + j, none⟩) h2).trans (h4 j u hu)⟩
theorem values_stops (F : Fence) (n : Nat) (hf : F.fn 57) (hro : F.round = none) (hn : 1 ≤ n) (g Bs : Nat) (ks : List Int) (hreach : ks.length ≤ 100000000) (w : World) (h : ItAt w g Bs ks) :
    SeqStopsK F n Tryz.prog 57 #[.pointer (some ⟨Bs, 0, none⟩)] (fun x => #[runeV x]) (KpV g) (fun ys => ys = ks) (fun pre => pre <+: ks) ks.length w := fun l J Jx W hW hJa _ hY h0 => by
  obtain ⟨h1, h2⟩ := h
  rcases h2 with ⟨e, h2⟩ | ⟨h2, cap, h3, h4⟩
  · subst e
    exact (values1_nil_in F n hf hro l Bs J W ((hW.cell (p := ⟨Bs, 0, none⟩) h1).trans h2) h0).mono fun e W' ⟨he, hj⟩ => ⟨he, .inl ⟨_, rfl, hj⟩⟩
  · exact values1_in F n hf hro hn l Bs g ks.length cap ks rfl hreach J Jx W hY ((hW.cell (p := ⟨Bs, 0, none⟩) h1).trans h3) (fun j u hu => (hW.cell (p := ⟨g, 0 + j, none⟩) h2).trans (h4 j u hu)) h0
set_option maxHeartbeats 1000000 in
theorem values_any (A : Option Addr) (n c : Nat) (w : World) :
    Calls Tryz.prog 29 #[.slice A n c] w fun e w' => e = .returned (.func (.func 57) #[] #[.pointer (some ⟨w.heap.size, 0, none⟩)]) ∧ w' = w.alloc (.cells #[.slice A n c] 33) := by
  go_enter Tryz.func29, Tryz.ntmps29
  go_wp2
  go_returns
  exact ⟨rfl, rfl⟩
/-- What Known answers: an iterator over all that are parted, rising. -/
def KnownP (prt : Int → Option (List UInt8 × List Int)) (n : Nat) (w : World) (e : Ending) (w' : World) : Prop :=
  ∃ g Bs ks, e = .returned (.func (.func 57) #[] #[.pointer (some ⟨Bs, 0, none⟩)]) ∧ ItAt w' g Bs ks ∧ AllKeys R32 prt ks ∧ ks.length ≤ n ∧ w.heap.size ≤ Bs ∧ w.heap.size ≤ g ∧ g < w'.heap.size ∧ Below w.heap.size w w'
section
variable {w : World} {bp n : Nat} {a : BAddr} {cls : Int → Int} {prt : Int → Option (List UInt8 × List Int)} {pr : Int × Int → Option Int} {md : Int → Option (Int × Int)} {sc : Int → Option Int}
set_option maxRecDepth 100000 in
set_option maxHeartbeats 4000000 in
theorem known_any (h : BaseM w bp a n cls prt pr md sc) (hn : n ≤ 1000000) : Calls Tryz.prog 10 #[.pointer (some ⟨bp, 0, none⟩)] w (KnownP prt n w) := by
  have c1 := box_cell h.box 1 rfl
  obtain ⟨f, hm, hp⟩ := h.prt
  have hsome : ∀ r, R32 r → (f r).isSome = (prt r).isSome := fun r hr => by
    have := hp r hr
    cases hf : f r <;> cases hq : prt r <;> rw [hf, hq] at this <;> first | rfl | exact this.elim
  have hbl := hm.lt
  refine (callsIn_wide (n := 6)).1 ?_
  have hro : Fence.wide.round = none := rfl
  have h1 : 1 ≤ 6 := by omega
  refine callsIn_of_wp Tryz.func10 rfl trivial ?_ hro
  simp only [Tryz.ntmps10, List.size_toArray, List.length_cons, List.length_nil, Nat.reduceAdd, Nat.reduceSub, Array.replicate_succ, Array.replicate_zero, List.push_toArray, List.append_toArray, List.nil_append, List.cons_append]
  have KY := keysP_any (some a.m1) w
  have ba : Below w.heap.size w (w.alloc (.cells #[.map (some a.m1)] 59)) := (Below.refl _ _).alloc (Nat.le_refl _) _
  have hg := keysP_gives Fence.wide (6 - 1 - 1 - 1 - 1) trivial rfl (by omega) w.heap.size a.m1 n f (w.alloc (.cells #[.map (some a.m1)] 59)) (by simp) (box_cell (box_new w _ _) 0 rfl) (hm.alloc _)
  have SO := sorted_in (6 - 1) (by omega) 59 #[.pointer (some ⟨w.heap.size, 0, none⟩)] (enters_of Tryz.func59 (by kernel_rfl) rfl) _ n (by unfold maxLen; omega) (by omega) _ hg
  clear hm hp hg h
  gi_wp2
  refine ⟨trivial, (callsIn_wide.2 KY).mono ?_⟩
  rintro e w' ⟨rfl, rfl⟩
  gi_wp2
  refine ⟨trivial, SO.mono ?_⟩
  rintro e w2 ⟨A, c, ss, rfl, hS, hown, hA, hle, hb2⟩
  gi_wp2
  refine ⟨trivial, (callsIn_wide.2 (values_any _ _ _ _)).mono ?_⟩
  rintro e w3 ⟨rfl, rfl⟩
  gi_wp2
  go_ret
  have hb3 : Below w.heap.size w w2 := below_then ba hb2
  have hs3 := hb3.size
  have hs2 := hb2.size
  simp only [World.size_alloc] at hs2
  have hbn : Below w.heap.size w (w2.alloc (.cells #[.slice A ss.length c] 33)) := hb3.alloc hs3 _
  have hcb : (w2.alloc (.cells #[.slice A ss.length c] 33)).cell? ⟨w2.heap.size, 0, none⟩ = some (.slice A ss.length c) := box_cell (box_new w2 _ _) 0 rfl
  have hall : AllKeys R32 prt (srt ss) := by
    refine ⟨(srt_perm ss).nodup_iff.2 hS.1, fun x => ?_⟩
    rw [(srt_perm ss).mem_iff, hS.2 x]
    constructor
    · rintro ⟨h1, h2⟩; exact ⟨h1, by rw [← hsome x h1]; exact h2⟩
    · rintro ⟨h1, h2⟩; exact ⟨h1, by rw [hsome x h1]; exact h2⟩
  have hl : (srt ss).length = ss.length := (srt_perm ss).length_eq
  rcases hown.2 with ⟨hv, hz⟩ | ⟨g, cap, cur, hv, hbase, hgb, r1, r2, r3, r4⟩
  · injection hv with e1 e2 e3
    subst e1 e3
    have hse : srt ss = [] := List.eq_nil_of_length_eq_zero (by omega)
    exact ⟨w2.heap.size, w2.heap.size, srt ss, rfl, ⟨by simp, .inl ⟨hse, by rw [hcb, hz]⟩⟩, hall, by omega, hs3, hs3, by simp, hbn⟩
  · injection hv with e1 e2 e3
    subst e1 e3
    have hgl := (Array.getElem?_eq_some_iff.1 hgb).1
    refine ⟨g, w2.heap.size, srt ss, rfl, ⟨by simp, .inr ⟨by simp; omega, _, by rw [hl]; exact hcb, fun j u hu => ?_⟩⟩, hall, by omega, hs3, by simp at hbase; omega, by simp; omega, hbn⟩
    obtain ⟨A2, c2, hv2, _, _, hr⟩ := Rd.of_own hown
    injection hv2 with i1 i2 i3
    have hj : j < (Rs (srt ss)).length := (List.getElem?_eq_some_iff.1 hu).1
    have hpos : 0 < ss.length := by rw [← hl]; simp [Rs] at hj; omega
    obtain ⟨b, off, he, hbl2, hcx⟩ := hr.at_ hpos
    rw [← i1] at he
    injection he with he
    injection he with he1 he2
    subst he1 he2
    exact (World.cell?_of_block (Below.heap_alloc w2 _ g hgl)).trans (hcx j u hu)
end
end Go.Proofs.YtggichcfklbjiaaGreatDoor
end

section
set_option linter.unusedSimpArgs false
set_option linter.unusedVariables false
namespace Go.Proofs.YtggichcfklbjiaaGreatDoor
open Go.RowKit Go.Lib Go.Maps

theorem nodup_le {β : Type} [DecidableEq β] {l m : List β} (h : l.Nodup) (hs : ∀ x ∈ l, x ∈ m) : l.length ≤ m.length := by
  induction l generalizing m with
  | nil => simp
  | cons a l ih =>
    rw [List.nodup_cons] at h
    have ha := hs a (List.mem_cons_self)
    have := ih (m := m.erase a) h.2 fun x hx => (List.mem_erase_of_ne (fun e => h.1 (by rw [← e]; exact hx))).2 (hs x (List.mem_cons_of_mem _ hx))
    rw [List.length_erase_of_mem ha] at this
    have hp : 0 < m.length := List.length_pos_of_mem ha
    simp
    omega
/-- A map holds no more entries than there are keys. -/
theorem MapF.tight {α β : Type} {P : Program} {K : TypeId} {mk : α → Value} {lit : α → Lit} {ok : α → Prop} {mkV : β → Value} {w : World} {b n : Nat} {f : α → Option β} (h : MapF w P K lit ok mkV b n f) (B : KeyB P K mk lit ok) {U : List α}
    (hU : ∀ a, ok a → (f a).isSome = true → a ∈ U) : MapF w P K lit ok mkV b U.length f := by
  obtain ⟨D, h, s⟩ := h
  obtain ⟨es0, hD0, hko⟩ := h.keysOf
  obtain ⟨es1, hD1, hpw⟩ := h.tidy B.keyed
  have hsz : Maps.size D ≤ U.length := by
    classical
    subst hD0
    injection hD1 with hD1
    subst hD1
    show es0.length ≤ U.length
    have hn : (es0.map (·.1)).Nodup := List.pairwise_map.2 hpw
    have := nodup_le (m := U.map lit) hn fun x hx => by
      obtain ⟨p, hp, rfl⟩ := List.mem_map.1 hx
      obtain ⟨v, hv⟩ := hko p hp
      obtain ⟨a, ha, _, hl⟩ := B.inv hv
      have hh : Maps.has (.map es0 : DataW Value) (lit a) = true := by
        rw [has_eq, List.any_eq_true]
        exact ⟨p, hp, by rw [hl]; exact WideAt.sameKey_self (B.keyed.key (B.of ha))⟩
      rw [(s a ha).1] at hh
      rw [hl]
      exact List.mem_map.2 ⟨a, hU a ha hh, rfl⟩
    simpa using this
  obtain ⟨es, clock, hb, F, hs, hD⟩ := h
  refine ⟨D, ⟨es, clock, hb, F, ?_, hD⟩, s⟩
  have : Maps.size D = es.size := by rw [hD]; simp [Maps.size, length_sorted]
  omega
/-- All characters. -/
@[irreducible] def allR : List Int := List.map Int.ofNat (List.range 1114112)
theorem allR_len : allR.length = 1114112 := by unfold allR; rw [List.length_map, List.length_range]
theorem mem_allR {x : Int} : x ∈ allR ↔ 0 ≤ x ∧ x < 1114112 := by
  unfold allR
  rw [List.mem_map]
  constructor
  · rintro ⟨n, hn, rfl⟩
    rw [List.mem_range] at hn
    simp only [Int.ofNat_eq_natCast]
    omega
  · rintro ⟨h1, h2⟩
    exact ⟨x.toNat, by rw [List.mem_range]; omega, by simp only [Int.ofNat_eq_natCast]; omega⟩
theorem allR_R {x : Int} (h : x ∈ allR) : R32 x := by
  rw [mem_allR] at h
  unfold R32
  omega
/-- What a map of numbers says. -/
def gd (f : Int → Option Int) (x : Int) : Int := (f x).getD 0
theorem gd_upd {f : Int → Option Int} {r x v : Int} : gd (upd f r (some v)) x = if x = r then v else gd f x := by
  unfold gd upd
  split <;> rfl
/-- How many characters are not marked. -/
def cntL (l : List Int) (f : Int → Option Int) : Nat := l.countP fun x => decide (gd f x = 0)
theorem cnt_le {f g : Int → Option Int} (h : ∀ x, gd g x = 0 → gd f x = 0) (l : List Int) : cntL l g ≤ cntL l f := by
  unfold cntL
  exact List.countP_mono_left fun x _ hx => by simp at hx ⊢; exact h x hx
theorem cnt_lt {f g : Int → Option Int} (h : ∀ x, gd g x = 0 → gd f x = 0) {r : Int} (h1 : gd f r = 0) (h2 : gd g r ≠ 0) : ∀ {l : List Int}, r ∈ l → cntL l g < cntL l f
  | [], hr => by cases hr
  | a :: l, hr => by
    have hle := cnt_le h l
    unfold cntL at hle ⊢
    rw [List.countP_cons, List.countP_cons]
    by_cases e : r = a
    · subst e
      rw [if_neg (by simpa using h2), if_pos (by simpa using h1)]
      omega
    · have ih := cnt_lt h h1 h2 (l := l) (by simpa [e] using hr)
      unfold cntL at ih
      by_cases hg : gd g a = 0
      · rw [if_pos (by simpa using hg), if_pos (by simpa using h a hg)]
        omega
      · rw [if_neg (by simpa using hg)]
        omega
/-- A mark is 0 or 1, and stands at a character alone. -/
def Marks (f : Int → Option Int) : Prop := (∀ x, gd f x = 0 ∨ gd f x = 1) ∧ ∀ x, R32 x → (f x).isSome = true → x ∈ allR
theorem Marks.upd {f : Int → Option Int} (h : Marks f) {r : Int} (hr : r ∈ allR) {v : Int} (hv : v = 0 ∨ v = 1) : Marks (upd f r (some v)) := by
  refine ⟨fun x => ?_, fun x hx hs => ?_⟩
  · rw [gd_upd]
    split
    · exact hv
    · exact h.1 x
  · unfold Go.Proofs.YtggichcfklbjiaaGreatDoor.upd at hs
    split at hs
    · rename_i e; rw [e]; exact hr
    · exact h.2 x hx hs
end Go.Proofs.YtggichcfklbjiaaGreatDoor
end
