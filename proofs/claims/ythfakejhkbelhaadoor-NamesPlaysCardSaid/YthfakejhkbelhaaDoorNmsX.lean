/- The document's answer of a call, and the things behind it: memory, and the code. -/
import Derived.Test.YthfakejhkbelhaaDoorNmsW
import Derived.Test.YthfakejhkbelhaaDoorWr
set_option linter.unusedSimpArgs false
set_option linter.unusedVariables false
namespace Go.Proofs.YthfakejhkbelhaaDoor
open Go.RowKit Go.Lib

/-- A list of things of its own; what else they are called stands elsewhere. -/
structure XAt (B : Nat) (w : World) (os : List TA) (A : Option Addr) (c : Nat) : Prop where
  own : w.ownsRow B 75 3 (.slice A os.length c) os.length (Ts os)
  ot : ∀ x ∈ os, Rd w x.2.1 x.1.ot.length (Ss x.1.ot)
  lt : ∀ x ∈ os, x.1.ot ≠ [] → ∀ a, x.2.1 = some a → a.block < w.heap.size
  apart : ∀ x ∈ os, x.1.ot ≠ [] → ∀ a, x.2.1 = some a → (Value.slice A os.length c).ownBlock ≠ some a.block
section
variable {B : Nat} {w w' : World} {os : List TA} {A : Option Addr} {c : Nat}
theorem ne_of_len {l : List (List UInt8)} (h : 0 < l.length) : l ≠ [] := fun e => by rw [e] at h; exact absurd h (Nat.lt_irrefl 0)
theorem own_wrote {k n : Nat} {e : TypeId} {v : Value} {xs : List Value} {S : Nat → Prop} (h : w.ownsRow B e k v n xs) (hw : Wrote S w w') (hn : ∀ g, v.ownBlock = some g → ¬ S g) : w'.ownsRow B e k v n xs := own_sameN h fun g hg => hw.block g (own_ltN h g hg) (hn g hg)
theorem XAt.wrote {S : Nat → Prop} (h : XAt B w os A c) (hw : Wrote S w w') (h1 : ∀ g, (Value.slice A os.length c).ownBlock = some g → ¬ S g) (h2 : ∀ x ∈ os, x.1.ot ≠ [] → ∀ a, x.2.1 = some a → ¬ S a.block) : XAt B w' os A c :=
  ⟨own_wrote h.own hw h1, fun x hx => (h.ot x hx).wrote hw (fun h0 => h2 x hx (ne_of_len h0)), fun x hx hn a ha => Nat.lt_of_lt_of_le (h.lt x hx hn a ha) hw.size, h.apart⟩
theorem XAt.below (h : XAt B w os A c) (hb : Below w.heap.size w w') : XAt B w' os A c := h.wrote (S := fun _ => False) (.of_below hb) (fun _ _ h => h) (fun _ _ _ _ _ h => h)
theorem XAt.rd (h : XAt B w os A c) : ThRd w A os := by
  refine ⟨?_, h.ot⟩
  obtain ⟨A', c', hv, _, _, hr⟩ := RdK.of_own h.own
  injection hv with h1 _ _
  subst h1
  exact hr
/-- What a call leaves of the list. -/
def XPost (B : Nat) (w : World) (os : List TA) (A : Option Addr) (c : Nat) (A2 : Addr → Prop) (L : List Thg) (w' : World) (os' : List TA) (A' : Option Addr) (c' : Nat) : Prop :=
  os'.map (·.1) = L ∧ XAt B w' os' A' c' ∧ Wrote (fun g => (Value.slice A os.length c).ownBlock = some g) w w' ∧
  (∀ g, (Value.slice A' os'.length c').ownBlock = some g → (Value.slice A os.length c).ownBlock = some g ∨ w.heap.size ≤ g) ∧
  (∀ x ∈ os', x.1.ot ≠ [] → ∀ a, x.2.1 = some a → (∃ y ∈ os, y.1.ot ≠ [] ∧ y.2.1 = some a) ∨ A2 a ∨ w.heap.size ≤ a.block)
theorem XPost.from_ {W : World} {A2 : Addr → Prop} {L : List Thg} {os' : List TA} {A' : Option Addr} {c' : Nat} (hb : Below w.heap.size w W) (h : XPost B W os A c A2 L w' os' A' c') : XPost B w os A c A2 L w' os' A' c' := by
  obtain ⟨h1, h2, h3, h4, h5⟩ := h
  have hz := hb.size
  refine ⟨h1, h2, (Wrote.of_below hb).trans h3, fun g hg => ?_, fun x hx hn a ha => ?_⟩
  · rcases h4 g hg with h | h
    · exact .inl h
    · exact .inr (by omega)
  · rcases h5 x hx hn a ha with h | h | h
    · exact .inl h
    · exact .inr (.inl h)
    · exact .inr (.inr (by omega))
theorem XPost.same {A2 : Addr → Prop} (h : XAt B w os A c) (hb : Below w.heap.size w w') : XPost B w os A c A2 (os.map (·.1)) w' os A c :=
  ⟨rfl, h.below hb, .of_below hb, fun g hg => .inl hg, fun x hx hn a ha => .inl ⟨x, hx, hn, ha⟩⟩
theorem x_app {A' : Option Addr} {c' : Nat} (h : XAt B w os A c) (x : TA) (hx : Rd w x.2.1 x.1.ot.length (Ss x.1.ot)) (hxB : x.1.ot ≠ [] → ∀ a, x.2.1 = some a → a.block < B) (hB : B ≤ w.heap.size)
    (hown : w'.ownsRow B 75 3 (.slice A' (os.length + 1) c') (os.length + 1) (Ts os ++ tC x)) (hg : w.grownBy w' (Value.slice A os.length c).ownBlock)
    (hat : (Value.slice A' (os.length + 1) c').ownBlock = (Value.slice A os.length c).ownBlock ∨ (Value.slice A' (os.length + 1) c').ownBlock = some w.heap.size) : XPost B w os A c (fun a => x.1.ot ≠ [] ∧ x.2.1 = some a) (os.map (·.1) ++ [x.1]) w' (os ++ [x]) A' c' := by
  have hw : Wrote (fun g => (Value.slice A os.length c).ownBlock = some g) w w' := Wrote.grown hg fun k hk => hk
  have hl : (os ++ [x]).length = os.length + 1 := by simp
  have hge : ∀ g, (Value.slice A os.length c).ownBlock = some g → B ≤ g := fun g hg => (own_blk h.own hg).1
  have hnot : ∀ y ∈ os ++ [x], y.1.ot ≠ [] → ∀ a, y.2.1 = some a → (Value.slice A os.length c).ownBlock ≠ some a.block ∧ a.block < w.heap.size := by
    intro y hy hn a ha
    rcases List.mem_append.1 hy with hy | hy
    · exact ⟨h.apart y hy hn a ha, h.lt y hy hn a ha⟩
    · rw [List.mem_singleton] at hy
      subst hy
      have := hxB hn a ha
      exact ⟨fun e => by have := hge _ e; omega, by omega⟩
  refine ⟨by simp, ⟨?_, fun y hy => ?_, fun y hy hn a ha => Nat.lt_of_lt_of_le (hnot y hy hn a ha).2 hw.size, fun y hy hn a ha => ?_⟩, hw, fun g hg => ?_, fun y hy hn a ha => ?_⟩
  · rw [hl, Ts_snoc]; exact hown
  · have : Rd w y.2.1 y.1.ot.length (Ss y.1.ot) := by
      rcases List.mem_append.1 hy with hy | hy
      · exact h.ot y hy
      · rw [List.mem_singleton] at hy; subst hy; exact hx
    exact this.wrote hw (fun h0 a ha => (hnot y hy (ne_of_len h0) a ha).1)
  · rw [hl]
    obtain ⟨n1, n2⟩ := hnot y hy hn a ha
    rcases hat with e | e
    · rw [e]; exact n1
    · rw [e]; intro e2; injection e2 with e2; omega
  · rw [hl] at hg
    rcases hat with e | e
    · rw [e] at hg; exact .inl hg
    · rw [e] at hg; injection hg with hg; exact .inr (by omega)
  · rcases List.mem_append.1 hy with hy | hy
    · exact .inl ⟨y, hy, hn, ha⟩
    · rw [List.mem_singleton] at hy; subst hy; exact .inr (.inl ⟨hn, ha⟩)
theorem x_drop {A' : Option Addr} {c' : Nat} (h : XAt B w os A c) (hB : B ≤ w.heap.size) (i : Nat) (hi : i < os.length) (A2 : Addr → Prop)
    (hown : w'.ownsRow w.heap.size 75 3 (.slice A' (os.length - 1) c') (os.length - 1) (Ts (os.eraseIdx i))) (hb : Below w.heap.size w w') : XPost B w os A c A2 ((os.map (·.1)).eraseIdx i) w' (os.eraseIdx i) A' c' := by
  have hl : (os.eraseIdx i).length = os.length - 1 := List.length_eraseIdx_of_lt hi
  have hge : ∀ g, (Value.slice A' (os.length - 1) c').ownBlock = some g → w.heap.size ≤ g := fun g hg => (own_blk hown hg).1
  refine ⟨by rw [List.eraseIdx_eq_take_drop_succ, List.eraseIdx_eq_take_drop_succ, List.map_append, List.map_take, List.map_drop], ⟨?_, fun y hy => (h.ot y (List.mem_of_mem_eraseIdx hy)).below hb, fun y hy hn a ha => Nat.lt_of_lt_of_le (h.lt y (List.mem_of_mem_eraseIdx hy) hn a ha) hb.size, fun y hy hn a ha e => ?_⟩, .of_below hb, fun g hg => ?_, fun y hy hn a ha => .inl ⟨y, List.mem_of_mem_eraseIdx hy, hn, ha⟩⟩
  · rw [hl]; exact own_baseK hown hB
  · rw [hl] at e
    have h1 := hge _ e
    have h2 := h.lt y (List.mem_of_mem_eraseIdx hy) hn a ha
    omega
  · rw [hl] at hg; exact .inr (hge g hg)
theorem x_call {A8 : Option Addr} {c8 i g : Nat} {x : TA} {ls : List (List UInt8)} {H N : Nat} (h : XAt B w os (some ⟨g, 0, none⟩) c) (hx : os[i]? = some x) (A2 : Addr → Prop) (hH : w.heap.size ≤ H)
    (hb : Below w.heap.size w w') (hN : N = (x.1.ot ++ ls).length)
    (hown : w'.ownsRow w.heap.size 9 1 (.slice A8 N c8) N (Ss (x.1.ot ++ ls))) :
    XPost B w os (some ⟨g, 0, none⟩) c A2 ((os.map (·.1)).modify i fun t => { t with ot := t.ot ++ ls }) (w'.setCell ⟨g, i * 3 + 2, none⟩ (.slice A8 N c8)) (os.set i ((⟨x.1.x, x.1.nm, x.1.ot ++ ls⟩ : Thg), A8, c8)) (some ⟨g, 0, none⟩) c := by
  subst hN
  obtain ⟨hi, he⟩ := List.getElem?_eq_some_iff.1 hx
  have hxm : x ∈ os := List.mem_of_getElem? hx
  have hob : (Value.slice (some ⟨g, 0, none⟩) os.length c).ownBlock = some g := rfl
  have hll : (os.set i ((⟨x.1.x, x.1.nm, x.1.ot ++ ls⟩ : Thg), A8, c8)).length = os.length := List.length_set
  have h' := h.below hb
  have hw : Wrote (fun b => (Value.slice (some ⟨g, 0, none⟩) os.length c).ownBlock = some b) w (w'.setCell ⟨g, i * 3 + 2, none⟩ (.slice A8 (x.1.ot ++ ls).length c8)) :=
    (Wrote.of_below hb).trans (Wrote.setCell (S := fun b => (Value.slice (some ⟨g, 0, none⟩) os.length c).ownBlock = some b) (p := ⟨g, i * 3 + 2, none⟩) (.inl rfl) _)
  have hw2 : Wrote (fun b => b = g) w' (w'.setCell ⟨g, i * 3 + 2, none⟩ (.slice A8 (x.1.ot ++ ls).length c8)) := Wrote.setCell (S := fun b => b = g) (p := ⟨g, i * 3 + 2, none⟩) (.inl rfl) _
  have hgl : g < w.heap.size := own_ltN h.own g hob
  have h8 : ∀ b, (Value.slice A8 (x.1.ot ++ ls).length c8).ownBlock = some b → w.heap.size ≤ b := fun b hb => (own_blk hown hb).1
  have hA8 : ∀ a, A8 = some a → w.heap.size ≤ a.block ∧ a.block < w'.heap.size := by
    intro a ha
    have e : (Value.slice A8 (x.1.ot ++ ls).length c8).ownBlock = some a.block := by
      rcases hown.2 with ⟨hh, _⟩ | ⟨g', cap, cur, hv, _⟩
      · rw [ha] at hh; cases hh
      · rw [ha] at hv ⊢
        injection hv with hv _ _
        injection hv with hv
        rw [hv]; rfl
    exact ⟨h8 _ e, own_ltN hown _ e⟩
  have hmem : ∀ y ∈ os.set i ((⟨x.1.x, x.1.nm, x.1.ot ++ ls⟩ : Thg), A8, c8), y = ((⟨x.1.x, x.1.nm, x.1.ot ++ ls⟩ : Thg), A8, c8) ∨ y ∈ os := fun y hy => by
    rcases List.mem_or_eq_of_mem_set hy with h | h
    · exact .inr h
    · exact .inl h
  have hz := hb.size
  refine ⟨?_, ⟨?_, fun y hy => ?_, fun y hy hn a ha => ?_, fun y hy hn a ha => ?_⟩, hw, fun b hb => ?_, fun y hy hn a ha => ?_⟩
  · apply List.ext_getElem?
    intro j
    rw [List.getElem?_map, List.getElem?_modify]
    by_cases hji : i = j
    · subst hji
      rw [List.getElem?_set_self hi, List.getElem?_map, hx]
      simp
    · rw [List.getElem?_set_ne hji, List.getElem?_map]
      simp [hji]
  · rw [hll, Ts_set os i x ((⟨x.1.x, x.1.nm, x.1.ot ++ ls⟩ : Thg), A8, c8) hx rfl rfl]
    exact own_setN h'.own (by omega) _
  · rcases hmem y hy with rfl | hy
    · obtain ⟨A9, c9, he, _, _, hrd⟩ := Rd.of_own hown
      injection he with he _ _
      subst he
      refine hrd.wrote hw2 fun _ a ha e => ?_
      have := (hA8 a ha).1
      omega
    · refine (h'.ot y hy).wrote hw2 fun h0 a ha e => ?_
      exact h.apart y hy (ne_of_len h0) a ha (by rw [hob, e])
  · rcases hmem y hy with rfl | hy
    · exact Nat.lt_of_lt_of_le (hA8 a ha).2 hw2.size
    · exact Nat.lt_of_lt_of_le (h.lt y hy hn a ha) hw.size
  · rw [hll, hob]
    rcases hmem y hy with rfl | hy
    · intro e; injection e with e; have := (hA8 a ha).1; omega
    · have := h.apart y hy hn a ha; rwa [hob] at this
  · rw [hll] at hb; exact .inl hb
  · rcases hmem y hy with rfl | hy
    · exact .inr (.inr (hA8 a ha).1)
    · exact .inl ⟨y, hy, hn, ha⟩
end
end Go.Proofs.YthfakejhkbelhaaDoor
