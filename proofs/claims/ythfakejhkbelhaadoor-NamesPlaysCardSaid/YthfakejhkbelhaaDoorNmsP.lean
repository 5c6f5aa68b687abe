/- Registries, call by call: plain laws. No program stands here. -/
import Derived.Test.YthfakejhkbelhaaDoorNmsN
set_option linter.unusedSimpArgs false
set_option linter.unusedVariables false
namespace Go.Proofs.YthfakejhkbelhaaDoor
open Go.RowKit

def namesT (t : Thg) : List (List UInt8) := t.nm :: t.ot
def namesOf (L : List Thg) : List (List UInt8) := L.flatMap namesT
/-- All names may be, and no two are the same. -/
structure Reg1 (L : List Thg) : Prop where
  may : ∀ s ∈ namesOf L, mayS s = 0
  nd : ((namesOf L).map plainS).Nodup
def FewR (m : Nat) (L : List Thg) : Prop := L.length ≤ m ∧ ∀ t ∈ L, t.ot.length ≤ 10 * m
def opD (L : List Thg) (o : OpT) : List Thg × Int := opN L o.k o.x o.nm o.ot
def runN (L : List Thg) (l : List OpT) : List Thg := l.foldl (fun L o => (opD L o).1) L
theorem sameS_no {a b : List UInt8} (ha : mayS a = 0) (h : sameS a b = false) : plainS a ≠ plainS b := by
  intro e
  unfold sameS at h
  rw [decide_eq_false_iff_not] at h
  exact h ⟨plainS_neN ha, e⟩
theorem sameS_ne {a b : List UInt8} (h : plainS a ≠ plainS b) : sameS a b = false := by
  unfold sameS
  rw [decide_eq_false_iff_not]
  exact fun e => h e.2
theorem isS_all {s : List UInt8} {t : Thg} : isS s t = false ↔ ∀ a ∈ namesT t, sameS a s = false := by
  unfold isS namesT
  rw [Bool.or_eq_false_iff, List.any_eq_false]
  constructor
  · rintro ⟨h1, h2⟩ a ha
    rcases List.mem_cons.1 ha with rfl | ha
    · exact h1
    · simpa using h2 a ha
  · intro h
    exact ⟨h _ (by simp), fun a ha => by simpa using h a (by simp [ha])⟩
theorem atF_no {s : List UInt8} {L : List Thg} (h : atF s L = none) : ∀ t ∈ L, isS s t = false := by
  intro t ht
  cases hi : isS s t with
  | false => rfl
  | true =>
    obtain ⟨i, h2⟩ := atF_of ht hi
    rw [h] at h2
    cases h2
theorem atF_none_of {s : List UInt8} {L : List Thg} (h : ∀ a ∈ namesOf L, sameS a s = false) : atF s L = none :=
  atF_none fun t ht => isS_all.2 fun a ha => h a (List.mem_flatMap.2 ⟨t, ht, ha⟩)
theorem atF_names {s : List UInt8} {L : List Thg} (h : atF s L = none) : ∀ a ∈ namesOf L, sameS a s = false := by
  intro a ha
  obtain ⟨t, ht, ha⟩ := List.mem_flatMap.1 ha
  exact isS_all.1 (atF_no h t ht) a ha
theorem mayAll_is : ∀ {ns : List (List UInt8)}, mayAll ns = 0 → ∀ s ∈ ns, mayS s = 0
  | [], _, s, hs => by simp at hs
  | a :: t, h, s, hs => by
    unfold mayAll at h
    split at h
    · contradiction
    · rename_i h1
      rcases List.mem_cons.1 hs with rfl | hs
      · exact Decidable.not_not.1 h1
      · exact mayAll_is h s hs
theorem thereF_is {L : List Thg} : ∀ {ns pre : List (List UInt8)}, thereF L pre ns = false → (∀ s ∈ ns, atF s L = none ∧ ∀ p ∈ pre, sameS s p = false) ∧ ns.Pairwise fun a b => sameS b a = false
  | [], pre, _ => ⟨fun s hs => by simp at hs, List.Pairwise.nil⟩
  | s :: t, pre, h => by
    unfold thereF at h
    split at h
    · contradiction
    · rename_i h1
      have h2 : atF s L = none ∧ ∀ p ∈ pre, sameS s p = false := by
        refine ⟨?_, fun p hp => ?_⟩
        · cases ha : atF s L with
          | none => rfl
          | some i => exact absurd (.inl (by rw [ha]; rfl)) h1
        · cases hs : sameS s p with
          | false => rfl
          | true => exact absurd (.inr (List.any_eq_true.2 ⟨p, hp, hs⟩)) h1
      obtain ⟨i1, i2⟩ := thereF_is h
      refine ⟨fun u hu => ?_, List.Pairwise.cons (fun b hb => (i1 b hb).2 s (by simp)) i2⟩
      rcases List.mem_cons.1 hu with rfl | hu
      · exact h2
      · exact ⟨(i1 u hu).1, fun p hp => (i1 u hu).2 p (by simp [hp])⟩
theorem freshN_is {L : List Thg} {ns : List (List UInt8)} (h : freshN L ns = 0) : (∀ s ∈ ns, mayS s = 0) ∧ (∀ s ∈ ns, atF s L = none) ∧ ns.Pairwise fun a b => sameS b a = false := by
  unfold freshN at h
  split at h
  · contradiction
  · rename_i h1
    split at h
    · exact absurd h (by decide)
    · rename_i h2
      obtain ⟨i1, i2⟩ := thereF_is (by simpa using h2)
      exact ⟨mayAll_is (Decidable.not_not.1 h1), fun s hs => (i1 s hs).1, i2⟩
/-- New names join a registry's. -/
theorem reg1_join {L M : List Thg} {ns : List (List UInt8)} (h : Reg1 L) (hf : freshN L ns = 0) (hp : (namesOf L ++ ns).Perm (namesOf M)) : Reg1 M := by
  obtain ⟨f1, f2, f3⟩ := freshN_is hf
  refine ⟨fun s hs => ?_, ?_⟩
  · rcases List.mem_append.1 (hp.mem_iff.2 hs) with hs | hs
    · exact h.may s hs
    · exact f1 s hs
  · refine (hp.map plainS).nodup ?_
    rw [List.map_append, List.nodup_append]
    refine ⟨h.nd, ?_, ?_⟩
    · refine List.pairwise_map.2 ?_
      refine (List.pairwise_iff_forall_sublist.2 fun {a b} hs => ?_)
      have hm : a ∈ ns ∧ b ∈ ns := ⟨hs.subset (by simp), hs.subset (by simp)⟩
      have := List.pairwise_iff_forall_sublist.1 f3 hs
      exact fun e => sameS_no (f1 b hm.2) this e.symm
    · rintro a ha b hb rfl
      obtain ⟨u, hu, rfl⟩ := List.mem_map.1 ha
      obtain ⟨v, hv, e⟩ := List.mem_map.1 hb
      exact sameS_no (h.may u hu) (atF_names (f2 v hv) u hu) e.symm
theorem names_modify : ∀ (L : List Thg) (i : Nat) (ls : List (List UInt8)), i < L.length → (namesOf L ++ ls).Perm (namesOf (L.modify i fun t => { t with ot := t.ot ++ ls }))
  | [], i, ls, h => by simp at h
  | t :: L, 0, ls, _ => by
    show ((namesT t ++ namesOf L) ++ ls).Perm ((t.nm :: (t.ot ++ ls)) ++ namesOf L)
    have e : (t.nm :: (t.ot ++ ls)) ++ namesOf L = namesT t ++ (ls ++ namesOf L) := by simp [namesT]
    rw [e, List.append_assoc]
    exact List.Perm.append_left _ List.perm_append_comm
  | t :: L, i + 1, ls, h => by
    have ih := names_modify L i ls (by simp at h; omega)
    show ((namesT t ++ namesOf L) ++ ls).Perm (namesT t ++ namesOf (L.modify i fun t => { t with ot := t.ot ++ ls }))
    rw [List.append_assoc]
    exact List.Perm.append_left _ ih
theorem names_erase : ∀ (L : List Thg) (i : Nat) (t : Thg), L[i]? = some t → (namesT t ++ namesOf (L.eraseIdx i)).Perm (namesOf L)
  | [], i, t, h => by simp at h
  | u :: L, 0, t, h => by
    simp at h
    subst h
    exact List.Perm.refl _
  | u :: L, i + 1, t, h => by
    have ih := names_erase L i t (by simpa using h)
    show (namesT t ++ (namesT u ++ namesOf (L.eraseIdx i))).Perm (namesT u ++ namesOf L)
    refine List.Perm.trans ?_ (List.Perm.append_left _ ih)
    rw [← List.append_assoc, ← List.append_assoc]
    exact List.Perm.append_right _ List.perm_append_comm
theorem reg1_erase {L : List Thg} {i : Nat} {t : Thg} (h : Reg1 L) (hi : L[i]? = some t) : Reg1 (L.eraseIdx i) ∧ ∀ s ∈ namesT t, atF s (L.eraseIdx i) = none := by
  have hp := names_erase L i t hi
  have hn := (hp.map plainS).symm.nodup h.nd
  rw [List.map_append, List.nodup_append] at hn
  have hmay : ∀ s ∈ namesOf (L.eraseIdx i), mayS s = 0 := fun s hs => h.may s (hp.mem_iff.1 (List.mem_append.2 (.inr hs)))
  refine ⟨⟨hmay, hn.2.1⟩, fun s hs => atF_none_of fun a ha => sameS_ne fun e => ?_⟩
  exact hn.2.2 _ (List.mem_map_of_mem hs) _ (List.mem_map_of_mem ha) e.symm
theorem reg1_nil : Reg1 [] := ⟨fun s hs => by simp [namesOf] at hs, by simp [namesOf]⟩
theorem fewR_nil : FewR 0 [] := ⟨Nat.le_refl _, fun t ht => by simp at ht⟩
theorem opD_same {L : List Thg} {o : OpT} (h : (opD L o).2 ≠ 0) : (opD L o).1 = L := by
  unfold opD opN at *
  split
  · rename_i hk
    rw [if_pos hk] at h
    unfold addN at *
    split
    · rfl
    · rename_i h1
      rw [if_neg h1] at h
      split
      · rfl
      · rename_i h2
        rw [if_neg h2] at h
        exact absurd rfl h
  · rename_i hk
    rw [if_neg hk] at h
    split
    · rename_i h1
      rw [if_pos h1] at h
      unfold callN at *
      split
      · rfl
      · rename_i i ha
        rw [ha] at h
        simp only [] at h
        split
        · rfl
        · rename_i h2
          rw [if_neg h2] at h
          exact absurd rfl h
    · rename_i h1
      rw [if_neg h1] at h
      unfold dropN at *
      split
      · rfl
      · rename_i i ha
        rw [ha] at h
        exact absurd rfl h
theorem addN_yes {L : List Thg} {x : Int} {nm : List UInt8} {ot : List (List UInt8)} (h : (addN L x nm ot).2 = 0) : freshN L (nm :: ot) = 0 ∧ L.length ≠ 256 ∧ (addN L x nm ot).1 = L ++ [⟨x, nm, ot⟩] := by
  unfold addN at *
  split at h
  · contradiction
  · rename_i h1
    split at h
    · simp at h
    · rename_i h2
      refine ⟨Decidable.not_not.1 h1, h2, ?_⟩
      rw [if_neg h1, if_neg h2]
theorem callN_yes {L : List Thg} {nm : List UInt8} {ot : List (List UInt8)} (h : (callN L nm ot).2 = 0) : ∃ i, atF nm L = some i ∧ freshN L ot = 0 ∧ (callN L nm ot).1 = L.modify i fun t => { t with ot := t.ot ++ ot } := by
  unfold callN at *
  split at h
  · simp at h
  · rename_i i ha
    split at h
    · contradiction
    · rename_i h1
      refine ⟨i, ha, Decidable.not_not.1 h1, ?_⟩
      rw [if_neg h1]
theorem dropN_yes {L : List Thg} {nm : List UInt8} (h : (dropN L nm).2 = 0) : ∃ i, atF nm L = some i ∧ (dropN L nm).1 = L.eraseIdx i := by
  unfold dropN at *
  split at h
  · simp at h
  · rename_i i ha
    exact ⟨i, ha, rfl⟩
theorem reg1_op {L : List Thg} (h : Reg1 L) (o : OpT) : Reg1 (opD L o).1 := by
  by_cases h0 : (opD L o).2 = 0
  · unfold opD opN at *
    split at h0
    · rename_i hk
      rw [if_pos hk]
      obtain ⟨h1, _, h2⟩ := addN_yes h0
      rw [h2]
      refine reg1_join h h1 ?_
      simp [namesOf, namesT]
    · rename_i hk
      rw [if_neg hk]
      split at h0
      · rename_i hk2
        rw [if_pos hk2]
        obtain ⟨i, ha, h1, h2⟩ := callN_yes h0
        rw [h2]
        exact reg1_join h h1 (names_modify L i _ (atF_lt ha))
      · rename_i hk2
        rw [if_neg hk2]
        obtain ⟨i, ha, h2⟩ := dropN_yes h0
        rw [h2]
        exact (reg1_erase h (List.getElem?_eq_getElem (atF_lt ha))).1
  · rw [opD_same h0]
    exact h
theorem fewR_op {m : Nat} {L : List Thg} (h : FewR m L) (o : OpT) (ho : o.ot.length ≤ 10) : FewR (m + 1) (opD L o).1 := by
  have h' : FewR (m + 1) L := ⟨by have := h.1; omega, fun t ht => by have := h.2 t ht; omega⟩
  by_cases h0 : (opD L o).2 = 0
  · unfold opD opN at *
    split at h0
    · rename_i hk
      rw [if_pos hk]
      obtain ⟨h1, _, h2⟩ := addN_yes h0
      rw [h2]
      refine ⟨by have := h.1; rw [List.length_append, List.length_singleton]; omega, fun t ht => ?_⟩
      rcases List.mem_append.1 ht with ht | ht
      · exact h'.2 t ht
      · rw [List.mem_singleton] at ht
        subst ht
        show o.ot.length ≤ _
        omega
    · rename_i hk
      rw [if_neg hk]
      split at h0
      · rename_i hk2
        rw [if_pos hk2]
        obtain ⟨i, ha, h1, h2⟩ := callN_yes h0
        rw [h2]
        refine ⟨by rw [List.length_modify]; exact h'.1, fun t ht => ?_⟩
        obtain ⟨j, hj, rfl⟩ := List.getElem_of_mem ht
        rw [List.length_modify] at hj
        rw [List.getElem_modify]
        have hm := h.2 _ (List.getElem_mem hj)
        split
        · show (L[j].ot ++ o.ot).length ≤ _
          rw [List.length_append]
          omega
        · omega
      · rename_i hk2
        rw [if_neg hk2]
        obtain ⟨i, ha, h2⟩ := dropN_yes h0
        rw [h2]
        exact ⟨Nat.le_trans (List.length_eraseIdx_le _ _) h'.1, fun t ht => h'.2 t (List.mem_of_mem_eraseIdx ht)⟩
  · rw [opD_same h0]
    exact h'
theorem opD_grows {L : List Thg} {o : OpT} (hk : o.k = 0 ∨ o.k = 1) (h0 : (opD L o).2 = 0) : L.length ≤ (opD L o).1.length := by
  unfold opD opN at *
  split at h0
  · rename_i hk
    rw [if_pos hk, (addN_yes h0).2.2, List.length_append]
    omega
  · rename_i hk0
    rw [if_neg hk0]
    obtain hk1 : o.k = 1 := by omega
    rw [if_pos hk1] at h0 ⊢
    obtain ⟨i, _, _, h2⟩ := callN_yes h0
    rw [h2, List.length_modify]
    exact Nat.le_refl _
theorem good_of {m : Nat} {L : List Thg} (h : Reg1 L) (hf : FewR m L) (hm : m ≤ 1000) : Good L := fun t ht =>
  ⟨h.may _ (List.mem_flatMap.2 ⟨t, ht, by simp [namesT]⟩), by have := hf.2 t ht; omega, fun o ho => h.may _ (List.mem_flatMap.2 ⟨t, ht, by simp [namesT, ho]⟩)⟩
theorem runN_snoc {L : List Thg} {l : List OpT} {k : Nat} {o : OpT} (h : l[k]? = some o) : runN L (l.take (k + 1)) = (opD (runN L (l.take k)) o).1 := by
  unfold runN
  rw [List.take_add_one, h, List.foldl_append]
  rfl
theorem isS_new {x : Int} {s nm : List UInt8} {ot : List (List UInt8)} (hs : s ∈ nm :: ot) (hm : mayS s = 0) : isS s ⟨x, nm, ot⟩ = true := by
  unfold isS
  rw [Bool.or_eq_true]
  rcases List.mem_cons.1 hs with rfl | hs
  · exact .inl (sameS_selfN hm)
  · exact .inr (List.any_eq_true.2 ⟨s, hs, sameS_selfN hm⟩)
theorem add_at {L : List Thg} {x : Int} {nm : List UInt8} {ot : List (List UInt8)} (h : freshN L (nm :: ot) = 0) {s : List UInt8} (hs : s ∈ nm :: ot) : atF s (L ++ [⟨x, nm, ot⟩]) = some L.length := by
  obtain ⟨f1, f2, _⟩ := freshN_is h
  rw [atF_app _ (atF_no (f2 s hs))]
  unfold atF
  rw [if_pos (isS_new hs (f1 s hs))]
  simp
theorem add_drop {L : List Thg} {x : Int} {nm : List UInt8} {ot : List (List UInt8)} (h : freshN L (nm :: ot) = 0) {s : List UInt8} (hs : s ∈ nm :: ot) : dropN (L ++ [⟨x, nm, ot⟩]) s = (L, 0) := by
  unfold dropN
  rw [add_at h hs]
  simp only []
  rw [List.eraseIdx_append_of_length_le (Nat.le_refl _), Nat.sub_self]
  simp
end Go.Proofs.YthfakejhkbelhaaDoor
