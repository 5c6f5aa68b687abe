/- Slices of elements of k cells each (structs): what one reads as, and append. Over any program. Lines of a text: the word, the document's answer, and the code's. -/
import Derived.Test.YtggichcfklbjiaaGreatDoorG02
import Derived.Test.YtggichcfklbjiaaGreatDoorG10
section
namespace Go.Proofs.YtggichcfklbjiaaGreatDoor
open Go.RowKit

/-- The slice of n elements of k cells at A reads as the cells xs. -/
def RdK (w : World) (A : Option Addr) (n k : Nat) (xs : List Value) : Prop :=
  xs.length = n * k ∧ (0 < n → ∃ b off, A = some ⟨b, off, none⟩ ∧ ∀ j u, xs[j]? = some u → w.cell? ⟨b, off + j, none⟩ = some u)
section
variable {w w' : World} {A : Option Addr} {n k : Nat} {xs : List Value}
theorem RdK.nil (w : World) (A : Option Addr) : RdK w A 0 k [] := ⟨by simp, fun h => absurd h (by omega)⟩
theorem RdK.at_ (hk0 : 0 < k) (h : RdK w A n k xs) (hn : 0 < n) : ∃ b off, A = some ⟨b, off, none⟩ ∧ b < w.heap.size ∧ ∀ j u, xs[j]? = some u → w.cell? ⟨b, off + j, none⟩ = some u := by
  obtain ⟨b, off, hA, hc⟩ := h.2 hn
  refine ⟨b, off, hA, ?_, hc⟩
  have hl := h.1
  have hp : 0 < n * k := Nat.mul_pos hn hk0
  have h0 := hc 0 _ (List.getElem?_eq_getElem (by omega))
  exact World.block_lt_of_cell? w _ h0
theorem RdK.below (hk0 : 0 < k) (h : RdK w A n k xs) (hb : Below w.heap.size w w') : RdK w' A n k xs := by
  refine ⟨h.1, fun hn => ?_⟩
  obtain ⟨b, off, rfl, hl, hc⟩ := h.at_ hk0 hn
  exact ⟨b, off, rfl, fun j u hu => (hb.cell hl).trans (hc j u hu)⟩
theorem RdK.new (w : World) (e : TypeId) (n : Nat) (l : List Value) (hl : l.length = n * k) : RdK (w.alloc (.cells l.toArray e)) (some ⟨w.heap.size, 0, none⟩) n k l := by
  refine ⟨hl, fun _ => ⟨_, _, rfl, fun j u hu => ?_⟩⟩
  rw [World.cell?_alloc_at _ _ _ _ rfl]
  simpa using hu
theorem RdK.of_own {base : Nat} {e : TypeId} {v : Value} (h : w.ownsRow base e k v n xs) : ∃ A c, v = .slice A n c ∧ n ≤ c ∧ c ≤ maxLen ∧ RdK w A n k xs := by
  have hl := h.1
  rcases h.2 with ⟨rfl, rfl⟩ | ⟨g, cap, cur, rfl, _, hh, hn, hm, _, htake⟩
  · exact ⟨none, 0, rfl, Nat.le_refl _, by unfold maxLen; omega, hl, fun hh => absurd hh (by omega)⟩
  · refine ⟨_, cap, rfl, hn, hm, hl, fun _ => ⟨g, 0, rfl, fun j u hu => ?_⟩⟩
    rw [Nat.zero_add, cell_of_row w g j cur e (0, 0) hh]
    rw [← htake, List.getElem?_take] at hu
    split at hu
    · simpa using hu
    · cases hu
end
structure ElemK (P : Program) (t e : TypeId) (z : Value) (k bytes : Nat) : Prop where
  ht : P.underlying t = some (.slice e)
  hi : (P.info? e).map (fun i => (i.zero, i.size, i.bytes)) = some (some z, k, bytes)
  hz : z.cells.size = k
  hk : 0 < k
section
variable {P : Program}
theorem own_shapeK {w : World} {base : Nat} {e : TypeId} {v : Value} {n k : Nat} {xs : List Value} (h : w.ownsRow base e k v n xs) : ∃ A c, v = .slice A n c := by
  obtain ⟨A, c, rfl, _⟩ := RdK.of_own h
  exact ⟨A, c, rfl⟩
theorem run_appK {t e : TypeId} {z : Value} {k bytes : Nat} (E : ElemK P t e z k bytes) (w : World) (ty : TypeId) (base : Nat)
    {v : Value} {n : Nat} {xs : List Value} (hown : w.ownsRow base e k v n xs) {A : Option Addr} {m c : Nat} {news : List Value} (hr : RdK w A m k news) (h1 : ∀ u ∈ news, u.oneCell' = true)
    (h63 : n + m ≤ 1099511627776) (hby : bytes ≤ 64) (hbase : base ≤ w.heap.size) :
    ∃ A' c' w', (Builtin.append_ #[t, t] ty #[v, .slice A m c]).run P w = .ok (.slice A' (n + m) c') w' ∧ w'.ownsRow base e k (.slice A' (n + m) c') (n + m) (xs ++ news) ∧ w.grownBy w' v.ownBlock ∧
      ((Value.slice A' (n + m) c').ownBlock = v.ownBlock ∨ (Value.slice A' (n + m) c').ownBlock = some w.heap.size) := by
  obtain ⟨i, hi, hz0, hz1, hz2⟩ := info_parts E.hi
  have hb : (n + m) * bytes ≤ 140737488355328 := Nat.le_trans (Nat.mul_le_mul h63 hby) (by omega)
  have hml : n + m ≤ maxLen := by unfold maxLen; omega
  have fin : ∀ (ad : Addr), (∀ j u, news[j]? = some u → w.cell? (ad.add j) = some u) → ∃ A' c' w', (Builtin.append_ #[t, t] ty #[v, .slice (some ad) m c]).run P w = .ok (.slice A' (n + m) c') w' ∧ w'.ownsRow base e k (.slice A' (n + m) c') (n + m) (xs ++ news) ∧ w.grownBy w' v.ownBlock ∧
      ((Value.slice A' (n + m) c').ownBlock = v.ownBlock ∨ (Value.slice A' (n + m) c').ownBlock = some w.heap.size) := by
    intro ad had
    obtain ⟨v', w', hrun, h2, h3, _, h5⟩ := run_append_own_at (P := P) w base t ty e i z k bytes E.ht hi hz0 hz1 hz2 E.hz E.hk v n xs hown ad m c news hr.1 had h1 hml hb hbase
    obtain ⟨A', c', rfl⟩ := own_shapeK h2
    exact ⟨A', c', w', hrun, h2, h3, h5⟩
  rcases Nat.eq_zero_or_pos m with h0 | h0
  · subst h0
    have hn : news = [] := List.eq_nil_of_length_eq_zero (by rw [hr.1]; simp)
    subst hn
    cases A with
    | none =>
      obtain ⟨A', c', rfl⟩ := own_shapeK hown
      exact ⟨A', c', w, run_append_nil w base t ty e i k E.ht hi _ n xs hown c, by simpa using hown, World.grownBy.refl w _, .inl rfl⟩
    | some ad => exact fin ad (fun j u hu => by simp at hu)
  · obtain ⟨b, off, rfl, hcell⟩ := hr.2 h0
    exact fin ⟨b, off, none⟩ (fun j u hu => by rw [Addr.add_lit]; exact hcell j u hu)

/-- 'out = append(out, ..)': out nil or the call's own; what is appended nil, empty or not. -/
theorem wpList_appK {t e : TypeId} {z : Value} {k bytes : Nat} (E : ElemK P t e z k bytes) (w : World) {ops : Array Oper} {rest : List Oper} {o : Oper} {a : Act} {Q : Exit → Act → World → Prop} (hgd : o.guard = none) (s x : Operand)
    (ho : o.op = .call { callee := .builtin .append, args := #[s, x], argTypes := #[t, t] }) (base : Nat)
    {v : Value} {n : Nat} {xs : List Value} (hs : a.eval s = v) (hown : w.ownsRow base e k v n xs) {A : Option Addr} {m c : Nat} {news : List Value} (hx : a.eval x = .slice A m c) (hr : RdK w A m k news) (h1 : ∀ u ∈ news, u.oneCell' = true)
    (h63 : n + m ≤ 1099511627776) (hby : bytes ≤ 64) (hbase : base ≤ w.heap.size)
    (h : ∀ A' c' w', w'.ownsRow base e k (.slice A' (n + m) c') (n + m) (xs ++ news) → w.grownBy w' v.ownBlock →
      ((Value.slice A' (n + m) c').ownBlock = v.ownBlock ∨ (Value.slice A' (n + m) c').ownBlock = some w.heap.size) → wpList P ops Q rest (a.put o.dst (.slice A' (n + m) c')) w') : wpList P ops Q (o :: rest) a w := by
  refine wpList_plain hgd fun K hK => ?_
  obtain ⟨A', c', w', hrun, h2, h3, h4⟩ := run_appK E w o.type base hown (c := c) hr h1 h63 hby hbase
  unfold Oper.wp execOp
  simp only [ho, resolve, invoke, builtin, Sem.run_bind, Sem.run_pure, Result.andThen_ok, List.map_toArray, List.map_cons, List.map_nil, hs, hx, hrun]
  exact hK _ _ (h A' c' w' h2 h3 h4)
end

theorem own_belowK {w w' : World} {base k : Nat} {e : TypeId} {v : Value} {n : Nat} {xs : List Value} (h : w.ownsRow base e k v n xs) (hb : Below w.heap.size w w') : w'.ownsRow base e k v n xs := by
  refine ⟨h.1, ?_⟩
  rcases h.2 with hn | ⟨g, cap, cur, hv, hg, hh, rest⟩
  · exact .inl hn
  · exact .inr ⟨g, cap, cur, hv, hg, (hb.block g (Array.getElem?_eq_some_iff.1 hh).1).trans hh, rest⟩
theorem own_baseK {w : World} {B B' k : Nat} {e : TypeId} {v : Value} {n : Nat} {xs : List Value} (h : w.ownsRow B e k v n xs) (hb : B' ≤ B) : w.ownsRow B' e k v n xs := by
  obtain ⟨h1, h2⟩ := h
  refine ⟨h1, ?_⟩
  rcases h2 with h2 | ⟨g, cap, cur, h2, h3, h4⟩
  · exact .inl h2
  · exact .inr ⟨g, cap, cur, h2, by omega, h4⟩
theorem below_appK {base b : Nat} {w0 w w' : World} {e : TypeId} {v : Value} {n k : Nat} {xs : List Value} (hb : Below b w0 w) (hB : b ≤ w.heap.size) (hbb : b ≤ base) (hown : w.ownsRow base e k v n xs) (hg : w.grownBy w' v.ownBlock) : Below b w0 w' :=
  hb.grown hg hB (fun j hj => Nat.le_trans hbb (hown.lt j hj).1)
end Go.Proofs.YtggichcfklbjiaaGreatDoor
end

section
set_option linter.unusedSimpArgs false
set_option linter.unusedVariables false
namespace Go.Proofs.YtggichcfklbjiaaGreatDoor
open Go.RowKit

/-- What a line tells: what stands ahead of the first #, bare. -/
def tellL (l : List UInt8) : List UInt8 := bareL (Lib.cut l [35]).1
theorem tellL_len (l : List UInt8) : (tellL l).length ≤ l.length := by
  have h1 := bareL_len (Lib.cut l [35]).1
  have h2 := (cut_le l [35]).1
  unfold tellL
  omega
def linesW : List (Int × List UInt8) → Nat → List (List UInt8) → List (Int × List UInt8) × Int
  | out, _, [] => (out, 0)
  | out, k, l :: ls => if 512 < l.length then ([], 10) else linesW (if tellL l = [] then out else out ++ [((k : Int) + 1, tellL l)]) (k + 1) ls
def linesS (s : List UInt8) : List (Int × List UInt8) × Int := if 4096 < (cutL 10 s).length then ([], 14) else linesW [] 0 (cutL 10 s)
theorem linesW_long {out : List (Int × List UInt8)} {k : Nat} {l : List UInt8} {ls : List (List UInt8)} (h : 512 < l.length) : linesW out k (l :: ls) = ([], 10) := by
  simp only [linesW]; rw [if_pos h]
theorem linesW_none {out : List (Int × List UInt8)} {k : Nat} {l : List UInt8} {ls : List (List UInt8)} (h : ¬ 512 < l.length) (ht : tellL l = []) : linesW out k (l :: ls) = linesW out (k + 1) ls := by
  simp only [linesW]; rw [if_neg h, if_pos ht]
theorem linesW_some {out : List (Int × List UInt8)} {k : Nat} {l : List UInt8} {ls : List (List UInt8)} (h : ¬ 512 < l.length) (ht : ¬ tellL l = []) : linesW out k (l :: ls) = linesW (out ++ [((k : Int) + 1, tellL l)]) (k + 1) ls := by
  simp only [linesW]; rw [if_neg h, if_neg ht]

/-- The cells of lines. -/
def Ls (os : List (Int × List UInt8)) : List Value := os.flatMap fun p => [Value.int .i64 p.1, Value.string (mk8 p.2)]
theorem Ls_length (os : List (Int × List UInt8)) : (Ls os).length = os.length * 2 := by
  induction os with
  | nil => rfl
  | cons x t ih => simp only [Ls, List.flatMap_cons, List.length_append, List.length_cons, List.length_nil] at ih ⊢; omega
theorem Ls_snoc (os : List (Int × List UInt8)) (p : Int × List UInt8) : Ls (os ++ [p]) = Ls os ++ [Value.int .i64 p.1, Value.string (mk8 p.2)] := by simp [Ls]
theorem Ls_at : ∀ (os : List (Int × List UInt8)) (i : Nat) (p : Int × List UInt8), os[i]? = some p → (Ls os)[i * 2]? = some (.int .i64 p.1) ∧ (Ls os)[i * 2 + 1]? = some (.string (mk8 p.2))
  | [], i, p, h => by simp at h
  | y :: t, 0, p, h => by
    simp at h
    subst h
    simp [Ls]
  | y :: t, i + 1, p, h => by
    have ih := Ls_at t i p (by simpa using h)
    have e : Ls (y :: t) = Value.int .i64 y.1 :: Value.string (mk8 y.2) :: Ls t := by simp [Ls]
    rw [e, show (i + 1) * 2 = i * 2 + 1 + 1 by omega, show i * 2 + 1 + 1 + 1 = (i * 2 + 1) + 1 + 1 by omega]
    simpa using ih
theorem two_of {n : Int} {s : ByteArray} : ∀ u ∈ [Value.int .i64 n, Value.string s], u.oneCell' = true := by
  intro u hu
  simp at hu
  rcases hu with rfl | rfl <;> rfl
theorem lineElem : ElemK Tryz.prog 84 96 (.agg #[.int .i64 0, .string ByteArray.empty]) 2 24 := ⟨Tryz.underlying84, by kernel_rfl, rfl, by omega⟩
/-- New lines, and what is wrong. -/
def FreshLE (T : TypeId) (w : World) (r : List (Int × List UInt8) × Int) (e : Ending) (w' : World) : Prop :=
  ∃ A c, e = .returned (.tuple #[.slice A r.1.length c, .int .i64 r.2]) ∧ w'.ownsRow w.heap.size T 2 (.slice A r.1.length c) r.1.length (Ls r.1) ∧ Below w.heap.size w w'
theorem FreshLE.rd {T : TypeId} {w w' : World} {r : List (Int × List UInt8) × Int} {e : Ending} (h : FreshLE T w r e w') : ∃ A c, e = .returned (.tuple #[.slice A r.1.length c, .int .i64 r.2]) ∧ RdK w' A r.1.length 2 (Ls r.1) ∧ Below w.heap.size w w' := by
  obtain ⟨A, c, he, hown, hb⟩ := h
  obtain ⟨A', c', e2, _, _, hr⟩ := RdK.of_own hown
  injection e2 with e2a _ _
  subst e2a
  exact ⟨A, c, he, hr, hb⟩

end Go.Proofs.YtggichcfklbjiaaGreatDoor
end
