/- Slices of elements of k cells each (structs): what one reads as, and append. Over any program. The law on texts with a blank between them: true. -/
import Derived.Test.YtfdelmodmadoaaaGreatDoorG02
import Derived.Shelf.Strings.SlTrimAscii
import Derived.Lib.SpaceUEq
import Derived.Shelf.Small.Wraps
import Derived.Shelf.Strings.Shaped
import Derived.Shelf.GgClosure.StringsRunes
import Derived.Shelf.Strings.SplitShaped
import Derived.Shelf.Strings.Explode
import Derived.Shelf.Strings.FieldsFuncGrows
set_option linter.unusedSimpArgs false
set_option linter.unusedVariables false
set_option maxRecDepth 20000
set_option maxHeartbeats 4000000
namespace Go.Proofs.YtfdelmodmadoaaaGreatDoor
section
open Go.RowKit
def RdK (w : World) (A : Option Addr) (n k : Nat) (xs : List Value) : Prop :=
 xs.length = n * k /\ (0 < n -> ∃ b off, A = some ⟨b, off, none⟩ /\ ∀ j u, xs[j]? = some u -> w.cell? ⟨b, off + j, none⟩ = some u)
section
variable {w w' : World} {A : Option Addr} {n k : Nat} {xs : List Value}
theorem RdK.nil (w : World) (A : Option Addr) : RdK w A 0 k [] := ⟨by simp, fun h => absurd h (by omega)⟩
theorem RdK.at_ (hk0 : 0 < k) (h : RdK w A n k xs) (hn : 0 < n) : ∃ b off, A = some ⟨b, off, none⟩ /\ b < w.heap.size /\ ∀ j u, xs[j]? = some u -> w.cell? ⟨b, off + j, none⟩ = some u := by
 obtain ⟨b, off, hA, hc⟩ := h.2 hn;refine ⟨b, off, hA, ?_, hc⟩;have hl := h.1;have hp : 0 < n * k := Nat.mul_pos hn hk0;have h0 := hc 0 _ (List.getElem?_eq_getElem (by omega));exact World.block_lt_of_cell? w _ h0
theorem RdK.below (hk0 : 0 < k) (h : RdK w A n k xs) (hb : Below w.heap.size w w') : RdK w' A n k xs := by
 refine ⟨h.1, fun hn => ?_⟩;obtain ⟨b, off, rfl, hl, hc⟩ := h.at_ hk0 hn;exact ⟨b, off, rfl, fun j u hu => (hb.cell hl).trans (hc j u hu)⟩
theorem RdK.new (w : World) (e : TypeId) (n : Nat) (l : List Value) (hl : l.length = n * k) : RdK (w.alloc (.cells l.toArray e)) (some ⟨w.heap.size, 0, none⟩) n k l := by
 refine ⟨hl, fun _ => ⟨_, _, rfl, fun j u hu => ?_⟩⟩;rw [World.cell?_alloc_at _ _ _ _ rfl];simpa using hu
theorem RdK.of_own {base : Nat} {e : TypeId} {v : Value} (h : w.ownsRow base e k v n xs) : ∃ A c, v = .slice A n c /\ n <= c /\ c <= maxLen /\ RdK w A n k xs := by
 have hl := h.1;rcases h.2 with ⟨rfl, rfl⟩ | ⟨g, cap, cur, rfl, _, hh, hn, hm, _, htake⟩
 ·exact ⟨none, 0, rfl, Nat.le_refl _, by unfold maxLen; omega, hl, fun hh => absurd hh (by omega)⟩
 ·refine ⟨_, cap, rfl, hn, hm, hl, fun _ => ⟨g, 0, rfl, fun j u hu => ?_⟩⟩;rw [Nat.zero_add, cell_of_row w g j cur e (0, 0) hh];rw [<- htake, List.getElem?_take] at hu;split at hu
  ·simpa using hu
  ·cases hu
end
structure ElemK (P : Program) (t e : TypeId) (z : Value) (k bytes : Nat) : Prop where
 ht : P.underlying t = some (.slice e)
 hi : (P.info? e).map (fun i => (i.zero, i.size, i.bytes)) = some (some z, k, bytes)
 hz : z.cells.size = k
 hk : 0 < k
section
variable {P : Program}
theorem zdu {w : World} {base : Nat} {e : TypeId} {v : Value} {n k : Nat} {xs : List Value} (h : w.ownsRow base e k v n xs) : ∃ A c, v = .slice A n c := by
 obtain ⟨A, c, rfl, _⟩ := RdK.of_own h;exact ⟨A, c, rfl⟩
theorem run_appK {t e : TypeId} {z : Value} {k bytes : Nat} (E : ElemK P t e z k bytes) (w : World) (ty : TypeId) (base : Nat)
  {v : Value} {n : Nat} {xs : List Value} (hown : w.ownsRow base e k v n xs) {A : Option Addr} {m c : Nat} {news : List Value} (hr : RdK w A m k news) (h1 : ∀ u ∈ news, u.oneCell' = true)
  (h63 : n + m <= 1099511627776) (hby : bytes <= 64) (hbase : base <= w.heap.size) :
  ∃ A' c' w', (Builtin.append_ #[t, t] ty #[v, .slice A m c]).run P w = .ok (.slice A' (n + m) c') w' /\ w'.ownsRow base e k (.slice A' (n + m) c') (n + m) (xs ++ news) /\ w.grownBy w' v.ownBlock /\
   ((Value.slice A' (n + m) c').ownBlock = v.ownBlock \/ (Value.slice A' (n + m) c').ownBlock = some w.heap.size) := by
 obtain ⟨i, hi, hz0, hz1, hz2⟩ := info_parts E.hi;have hb : (n + m) * bytes <= 140737488355328 := Nat.le_trans (Nat.mul_le_mul h63 hby) (by omega);have hml : n + m <= maxLen := by unfold maxLen; omega
 have fin : ∀ (ad : Addr), (∀ j u, news[j]? = some u -> w.cell? (ad.add j) = some u) -> ∃ A' c' w', (Builtin.append_ #[t, t] ty #[v, .slice (some ad) m c]).run P w = .ok (.slice A' (n + m) c') w' /\ w'.ownsRow base e k (.slice A' (n + m) c') (n + m) (xs ++ news) /\ w.grownBy w' v.ownBlock /\
   ((Value.slice A' (n + m) c').ownBlock = v.ownBlock \/ (Value.slice A' (n + m) c').ownBlock = some w.heap.size) := by
  intro ad had;obtain ⟨v', w', hrun, h2, h3, _, h5⟩ := run_append_own_at (P := P) w base t ty e i z k bytes E.ht hi hz0 hz1 hz2 E.hz E.hk v n xs hown ad m c news hr.1 had h1 hml hb hbase;obtain ⟨A', c', rfl⟩ := zdu h2;exact ⟨A', c', w', hrun, h2, h3, h5⟩
 rcases Nat.eq_zero_or_pos m with h0 | h0
 ·subst h0;have hn : news = [] := List.eq_nil_of_length_eq_zero (by rw [hr.1]; simp);subst hn
  cases A with
  | none =>
   obtain ⟨A', c', rfl⟩ := zdu hown;exact ⟨A', c', w, zcv w base t ty e i k E.ht hi _ n xs hown c, by simpa using hown, World.grownBy.refl w _, .inl rfl⟩
  | some ad => exact fin ad (fun j u hu => by simp at hu)
 ·obtain ⟨b, off, rfl, hcell⟩ := hr.2 h0;exact fin ⟨b, off, none⟩ (fun j u hu => by rw [Addr.add_lit]; exact hcell j u hu)
theorem wpList_appK {t e : TypeId} {z : Value} {k bytes : Nat} (E : ElemK P t e z k bytes) (w : World) {ops : Array Oper} {rest : List Oper} {o : Oper} {a : Act} {Q : Exit -> Act -> World -> Prop} (hgd : o.guard = none) (s x : Operand)
  (ho : o.op = .call { callee := .builtin .append, args := #[s, x], argTypes := #[t, t] }) (base : Nat)
  {v : Value} {n : Nat} {xs : List Value} (hs : a.eval s = v) (hown : w.ownsRow base e k v n xs) {A : Option Addr} {m c : Nat} {news : List Value} (hx : a.eval x = .slice A m c) (hr : RdK w A m k news) (h1 : ∀ u ∈ news, u.oneCell' = true)
  (h63 : n + m <= 1099511627776) (hby : bytes <= 64) (hbase : base <= w.heap.size)
  (h : ∀ A' c' w', w'.ownsRow base e k (.slice A' (n + m) c') (n + m) (xs ++ news) -> w.grownBy w' v.ownBlock ->
   ((Value.slice A' (n + m) c').ownBlock = v.ownBlock \/ (Value.slice A' (n + m) c').ownBlock = some w.heap.size) -> wpList P ops Q rest (a.put o.dst (.slice A' (n + m) c')) w') : wpList P ops Q (o :: rest) a w := by
 refine wpList_plain hgd fun K hK => ?_;obtain ⟨A', c', w', hrun, h2, h3, h4⟩ := run_appK E w o.type base hown (c := c) hr h1 h63 hby hbase;unfold Oper.wp execOp;simp only [ho, resolve, invoke, builtin, Sem.run_bind, Sem.run_pure, Result.andThen_ok, List.map_toArray, List.map_cons, List.map_nil, hs, hx, hrun];exact hK _ _ (h A' c' w' h2 h3 h4)
end
theorem zbq {w w' : World} {base k : Nat} {e : TypeId} {v : Value} {n : Nat} {xs : List Value} (h : w.ownsRow base e k v n xs) (hb : Below w.heap.size w w') : w'.ownsRow base e k v n xs := by
 refine ⟨h.1, ?_⟩;rcases h.2 with hn | ⟨g, cap, cur, hv, hg, hh, rest⟩
 ·exact .inl hn
 ·exact .inr ⟨g, cap, cur, hv, hg, (hb.block g (Array.getElem?_eq_some_iff.1 hh).1).trans hh, rest⟩
theorem zdf {w : World} {B B' k : Nat} {e : TypeId} {v : Value} {n : Nat} {xs : List Value} (h : w.ownsRow B e k v n xs) (hb : B' <= B) : w.ownsRow B' e k v n xs := by
 obtain ⟨h1, h2⟩ := h;refine ⟨h1, ?_⟩;rcases h2 with h2 | ⟨g, cap, cur, h2, h3, h4⟩
 ·exact .inl h2
 ·exact .inr ⟨g, cap, cur, h2, by omega, h4⟩
theorem below_appK {base b : Nat} {w0 w w' : World} {e : TypeId} {v : Value} {n k : Nat} {xs : List Value} (hb : Below b w0 w) (hB : b <= w.heap.size) (hbb : b <= base) (hown : w.ownsRow base e k v n xs) (hg : w.grownBy w' v.ownBlock) : Below b w0 w' :=
 hb.grown hg hB (fun j hj => Nat.le_trans hbb (hown.lt j hj).1)
end
section
open Go.RowKit
theorem zgy {w : World} {B : Nat} {e : TypeId} {A : Option Addr} {n c : Nat} {xs : List Value} (h : w.ownsRow B e 1 (.slice A n c) n xs) : Rd w A n xs := by
 obtain ⟨A', c', e2, _, _, hr⟩ := Rd.of_own h;injection e2 with e2a _ _;subst e2a;exact hr
theorem zg6 {w : World} {B : Nat} {e : TypeId} {A : Option Addr} {n c : Nat} {xs : List Value} (h : w.ownsRow B e 1 (.slice A n c) n xs) : ∀ a, A = some a -> B <= a.block /\ a.block < w.heap.size := by
 intro a ha;subst ha;exact h.lt a.block rfl
end
end Go.Proofs.YtfdelmodmadoaaaGreatDoor
