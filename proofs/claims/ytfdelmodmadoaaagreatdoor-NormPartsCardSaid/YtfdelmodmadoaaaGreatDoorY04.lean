/- Slices of elements of k cells each (structs): what one reads as, and append. Over any program. The chapter's examples: true, whatever the world. Two lists that grow side by side. Keys that are characters, and pairs of them. A table of characters: New, Get. A table of characters: Set. The law on texts with a blank between them: true. The document's answer for bytes that a text tells: plain words. No program stands here. The document's answer for bytes that a text tells: the walk. -/
import Derived.Shelf.Strings.SlTrimAscii
import Derived.Shelf.Small.Wraps
import Derived.Shelf.Strings.Shaped
import Derived.Shelf.GgClosure.StringsRunes
import Derived.Shelf.Strings.SplitShaped
import Derived.Shelf.Strings.Explode
import Derived.Shelf.Strings.FieldsFuncGrows
import Derived.Test.YtfdelmodmadoaaaGreatDoorY03
set_option linter.unusedSimpArgs false
set_option linter.unusedVariables false
set_option maxRecDepth 20000
set_option maxHeartbeats 4000000
namespace Go.Proofs.YtfdelmodmadoaaaGreatDoor
section
open Go.RowKit
def RdK (w : World) (A : Option Addr) (n k : Nat) (xs : List Value) : Prop :=
 xs.length = n * k /\ (0 < n -> ∃ b off, A = some ⟨b, off, none⟩ /\ ∀ j u, xs[j]? = some u -> w.cell? ⟨b, off + j, none⟩ = some u)
section
variable {w w' : World} {A : Option Addr} {n k : Nat} {xs : List Value}
theorem RdK.nil (w : World) (A : Option Addr) : RdK w A 0 k [] := ⟨by simp, fun h => absurd h (by omega)⟩
theorem RdK.at_ (hk0 : 0 < k) (h : RdK w A n k xs) (hn : 0 < n) : ∃ b off, A = some ⟨b, off, none⟩ /\ b < w.heap.size /\ ∀ j u, xs[j]? = some u -> w.cell? ⟨b, off + j, none⟩ = some u := by
 obtain ⟨b, off, hA, hc⟩ := h.2 hn;refine ⟨b, off, hA, ?_, hc⟩;have hl := h.1;have hp : 0 < n * k := Nat.mul_pos hn hk0;have h0 := hc 0 _ (List.getElem?_eq_getElem (by omega));exact World.block_lt_of_cell? w _ h0
theorem RdK.below (hk0 : 0 < k) (h : RdK w A n k xs) (hb : Below w.heap.size w w') : RdK w' A n k xs := by
 refine ⟨h.1, fun hn => ?_⟩;obtain ⟨b, off, rfl, hl, hc⟩ := h.at_ hk0 hn;exact ⟨b, off, rfl, fun j u hu => (hb.cell hl).trans (hc j u hu)⟩
theorem RdK.new (w : World) (e : TypeId) (n : Nat) (l : List Value) (hl : l.length = n * k) : RdK (w.alloc (.cells l.toArray e)) (some ⟨w.heap.size, 0, none⟩) n k l := by
 refine ⟨hl, fun _ => ⟨_, _, rfl, fun j u hu => ?_⟩⟩;rw [World.cell?_alloc_at _ _ _ _ rfl];simpa using hu
theorem RdK.of_own {base : Nat} {e : TypeId} {v : Value} (h : w.ownsRow base e k v n xs) : ∃ A c, v = .slice A n c /\ n <= c /\ c <= maxLen /\ RdK w A n k xs := by
 have hl := h.1;rcases h.2 with ⟨rfl, rfl⟩ | ⟨g, cap, cur, rfl, _, hh, hn, hm, _, htake⟩
 ·exact ⟨none, 0, rfl, Nat.le_refl _, by unfold maxLen; omega, hl, fun hh => absurd hh (by omega)⟩
 ·refine ⟨_, cap, rfl, hn, hm, hl, fun _ => ⟨g, 0, rfl, fun j u hu => ?_⟩⟩;rw [Nat.zero_add, cell_of_row w g j cur e (0, 0) hh];rw [<- htake, List.getElem?_take] at hu;split at hu
  ·simpa using hu
  ·cases hu
end
structure ElemK (P : Program) (t e : TypeId) (z : Value) (k bytes : Nat) : Prop where
 ht : P.underlying t = some (.slice e)
 hi : (P.info? e).map (fun i => (i.zero, i.size, i.bytes)) = some (some z, k, bytes)
 hz : z.cells.size = k
 hk : 0 < k
section
variable {P : Program}
theorem zfo {w : World} {base : Nat} {e : TypeId} {v : Value} {n k : Nat} {xs : List Value} (h : w.ownsRow base e k v n xs) : ∃ A c, v = .slice A n c := by
 obtain ⟨A, c, rfl, _⟩ := RdK.of_own h;exact ⟨A, c, rfl⟩
theorem run_appK {t e : TypeId} {z : Value} {k bytes : Nat} (E : ElemK P t e z k bytes) (w : World) (ty : TypeId) (base : Nat)
  {v : Value} {n : Nat} {xs : List Value} (hown : w.ownsRow base e k v n xs) {A : Option Addr} {m c : Nat} {news : List Value} (hr : RdK w A m k news) (h1 : ∀ u ∈ news, u.oneCell' = true)
  (h63 : n + m <= 1099511627776) (hby : bytes <= 64) (hbase : base <= w.heap.size) :
  ∃ A' c' w', (Builtin.append_ #[t, t] ty #[v, .slice A m c]).run P w = .ok (.slice A' (n + m) c') w' /\ w'.ownsRow base e k (.slice A' (n + m) c') (n + m) (xs ++ news) /\ w.grownBy w' v.ownBlock /\
   ((Value.slice A' (n + m) c').ownBlock = v.ownBlock \/ (Value.slice A' (n + m) c').ownBlock = some w.heap.size) := by
 obtain ⟨i, hi, hz0, hz1, hz2⟩ := info_parts E.hi;have hb : (n + m) * bytes <= 140737488355328 := Nat.le_trans (Nat.mul_le_mul h63 hby) (by omega);have hml : n + m <= maxLen := by unfold maxLen; omega
 have fin : ∀ (ad : Addr), (∀ j u, news[j]? = some u -> w.cell? (ad.add j) = some u) -> ∃ A' c' w', (Builtin.append_ #[t, t] ty #[v, .slice (some ad) m c]).run P w = .ok (.slice A' (n + m) c') w' /\ w'.ownsRow base e k (.slice A' (n + m) c') (n + m) (xs ++ news) /\ w.grownBy w' v.ownBlock /\
   ((Value.slice A' (n + m) c').ownBlock = v.ownBlock \/ (Value.slice A' (n + m) c').ownBlock = some w.heap.size) := by
  intro ad had;obtain ⟨v', w', hrun, h2, h3, _, h5⟩ := run_append_own_at (P := P) w base t ty e i z k bytes E.ht hi hz0 hz1 hz2 E.hz E.hk v n xs hown ad m c news hr.1 had h1 hml hb hbase;obtain ⟨A', c', rfl⟩ := zfo h2;exact ⟨A', c', w', hrun, h2, h3, h5⟩
 rcases Nat.eq_zero_or_pos m with h0 | h0
 ·subst h0;have hn : news = [] := List.eq_nil_of_length_eq_zero (by rw [hr.1]; simp);subst hn
  cases A with
  | none =>
   obtain ⟨A', c', rfl⟩ := zfo hown;exact ⟨A', c', w, zd7 w base t ty e i k E.ht hi _ n xs hown c, by simpa using hown, World.grownBy.refl w _, .inl rfl⟩
  | some ad => exact fin ad (fun j u hu => by simp at hu)
 ·obtain ⟨b, off, rfl, hcell⟩ := hr.2 h0;exact fin ⟨b, off, none⟩ (fun j u hu => by rw [Addr.add_lit]; exact hcell j u hu)
theorem zgt {t e : TypeId} {z : Value} {k bytes : Nat} (E : ElemK P t e z k bytes) (w : World) {ops : Array Oper} {rest : List Oper} {o : Oper} {a : Act} {Q : Exit -> Act -> World -> Prop} (hgd : o.guard = none) (s x : Operand)
  (ho : o.op = .call { callee := .builtin .append, args := #[s, x], argTypes := #[t, t] }) (base : Nat)
  {v : Value} {n : Nat} {xs : List Value} (hs : a.eval s = v) (hown : w.ownsRow base e k v n xs) {A : Option Addr} {m c : Nat} {news : List Value} (hx : a.eval x = .slice A m c) (hr : RdK w A m k news) (h1 : ∀ u ∈ news, u.oneCell' = true)
  (h63 : n + m <= 1099511627776) (hby : bytes <= 64) (hbase : base <= w.heap.size)
  (h : ∀ A' c' w', w'.ownsRow base e k (.slice A' (n + m) c') (n + m) (xs ++ news) -> w.grownBy w' v.ownBlock ->
   ((Value.slice A' (n + m) c').ownBlock = v.ownBlock \/ (Value.slice A' (n + m) c').ownBlock = some w.heap.size) -> wpList P ops Q rest (a.put o.dst (.slice A' (n + m) c')) w') : wpList P ops Q (o :: rest) a w := by
 refine wpList_plain hgd fun K hK => ?_;obtain ⟨A', c', w', hrun, h2, h3, h4⟩ := run_appK E w o.type base hown (c := c) hr h1 h63 hby hbase;unfold Oper.wp execOp;simp only [ho, resolve, invoke, builtin, Sem.run_bind, Sem.run_pure, Result.andThen_ok, List.map_toArray, List.map_cons, List.map_nil, hs, hx, hrun];exact hK _ _ (h A' c' w' h2 h3 h4)
end
theorem zbb {w w' : World} {base k : Nat} {e : TypeId} {v : Value} {n : Nat} {xs : List Value} (h : w.ownsRow base e k v n xs) (hb : Below w.heap.size w w') : w'.ownsRow base e k v n xs := by
 refine ⟨h.1, ?_⟩;rcases h.2 with hn | ⟨g, cap, cur, hv, hg, hh, rest⟩
 ·exact .inl hn
 ·exact .inr ⟨g, cap, cur, hv, hg, (hb.block g (Array.getElem?_eq_some_iff.1 hh).1).trans hh, rest⟩
theorem zcs {w : World} {B B' k : Nat} {e : TypeId} {v : Value} {n : Nat} {xs : List Value} (h : w.ownsRow B e k v n xs) (hb : B' <= B) : w.ownsRow B' e k v n xs := by
 obtain ⟨h1, h2⟩ := h;refine ⟨h1, ?_⟩;rcases h2 with h2 | ⟨g, cap, cur, h2, h3, h4⟩
 ·exact .inl h2
 ·exact .inr ⟨g, cap, cur, h2, by omega, h4⟩
theorem zb4 {base b : Nat} {w0 w w' : World} {e : TypeId} {v : Value} {n k : Nat} {xs : List Value} (hb : Below b w0 w) (hB : b <= w.heap.size) (hbb : b <= base) (hown : w.ownsRow base e k v n xs) (hg : w.grownBy w' v.ownBlock) : Below b w0 w' :=
 hb.grown hg hB (fun j hj => Nat.le_trans hbb (hown.lt j hj).1)
end
section
open Go.RowKit
theorem own_at {w : World} {B k : Nat} {e : TypeId} {A : Option Addr} {c n : Nat} {xs : List Value} (h : w.ownsRow B e k (.slice A n c) n xs) (hn : 0 < n) :
  ∃ g, A = some ⟨g, 0, none⟩ /\ ∀ j u, xs[j]? = some u -> w.cell? ⟨g, j, none⟩ = some u := by
 rcases h.2 with ⟨_, h0⟩ | ⟨g, cap, cur, hv, _, hh, _, _, _, htake⟩
 ·omega
 ·injection hv with hA _ _;refine ⟨g, hA, fun j u hu => ?_⟩;rw [cell_of_row w g j cur e (0, 0) hh];rw [<- htake, List.getElem?_take] at hu;split at hu
  ·simpa using hu
  ·cases hu
end
section
open Go.RowKit
def Apart (u v : Value) : Prop := ∀ b, v.ownBlock = some b -> u.ownBlock ≠ some b
theorem Apart.symm {u v : Value} (h : Apart u v) : Apart v u := fun b hb hv => h b hv hb
theorem Apart.step {u u' v : Value} {H : Nat} (h : Apart u v) (hu : u'.ownBlock = u.ownBlock \/ u'.ownBlock = some H) (hv : ∀ b, v.ownBlock = some b -> b < H) : Apart u' v := by
 intro b hb hc;rcases hu with hu | hu
 ·exact h b hb (hu ▸ hc)
 ·rw [hu] at hc;injection hc with hc;have := hv b hb;omega
theorem zl4 {w : World} {base : Nat} {e : TypeId} {A : Option Addr} {c n : Nat} {xs : List Value} (h : w.ownsRow base e 1 (.slice A n c) n xs) (hA : A ≠ none) : ∃ g, A = some ⟨g, 0, none⟩ := by
 rcases h.2 with ⟨hh, _⟩ | ⟨g, cap, cur, hv, _⟩
 ·injection hh with hh _ _;exact absurd hh hA
 ·injection hv with h1 _ _;exact ⟨g, h1⟩
theorem zl1 {w : World} {base : Nat} {e : TypeId} {A : Option Addr} {c n m : Nat} {xs : List Value} (h : w.ownsRow base e 1 (.slice A n c) n xs) (hn : n = m + 1) : A ≠ none := by
 obtain ⟨g, hg, _⟩ := own_at h (by omega);rw [hg];simp
end
section
open Go.RowKit Go.Lib Go.Maps
abbrev runeV (x : Int) : Value := .int .i32 x
abbrev z7 (x : Int) : Lit := .int .i32 x
def R32 (x : Int) : Prop := -2147483648 <= x /\ x < 2147483648
theorem R32.wf {x : Int} (h : R32 x) : (Lit.int .i32 x).wf = true := by
 obtain ⟨h1, h2⟩ := h;exact WalkArith.wf_i32 ⟨h1, by omega⟩
theorem R32.of_wf {x : Int} (h : (Lit.int .i32 x).wf = true) : R32 x := by
 have := bounds_i32 h;unfold R32;omega
theorem runeB {P : Program} {K : TypeId} (hk : P.underlying K = some (.int .i32)) : KeyB P K runeV z7 R32 where
 keyed := int_keyed hk
 of := fun ha => keyOf_int_mk hk ha.wf
 inv := fun h => by
  obtain ⟨x, rfl, rfl, hw⟩ := Maps.keyOf_int_inv hk h;exact ⟨x, .of_wf hw, rfl, rfl⟩
 mkinj := fun h => by cases h; rfl
abbrev pairV (x : Int × Int) : Value := .agg #[.int .i32 x.1, .int .i32 x.2]
def zdm (x : Int × Int) : Lit := .string (keyBytes [.int .i32 x.1, .int .i32 x.2])
def R32P (x : Int × Int) : Prop := R32 x.1 /\ R32 x.2
theorem zio {P : Program} {K e : TypeId} {m : Nat} (A : WideMaps.ArrKey P K e 2) (he : P.underlying e = some (.int .i32)) (hsz : P.types.size = m + 1) (x : Int × Int) (hx : R32P x) : keyOf P K (pairV x) = some (zdm x) := by
 obtain ⟨h1, h2⟩ := hx;have hkt : P.keyType K = true := A.keyType ⟨m, hsz⟩;have hf : (pairV x).formed P K = true := by simp [Value.formed, A.hu, A.size]
 have hk : P.keyLits (P.types.size + 1) K (pairV x).cells.toList = some [.int .i32 x.1, .int .i32 x.2] := by
  rw [hsz];simp [Program.keyLits, A.hu, A.size, A.one, he, Value.cells, List.range_succ, h1.wf, h2.wf]
 unfold keyOf;rw [A.hu];simp only [hkt, hf, Bool.and_self, if_true];rw [hk];rfl
theorem keyOf_pair_inv {P : Program} {K e : TypeId} {m : Nat} (A : WideMaps.ArrKey P K e 2) (he : P.underlying e = some (.int .i32)) (hsz : P.types.size = m + 1) {v : Value} {l : Lit} (h : keyOf P K v = some l) : ∃ x, R32P x /\ v = pairV x /\ l = zdm x := by
 have h0 := h;unfold keyOf at h;rw [A.hu] at h;simp only [] at h;split at h
 ·rename_i hc;simp only [Bool.and_eq_true] at hc
  cases v <;> simp [Value.formed, A.hu] at hc
  rename_i cs;have hs : cs.size = 2 := by rw [hc.2, A.size]
  obtain ⟨a, b, rfl⟩ : ∃ a b, cs = #[a, b] := by
   rcases cs with ⟨l⟩;match l, hs with
   | [a, b], _ => exact ⟨a, b, rfl⟩
  rw [hsz] at h;simp [Program.keyLits, A.hu, A.size, A.one, he, Value.cells, List.range_succ] at h;obtain ⟨q1, n1, rfl⟩ : ∃ q n, a = .int q n := by cases a <;> simp at h; exact ⟨_, _, rfl⟩
  obtain ⟨q2, n2, rfl⟩ : ∃ q n, b = .int q n := by
   cases b <;> first | exact ⟨_, _, rfl⟩ | (exfalso; by_cases c1 : q1 = .i32 /\ (Lit.int .i32 n1).wf = true <;> simp [c1] at h)
  simp only [] at h
  by_cases c1 : q1 = .i32 /\ (Lit.int .i32 n1).wf = true
  ·by_cases c2 : q2 = .i32 /\ (Lit.int .i32 n2).wf = true
   ·obtain ⟨rfl, w1⟩ := c1;obtain ⟨rfl, w2⟩ := c2;refine ⟨(n1, n2), ⟨.of_wf w1, .of_wf w2⟩, rfl, ?_⟩;have := zio A he hsz (n1, n2) ⟨.of_wf w1, .of_wf w2⟩;rw [h0] at this;exact Option.some.inj this
   ·simp [c1, c2] at h
  ·simp [c1] at h
 ·cases h
theorem pairB {P : Program} {K e : TypeId} {m : Nat} (A : WideMaps.ArrKey P K e 2) (he : P.underlying e = some (.int .i32)) (hsz : P.types.size = m + 1) : KeyB P K pairV zdm R32P where
 keyed := Keyed.of_law A.law
 of := fun ha => zio A he hsz _ ha
 inv := fun h => keyOf_pair_inv A he hsz h
 mkinj := fun {a b} h => by
  obtain ⟨a1, a2⟩ := a;obtain ⟨b1, b2⟩ := b;simp at h;simp [h]
end
section
open Go.RowKit Go.Lib Go.Maps
theorem zi : KeyB Tryz.prog 21 runeV z7 R32 := runeB (by kernel_rfl)
theorem zdd : Tryz.prog.underlying 128 = some (.map 21 142) := by kernel_rfl
theorem zce : Tryz.prog.underlying 142 = some (.array 256 3) := by kernel_rfl
theorem zci (w : World) : (zeroValue 142).run Tryz.prog w = .ok (zfc fun _ => 0) w := by kernel_rfl
def TabAt (w : World) (tb mb n : Nat) (T : Int -> Int) : Prop :=
 w.heap[tb]? = some (.cells #[.int .i64 0, .map (some mb)] 130 (0, 0)) /\
 ∃ f, MapF w Tryz.prog 21 z7 R32 zfc mb n f /\ ∀ r, R32 r -> T r = if r < 0 then 0 else match f (r / 256) with | some g => g (r % 256).toNat | none => 0
theorem zgu (w : World) : Calls Tryz.prog 31 #[.int .i64 0] w fun e w' => e = .returned (.pointer (some ⟨w.heap.size + 1, 0, none⟩)) /\ TabAt w' (w.heap.size + 1) w.heap.size 0 (fun _ => 0) /\ Below w.heap.size w w' /\ w'.heap.size = w.heap.size + 2 := by
 have hmm := @run_makeMap Tryz.prog;go_enter Tryz.func31, Tryz.ntmps31;go_wp2;go_returns;have h1 : Below w.heap.size w (w.alloc (.map #[] 0)) := (Below.refl _ _).alloc (Nat.le_refl _) _;refine ⟨rfl, ⟨?_, fun _ => none, (MapF.made w _ _ _ _ _).alloc _, fun r _ => by simp⟩, h1.alloc (by simp) _, by simp⟩;have := heap_alloc_last (w.alloc (.map #[] 0)) (.cells #[.int .i64 0, .map (some w.heap.size)] 130);simpa using this
theorem zfx : (Tryz.prog.info? 142).map (·.size) = some 256 := by kernel_rfl
theorem zero_size : Tryz.zeroCells142.size = 256 := by kernel_rfl
theorem zef (w : World) (g : Nat -> Int) : (storeCells ⟨w.heap.size, 0, none⟩ (zn g) 0).run Tryz.prog (w.alloc (.cells Tryz.zeroCells142 142)) = .ok () (w.alloc (.cells (zn g).toArray 142)) := by
 have := run_storeCells_new (P := Tryz.prog) w 142 Tryz.zeroCells142 (zn g).toArray (by rw [zfx]; simp [zam]) (by rw [zero_size]; simp [zam]) (by simp [zfz]; exact fun x hx => zfz g x hx);simpa using this
theorem zk5 {r : Int} (h : R32 r) : wrap32 (r.tdiv 256) = r.tdiv 256 /\ R32 (r.tdiv 256) := by
 obtain ⟨h1, h2⟩ := h
 have h3 : r.tdiv 256 = r / 256 \/ r.tdiv 256 = -((-r) / 256) := by
  rcases Int.le_total 0 r with h | h
  ·exact .inl (Int.tdiv_eq_ediv_of_nonneg h)
  ·right;rw [<- Int.tdiv_eq_ediv_of_nonneg (by omega), Int.neg_tdiv, Int.neg_neg]
 unfold R32 wrap32;omega
theorem trieGet_any {w : World} {tb mb n : Nat} {T : Int -> Int} (h : TabAt w tb mb n T) (r : Int) (hr : R32 r) : Calls Tryz.prog 43 #[.pointer (some ⟨tb, 0, none⟩), .int .i32 r] w fun e w' => e = .returned (.int .i64 (T r)) /\ Below w.heap.size w w' := by
 obtain ⟨hb, f, hm, hT⟩ := h;have c0 : w.cell? ⟨tb, 0, none⟩ = some (.int .i64 0) := (by simp [World.cell?, hb]);have c1 : w.cell? ⟨tb, 0 + 1, none⟩ = some (.map (some mb)) := (by simp [World.cell?, hb]);have htl : tb < w.heap.size := (Array.getElem?_eq_some_iff.1 hb).1;have hst := zef w;have hsz := zam;have hTr := hT r hr;obtain ⟨hr1, hr2⟩ := hr;have hkk : R32 (wrap32 (r.tdiv 256)) := (by rw [(zk5 ⟨hr1, hr2⟩).1]; exact (zk5 ⟨hr1, hr2⟩).2);clear hT hb
 by_cases hn : r < 0
 ·have hT0 : T r = 0 := (by rw [hTr, if_pos hn]);clear hTr;rw [hT0];go_enter Tryz.func43, Tryz.ntmps43;go_wp2_with (first | (at_lookup; refine zx rfl _ _ rfl zi zdd (zci _) hm (k := wrap32 (r.tdiv 256)) hkk rfl rfl ?_) | go_in)
  go_returns;exact ⟨rfl, (Below.refl _ _).alloc (Nat.le_refl _) _⟩
 ·have hkd : wrap32 (r.tdiv 256) = r / 256 := (by rw [(zk5 ⟨hr1, hr2⟩).1, Int.tdiv_eq_ediv_of_nonneg (by omega)]);rw [hkd] at hkk;rw [if_neg hn] at hTr;have hge : 0 <= r := by omega
  cases hf : f (r / 256) with
  | none =>
   rw [hf] at hTr;have hT0 : T r = 0 := hTr;rw [hT0];clear hTr;go_enter Tryz.func43, Tryz.ntmps43;go_wp2_with (first | (at_lookup; refine zx rfl _ _ rfl zi zdd (zci _) hm (k := r / 256) hkk rfl (by rw [<- hkd]; rfl) ?_; rw [hf]) | go_in)
   go_returns;exact ⟨rfl, (Below.refl _ _).alloc (Nat.le_refl _) _⟩
  | some g =>
   rw [hf] at hTr;have hT0 : T r = g (r % 256).toNat := hTr;rw [hT0];clear hTr;have hm1 : wrap32 (r.tmod 256) = r % 256 := (by rw [Int.tmod_eq_emod_of_nonneg hge]; unfold wrap32; omega);have hm2 : (0 : Int) <= r % 256 := (by omega);have hm3 : (r % 256).toNat < 256 := (by omega);have hm4 : r % 256 < 256 := by omega
   have hc : (w.alloc (.cells (zn g).toArray 142)).cell? ⟨w.heap.size, (r % 256).toNat, none⟩ = some (.int .i64 (g (r % 256).toNat)) := by
    rw [cell_of_row _ _ _ (zn g).toArray 142 (0, 0) (heap_alloc_last w _)];simpa using zb8 g hm3
   go_enter Tryz.func43, Tryz.ntmps43;go_wp2_with (first | (at_lookup; refine zx rfl _ _ rfl zi zdd (zci _) hm (k := r / 256) hkk rfl (by rw [<- hkd]; rfl) ?_; rw [hf]) | go_in)
   go_returns;exact ⟨rfl, (Below.refl _ _).alloc (Nat.le_refl _) _⟩
end
section
open Go.RowKit Go.Lib Go.Maps
theorem blockC_set (g : Nat -> Int) (i : Nat) (v : Int) : (zn g).toArray.setIfInBounds i (.int .i64 v) = (zn fun k => if k = i then v else g k).toArray := by
 apply Array.ext_getElem?;intro k;rw [Array.getElem?_setIfInBounds];simp only [List.getElem?_toArray, List.size_toArray, zam]
 by_cases hk : k < 256
 ·rw [zb8 _ hk]
  by_cases h : i = k
  ·subst h;simp [hk, zb8]
  ·rw [if_neg h, zb8 _ hk, if_neg (fun e => h e.symm)]
 ·have hn : ∀ g, (zn g)[k]? = none := fun g => List.getElem?_eq_none (by rw [zam]; omega);rw [hn, hn];split
  ·split
   ·omega
   ·rfl
  ·rfl
theorem zf0 (g : Nat -> Int) : (zn g).toArray.all (·.oneCell') = true := by simp; exact fun x hx => zfz g x hx
theorem zero_cells : Tryz.zeroCells142 = (zn fun _ => 0).toArray := by kernel_rfl
theorem zfy {w : World} {b : Nat} {g : Nat -> Int} (h : w.heap[b]? = some (.cells (zn g).toArray 142 (0, 0))) {i : Nat} (hi : i < 256) : w.cell? ⟨b, i, none⟩ = some (.int .i64 (g i)) := by
 rw [cell_of_row _ _ _ (zn g).toArray 142 (0, 0) h];simpa using zb8 g hi
theorem zdu {w : World} {b : Nat} {g : Nat -> Int} (h : w.heap[b]? = some (.cells (zn g).toArray 142 (0, 0))) (i : Nat) : w.frozen? ⟨b, i, none⟩ = false := by simp [World.frozen?, h]
theorem zhx {w : World} {b : Nat} {g : Nat -> Int} (h : w.heap[b]? = some (.cells (zn g).toArray 142 (0, 0))) {i : Nat} (hi : i < 256) (v : Int) :
  (w.setCell ⟨b, i, none⟩ (.int .i64 v)).heap[b]? = some (.cells (zn fun k => if k = i then v else g k).toArray 142 (0, 0)) := by
 have hb := (Array.getElem?_eq_some_iff.1 h).1;simp [World.setCell, Array.getElem?_modify, h, blockC_set g i v]
theorem plain_any {w : World} {tb : Nat} (c0 : w.cell? ⟨tb, 0, none⟩ = some (.int .i64 0)) : Calls Tryz.prog 109 #[.pointer (some ⟨tb, 0, none⟩)] w fun e w' => e = .returned (.agg (zn fun _ => 0).toArray) /\ Below w.heap.size w w' := by
 have hz := zero_cells;have htl : tb < w.heap.size := World.block_lt_of_cell? w _ c0;have hb0 : Below w.heap.size w (w.alloc (.cells Tryz.zeroCells142 142)) := (Below.refl _ _).alloc (Nat.le_refl _) _;have hh0 : (w.alloc (.cells Tryz.zeroCells142 142)).heap[w.heap.size]? = some (.cells (zn fun _ => 0).toArray 142 (0, 0)) := (by rw [<- hz]; exact heap_alloc_last w _);clear hz;go_enter Tryz.func109, Tryz.ntmps109;go_wp2
 go_loopw [4] (fun i wr => ∃ k : Nat, k <= 256 /\ i = .int .i64 k /\ wr.heap[w.heap.size]? = some (.cells (zn fun _ => 0).toArray 142 (0, 0)) /\ Below w.heap.size w wr) (fun i _ => 256 - (intOf i).toNat)
 case atStart => exact ⟨0, Nat.zero_le _, rfl, hh0, hb0⟩
 case round =>
  obtain ⟨k, hk, rfl, hh, hb⟩ := hrel
  by_cases hlt : k < 256
  ·have hki : (k : Int) < 256 := (by omega);have hki0 : (0 : Int) <= (k : Int) := (by omega);have d0 : wr.cell? ⟨tb, 0, none⟩ = some (.int .i64 0) := (hb.cell (p := ⟨tb, 0, none⟩) htl).trans c0;have e0 := zfy hh hlt;have e1 := zdu hh k;have hh2 := zhx hh hlt 0;have hb2 : Below w.heap.size w (wr.setCell ⟨w.heap.size, k, none⟩ (.int .i64 0)) := hb.setCell (p := ⟨w.heap.size, k, none⟩) (Nat.le_refl _) _
   have hh3 : (wr.setCell ⟨w.heap.size, k, none⟩ (.int .i64 0)).heap[w.heap.size]? = some (.cells (zn fun _ => 0).toArray 142 (0, 0)) := by
    rw [hh2];congr 2;rw [zbe (h := fun _ => 0)];intro i hi;simp
   clear hh hh2 hb;go_wp2;go_roundw
   case rel => exact ⟨k + 1, by omega, by go_num, hh3, hb2⟩
   case measure => simp [intOf]; omega
  ·have hki : (256 : Int) <= (k : Int) := (by omega);have hsz : (zn fun _ => 0).toArray.size = 256 := (by simp [zam]);have hsz2 : (Tryz.prog.info? 142).map (·.size) = some (zn fun _ => 0).toArray.size := (by rw [hsz]; exact zfx);have hone : (zn fun _ => 0).toArray.all (·.oneCell') = true := zf0 _;have hb2 := setRow_below hb (b := w.heap.size) (Nat.le_refl _) (zn fun _ => 0).toArray;have hh2 := setRow_blk (c := (zn fun _ => 0).toArray) hh;go_wp2_with (first | (refine zar rfl rfl zce hsz2 hh rfl ?_) | (refine zc0 rfl rfl hsz2 rfl hone hh rfl rfl ?_) | go_in)
   have hrun := run_loadVar_row (P := Tryz.prog) _ w.heap.size 142 142 (zn fun _ => 0).toArray _ _ hh2 zce rfl hsz2;refine bodyPost_ret (v := .agg (zn fun _ => 0).toArray) ?_ rfl ⟨rfl, hb2⟩;simp [results, Tryz.f109, Act.put, asAddr, Sem.run_pure, Result.andThen, hrun]
end
section
open Go.RowKit
theorem zd8 {w : World} {B : Nat} {e : TypeId} {A : Option Addr} {n c : Nat} {xs : List Value} (h : w.ownsRow B e 1 (.slice A n c) n xs) : Rd w A n xs := by
 obtain ⟨A', c', e2, _, _, hr⟩ := Rd.of_own h;injection e2 with e2a _ _;subst e2a;exact hr
theorem zj8 {w : World} {B : Nat} {e : TypeId} {A : Option Addr} {n c : Nat} {xs : List Value} (h : w.ownsRow B e 1 (.slice A n c) n xs) : ∀ a, A = some a -> B <= a.block /\ a.block < w.heap.size := by
 intro a ha;subst ha;exact h.lt a.block rfl
end
section
open Go.RowKit
theorem zi7 : ∀ (p l : List UInt8), Lib.hasPrefix l p = true ↔ l.take p.length = p
 | [], l => by simp [Lib.hasPrefix]
 | a :: p, [] => by simp [Lib.hasPrefix]
 | a :: p, b :: l => by
  have ih := zi7 p l;simp only [Lib.hasPrefix] at ih;simp only [Lib.hasPrefix, List.isPrefixOf, Bool.and_eq_true, ih, List.length_cons, List.take_succ_cons, List.cons.injEq, beq_iff_eq];exact ⟨fun h => ⟨h.1.symm, h.2⟩, fun h => ⟨h.1.symm, h.2⟩⟩
end
section
open Go.RowKit
theorem zgi (s : ByteArray) (i : Int) (k : Nat) (hk : k < s.size) (h : i = (k : Int)) (w : World) : (Instr.index 9 (.string s) (.int .i64 i)).run Tryz.prog w = .ok (.int .u8 (s[k]'hk).toNat) w := by
 subst h;rw [run_index_string w 9 s .i64 k Tryz.underlying9, dif_pos ⟨by omega, by omega⟩];rfl
theorem slice_at (s : ByteArray) (i j : Int) (a b : Nat) (h1 : a <= b) (h2 : b <= s.size) (hi : i = (a : Int)) (hj : j = (b : Int)) (w : World) :
  (Instr.slice 9 (.string s) (some (.int .i64 i)) (some (.int .i64 j)) none).run Tryz.prog w = .ok (.string (s.extract a b)) w := by
 subst hi hj;exact run_slice_string w 9 s .i64 .i64 a b Tryz.underlying9 (by omega) (by omega) (by omega)
end
end Go.Proofs.YtfdelmodmadoaaaGreatDoor
