/- Small words that all walks of this seat share: worlds after draws, endings, slices that read as lists. No program stands here. Slices of one-cell elements: what one reads as, what a call owns, and append, in one form each. Over any program. Maps as functions from keys to what stands at them: one word for maps of whatever elements. What a call that writes to some blocks leaves: all others stand. Over any program. The contracts of numbers that digits tell: fields.digit, number, Hex, Number, api.Scalar, and the document's Digit, Hex, Number. Lists of strings in memory: what a call hands back. -/
import Derived.Deep.AppendLies
import Derived.BigQuiet
import Derived.Maps.OwnIn
import Derived.Test.YtolcabjkbefjgaaGreatDoorRows
import Derived.WalkSpells
import Derived.Test.YtolcabjkbefjgaaGreatDoorY01
set_option linter.unusedSimpArgs false
set_option linter.unusedVariables false
set_option maxRecDepth 20000
set_option maxHeartbeats 4000000
namespace Go.Proofs.YtolcabjkbefjgaaGreatDoor
section
open Go.RowKit
theorem hz0q {p : Prop} (h : p) : Hid p:=h
def Drew (w w' : World) : Prop:=∃ n,w' = w.drewN n
theorem Drew.refl (w : World) : Drew w w:=⟨0,rfl⟩
theorem Drew.trans {a b c : World} (h : Drew a b) (k : Drew b c) : Drew a c:=by
 obtain ⟨n,rfl⟩:=h;obtain ⟨m,rfl⟩:=k;exact ⟨n + m,by simp⟩
theorem Drew.to {w w' : World} (h : Drew w w') : Below w.heap.size w w':=by
 obtain ⟨n,rfl⟩:=h;exact ⟨rfl,rfl,rfl,Nat.le_refl _,fun _ _ => rfl⟩
theorem Drew.below {w w' : World} (h : Drew w w') (B : Nat) : Below B w w':=by
 obtain ⟨n,rfl⟩:=h;exact ⟨rfl,rfl,rfl,Nat.le_refl _,fun _ _ => rfl⟩
theorem zbn (w : World) (B n : Nat) : Below B w (w.drewN n):=⟨rfl,rfl,rfl,Nat.le_refl _,fun _ _ => rfl⟩
theorem zf {B : Nat} {a w : World} (h : Below B a w) (n : Nat) : Below B a (w.drewN n):=h.trans (zbn w B n)
theorem zb {a b c : World} (h : Below a.heap.size a b) (k : Below b.heap.size b c) : Below a.heap.size a c:=h.trans (k.mono h.size)
theorem zaa {a b : Int} {p q : Bool} (h : a = b) (h' : p = q) : Ending.returned (.tuple #[.int .i32 a,.bool p]) = .returned (.tuple #[.int .i32 b,.bool q]):=by rw [h,h']
theorem zko {a b a' b' : Int} {p q : Bool} (h1 : a = a') (h2 : b = b') (h3 : p = q) : Ending.returned (.tuple #[.int .i32 a,.int .i32 b,.bool p]) = .returned (.tuple #[.int .i32 a',.int .i32 b',.bool q]):=by rw [h1,h2,h3]
theorem zam {p q : Bool} (h : p = q) : Ending.returned (.bool p) = .returned (.bool q):=by rw [h]
theorem zct {a b : Int} (h : a = b) : Ending.returned (.int .i64 a) = .returned (.int .i64 b):=by rw [h]
theorem gA {α : Type} (l : List α) (i : Nat) (h : i < l.toArray.size) : l.toArray[i] = l[i]'h:=rfl
theorem gB {α : Type} (a : α) (l : List α) (i : Nat) (h : i + 1 < (a :: l).length) : (a :: l)[i + 1] = l[i]'(Nat.lt_of_succ_lt_succ h):=rfl
theorem gC {α : Type} (a : α) (l : List α) (h : 0 < (a :: l).length) : (a :: l)[0] = a:=rfl
theorem gD {α : Type} (l : List α) (i : Nat) (a : α) : l.toArray.setIfInBounds i a = (l.set i a).toArray:=List.setIfInBounds_toArray ..
theorem gE {α : Type} (a b : α) (l : List α) : (a :: l).set 0 b = b :: l:=rfl
theorem gF {α : Type} (a b : α) (l : List α) (n : Nat) : (a :: l).set (n + 1) b = a :: l.set n b:=rfl
section
variable {P : Program} {md : Region.Mode} {ops : Array Oper} {Q : Exit -> Act -> World -> Prop} {S : World -> Prop}
theorem tkH {oi : Oper} {fuel : Nat} {listed : Array Bool} {a : Act} {w : World} (i : Nat) (v : Value) (hi : ops[i]? = some oi) (hS : S w)
 (h : wpAnyH P md ops Q S fuel (listed.setIfInBounds i true) (a.put oi.dst v) w)
 (hs : Region.noSelect ops = true:=by kernel_rfl) (hf : Region.free md ops listed i = true:=by kernel_rfl) (hr : (Region.ready md ops listed).contains i = true:=by kernel_rfl)
 (hQ : ∀ c a w,Q (.panic c) (a.put oi.dst v) w -> Q (.panic c) a w:=by exact fun _ _ _ h => h)
 (hy : YieldsIf P ops S oi v a:=by
  refine Or.inl ⟨by kernel_rfl,?_⟩;intro w hSw;(try dsimp only at hSw)
  go_simp
  all_goals try with_reducible rfl) : wpAnyH P md ops Q S (fuel + 1) listed a w:=wpAnyH_take hi hs hf hr hQ hy hS h
theorem psH {oi : Oper} {fuel : Nat} {listed : Array Bool} {a : Act} {w : World} (i : Nat) (hi : ops[i]? = some oi) (hS : S w)
 (h : wpAnyH P md ops Q S fuel (listed.setIfInBounds i true) (a.put oi.dst undef) w)
 (hs : Region.noSelect ops = true:=by kernel_rfl) (hf : Region.free md ops listed i = true:=by kernel_rfl) (hr : (Region.ready md ops listed).contains i = true:=by kernel_rfl)
 (hQ : ∀ c a w,Q (.panic c) (a.put oi.dst undef) w -> Q (.panic c) a w:=by exact fun _ _ _ h => h)
 (hy : YieldsIf P ops S oi undef a:=by exact Or.inr ⟨by kernel_rfl,rfl⟩) : wpAnyH P md ops Q S (fuel + 1) listed a w:=wpAnyH_take hi hs hf hr hQ hy hS h
end
end
section
open Go.RowKit
def Rd (w : World) (A : Option Addr) (n : Nat) (xs : List Value) : Prop :=
 xs.length = n /\ (0 < n -> ∃ b off,A = some ⟨b,off,none⟩ /\ ∀ j u,xs[j]? = some u -> w.cell? ⟨b,off + j,none⟩ = some u)
section
variable {w w' : World} {A : Option Addr} {n : Nat} {xs : List Value}
theorem Rd.nil (w : World) (A : Option Addr) : Rd w A 0 []:=⟨rfl,fun h => absurd h (by omega)⟩
theorem Rd.at_ (h : Rd w A n xs) (hn : 0 < n) : ∃ b off,A = some ⟨b,off,none⟩ /\ b < w.heap.size /\ ∀ j u,xs[j]? = some u -> w.cell? ⟨b,off + j,none⟩ = some u:=by
 obtain ⟨b,off,hA,hc⟩:=h.2 hn;refine ⟨b,off,hA,?_,hc⟩;have hl:=h.1;have h0:=hc 0 _ (List.getElem?_eq_getElem (by omega));exact World.block_lt_of_cell? w _ h0
theorem Rd.keep (h : Rd w A n xs) (hk : ∀ p : Addr,p.block < w.heap.size -> (∀ a,A = some a -> p.block = a.block) -> w'.cell? p = w.cell? p) : Rd w' A n xs:=by
 refine ⟨h.1,fun hn => ?_⟩;obtain ⟨b,off,rfl,hb,hc⟩:=h.at_ hn;exact ⟨b,off,rfl,fun j u hu => (hk _ hb (fun a ha => by injection ha with ha; rw [<- ha])).trans (hc j u hu)⟩
theorem Rd.below (h : Rd w A n xs) (hb : Below w.heap.size w w') : Rd w' A n xs:=h.keep fun _ hp _ => hb.cell hp
theorem Rd.drewN (h : Rd w A n xs) (k : Nat) : Rd (w.drewN k) A n xs:=h.keep fun _ _ _ => rfl
theorem Rd.drewTo (h : Rd w A n xs) (hd : Drew w w') : Rd w' A n xs:=by
 obtain ⟨k,rfl⟩:=hd;exact h.drewN k
theorem Rd.new (w : World) (e : TypeId) (l : List Value) : Rd (w.alloc (.cells l.toArray e)) (some ⟨w.heap.size,0,none⟩) l.length l:=by
 refine ⟨rfl,fun _ => ⟨_,_,rfl,fun j u hu => ?_⟩⟩;rw [World.cell?_alloc_at _ _ _ _ rfl];simpa using hu
theorem Rd.new1 (w : World) (e : TypeId) (u : Value) : Rd (w.alloc (.cells #[u] e)) (some ⟨w.heap.size,0,none⟩) 1 [u]:=Rd.new w e [u]
theorem za7 {u : Value} (h : u.oneCell' = true) : ∀ x ∈ [u],x.oneCell' = true:=fun x hx => by
 rw [List.mem_singleton] at hx;rw [hx];exact h
theorem Rd.of_own {base : Nat} {e : TypeId} {v : Value} (h : w.ownsRow base e 1 v n xs) : ∃ A c,v = .slice A n c /\ n <= c /\ c <= maxLen /\ Rd w A n xs:=by
 have hl : xs.length = n:=(by have:=h.1; omega);rcases h.2 with ⟨rfl,rfl⟩ | ⟨g,cap,cur,rfl,_,hh,hn,hm,_,htake⟩
 ·exact ⟨none,0,rfl,Nat.le_refl _,by unfold maxLen; omega,hl,fun hh => absurd hh (by omega)⟩
 ·refine ⟨_,cap,rfl,hn,hm,hl,fun _ => ⟨g,0,rfl,fun j u hu => ?_⟩⟩;rw [Nat.zero_add,cell_of_row w g j cur e (0,0) hh];rw [<- htake,List.getElem?_take] at hu;split at hu
  ·simpa using hu
  ·cases hu
end
structure Elem (P : Program) (t e : TypeId) (z : Value) (bytes : Nat) : Prop where
 ht : P.underlying t = some (.slice e)
 hi : (P.info? e).map (fun i => (i.zero,i.size,i.bytes)) = some (some z,1,bytes)
 hz : z.cells.size = 1
section
variable {P : Program}
theorem zd4 (w : World) (base : Nat) (t ty e : TypeId) (i : TypeInfo) (size : Nat) (ht : P.underlying t = some (.slice e)) (hi : P.info? e = some i)
  (v : Value) (n : Nat) (xs : List Value) (hown : w.ownsRow base e size v n xs) (c : Nat) : (Builtin.append_ #[t,t] ty #[v,.slice none 0 c]).run P w = .ok v w:=by
 rcases hown.2 with ⟨rfl,rfl⟩ | ⟨g,cap,cur,rfl,_,_,hnc,_⟩
 ·simp [Builtin.append_,run_underlying ht,sizeOf,typeInfo,hi,Builtin.lenOf,Builtin.firstCells]
 ·simp [Builtin.append_,run_underlying ht,sizeOf,typeInfo,hi,Builtin.lenOf,Builtin.firstCells,hnc,storeCells]
theorem zbs {w : World} {base : Nat} {e : TypeId} {v : Value} {n : Nat} {xs : List Value} (h : w.ownsRow base e 1 v n xs) : ∃ A c,v = .slice A n c:=by
 obtain ⟨A,c,rfl,_⟩:=Rd.of_own h;exact ⟨A,c,rfl⟩
theorem zmo {t e : TypeId} {z : Value} {bytes : Nat} (E : Elem P t e z bytes) (w : World) (ty : TypeId) (base : Nat)
  {v : Value} {n : Nat} {xs : List Value} (hown : w.ownsRow base e 1 v n xs) {A : Option Addr} {m c : Nat} {news : List Value} (hr : Rd w A m news) (h1 : ∀ u ∈ news,u.oneCell' = true)
  (h63 : n + m <= 1099511627776) (hby : bytes <= 64) (hbase : base <= w.heap.size) :
  ∃ A' c' w',(Builtin.append_ #[t,t] ty #[v,.slice A m c]).run P w = .ok (.slice A' (n + m) c') w' /\ w'.ownsRow base e 1 (.slice A' (n + m) c') (n + m) (xs ++ news) /\ w.grownBy w' v.ownBlock /\
   ((Value.slice A' (n + m) c').ownBlock = v.ownBlock \/ (Value.slice A' (n + m) c').ownBlock = some w.heap.size):=by
 obtain ⟨i,hi,hz0,hz1,hz2⟩:=info_parts E.hi;have hb : (n + m) * bytes <= 140737488355328:=Nat.le_trans (Nat.mul_le_mul h63 hby) (by omega);have hml : n + m <= maxLen:=by unfold maxLen; omega
 have fin : ∀ (ad : Addr),(∀ j u,news[j]? = some u -> w.cell? (ad.add j) = some u) -> ∃ A' c' w',(Builtin.append_ #[t,t] ty #[v,.slice (some ad) m c]).run P w = .ok (.slice A' (n + m) c') w' /\ w'.ownsRow base e 1 (.slice A' (n + m) c') (n + m) (xs ++ news) /\ w.grownBy w' v.ownBlock /\
   ((Value.slice A' (n + m) c').ownBlock = v.ownBlock \/ (Value.slice A' (n + m) c').ownBlock = some w.heap.size):=by
  intro ad had;obtain ⟨v',w',hrun,h2,h3,_,h5⟩:=run_append_own_at (P:=P) w base t ty e i z 1 bytes E.ht hi hz0 hz1 hz2 E.hz (by omega) v n xs hown ad m c news (by rw [hr.1,Nat.mul_one]) had h1 hml hb hbase;obtain ⟨A',c',rfl⟩:=zbs h2;exact ⟨A',c',w',hrun,h2,h3,h5⟩
 rcases Nat.eq_zero_or_pos m with h0 | h0
 ·subst h0;have hn : news = []:=List.eq_nil_of_length_eq_zero hr.1;subst hn
  cases A with
  | none =>
   obtain ⟨A',c',rfl⟩:=zbs hown;exact ⟨A',c',w,zd4 w base t ty e i 1 E.ht hi _ n xs hown c,by simpa using hown,World.grownBy.refl w _,.inl rfl⟩
  | some ad => exact fin ad (fun j u hu => by simp at hu)
 ·obtain ⟨b,off,rfl,hcell⟩:=hr.2 h0;exact fin ⟨b,off,none⟩ (fun j u hu => by rw [Addr.add_lit]; exact hcell j u hu)
theorem zak {t e : TypeId} {z : Value} {bytes : Nat} (E : Elem P t e z bytes) (w : World) {ops : Array Oper} {rest : List Oper} {o : Oper} {a : Act} {Q : Exit -> Act -> World -> Prop} (hgd : o.guard = none) (s x : Operand)
  (ho : o.op = .call { callee:=.builtin .append,args:=#[s,x],argTypes:=#[t,t] }) (base : Nat)
  {v : Value} {n : Nat} {xs : List Value} (hs : a.eval s = v) (hown : w.ownsRow base e 1 v n xs) {A : Option Addr} {m c : Nat} {news : List Value} (hx : a.eval x = .slice A m c) (hr : Rd w A m news) (h1 : ∀ u ∈ news,u.oneCell' = true)
  (h63 : n + m <= 1099511627776) (hby : bytes <= 64) (hbase : base <= w.heap.size)
  (h : ∀ A' c' w',w'.ownsRow base e 1 (.slice A' (n + m) c') (n + m) (xs ++ news) -> w.grownBy w' v.ownBlock ->
   ((Value.slice A' (n + m) c').ownBlock = v.ownBlock \/ (Value.slice A' (n + m) c').ownBlock = some w.heap.size) -> wpList P ops Q rest (a.put o.dst (.slice A' (n + m) c')) w') : wpList P ops Q (o :: rest) a w:=by
 refine wpList_plain hgd fun K hK => ?_;obtain ⟨A',c',w',hrun,h2,h3,h4⟩:=zmo E w o.type base hown (c:=c) hr h1 h63 hby hbase;unfold Oper.wp execOp;simp only [ho,resolve,invoke,builtin,Sem.run_bind,Sem.run_pure,Result.andThen_ok,List.map_toArray,List.map_cons,List.map_nil,hs,hx,hrun];exact hK _ _ (h A' c' w' h2 h3 h4)
end
theorem zas {w w' : World} {base : Nat} {e : TypeId} {v : Value} {n : Nat} {xs : List Value} (h : w.ownsRow base e 1 v n xs) (hb : Below w.heap.size w w') : w'.ownsRow base e 1 v n xs:=by
 refine ⟨h.1,?_⟩;rcases h.2 with hn | ⟨g,cap,cur,hv,hg,hh,rest⟩
 ·exact .inl hn
 ·exact .inr ⟨g,cap,cur,hv,hg,(hb.block g (Array.getElem?_eq_some_iff.1 hh).1).trans hh,rest⟩
theorem ze4 {base : Nat} {w0 w w' : World} {e : TypeId} {v : Value} {n : Nat} {xs : List Value} (hb : Below base w0 w) (hB : base <= w.heap.size) (hown : w.ownsRow base e 1 v n xs) (hg : w.grownBy w' v.ownBlock) : Below base w0 w' :=
 hb.grown hg hB (fun k hk => (hown.lt k hk).1)
theorem zi7 (k : IntKind) (zs : List Int) : ∀ u ∈ zs.map (Value.int k),u.oneCell' = true:=ints_oneCell k zs
end
section
open Go.RowKit Go.Lib Go.Maps Go.ChangeMaps Go.MapKept
structure KeyB (P : Program) (K : TypeId) {α : Type} (mk : α -> Value) (lit : α -> Lit) (ok : α -> Prop) : Prop where
 keyed : Keyed P K
 of : ∀ {a},ok a -> keyOf P K (mk a) = some (lit a)
 inv : ∀ {v l},keyOf P K v = some l -> ∃ a,ok a /\ v = mk a /\ l = lit a
 mkinj : ∀ {a b},mk a = mk b -> a = b
theorem KeyB.inj {P : Program} {K : TypeId} {α : Type} {mk : α -> Value} {lit : α -> Lit} {ok : α -> Prop} (B : KeyB P K mk lit ok) {a b : α} (ha : ok a) (hb : ok b) (h : lit a = lit b) : a = b:=by
 have h1:=B.of ha;rw [h] at h1;exact B.mkinj (B.keyed.inj h1 (B.of hb))
open Classical in
noncomputable def zgm {β : Type} (mkV : β -> Value) (v : Value) : Option (DataW Value × List MemPlace):=if ∃ c,v = mkV c then some (.held v,[]) else none
theorem zgl {β : Type} (mkV : β -> Value) (c : β) : zgm mkV (mkV c) = some (.held (mkV c),[]):=by
 unfold zgm;rw [if_pos ⟨c,rfl⟩]
theorem zho {β : Type} {mkV : β -> Value} {v : Value} {y : DataW Value × List MemPlace} (h : zgm mkV v = some y) : ∃ c,v = mkV c /\ y = (.held (mkV c),[]):=by
 unfold zgm at h;split at h
 ·rename_i hc;obtain ⟨c,rfl⟩:=hc
  cases h
  exact ⟨c,rfl,rfl⟩
 ·cases h
def Says {α β : Type} (lit : α -> Lit) (ok : α -> Prop) (mkV : β -> Value) (f : α -> Option β) (D : DataW Value) : Prop :=
 ∀ a,ok a -> Maps.has D (lit a) = (f a).isSome /\ ∀ c,f a = some c -> ∀ z,D.atKey (lit a) z = .held (mkV c)
def MapF {α β : Type} (w : World) (P : Program) (K : TypeId) (lit : α -> Lit) (ok : α -> Prop) (mkV : β -> Value) (b n : Nat) (f : α -> Option β) : Prop :=
 ∃ D,w.ownsMap P K (zgm mkV) b n D /\ Says lit ok mkV f D
def MapR {α β : Type} (w : World) (P : Program) (K : TypeId) (lit : α -> Lit) (ok : α -> Prop) (mkV : β -> Value) (b r n : Nat) (f : α -> Option β) (left : α -> Bool) (cnt : Nat) : Prop :=
 ∃ D L,w.ranges P K (zgm mkV) b r n D L cnt /\ Says lit ok mkV f D /\ ∀ a,ok a -> L (lit a) = left a
section
variable {α β : Type} {P : Program} {K : TypeId} {mk : α -> Value} {lit : α -> Lit} {ok : α -> Prop} {mkV : β -> Value} {w : World} {b n : Nat} {f : α -> Option β}
theorem MapF.made (w : World) (P : Program) (K : TypeId) (lit : α -> Lit) (ok : α -> Prop) (mkV : β -> Value) : MapF (w.alloc (.map #[] 0)) P K lit ok mkV w.heap.size 0 (fun _ => none) :=
 ⟨.map [],World.ownsMap_made w P K _,fun a _ => ⟨rfl,fun c h => by cases h⟩⟩
theorem MapF.lt (h : MapF w P K lit ok mkV b n f) : b < w.heap.size:=by obtain ⟨D,h,_⟩:=h; exact h.lt
theorem MapF.kept {w' : World} {row : Option Nat} (h : MapF w P K lit ok mkV b n f) (hg : w.grownBy w' row) (hne : some b ≠ row) : MapF w' P K lit ok mkV b n f:=by
 obtain ⟨D,h,s⟩:=h; exact ⟨D,h.kept hg hne,s⟩
theorem MapF.at {w' : World} (h : MapF w P K lit ok mkV b n f) (hb : w'.heap[b]? = w.heap[b]?) : MapF w' P K lit ok mkV b n f:=by
 obtain ⟨D,⟨es,clock,h1,r⟩,s⟩:=h; exact ⟨D,⟨es,clock,hb.trans h1,r⟩,s⟩
theorem MapF.below {w' : World} {m : Nat} (h : MapF w P K lit ok mkV b n f) (hb : Below m w w') (hlt : b < m) : MapF w' P K lit ok mkV b n f:=h.at (hb.block b hlt)
theorem MapF.alloc (h : MapF w P K lit ok mkV b n f) (o : Obj) : MapF (w.alloc o) P K lit ok mkV b n f:=h.kept (World.grownBy_alloc w o none) (by simp)
theorem MapF.mono (h : MapF w P K lit ok mkV b n f) {n' : Nat} (hn : n <= n') : MapF w P K lit ok mkV b n' f:=by
 obtain ⟨D,h,s⟩:=h; exact ⟨D,h.mono hn,s⟩
theorem MapF.setCell (h : MapF w P K lit ok mkV b n f) {a : Addr} (ha : b ≠ a.block) (u : Value) : MapF (w.setCell a u) P K lit ok mkV b n f:=by
 obtain ⟨D,h,s⟩:=h; exact ⟨D,h.setCell ha u,s⟩
theorem MapF.ne_cells (h : MapF w P K lit ok mkV b n f) {j : Nat} {cs : Array Value} {t : TypeId} {fr : Nat × Nat} (hj : w.heap[j]? = some (.cells cs t fr)) : b ≠ j:=by
 obtain ⟨D,⟨es,clock,h1,_⟩,_⟩:=h;intro e;rw [e,hj] at h1
 cases h1
def upd [DecidableEq α] (f : α -> Option β) (k : α) (v : Option β) : α -> Option β:=fun a => if a = k then v else f a
theorem Says.put [DecidableEq α] {D : DataW Value} (B : KeyB P K mk lit ok) (hD : Maps.IsMap D) (s : Says lit ok mkV f D) {k : α} (hk : ok k) (c : β) : Says lit ok mkV (upd f k (some c)) (D.put (lit k) (.held (mkV c))):=fun a ha => by
 unfold upd
 by_cases e : a = k
 ·subst e;rw [if_pos rfl];refine ⟨?_,fun c' h' z => ?_⟩
  ·rw [Maps.has_put_same hD (B.keyed.key (B.of ha))]; rfl
  ·cases h'
   exact Maps.atKey_put_same hD (B.keyed.key (B.of ha)) _ _
 ·have hne : lit a ≠ lit k:=fun h => e (B.inj ha hk h);rw [if_neg e];obtain ⟨h1,h2⟩:=s a ha;exact ⟨by rw [Maps.has_put_other hne]; exact h1,fun c' h' z => by rw [Maps.atKey_put_other hne]; exact h2 c' h' z⟩
theorem Says.del [DecidableEq α] {D : DataW Value} (B : KeyB P K mk lit ok) (s : Says lit ok mkV f D) {k : α} (hk : ok k) : Says lit ok mkV (upd f k none) (D.del (lit k)):=fun a ha => by
 unfold upd
 by_cases e : a = k
 ·subst e;rw [if_pos rfl];exact ⟨Maps.has_del_same,fun c' h' => by cases h'⟩
 ·have hne : lit a ≠ lit k:=fun h => e (B.inj ha hk h);rw [if_neg e];obtain ⟨h1,h2⟩:=s a ha;exact ⟨by rw [Maps.has_del_other hne]; exact h1,fun c' h' z => by rw [Maps.atKey_del_other hne]; exact h2 c' h' z⟩
theorem MapF.look {t e : TypeId} {zv : β} (h : MapF w P K lit ok mkV b n f) (B : KeyB P K mk lit ok) (ht : P.underlying t = some (.map K e)) (hz : (zeroValue e).run P w = .ok (mkV zv) w) {k : α} (hk : ok k) (both : Bool) :
  (Instr.lookup t (.map (some b)) (mk k) both).run P w = .ok (if both then .tuple #[mkV ((f k).getD zv),.bool (f k).isSome] else mkV ((f k).getD zv)) w:=by
 obtain ⟨D,h,s⟩:=h;obtain ⟨h1,h2⟩:=s k hk
 have key : ∀ v ps,zgm mkV v = some (D.atKey (lit k) (.held (mkV zv)),ps) -> v = mkV ((f k).getD zv):=fun v ps hv => by
  obtain ⟨c,rfl,hc⟩:=zho hv;have hc1:=congrArg Prod.fst hc
  cases hf : f k with
  | none =>
   rw [hf] at h1;rw [Maps.atKey_of_not_has h1] at hc1;injection hc1 with e1;exact e1.symm
  | some c' =>
   rw [h2 c' hf] at hc1;injection hc1 with e1;exact e1.symm
 cases both with
 | false =>
  obtain ⟨v,ps,hrun,hv⟩:=h.lookup B.keyed ht hz (zgl mkV zv) (B.of hk);rw [hrun,key v ps hv];rfl
 | true =>
  obtain ⟨v,ps,hrun,hv⟩:=h.look_ok B.keyed ht hz (zgl mkV zv) (B.of hk);rw [hrun,key v ps hv,h1];rfl
theorem MapF.put [DecidableEq α] {t e : TypeId} (h : MapF w P K lit ok mkV b n f) (B : KeyB P K mk lit ok) (ht : P.underlying t = some (.map K e)) (hn : n < maxLen) {k : α} (hk : ok k) (c : β) :
  ∃ w',(Instr.mapUpdate t (.map (some b)) (mk k) (mkV c)).run P w = .ok () w' /\ MapF w' P K lit ok mkV b (n + 1) (upd f k (some c)) /\ w.grownBy w' (some b) /\ w'.heap.size = w.heap.size:=by
 obtain ⟨D,h,s⟩:=h;obtain ⟨w',hrun,h',hg⟩:=h.store B.keyed ht hn (B.of hk) (zgl mkV c);refine ⟨w',hrun,⟨_,h',s.put B h.isMap hk c⟩,hg.grown,?_⟩;obtain ⟨_,_,_,_,_,rfl⟩:=hg;simp [setBlock]
theorem MapF.del [DecidableEq α] {t e : TypeId} (h : MapF w P K lit ok mkV b n f) (B : KeyB P K mk lit ok) (ht : P.underlying t = some (.map K e)) {k : α} (hk : ok k) (ty : TypeId) :
  ∃ w',(Builtin.delete_ #[t,K] ty #[.map (some b),mk k]).run P w = .ok (.tuple #[]) w' /\ MapF w' P K lit ok mkV b n (upd f k none) /\ w.grownBy w' (some b) /\ w'.heap.size = w.heap.size:=by
 obtain ⟨D,h,s⟩:=h;obtain ⟨w',hrun,h',hg⟩:=h.drop B.keyed ht (B.of hk) ty;refine ⟨w',hrun,⟨_,h',s.del B hk⟩,hg.grown,?_⟩;obtain ⟨_,_,_,_,_,rfl⟩:=hg;simp [setBlock]
variable {ops : Array Oper} {rest : List Oper} {o : Oper} {a : Act} {Q : Exit -> Act -> World -> Prop}
theorem zj {t e : TypeId} {zv : β} {both : Bool} (hg : o.guard = none) (m x : Operand) (hop : o.op = Op.lookup t m x both) (B : KeyB P K mk lit ok) (ht : P.underlying t = some (.map K e)) (hz : (zeroValue e).run P w = .ok (mkV zv) w)
  (h : MapF w P K lit ok mkV b n f) {k : α} (hk : ok k) (hm : a.eval m = .map (some b)) (hx : a.eval x = mk k)
  (hK : wpList P ops Q rest (a.put o.dst (if both then .tuple #[mkV ((f k).getD zv),.bool (f k).isSome] else mkV ((f k).getD zv))) w) : wpList P ops Q (o :: rest) a w:=by
 refine wpList_plain hg fun K' hK' => ?_;have hrun:=h.look B ht hz hk both;unfold Oper.wp;simp [execOp,hop,hm,hx,hrun,Result.andThen];exact hK' _ _ hK
theorem zfm {t e : TypeId} {zv : β} {both : Bool} (hg : Region.wanted o (yielded ops a.tmps) = true) (m x : Operand) (hop : o.op = Op.lookup t m x both) (B : KeyB P K mk lit ok) (ht : P.underlying t = some (.map K e)) (hz : (zeroValue e).run P w = .ok (mkV zv) w)
  (h : MapF w P K lit ok mkV b n f) {k : α} (hk : ok k) (hm : a.eval m = .map (some b)) (hx : a.eval x = mk k)
  (hK : wpList P ops Q rest (a.put o.dst (if both then .tuple #[mkV ((f k).getD zv),.bool (f k).isSome] else mkV ((f k).getD zv))) w) : wpList P ops Q (o :: rest) a w:=by
 refine wpList_step fun K' hK' => ?_;rw [if_pos hg];have hrun:=h.look B ht hz hk both;unfold Oper.wp;simp [execOp,hop,hm,hx,hrun,Result.andThen];exact hK' _ _ hK
theorem zbk [DecidableEq α] {t e : TypeId} (hg : o.guard = none) (m x v : Operand) (hop : o.op = Op.mapUpdate t m x v) (B : KeyB P K mk lit ok) (ht : P.underlying t = some (.map K e)) (hn : n < maxLen)
  (h : MapF w P K lit ok mkV b n f) {k : α} (hk : ok k) (c : β) (hm : a.eval m = .map (some b)) (hx : a.eval x = mk k) (hv : a.eval v = mkV c)
  (hK : ∀ w',MapF w' P K lit ok mkV b (n + 1) (upd f k (some c)) -> w.grownBy w' (some b) -> w'.heap.size = w.heap.size -> wpList P ops Q rest (a.put o.dst undef) w') : wpList P ops Q (o :: rest) a w:=by
 refine wpList_plain hg fun K' hK' => ?_;obtain ⟨w',hrun,r1,r2,r3⟩:=h.put B ht hn hk c;unfold Oper.wp;simp [execOp,hop,hm,hx,hv,hrun,Result.andThen];exact hK' _ _ (hK w' r1 r2 r3)
theorem zf8 [DecidableEq α] {t e : TypeId} (hg : o.guard = none) (m x : Operand) (hop : o.op = Op.call { callee:=Callee.builtin Builtin.delete,args:=#[m,x],argTypes:=#[t,K] }) (B : KeyB P K mk lit ok) (ht : P.underlying t = some (.map K e))
  (h : MapF w P K lit ok mkV b n f) {k : α} (hk : ok k) (hm : a.eval m = .map (some b)) (hx : a.eval x = mk k)
  (hK : ∀ w',MapF w' P K lit ok mkV b n (upd f k none) -> w.grownBy w' (some b) -> w'.heap.size = w.heap.size -> wpList P ops Q rest (a.put o.dst (.tuple #[])) w') : wpList P ops Q (o :: rest) a w:=by
 refine wpList_plain hg fun K' hK' => ?_;obtain ⟨w',hrun,r1,r2,r3⟩:=h.del B ht hk o.type;unfold Oper.wp;simp [execOp,hop,resolve,invoke,builtin,hm,hx,hrun,Result.andThen];exact hK' _ _ (hK w' r1 r2 r3)
theorem za6 [DecidableEq α] {K' : Act -> World -> Prop} {R : Prop} {t e : TypeId} (hg : o.guard = none) (m x v : Operand) (hop : o.op = Op.mapUpdate t m x v) (B : KeyB P K mk lit ok) (ht : P.underlying t = some (.map K e)) (hn : n < maxLen)
  (h : MapF w P K lit ok mkV b n f) {k : α} (hk : ok k) (c : β) (hm : a.eval m = .map (some b)) (hx : a.eval x = mk k) (hv : a.eval v = mkV c)
  (hK : ∀ w',MapF w' P K lit ok mkV b (n + 1) (upd f k (some c)) -> w.grownBy w' (some b) -> w'.heap.size = w.heap.size -> K' (a.put o.dst undef) w') : if Region.wanted o (yielded ops a.tmps) = true then Oper.wp P o a w K' Q else R:=by
 rw [if_pos (by simp [Region.wanted,hg])];obtain ⟨w',hrun,r1,r2,r3⟩:=h.put B ht hn hk c;unfold Oper.wp;simp [execOp,hop,hm,hx,hv,hrun,Result.andThen];exact hK w' r1 r2 r3
theorem MapR.owns {r : Nat} {left : α -> Bool} {cnt : Nat} (h : MapR w P K lit ok mkV b r n f left cnt) : MapF w P K lit ok mkV b n f:=by
 obtain ⟨D,L,h,s,_⟩:=h; exact ⟨D,h.owns,s⟩
theorem MapR.left_eq {r : Nat} {left : α -> Bool} {cnt : Nat} (h : MapR w P K lit ok mkV b r n f left cnt) : w.rangeLeft b r = cnt:=by
 obtain ⟨D,L,h,s,_⟩:=h; exact h.left_eq
theorem MapR.lt {r : Nat} {left : α -> Bool} {cnt : Nat} (h : MapR w P K lit ok mkV b r n f left cnt) : r < w.heap.size:=by
 obtain ⟨D,L,h,s,_⟩:=h; exact h.lt
theorem MapR.at {w' : World} {r : Nat} {left : α -> Bool} {cnt : Nat} (h : MapR w P K lit ok mkV b r n f left cnt) (hb : w'.heap[b]? = w.heap[b]?) (hr : w'.heap[r]? = w.heap[r]?) : MapR w' P K lit ok mkV b r n f left cnt:=by
 obtain ⟨D,L,⟨es,clock,since,seen,c0,h1,h2,h3,h4,h5,h6⟩,s,hl⟩:=h;exact ⟨D,L,⟨es,clock,since,seen,c0,hb.trans h1,h2,h3,h4,hr.trans h5,h6⟩,s,hl⟩
theorem MapF.range {t e : TypeId} (h : MapF w P K lit ok mkV b n f) (B : KeyB P K mk lit ok) (ht : P.underlying t = some (.map K e)) :
  ∃ w' cnt,(Instr.range t (.map (some b))).run P w = .ok (.pointer (some ⟨w.heap.size,0,none⟩)) w' /\ MapR w' P K lit ok mkV b w.heap.size n f (fun a => (f a).isSome) cnt /\ cnt <= n /\ w.grownBy w' none /\ w'.heap.size = w.heap.size + 1:=by
 obtain ⟨D,h,s⟩:=h;obtain ⟨w',hrun,hr,hg,hs⟩:=h.range B.keyed ht;exact ⟨w',_,hrun,⟨D,_,hr,s,fun a ha => (s a ha).1⟩,h.size_le,hg,hs⟩
theorem MapR.next [DecidableEq α] {r : Nat} {left : α -> Bool} {cnt : Nat} (h : MapR w P K lit ok mkV b r n f left cnt) (B : KeyB P K mk lit ok) (ty : TypeId) :
  ((∀ a,ok a -> left a = false) /\ (Instr.next (.pointer (some ⟨r,0,none⟩)) false ty).run P w = .ok (.tuple #[.bool false]) w) \/
  ∃ x c w' cnt',ok x /\ left x = true /\ f x = some c /\ (Instr.next (.pointer (some ⟨r,0,none⟩)) false ty).run P w = .ok (.tuple #[.bool true,mk x,mkV c]) w' /\
   MapR w' P K lit ok mkV b r n f (fun a => left a && !decide (a = x)) cnt' /\ cnt' < cnt /\ w.grownBy w' (some r) /\ w'.heap.size = w.heap.size /\ (Instr.entry (.pointer (some ⟨r,0,none⟩))).run P w' = .ok (.tuple #[mk x,mkV c]) w':=by
 obtain ⟨D,L,h,s,hl⟩:=h;rcases h.next B.keyed ty with ⟨_,h0,hrun⟩ | ⟨key,v,kl,y,w',cnt',hkey,hlk,hv,hat,hrun,hrg,hlt,hgr,hsz,hen⟩
 ·exact .inl ⟨fun a ha => by rw [<- hl a ha]; exact h0 _,hrun⟩
 ·obtain ⟨x,hx,rfl,rfl⟩:=B.inv hkey;obtain ⟨c,rfl,rfl⟩:=zho hv;obtain ⟨s1,s2⟩:=s x hx
  obtain ⟨c',hf,e1⟩ : ∃ c',f x = some c' /\ mkV c = mkV c':=by
   cases hf : f x with
   | none =>
    rw [hf] at s1;have:=hat .nil;rw [Maps.atKey_of_not_has s1] at this
    cases this
   | some c' =>
    have:=s2 c' hf .nil;rw [hat] at this;injection this with e1;exact ⟨c',rfl,e1⟩
  rw [e1] at hrun hen;refine .inr ⟨x,c',w',cnt',hx,by rw [<- hl x hx]; exact hlk,hf,hrun,⟨D,_,hrg,s,fun a ha => ?_⟩,hlt,hgr,hsz,hen⟩;rw [hl a ha];congr 2
  by_cases e : a = x
  ·subst e;rw [decide_eq_true rfl];exact WideAt.sameKey_self (B.keyed.key (B.of ha))
  ·rw [decide_eq_false e];exact Maps.sameKey_ne (fun h => e (B.inj ha hx h))
theorem wpList_rangeF {t e : TypeId} (hg : o.guard = none) (m : Operand) (hop : o.op = Op.range t m) (B : KeyB P K mk lit ok) (ht : P.underlying t = some (.map K e)) (h : MapF w P K lit ok mkV b n f) (hm : a.eval m = .map (some b))
  (hK : ∀ w' cnt,MapR w' P K lit ok mkV b w.heap.size n f (fun a => (f a).isSome) cnt -> cnt <= n -> w.grownBy w' none -> w'.heap.size = w.heap.size + 1 -> wpList P ops Q rest (a.put o.dst (.pointer (some ⟨w.heap.size,0,none⟩))) w') : wpList P ops Q (o :: rest) a w:=by
 refine wpList_plain hg fun K' hK' => ?_;obtain ⟨w',cnt,hrun,r1,r2,r3,r4⟩:=h.range B ht;unfold Oper.wp;simp [execOp,hop,hm,hrun,Result.andThen];exact hK' _ _ (hK w' cnt r1 r2 r3 r4)
theorem wpList_nextF [DecidableEq α] {r : Nat} {left : α -> Bool} {cnt : Nat} (hg : o.guard = none) (it : Operand) (hop : o.op = Op.next it false) (B : KeyB P K mk lit ok) (hit : a.eval it = .pointer (some ⟨r,0,none⟩)) (h : MapR w P K lit ok mkV b r n f left cnt)
  (hDone : (∀ a,ok a -> left a = false) -> wpList P ops Q rest (a.put o.dst (.tuple #[.bool false])) w)
  (hMore : ∀ x c w' cnt',ok x -> left x = true -> f x = some c -> MapR w' P K lit ok mkV b r n f (fun a => left a && !decide (a = x)) cnt' -> cnt' < cnt -> w.grownBy w' (some r) -> w'.heap.size = w.heap.size ->
   (Instr.entry (.pointer (some ⟨r,0,none⟩))).run P w' = .ok (.tuple #[mk x,mkV c]) w' -> wpList P ops Q rest (a.put o.dst (.tuple #[.bool true,mk x,mkV c])) w') : wpList P ops Q (o :: rest) a w:=by
 refine wpList_plain hg fun K' hK' => ?_;unfold Oper.wp;rcases h.next B o.type with ⟨h0,hrun⟩ | ⟨x,c,w',cnt',h1,h2,h3,hrun,h4,h5,h6,h7,h8⟩
 ·simp [execOp,hop,hit,hrun,Result.andThen];exact hK' _ _ (hDone h0)
 ·simp [execOp,hop,hit,hrun,Result.andThen];exact hK' _ _ (hMore x c w' cnt' h1 h2 h3 h4 h5 h6 h7 h8)
end
end
section
open Go.RowKit
structure Wrote (S : Nat -> Prop) (w w' : World) : Prop where
 os : w'.os = w.os
 tape : w'.tape = w.tape
 output : w'.output = w.output
 size : w.heap.size <= w'.heap.size
 block : ∀ k,k < w.heap.size -> ¬ S k -> w'.heap[k]? = w.heap[k]?
section
variable {S R : Nat -> Prop} {a b c w w' : World} {B : Nat}
theorem Wrote.refl (S : Nat -> Prop) (w : World) : Wrote S w w:=⟨rfl,rfl,rfl,Nat.le_refl _,fun _ _ _ => rfl⟩
theorem Wrote.trans (h : Wrote S a b) (k : Wrote S b c) : Wrote S a c :=
 ⟨k.os.trans h.os,k.tape.trans h.tape,k.output.trans h.output,Nat.le_trans h.size k.size,fun i hi hs => (k.block i (Nat.lt_of_lt_of_le hi h.size) hs).trans (h.block i hi hs)⟩
theorem Wrote.mono (h : Wrote S w w') (hs : ∀ k,k < w.heap.size -> S k -> R k) : Wrote R w w':=⟨h.os,h.tape,h.output,h.size,fun k hk hn => h.block k hk fun hS => hn (hs k hk hS)⟩
theorem Wrote.of_below (h : Below w.heap.size w w') : Wrote S w w':=⟨h.os,h.tape,h.output,h.size,fun k hk _ => h.block k hk⟩
theorem Wrote.below (h : Wrote S w w') (hS : ∀ k,S k -> B <= k) (hB : B <= w.heap.size) : Below B w w' :=
 ⟨h.os,h.tape,h.output,h.size,fun k hk => h.block k (Nat.lt_of_lt_of_le hk hB) fun hs => by have:=hS k hs; omega⟩
theorem Wrote.then_below (h : Wrote S a b) (k : Below b.heap.size b c) : Wrote S a c:=h.trans (.of_below k)
theorem Wrote.setCell {p : Addr} (hp : S p.block \/ w.heap.size <= p.block) (v : Value) : Wrote S w (w.setCell p v):=by
 refine ⟨rfl,rfl,rfl,by simp [World.setCell],fun k hk hn => Below.heap_setCell w p v k ?_⟩;rintro rfl;rcases hp with hp | hp
 ·exact hn hp
 ·omega
theorem Wrote.grown {row : Option Nat} (hg : w.grownBy w' row) (hS : ∀ k,row = some k -> S k) : Wrote S w w':=by
 have hb : Below 0 w w':=(Below.refl 0 w).grown hg (Nat.zero_le _) (fun j hj => Nat.zero_le _);exact ⟨hb.os,hb.tape,hb.output,hb.size,fun k hk hn => hg.block k hk fun e => hn (hS k e.symm)⟩
theorem Wrote.cell (h : Wrote S w w') {p : Addr} (hp : p.block < w.heap.size) (hn : ¬ S p.block) : w'.cell? p = w.cell? p:=World.cell?_of_block (h.block p.block hp hn)
theorem Wrote.blk (h : Wrote S w w') {g : Nat} {o : Obj} (ho : w.heap[g]? = some o) (hn : ¬ S g) : w'.heap[g]? = some o:=(h.block g (Array.getElem?_eq_some_iff.1 ho).1 hn).trans ho
end
theorem Rd.wrote {S : Nat -> Prop} {w w' : World} {A : Option Addr} {n : Nat} {xs : List Value} (h : Rd w A n xs) (hb : Wrote S w w') (hn : 0 < n -> ∀ a,A = some a -> ¬ S a.block) : Rd w' A n xs:=by
 refine ⟨h.1,fun h0 => ?_⟩;obtain ⟨b,off,rfl,hl,hc⟩:=h.at_ h0;exact ⟨b,off,rfl,fun j u hu => (hb.cell (p:=⟨b,off + j,none⟩) hl (hn h0 ⟨b,off,none⟩ rfl)).trans (hc j u hu)⟩
end
section
open Go.RowKit
def zaj (r : Int) : Bool:=decide ((0 <= r /\ r < 55296) \/ (57343 < r /\ r <= 1114111))
theorem zb0 (r : Int) (w : World) : Calls Tryz.prog 64 #[.int .i32 r] w fun e w' => e = .returned (.bool (zaj r)) /\ w = w':=by
 rcases (show r < 0 \/ (0 <= r /\ r < 55296) \/ (55296 <= r /\ r <= 57343) \/ (57343 < r /\ r <= 1114111) \/ 1114111 < r by omega) with h | ⟨h,h'⟩ | ⟨h,h'⟩ | ⟨h,h'⟩ | h
 all_goals
  go_enter Tryz.func64,Tryz.ntmps64;go_wp2;go_returns;exact ⟨zam (by unfold zaj; symm; first | (rw [decide_eq_true_iff]; omega) | (rw [decide_eq_false_iff_not]; omega) | (rw [Bool.eq_iff_iff]; simp; omega)),rfl⟩
theorem zbt (r : Int) (w : World) : Calls Tryz.prog 197 #[.int .i32 r] w fun e w' => e = .returned (.int .i64 (zt r)) /\ w = w':=by
 rcases (show r < 48 \/ (48 <= r /\ r <= 57) \/ (57 < r /\ r < 65) \/ (65 <= r /\ r <= 70) \/ (70 < r /\ r < 97) \/ (97 <= r /\ r <= 102) \/ 102 < r by omega) with h | ⟨h,h'⟩ | ⟨h,h'⟩ | ⟨h,h'⟩ | ⟨h,h'⟩ | ⟨h,h'⟩ | h
 all_goals
  go_enter Tryz.func197,Tryz.ntmps197;go_wp2;go_returns;exact ⟨zct (by unfold zt; split <;> (try split) <;> (try split) <;> omega),rfl⟩
def pow16 : Nat -> Int
 | 0 => 1
 | k + 1 => 16 * pow16 k
def pow10 : Nat -> Int
 | 0 => 1
 | k + 1 => 10 * pow10 k
theorem zlj (k : Nat) (h : k <= 6) : pow16 k <= 16777216:=by
 match k,h with
 | 0,_ | 1,_ | 2,_ | 3,_ | 4,_ | 5,_ | 6,_ => decide
theorem zlk (k : Nat) (h : k <= 6) : pow10 k <= 16777216:=by
 match k,h with
 | 0,_ | 1,_ | 2,_ | 3,_ | 4,_ | 5,_ | 6,_ => decide
theorem zk8 {s : ByteArray} (h : ¬ s.size = 0) : s.toList.isEmpty = false:=by
 rw [z7]
 cases hh : bs s with
 | nil =>
  have:=zi s;rw [hh] at this;exact absurd this.symm h
 | cons a t => rfl
theorem zih (s : ByteArray) (w : World) (hs : s.size <= 9223372036854775807) :
  Calls Tryz.prog 150 #[.string s,.int .i64 16,.int .i64 6] w fun e w' => e = .returned (.int .i64 (numS 16 6 (bs s))) /\ Below w.heap.size w w':=by
 by_cases h0 : s.size = 0
 ·have hn : numS 16 6 (bs s) = -1:=(by unfold numS; rw [zi,if_pos (.inl h0)]);rw [hn];obtain rfl : s = ⟨#[]⟩:=zn5 (by rw [zl9 h0]; rfl);clear h0 hn hs;go_enter Tryz.func150,Tryz.ntmps150;go_wp2;go_returns;exact ⟨rfl,Below.refl _ _⟩
 ·have he2 : s.toList.isEmpty = false:=zk8 h0;have he3 : (!s.toList.isEmpty) = true:=by rw [he2]; rfl
  by_cases h1 : 6 < s.size
  ·have hn : numS 16 6 (bs s) = -1:=(by unfold numS; rw [zi,if_pos (.inr h1)]);rw [hn];have h1' : (6 : Int) < (s.size : Int):=(by omega);clear hn;go_enter Tryz.func150,Tryz.ntmps150;go_wp2;go_returns;exact ⟨rfl,Below.refl _ _⟩
  ·have hn : numS 16 6 (bs s) = zw 16 0 (bs s):=(by unfold numS; rw [zi,if_neg (by omega)]);rw [hn];have h1' : (s.size : Int) <= 6:=(by omega);clear hn;go_enter Tryz.func150,Tryz.ntmps150;go_wp2
   go_loopw [7] (fun n wr => ∃ (k : Nat) (v : Int),wr = w.iter s k /\ k <= s.size /\ n = .int .i64 v /\ 0 <= v /\ v < pow16 k /\ Hid (zw 16 0 (bs s) = zw 16 v ((bs s).drop k))) (fun _ wr => s.size - wr.iterPos w.heap.size)
   case atStart => exact ⟨0,0,rfl,Nat.zero_le _,rfl,Int.le_refl _,by decide,rfl⟩
   case round =>
    obtain ⟨k,v,rfl,hk,rfl,hv0,hv1,HN⟩:=hrel;have hv2 : v <= 16777215:=by have:=zlj k (by omega); omega
    by_cases hp : k < s.size
    ·have hnx : ∀ ty,(Instr.next (.pointer (some ⟨w.heap.size,0,none⟩)) true ty).run Tryz.prog (w.iter s k) = _:=fun ty => run_next_any w s k ty hp;obtain ⟨b,hb⟩ : ∃ b,b = s[k]'hp:=⟨_,rfl⟩;have hdr:=zcy s k hp;rw [<- hb] at hdr;rw [hdr] at HN;have hd1:=zg5 (b.toNat : Int);have hd2:=zeh (b.toNat : Int);clear hdr
     by_cases ha : b.toNat < 128
     ·have hdec : Utf8.decode s k = (b.toNat,1):=(by rw [decode_ascii s k hp (by rw [<- hb]; exact ha),hb]);rw [hdec] at hnx;clear hdec hb
      by_cases hbad : zt (b.toNat : Int) < 0
      ·have hb2 : zw 16 v (b :: (bs s).drop (k + 1)) = -1:=zbl (.inl hbad);have HB:=hz0q hb2; clear hb2;go_wp2_with (go_at_call 197; refine (zbt _ _).mono ?_; rintro e w' ⟨rfl,rfl⟩)
       go_returns;exact ⟨zct (by rw [HN.out,HB.out]),(Below.refl w.heap.size w).alloc (Nat.le_refl _) _⟩
      ·by_cases hbad2 : 16 <= zt (b.toNat : Int)
       ·have hb2 : zw 16 v (b :: (bs s).drop (k + 1)) = -1:=zbl (.inr hbad2);have HB:=hz0q hb2; clear hb2;go_wp2_with (go_at_call 197; refine (zbt _ _).mono ?_; rintro e w' ⟨rfl,rfl⟩)
        go_returns;exact ⟨zct (by rw [HN.out,HB.out]),(Below.refl w.heap.size w).alloc (Nat.le_refl _) _⟩
       ·have hb2 : zw 16 v (b :: (bs s).drop (k + 1)) = zw 16 (v * 16 + zt b.toNat) ((bs s).drop (k + 1)):=zfs (by omega) (by omega);have HB:=hz0q hb2; clear hb2;go_wp2_with (go_at_call 197; refine (zbt _ _).mono ?_; rintro e w' ⟨rfl,rfl⟩)
        go_roundw
        case rel => exact ⟨k + 1,_,rfl,by omega,rfl,by omega,by simp only [pow16]; omega,by show _ = _; rw [HN.out,HB.out]⟩
        case measure => simp; omega
     ·have hdec:=decode_high s k hp (by rw [<- hb]; omega);have hdl:=decode_le s k;obtain ⟨⟨r,wd⟩,hrw⟩ : ∃ x,x = Utf8.decode s k:=⟨_,rfl⟩;rw [<- hrw] at hnx hdec hdl;simp only [] at hdec hdl;clear hrw;have hx : zt (r : Int) = -1:=zby (by omega);have hb2 : zw 16 v (b :: (bs s).drop (k + 1)) = -1:=zbl (.inl (by rw [zby (by omega)]; decide));have HB:=hz0q hb2; clear hb2;have HX:=hz0q hx; clear hx;go_wp2_with fail;refine (zbt _ _).mono ?_;rw [HX.out];rintro e w' ⟨rfl,rfl⟩;go_wp2;go_returns;exact ⟨zct (by rw [HN.out,HB.out]),(Below.refl w.heap.size w).alloc (Nat.le_refl _) _⟩
    ·have hnx : ∀ ty,(Instr.next (.pointer (some ⟨w.heap.size,0,none⟩)) true ty).run Tryz.prog (w.iter s k) = _:=fun ty => run_next_end w s k ty hp;go_wp2;go_returns;exact ⟨zct (by rw [HN.out,zbc s k (by omega)]; rfl),(Below.refl w.heap.size w).alloc (Nat.le_refl _) _⟩
theorem zlo (s : ByteArray) (w : World) (hs : s.size <= 9223372036854775807) :
  Calls Tryz.prog 150 #[.string s,.int .i64 10,.int .i64 5] w fun e w' => e = .returned (.int .i64 (numS 10 5 (bs s))) /\ Below w.heap.size w w':=by
 by_cases h0 : s.size = 0
 ·have hn : numS 10 5 (bs s) = -1:=(by unfold numS; rw [zi,if_pos (.inl h0)]);rw [hn];obtain rfl : s = ⟨#[]⟩:=zn5 (by rw [zl9 h0]; rfl);clear h0 hn hs;go_enter Tryz.func150,Tryz.ntmps150;go_wp2;go_returns;exact ⟨rfl,Below.refl _ _⟩
 ·have he2 : s.toList.isEmpty = false:=zk8 h0;have he3 : (!s.toList.isEmpty) = true:=by rw [he2]; rfl
  by_cases h1 : 5 < s.size
  ·have hn : numS 10 5 (bs s) = -1:=(by unfold numS; rw [zi,if_pos (.inr h1)]);rw [hn];have h1' : (5 : Int) < (s.size : Int):=(by omega);clear hn;go_enter Tryz.func150,Tryz.ntmps150;go_wp2;go_returns;exact ⟨rfl,Below.refl _ _⟩
  ·have hn : numS 10 5 (bs s) = zw 10 0 (bs s):=(by unfold numS; rw [zi,if_neg (by omega)]);rw [hn];have h1' : (s.size : Int) <= 5:=(by omega);clear hn;go_enter Tryz.func150,Tryz.ntmps150;go_wp2
   go_loopw [7] (fun n wr => ∃ (k : Nat) (v : Int),wr = w.iter s k /\ k <= s.size /\ n = .int .i64 v /\ 0 <= v /\ v < pow10 k /\ Hid (zw 10 0 (bs s) = zw 10 v ((bs s).drop k))) (fun _ wr => s.size - wr.iterPos w.heap.size)
   case atStart => exact ⟨0,0,rfl,Nat.zero_le _,rfl,Int.le_refl _,by decide,rfl⟩
   case round =>
    obtain ⟨k,v,rfl,hk,rfl,hv0,hv1,HN⟩:=hrel;have hv2 : v <= 16777215:=by have:=zlk k (by omega); omega
    by_cases hp : k < s.size
    ·have hnx : ∀ ty,(Instr.next (.pointer (some ⟨w.heap.size,0,none⟩)) true ty).run Tryz.prog (w.iter s k) = _:=fun ty => run_next_any w s k ty hp;obtain ⟨b,hb⟩ : ∃ b,b = s[k]'hp:=⟨_,rfl⟩;have hdr:=zcy s k hp;rw [<- hb] at hdr;rw [hdr] at HN;have hd1:=zg5 (b.toNat : Int);have hd2:=zeh (b.toNat : Int);clear hdr
     by_cases ha : b.toNat < 128
     ·have hdec : Utf8.decode s k = (b.toNat,1):=(by rw [decode_ascii s k hp (by rw [<- hb]; exact ha),hb]);rw [hdec] at hnx;clear hdec hb
      by_cases hbad : zt (b.toNat : Int) < 0
      ·have hb2 : zw 10 v (b :: (bs s).drop (k + 1)) = -1:=zbl (.inl hbad);have HB:=hz0q hb2; clear hb2;go_wp2_with (go_at_call 197; refine (zbt _ _).mono ?_; rintro e w' ⟨rfl,rfl⟩)
       go_returns;exact ⟨zct (by rw [HN.out,HB.out]),(Below.refl w.heap.size w).alloc (Nat.le_refl _) _⟩
      ·by_cases hbad2 : 10 <= zt (b.toNat : Int)
       ·have hb2 : zw 10 v (b :: (bs s).drop (k + 1)) = -1:=zbl (.inr hbad2);have HB:=hz0q hb2; clear hb2;go_wp2_with (go_at_call 197; refine (zbt _ _).mono ?_; rintro e w' ⟨rfl,rfl⟩)
        go_returns;exact ⟨zct (by rw [HN.out,HB.out]),(Below.refl w.heap.size w).alloc (Nat.le_refl _) _⟩
       ·have hb2 : zw 10 v (b :: (bs s).drop (k + 1)) = zw 10 (v * 10 + zt b.toNat) ((bs s).drop (k + 1)):=zfs (by omega) (by omega);have HB:=hz0q hb2; clear hb2;go_wp2_with (go_at_call 197; refine (zbt _ _).mono ?_; rintro e w' ⟨rfl,rfl⟩)
        go_roundw
        case rel => exact ⟨k + 1,_,rfl,by omega,rfl,by omega,by simp only [pow10]; omega,by show _ = _; rw [HN.out,HB.out]⟩
        case measure => simp; omega
     ·have hdec:=decode_high s k hp (by rw [<- hb]; omega);have hdl:=decode_le s k;obtain ⟨⟨r,wd⟩,hrw⟩ : ∃ x,x = Utf8.decode s k:=⟨_,rfl⟩;rw [<- hrw] at hnx hdec hdl;simp only [] at hdec hdl;clear hrw;have hx : zt (r : Int) = -1:=zby (by omega);have hb2 : zw 10 v (b :: (bs s).drop (k + 1)) = -1:=zbl (.inl (by rw [zby (by omega)]; decide));have HB:=hz0q hb2; clear hb2;have HX:=hz0q hx; clear hx;go_wp2_with fail;refine (zbt _ _).mono ?_;rw [HX.out];rintro e w' ⟨rfl,rfl⟩;go_wp2;go_returns;exact ⟨zct (by rw [HN.out,HB.out]),(Below.refl w.heap.size w).alloc (Nat.le_refl _) _⟩
    ·have hnx : ∀ ty,(Instr.next (.pointer (some ⟨w.heap.size,0,none⟩)) true ty).run Tryz.prog (w.iter s k) = _:=fun ty => run_next_end w s k ty hp;go_wp2;go_returns;exact ⟨zct (by rw [HN.out,zbc s k (by omega)]; rfl),(Below.refl w.heap.size w).alloc (Nat.le_refl _) _⟩
theorem zhw (base : Int) (hb : 0 <= base) : ∀ (l : List UInt8) (n : Int),0 <= n -> -1 <= zw base n l:=by
 intro l;induction l with
 | nil => intro n h; simp only [zw]; omega
 | cons b t ih =>
  intro n h;simp only [zw];split
  ·omega
  ·refine ih _ ?_;have : 0 <= n * base:=Int.mul_nonneg h hb;omega
theorem numFrom16_le : ∀ (l : List UInt8) (n : Int) (k : Nat),0 <= n -> n < pow16 k -> zw 16 n l < pow16 (k + l.length):=by
 intro l;induction l with
 | nil => intro n k h h'; simpa [zw] using h'
 | cons b t ih =>
  intro n k h h';have hd:=zeh (b.toNat : Int);have hp : ∀ j,0 < pow16 j:=(by intro j; induction j with | zero => decide | succ j ih => simp only [pow16]; omega);simp only [zw];split
  ·have:=hp (k + (b :: t).length); omega
  ·have:=ih (n * 16 + zt (b.toNat : Int)) (k + 1) (by omega) (by simp only [pow16]; omega);rw [show k + (b :: t).length = k + 1 + t.length by simp; omega];exact this
theorem numFrom10_le : ∀ (l : List UInt8) (n : Int) (k : Nat),0 <= n -> n < pow10 k -> zw 10 n l < pow10 (k + l.length):=by
 intro l;induction l with
 | nil => intro n k h h'; simpa [zw] using h'
 | cons b t ih =>
  intro n k h h';have hp : ∀ j,0 < pow10 j:=(by intro j; induction j with | zero => decide | succ j ih => simp only [pow10]; omega);simp only [zw];split
  ·have:=hp (k + (b :: t).length); omega
  ·rename_i hh;have:=ih (n * 10 + zt (b.toNat : Int)) (k + 1) (by omega) (by simp only [pow10]; omega);rw [show k + (b :: t).length = k + 1 + t.length by simp; omega];exact this
theorem numS16_bd (l : List UInt8) : -1 <= numS 16 6 l /\ numS 16 6 l <= 16777215:=by
 unfold numS;split
 ·omega
 ·rename_i h;have h1:=zhw 16 (by omega) l 0 (by omega);have h2:=numFrom16_le l 0 0 (by omega) (by decide);have h3:=zlj (0 + l.length) (by omega);omega
theorem numS10_bd (l : List UInt8) : -1 <= numS 10 5 l /\ numS 10 5 l <= 16777215:=by
 unfold numS;split
 ·omega
 ·rename_i h;have h1:=zhw 10 (by omega) l 0 (by omega);have h2:=numFrom10_le l 0 0 (by omega) (by decide);have h3:=zlk (0 + l.length) (by omega);omega
def hexS (l : List UInt8) : Int × Int :=
 if numS 16 6 l < 0 then (0,10) else if zaj (numS 16 6 l) = true then (numS 16 6 l,0) else (0,11)
def decS (l : List UInt8) : Int × Int:=if numS 10 5 l < 0 then (0,10) else (numS 10 5 l,0)
theorem zmq {a b a' b' : Int} (h1 : a = a') (h2 : b = b') : Ending.returned (.tuple #[.int .i32 a,.int .i64 b]) = .returned (.tuple #[.int .i32 a',.int .i64 b']):=by rw [h1,h2]
theorem zno {a b a' b' : Int} (h1 : a = a') (h2 : b = b') : Ending.returned (.tuple #[.int .i64 a,.int .i64 b]) = .returned (.tuple #[.int .i64 a',.int .i64 b']):=by rw [h1,h2]
theorem hex_any (s : ByteArray) (w : World) (hs : s.size <= 9223372036854775807) :
  Calls Tryz.prog 106 #[.string s] w fun e w' => e = .returned (.tuple #[.int .i32 (hexS (bs s)).1,.int .i64 (hexS (bs s)).2]) /\ Below w.heap.size w w':=by
 have hbd:=numS16_bd (bs s);obtain ⟨n,hn⟩ : ∃ n,n = numS 16 6 (bs s):=⟨_,rfl⟩;have hx : hexS (bs s) = if n < 0 then (0,10) else if zaj n = true then (n,0) else (0,11):=(by rw [hn]; rfl);rw [<- hn] at hbd;obtain ⟨hb0,hb1⟩:=hbd;have HN:=hz0q hn; clear hn
 by_cases h0 : n < 0
 ·rw [if_pos h0] at hx;have HX:=hz0q hx; clear hx;go_enter Tryz.func106,Tryz.ntmps106;go_wp2_with fail;refine (zih s _ hs).mono ?_;rw [<- HN.out];rintro e w' ⟨rfl,hb⟩;go_wp2;go_returns;exact ⟨zmq (by rw [HX.out]) (by rw [HX.out]),hb⟩
 ·rw [if_neg h0] at hx;have h0' : 0 <= n:=(by omega);rcases Bool.eq_false_or_eq_true (zaj n) with hsc | hsc
  ·rw [if_pos hsc] at hx;have HX:=hz0q hx; clear hx;go_enter Tryz.func106,Tryz.ntmps106;go_wp2_with fail;refine (zih s _ hs).mono ?_;rw [<- HN.out];rintro e w' ⟨rfl,hb⟩;go_wp2_with (go_at_call 64; refine (zb0 _ _).mono ?_; rintro e w' ⟨rfl,rfl⟩)
   go_returns;exact ⟨zmq (by rw [HX.out]) (by rw [HX.out]),hb⟩
  ·rw [if_neg (by rw [hsc]; simp)] at hx;have HX:=hz0q hx; clear hx;go_enter Tryz.func106,Tryz.ntmps106;go_wp2_with fail;refine (zih s _ hs).mono ?_;rw [<- HN.out];rintro e w' ⟨rfl,hb⟩;go_wp2_with (go_at_call 64; refine (zb0 _ _).mono ?_; rintro e w' ⟨rfl,rfl⟩)
   go_returns;exact ⟨zmq (by rw [HX.out]) (by rw [HX.out]),hb⟩
theorem dec_any (s : ByteArray) (w : World) (hs : s.size <= 9223372036854775807) :
  Calls Tryz.prog 107 #[.string s] w fun e w' => e = .returned (.tuple #[.int .i64 (decS (bs s)).1,.int .i64 (decS (bs s)).2]) /\ Below w.heap.size w w':=by
 have hbd:=numS10_bd (bs s);obtain ⟨n,hn⟩ : ∃ n,n = numS 10 5 (bs s):=⟨_,rfl⟩;have hx : decS (bs s) = if n < 0 then (0,10) else (n,0):=(by rw [hn]; rfl);rw [<- hn] at hbd;obtain ⟨hb0,hb1⟩:=hbd;have HN:=hz0q hn; clear hn
 by_cases h0 : n < 0
 ·rw [if_pos h0] at hx;have HX:=hz0q hx; clear hx;go_enter Tryz.func107,Tryz.ntmps107;go_wp2_with fail;refine (zlo s _ hs).mono ?_;rw [<- HN.out];rintro e w' ⟨rfl,hb⟩;go_wp2;go_returns;exact ⟨zno (by rw [HX.out]) (by rw [HX.out]),hb⟩
 ·rw [if_neg h0] at hx;have h0' : 0 <= n:=(by omega);have HX:=hz0q hx; clear hx;go_enter Tryz.func107,Tryz.ntmps107;go_wp2_with fail;refine (zlo s _ hs).mono ?_;rw [<- HN.out];rintro e w' ⟨rfl,hb⟩;go_wp2;go_returns;exact ⟨zno (by rw [HX.out]) (by rw [HX.out]),hb⟩
end
section
open Go.RowKit
abbrev Ss (ls : List (List UInt8)) : List Value:=ls.map (fun l => Value.string (mk8 l))
def zh7 (w : World) (ls : List (List UInt8)) (e : Ending) (w' : World) : Prop :=
 ∃ A c,e = .returned (.slice A ls.length c) /\ w'.ownsRow w.heap.size 9 1 (.slice A ls.length c) ls.length (Ss ls) /\ Below w.heap.size w w'
theorem zh7.rd {w w' : World} {ls : List (List UInt8)} {e : Ending} (h : zh7 w ls e w') : ∃ A c,e = .returned (.slice A ls.length c) /\ Rd w' A ls.length (Ss ls) /\ Below w.heap.size w w':=by
 obtain ⟨A,c,he,hown,hb⟩:=h;obtain ⟨A',c',e2,_,_,hr⟩:=Rd.of_own hown;injection e2 with e2a _ _;subst e2a;exact ⟨A,c,he,hr,hb⟩
theorem znd {ls : List (List UInt8)} {k : Nat} {l : List UInt8} (h : ls[k]? = some l) : (Ss ls)[k]? = some (.string (mk8 l)):=by simp [h]
end
end Go.Proofs.YtolcabjkbefjgaaGreatDoor
