/- The keys of a map of characters, gone through: printed by mkkeya.py. slices.Values, gone through; the characters that a base knows. Whether a character leads back to itself: the code. When all that is known ends, all ends. Plain. Which characters are made of two, gathered in any order. Plain. -/
import Derived.Test.YtolcabjkbefjgaaGreatDoorY17
import Derived.Test.YtolcabjkbefjgaaGreatDoorY19
set_option linter.unusedSimpArgs false
set_option linter.unusedVariables false
set_option maxRecDepth 20000
set_option maxHeartbeats 4000000
namespace Go.Proofs.YtolcabjkbefjgaaGreatDoor
section
open Go.RowKit Go.Lib Go.Maps Go.Sort Go.Shelf
attribute [local go_sem] Oper.semAt_some
section
variable {α β : Type} {P : Program} {K : TypeId} {mk : α -> Value} {lit : α -> Lit} {ok : α -> Prop} {mkV : β -> Value} {w : World} {b m : Nat} {f : α -> Option β} {F : Fence} {n : Nat}
variable {ops : Array Oper} {rest : List Oper} {o : Oper} {a : Act} {Q : Exit -> Act -> World -> Prop}
theorem wpListIn_rangeF {t e : TypeId} (hg : o.guard = none) (x : Operand) (hop : o.op = Op.range t x) (B : KeyB P K mk lit ok) (ht : P.underlying t = some (.map K e)) (h : MapF w P K lit ok mkV b m f) (hm : a.eval x = .map (some b))
  (hK : ∀ w' cnt,MapR w' P K lit ok mkV b w.heap.size m f (fun a => (f a).isSome) cnt -> cnt <= m -> w.grownBy w' none -> w'.heap.size = w.heap.size + 1 -> wpListIn F n P ops Q rest (a.put o.dst (.pointer (some ⟨w.heap.size,0,none⟩))) w') : wpListIn F n P ops Q (o :: rest) a w:=by
 refine wpListIn_plain hg fun K' hK' => ?_;obtain ⟨w',cnt,hrun,r1,r2,r3,r4⟩:=h.range B ht;unfold Oper.wpIn;refine ⟨by simp [Oper.about,hop],?_⟩;rw [Oper.semAt_plain F _ _ (by rw [hop]; intro c hc'; cases hc')];simp [execOp,hop,hm,hrun,Result.andThen];exact hK' _ _ (hK w' cnt r1 r2 r3 r4)
theorem wpListIn_nextF [DecidableEq α] {r : Nat} {left : α -> Bool} {cnt : Nat} (hg : o.guard = none) (it : Operand) (hop : o.op = Op.next it false) (B : KeyB P K mk lit ok) (hit : a.eval it = .pointer (some ⟨r,0,none⟩)) (h : MapR w P K lit ok mkV b r m f left cnt)
  (hDone : (∀ a,ok a -> left a = false) -> wpListIn F n P ops Q rest (a.put o.dst (.tuple #[.bool false])) w)
  (hMore : ∀ x c w' cnt',ok x -> left x = true -> f x = some c -> MapR w' P K lit ok mkV b r m f (fun a => left a && !decide (a = x)) cnt' -> cnt' < cnt -> w.grownBy w' (some r) -> w'.heap.size = w.heap.size ->
   (Instr.entry (.pointer (some ⟨r,0,none⟩))).run P w' = .ok (.tuple #[mk x,mkV c]) w' -> wpListIn F n P ops Q rest (a.put o.dst (.tuple #[.bool true,mk x,mkV c])) w') : wpListIn F n P ops Q (o :: rest) a w:=by
 refine wpListIn_plain hg fun K' hK' => ?_;unfold Oper.wpIn;refine ⟨by simp [Oper.about,hop],?_⟩;rw [Oper.semAt_plain F _ _ (by rw [hop]; intro c hc'; cases hc')];rcases h.next B o.type with ⟨h0,hrun⟩ | ⟨x,c,w',cnt',h1,h2,h3,hrun,h4,h5,h6,h7,h8⟩
 ·simp [execOp,hop,hit,hrun,Result.andThen];exact hK' _ _ (hDone h0)
 ·simp [execOp,hop,hit,hrun,Result.andThen];exact hK' _ _ (hMore x c w' cnt' h1 h2 h3 h4 h5 h6 h7 h8)
theorem MapR.of_walks {w' : World} {r : Nat} {left : α -> Bool} {cnt : Nat} (h : MapR w P K lit ok mkV b r m f left cnt) (hk : KeepsWalks w w') : MapR w' P K lit ok mkV b r m f left cnt:=by
 obtain ⟨D,L,h,s,hl⟩:=h;exact ⟨D,L,h.of_walks hk,s,hl⟩
theorem MapR.iter_walk {r : Nat} {left : α -> Bool} {cnt : Nat} (h : MapR w P K lit ok mkV b r m f left cnt) : ∃ o : Obj,w.heap[r]? = some o /\ o.isWalk = true:=by
 obtain ⟨D,L,h,s,hl⟩:=h;exact h.iter_walk
def Came (ok : α -> Prop) (f : α -> Option β) (left : α -> Bool) (ss : List α) : Prop:=ss.Nodup /\ ∀ x,x ∈ ss ↔ ok x /\ (f x).isSome = true /\ left x = false
theorem Came.start : Came ok f (fun a => (f a).isSome) []:=⟨List.nodup_nil,fun x => by
 constructor
 ·intro h; cases h
 ·rintro ⟨_,h1,h2⟩
  simp [h1] at h2⟩
theorem Came.step [DecidableEq α] {left : α -> Bool} {ss : List α} (h : Came ok f left ss) {x : α} {c : β} (hx : ok x) (hl : left x = true) (hf : f x = some c) : Came ok f (fun a => left a && !decide (a = x)) (ss ++ [x]):=by
 obtain ⟨h1,h2⟩:=h
 have hn : x ∉ ss:=fun hm => by
  have:=((h2 x).1 hm).2.2;rw [hl] at this
  cases this
 refine ⟨?_,fun y => ?_⟩
 ·rw [List.nodup_append];refine ⟨h1,by simp,?_⟩;intro a ha b' hb' e;simp at hb';subst hb';subst e;exact hn ha
 ·rw [List.mem_append,h2 y,List.mem_singleton];constructor
  ·rintro (⟨a1,a2,a3⟩ | rfl)
   ·exact ⟨a1,a2,by simp [a3]⟩
   ·exact ⟨hx,by rw [hf]; rfl,by simp⟩
  ·rintro ⟨a1,a2,a3⟩
   by_cases e : y = x
   ·exact .inr e
   ·exact .inl ⟨a1,a2,by simpa [e] using a3⟩
def zek (ok : α -> Prop) (f : α -> Option β) (ss : List α) : Prop:=ss.Nodup /\ ∀ x,x ∈ ss ↔ ok x /\ (f x).isSome = true
theorem Came.all {left : α -> Bool} {ss : List α} (h : Came ok f left ss) (hl : ∀ a,ok a -> left a = false) : zek ok f ss :=
 ⟨h.1,fun x => by rw [h.2 x]; exact ⟨fun ⟨a,b,_⟩ => ⟨a,b⟩,fun ⟨a,b⟩ => ⟨a,b,hl x a⟩⟩⟩
end
theorem keys1P_in (F : Fence) (n : Nat) (h10 : F.fn 116) (hro : F.round = none) (hn : 1 <= n) (l Bm b nn : Nat) (f : Int -> Option PV) (J : List Int -> World -> Prop)
  (hY : ∀ pre x W,J pre W -> pre.length < nn -> YieldAt F (n - 1) Tryz.prog l #[runeV x] W fun e W' => e = .returned (.bool true) /\ J (pre ++ [x]) W' /\ KeepsWalks W W')
  (W : World) (hJ : AbidesFrom W.heap.size J) (hm : W.cell? ⟨Bm,0,none⟩ = some (.map (some b))) (hown : MapF W Tryz.prog 21 zn R32 partV b nn f) (h0 : J [] W) :
  CallsIn F n Tryz.prog 116 #[.func (.yield l) #[] #[],.pointer (some ⟨Bm,0,none⟩)] W fun e W' => (∃ v,e = .returned v) /\ ∃ ss : List Int,zek R32 f ss /\ J ss W':=by
 refine callsIn_of_wp Tryz.func116 rfl h10 ?_ hro;simp only [Tryz.ntmps116,List.size_toArray,List.length_cons,List.length_nil,Nat.reduceAdd,Nat.reduceSub,Array.replicate_succ,Array.replicate_zero,List.push_toArray,List.append_toArray,List.nil_append,List.cons_append]
 gi_wp2_with (first
  | (gi_at_range; refine wpListIn_rangeF rfl _ rfl zh zll hown rfl ?_; intro w0 cnt0 hrg0 hcn0 hg0 hs0)
  | gi_in)
 go_frame
 gi_loopw [3] (fun _ wr => ∃ (left : Int -> Bool) (cnt : Nat) (ss : List Int),MapR wr Tryz.prog 21 zn R32 partV b W.heap.size nn f left cnt /\ ss.length + cnt <= nn /\ Came R32 f left ss /\ J ss wr)
  (fun _ wr => wr.rangeLeft b W.heap.size)
 case atStart =>
  exact ⟨_,_,[],hrg0,by simpa using hcn0,Came.start,hJ [] W w0 none h0 hg0 (fun r e => by cases e)⟩
 case round =>
  obtain ⟨left,cnt,ss,hrg,hcs,hC,hJs⟩:=hrel
  gi_wp2_with (first
   | (gi_at_next; refine wpListIn_nextF rfl _ rfl zh rfl hrg ?_ (fun x c w2 cnt2 hx hlk hf hrg2 hlt hg2 hs2 hen => ?_))
   | gi_in)
  ·intro hl0
   gi_wp2
   go_end0;exact ⟨⟨_,rfl⟩,ss,hC.all hl0,hJs⟩
  ·have hJ2 : J ss w2:=hJ ss wr w2 (some W.heap.size) hJs hg2 (fun r e => by cases e; exact ⟨Nat.le_refl _,hrg.iter_walk⟩);obtain ⟨fn,tmps,assign,body,hy,hR⟩:=hY ss x w2 hJ2 (by omega);dsimp only [runeV] at hy;have HC:=hz0q (hC.step hx hlk hf);have HL:=hz0q (And.intro hrg.left_eq hlt);clear hs2 hf hlk hY hC hrg hlt;dsimp only [runeV]
   gi_wp2
   rw [hy]
   gi_wp2
   refine hR.mono ?_;rintro e W3 ⟨rfl,hJ3,hk3⟩
   gi_wp2
   have hrg3:=hrg2.of_walks hk3;go_roundw
   case rel => exact ⟨_,cnt2,ss ++ [x],hrg3,by simp; have:=HL.out.2; omega,HC.out,hJ3⟩
   case measure => rw [hrg3.left_eq,HL.out.1]; exact HL.out.2
theorem keysP_gives (F : Fence) (n : Nat) (h10 : F.fn 116) (hro : F.round = none) (hn : 1 <= n) (Bm b nn : Nat) (f : Int -> Option PV) (w : World) (hBm : Bm < w.heap.size)
  (hm : w.cell? ⟨Bm,0,none⟩ = some (.map (some b))) (hown : MapF w Tryz.prog 21 zn R32 partV b nn f) :
  SeqGives F n Tryz.prog 116 #[.pointer (some ⟨Bm,0,none⟩)] runeV (fun ss => zek R32 f ss) nn w:=fun l J W hW hJ hY h0 =>
 keys1P_in F n h10 hro hn l Bm b nn f J hY W hJ ((hW.cell (p:=⟨Bm,0,none⟩) hBm).trans hm) (hown.below hW hown.lt) h0
theorem keysP_any (mb : Option Nat) (w : World) :
  Calls Tryz.prog 72 #[.map mb] w fun e w' => e = .returned (.func (.func 116) #[] #[.pointer (some ⟨w.heap.size,0,none⟩)]) /\ w' = w.alloc (.cells #[.map mb] 76):=by
 go_enter Tryz.func72,Tryz.ntmps72;go_wp2;go_returns;exact ⟨rfl,rfl⟩
end
section
open Go.RowKit Go.Lib Go.Maps Go.Sort Go.Shelf
attribute [local go_sem] Oper.semAt_some
def KpV (g : Nat) (W W' : World) : Prop:=W.heap.size <= W'.heap.size /\ W'.heap[g]? = W.heap[g]?
theorem KpV.refl (g : Nat) (W : World) : KpV g W W:=⟨Nat.le_refl _,rfl⟩
theorem KpV.trans {g : Nat} {A B C : World} (h : KpV g A B) (k : KpV g B C) : KpV g A C:=⟨Nat.le_trans h.1 k.1,k.2.trans h.2⟩
theorem KpV.put {g : Nat} {B : Nat} (hg : g < B) (W : World) (l : Nat) (o o' : Obj) (hl : B <= l) (_ : W.heap[l]? = some o) (_ : o.isCells = false) (_ : o.isWalk = false) : KpV g W (W.putObj l o') :=
 ⟨by simp [World.putObj],World.putObj_heap_other (by omega)⟩
theorem KpV.cell {g off : Nat} {W W' : World} (h : KpV g W W') : W'.cell? ⟨g,off,none⟩ = W.cell? ⟨g,off,none⟩:=World.cell?_of_block h.2
def ItAt (w : World) (g Bs : Nat) (ks : List Int) : Prop :=
 Bs < w.heap.size /\ ((ks = [] /\ w.cell? ⟨Bs,0,none⟩ = some (.slice none 0 0)) \/ (g < w.heap.size /\ ∃ cap,w.cell? ⟨Bs,0,none⟩ = some (.slice (some ⟨g,0,none⟩) ks.length cap) /\ ∀ j u,(Rs ks)[j]? = some u -> w.cell? ⟨g,0 + j,none⟩ = some u))
theorem values_any (A : Option Addr) (n c : Nat) (w : World) :
  Calls Tryz.prog 70 #[.slice A n c] w fun e w' => e = .returned (.func (.func 114) #[] #[.pointer (some ⟨w.heap.size,0,none⟩)]) /\ w' = w.alloc (.cells #[.slice A n c] 42):=by
 go_enter Tryz.func70,Tryz.ntmps70;go_wp2;go_returns;exact ⟨rfl,rfl⟩
def KnownP (prt : Int -> Option (List UInt8 × List Int)) (n : Nat) (w : World) (e : Ending) (w' : World) : Prop :=
 ∃ g Bs ks,e = .returned (.func (.func 114) #[] #[.pointer (some ⟨Bs,0,none⟩)]) /\ ItAt w' g Bs ks /\ zek R32 prt ks /\ ks.length <= n /\ w.heap.size <= Bs /\ w.heap.size <= g /\ g < w'.heap.size /\ Below w.heap.size w w'
section
variable {w : World} {bp n : Nat} {a : BAddr} {cls : Int -> Int} {prt : Int -> Option (List UInt8 × List Int)} {pr : Int × Int -> Option Int} {md : Int -> Option (Int × Int)} {sc : Int -> Option Int}
theorem zju (h : BaseM w bp a n cls prt pr md sc) (hn : n <= 1000000) : Calls Tryz.prog 29 #[.pointer (some ⟨bp,0,none⟩)] w (KnownP prt n w):=by
 have c1:=za h.box 1 rfl;obtain ⟨f,hm,hp⟩:=h.prt
 have hsome : ∀ r,R32 r -> (f r).isSome = (prt r).isSome:=fun r hr => by
  have:=hp r hr
  cases hf : f r <;> cases hq : prt r <;> rw [hf,hq] at this <;> first | rfl | exact this.elim
 have hbl:=hm.lt;refine (callsIn_wide (n:=6)).1 ?_;have hro : Fence.wide.round = none:=rfl;have h1 : 1 <= 6:=(by omega);refine callsIn_of_wp Tryz.func29 rfl trivial ?_ hro;simp only [Tryz.ntmps29,List.size_toArray,List.length_cons,List.length_nil,Nat.reduceAdd,Nat.reduceSub,Array.replicate_succ,Array.replicate_zero,List.push_toArray,List.append_toArray,List.nil_append,List.cons_append];have KY:=keysP_any (some a.m1) w;have ba : Below w.heap.size w (w.alloc (.cells #[.map (some a.m1)] 76)):=(Below.refl _ _).alloc (Nat.le_refl _) _;have hg:=keysP_gives Fence.wide (6 - 1 - 1 - 1 - 1) trivial rfl (by omega) w.heap.size a.m1 n f (w.alloc (.cells #[.map (some a.m1)] 76)) (by simp) (za (zm w _ _) 0 rfl) (hm.alloc _);have SO:=sorted_in (6 - 1) (by omega) 116 #[.pointer (some ⟨w.heap.size,0,none⟩)] (enters_of Tryz.func116 (by kernel_rfl) rfl) _ n (by unfold maxLen; omega) (by omega) _ hg;clear hm hp hg h
 gi_wp2
 refine ⟨trivial,(callsIn_wide.2 KY).mono ?_⟩;rintro e w' ⟨rfl,rfl⟩
 gi_wp2
 refine ⟨trivial,SO.mono ?_⟩;rintro e w2 ⟨A,c,ss,rfl,hS,hown,hA,hle,hb2⟩
 gi_wp2
 refine ⟨trivial,(callsIn_wide.2 (values_any _ _ _ _)).mono ?_⟩;rintro e w3 ⟨rfl,rfl⟩
 gi_wp2
 go_ret
 have hb3 : Below w.heap.size w w2:=zb ba hb2;have hs3:=hb3.size;have hs2:=hb2.size;simp only [World.size_alloc] at hs2;have hbn : Below w.heap.size w (w2.alloc (.cells #[.slice A ss.length c] 42)):=hb3.alloc hs3 _;have hcb : (w2.alloc (.cells #[.slice A ss.length c] 42)).cell? ⟨w2.heap.size,0,none⟩ = some (.slice A ss.length c):=za (zm w2 _ _) 0 rfl
 have hall : zek R32 prt (srt ss):=by
  refine ⟨(zdp ss).nodup_iff.2 hS.1,fun x => ?_⟩;rw [(zdp ss).mem_iff,hS.2 x];constructor
  ·rintro ⟨h1,h2⟩; exact ⟨h1,by rw [<- hsome x h1]; exact h2⟩
  ·rintro ⟨h1,h2⟩; exact ⟨h1,by rw [hsome x h1]; exact h2⟩
 have hl : (srt ss).length = ss.length:=(zdp ss).length_eq;rcases hown.2 with ⟨hv,hz⟩ | ⟨g,cap,cur,hv,hbase,hgb,r1,r2,r3,r4⟩
 ·injection hv with e1 e2 e3;subst e1 e3;have hse : srt ss = []:=List.eq_nil_of_length_eq_zero (by omega);exact ⟨w2.heap.size,w2.heap.size,srt ss,rfl,⟨by simp,.inl ⟨hse,by rw [hcb,hz]⟩⟩,hall,by omega,hs3,hs3,by simp,hbn⟩
 ·injection hv with e1 e2 e3;subst e1 e3;have hgl:=(Array.getElem?_eq_some_iff.1 hgb).1;refine ⟨g,w2.heap.size,srt ss,rfl,⟨by simp,.inr ⟨by simp; omega,_,by rw [hl]; exact hcb,fun j u hu => ?_⟩⟩,hall,by omega,hs3,by simp at hbase; omega,by simp; omega,hbn⟩;obtain ⟨A2,c2,hv2,_,_,hr⟩:=Rd.of_own hown;injection hv2 with i1 i2 i3;have hj : j < (Rs (srt ss)).length:=(List.getElem?_eq_some_iff.1 hu).1;have hpos : 0 < ss.length:=(by rw [<- hl]; simp [Rs] at hj; omega);obtain ⟨b,off,he,hbl2,hcx⟩:=hr.at_ hpos;rw [<- i1] at he;injection he with he;injection he with he1 he2;subst he1 he2;exact (World.cell?_of_block (Below.heap_alloc w2 _ g hgl)).trans (hcx j u hu)
end
end
section
open Go.RowKit Go.Lib Go.Maps
inductive Down (D : Int -> List Int) : Int -> Int -> Prop
 | one {x y : Int} : y ∈ D x -> Down D x y
 | more {x y z : Int} : Down D x y -> z ∈ D y -> Down D x z
theorem Down.cut {D : Int -> List Int} {x z : Int} (h : Down D x z) : ∃ c ∈ D x,c = z \/ Down D c z:=by
 induction h with
 | one h => exact ⟨_,h,.inl rfl⟩
 | more _ hz ih =>
  obtain ⟨c,hc,rfl | hd⟩:=ih
  ·exact ⟨_,hc,.inr (.one hz)⟩
  ·exact ⟨_,hc,.inr (.more hd hz)⟩
def Ends (D : Int -> List Int) (x : Int) : Prop:=Acc (fun y x => y ∈ D x) x
theorem Ends.irr {D : Int -> List Int} {a : Int} (h : Ends D a) : ¬ Down D a a:=by
 induction h with
 | intro a _ ih =>
  intro hd;obtain ⟨c,hc,e | hd2⟩:=hd.cut
  ·subst e; exact ih _ hc hd
  ·exact ih c hc (.more hd2 hc)
theorem Ends.of {D : Int -> List Int} {a : Int} (h : ∀ y ∈ D a,Ends D y) : Ends D a:=Acc.intro _ h
theorem zch : Tryz.prog.underlying 79 = some (.map 21 3):=secsT
structure LSt (w : World) (wb db : Nat) (D : Int -> List Int) (wy dn : Int -> Option Int) : Prop where
 mwy : MapF w Tryz.prog 21 zn R32 intV wb 1114112 wy
 mdn : MapF w Tryz.prog 21 zn R32 intV db 1114112 dn
 mw : Marks wy
 md : Marks dn
 ok : ∀ x,gd dn x = 1 -> Ends D x
abbrev MB (wb db : Nat) (k : Nat) : Prop:=k = wb \/ k = db
theorem zij {w : World} {b n : Nat} {f : Int -> Option Int} (h : MapF w Tryz.prog 21 zn R32 intV b n f) (hm : Marks f) : MapF w Tryz.prog 21 zn R32 intV b 1114112 f:=by
 have:=h.tight zh hm.2;rwa [zmc] at this
theorem below_wr {W0 w w' : World} {wb db : Nat} (hb : Below W0.heap.size W0 w) (hW : Wrote (MB wb db) w w') (h1 : W0.heap.size <= wb) (h2 : W0.heap.size <= db) : Below W0.heap.size W0 w' :=
 hb.trans (hW.below (by rintro k (rfl | rfl) <;> assumption) hb.size)
def zki (wb db : Nat) (D : Int -> List Int) (wy dn : Int -> Option Int) (r : Int) (w : World) (e : Ending) (w' : World) : Prop :=
 Wrote (MB wb db) w w' /\ ((e = .returned (.bool true) /\ ∃ x ∈ allR,¬ Ends D x) \/
 (e = .returned (.bool false) /\ ∃ wy' dn',LSt w' wb db D wy' dn' /\ (∀ x,gd wy' x = gd wy x) /\ (∀ x,gd dn x = 1 -> gd dn' x = 1) /\ (∀ x,gd wy x = 1 -> gd dn' x = gd dn x) /\ gd dn' r = 1))
def LoI (wb db : Nat) (D : Int -> List Int) (wy1 dn : Int -> Option Int) (il : List Int) (w2 wr : World) (k : Nat) : Prop :=
 ∃ wy' dn',LSt wr wb db D wy' dn' /\ (∀ x,gd wy' x = gd wy1 x) /\ (∀ x,gd dn x = 1 -> gd dn' x = 1) /\ (∀ x,gd wy1 x = 1 -> gd dn' x = gd dn x) /\ (∀ y ∈ il.take k,gd dn' y = 1) /\ Wrote (MB wb db) w2 wr
section
variable {W0 : World} {bp n : Nat} {a : BAddr} {cls : Int -> Int} {prt : Int -> Option (List UInt8 × List Int)} {pr : Int × Int -> Option Int} {md : Int -> Option (Int × Int)} {sc : Int -> Option Int}
theorem loops_any (h : BaseM W0 bp a n cls prt pr md sc) (hk : Kinds W0) (hD : ∀ x ∈ allR,∀ y ∈ (decH prt x).2,y ∈ allR) (hDl : ∀ x,(decH prt x).2.length <= 18) {wb db : Nat} (hwd : wb ≠ db) (hwb : W0.heap.size <= wb) (hdb : W0.heap.size <= db) :
  ∀ (m : Nat) (w : World) (r : Int) (wy dn : Int -> Option Int),r ∈ allR -> cntL allR wy < m -> Below W0.heap.size W0 w -> LSt w wb db (fun x => (decH prt x).2) wy dn -> (∀ x,gd wy x = 1 -> Down (fun x => (decH prt x).2) x r) ->
  Calls Tryz.prog 30 #[.pointer (some ⟨bp,0,none⟩),.int .i32 r,.map (some wb),.map (some db)] w (zki wb db (fun x => (decH prt x).2) wy dn r w):=by
 intro m;induction m with
 | zero => intro w r wy dn _ hc; exact absurd hc (Nat.not_lt_zero _)
 | succ m ih =>
  intro w r wy dn hr hcnt hb hS hdown;obtain ⟨D,hDe⟩ : ∃ D,D = fun x => (decH prt x).2:=⟨_,rfl⟩;have HDE:=hz0q hDe;rw [<- hDe] at ih hS hdown;rw [<- hDe];have hrR : R32 r:=zea hr;have hmx : 1114112 < maxLen:=by unfold maxLen; omega
  by_cases hdone : gd dn r = 1
  ·have hdn:=hS.mdn;have HG : Hid ((dn r).getD 0 = 1):=hdone;have HP : Hid (zki wb db D wy dn r w (.returned (.bool false)) w):=⟨Wrote.refl _ _,.inr ⟨rfl,wy,dn,hS,fun _ => rfl,fun _ h => h,fun _ _ => rfl,hdone⟩⟩;clear ih hDe hdone hcnt hS hdown hD hDl h;go_enter Tryz.func30,Tryz.ntmps30;go_wp2_with (first | (at_lookup; refine zj rfl _ _ rfl zh zch (zaw _) hdn (k:=r) hrR rfl rfl ?_; rw [HG.out]) | go_in)
   go_returns;exact HP.out
  ·have hd0 : gd dn r = 0:=(hS.md.1 r).resolve_right hdone
   by_cases hway : gd wy r = 1
   ·have hdn:=hS.mdn;have hwy:=hS.mwy;have HG : Hid ((dn r).getD 0 = 0):=hd0;have HW : Hid ((wy r).getD 0 = 1):=hway;have HP : Hid (zki wb db D wy dn r w (.returned (.bool true)) w):=⟨Wrote.refl _ _,.inl ⟨rfl,r,hr,fun he => he.irr (hdown r hway)⟩⟩;clear ih hDe hdone hcnt hS hdown hD hDl h hd0 hway;go_enter Tryz.func30,Tryz.ntmps30;go_wp2_with (first | (at_lookup; refine zj rfl _ _ rfl zh zch (zaw _) hdn (k:=r) hrR rfl rfl ?_; rw [HG.out]) | (at_lookup; refine zj rfl _ _ rfl zh zch (zaw _) hwy (k:=r) hrR rfl rfl ?_; rw [HW.out]) | go_in)
    go_returns;exact HP.out
   ·have hw0 : gd wy r = 0:=(hS.mw.1 r).resolve_right hway;have hdn:=hS.mdn;have hwy:=hS.mwy;have HG : Hid ((dn r).getD 0 = 0):=hd0;have HW : Hid ((wy r).getD 0 = 0):=hw0;have HWW : Hid (gd wy r = 0):=hw0;have HDR : Hid (D r = (decH prt r).2):=(by show _ = _; rw [hDe]);obtain ⟨il,hil⟩ : ∃ il,il = (decH prt r).2:=⟨_,rfl⟩;obtain ⟨kd,hkd⟩ : ∃ kd,kd = (decH prt r).1:=⟨_,rfl⟩;have HIL : Hid (D r = il):=(by show _ = _; rw [hil]; exact HDR.out);have hill : il.length <= 18:=(by rw [hil]; exact hDl r);have hilr : ∀ y ∈ il,y ∈ allR:=fun y hy => hD r hr y (by rw [<- hil]; exact hy)
    have DC : ∀ W,Below W0.heap.size W0 W -> Calls Tryz.prog 73 #[.pointer (some ⟨bp,0,none⟩),.int .i32 r] W (DecP kd il W):=fun W hW => by
     rw [hil,hkd];exact zfd (h.below hW) r hrR (hk.below' hW)
    have HCN:=hz0q hcnt;have HST:=hz0q hS;have HDN:=hz0q hdown;have HIH:=hz0q ih;have HBB:=hz0q hb;clear ih hDe hdone hcnt hS hdown hD hDl h hd0 hway hw0 hil hkd hb;go_enter Tryz.func30,Tryz.ntmps30;go_wp2_with (first | (at_lookup; refine zj rfl _ _ rfl zh zch (zaw _) hdn (k:=r) hrR rfl rfl ?_; rw [HG.out]) | (at_lookup; refine zj rfl _ _ rfl zh zch (zaw _) hwy (k:=r) hrR rfl rfl ?_; rw [HW.out]) | (refine zbk rfl _ _ _ rfl zh zch hmx hwy (k:=r) hrR 1 rfl rfl rfl ?_; intro w1 hm1 hg1 hs1; have hbw1:=HBB.out.grown hg1 HBB.out.size (fun k e => by cases e; exact hwb)) | (go_at_call 73; refine (DC _ hbw1).mono ?_; rintro e w2 ⟨A,c,rfl,hown,hb2⟩) | go_in)
    have hS:=HST.out;have hs12 : w1.heap.size <= w2.heap.size:=hb2.size;have hwl:=hS.mwy.lt;have hdl:=hS.mdn.lt
    have hm2 : LSt w2 wb db D (upd wy r (some 1)) dn:=by
     have e1:=zij hm1 (hS.mw.upd hr (.inr rfl));have e2:=hS.mdn.kept hg1 (by simpa using fun e => hwd e.symm);exact ⟨e1.below hb2 e1.lt,e2.below hb2 e2.lt,hS.mw.upd hr (.inr rfl),hS.md,hS.ok⟩
    obtain ⟨wy1,hwy1⟩ : ∃ f,f = upd wy r (some 1):=⟨_,rfl⟩;have HY : ∀ x,gd wy1 x = if x = r then 1 else gd wy x:=fun x => by rw [hwy1]; exact zd8
    rw [<- hwy1] at hm2;have HY1:=hz0q HY
    have hcn : cntL allR wy1 < m:=by
     have:=zn3 (f:=wy) (g:=wy1) (fun x hx => by rw [HY] at hx; by_cases e : x = r <;> simp [e] at hx; exact hx) (r:=r) HW.out (by rw [HY]; simp) hr;have:=HCN.out;omega
    have HDW : Hid (∀ x,gd wy1 x = 1 -> ∀ y ∈ il,Down D x y):=fun x hx y hy => by
     rw [<- HIL.out] at hy;rw [HY] at hx
     by_cases e : x = r
     ·rw [e]; exact .one hy
     ·rw [if_neg e] at hx; exact .more (HDN.out x hx) hy
    have hb02:=zb hbw1 hb2;have HW2 : Hid (Wrote (MB wb db) w w2):=(Wrote.grown hg1 fun k e => by cases e; exact .inl rfl).trans (.of_below hb2);obtain ⟨A2,c2,hv2,_,_,hrd⟩:=Rd.of_own hown;injection hv2 with hA2 hn2 hc2;rw [<- hA2] at hrd;clear hn2 hc2
    have HAB : Hid (∀ a,A = some a -> ¬ MB wb db a.block):=fun a ha => by
     rcases hown.2 with ⟨hv,_⟩ | ⟨g,cap,cur,hv,hbase,_⟩
     ·injection hv with e; rw [ha] at e; cases e
     ·injection hv with e _ _;rw [ha] at e;injection e with e;subst e;rintro (e | e) <;> simp only [] at e <;> omega
    clear hwy1 HY hown hm1 hg1 hs1 hbw1 hb2 hA2 hdn hwy HW hS
    go_loopw [33] (fun i wr => ∃ k : Nat,k <= il.length /\ i = .int .i64 k /\ LoI wb db D wy1 dn il w2 wr k) (fun i _ => il.length - (intOf i).toNat)
    case atStart => exact ⟨0,Nat.zero_le _,rfl,wy1,dn,hm2,fun _ => rfl,fun _ h => h,fun _ _ => rfl,by simp,Wrote.refl _ _⟩
    case round =>
     obtain ⟨k,hkl,rfl,wy',dn',hS',e1,e2,e3,e4,hW⟩:=hrel;have hbr : Below W0.heap.size W0 wr:=below_wr hb02 hW hwb hdb
     by_cases hlt : k < il.length
     ·obtain ⟨x,hx⟩ : ∃ x,il[k]? = some x:=⟨_,List.getElem?_eq_getElem hlt⟩;have hxm : x ∈ il:=List.mem_of_getElem? hx;have HC:=HIH.out wr x wy' dn' (hilr x hxm) (Nat.lt_of_le_of_lt (zn4 (fun y hy => by rw [<- e1 y]; exact hy) _) hcn) hbr hS' (fun y hy => HDW.out y (by rw [<- e1 y]; exact hy) x hxm);obtain ⟨b,off,rfl,hbl,hcx⟩:=(hrd.wrote hW (fun _ a ha => HAB.out a ha)).at_ (by omega);have c0 : wr.cell? ⟨b,off + k,none⟩ = some (.int .i32 x):=hcx k _ (by simp [Rs,hx]);have hi : (k : Int) < (il.length : Int):=(by omega);have HTK : Hid (il.take (k + 1) = il.take k ++ [x]):=(by show _ = _; rw [List.take_add_one,hx]; rfl);have HE:=hz0q (And.intro e1 (And.intro e2 (And.intro e3 e4)));clear hx hcx hS' e1 e2 e3 e4 hbl hxm;go_wp2_with fail;refine HC.mono ?_;rintro e w3 ⟨hW3,(⟨rfl,hex⟩ | ⟨rfl,wy2,dn2,hS3,i1,i2,i3,i4⟩)⟩
      ·have HP : Hid (zki wb db D wy dn r w (.returned (.bool true)) w3):=⟨(HW2.out.trans hW).trans hW3,.inl ⟨rfl,hex⟩⟩;clear HC hW3 hex hm2 hrd;go_wp2;go_returns;exact HP.out
      ·obtain ⟨e1,e2,e3,e4⟩:=HE.out
       have hI : LoI wb db D wy1 dn il w2 w3 (k + 1):=⟨wy2,dn2,hS3,fun y => (i1 y).trans (e1 y),fun y hy => i2 y (e2 y hy),fun y hy => (i3 y (by rw [e1 y]; exact hy)).trans (e3 y hy),fun y hy => by
        rw [HTK.out,List.mem_append,List.mem_singleton] at hy;rcases hy with hy | rfl
        ·exact i2 y (e4 y hy)
        ·exact i4,hW.trans hW3⟩
       clear HC hW3 i1 i2 i3 i4 e1 e2 e3 e4 hm2 hrd;go_wp2;go_roundw
       case rel => exact ⟨k + 1,by omega,by go_num,hI⟩
       case measure => simp [intOf]; omega
     ·obtain rfl : k = il.length:=(by omega);rw [List.take_length] at e4;have hi : (il.length : Int) <= (il.length : Int):=Int.le_refl _;have hwy':=hS'.mwy;have hdn':=hS'.mdn;have h1 : gd wy1 r = 1:=(by rw [HY1.out,if_pos rfl]);have HW' : Hid ((wy' r).getD 0 = 1):=(e1 r).trans h1;have HG' : Hid ((dn' r).getD 0 = 0):=(e3 r h1).trans HG.out;have HE:=hz0q (And.intro hS' (And.intro e1 (And.intro e2 (And.intro e3 e4))));have hne : (some db : Option Nat) ≠ some wb:=(by simpa using fun e => hwd e.symm);clear hS' e1 e2 e3 e4 hm2 h1 hrd hb02 hbr;go_wp2_with (first | (at_lookup; refine zj rfl _ _ rfl zh zch (zaw _) hwy' (k:=r) hrR rfl rfl ?_; rw [HW'.out]) | (refine zbk rfl _ _ _ rfl zh zch hmx hwy' (k:=r) hrR 0 rfl rfl rfl ?_; intro w4 hm4 hg4 hs4; have hdn4:=hdn'.kept hg4 hne) | (at_lookup; refine zj rfl _ _ rfl zh zch (zaw _) hdn4 (k:=r) hrR rfl rfl ?_; rw [HG'.out]) | (refine zbk rfl _ _ _ rfl zh zch hmx hdn4 (k:=r) hrR 1 rfl rfl rfl ?_; intro w5 hm5 hg5 hs5) | go_in)
      go_returns;obtain ⟨hS',e1,e2,e3,e4⟩:=HE.out;have n1:=zij hm4 (hS'.mw.upd hr (.inl rfl));have n2:=zij hm5 (hS'.md.upd hr (.inr rfl));refine ⟨((HW2.out.trans hW).trans (Wrote.grown hg4 fun k e => by cases e; exact .inl rfl)).trans (Wrote.grown hg5 fun k e => by cases e; exact .inr rfl),.inr ⟨rfl,_,_,⟨n1.kept hg5 (by simpa using hwd),n2,hS'.mw.upd hr (.inl rfl),hS'.md.upd hr (.inr rfl),fun x hx => ?_⟩,fun x => ?_,fun x hx => ?_,fun x hx => ?_,?_⟩⟩
      ·rw [zd8] at hx
       by_cases e : x = r
       ·subst e;exact Ends.of fun y hy => hS'.ok y (e4 y (by rw [<- HIL.out]; exact hy))
       ·rw [if_neg e] at hx; exact hS'.ok x hx
      ·rw [zd8]
       by_cases e : x = r
       ·rw [if_pos e,e]; exact HWW.out.symm
       ·rw [if_neg e,e1,HY1.out,if_neg e]
      ·rw [zd8]
       by_cases e : x = r
       ·rw [if_pos e]
       ·rw [if_neg e]; exact e2 x hx
      ·have e : x ≠ r:=fun e => by rw [e,HWW.out] at hx; cases hx
       rw [zd8,if_neg e];exact e3 x (by rw [HY1.out,if_neg e]; exact hx)
      ·rw [zd8,if_pos rfl]
end
end
section
section
variable {prt : Int -> Option (List UInt8 × List Int)}
theorem ze0 {r : Int} (h : 44032 <= r /\ r < 55204) : (decH prt r).2 = [(zx r).1,(zx r).2.1]:=by unfold decH; rw [if_pos h]
theorem zf4 {r : Int} (h : ¬ (44032 <= r /\ r < 55204)) : (decH prt r).2 = ((prt r).getD ([],[])).2:=by unfold decH; rw [if_neg h]
theorem zd3 (hK : ∀ r,(prt r).isSome = true -> Ends (fun x => (decH prt x).2) r) {r : Int} (h : ¬ (44032 <= r /\ r < 55204)) : Ends (fun x => (decH prt x).2) r:=by
 cases hp : prt r with
 | some q => exact hK r (by rw [hp]; rfl)
 | none =>
  refine Ends.of fun y hy => ?_;rw [zf4 h,hp] at hy
  cases hy
theorem zgi {r : Int} (h : 44032 <= r /\ r < 55204) (ht : (r - 44032) % 28 = 0) : (zx r).1 = 4352 + (r - 44032) / 588 /\ (zx r).2.1 = 4449 + (r - 44032) / 28 % 21:=by
 unfold zx;rw [if_pos h,if_neg (by omega)];exact ⟨rfl,rfl⟩
theorem zef {r : Int} (h : 44032 <= r /\ r < 55204) (ht : (r - 44032) % 28 ≠ 0) : (zx r).1 = r - (r - 44032) % 28 /\ (zx r).2.1 = 4519 + (r - 44032) % 28:=by
 unfold zx;rw [if_pos h,if_pos (by omega)];exact ⟨rfl,rfl⟩
theorem zm5 (hK : ∀ r,(prt r).isSome = true -> Ends (fun x => (decH prt x).2) r) {r : Int} (h : 44032 <= r /\ r < 55204) (ht : (r - 44032) % 28 = 0) : Ends (fun x => (decH prt x).2) r:=by
 refine Ends.of fun y hy => ?_;obtain ⟨e1,e2⟩:=zgi h ht;rw [ze0 h,e1,e2] at hy;simp only [List.mem_cons,List.not_mem_nil,or_false] at hy;rcases hy with rfl | rfl
 ·exact zd3 hK (by omega)
 ·exact zd3 hK (by omega)
theorem zf2 (hK : ∀ r,(prt r).isSome = true -> Ends (fun x => (decH prt x).2) r) (r : Int) : Ends (fun x => (decH prt x).2) r:=by
 by_cases h : 44032 <= r /\ r < 55204
 ·by_cases ht : (r - 44032) % 28 = 0
  ·exact zm5 hK h ht
  ·refine Ends.of fun y hy => ?_;obtain ⟨e1,e2⟩:=zef h ht;rw [ze0 h,e1,e2] at hy;simp only [List.mem_cons,List.not_mem_nil,or_false] at hy;rcases hy with rfl | rfl
   ·exact zm5 hK (by omega) (by omega)
   ·exact zd3 hK (by omega)
 ·exact zd3 hK h
theorem zj5 (hI : ∀ r q,prt r = some q -> ∀ y ∈ q.2,y ∈ allR) (x : Int) : ∀ y ∈ (decH prt x).2,y ∈ allR:=by
 intro y hy
 by_cases h : 44032 <= x /\ x < 55204
 ·by_cases ht : (x - 44032) % 28 = 0
  ·obtain ⟨e1,e2⟩:=zgi h ht;rw [ze0 h,e1,e2] at hy;simp only [List.mem_cons,List.not_mem_nil,or_false] at hy;rw [zdy];rcases hy with rfl | rfl <;> omega
  ·obtain ⟨e1,e2⟩:=zef h ht;rw [ze0 h,e1,e2] at hy;simp only [List.mem_cons,List.not_mem_nil,or_false] at hy;rw [zdy];rcases hy with rfl | rfl <;> omega
 ·rw [zf4 h] at hy
  cases hp : prt x with
  | none => rw [hp] at hy; cases hy
  | some q => rw [hp] at hy; exact hI x q hp y hy
theorem zl4 (hI : ∀ r q,prt r = some q -> q.2.length <= 18) (x : Int) : (decH prt x).2.length <= 18:=by
 by_cases h : 44032 <= x /\ x < 55204
 ·rw [ze0 h]; simp
 ·rw [zf4 h]
  cases hp : prt x with
  | none => simp
  | some q => exact hI x q hp
end
end
section
structure MkI (Q : Int -> Bool) (two : Int -> Int × Int) (hj : Int × Int -> Bool) (ss : List Int) (bad : Bool) (pr : Int × Int -> Option Int) (md : Int -> Option (Int × Int)) (sc : Int -> Option Int) : Prop where
 md : ∀ x,md x = if x ∈ ss /\ Q x = true then some (two x) else none
 pr1 : ∀ p x,pr p = some x -> x ∈ ss /\ Q x = true /\ two x = p
 pr2 : ∀ x ∈ ss,Q x = true -> (pr (two x)).isSome = true
 sc1 : ∀ y,0 <= gd sc y /\ gd sc y <= ss.length
 sc2 : ∀ y,0 < gd sc y ↔ ∃ x ∈ ss,Q x = true /\ (two x).2 = y
 ok : bad = false -> (∀ x ∈ ss,Q x = true -> hj (two x) = false) /\ ∀ x ∈ ss,∀ y ∈ ss,Q x = true -> Q y = true -> two x = two y -> x = y
 no : bad = true -> (∃ x ∈ ss,Q x = true /\ hj (two x) = true) \/ ∃ x ∈ ss,∃ y ∈ ss,Q x = true /\ Q y = true /\ two x = two y /\ x ≠ y
section
variable {Q : Int -> Bool} {two : Int -> Int × Int} {hj : Int × Int -> Bool} {ss : List Int} {bad : Bool} {pr : Int × Int -> Option Int} {md : Int -> Option (Int × Int)} {sc : Int -> Option Int}
theorem MkI.start : MkI Q two hj [] false (fun _ => none) (fun _ => none) (fun _ => none) where
 md:=fun x => by simp
 pr1:=fun p x h => by cases h
 pr2:=fun x h => by cases h
 sc1:=fun y => by simp [gd]
 sc2:=fun y => by simp [gd]
 ok:=fun _ => ⟨fun x h => (by cases h),fun x h => (by cases h)⟩
 no:=fun h => by cases h
theorem zan {x y : Int} : y ∈ ss ++ [x] ↔ y ∈ ss \/ y = x:=by rw [List.mem_append,List.mem_singleton]
theorem MkI.skip (h : MkI Q two hj ss bad pr md sc) {x : Int} (hx : Q x = false) : MkI Q two hj (ss ++ [x]) bad pr md sc:=by
 have key : ∀ y,Q y = true -> (y ∈ ss ++ [x] ↔ y ∈ ss):=fun y hy => by
  rw [zan];constructor
  ·rintro (h | rfl)
   ·exact h
   ·rw [hx] at hy; cases hy
  ·exact .inl
 refine ⟨fun y => ?_,fun p y hp => ?_,fun y hy hq => h.pr2 y ((key y hq).1 hy) hq,fun y => ?_,fun y => ?_,fun hb => ?_,fun hb => ?_⟩
 ·rw [h.md y]
  by_cases hq : Q y = true
  ·simp only [key y hq]
  ·simp [hq]
 ·obtain ⟨h1,h2,h3⟩:=h.pr1 p y hp;exact ⟨zan.2 (.inl h1),h2,h3⟩
 ·have:=h.sc1 y;simp;omega
 ·rw [h.sc2 y];constructor
  ·rintro ⟨z,h1,h2,h3⟩; exact ⟨z,zan.2 (.inl h1),h2,h3⟩
  ·rintro ⟨z,h1,h2,h3⟩; exact ⟨z,(key z h2).1 h1,h2,h3⟩
 ·obtain ⟨h1,h2⟩:=h.ok hb;exact ⟨fun y hy hq => h1 y ((key y hq).1 hy) hq,fun y hy z hz hqy hqz e => h2 y ((key y hqy).1 hy) z ((key z hqz).1 hz) hqy hqz e⟩
 ·rcases h.no hb with ⟨y,h1,h2⟩ | ⟨y,h1,z,h2,h3⟩
  ·exact .inl ⟨y,zan.2 (.inl h1),h2⟩
  ·exact .inr ⟨y,zan.2 (.inl h1),z,zan.2 (.inl h2),h3⟩
theorem MkI.step (h : MkI Q two hj ss bad pr md sc) {x : Int} (hn : x ∉ ss) (hx : Q x = true) :
  MkI Q two hj (ss ++ [x]) (bad || (pr (two x)).isSome || hj (two x)) (upd pr (two x) (some x)) (upd md x (some (two x))) (upd sc (two x).2 (some (gd sc (two x).2 + 1))):=by
 refine ⟨fun y => ?_,fun p y hp => ?_,fun y hy hq => ?_,fun y => ?_,fun y => ?_,fun hb => ?_,fun hb => ?_⟩
 ·unfold upd
  by_cases e : y = x
  ·subst e; simp [hx]
  ·rw [if_neg e,h.md y];simp [e]
 ·unfold upd at hp
  by_cases e : p = two x
  ·rw [if_pos e] at hp;injection hp with hp;subst hp;exact ⟨by simp,hx,e.symm⟩
  ·rw [if_neg e] at hp;obtain ⟨h1,h2,h3⟩:=h.pr1 p y hp;exact ⟨zan.2 (.inl h1),h2,h3⟩
 ·unfold upd
  by_cases e : two y = two x
  ·rw [if_pos e]; rfl
  ·rw [if_neg e];rcases zan.1 hy with h1 | h1
   ·exact h.pr2 y h1 hq
   ·exact absurd (by rw [h1]) e
 ·rw [zd8];have h1:=h.sc1 y;have h2:=h.sc1 (two x).2;simp;split <;> omega
 ·rw [zd8];have h2:=h.sc1 (two x).2
  by_cases e : y = (two x).2
  ·rw [if_pos e];exact ⟨fun _ => ⟨x,by simp,hx,e.symm⟩,fun _ => by omega⟩
  ·rw [if_neg e,h.sc2 y];constructor
   ·rintro ⟨z,h1,h2,h3⟩; exact ⟨z,zan.2 (.inl h1),h2,h3⟩
   ·rintro ⟨z,h1,h2,h3⟩;rcases zan.1 h1 with h1 | h1
    ·exact ⟨z,h1,h2,h3⟩
    ·rw [h1] at h3; exact absurd h3.symm e
 ·simp only [Bool.or_eq_false_iff] at hb;obtain ⟨⟨b1,b2⟩,b3⟩:=hb;obtain ⟨h1,h2⟩:=h.ok b1
  have hno : ∀ y ∈ ss,Q y = true -> two y ≠ two x:=fun y hy hq e => by
   have:=h.pr2 y hy hq;rw [e,b2] at this
   cases this
  refine ⟨fun y hy hq => ?_,fun y hy z hz hqy hqz e => ?_⟩
  ·rcases zan.1 hy with hy | hy
   ·exact h1 y hy hq
   ·rw [hy]; exact b3
  ·rcases zan.1 hy with hy | hy <;> rcases zan.1 hz with hz | hz
   ·exact h2 y hy z hz hqy hqz e
   ·rw [hz] at e; exact absurd e (hno y hy hqy)
   ·rw [hy] at e; exact absurd e.symm (hno z hz hqz)
   ·rw [hy,hz]
 ·simp only [Bool.or_eq_true] at hb;rcases hb with (hb | hb) | hb
  ·rcases h.no hb with ⟨y,h1,h2⟩ | ⟨y,h1,z,h2,h3⟩
   ·exact .inl ⟨y,zan.2 (.inl h1),h2⟩
   ·exact .inr ⟨y,zan.2 (.inl h1),z,zan.2 (.inl h2),h3⟩
  ·obtain ⟨y,hy⟩:=Option.isSome_iff_exists.1 hb;obtain ⟨h1,h2,h3⟩:=h.pr1 _ y hy;exact .inr ⟨y,zan.2 (.inl h1),x,by simp,h2,hx,h3,fun e => hn (by rw [<- e]; exact h1)⟩
  ·exact .inl ⟨x,by simp,hx,hb⟩
end
end
end Go.Proofs.YtolcabjkbefjgaaGreatDoor
