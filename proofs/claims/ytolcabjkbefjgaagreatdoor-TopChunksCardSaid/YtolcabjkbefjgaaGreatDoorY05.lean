/- Slices of elements of k cells each (structs): what one reads as, and append. Over any program. Plain functions for the layer of syllables: what is a syllable, its two and three characters, joining, and lists of characters parted and joined. No program stands here. The contracts of the package of syllables: what each function answers, the table of kinds being laid. The law on texts with a blank between them: true. The plain laws of syllables: Join and Split are each other's backs, Full is Split again and again, Parts and Syllables done again turn nothing. No program stands here. strings.Join of one text; utf8.Decode. -/
import Derived.Shelf.Strings.SlTrimAscii
import Derived.Shelf.Strings.OnBuilder
import Derived.Shelf.Small.Wraps
import Derived.Shelf.Strings.BuilderRune
import Derived.Shelf.Utf8.AppendRune
import Derived.Shelf.Utf8.AppendRunePlain
import Derived.Shelf.Utf8.RuneCount
import Derived.Shelf.Strings.Shaped
import Derived.Shelf.GgClosure.StringsRunes
import Derived.Shelf.Strings.SplitShaped
import Derived.Shelf.Strings.Explode
import Derived.Shelf.Strings.FieldsFuncGrows
import Derived.Shelf.Strings.BuilderCap
import Derived.Test.YtolcabjkbefjgaaGreatDoorY04
set_option linter.unusedSimpArgs false
set_option linter.unusedVariables false
set_option maxRecDepth 20000
set_option maxHeartbeats 4000000
namespace Go.Proofs.YtolcabjkbefjgaaGreatDoor
section
open Go.RowKit
def RdK (w : World) (A : Option Addr) (n k : Nat) (xs : List Value) : Prop :=
 xs.length = n * k /\ (0 < n -> ∃ b off,A = some ⟨b,off,none⟩ /\ ∀ j u,xs[j]? = some u -> w.cell? ⟨b,off + j,none⟩ = some u)
section
variable {w w' : World} {A : Option Addr} {n k : Nat} {xs : List Value}
theorem RdK.nil (w : World) (A : Option Addr) : RdK w A 0 k []:=⟨by simp,fun h => absurd h (by omega)⟩
theorem RdK.at_ (hk0 : 0 < k) (h : RdK w A n k xs) (hn : 0 < n) : ∃ b off,A = some ⟨b,off,none⟩ /\ b < w.heap.size /\ ∀ j u,xs[j]? = some u -> w.cell? ⟨b,off + j,none⟩ = some u:=by
 obtain ⟨b,off,hA,hc⟩:=h.2 hn;refine ⟨b,off,hA,?_,hc⟩;have hl:=h.1;have hp : 0 < n * k:=Nat.mul_pos hn hk0;have h0:=hc 0 _ (List.getElem?_eq_getElem (by omega));exact World.block_lt_of_cell? w _ h0
theorem RdK.below (hk0 : 0 < k) (h : RdK w A n k xs) (hb : Below w.heap.size w w') : RdK w' A n k xs:=by
 refine ⟨h.1,fun hn => ?_⟩;obtain ⟨b,off,rfl,hl,hc⟩:=h.at_ hk0 hn;exact ⟨b,off,rfl,fun j u hu => (hb.cell hl).trans (hc j u hu)⟩
theorem RdK.new (w : World) (e : TypeId) (n : Nat) (l : List Value) (hl : l.length = n * k) : RdK (w.alloc (.cells l.toArray e)) (some ⟨w.heap.size,0,none⟩) n k l:=by
 refine ⟨hl,fun _ => ⟨_,_,rfl,fun j u hu => ?_⟩⟩;rw [World.cell?_alloc_at _ _ _ _ rfl];simpa using hu
theorem RdK.of_own {base : Nat} {e : TypeId} {v : Value} (h : w.ownsRow base e k v n xs) : ∃ A c,v = .slice A n c /\ n <= c /\ c <= maxLen /\ RdK w A n k xs:=by
 have hl:=h.1;rcases h.2 with ⟨rfl,rfl⟩ | ⟨g,cap,cur,rfl,_,hh,hn,hm,_,htake⟩
 ·exact ⟨none,0,rfl,Nat.le_refl _,by unfold maxLen; omega,hl,fun hh => absurd hh (by omega)⟩
 ·refine ⟨_,cap,rfl,hn,hm,hl,fun _ => ⟨g,0,rfl,fun j u hu => ?_⟩⟩;rw [Nat.zero_add,cell_of_row w g j cur e (0,0) hh];rw [<- htake,List.getElem?_take] at hu;split at hu
  ·simpa using hu
  ·cases hu
end
structure ElemK (P : Program) (t e : TypeId) (z : Value) (k bytes : Nat) : Prop where
 ht : P.underlying t = some (.slice e)
 hi : (P.info? e).map (fun i => (i.zero,i.size,i.bytes)) = some (some z,k,bytes)
 hz : z.cells.size = k
 hk : 0 < k
section
variable {P : Program}
theorem zfa {w : World} {base : Nat} {e : TypeId} {v : Value} {n k : Nat} {xs : List Value} (h : w.ownsRow base e k v n xs) : ∃ A c,v = .slice A n c:=by
 obtain ⟨A,c,rfl,_⟩:=RdK.of_own h;exact ⟨A,c,rfl⟩
theorem zld {t e : TypeId} {z : Value} {k bytes : Nat} (E : ElemK P t e z k bytes) (w : World) (ty : TypeId) (base : Nat)
  {v : Value} {n : Nat} {xs : List Value} (hown : w.ownsRow base e k v n xs) {A : Option Addr} {m c : Nat} {news : List Value} (hr : RdK w A m k news) (h1 : ∀ u ∈ news,u.oneCell' = true)
  (h63 : n + m <= 1099511627776) (hby : bytes <= 64) (hbase : base <= w.heap.size) :
  ∃ A' c' w',(Builtin.append_ #[t,t] ty #[v,.slice A m c]).run P w = .ok (.slice A' (n + m) c') w' /\ w'.ownsRow base e k (.slice A' (n + m) c') (n + m) (xs ++ news) /\ w.grownBy w' v.ownBlock /\
   ((Value.slice A' (n + m) c').ownBlock = v.ownBlock \/ (Value.slice A' (n + m) c').ownBlock = some w.heap.size):=by
 obtain ⟨i,hi,hz0,hz1,hz2⟩:=info_parts E.hi;have hb : (n + m) * bytes <= 140737488355328:=Nat.le_trans (Nat.mul_le_mul h63 hby) (by omega);have hml : n + m <= maxLen:=by unfold maxLen; omega
 have fin : ∀ (ad : Addr),(∀ j u,news[j]? = some u -> w.cell? (ad.add j) = some u) -> ∃ A' c' w',(Builtin.append_ #[t,t] ty #[v,.slice (some ad) m c]).run P w = .ok (.slice A' (n + m) c') w' /\ w'.ownsRow base e k (.slice A' (n + m) c') (n + m) (xs ++ news) /\ w.grownBy w' v.ownBlock /\
   ((Value.slice A' (n + m) c').ownBlock = v.ownBlock \/ (Value.slice A' (n + m) c').ownBlock = some w.heap.size):=by
  intro ad had;obtain ⟨v',w',hrun,h2,h3,_,h5⟩:=run_append_own_at (P:=P) w base t ty e i z k bytes E.ht hi hz0 hz1 hz2 E.hz E.hk v n xs hown ad m c news hr.1 had h1 hml hb hbase;obtain ⟨A',c',rfl⟩:=zfa h2;exact ⟨A',c',w',hrun,h2,h3,h5⟩
 rcases Nat.eq_zero_or_pos m with h0 | h0
 ·subst h0;have hn : news = []:=List.eq_nil_of_length_eq_zero (by rw [hr.1]; simp);subst hn
  cases A with
  | none =>
   obtain ⟨A',c',rfl⟩:=zfa hown;exact ⟨A',c',w,zd4 w base t ty e i k E.ht hi _ n xs hown c,by simpa using hown,World.grownBy.refl w _,.inl rfl⟩
  | some ad => exact fin ad (fun j u hu => by simp at hu)
 ·obtain ⟨b,off,rfl,hcell⟩:=hr.2 h0;exact fin ⟨b,off,none⟩ (fun j u hu => by rw [Addr.add_lit]; exact hcell j u hu)
theorem zcp {t e : TypeId} {z : Value} {k bytes : Nat} (E : ElemK P t e z k bytes) (w : World) {ops : Array Oper} {rest : List Oper} {o : Oper} {a : Act} {Q : Exit -> Act -> World -> Prop} (hgd : o.guard = none) (s x : Operand)
  (ho : o.op = .call { callee:=.builtin .append,args:=#[s,x],argTypes:=#[t,t] }) (base : Nat)
  {v : Value} {n : Nat} {xs : List Value} (hs : a.eval s = v) (hown : w.ownsRow base e k v n xs) {A : Option Addr} {m c : Nat} {news : List Value} (hx : a.eval x = .slice A m c) (hr : RdK w A m k news) (h1 : ∀ u ∈ news,u.oneCell' = true)
  (h63 : n + m <= 1099511627776) (hby : bytes <= 64) (hbase : base <= w.heap.size)
  (h : ∀ A' c' w',w'.ownsRow base e k (.slice A' (n + m) c') (n + m) (xs ++ news) -> w.grownBy w' v.ownBlock ->
   ((Value.slice A' (n + m) c').ownBlock = v.ownBlock \/ (Value.slice A' (n + m) c').ownBlock = some w.heap.size) -> wpList P ops Q rest (a.put o.dst (.slice A' (n + m) c')) w') : wpList P ops Q (o :: rest) a w:=by
 refine wpList_plain hgd fun K hK => ?_;obtain ⟨A',c',w',hrun,h2,h3,h4⟩:=zld E w o.type base hown (c:=c) hr h1 h63 hby hbase;unfold Oper.wp execOp;simp only [ho,resolve,invoke,builtin,Sem.run_bind,Sem.run_pure,Result.andThen_ok,List.map_toArray,List.map_cons,List.map_nil,hs,hx,hrun];exact hK _ _ (h A' c' w' h2 h3 h4)
end
theorem zy {w w' : World} {base k : Nat} {e : TypeId} {v : Value} {n : Nat} {xs : List Value} (h : w.ownsRow base e k v n xs) (hb : Below w.heap.size w w') : w'.ownsRow base e k v n xs:=by
 refine ⟨h.1,?_⟩;rcases h.2 with hn | ⟨g,cap,cur,hv,hg,hh,rest⟩
 ·exact .inl hn
 ·exact .inr ⟨g,cap,cur,hv,hg,(hb.block g (Array.getElem?_eq_some_iff.1 hh).1).trans hh,rest⟩
theorem zcg {w : World} {B B' k : Nat} {e : TypeId} {v : Value} {n : Nat} {xs : List Value} (h : w.ownsRow B e k v n xs) (hb : B' <= B) : w.ownsRow B' e k v n xs:=by
 obtain ⟨h1,h2⟩:=h;refine ⟨h1,?_⟩;rcases h2 with h2 | ⟨g,cap,cur,h2,h3,h4⟩
 ·exact .inl h2
 ·exact .inr ⟨g,cap,cur,h2,by omega,h4⟩
theorem zcl {base b : Nat} {w0 w w' : World} {e : TypeId} {v : Value} {n k : Nat} {xs : List Value} (hb : Below b w0 w) (hB : b <= w.heap.size) (hbb : b <= base) (hown : w.ownsRow base e k v n xs) (hg : w.grownBy w' v.ownBlock) : Below b w0 w' :=
 hb.grown hg hB (fun j hj => Nat.le_trans hbb (hown.lt j hj).1)
end
section
open Go.RowKit
def isH (r : Int) : Bool:=decide (44032 <= r /\ r < 55204)
def zx (r : Int) : Int × Int × Bool :=
 if 44032 <= r /\ r < 55204 then
  if 0 < (r - 44032) % 28 then (r - (r - 44032) % 28,4519 + (r - 44032) % 28,true)
  else (4352 + (r - 44032) / 588,4449 + (r - 44032) / 28 % 21,true)
 else (0,0,false)
def joinH (a b : Int) : Int × Bool :=
 if 4352 <= a /\ a < 4371 /\ 4449 <= b /\ b < 4470 then (44032 + 588 * (a - 4352) + 28 * (b - 4449),true)
 else if 44032 <= a /\ a < 55204 /\ (a - 44032) % 28 = 0 /\ 4519 < b /\ b < 4547 then (a + (b - 4519),true)
 else (0,false)
def inK (f m r : Int) : Bool:=decide (f <= r /\ r < f + m)
def offK (f r : Int) : Int:=wrap32 (r - f)
theorem zim {f m r : Int} (h : inK f m r = true) : f <= r /\ r < f + m:=by simpa [inK] using h
theorem zg1 {f m r : Int} (h : inK f m r = false) : ¬ (f <= r /\ r < f + m):=by
 intro h2;have : inK f m r = true:=(by simp [inK,h2]);rw [h] at this
 cases this
theorem zkr {f r : Int} (h : f <= r) (h0 : 0 <= f) (hr : r <= 2147483647) : offK f r = r - f:=IntWalk.wrap32_in _ (by omega)
theorem isH_true {r : Int} (h : isH r = true) : 44032 <= r /\ r < 55204:=by simpa [isH] using h
theorem isH_false {r : Int} (h : isH r = false) : ¬ (44032 <= r /\ r < 55204):=by
 intro h2;have : isH r = true:=(by simp [isH,h2]);rw [h] at this
 cases this
theorem joinH_i32 (a b : Int) (ha : -2147483648 <= a /\ a <= 2147483647) : -2147483648 <= (joinH a b).1 /\ (joinH a b).1 <= 2147483647:=by
 unfold joinH;split
 ·simp only []; omega
 ·split <;> (simp only []; omega)
end
section
open Go.RowKit
structure Kinds (w : World) : Prop where
 c0 : w.cell? ⟨1,0,none⟩ = some (.int .i32 4352)
 c1 : w.cell? ⟨1,1,none⟩ = some (.int .i32 19)
 c2 : w.cell? ⟨1,2,none⟩ = some (.int .i32 4449)
 c3 : w.cell? ⟨1,3,none⟩ = some (.int .i32 21)
 c4 : w.cell? ⟨1,4,none⟩ = some (.int .i32 4519)
 c5 : w.cell? ⟨1,5,none⟩ = some (.int .i32 28)
theorem Kinds.lt {w : World} (h : Kinds w) : 1 < w.heap.size:=World.block_lt_of_cell? w _ h.c0
theorem Kinds.keep {w w' : World} (h : Kinds w) (hc : ∀ o,w'.cell? ⟨1,o,none⟩ = w.cell? ⟨1,o,none⟩) : Kinds w' :=
 ⟨(hc 0).trans h.c0,(hc 1).trans h.c1,(hc 2).trans h.c2,(hc 3).trans h.c3,(hc 4).trans h.c4,(hc 5).trans h.c5⟩
theorem Kinds.below {w w' : World} {B : Nat} (h : Kinds w) (hb : Below B w w') (hB : 1 < B) : Kinds w':=h.keep fun _ => hb.cell hB
theorem Kinds.below' {w w' : World} (h : Kinds w) (hb : Below w.heap.size w w') : Kinds w':=h.below hb h.lt
theorem zlw (r : Int) (w : World) (hk : Kinds w) :
  Calls Tryz.prog 165 #[.int .i32 r] w fun e w' => e = .returned (.bool (isH r)) /\ w = w':=by
 obtain ⟨k0,k1,k2,k3,k4,k5⟩:=hk
 by_cases h0 : 44032 <= r
 ·go_enter Tryz.func165,Tryz.ntmps165;go_wp2;go_ret
  exact ⟨zam (by simp [isH,h0]),rfl⟩
 ·go_enter Tryz.func165,Tryz.ntmps165;go_wp2;go_ret
  exact ⟨zam (by simp [isH]; omega),rfl⟩
theorem zgr (r : Int) (w : World) (hk : Kinds w) (h1 : 44032 <= r) (h2 : r < 55204) :
  Calls Tryz.prog 166 #[.int .i32 r] w fun e w' =>
   e = .returned (.agg #[.int .i32 ((r - 44032) / 28 / 21),.int .i32 ((r - 44032) / 28 % 21),.int .i32 ((r - 44032) % 28)]) /\ Below w.heap.size w w':=by
 have hl:=hk.lt;obtain ⟨k0,k1,k2,k3,k4,k5⟩:=hk;go_enter Tryz.func166,Tryz.ntmps166;go_wp2
 go_region
 go_wp2;go_returns;refine ⟨rfl,?_⟩;go_grown
theorem znr (r : Int) (w : World) (hk : Kinds w) (h0 : -2147483648 <= r) (h1 : r <= 2147483647) :
  Calls Tryz.prog 168 #[.int .i64 0,.int .i32 r] w fun e w' =>
   e = .returned (.tuple #[.int .i32 (offK 4352 r),.bool (inK 4352 19 r)]) /\ Drew w w':=by
 have hl:=hk.lt;obtain ⟨k0,k1,k2,k3,k4,k5⟩:=hk;go_enter Tryz.func168,Tryz.ntmps168;go_wp2
 by_cases h : 4352 <= r
 ·go_quiet (fail)
  go_wp2;go_returns;exact ⟨zaa rfl (by rw [IntWalk.wrap32_in _ (by omega)]; simp [inK,h]; omega),_,rfl⟩
 ·go_quiet (fail)
  go_wp2;go_returns;exact ⟨zaa rfl (by simp [inK]; omega),_,rfl⟩
theorem znq (r : Int) (w : World) (hk : Kinds w) (h0 : -2147483648 <= r) (h1 : r <= 2147483647) :
  Calls Tryz.prog 168 #[.int .i64 1,.int .i32 r] w fun e w' =>
   e = .returned (.tuple #[.int .i32 (offK 4449 r),.bool (inK 4449 21 r)]) /\ Drew w w':=by
 have hl:=hk.lt;obtain ⟨k0,k1,k2,k3,k4,k5⟩:=hk;go_enter Tryz.func168,Tryz.ntmps168;go_wp2
 by_cases h : 4449 <= r
 ·go_quiet (fail)
  go_wp2;go_returns;exact ⟨zaa rfl (by rw [IntWalk.wrap32_in _ (by omega)]; simp [inK,h]; omega),_,rfl⟩
 ·go_quiet (fail)
  go_wp2;go_returns;exact ⟨zaa rfl (by simp [inK]; omega),_,rfl⟩
theorem place2 (r : Int) (w : World) (hk : Kinds w) (h0 : -2147483648 <= r) (h1 : r <= 2147483647) :
  Calls Tryz.prog 168 #[.int .i64 2,.int .i32 r] w fun e w' =>
   e = .returned (.tuple #[.int .i32 (offK 4519 r),.bool (inK 4519 28 r)]) /\ Drew w w':=by
 have hl:=hk.lt;obtain ⟨k0,k1,k2,k3,k4,k5⟩:=hk;go_enter Tryz.func168,Tryz.ntmps168;go_wp2
 by_cases h : 4519 <= r
 ·go_quiet (fail)
  go_wp2;go_returns;exact ⟨zaa rfl (by rw [IntWalk.wrap32_in _ (by omega)]; simp [inK,h]; omega),_,rfl⟩
 ·go_quiet (fail)
  go_wp2;go_returns;exact ⟨zaa rfl (by simp [inK]; omega),_,rfl⟩
theorem of_any (a b c : Int) (w : World) (hk : Kinds w) (ha : 0 <= a /\ a < 19) (hb : 0 <= b /\ b < 21) (hc : 0 <= c /\ c < 28) :
  Calls Tryz.prog 169 #[.agg #[.int .i32 a,.int .i32 b,.int .i32 c]] w fun e w' =>
   e = .returned (.int .i32 (44032 + (a * 21 + b) * 28 + c)) /\ Below w.heap.size w w':=by
 have hl:=hk.lt;obtain ⟨k0,k1,k2,k3,k4,k5⟩:=hk;obtain ⟨ha1,ha2⟩:=ha;obtain ⟨hb1,hb2⟩:=hb;obtain ⟨hc1,hc2⟩:=hc;go_enter Tryz.func169,Tryz.ntmps169;go_wp2;go_returns;refine ⟨rfl,?_⟩;go_grown
theorem split_no (r : Int) (w : World) (hk : Kinds w) (h : ¬ (44032 <= r /\ r < 55204)) :
  Calls Tryz.prog 117 #[.int .i32 r] w fun e w' =>
   e = .returned (.tuple #[.int .i32 0,.int .i32 0,.bool false]) /\ Below w.heap.size w w':=by
 have hb : isH r = false:=(by simp [isH]; omega);go_enter Tryz.func117,Tryz.ntmps117;go_wp2_with (go_at_call 165; refine (zlw _ _ hk).mono ?_; rintro e w' ⟨rfl,rfl⟩)
 go_returns;exact ⟨rfl,Below.refl _ _⟩
theorem split_yes (r : Int) (w : World) (hk : Kinds w) (h1 : 44032 <= r) (h2 : r < 55204) :
  Calls Tryz.prog 117 #[.int .i32 r] w fun e w' =>
   e = .returned (.tuple #[.int .i32 (zx r).1,.int .i32 (zx r).2.1,.bool true]) /\ Below w.heap.size w w':=by
 have hb : isH r = true:=by simp [isH]; omega
 by_cases ht : 0 < (r - 44032) % 28
 ·have hs : zx r = (r - (r - 44032) % 28,4519 + (r - 44032) % 28,true):=(by simp [zx,h1,h2,ht]);have Hs:=hz0q hs; clear hs;have hdt : decide (0 < (r - 44032) % 28) = true:=(by simpa using ht);go_enter Tryz.func117,Tryz.ntmps117;go_wp2_with (go_at_call 165; refine (zlw _ _ hk).mono ?_; rintro e w' ⟨rfl,rfl⟩)
  refine (zgr _ _ hk h1 h2).mono ?_;rintro e w1 ⟨rfl,hb1⟩;have hk1:=hk.below' hb1;have hl1:=hk1.lt;obtain ⟨k0,k1,k2,k3,k4,k5⟩:=hk1;clear hk;go_wp2;go_quiet (fail)
  go_wp2;go_returns;exact ⟨zko (by rw [Hs.out]) (by rw [Hs.out]) rfl,zf (hb1.alloc hb1.size _) _⟩
 ·have hs : zx r = (4352 + (r - 44032) / 588,4449 + (r - 44032) / 28 % 21,true):=(by simp [zx,h1,h2,ht]);have Hs:=hz0q hs; clear hs;have hdt : decide (0 < (r - 44032) % 28) = false:=(by simpa using ht);go_enter Tryz.func117,Tryz.ntmps117;go_wp2_with (go_at_call 165; refine (zlw _ _ hk).mono ?_; rintro e w' ⟨rfl,rfl⟩)
  refine (zgr _ _ hk h1 h2).mono ?_;rintro e w1 ⟨rfl,hb1⟩;have hk1:=hk.below' hb1;have hl1:=hk1.lt;obtain ⟨k0,k1,k2,k3,k4,k5⟩:=hk1;clear hk;go_wp2;go_quiet (fail)
  go_wp2;go_returns;exact ⟨zko (by rw [Hs.out]; omega) (by rw [Hs.out]) rfl,zf (hb1.alloc hb1.size _) _⟩
theorem zgj (r : Int) (w : World) (hk : Kinds w) :
  Calls Tryz.prog 117 #[.int .i32 r] w fun e w' =>
   e = .returned (.tuple #[.int .i32 (zx r).1,.int .i32 (zx r).2.1,.bool (zx r).2.2]) /\ Below w.heap.size w w':=by
 by_cases h : 44032 <= r /\ r < 55204
 ·refine (split_yes r w hk h.1 h.2).mono ?_;rintro e w' ⟨rfl,hb⟩;refine ⟨zko rfl rfl ?_,hb⟩;simp only [zx,h,if_true,and_self]; split <;> rfl
 ·refine (split_no r w hk h).mono ?_;rintro e w' ⟨rfl,hb⟩;refine ⟨?_,hb⟩;simp only [zx,h,if_false]
theorem zd1 (a b : Int) (w : World) (hk : Kinds w) (ha0 : -2147483648 <= a) (ha1 : a <= 2147483647) (hb0 : -2147483648 <= b) (hb1 : b <= 2147483647) :
  Calls Tryz.prog 121 #[.int .i32 a,.int .i32 b] w fun e w' =>
   e = .returned (.tuple #[.int .i32 (joinH a b).1,.bool (joinH a b).2]) /\ Below w.heap.size w w':=by
 rcases Bool.eq_false_or_eq_true (inK 4352 19 a) with hp | hp <;> rcases Bool.eq_false_or_eq_true (inK 4449 21 b) with hq | hq
 ·have h1:=zim hp;have h2:=zim hq;have Hj:=hz0q (show joinH a b = (44032 + 588 * (a - 4352) + 28 * (b - 4449),true) by unfold joinH; rw [if_pos (by omega)]);have U1:=hz0q (zkr (f:=4352) (r:=a) (by omega) (by omega) (by omega));have U2:=hz0q (zkr (f:=4449) (r:=b) (by omega) (by omega) (by omega));go_enter Tryz.func121,Tryz.ntmps121;go_wp2_with fail;refine (znr _ _ hk ha0 ha1).mono ?_;rintro e w1 ⟨rfl,hd1⟩;rw [U1.out];have hk1:=hk.below' hd1.to;go_wp2_with fail;refine (znq _ _ hk1 hb0 hb1).mono ?_;rintro e w2 ⟨rfl,hd2⟩;rw [U2.out];have hk2:=hk1.below' hd2.to;go_wp2_with fail;refine (of_any (a - 4352) (b - 4449) 0 _ hk2 (by omega) (by omega) (by omega)).mono ?_;rintro e w3 ⟨rfl,hb⟩;go_wp2;go_returns;exact ⟨zaa (by rw [Hj.out]; omega) (by rw [Hj.out]),zb (hd1.trans hd2).to hb⟩
 all_goals
  have hno : ¬ (4352 <= a /\ a < 4371 /\ 4449 <= b /\ b < 4470):=by
   intro hh
   first
    | exact zg1 hp (by omega)
    | exact zg1 hq (by omega)
  have Hj:=hz0q (show joinH a b = if 44032 <= a /\ a < 55204 /\ (a - 44032) % 28 = 0 /\ 4519 < b /\ b < 4547 then (a + (b - 4519),true) else (0,false) by unfold joinH; rw [if_neg hno]);have i2 : ∀ (x0 x1 x2 : Value) (w : World),(Instr.index 288 (.agg #[x0,x1,x2]) (.int .i64 2)).run Tryz.prog w = .ok x2 w:=fun _ _ _ _ => by kernel_rfl
  go_enter Tryz.func121,Tryz.ntmps121;go_wp2_with fail;refine (znr _ _ hk ha0 ha1).mono ?_;rintro e w1 ⟨rfl,hd1⟩;have hk1:=hk.below' hd1.to;go_wp2_with fail;refine (znq _ _ hk1 hb0 hb1).mono ?_;rintro e w2 ⟨rfl,hd2⟩;have hk2:=hk1.below' hd2.to;go_wp2_with fail;refine (place2 _ _ hk2 hb0 hb1).mono ?_;rintro e w3 ⟨rfl,hd3⟩;have hk3:=hk2.below' hd3.to;go_wp2_with fail;refine (zlw _ _ hk3).mono ?_;rintro e w3' ⟨rfl,rfl⟩;rcases Bool.eq_false_or_eq_true (isH a) with hi | hi
  ·have h1:=isH_true hi;obtain ⟨h1a,h1b⟩:=h1;go_wp2_with fail;refine (zgr a _ hk3 h1a h1b).mono ?_;rintro e w4 ⟨rfl,hbl⟩
   by_cases hz : (a - 44032) % 28 = 0
   ·have hz' : ((a - 44032) % 28 == 0) = true:=(by simpa using hz);have HZ:=hz0q hz; clear hz;rcases Bool.eq_false_or_eq_true (inK 4519 28 b) with ht | ht
    ·have h2:=zim ht;have U3:=hz0q (zkr (f:=4519) (r:=b) (by omega) (by omega) (by omega))
     by_cases h0 : 4519 < b
     ·rw [U3.out];have hd : decide (0 < b - 4519) = true:=(by simp; omega);go_wp2;go_returns;exact ⟨zaa (by rw [Hj.out,if_pos ⟨h1a,h1b,HZ.out,by omega,by omega⟩]) (by rw [Hj.out,if_pos ⟨h1a,h1b,HZ.out,by omega,by omega⟩]),zb ((hd1.trans hd2).trans hd3).to hbl⟩
     ·rw [U3.out];have hd : decide (0 < b - 4519) = false:=(by simp; omega);go_wp2;go_returns;exact ⟨zaa (by rw [Hj.out,if_neg (by omega)]) (by rw [Hj.out,if_neg (by omega)]),zb ((hd1.trans hd2).trans hd3).to hbl⟩
    ·have h2:=zg1 ht;go_wp2;go_returns;exact ⟨zaa (by rw [Hj.out,if_neg (by omega)]) (by rw [Hj.out,if_neg (by omega)]),zb ((hd1.trans hd2).trans hd3).to hbl⟩
   ·have hz' : ((a - 44032) % 28 == 0) = false:=(by simpa using hz);have HZ:=hz0q hz; clear hz;go_wp2;go_returns;exact ⟨zaa (by rw [Hj.out,if_neg (fun h => HZ.out h.2.2.1)]) (by rw [Hj.out,if_neg (fun h => HZ.out h.2.2.1)]),zb ((hd1.trans hd2).trans hd3).to hbl⟩
  ·have h1:=isH_false hi;have hn : ¬ (44032 <= a /\ a < 55204 /\ (a - 44032) % 28 = 0 /\ 4519 < b /\ b < 4547):=(by omega);have HN:=hz0q hn; clear hn;clear h1;go_wp2;go_returns;exact ⟨zaa (by rw [Hj.out,if_neg HN.out]) (by rw [Hj.out,if_neg HN.out]),((hd1.trans hd2).trans hd3).to⟩
end
section
open Go.RowKit
theorem zjd {w : World} {B : Nat} {e : TypeId} {A : Option Addr} {n c : Nat} {xs : List Value} (h : w.ownsRow B e 1 (.slice A n c) n xs) : Rd w A n xs:=by
 obtain ⟨A',c',e2,_,_,hr⟩:=Rd.of_own h;injection e2 with e2a _ _;subst e2a;exact hr
theorem zjn {w : World} {B : Nat} {e : TypeId} {A : Option Addr} {n c : Nat} {xs : List Value} (h : w.ownsRow B e 1 (.slice A n c) n xs) : ∀ a,A = some a -> B <= a.block /\ a.block < w.heap.size:=by
 intro a ha;subst ha;exact h.lt a.block rfl
end
section
open Go.RowKit
theorem zfo {r : Int} (h : 44032 <= r /\ r < 55204) : zx r = if 0 < (r - 44032) % 28 then (r - (r - 44032) % 28,4519 + (r - 44032) % 28,true) else (4352 + (r - 44032) / 588,4449 + (r - 44032) / 28 % 21,true):=by unfold zx; rw [if_pos h]
theorem join_back {a b : Int} (h : (joinH a b).2 = true) : zx (joinH a b).1 = (a,b,true) /\ isH (joinH a b).1 = true:=by
 unfold joinH at *;split at h
 ·rename_i h1;rw [if_pos h1];simp only [];refine ⟨?_,by simp [isH]; omega⟩;rw [zfo (by omega),if_neg (by omega)];simp only [Prod.mk.injEq,and_true];omega
 ·split at h
  ·rename_i h1 h2;rw [if_neg h1,if_pos h2];simp only [];refine ⟨?_,by simp [isH]; omega⟩;rw [zfo (by omega),if_pos (by omega)];simp only [Prod.mk.injEq,and_true];omega
  ·cases h
end
section
open Go.RowKit
theorem zjw (A : Option Addr) (c : Nat) (s : ByteArray) (w : World) (h : Rd w A 1 [.string s]) :
  Calls Tryz.prog 47 #[.slice A 1 c,.string ⟨#[]⟩] w fun e w' => e = .returned (.string s) /\ w = w':=by
 obtain ⟨b,off,rfl,hb,hc⟩:=h.at_ (by omega);have c0 : w.cell? ⟨b,off,none⟩ = some (.string s):=hc 0 _ rfl;clear hc h;go_enter Tryz.func47,Tryz.ntmps47;go_wp2;go_returns;exact ⟨rfl,rfl⟩
theorem zey : ElemK Tryz.prog 47 128 (.agg #[.int .i64 0,.int .i64 0]) 2 16:=⟨Tryz.underlying47,by kernel_rfl,rfl,by omega⟩
def Fs (fs : List (Int × Int)) : List Value:=fs.flatMap fun f => [.int .i64 f.1,.int .i64 f.2]
theorem Fs_app (a : List (Int × Int)) (x y : Int) : Fs a ++ [.int .i64 x,.int .i64 y] = Fs (a ++ [(x,y)]):=by simp [Fs]
theorem ownK_grown {w w' : World} {base k : Nat} {e : TypeId} {v : Value} {n : Nat} {xs : List Value} {row : Option Nat} (h : w.ownsRow base e k v n xs) (hg : w.grownBy w' row) (hne : ∀ b,v.ownBlock = some b -> row ≠ some b) : w'.ownsRow base e k v n xs:=by
 refine ⟨h.1,?_⟩;rcases h.2 with hn | ⟨g,cap,cur,hv,hgb,hh,rest⟩
 ·exact .inl hn
 ·refine .inr ⟨g,cap,cur,hv,hgb,(hg.block g (Array.getElem?_eq_some_iff.1 hh).1 ?_).trans hh,rest⟩;have:=hne g (by rw [hv]; rfl);exact fun h => this h.symm
theorem zk2 (x y : Int) : ∀ u ∈ [Value.int .i64 x,Value.int .i64 y],u.oneCell' = true:=by
 intro u hu;simp only [List.mem_cons,List.not_mem_nil,or_false] at hu;rcases hu with rfl | rfl <;> rfl
section
variable {w : World}
end
end
end Go.Proofs.YtolcabjkbefjgaaGreatDoor
