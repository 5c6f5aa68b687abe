/- Keys that are characters, and pairs of them. An argument that is a list of characters, opened, with all that is known of it. A table of characters: New, Get. A table of characters: Set. Rows of a file: reading them, whether two are one, and the chapter's examples. slices.ContainsFunc of characters. -/
import Derived.Test.YtolcabjkbefjgaaGreatDoorY12
set_option linter.unusedSimpArgs false
set_option linter.unusedVariables false
set_option maxRecDepth 20000
set_option maxHeartbeats 4000000
namespace Go.Proofs.YtolcabjkbefjgaaGreatDoor
section
open Go.RowKit Go.Lib Go.Maps
abbrev runeV (x : Int) : Value:=.int .i32 x
abbrev zn (x : Int) : Lit:=.int .i32 x
def R32 (x : Int) : Prop:=-2147483648 <= x /\ x < 2147483648
theorem R32.wf {x : Int} (h : R32 x) : (Lit.int .i32 x).wf = true:=by
 obtain ⟨h1,h2⟩:=h;exact WalkArith.wf_i32 ⟨h1,by omega⟩
theorem R32.of_wf {x : Int} (h : (Lit.int .i32 x).wf = true) : R32 x:=by
 have:=bounds_i32 h;unfold R32;omega
theorem runeB {P : Program} {K : TypeId} (hk : P.underlying K = some (.int .i32)) : KeyB P K runeV zn R32 where
 keyed:=int_keyed hk
 of:=fun ha => keyOf_int_mk hk ha.wf
 inv:=fun h => by
  obtain ⟨x,rfl,rfl,hw⟩:=Maps.keyOf_int_inv hk h;exact ⟨x,.of_wf hw,rfl,rfl⟩
 mkinj:=fun h => by cases h; rfl
abbrev pairV (x : Int × Int) : Value:=.agg #[.int .i32 x.1,.int .i32 x.2]
def zc7 (x : Int × Int) : Lit:=.string (keyBytes [.int .i32 x.1,.int .i32 x.2])
def R32P (x : Int × Int) : Prop:=R32 x.1 /\ R32 x.2
theorem zhx {P : Program} {K e : TypeId} {m : Nat} (A : WideMaps.ArrKey P K e 2) (he : P.underlying e = some (.int .i32)) (hsz : P.types.size = m + 1) (x : Int × Int) (hx : R32P x) : keyOf P K (pairV x) = some (zc7 x):=by
 obtain ⟨h1,h2⟩:=hx;have hkt : P.keyType K = true:=A.keyType ⟨m,hsz⟩;have hf : (pairV x).formed P K = true:=by simp [Value.formed,A.hu,A.size]
 have hk : P.keyLits (P.types.size + 1) K (pairV x).cells.toList = some [.int .i32 x.1,.int .i32 x.2]:=by
  rw [hsz];simp [Program.keyLits,A.hu,A.size,A.one,he,Value.cells,List.range_succ,h1.wf,h2.wf]
 unfold keyOf;rw [A.hu];simp only [hkt,hf,Bool.and_self,if_true];rw [hk];rfl
theorem keyOf_pair_inv {P : Program} {K e : TypeId} {m : Nat} (A : WideMaps.ArrKey P K e 2) (he : P.underlying e = some (.int .i32)) (hsz : P.types.size = m + 1) {v : Value} {l : Lit} (h : keyOf P K v = some l) : ∃ x,R32P x /\ v = pairV x /\ l = zc7 x:=by
 have h0:=h;unfold keyOf at h;rw [A.hu] at h;simp only [] at h;split at h
 ·rename_i hc;simp only [Bool.and_eq_true] at hc
  cases v <;> simp [Value.formed,A.hu] at hc
  rename_i cs;have hs : cs.size = 2:=by rw [hc.2,A.size]
  obtain ⟨a,b,rfl⟩ : ∃ a b,cs = #[a,b]:=by
   rcases cs with ⟨l⟩;match l,hs with
   | [a,b],_ => exact ⟨a,b,rfl⟩
  rw [hsz] at h;simp [Program.keyLits,A.hu,A.size,A.one,he,Value.cells,List.range_succ] at h;obtain ⟨q1,n1,rfl⟩ : ∃ q n,a = .int q n:=by cases a <;> simp at h; exact ⟨_,_,rfl⟩
  obtain ⟨q2,n2,rfl⟩ : ∃ q n,b = .int q n:=by
   cases b <;> first | exact ⟨_,_,rfl⟩ | (exfalso; by_cases c1 : q1 = .i32 /\ (Lit.int .i32 n1).wf = true <;> simp [c1] at h)
  simp only [] at h
  by_cases c1 : q1 = .i32 /\ (Lit.int .i32 n1).wf = true
  ·by_cases c2 : q2 = .i32 /\ (Lit.int .i32 n2).wf = true
   ·obtain ⟨rfl,w1⟩:=c1;obtain ⟨rfl,w2⟩:=c2;refine ⟨(n1,n2),⟨.of_wf w1,.of_wf w2⟩,rfl,?_⟩;have:=zhx A he hsz (n1,n2) ⟨.of_wf w1,.of_wf w2⟩;rw [h0] at this;exact Option.some.inj this
   ·simp [c1,c2] at h
  ·simp [c1] at h
 ·cases h
theorem pairB {P : Program} {K e : TypeId} {m : Nat} (A : WideMaps.ArrKey P K e 2) (he : P.underlying e = some (.int .i32)) (hsz : P.types.size = m + 1) : KeyB P K pairV zc7 R32P where
 keyed:=Keyed.of_law A.law
 of:=fun ha => zhx A he hsz _ ha
 inv:=fun h => keyOf_pair_inv A he hsz h
 mkinj:=fun {a b} h => by
  obtain ⟨a1,a2⟩:=a;obtain ⟨b1,b2⟩:=b;simp at h;simp [h]
end
section
open Go.ChangeShapes Go.WideShapes Go.ChangeAt Go.RowKit Go.Lib
structure ArgR (w : World) (A : Option Addr) (n c : Nat) (zs : List Int) : Prop where
 rd : Rd w A n (Rs zs)
 len : zs.length = n
 r : ∀ x ∈ zs,R32 x
 cap : n <= c
 mx : c <= maxLen
 nil : A = none -> n = 0 /\ c = 0
end
section
open Go.RowKit Go.Lib Go.Maps
theorem zh : KeyB Tryz.prog 21 runeV zn R32:=runeB (by kernel_rfl)
theorem zc0 : Tryz.prog.underlying 158 = some (.map 21 240):=by kernel_rfl
theorem zb9 : Tryz.prog.underlying 240 = some (.array 256 3):=by kernel_rfl
theorem zcd (w : World) : (zeroValue 240).run Tryz.prog w = .ok (ze2 fun _ => 0) w:=by kernel_rfl
def TabAt (w : World) (tb mb n : Nat) (T : Int -> Int) : Prop :=
 w.heap[tb]? = some (.cells #[.int .i64 0,.map (some mb)] 160 (0,0)) /\
 ∃ f,MapF w Tryz.prog 21 zn R32 ze2 mb n f /\ ∀ r,R32 r -> T r = if r < 0 then 0 else match f (r / 256) with | some g => g (r % 256).toNat | none => 0
theorem zga (w : World) : Calls Tryz.prog 27 #[.int .i64 0] w fun e w' => e = .returned (.pointer (some ⟨w.heap.size + 1,0,none⟩)) /\ TabAt w' (w.heap.size + 1) w.heap.size 0 (fun _ => 0) /\ Below w.heap.size w w' /\ w'.heap.size = w.heap.size + 2:=by
 have hmm:=@run_makeMap Tryz.prog;go_enter Tryz.func27,Tryz.ntmps27;go_wp2;go_returns;have h1 : Below w.heap.size w (w.alloc (.map #[] 0)):=(Below.refl _ _).alloc (Nat.le_refl _) _;refine ⟨rfl,⟨?_,fun _ => none,(MapF.made w _ _ _ _ _).alloc _,fun r _ => by simp⟩,h1.alloc (by simp) _,by simp⟩;have:=heap_alloc_last (w.alloc (.map #[] 0)) (.cells #[.int .i64 0,.map (some w.heap.size)] 160);simpa using this
theorem zfg : (Tryz.prog.info? 240).map (·.size) = some 256:=by kernel_rfl
theorem zero_size : Tryz.zeroCells240.size = 256:=by kernel_rfl
theorem zee (w : World) (g : Nat -> Int) : (storeCells ⟨w.heap.size,0,none⟩ (zk g) 0).run Tryz.prog (w.alloc (.cells Tryz.zeroCells240 240)) = .ok () (w.alloc (.cells (zk g).toArray 240)):=by
 have:=run_storeCells_new (P:=Tryz.prog) w 240 Tryz.zeroCells240 (zk g).toArray (by rw [zfg]; simp [zad]) (by rw [zero_size]; simp [zad]) (by simp [zfi]; exact fun x hx => zfi g x hx);simpa using this
theorem zkk {r : Int} (h : R32 r) : wrap32 (r.tdiv 256) = r.tdiv 256 /\ R32 (r.tdiv 256):=by
 obtain ⟨h1,h2⟩:=h
 have h3 : r.tdiv 256 = r / 256 \/ r.tdiv 256 = -((-r) / 256):=by
  rcases Int.le_total 0 r with h | h
  ·exact .inl (Int.tdiv_eq_ediv_of_nonneg h)
  ·right;rw [<- Int.tdiv_eq_ediv_of_nonneg (by omega),Int.neg_tdiv,Int.neg_neg]
 unfold R32 wrap32;omega
theorem trieGet_any {w : World} {tb mb n : Nat} {T : Int -> Int} (h : TabAt w tb mb n T) (r : Int) (hr : R32 r) : Calls Tryz.prog 120 #[.pointer (some ⟨tb,0,none⟩),.int .i32 r] w fun e w' => e = .returned (.int .i64 (T r)) /\ Below w.heap.size w w':=by
 obtain ⟨hb,f,hm,hT⟩:=h;have c0 : w.cell? ⟨tb,0,none⟩ = some (.int .i64 0):=(by simp [World.cell?,hb]);have c1 : w.cell? ⟨tb,0 + 1,none⟩ = some (.map (some mb)):=(by simp [World.cell?,hb]);have htl : tb < w.heap.size:=(Array.getElem?_eq_some_iff.1 hb).1;have hst:=zee w;have hsz:=zad;have hTr:=hT r hr;obtain ⟨hr1,hr2⟩:=hr;have hkk : R32 (wrap32 (r.tdiv 256)):=(by rw [(zkk ⟨hr1,hr2⟩).1]; exact (zkk ⟨hr1,hr2⟩).2);clear hT hb
 by_cases hn : r < 0
 ·have hT0 : T r = 0:=(by rw [hTr,if_pos hn]);clear hTr;rw [hT0];go_enter Tryz.func120,Tryz.ntmps120;go_wp2_with (first | (at_lookup; refine zj rfl _ _ rfl zh zc0 (zcd _) hm (k:=wrap32 (r.tdiv 256)) hkk rfl rfl ?_) | go_in)
  go_returns;exact ⟨rfl,(Below.refl _ _).alloc (Nat.le_refl _) _⟩
 ·have hkd : wrap32 (r.tdiv 256) = r / 256:=(by rw [(zkk ⟨hr1,hr2⟩).1,Int.tdiv_eq_ediv_of_nonneg (by omega)]);rw [hkd] at hkk;rw [if_neg hn] at hTr;have hge : 0 <= r:=by omega
  cases hf : f (r / 256) with
  | none =>
   rw [hf] at hTr;have hT0 : T r = 0:=hTr;rw [hT0];clear hTr;go_enter Tryz.func120,Tryz.ntmps120;go_wp2_with (first | (at_lookup; refine zj rfl _ _ rfl zh zc0 (zcd _) hm (k:=r / 256) hkk rfl (by rw [<- hkd]; rfl) ?_; rw [hf]) | go_in)
   go_returns;exact ⟨rfl,(Below.refl _ _).alloc (Nat.le_refl _) _⟩
  | some g =>
   rw [hf] at hTr;have hT0 : T r = g (r % 256).toNat:=hTr;rw [hT0];clear hTr;have hm1 : wrap32 (r.tmod 256) = r % 256:=(by rw [Int.tmod_eq_emod_of_nonneg hge]; unfold wrap32; omega);have hm2 : (0 : Int) <= r % 256:=(by omega);have hm3 : (r % 256).toNat < 256:=(by omega);have hm4 : r % 256 < 256:=by omega
   have hc : (w.alloc (.cells (zk g).toArray 240)).cell? ⟨w.heap.size,(r % 256).toNat,none⟩ = some (.int .i64 (g (r % 256).toNat)):=by
    rw [cell_of_row _ _ _ (zk g).toArray 240 (0,0) (heap_alloc_last w _)];simpa using zb3 g hm3
   go_enter Tryz.func120,Tryz.ntmps120;go_wp2_with (first | (at_lookup; refine zj rfl _ _ rfl zh zc0 (zcd _) hm (k:=r / 256) hkk rfl (by rw [<- hkd]; rfl) ?_; rw [hf]) | go_in)
   go_returns;exact ⟨rfl,(Below.refl _ _).alloc (Nat.le_refl _) _⟩
end
section
open Go.RowKit Go.Lib Go.Maps
theorem blockC_set (g : Nat -> Int) (i : Nat) (v : Int) : (zk g).toArray.setIfInBounds i (.int .i64 v) = (zk fun k => if k = i then v else g k).toArray:=by
 apply Array.ext_getElem?;intro k;rw [Array.getElem?_setIfInBounds];simp only [List.getElem?_toArray,List.size_toArray,zad]
 by_cases hk : k < 256
 ·rw [zb3 _ hk]
  by_cases h : i = k
  ·subst h;simp [hk,zb3]
  ·rw [if_neg h,zb3 _ hk,if_neg (fun e => h e.symm)]
 ·have hn : ∀ g,(zk g)[k]? = none:=fun g => List.getElem?_eq_none (by rw [zad]; omega);rw [hn,hn];split
  ·split
   ·omega
   ·rfl
  ·rfl
theorem zfj (g : Nat -> Int) : (zk g).toArray.all (·.oneCell') = true:=by simp; exact fun x hx => zfi g x hx
theorem zero_cells : Tryz.zeroCells240 = (zk fun _ => 0).toArray:=by kernel_rfl
theorem zfh {w : World} {b : Nat} {g : Nat -> Int} (h : w.heap[b]? = some (.cells (zk g).toArray 240 (0,0))) {i : Nat} (hi : i < 256) : w.cell? ⟨b,i,none⟩ = some (.int .i64 (g i)):=by
 rw [cell_of_row _ _ _ (zk g).toArray 240 (0,0) h];simpa using zb3 g hi
theorem zdh {w : World} {b : Nat} {g : Nat -> Int} (h : w.heap[b]? = some (.cells (zk g).toArray 240 (0,0))) (i : Nat) : w.frozen? ⟨b,i,none⟩ = false:=by simp [World.frozen?,h]
theorem zhf {w : World} {b : Nat} {g : Nat -> Int} (h : w.heap[b]? = some (.cells (zk g).toArray 240 (0,0))) {i : Nat} (hi : i < 256) (v : Int) :
  (w.setCell ⟨b,i,none⟩ (.int .i64 v)).heap[b]? = some (.cells (zk fun k => if k = i then v else g k).toArray 240 (0,0)):=by
 have hb:=(Array.getElem?_eq_some_iff.1 h).1;simp [World.setCell,Array.getElem?_modify,h,blockC_set g i v]
theorem plain_any {w : World} {tb : Nat} (c0 : w.cell? ⟨tb,0,none⟩ = some (.int .i64 0)) : Calls Tryz.prog 113 #[.pointer (some ⟨tb,0,none⟩)] w fun e w' => e = .returned (.agg (zk fun _ => 0).toArray) /\ Below w.heap.size w w':=by
 have hz:=zero_cells;have htl : tb < w.heap.size:=World.block_lt_of_cell? w _ c0;have hb0 : Below w.heap.size w (w.alloc (.cells Tryz.zeroCells240 240)):=(Below.refl _ _).alloc (Nat.le_refl _) _;have hh0 : (w.alloc (.cells Tryz.zeroCells240 240)).heap[w.heap.size]? = some (.cells (zk fun _ => 0).toArray 240 (0,0)):=(by rw [<- hz]; exact heap_alloc_last w _);clear hz;go_enter Tryz.func113,Tryz.ntmps113;go_wp2
 go_loopw [4] (fun i wr => ∃ k : Nat,k <= 256 /\ i = .int .i64 k /\ wr.heap[w.heap.size]? = some (.cells (zk fun _ => 0).toArray 240 (0,0)) /\ Below w.heap.size w wr) (fun i _ => 256 - (intOf i).toNat)
 case atStart => exact ⟨0,Nat.zero_le _,rfl,hh0,hb0⟩
 case round =>
  obtain ⟨k,hk,rfl,hh,hb⟩:=hrel
  by_cases hlt : k < 256
  ·have hki : (k : Int) < 256:=(by omega);have hki0 : (0 : Int) <= (k : Int):=(by omega);have d0 : wr.cell? ⟨tb,0,none⟩ = some (.int .i64 0):=(hb.cell (p:=⟨tb,0,none⟩) htl).trans c0;have e0:=zfh hh hlt;have e1:=zdh hh k;have hh2:=zhf hh hlt 0;have hb2 : Below w.heap.size w (wr.setCell ⟨w.heap.size,k,none⟩ (.int .i64 0)):=hb.setCell (p:=⟨w.heap.size,k,none⟩) (Nat.le_refl _) _
   have hh3 : (wr.setCell ⟨w.heap.size,k,none⟩ (.int .i64 0)).heap[w.heap.size]? = some (.cells (zk fun _ => 0).toArray 240 (0,0)):=by
    rw [hh2];congr 2;rw [za2 (h:=fun _ => 0)];intro i hi;simp
   clear hh hh2 hb;go_wp2;go_roundw
   case rel => exact ⟨k + 1,by omega,by go_num,hh3,hb2⟩
   case measure => simp [intOf]; omega
  ·have hki : (256 : Int) <= (k : Int):=(by omega);have hsz : (zk fun _ => 0).toArray.size = 256:=(by simp [zad]);have hsz2 : (Tryz.prog.info? 240).map (·.size) = some (zk fun _ => 0).toArray.size:=(by rw [hsz]; exact zfg);have hone : (zk fun _ => 0).toArray.all (·.oneCell') = true:=zfj _;have hb2:=setRow_below hb (b:=w.heap.size) (Nat.le_refl _) (zk fun _ => 0).toArray;have hh2:=setRow_blk (c:=(zk fun _ => 0).toArray) hh;go_wp2_with (first | (refine zag rfl rfl zb9 hsz2 hh rfl ?_) | (refine zco rfl rfl hsz2 rfl hone hh rfl rfl ?_) | go_in)
   have hrun:=run_loadVar_row (P:=Tryz.prog) _ w.heap.size 240 240 (zk fun _ => 0).toArray _ _ hh2 zb9 rfl hsz2;refine bodyPost_ret (v:=.agg (zk fun _ => 0).toArray) ?_ rfl ⟨rfl,hb2⟩;simp [results,Tryz.f113,Act.put,asAddr,Sem.run_pure,Result.andThen,hrun]
end
end Go.Proofs.YtolcabjkbefjgaaGreatDoor
section
section
namespace Go.Proofs.YtolcabjkbefjgaaGreatDoor
open Go.RowKit
structure zeb (w : World) (A : Option Addr) (os : List RA) : Prop where
 cells : RdK w A os.length 7 (Vs os)
 into : ∀ x ∈ os,Rd w x.2.1 x.1.il.length (Rs x.1.il)
section
variable {w w' : World} {A : Option Addr} {os : List RA}
theorem zaq.rd {T : TypeId} {B c : Nat} (h : zaq T B w os A c) : zeb w A os:=by
 refine ⟨?_,fun x hx => ?_⟩
 ·obtain ⟨A',c',hv,_,_,hr⟩:=RdK.of_own h.own;injection hv with h1 _ _;subst h1;exact hr
 ·obtain ⟨A',c',hv,_,_,hr⟩:=Rd.of_own (h.into x hx);injection hv with h1 _ _;subst h1;exact hr
theorem zeb.below (h : zeb w A os) (hb : Below w.heap.size w w') : zeb w' A os:=⟨h.cells.below (by omega) hb,fun x hx => (h.into x hx).below hb⟩
theorem zeb.at_ (h : zeb w A os) (hn : 0 < os.length) : ∃ b off,A = some ⟨b,off,none⟩ /\ b < w.heap.size /\ ∀ j u,(Vs os)[j]? = some u -> w.cell? ⟨b,off + j,none⟩ = some u:=h.cells.at_ (by omega) hn
theorem zjc {os : List RA} {k : Nat} {x : RowS} {Ax : Option Addr} {cx : Nat} (hx : os[k]? = some (x,Ax,cx)) {b off : Nat} (hc : ∀ j u,(Vs os)[j]? = some u -> w.cell? ⟨b,off + j,none⟩ = some u) :
  w.cell? ⟨b,off + k * 7,none⟩ = some (.int .i32 x.fr) /\ w.cell? ⟨b,off + k * 7 + 1,none⟩ = some (.int .i32 x.up) /\ w.cell? ⟨b,off + k * 7 + 2,none⟩ = some (.string (mk8 x.nm)) /\ w.cell? ⟨b,off + k * 7 + 3,none⟩ = some (.string (mk8 x.ct)) /\ w.cell? ⟨b,off + k * 7 + 4,none⟩ = some (.int .i64 x.cl) /\ w.cell? ⟨b,off + k * 7 + 5,none⟩ = some (.string (mk8 x.kd)) /\ w.cell? ⟨b,off + k * 7 + 6,none⟩ = some (.slice Ax x.il.length cx):=by
 have hv:=Vs_at os k _ hx
 have g : ∀ j u,(rowC (x,Ax,cx))[j]? = some u -> w.cell? ⟨b,off + k * 7 + j,none⟩ = some u:=fun j u hu => by
  have:=hc _ _ (hv j u hu);rwa [<- Nat.add_assoc] at this
 exact ⟨g 0 _ rfl,g 1 _ rfl,g 2 _ rfl,g 3 _ rfl,g 4 _ rfl,g 5 _ rfl,g 6 _ rfl⟩
end
end Go.Proofs.YtolcabjkbefjgaaGreatDoor
end
section
namespace Go.Proofs.YtolcabjkbefjgaaGreatDoor
open Go.RowKit
theorem indexf_any (g : FuncId) (cb : Array Value) (en : ∀ args w,(callFunc g args).run Tryz.prog w = .ok (.enter g args) w) (p : Int -> Bool) (A : Option Addr) (n c : Nat) (zs : List Int) (w : World) (hr : Rd w A n (Rs zs)) (hn : n <= 1099511627776)
  (hp : ∀ x W,Below w.heap.size w W -> Calls Tryz.prog g (#[.int .i32 x] ++ cb) W fun e W' => e = .returned (.bool (p x)) /\ Below W.heap.size W W') :
  Calls Tryz.prog 109 #[.slice A n c,.func (.func g) #[] cb] w fun e w' => (∃ k : Int,e = .returned (.int .i64 k) /\ decide (0 <= k) = zs.any p) /\ Below w.heap.size w w':=by
 have hzl : zs.length = n:=(by have:=hr.1; simpa [Rs] using this);have HZL:=hz0q hzl;clear hzl;have HP:=hz0q hp;clear hp;go_enter Tryz.func109,Tryz.ntmps109;go_wp2
 go_loopw [8] (fun i wr => ∃ k : Nat,k <= n /\ i = .int .i64 k /\ Hid ((zs.take k).any p = false) /\ Below w.heap.size w wr) (fun i _ => n - (intOf i).toNat)
 case atStart => exact ⟨0,Nat.zero_le _,rfl,by show _ = _; rfl,Below.refl _ _⟩
 case round =>
  obtain ⟨k,hk,rfl,HA,hb⟩:=hrel
  by_cases hlt : k < n
  ·obtain ⟨x,hx⟩ : ∃ x,zs[k]? = some x:=⟨_,List.getElem?_eq_getElem (by rw [HZL.out]; exact hlt)⟩;obtain ⟨b,off,rfl,hbl,hc⟩:=(hr.below hb).at_ (by omega);have cx : wr.cell? ⟨b,off + k,none⟩ = some (.int .i32 x):=hc k _ (by simp [Rs,hx]);have HC:=HP.out x wr hb
   have HT : Hid ((zs.take (k + 1)).any p = p x):=by
    show _ = _;rw [List.take_add_one,hx,List.any_append,HA.out];simp
   have hi : (k : Int) < (n : Int):=(by omega);clear hc hr hx
   cases hpx : p x
   ·rw [hpx] at HC HT;clear hpx;go_wp2_with fail;refine HC.mono ?_;rintro e w1 ⟨rfl,hb1⟩;have hb2:=zb hb hb1;go_wp2;go_roundw
    case rel => exact ⟨k + 1,by omega,by go_num,HT,hb2⟩
    case measure => simp [intOf]; omega
   ·have HZ : Hid (zs.any p = true):=by
     show _ = _;rw [<- List.take_append_drop (k + 1) zs,List.any_append,HT.out,hpx];rfl
    rw [hpx] at HC;clear hpx HT;go_wp2_with fail;refine HC.mono ?_;rintro e w1 ⟨rfl,hb1⟩;have hb2:=zb hb hb1;go_wp2;go_returns;rw [HZ.out];exact ⟨⟨(k : Int),rfl,by simp⟩,hb2⟩
  ·have hi : (n : Int) <= (k : Int):=by omega
   have HZ : Hid (zs.any p = false):=by
    show _ = _;rw [<- HA.out,List.take_of_length_le (by rw [HZL.out]; omega)]
   go_wp2;go_returns;rw [HZ.out];exact ⟨⟨-1,rfl,by decide⟩,hb⟩
theorem containsf_any (g : FuncId) (cb : Array Value) (en : ∀ args w,(callFunc g args).run Tryz.prog w = .ok (.enter g args) w) (p : Int -> Bool) (A : Option Addr) (n c : Nat) (zs : List Int) (w : World) (hr : Rd w A n (Rs zs)) (hn : n <= 1099511627776)
  (hp : ∀ x W,Below w.heap.size w W -> Calls Tryz.prog g (#[.int .i32 x] ++ cb) W fun e W' => e = .returned (.bool (p x)) /\ Below W.heap.size W W') :
  Calls Tryz.prog 62 #[.slice A n c,.func (.func g) #[] cb] w fun e w' => e = .returned (.bool (zs.any p)) /\ Below w.heap.size w w':=by
 have HI:=indexf_any g cb en p A n c zs w hr hn hp;clear hp hr;go_enter Tryz.func62,Tryz.ntmps62;go_wp2_with fail;refine HI.mono ?_;rintro e w1 ⟨⟨k,rfl,hk⟩,hb⟩;have HK:=hz0q hk;clear hk HI;go_wp2;go_returns;refine ⟨?_,hb⟩;rw [<- HK.out];rfl
def betw (a b x : Int) : Bool:=decide (a <= x) && decide (x <= b)
theorem sets1_any (x a b : Int) (p q : Nat) (w : World) (ha : w.cell? ⟨p,0,none⟩ = some (.int .i32 a)) (hb : w.cell? ⟨q,0,none⟩ = some (.int .i32 b)) :
  Calls Tryz.prog 63 #[.int .i32 x,.pointer (some ⟨p,0,none⟩),.pointer (some ⟨q,0,none⟩)] w fun e w' => e = .returned (.bool (betw a b x)) /\ w = w':=by
 by_cases h1 : a <= x
 ·by_cases h2 : x <= b
  ·go_enter Tryz.func63,Tryz.ntmps63;go_wp2;go_returns;exact ⟨zam (by simp [betw,h1,h2]),rfl⟩
  ·have h3 : b < x:=(by omega);go_enter Tryz.func63,Tryz.ntmps63;go_wp2;go_returns;exact ⟨zam (by simp [betw,h2]; try omega),rfl⟩
 ·have h3 : x < a:=(by omega);go_enter Tryz.func63,Tryz.ntmps63;go_wp2;go_returns;exact ⟨zam (by simp [betw,h1]; try omega),rfl⟩
end Go.Proofs.YtolcabjkbefjgaaGreatDoor
end
end
