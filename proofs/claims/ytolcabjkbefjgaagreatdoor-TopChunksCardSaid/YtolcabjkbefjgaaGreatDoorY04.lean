/- What the library's own words for texts (split, cut, trim, fields) say at blanks and single bytes: the words of FldSpec. No program stands here. A table of characters: its blocks as values, and how they are made, compared and told. utf8.lead, second, Next. utf8.Next. -/
import Derived.Lib.SplitLaws
import Derived.Lib.SlTrimSet
import Derived.Lib.FieldsP
import Derived.Lib.SpaceUEq
import Derived.Test.YtolcabjkbefjgaaGreatDoorY02
import Derived.Deep.WholeRow
set_option linter.unusedSimpArgs false
set_option linter.unusedVariables false
set_option maxRecDepth 20000
set_option maxHeartbeats 4000000
namespace Go.Proofs.YtolcabjkbefjgaaGreatDoor
section
open Go.RowKit
def cutR (c : UInt8) : List UInt8 -> List UInt8 -> List (List UInt8)
 | cur,[] => [cur]
 | cur,b :: t => if b = c then cur :: cutR c [] t else cutR c (cur ++ [b]) t
theorem zfe (c : UInt8) : ∀ (l cur : List UInt8) (acc : List (List UInt8)),(l.foldl (zba c) (acc,cur)).1 ++ [(l.foldl (zba c) (acc,cur)).2] = acc ++ cutR c cur l
 | [],cur,acc => rfl
 | b :: t,cur,acc => by
  rw [List.foldl_cons];simp only [cutR,zba];split
  ·rw [zfe c t [] (acc ++ [cur])]; simp
  ·rw [zfe c t (cur ++ [b]) acc]
theorem cutL_R (c : UInt8) (l : List UInt8) : cutL c l = cutR c [] l:=by
 have:=zfe c l [] [];simpa [cutL,cutF] using this
theorem zmr (c b : UInt8) (t : List UInt8) : [c].isPrefixOf (b :: t) = (c == b):=by simp [List.isPrefixOf]
theorem zj7 (c : UInt8) : ∀ (l cur : List UInt8),Lib.index l [c] = -1 -> cutR c cur l = [cur ++ l]
 | [],cur,_ => by simp [cutR]
 | b :: t,cur,h => by
  simp only [Lib.index] at h;rw [zmr] at h
  by_cases hb : c = b
  ·rw [if_pos (by simp [hb])] at h; omega
  ·rw [if_neg (by simp [hb])] at h
   have ht : Lib.index t [c] = -1:=by
    by_cases hx : Lib.index t [c] = -1
    ·exact hx
    ·rw [if_neg (by simp [hx])] at h;have:=Lib.index_ge t [c];omega
   simp only [cutR];rw [if_neg (fun e => hb e.symm),zj7 c t (cur ++ [b]) ht];simp
theorem zl7 (c : UInt8) : ∀ (l cur : List UInt8) (i : Nat),Lib.index l [c] = i -> cutR c cur l = (cur ++ l.take i) :: cutR c [] (l.drop (i + 1))
 | [],cur,i,h => by
  simp only [Lib.index] at h;simp at h
 | b :: t,cur,i,h => by
  simp only [Lib.index] at h;rw [zmr] at h
  by_cases hb : c = b
  ·rw [if_pos (by simp [hb])] at h;have : i = 0:=(by omega);subst this;simp only [cutR];rw [if_pos hb.symm];simp
  ·rw [if_neg (by simp [hb])] at h
   by_cases hx : Lib.index t [c] = -1
   ·rw [if_pos (by simp [hx])] at h; omega
   ·rw [if_neg (by simp [hx])] at h;obtain ⟨j,hj⟩ : ∃ j : Nat,Lib.index t [c] = j:=⟨(Lib.index t [c]).toNat,by have:=Lib.index_ge t [c]; omega⟩;have : i = j + 1:=(by omega);subst this;simp only [cutR];rw [if_neg (fun e => hb e.symm),zl7 c t (cur ++ [b]) j hj];simp
theorem split_R (c : UInt8) : ∀ (k : Nat) (l : List UInt8),Lib.count l [c] = k -> Lib.splitK [c] 0 k l = cutR c [] l:=by
 intro k;induction k with
 | zero =>
  intro l h
  by_cases hx : Lib.index l [c] = -1
  ·rw [zj7 c l [] hx]; rfl
  ·exfalso;obtain ⟨j,hj⟩ : ∃ j : Nat,Lib.index l [c] = j:=⟨(Lib.index l [c]).toNat,by have:=Lib.index_ge l [c]; omega⟩;rw [Lib.count_hit (by simp) hj] at h;omega
 | succ k ih =>
  intro l h
  by_cases hx : Lib.index l [c] = -1
  ·rw [Lib.count_miss hx] at h; omega
  ·obtain ⟨j,hj⟩ : ∃ j : Nat,Lib.index l [c] = j:=⟨(Lib.index l [c]).toNat,by have:=Lib.index_ge l [c]; omega⟩;rw [Lib.count_hit (by simp) hj] at h;simp only [Lib.splitK];rw [if_neg (by simp [hx]),zl7 c l [] j hj,hj];simp only [Int.toNat_natCast,List.length_singleton,Nat.add_zero,List.nil_append] at h ⊢;rw [ih _ (by omega)]
theorem zi3 (s : ByteArray) (c : UInt8) : Lib.splitB ⟨#[c]⟩ 0 (Lib.countB s ⟨#[c]⟩) s = (cutL c (bs s)).map mk8:=by
 have h:=Lib.splitB_data ⟨#[c]⟩ 0 (Lib.countB s ⟨#[c]⟩) s;have h2 : Lib.splitK [c] 0 (Lib.countB s ⟨#[c]⟩) (bs s) = cutL c (bs s):=(by rw [cutL_R]; exact split_R c _ _ rfl);have h3 : (Lib.splitB ⟨#[c]⟩ 0 (Lib.countB s ⟨#[c]⟩) s).map bs = cutL c (bs s):=h.trans h2;rw [<- h3,List.map_map];conv => lhs; rw [<- List.map_id (Lib.splitB ⟨#[c]⟩ 0 (Lib.countB s ⟨#[c]⟩) s)]
 exact List.map_congr_left fun x _ => (zmw x).symm
theorem split_len (s : ByteArray) (c : UInt8) : Lib.countB s ⟨#[c]⟩ + 1 = (cutL c (bs s)).length:=by
 have h:=Lib.splitB_all ⟨#[c]⟩ (Nat.le_refl 1) 0 (Lib.countB s ⟨#[c]⟩) s rfl;rw [<- h,zi3,List.length_map]
theorem zka (b : UInt8) : ([9,13,32] : List UInt8).contains b = zao b:=by
 have h9 : (b = 9) ↔ b.toNat = 9:=⟨fun h => by rw [h]; rfl,fun h => UInt8.toNat.inj h⟩;have h13 : (b = 13) ↔ b.toNat = 13:=⟨fun h => by rw [h]; rfl,fun h => UInt8.toNat.inj h⟩;have h32 : (b = 32) ↔ b.toNat = 32:=⟨fun h => by rw [h]; rfl,fun h => UInt8.toNat.inj h⟩
 have e : zao b = decide (b = 9 \/ b = 13 \/ b = 32):=by
  unfold zao zkb;refine decide_eq_decide.2 ⟨fun h => ?_,fun h => ?_⟩
  ·rcases h with h | h | h
   ·exact .inl (h9.2 (by omega))
   ·exact .inr (.inl (h13.2 (by omega)))
   ·exact .inr (.inr (h32.2 (by omega)))
  ·rcases h with h | h | h
   ·have:=h9.1 h; omega
   ·have:=h13.1 h; omega
   ·have:=h32.1 h; omega
 rw [e];simp only [List.contains_cons,List.contains_nil,Bool.or_false]
 by_cases a : b = 9 <;> by_cases c : b = 13 <;> by_cases d : b = 32 <;> simp [a,c,d]
theorem lstrip_S (l : List UInt8) : Lib.trimLeftS l [9,13,32] = lstrip l:=by
 unfold Lib.trimLeftS lstrip;congr 1;funext b;exact zka b
theorem rstrip_S (l : List UInt8) : Lib.trimRightS l [9,13,32] = rstrip l:=by
 unfold Lib.trimRightS rstrip;have : (fun b : UInt8 => ([9,13,32] : List UInt8).contains b) = zao:=(by funext b; exact zka b);rw [this]
theorem zgo (b : UInt8) (t : List UInt8) : rstrip (b :: t) = if rstrip t = [] then (if zao b = true then [] else [b]) else b :: rstrip t:=by
 simp only [rstrip,List.reverse_cons,List.dropWhile_append,List.isEmpty_iff]
 by_cases h : List.dropWhile zao t.reverse = []
 ·by_cases hb : zao b = true <;> simp [h,List.dropWhile_cons,hb]
 ·simp [h]
theorem zgd : ∀ l : List UInt8,lstrip (rstrip l) = rstrip (lstrip l)
 | [] => rfl
 | b :: t => by
  have ih:=zgd t;rw [zgo]
  by_cases hb : zao b = true
  ·rw [lstrip_yes hb,<- ih];split
   ·rename_i h;rw [h]
   ·rw [lstrip_yes hb]
  ·have hb' : zao b = false:=(by simpa using hb);rw [zgs hb',zgo];split
   ·rw [zgs hb']
   ·rw [zgs hb']
theorem zn6 (l : List UInt8) : Lib.trimS l [9,13,32] = bareL l:=by
 unfold Lib.trimS bareL;rw [lstrip_S,rstrip_S,zgd]
def zdi (x : Nat) : Bool:=zkb x
theorem words_blankE {b : UInt8} {w t : List UInt8} (h : zao b = true) (hw : w ≠ []) : zp w (b :: t) = w :: zp [] t:=by rw [zed _ _ h,if_neg hw]
theorem ze5 : ∀ (n : Nat) (l w : List UInt8),n <= l.length -> (∀ j,j < n -> ∀ b,l[j]? = some b -> zao b = false) -> zp w l = zp (w ++ l.take n) (l.drop n)
 | 0,l,w,_,_ => by simp
 | n + 1,[],w,h,_ => by simp at h
 | n + 1,b :: t,w,h,hb => by
  rw [zdj w t (hb 0 (by omega) b rfl),ze5 n t (w ++ [b]) (by simp at h; omega) (fun j hj c hc => hb (j + 1) (by omega) c (by simpa using hc))];simp
theorem high_bytes (s : ByteArray) (pos : Nat) (h : pos < s.size) (ha : 128 <= (s[pos]'h).toNat) :
  pos + (Utf8.decode s pos).2 <= s.size /\ ∀ j,j < (Utf8.decode s pos).2 -> ∀ b,((bs s).drop pos)[j]? = some b -> zao b = false:=by
 have hd:=Lib.decodeN_conts ((bs s).length - pos) (((bs s).getD pos 0).toNat) (((bs s).getD (pos + 1) 0).toNat) (((bs s).getD (pos + 2) 0).toNat) (((bs s).getD (pos + 3) 0).toNat);have hN : Utf8.decode s pos = Lib.decodeN ((bs s).length - pos) (((bs s).getD pos 0).toNat) (((bs s).getD (pos + 1) 0).toNat) (((bs s).getD (pos + 2) 0).toNat) (((bs s).getD (pos + 3) 0).toNat):=Lib.decode_N s pos;rw [<- hN] at hd;obtain ⟨c2,c3,c4,c5⟩:=hd;have hl : (bs s).length = s.size:=zi s;have hw:=(decode_high s pos h ha).2;refine ⟨by omega,fun j hj b hb => ?_⟩;rw [List.getElem?_drop] at hb
 have hbig : 128 <= b.toNat:=by
  have hg : ∀ i,(bs s)[i]? = some b -> ((bs s).getD i 0) = b:=fun i hi => by simp [List.getD,hi]
  rcases (show j = 0 \/ j = 1 \/ j = 2 \/ j = 3 by omega) with e | e | e | e
  ·subst e;rw [Nat.add_zero,bs_get s pos h] at hb;injection hb with hb;rw [<- hb]; exact ha
  ·subst e; have:=c2 (by omega); rw [hg _ hb] at this; omega
  ·subst e; have:=c3 (by omega); rw [hg _ hb] at this; omega
  ·subst e; have:=c4 (by omega); rw [hg _ hb] at this; omega
 simp only [zao,zkb,decide_eq_false_iff_not];omega
theorem zhz {x : Nat} (h : 128 <= x) : zdi x = false:=by
 simp only [zdi,zkb,decide_eq_false_iff_not];omega
theorem zb8 (s : ByteArray) (a pos n : Nat) (h : a <= pos) : ((bs s).take (pos + n)).drop a = ((bs s).take pos).drop a ++ ((bs s).drop pos).take n:=by
 by_cases hp : pos <= (bs s).length
 ·rw [List.take_add,List.drop_append,List.length_take,Nat.min_eq_left hp,Nat.sub_eq_zero_of_le h,List.drop_zero]
 ·rw [List.take_of_length_le (by omega),List.take_of_length_le (by omega),List.drop_of_length_le (l:=bs s) (i:=pos) (by omega)];simp
theorem spans_words (s : ByteArray) : ∀ (f pos : Nat) (st : Option Nat) (acc : List (Nat × Nat)),s.size - pos <= f -> pos <= s.size -> (∀ a,st = some a -> a < pos) ->
  ((Lib.closeSpans s (Lib.spansFromP zdi s f pos st acc)).map fun x => bs (s.extract x.1 x.2)) = (acc.map fun x => bs (s.extract x.1 x.2)) ++ zp (match st with | some a => ((bs s).take pos).drop a | none => []) ((bs s).drop pos):=by
 have hl : (bs s).length = s.size:=zi s
 have hend : ∀ (pos : Nat) (st : Option Nat) (acc : List (Nat × Nat)),pos = s.size -> (∀ a,st = some a -> a < pos) ->
   ((Lib.closeSpans s (acc,st)).map fun x => bs (s.extract x.1 x.2)) = (acc.map fun x => bs (s.extract x.1 x.2)) ++ zp (match st with | some a => ((bs s).take pos).drop a | none => []) ((bs s).drop pos):=by
  intro pos st acc hp hst;subst hp;rw [zbc s s.size (Nat.le_refl _)]
  cases st with
  | none => simp [Lib.closeSpans,zp]
  | some a =>
   have hne : ((bs s).take s.size).drop a ≠ []:=by
    intro h;have:=congrArg List.length h;have:=hst a rfl;simp only [List.length_drop,List.length_take,List.length_nil] at *;omega
   simp only [zp];rw [if_neg hne];simp [Lib.closeSpans,zck]
 intro f;induction f with
 | zero =>
  intro pos st acc hf hp hst;exact hend pos st acc (by omega) hst
 | succ f ih =>
  intro pos st acc hf hp hst
  by_cases hin : pos < s.size
  ·unfold Lib.spansFromP;rw [if_pos hin];have hd:=zcy s pos hin
   by_cases hasc : (s[pos]'hin).toNat < 128
   ·have hdec:=decode_ascii s pos hin hasc;rw [hdec];simp only []
    by_cases hbl : zao (s[pos]'hin) = true
    ·rw [if_pos (show zdi (s[pos]'hin).toNat = true from hbl)]
     cases st with
     | none =>
      simp only [];rw [ih (pos + 1) none acc (by omega) (by omega) (by simp),hd,zed _ _ hbl,if_pos rfl]
     | some a =>
      have hlt:=hst a rfl
      have hne : ((bs s).take pos).drop a ≠ []:=by
       intro h;have:=congrArg List.length h;simp only [List.length_drop,List.length_take,List.length_nil] at this;omega
      simp only [];rw [ih (pos + 1) none (acc ++ [(a,pos)]) (by omega) (by omega) (by simp),hd,words_blankE hbl hne];simp [zck]
    ·have hbl' : zao (s[pos]'hin) = false:=(by simpa using hbl);rw [if_neg (show ¬ zdi (s[pos]'hin).toNat = true from hbl)]
     cases st with
     | none =>
      simp only [];rw [ih (pos + 1) (some pos) acc (by omega) (by omega) (by intro a h; injection h with h; omega),hd,zdj _ _ hbl'];simp only [List.nil_append];rw [zb8 s pos pos 1 (Nat.le_refl _),hd,List.drop_of_length_le (by rw [List.length_take]; omega)];simp
     | some a =>
      have hlt:=hst a rfl;simp only [];rw [ih (pos + 1) (some a) acc (by omega) (by omega) (by intro b h; injection h with h; omega),hd,zdj _ _ hbl'];simp only [];rw [zb8 s a pos 1 (by omega),hd];simp
   ·have ha : 128 <= (s[pos]'hin).toNat:=(by omega);obtain ⟨hw,hno⟩:=high_bytes s pos hin ha;obtain ⟨hbig,hw1⟩:=decode_high s pos hin ha;obtain ⟨r,n,hrn⟩ : ∃ r n,Utf8.decode s pos = (r,n):=⟨_,_,rfl⟩;rw [hrn] at hw hno hbig hw1 ⊢;simp only [] at hw hno hbig hw1 ⊢;rw [if_neg (by rw [zhz hbig]; simp)];have hdl : n <= ((bs s).drop pos).length:=by rw [List.length_drop]; omega
    cases st with
    | none =>
     simp only [];rw [ih (pos + n) (some pos) acc (by omega) (by omega) (by intro a h; injection h with h; omega),ze5 n ((bs s).drop pos) [] hdl hno];simp only [List.nil_append,List.drop_drop];rw [zb8 s pos pos n (Nat.le_refl _),List.drop_of_length_le (l:=List.take pos (bs s)) (by rw [List.length_take]; omega)];simp
    | some a =>
     have hlt:=hst a rfl;simp only [];rw [ih (pos + n) (some a) acc (by omega) (by omega) (by intro b h; injection h with h; omega),ze5 n ((bs s).drop pos) _ hdl hno];simp only [List.drop_drop];rw [zb8 s a pos n (by omega)]
  ·rw [Lib.spansFromP_end _ _ _ _ _ _ hin];exact hend pos st acc (by omega) hst
theorem fields_words (s : ByteArray) : Lib.goFieldsP zdi s = (zfn (bs s)).map mk8:=by
 have h:=spans_words s s.size 0 none [] (by omega) (by omega) (by simp);simp only [List.map_nil,List.nil_append,List.drop_zero] at h;unfold Lib.goFieldsP Lib.spansOfP zfn;rw [<- h,List.map_map];exact List.map_congr_left fun x _ => (zmw _).symm
end
section
open Go.RowKit Go.Lib Go.Maps
def zk (g : Nat -> Int) : List Value:=(List.range 256).map fun i => .int .i64 (g i)
abbrev ze2 (g : Nat -> Int) : Value:=.agg (zk g).toArray
theorem zad (g : Nat -> Int) : (zk g).length = 256:=by simp [zk]
theorem zb3 (g : Nat -> Int) {i : Nat} (hi : i < 256) : (zk g)[i]? = some (.int .i64 (g i)):=by simp [zk,hi]
theorem zfi (g : Nat -> Int) : ∀ v ∈ zk g,v.oneCell' = true:=fun v hv => by
 obtain ⟨i,_,rfl⟩:=List.mem_map.1 hv;rfl
theorem za2 {g h : Nat -> Int} (e : ∀ i,i < 256 -> g i = h i) : zk g = zk h:=by
 apply List.map_congr_left;intro i hi;rw [e i (List.mem_range.1 hi)]
theorem zce {P : Program} {e : TypeId} (he : P.underlying e = some (.int .i64)) (d : Nat) (g h : Nat -> Int) (w : World) : ∀ is : List Nat,(∀ i ∈ is,i < 256) ->
  (Op.eqItems (d + 1) e 1 (zk g).toArray (zk h).toArray is).run P w = .ok (is.all fun i => g i == h i) w
 | [],_ => by simp [Op.eqItems]
 | i :: is,hs => by
  have hi:=hs i (by simp);have hp : P.plainKey e = true:=(by simp [Program.plainKey,he]);have h1:=run_part_plain (P:=P) w hp (xs:=(zk g).toArray) (off:=i * 1) (v:=.int .i64 (g i)) (by simpa using zb3 g hi);have h2:=run_part_plain (P:=P) w hp (xs:=(zk h).toArray) (off:=i * 1) (v:=.int .i64 (h i)) (by simpa using zb3 h hi);simp only [Op.eqItems,Sem.run_bind,h1,h2,Result.andThen_ok,run_equalIn_int w d e .i64 .i64 (g i) (h i) he]
  cases hgh : (g i == h i)
  ·simp [hgh]
  ·have:=zce he d g h w is (fun j hj => hs j (by simp [hj]));simp [hgh,this]
theorem run_eql_block {P : Program} {t e : TypeId} {i : TypeInfo} (ht : P.underlying t = some (.array 256 e)) (he : P.underlying e = some (.int .i64)) (hi : P.info? e = some i) (hc : P.cellsOf e = 1) (g h : Nat -> Int) (w : World) :
  (binOp .eql t (ze2 g) (ze2 h)).run P w = .ok (.bool ((List.range 256).all fun i => g i == h i)) w:=by
 unfold ze2;rw [run_eql_struct,run_equalIn_array w 9999 _ _ ht hi,hc,zce he 9998 g h w _ (fun j hj => List.mem_range.1 hj)];rfl
section
variable {P : Program} {ops : Array Oper} {rest : List Oper} {o : Oper} {a : Act} {Q : Exit -> Act -> World -> Prop} {w : World}
theorem zag {t e : TypeId} {n b : Nat} {c : Array Value} {fr : Nat × Nat} {x : Operand} (hg : o.guard = none) (hop : o.op = Op.load t x) (hu : P.underlying t = some (.array n e)) (hi : (P.info? t).map (·.size) = some c.size) (h : w.heap[b]? = some (.cells c t fr))
  (hx : a.eval x = .pointer (some ⟨b,0,none⟩)) (hK : wpList P ops Q rest (a.put o.dst (.agg c)) w) : wpList P ops Q (o :: rest) a w:=by
 refine wpList_plain hg fun K' hK' => ?_;have hrun:=run_loadVar_row (P:=P) w b t t c fr _ h hu rfl hi
 have hr2 : (Instr.loadAt t (.pointer (some ⟨b,0,none⟩))).run P w = .ok (.agg c) w:=by
  simp only [Instr.loadAt,Instr.sureAddr,Sem.run_bind,Sem.run_pure,Result.andThen];exact hrun
 unfold Oper.wp;simp [execOp,hop,hx,hr2,Result.andThen];exact hK' _ _ hK
theorem zco {t : TypeId} {b : Nat} {old c : Array Value} {x v : Operand} (hg : o.guard = none) (hop : o.op = Op.store t x v) (hi : (P.info? t).map (·.size) = some c.size) (ho : old.size = c.size) (h1 : c.all (·.oneCell') = true) (h : w.heap[b]? = some (.cells old t (0,0)))
  (hx : a.eval x = .pointer (some ⟨b,0,none⟩)) (hv : a.eval v = .agg c) (hK : wpList P ops Q rest (a.put o.dst undef) (w.setRow b c)) : wpList P ops Q (o :: rest) a w:=by
 refine wpList_plain hg fun K' hK' => ?_;have hrun:=run_storeVar_row (P:=P) w b t t old c h hi ho h1
 have hr2 : (Instr.storeAt t (.pointer (some ⟨b,0,none⟩)) (.agg c)).run P w = .ok () (w.setRow b c):=by
  simp only [Instr.storeAt,Instr.sureAddr,Sem.run_bind,Sem.run_pure,Result.andThen];exact hrun
 unfold Oper.wp;simp [execOp,hop,hx,hv,hr2,Result.andThen];exact hK' _ _ hK
theorem zh2 {t e : TypeId} {n b : Nat} {c : Array Value} {fr : Nat × Nat} {x : Operand} (hop : o.op = Op.load t x) (hu : P.underlying t = some (.array n e)) (hi : (P.info? t).map (·.size) = some c.size) (h : w.heap[b]? = some (.cells c t fr))
  (hx : a.eval x = .pointer (some ⟨b,0,none⟩)) : (execOp a.eval o).run P w = .ok (.value (.agg c)) w:=by
 have hrun:=run_loadVar_row (P:=P) w b t t c fr _ h hu rfl hi
 have hr2 : (Instr.loadAt t (.pointer (some ⟨b,0,none⟩))).run P w = .ok (.agg c) w:=by
  simp only [Instr.loadAt,Instr.sureAddr,Sem.run_bind,Sem.run_pure,Result.andThen];exact hrun
 simp [execOp,hop,hx,hr2,Result.andThen]
end
theorem setRow_blk {w : World} {b : Nat} {old c : Array Value} {t : TypeId} {fr : Nat × Nat} (h : w.heap[b]? = some (.cells old t fr)) : (w.setRow b c).heap[b]? = some (.cells c t fr):=by
 have hb:=(Array.getElem?_eq_some_iff.1 h).1;simp [World.setRow,Array.getElem?_modify,h]
theorem setRow_other {w : World} {b k : Nat} {c : Array Value} (h : k ≠ b) : (w.setRow b c).heap[k]? = w.heap[k]? := by
 have hne : ¬ b = k:=fun e => h e.symm;simp [World.setRow,Array.getElem?_modify,hne]
theorem setRow_size {w : World} {b : Nat} {c : Array Value} : (w.setRow b c).heap.size = w.heap.size:=by simp [World.setRow]
theorem setRow_below {B b : Nat} {w w' : World} (h : Below B w w') (hb : B <= b) (c : Array Value) : Below B w (w'.setRow b c) :=
 ⟨h.os,h.tape,h.output,by rw [setRow_size]; exact h.size,fun k hk => (setRow_other (by omega)).trans (h.block k hk)⟩
end
section
open Go.RowKit
structure RowsU (w : World) : Prop where
 c0 : w.cell? ⟨0,0,none⟩ = some (.int .i32 127)
 c1 : w.cell? ⟨0,1,none⟩ = some (.int .i64 0)
 c2 : w.cell? ⟨0,2,none⟩ = some (.int .i64 7)
 c3 : w.cell? ⟨0,3,none⟩ = some (.int .i32 2047)
 c4 : w.cell? ⟨0,4,none⟩ = some (.int .i64 192)
 c5 : w.cell? ⟨0,5,none⟩ = some (.int .i64 5)
 c6 : w.cell? ⟨0,6,none⟩ = some (.int .i32 65535)
 c7 : w.cell? ⟨0,7,none⟩ = some (.int .i64 224)
 c8 : w.cell? ⟨0,8,none⟩ = some (.int .i64 4)
 c9 : w.cell? ⟨0,9,none⟩ = some (.int .i32 1114111)
 c10 : w.cell? ⟨0,10,none⟩ = some (.int .i64 240)
 c11 : w.cell? ⟨0,11,none⟩ = some (.int .i64 3)
theorem RowsU.lt {w : World} (h : RowsU w) : 0 < w.heap.size:=World.block_lt_of_cell? w _ h.c0
theorem RowsU.keep {w w' : World} (h : RowsU w) (hc : ∀ o,w'.cell? ⟨0,o,none⟩ = w.cell? ⟨0,o,none⟩) : RowsU w' :=
 ⟨(hc 0).trans h.c0,(hc 1).trans h.c1,(hc 2).trans h.c2,(hc 3).trans h.c3,(hc 4).trans h.c4,(hc 5).trans h.c5,(hc 6).trans h.c6,(hc 7).trans h.c7,(hc 8).trans h.c8,(hc 9).trans h.c9,(hc 10).trans h.c10,(hc 11).trans h.c11⟩
theorem RowsU.below {w w' : World} (h : RowsU w) (hb : Below w.heap.size w w') : RowsU w':=h.keep fun _ => hb.cell h.lt
abbrev tabU : Value:=.agg #[.int .i32 127,.int .i64 0,.int .i64 7,.int .i32 2047,.int .i64 192,.int .i64 5,.int .i32 65535,.int .i64 224,.int .i64 4,.int .i32 1114111,.int .i64 240,.int .i64 3]
theorem tab0 (W : World) : Sem.run Tryz.prog (Instr.index 223 tabU (.int .i64 0)) W = .ok (.agg #[.int .i32 127,.int .i64 0,.int .i64 7]) W:=by kernel_rfl
theorem tab1 (W : World) : Sem.run Tryz.prog (Instr.index 223 tabU (.int .i64 1)) W = .ok (.agg #[.int .i32 2047,.int .i64 192,.int .i64 5]) W:=by kernel_rfl
theorem tab2 (W : World) : Sem.run Tryz.prog (Instr.index 223 tabU (.int .i64 2)) W = .ok (.agg #[.int .i32 65535,.int .i64 224,.int .i64 4]) W:=by kernel_rfl
theorem tab3 (W : World) : Sem.run Tryz.prog (Instr.index 223 tabU (.int .i64 3)) W = .ok (.agg #[.int .i32 1114111,.int .i64 240,.int .i64 3]) W:=by kernel_rfl
section
variable {w : World}
theorem lead_any (b : UInt8) (w : World) (hU : RowsU w) : Calls Tryz.prog 96 #[.int .u8 b.toNat] w fun e w' => e = .returned (.tuple #[.int .i64 (leadU b).1,.int .i64 (leadU b).2]) /\ Below w.heap.size w w':=by
 obtain ⟨n,hn⟩ : ∃ n,n = b.toNat:=⟨_,rfl⟩;have hn2 : n < 256:=(by rw [hn]; exact b.toNat_lt);have HL : Hid (leadU b = if n < 128 then (1,(n : Int)) else if 192 <= n /\ n < 224 then (2,(n : Int) - 192) else if 224 <= n /\ n < 240 then (3,(n : Int) - 224) else if 240 <= n /\ n < 248 then (4,(n : Int) - 240) else (0,0)):=(by rw [hn]; rfl);rw [<- hn];clear hn;obtain ⟨c0,c1,c2,c3,c4,c5,c6,c7,c8,c9,c10,c11⟩:=hU;go_enter Tryz.func96,Tryz.ntmps96;go_wp2
 go_loopw [8] (fun i wr => ∃ v : Int,i = .int .i64 v /\ Hid (v = 0 \/ (v = 1 /\ 128 <= n) \/ (v = 2 /\ 128 <= n /\ (n < 192 \/ 224 <= n)) \/ (v = 3 /\ 128 <= n /\ (n < 192 \/ 240 <= n)) \/ (v = 4 /\ 128 <= n /\ (n < 192 \/ 248 <= n))) /\ Below w.heap.size w wr) (fun i _ => 4 - (intOf i).toNat)
 case atStart => exact ⟨0,rfl,.inl rfl,Below.refl _ _⟩
 case round =>
  obtain ⟨v,rfl,hv,hb⟩:=hrel;obtain ⟨wo,rfl⟩ : ∃ wo,wo = wr:=⟨wr,rfl⟩;have hz:=hb.size;rcases hv.out with rfl | ⟨rfl,g1⟩ | ⟨rfl,g1,g2⟩ | ⟨rfl,g1,g2⟩ | ⟨rfl,g1,g2⟩
  ·have hx:=tab0
   by_cases hm : n < 128
   ·have hm0 : (0 : Int) <= (n : Int) - 0:=(by omega);have hm1 : (n : Int) - 0 < 128:=(by omega);have hL : leadU b = (1,(n : Int) - 0):=(by rw [HL.out,if_pos hm]; simp);go_wp2;go_returns;exact ⟨by first | rfl | (rw [hL]; simp),hb.alloc hz _⟩
   ·have hm1 : ¬ ((n : Int) - 0 < 128):=(by omega);have hm0 : (0 : Int) <= (n : Int) - 0:=(by omega);go_wp2;go_roundw
    case rel => exact ⟨1,rfl,.inr (.inl ⟨rfl,by omega⟩),hb.alloc hz _⟩
    case measure => simp [intOf]
  ·have hx:=tab1
   by_cases hm : 192 <= n /\ n < 224
   ·have hm0 : (0 : Int) <= (n : Int) - 192:=(by omega);have hm1 : (n : Int) - 192 < 32:=(by omega);have hL : leadU b = (2,(n : Int) - 192):=(by rw [HL.out,if_neg (by omega),if_pos hm]);go_wp2;go_returns;exact ⟨by first | rfl | (rw [hL]; simp),hb.alloc hz _⟩
   ·by_cases h0 : n < 192
    ·have hm0 : ¬ ((0 : Int) <= (n : Int) - 192):=(by omega);go_wp2;go_roundw
     case rel => exact ⟨2,rfl,.inr (.inr (.inl ⟨rfl,by omega,by omega⟩)),hb.alloc hz _⟩
     case measure => simp [intOf]
    ·have hm0 : (0 : Int) <= (n : Int) - 192:=(by omega);have hm1 : ¬ ((n : Int) - 192 < 32):=(by omega);go_wp2;go_roundw
     case rel => exact ⟨2,rfl,.inr (.inr (.inl ⟨rfl,by omega,by omega⟩)),hb.alloc hz _⟩
     case measure => simp [intOf]
  ·have hx:=tab2
   by_cases hm : 224 <= n /\ n < 240
   ·have hm0 : (0 : Int) <= (n : Int) - 224:=(by omega);have hm1 : (n : Int) - 224 < 16:=(by omega);have hL : leadU b = (3,(n : Int) - 224):=(by rw [HL.out,if_neg (by omega),if_neg (by omega),if_pos hm]);go_wp2;go_returns;exact ⟨by first | rfl | (rw [hL]; simp),hb.alloc hz _⟩
   ·by_cases h0 : n < 224
    ·have hm0 : ¬ ((0 : Int) <= (n : Int) - 224):=(by omega);go_wp2;go_roundw
     case rel => exact ⟨3,rfl,.inr (.inr (.inr (.inl ⟨rfl,by omega,by omega⟩))),hb.alloc hz _⟩
     case measure => simp [intOf]
    ·have hm0 : (0 : Int) <= (n : Int) - 224:=(by omega);have hm1 : ¬ ((n : Int) - 224 < 16):=(by omega);go_wp2;go_roundw
     case rel => exact ⟨3,rfl,.inr (.inr (.inr (.inl ⟨rfl,by omega,by omega⟩))),hb.alloc hz _⟩
     case measure => simp [intOf]
  ·have hx:=tab3
   by_cases hm : 240 <= n /\ n < 248
   ·have hm0 : (0 : Int) <= (n : Int) - 240:=(by omega);have hm1 : (n : Int) - 240 < 8:=(by omega);have hL : leadU b = (4,(n : Int) - 240):=(by rw [HL.out,if_neg (by omega),if_neg (by omega),if_neg (by omega),if_pos hm]);go_wp2;go_returns;exact ⟨by first | rfl | (rw [hL]; simp),hb.alloc hz _⟩
   ·by_cases h0 : n < 240
    ·have hm0 : ¬ ((0 : Int) <= (n : Int) - 240):=(by omega);go_wp2;go_roundw
     case rel => exact ⟨4,rfl,.inr (.inr (.inr (.inr ⟨rfl,by omega,by omega⟩))),hb.alloc hz _⟩
     case measure => simp [intOf]
    ·have hm0 : (0 : Int) <= (n : Int) - 240:=(by omega);have hm1 : ¬ ((n : Int) - 240 < 8):=(by omega);go_wp2;go_roundw
     case rel => exact ⟨4,rfl,.inr (.inr (.inr (.inr ⟨rfl,by omega,by omega⟩))),hb.alloc hz _⟩
     case measure => simp [intOf]
  ·have hL : leadU b = (0,0):=(by rw [HL.out,if_neg (by omega),if_neg (by omega),if_neg (by omega),if_neg (by omega)]);go_wp2;go_returns;exact ⟨by first | rfl | (rw [hL]; rfl),hb⟩
theorem second_any (b : UInt8) (w : World) : Calls Tryz.prog 97 #[.int .u8 b.toNat] w fun e w' => e = .returned (.tuple #[.int .u8 (za1 b).1,.int .u8 (za1 b).2]) /\ w = w':=by
 obtain ⟨n,hn⟩ : ∃ n,n = b.toNat:=⟨_,rfl⟩;have HL : Hid (za1 b = if n = 224 then (160,191) else if n = 237 then (128,159) else if n = 240 then (144,191) else if n = 244 then (128,143) else (128,191)):=(by rw [hn]; rfl);rw [<- hn];clear hn
 by_cases h1 : n = 224
 ·subst h1;rw [HL.out];go_enter Tryz.func97,Tryz.ntmps97;go_wp2;go_returns;exact ⟨rfl,rfl⟩
 by_cases h2 : n = 237
 ·subst h2;rw [HL.out];go_enter Tryz.func97,Tryz.ntmps97;go_wp2;go_returns;exact ⟨rfl,rfl⟩
 by_cases h3 : n = 240
 ·subst h3;rw [HL.out];go_enter Tryz.func97,Tryz.ntmps97;go_wp2;go_returns;exact ⟨rfl,rfl⟩
 by_cases h4 : n = 244
 ·subst h4;rw [HL.out];go_enter Tryz.func97,Tryz.ntmps97;go_wp2;go_returns;exact ⟨rfl,rfl⟩
 rw [HL.out,if_neg h1,if_neg h2,if_neg h3,if_neg h4];have g1 : ((n : Int) == 224) = false:=(by simpa using fun e : (n : Int) = 224 => h1 (by omega));have g2 : ((n : Int) == 237) = false:=(by simpa using fun e : (n : Int) = 237 => h2 (by omega));have g3 : ((n : Int) == 240) = false:=(by simpa using fun e : (n : Int) = 240 => h3 (by omega));have g4 : ((n : Int) == 244) = false:=(by simpa using fun e : (n : Int) = 244 => h4 (by omega));go_enter Tryz.func97,Tryz.ntmps97;go_wp2;go_returns;exact ⟨rfl,rfl⟩
end
end
section
open Go.RowKit
theorem wraps_i64 (n : Int) (h₀ : 0 <= n) (h₁ : n < 2 ^ 62) : IntKind.i64.wrap n = n:=by rw [IntKind.wrap_i64]; omega
theorem zin (x y : Int) (hx₀ : 0 <= x) (hx₁ : x < 2147483648) (h₀ : 0 <= y) (h₁ : y < 64) : bits .or .i64 (x * 64) y = x * 64 + y :=
 bits_join .i64 62 (by decide) wraps_i64 6 (x * 64) y (by omega) (by omega) (by omega) h₀ h₁ (by omega)
theorem zeo {many n : Nat} {x : Int} {ft : Nat × Nat} (h : many <= n) (t : List UInt8) : tailU many n x ft t = (x,many,0):=by
 cases t <;> simp [tailU,h]
theorem zen {many n : Nat} {x : Int} {ft : Nat × Nat} (h : n < many) : tailU many n x ft [] = (0,n,18):=by
 unfold tailU;rw [if_neg (by omega)]
theorem zbr {many n : Nat} {x : Int} {ft : Nat × Nat} (h : n < many) {c : UInt8} {t : List UInt8} (hc : c.toNat < ft.1 \/ ft.2 < c.toNat) : tailU many n x ft (c :: t) = (0,n,17):=by
 unfold tailU;rw [if_neg (by omega),if_pos hc]
theorem zfv {many n : Nat} {x : Int} {ft : Nat × Nat} (h : n < many) {c : UInt8} {t : List UInt8} (hc : ¬ (c.toNat < ft.1 \/ ft.2 < c.toNat)) : tailU many n x ft (c :: t) = tailU many (n + 1) (x * 64 + c.toNat % 64) (128,191) t:=by
 conv => lhs; unfold tailU
 rw [if_neg (by omega),if_neg hc]
theorem lead_bd (b : UInt8) : 0 <= (leadU b).2 /\ (leadU b).2 < 128:=by
 have:=b.toNat_lt;unfold leadU;split
 ·simp; omega
 split
 ·simp; omega
 split
 ·simp; omega
 split
 ·simp; omega
 ·simp
theorem second_bd (b : UInt8) : (za1 b).1 <= 255 /\ (za1 b).2 <= 255:=by
 unfold za1;split
 ·simp
 split
 ·simp
 split
 ·simp
 split <;> simp
section
variable {w : World}
theorem next_any (s : ByteArray) (w : World) (hU : RowsU w) (hs : s.size <= 4611686018427387904) :
  Calls Tryz.prog 48 #[.string s] w fun e w' => e = .returned (.tuple #[.int .i32 (nextU (bs s)).1,.int .i64 (nextU (bs s)).2.1,.int .i64 (nextU (bs s)).2.2]) /\ Below w.heap.size w w':=by
 by_cases h0 : 0 < s.size
 ·have hne : s.toList.isEmpty = false:=zk8 (by omega);have hne2 : (!s.toList.isEmpty) = true:=(by rw [hne]; rfl);have hd:=zcy s 0 h0;rw [List.drop_zero] at hd;obtain ⟨b,hb⟩ : ∃ b,b = s[0]'h0:=⟨_,rfl⟩;have LD:=lead_any b w hU;have SD:=fun W => second_any b W;have hlb:=lead_bd b;have hsb:=second_bd b;have hle:=lead_le b;have hN : nextU (bs s) = if (leadU b).1 = 0 \/ (leadU b).1 = 2 /\ b.toNat < 194 \/ 244 < b.toNat then (0,1,17) else tailU (leadU b).1 1 (leadU b).2 (za1 b) ((bs s).drop 1):=(by rw [hd,<- hb]; exact zbm _ _);obtain ⟨m,hm⟩ : ∃ m,m = (leadU b).1:=⟨_,rfl⟩;obtain ⟨x,hx⟩ : ∃ x,x = (leadU b).2:=⟨_,rfl⟩;obtain ⟨ft,hft⟩ : ∃ ft,ft = za1 b:=⟨_,rfl⟩;obtain ⟨f1,f2⟩:=ft;rw [<- hm,<- hx] at LD hN;rw [<- hft] at SD hN hsb;rw [<- hx] at hlb;rw [<- hm] at hle;have hbt : b.toNat < 256:=b.toNat_lt;have HB:=hz0q hb;obtain ⟨k0,hk0⟩ : ∃ k0,k0 = b.toNat:=⟨_,rfl⟩;have hbz : ((s[0]'h0).toNat : Int) = (k0 : Int):=(by rw [<- hb,hk0]);rw [<- hk0] at LD SD hN hbt;have HK:=hz0q hk0;have HN:=hz0q hN;clear hd hb hm hx hft hU hN hk0
  by_cases c1 : m = 0
  ·subst c1;have HR : Hid (nextU (bs s) = (0,1,17)):=(by show _ = _; rw [HN.out,if_pos (.inl rfl)]);go_enter Tryz.func48,Tryz.ntmps48;go_wp2_with (go_at_call 96; refine LD.mono ?_; rintro e w' ⟨rfl,hb1⟩)
   go_returns;exact ⟨by rw [HR.out]; rfl,hb1⟩
  by_cases c2 : m = 2 /\ k0 < 194
  ·obtain ⟨rfl,c2⟩:=c2;have HR : Hid (nextU (bs s) = (0,1,17)):=(by show _ = _; rw [HN.out,if_pos (.inr (.inl ⟨rfl,c2⟩))]);have c3 : (k0 : Int) < 194:=(by omega);go_enter Tryz.func48,Tryz.ntmps48;go_wp2_with (go_at_call 96; refine LD.mono ?_; rintro e w' ⟨rfl,hb1⟩)
   go_returns;exact ⟨by rw [HR.out]; rfl,hb1⟩
  have e0 : ((m : Int) == 0) = false:=by simpa using fun e : (m : Int) = 0 => c1 (by omega)
  by_cases c3 : 244 < k0
  ·have HR : Hid (nextU (bs s) = (0,1,17)):=(by show _ = _; rw [HN.out,if_pos (.inr (.inr c3))]);have c4 : (244 : Int) < (k0 : Int):=by omega
   by_cases c5 : m = 2
   ·subst c5;have c6 : ¬ ((k0 : Int) < 194):=(by omega);go_enter Tryz.func48,Tryz.ntmps48;go_wp2_with (go_at_call 96; refine LD.mono ?_; rintro e w' ⟨rfl,hb1⟩)
    go_returns;exact ⟨by rw [HR.out]; rfl,hb1⟩
   ·have c6 : ((m : Int) == 2) = false:=(by simpa using fun e : (m : Int) = 2 => c5 (by omega));go_enter Tryz.func48,Tryz.ntmps48;go_wp2_with (go_at_call 96; refine LD.mono ?_; rintro e w' ⟨rfl,hb1⟩)
    go_returns;exact ⟨by rw [HR.out]; rfl,hb1⟩
  have HT : Hid (nextU (bs s) = tailU m 1 x (f1,f2) ((bs s).drop 1)):=by
   show _ = _;rw [HN.out,if_neg];rintro (h | h | h)
   ·exact c1 h
   ·exact c2 h
   ·exact c3 h
  have c4 : ¬ ((244 : Int) < (k0 : Int)):=(by omega);have c6 : m = 2 -> ¬ ((k0 : Int) < 194):=fun h => by omega
  clear HN c2 c3;rcases (show m = 1 \/ m = 2 \/ m = 3 \/ m = 4 by omega) with rfl | rfl | rfl | rfl
  ·have c7:=c6;simp at c7;clear c6;go_enter Tryz.func48,Tryz.ntmps48;go_wp2_with fail;refine LD.mono ?_;rintro e w1 ⟨rfl,hb1⟩;have SD1:=SD w1;clear LD SD;go_wp2_with fail;refine SD1.mono ?_;rintro e w2 ⟨rfl,rfl⟩;clear SD1;go_wp2_with fail;go_loop [3,6,7,8] (fun vn vx v7 v8 => ∃ (k : Nat) (y : Int) (g1 g2 : Nat),vn = .int .i64 k /\ vx = .int .i64 y /\ v7 = .int .u8 g1 /\ v8 = .int .u8 g2 /\ 1 <= k /\ k <= 1 /\ k <= s.size /\ 0 <= y /\ Hid (y < 128 * 64 ^ (k - 1)) /\ g1 <= 255 /\ g2 <= 255 /\ Hid (nextU (bs s) = tailU 1 k y (g1,g2) ((bs s).drop k))) (fun vn _ _ _ => 1 - (intOf vn).toNat)
   case atStart => exact ⟨1,x,f1,f2,rfl,rfl,rfl,rfl,Nat.le_refl _,by omega,h0,hlb.1,by show _ < _; simpa using hlb.2,hsb.1,hsb.2,HT⟩
   case round =>
    obtain ⟨k,y,g1,g2,rfl,rfl,rfl,rfl,hk1,hkm,hks,hy0,HY,hg1,hg2,HD⟩:=hrel
    by_cases hlt : k < 1
    ·have hi : (k : Int) < 1:=by omega
     by_cases hend : k = s.size
     ·have he : ((k : Int) == (s.size : Int)) = true:=(by simp [hend]);have HR : Hid (nextU (bs s) = (0,k,18)):=(by show _ = _; rw [HD.out,zbc s k (by omega),zen hlt]);clear HD hend;go_wp2;go_returns;exact ⟨by rw [HR.out]; rfl,hb1⟩
     ·have hks : k < s.size:=(by omega);have he : ((k : Int) == (s.size : Int)) = false:=(by simpa using fun e : (k : Int) = s.size => hend (by omega));have hii : (k : Int) < (s.size : Int):=(by omega);have hd:=zcy s k hks;obtain ⟨c,hc⟩ : ∃ c,c = s[k]'hks:=⟨_,rfl⟩;obtain ⟨cn,hcn⟩ : ∃ cn,cn = c.toNat:=⟨_,rfl⟩;have hcz : ((s[k]'hks).toNat : Int) = (cn : Int):=(by rw [<- hc,hcn]);have hc256 : cn < 256:=(by rw [hcn]; exact c.toNat_lt);have HD2 : Hid (nextU (bs s) = tailU 1 k y (g1,g2) (c :: (bs s).drop (k + 1))):=(by show _ = _; rw [HD.out,hd,<- hc]);have HC:=hz0q hcn;clear HD hd hc hcn
      by_cases hb : cn < g1
      ·have hb2 : (cn : Int) < (g1 : Int):=(by omega);have HR : Hid (nextU (bs s) = (0,k,17)):=(by show _ = _; rw [HD2.out,zbr hlt (.inl (by rw [<- HC.out]; exact hb))]);clear HD2;go_wp2;go_returns;exact ⟨by rw [HR.out]; rfl,hb1⟩
      by_cases hb' : g2 < cn
      ·have hb2 : ¬ ((cn : Int) < (g1 : Int)):=(by omega);have hb3 : (g2 : Int) < (cn : Int):=(by omega);have HR : Hid (nextU (bs s) = (0,k,17)):=(by show _ = _; rw [HD2.out,zbr hlt (.inr (by rw [<- HC.out]; exact hb'))]);clear HD2;go_wp2;go_returns;exact ⟨by rw [HR.out]; rfl,hb1⟩
      have hb2 : ¬ ((cn : Int) < (g1 : Int)):=(by omega);have hb3 : ¬ ((g2 : Int) < (cn : Int)):=by omega
      have HD3 : Hid (nextU (bs s) = tailU 1 (k + 1) (y * 64 + (cn : Int) % 64) (128,191) ((bs s).drop (k + 1))):=by
       show _ = _;rw [HD2.out,zfv hlt (by rw [<- HC.out]; omega),<- HC.out]
      have hy25 : y < 33554432:=by
       have h1:=HY.out;have h2 : (64 : Int) ^ (k - 1) <= 64 ^ 3:=(by exact_mod_cast Nat.pow_le_pow_right (by decide) (by omega : k - 1 <= 3));omega
      have e1 : bits .and .u8 (cn : Int) 63 = (cn : Int) % 64:=u8_and63 _ (by omega) (by omega);have e2 : bits .or .i64 (y * 64) ((cn : Int) % 64) = y * 64 + (cn : Int) % 64:=zin y _ hy0 (by omega) (by omega) (by omega)
      have HY2 : Hid (y * 64 + (cn : Int) % 64 < 128 * 64 ^ (k + 1 - 1)):=by
       show _ < _;have h1:=HY.out;obtain ⟨j,rfl⟩ : ∃ j,k = j + 1:=⟨k - 1,by omega⟩;simp only [Nat.add_sub_cancel] at h1 ⊢;rw [Int.pow_succ];generalize (64 : Int) ^ j = P at h1 ⊢;omega
      clear HD2 hb hb' HY;go_wp2;go_round
      case rel => exact ⟨k + 1,y * 64 + (cn : Int) % 64,128,191,by go_num,by rfl,rfl,rfl,by omega,by omega,by omega,by omega,HY2,by decide,by decide,HD3⟩
      case measure => simp [intOf]; omega
    ·obtain rfl : k = 1:=(by omega);have hi : (1 : Int) <= 1:=Int.le_refl _
     have hy25 : y < 33554432:=by
      have h1:=HY.out;simp at h1;omega
     have HR : Hid (nextU (bs s) = (y,1,0)):=(by show _ = _; rw [HD.out,zeo (Nat.le_refl _)]);have hw:=wraps_i32 y hy0 (by omega);clear HD HY;go_wp2;go_returns;exact ⟨by rw [HR.out]; rfl,hb1⟩
  ·have c7:=c6;simp at c7;clear c6;go_enter Tryz.func48,Tryz.ntmps48;go_wp2_with fail;refine LD.mono ?_;rintro e w1 ⟨rfl,hb1⟩;have SD1:=SD w1;clear LD SD;go_wp2_with fail;refine SD1.mono ?_;rintro e w2 ⟨rfl,rfl⟩;clear SD1;go_wp2_with fail;go_loop [3,6,7,8] (fun vn vx v7 v8 => ∃ (k : Nat) (y : Int) (g1 g2 : Nat),vn = .int .i64 k /\ vx = .int .i64 y /\ v7 = .int .u8 g1 /\ v8 = .int .u8 g2 /\ 1 <= k /\ k <= 2 /\ k <= s.size /\ 0 <= y /\ Hid (y < 128 * 64 ^ (k - 1)) /\ g1 <= 255 /\ g2 <= 255 /\ Hid (nextU (bs s) = tailU 2 k y (g1,g2) ((bs s).drop k))) (fun vn _ _ _ => 2 - (intOf vn).toNat)
   case atStart => exact ⟨1,x,f1,f2,rfl,rfl,rfl,rfl,Nat.le_refl _,by omega,h0,hlb.1,by show _ < _; simpa using hlb.2,hsb.1,hsb.2,HT⟩
   case round =>
    obtain ⟨k,y,g1,g2,rfl,rfl,rfl,rfl,hk1,hkm,hks,hy0,HY,hg1,hg2,HD⟩:=hrel
    by_cases hlt : k < 2
    ·have hi : (k : Int) < 2:=by omega
     by_cases hend : k = s.size
     ·have he : ((k : Int) == (s.size : Int)) = true:=(by simp [hend]);have HR : Hid (nextU (bs s) = (0,k,18)):=(by show _ = _; rw [HD.out,zbc s k (by omega),zen hlt]);clear HD hend;go_wp2;go_returns;exact ⟨by rw [HR.out]; rfl,hb1⟩
     ·have hks : k < s.size:=(by omega);have he : ((k : Int) == (s.size : Int)) = false:=(by simpa using fun e : (k : Int) = s.size => hend (by omega));have hii : (k : Int) < (s.size : Int):=(by omega);have hd:=zcy s k hks;obtain ⟨c,hc⟩ : ∃ c,c = s[k]'hks:=⟨_,rfl⟩;obtain ⟨cn,hcn⟩ : ∃ cn,cn = c.toNat:=⟨_,rfl⟩;have hcz : ((s[k]'hks).toNat : Int) = (cn : Int):=(by rw [<- hc,hcn]);have hc256 : cn < 256:=(by rw [hcn]; exact c.toNat_lt);have HD2 : Hid (nextU (bs s) = tailU 2 k y (g1,g2) (c :: (bs s).drop (k + 1))):=(by show _ = _; rw [HD.out,hd,<- hc]);have HC:=hz0q hcn;clear HD hd hc hcn
      by_cases hb : cn < g1
      ·have hb2 : (cn : Int) < (g1 : Int):=(by omega);have HR : Hid (nextU (bs s) = (0,k,17)):=(by show _ = _; rw [HD2.out,zbr hlt (.inl (by rw [<- HC.out]; exact hb))]);clear HD2;go_wp2;go_returns;exact ⟨by rw [HR.out]; rfl,hb1⟩
      by_cases hb' : g2 < cn
      ·have hb2 : ¬ ((cn : Int) < (g1 : Int)):=(by omega);have hb3 : (g2 : Int) < (cn : Int):=(by omega);have HR : Hid (nextU (bs s) = (0,k,17)):=(by show _ = _; rw [HD2.out,zbr hlt (.inr (by rw [<- HC.out]; exact hb'))]);clear HD2;go_wp2;go_returns;exact ⟨by rw [HR.out]; rfl,hb1⟩
      have hb2 : ¬ ((cn : Int) < (g1 : Int)):=(by omega);have hb3 : ¬ ((g2 : Int) < (cn : Int)):=by omega
      have HD3 : Hid (nextU (bs s) = tailU 2 (k + 1) (y * 64 + (cn : Int) % 64) (128,191) ((bs s).drop (k + 1))):=by
       show _ = _;rw [HD2.out,zfv hlt (by rw [<- HC.out]; omega),<- HC.out]
      have hy25 : y < 33554432:=by
       have h1:=HY.out;have h2 : (64 : Int) ^ (k - 1) <= 64 ^ 3:=(by exact_mod_cast Nat.pow_le_pow_right (by decide) (by omega : k - 1 <= 3));omega
      have e1 : bits .and .u8 (cn : Int) 63 = (cn : Int) % 64:=u8_and63 _ (by omega) (by omega);have e2 : bits .or .i64 (y * 64) ((cn : Int) % 64) = y * 64 + (cn : Int) % 64:=zin y _ hy0 (by omega) (by omega) (by omega)
      have HY2 : Hid (y * 64 + (cn : Int) % 64 < 128 * 64 ^ (k + 1 - 1)):=by
       show _ < _;have h1:=HY.out;obtain ⟨j,rfl⟩ : ∃ j,k = j + 1:=⟨k - 1,by omega⟩;simp only [Nat.add_sub_cancel] at h1 ⊢;rw [Int.pow_succ];generalize (64 : Int) ^ j = P at h1 ⊢;omega
      clear HD2 hb hb' HY;go_wp2;go_round
      case rel => exact ⟨k + 1,y * 64 + (cn : Int) % 64,128,191,by go_num,by rfl,rfl,rfl,by omega,by omega,by omega,by omega,HY2,by decide,by decide,HD3⟩
      case measure => simp [intOf]; omega
    ·obtain rfl : k = 2:=(by omega);have hi : (2 : Int) <= 2:=Int.le_refl _
     have hy25 : y < 33554432:=by
      have h1:=HY.out;simp at h1;omega
     have HR : Hid (nextU (bs s) = (y,2,0)):=(by show _ = _; rw [HD.out,zeo (Nat.le_refl _)]);have hw:=wraps_i32 y hy0 (by omega);clear HD HY;go_wp2;go_returns;exact ⟨by rw [HR.out]; rfl,hb1⟩
  ·have c7:=c6;simp at c7;clear c6;go_enter Tryz.func48,Tryz.ntmps48;go_wp2_with fail;refine LD.mono ?_;rintro e w1 ⟨rfl,hb1⟩;have SD1:=SD w1;clear LD SD;go_wp2_with fail;refine SD1.mono ?_;rintro e w2 ⟨rfl,rfl⟩;clear SD1;go_wp2_with fail;go_loop [3,6,7,8] (fun vn vx v7 v8 => ∃ (k : Nat) (y : Int) (g1 g2 : Nat),vn = .int .i64 k /\ vx = .int .i64 y /\ v7 = .int .u8 g1 /\ v8 = .int .u8 g2 /\ 1 <= k /\ k <= 3 /\ k <= s.size /\ 0 <= y /\ Hid (y < 128 * 64 ^ (k - 1)) /\ g1 <= 255 /\ g2 <= 255 /\ Hid (nextU (bs s) = tailU 3 k y (g1,g2) ((bs s).drop k))) (fun vn _ _ _ => 3 - (intOf vn).toNat)
   case atStart => exact ⟨1,x,f1,f2,rfl,rfl,rfl,rfl,Nat.le_refl _,by omega,h0,hlb.1,by show _ < _; simpa using hlb.2,hsb.1,hsb.2,HT⟩
   case round =>
    obtain ⟨k,y,g1,g2,rfl,rfl,rfl,rfl,hk1,hkm,hks,hy0,HY,hg1,hg2,HD⟩:=hrel
    by_cases hlt : k < 3
    ·have hi : (k : Int) < 3:=by omega
     by_cases hend : k = s.size
     ·have he : ((k : Int) == (s.size : Int)) = true:=(by simp [hend]);have HR : Hid (nextU (bs s) = (0,k,18)):=(by show _ = _; rw [HD.out,zbc s k (by omega),zen hlt]);clear HD hend;go_wp2;go_returns;exact ⟨by rw [HR.out]; rfl,hb1⟩
     ·have hks : k < s.size:=(by omega);have he : ((k : Int) == (s.size : Int)) = false:=(by simpa using fun e : (k : Int) = s.size => hend (by omega));have hii : (k : Int) < (s.size : Int):=(by omega);have hd:=zcy s k hks;obtain ⟨c,hc⟩ : ∃ c,c = s[k]'hks:=⟨_,rfl⟩;obtain ⟨cn,hcn⟩ : ∃ cn,cn = c.toNat:=⟨_,rfl⟩;have hcz : ((s[k]'hks).toNat : Int) = (cn : Int):=(by rw [<- hc,hcn]);have hc256 : cn < 256:=(by rw [hcn]; exact c.toNat_lt);have HD2 : Hid (nextU (bs s) = tailU 3 k y (g1,g2) (c :: (bs s).drop (k + 1))):=(by show _ = _; rw [HD.out,hd,<- hc]);have HC:=hz0q hcn;clear HD hd hc hcn
      by_cases hb : cn < g1
      ·have hb2 : (cn : Int) < (g1 : Int):=(by omega);have HR : Hid (nextU (bs s) = (0,k,17)):=(by show _ = _; rw [HD2.out,zbr hlt (.inl (by rw [<- HC.out]; exact hb))]);clear HD2;go_wp2;go_returns;exact ⟨by rw [HR.out]; rfl,hb1⟩
      by_cases hb' : g2 < cn
      ·have hb2 : ¬ ((cn : Int) < (g1 : Int)):=(by omega);have hb3 : (g2 : Int) < (cn : Int):=(by omega);have HR : Hid (nextU (bs s) = (0,k,17)):=(by show _ = _; rw [HD2.out,zbr hlt (.inr (by rw [<- HC.out]; exact hb'))]);clear HD2;go_wp2;go_returns;exact ⟨by rw [HR.out]; rfl,hb1⟩
      have hb2 : ¬ ((cn : Int) < (g1 : Int)):=(by omega);have hb3 : ¬ ((g2 : Int) < (cn : Int)):=by omega
      have HD3 : Hid (nextU (bs s) = tailU 3 (k + 1) (y * 64 + (cn : Int) % 64) (128,191) ((bs s).drop (k + 1))):=by
       show _ = _;rw [HD2.out,zfv hlt (by rw [<- HC.out]; omega),<- HC.out]
      have hy25 : y < 33554432:=by
       have h1:=HY.out;have h2 : (64 : Int) ^ (k - 1) <= 64 ^ 3:=(by exact_mod_cast Nat.pow_le_pow_right (by decide) (by omega : k - 1 <= 3));omega
      have e1 : bits .and .u8 (cn : Int) 63 = (cn : Int) % 64:=u8_and63 _ (by omega) (by omega);have e2 : bits .or .i64 (y * 64) ((cn : Int) % 64) = y * 64 + (cn : Int) % 64:=zin y _ hy0 (by omega) (by omega) (by omega)
      have HY2 : Hid (y * 64 + (cn : Int) % 64 < 128 * 64 ^ (k + 1 - 1)):=by
       show _ < _;have h1:=HY.out;obtain ⟨j,rfl⟩ : ∃ j,k = j + 1:=⟨k - 1,by omega⟩;simp only [Nat.add_sub_cancel] at h1 ⊢;rw [Int.pow_succ];generalize (64 : Int) ^ j = P at h1 ⊢;omega
      clear HD2 hb hb' HY;go_wp2;go_round
      case rel => exact ⟨k + 1,y * 64 + (cn : Int) % 64,128,191,by go_num,by rfl,rfl,rfl,by omega,by omega,by omega,by omega,HY2,by decide,by decide,HD3⟩
      case measure => simp [intOf]; omega
    ·obtain rfl : k = 3:=(by omega);have hi : (3 : Int) <= 3:=Int.le_refl _
     have hy25 : y < 33554432:=by
      have h1:=HY.out;simp at h1;omega
     have HR : Hid (nextU (bs s) = (y,3,0)):=(by show _ = _; rw [HD.out,zeo (Nat.le_refl _)]);have hw:=wraps_i32 y hy0 (by omega);clear HD HY;go_wp2;go_returns;exact ⟨by rw [HR.out]; rfl,hb1⟩
  ·have c7:=c6;simp at c7;clear c6;go_enter Tryz.func48,Tryz.ntmps48;go_wp2_with fail;refine LD.mono ?_;rintro e w1 ⟨rfl,hb1⟩;have SD1:=SD w1;clear LD SD;go_wp2_with fail;refine SD1.mono ?_;rintro e w2 ⟨rfl,rfl⟩;clear SD1;go_wp2_with fail;go_loop [3,6,7,8] (fun vn vx v7 v8 => ∃ (k : Nat) (y : Int) (g1 g2 : Nat),vn = .int .i64 k /\ vx = .int .i64 y /\ v7 = .int .u8 g1 /\ v8 = .int .u8 g2 /\ 1 <= k /\ k <= 4 /\ k <= s.size /\ 0 <= y /\ Hid (y < 128 * 64 ^ (k - 1)) /\ g1 <= 255 /\ g2 <= 255 /\ Hid (nextU (bs s) = tailU 4 k y (g1,g2) ((bs s).drop k))) (fun vn _ _ _ => 4 - (intOf vn).toNat)
   case atStart => exact ⟨1,x,f1,f2,rfl,rfl,rfl,rfl,Nat.le_refl _,by omega,h0,hlb.1,by show _ < _; simpa using hlb.2,hsb.1,hsb.2,HT⟩
   case round =>
    obtain ⟨k,y,g1,g2,rfl,rfl,rfl,rfl,hk1,hkm,hks,hy0,HY,hg1,hg2,HD⟩:=hrel
    by_cases hlt : k < 4
    ·have hi : (k : Int) < 4:=by omega
     by_cases hend : k = s.size
     ·have he : ((k : Int) == (s.size : Int)) = true:=(by simp [hend]);have HR : Hid (nextU (bs s) = (0,k,18)):=(by show _ = _; rw [HD.out,zbc s k (by omega),zen hlt]);clear HD hend;go_wp2;go_returns;exact ⟨by rw [HR.out]; rfl,hb1⟩
     ·have hks : k < s.size:=(by omega);have he : ((k : Int) == (s.size : Int)) = false:=(by simpa using fun e : (k : Int) = s.size => hend (by omega));have hii : (k : Int) < (s.size : Int):=(by omega);have hd:=zcy s k hks;obtain ⟨c,hc⟩ : ∃ c,c = s[k]'hks:=⟨_,rfl⟩;obtain ⟨cn,hcn⟩ : ∃ cn,cn = c.toNat:=⟨_,rfl⟩;have hcz : ((s[k]'hks).toNat : Int) = (cn : Int):=(by rw [<- hc,hcn]);have hc256 : cn < 256:=(by rw [hcn]; exact c.toNat_lt);have HD2 : Hid (nextU (bs s) = tailU 4 k y (g1,g2) (c :: (bs s).drop (k + 1))):=(by show _ = _; rw [HD.out,hd,<- hc]);have HC:=hz0q hcn;clear HD hd hc hcn
      by_cases hb : cn < g1
      ·have hb2 : (cn : Int) < (g1 : Int):=(by omega);have HR : Hid (nextU (bs s) = (0,k,17)):=(by show _ = _; rw [HD2.out,zbr hlt (.inl (by rw [<- HC.out]; exact hb))]);clear HD2;go_wp2;go_returns;exact ⟨by rw [HR.out]; rfl,hb1⟩
      by_cases hb' : g2 < cn
      ·have hb2 : ¬ ((cn : Int) < (g1 : Int)):=(by omega);have hb3 : (g2 : Int) < (cn : Int):=(by omega);have HR : Hid (nextU (bs s) = (0,k,17)):=(by show _ = _; rw [HD2.out,zbr hlt (.inr (by rw [<- HC.out]; exact hb'))]);clear HD2;go_wp2;go_returns;exact ⟨by rw [HR.out]; rfl,hb1⟩
      have hb2 : ¬ ((cn : Int) < (g1 : Int)):=(by omega);have hb3 : ¬ ((g2 : Int) < (cn : Int)):=by omega
      have HD3 : Hid (nextU (bs s) = tailU 4 (k + 1) (y * 64 + (cn : Int) % 64) (128,191) ((bs s).drop (k + 1))):=by
       show _ = _;rw [HD2.out,zfv hlt (by rw [<- HC.out]; omega),<- HC.out]
      have hy25 : y < 33554432:=by
       have h1:=HY.out;have h2 : (64 : Int) ^ (k - 1) <= 64 ^ 3:=(by exact_mod_cast Nat.pow_le_pow_right (by decide) (by omega : k - 1 <= 3));omega
      have e1 : bits .and .u8 (cn : Int) 63 = (cn : Int) % 64:=u8_and63 _ (by omega) (by omega);have e2 : bits .or .i64 (y * 64) ((cn : Int) % 64) = y * 64 + (cn : Int) % 64:=zin y _ hy0 (by omega) (by omega) (by omega)
      have HY2 : Hid (y * 64 + (cn : Int) % 64 < 128 * 64 ^ (k + 1 - 1)):=by
       show _ < _;have h1:=HY.out;obtain ⟨j,rfl⟩ : ∃ j,k = j + 1:=⟨k - 1,by omega⟩;simp only [Nat.add_sub_cancel] at h1 ⊢;rw [Int.pow_succ];generalize (64 : Int) ^ j = P at h1 ⊢;omega
      clear HD2 hb hb' HY;go_wp2;go_round
      case rel => exact ⟨k + 1,y * 64 + (cn : Int) % 64,128,191,by go_num,by rfl,rfl,rfl,by omega,by omega,by omega,by omega,HY2,by decide,by decide,HD3⟩
      case measure => simp [intOf]; omega
    ·obtain rfl : k = 4:=(by omega);have hi : (4 : Int) <= 4:=Int.le_refl _
     have hy25 : y < 33554432:=by
      have h1:=HY.out;simp at h1;omega
     have HR : Hid (nextU (bs s) = (y,4,0)):=(by show _ = _; rw [HD.out,zeo (Nat.le_refl _)]);have hw:=wraps_i32 y hy0 (by omega);clear HD HY;go_wp2;go_returns;exact ⟨by rw [HR.out]; rfl,hb1⟩
 ·have he : s.toList.isEmpty = true:=(by rw [z7,zl9 (by omega)]; rfl);have HR : Hid (nextU (bs s) = (0,0,18)):=(by show _ = _; rw [zl9 (by omega)]; rfl);go_enter Tryz.func48,Tryz.ntmps48;go_wp2;go_returns;exact ⟨by rw [HR.out]; rfl,Below.refl _ _⟩
end
end
end Go.Proofs.YtolcabjkbefjgaaGreatDoor
