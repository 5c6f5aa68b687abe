/- Rows of a file: the code. Characters that lines of ranges tell: plain words, and the code. Characters that lines of ranges tell: the code. -/
import Derived.Test.YtolcabjkbefjgaaGreatDoorY13
import Derived.Test.YtolcabjkbefjgaaGreatDoorY16
set_option linter.unusedSimpArgs false
set_option linter.unusedVariables false
set_option maxRecDepth 20000
set_option maxHeartbeats 4000000
namespace Go.Proofs.YtolcabjkbefjgaaGreatDoor
section
open Go.RowKit
theorem zgu : ∀ (ls : List (List UInt8)) (out : List (Int × List UInt8)) (k : Nat),(∀ p ∈ out,p.2.length <= 512) -> (∀ p ∈ (za4 out k ls).1,p.2.length <= 512) /\ (za4 out k ls).1.length <= out.length + ls.length
 | [],out,k,h => ⟨h,by simp [za4]⟩
 | l :: ls,out,k,h => by
  by_cases hl : 512 < l.length
  ·rw [zgw hl]; exact ⟨fun p hp => absurd hp (by simp),by simp⟩
  ·by_cases ht : tellL l = []
   ·rw [zgv hl ht];obtain ⟨h1,h2⟩:=zgu ls out (k + 1) h;exact ⟨h1,by simp only [List.length_cons]; omega⟩
   ·rw [zgt hl ht]
    have hn : ∀ p ∈ out ++ [((k : Int) + 1,tellL l)],p.2.length <= 512:=by
     intro p hp;rcases List.mem_append.1 hp with hp | hp
     ·exact h p hp
     ·rw [List.mem_singleton] at hp;subst hp;have:=tellL_len l;show (tellL l).length <= 512;omega
    obtain ⟨h1,h2⟩:=zgu ls _ (k + 1) hn;refine ⟨h1,?_⟩;rw [List.length_append,List.length_singleton] at h2;simp only [List.length_cons];omega
theorem zgx (s : List UInt8) : (∀ p ∈ (zbj s).1,p.2.length <= 512) /\ (zbj s).1.length <= 4096:=by
 unfold zbj;split
 ·exact ⟨fun p hp => absurd hp (by simp),by simp⟩
 ·obtain ⟨h1,h2⟩:=zgu (cutL 10 s) [] 0 (fun p hp => absurd hp (by simp));exact ⟨h1,by simp only [List.length_nil] at h2; omega⟩
theorem takeS_ok {N : Nat} (st : StU) (l : List UInt8) (hl : l.length <= N) (h : ∀ f,st.op = some f -> RowOk N f) : (takeS st l).1.out.length <= st.out.length + 1 /\ ∀ f,(takeS st l).1.op = some f -> RowOk N f:=by
 have hx : RowOk N (zae l).1:=⟨Nat.le_trans (zif l).1 hl,(zif l).2⟩;unfold takeS;split
 ·exact ⟨Nat.le_succ _,h⟩
 ·generalize (zae l).1 = x at *;unfold takeR zcj freeS;split
  ·split
   ·exact ⟨Nat.le_succ _,h⟩
   ·split
    ·exact ⟨Nat.le_succ _,h⟩
    ·exact ⟨by simp,fun f hf => absurd hf (by simp)⟩
  ·split
   ·exact ⟨Nat.le_succ _,h⟩
   ·split
    ·exact ⟨Nat.le_succ _,h⟩
    ·split
     ·refine ⟨Nat.le_succ _,fun f hf => ?_⟩;injection hf with hf;subst hf;exact hx
     ·exact ⟨by simp,fun f hf => absurd hf (by simp)⟩
theorem zer {st : StU} {p : Int × List UInt8} {ls : List (Int × List UInt8)} (h : (takeS st p.2).2 ≠ 0) : rowsW st (p :: ls) = (st,p.1,(takeS st p.2).2):=by
 simp only [rowsW]; rw [if_pos h]
theorem zdu {st : StU} {p : Int × List UInt8} {ls : List (Int × List UInt8)} (h : (takeS st p.2).2 = 0) : rowsW st (p :: ls) = rowsW (takeS st p.2).1 ls:=by
 simp only [rowsW]; rw [if_neg (by rw [h]; simp)]
theorem lastNo_get {L : List (Int × List UInt8)} {p : Int × List UInt8} (h : L[L.length - 1]? = some p) : zls L = p.1:=by
 unfold zls;rw [List.getLast?_eq_getElem?,h]
def FreshRows (T : TypeId) (w : World) (r : List RowS × Int × Int) (e : Ending) (w' : World) : Prop :=
 ∃ os A c,os.map (·.1) = r.1 /\ e = .returned (.tuple #[.slice A os.length c,.int .i64 r.2.1,.int .i64 r.2.2]) /\ zaq T w.heap.size w' os A c /\ Below w.heap.size w w'
theorem takesZ (p : Nat) (st : StU) (l : List UInt8) (w : World) (hE : Env w) (hs : l.length <= 512) (hh : zcn p st w) (hop : ∀ f,st.op = some f -> RowOk 512 f) (hol : st.out.length <= 100000) :
  Calls Tryz.prog 58 #[.string (mk8 l),.pointer (some ⟨p + 1,0,none⟩),.pointer (some ⟨p + 3,0,none⟩),.pointer (some ⟨p + 2,0,none⟩),.pointer (some ⟨p,0,none⟩)] w (fun e w' => e = .returned (.int .i64 (takeS st l).2) /\ zcn p (takeS st l).1 w' /\ Below p w w' /\ ((takeS st l).2 ≠ 0 -> Below w.heap.size w w')) :=
 takes_any p st l w hE (by omega) hh (fun f hf => ⟨by have:=(hop f hf).1; omega,(hop f hf).2⟩) hol
theorem holds_new (w : World) : zcn w.heap.size ⟨[],none,-1⟩ ((((w.alloc (.cells #[.slice none 0 0] 69)).alloc (.cells #[.pointer none] 141)).alloc (.cells #[.int .i32 (-1)] 21)).alloc (.cells #[closV w.heap.size] 146)):=by
 refine ⟨[],none,0,none,rfl,?_,zaq.nil _ _ _,?_,fun _ => rfl,fun f hf => absurd hf (by simp),?_,?_⟩
 ·exact zbg _ (zbg _ (zbg _ (zm w _ _)))
 ·exact zbg _ (zbg _ (by have:=zm (w.alloc (.cells #[.slice none 0 0] 69)) #[.pointer none] 141; simpa using this))
 ·exact zbg _ (by have:=zm ((w.alloc (.cells #[.slice none 0 0] 69)).alloc (.cells #[.pointer none] 141)) #[.int .i32 (-1)] 21; simpa using this)
 ·have:=zm (((w.alloc (.cells #[.slice none 0 0] 69)).alloc (.cells #[.pointer none] 141)).alloc (.cells #[.int .i32 (-1)] 21)) #[closV w.heap.size] 146;simpa using this
theorem below_four {B : Nat} {a w : World} (h : Below B a w) (hB : B <= w.heap.size) (o1 o2 o3 o4 : Obj) : Below B a ((((w.alloc o1).alloc o2).alloc o3).alloc o4) :=
 (((h.alloc hB _).alloc (by simp; omega) _).alloc (by simp; omega) _).alloc (by simp; omega) _
theorem zfx (s : ByteArray) (w : World) (hE : Env w) (hs : s.size <= 1073741824) :
  Calls Tryz.prog 25 #[.string s] w (FreshRows 143 w (rowsS (bs s))):=by
 have LN:=zjr s w hE hs;have hlo:=zgx (bs s);unfold rowsS;obtain ⟨⟨L,e0⟩,hL⟩ : ∃ z,z = zbj (bs s):=⟨_,rfl⟩;rw [<- hL] at LN hlo ⊢;simp only [] at hlo ⊢;clear hL
 by_cases he : e0 = 0
 ·subst he;rw [if_neg (show ¬ ((0 : Int) ≠ 0) by simp)];have HLO:=hz0q hlo;have hll:=hlo.2;clear hlo;obtain ⟨R,hR⟩ : ∃ R,R = endU L (rowsW ⟨[],none,-1⟩ L):=⟨_,rfl⟩;rw [<- hR];have HR:=hz0q hR;clear hR;have hmf : ∀ (fn : Fn) (first cap : Array Value) (w : World),(Instr.makeFunc fn first cap).run Tryz.prog w = .ok (.func fn first cap) w:=fun _ _ _ _ => rfl;have hsf : ∀ (a : Addr) (fn : Fn) (first cap : Array Value) (w : World),(store a (.func fn first cap)).run Tryz.prog w = stored Tryz.prog w a (.func fn first cap) .plain:=fun a fn first cap w => run_store Tryz.prog w a _ .plain rfl;go_enter Tryz.func25,Tryz.ntmps25;go_wp2_with fail;refine LN.mono ?_;intro e w1 hF;obtain ⟨A,c,rfl,hr,hb1⟩:=hF.rd;have hE1:=hE.below hb1;clear hF LN;have hH:=holds_new w1;have hB0:=below_four (Below.refl w1.heap.size w1) (Nat.le_refl _) (.cells #[.slice none 0 0] 69) (.cells #[.pointer none] 141) (.cells #[.int .i32 (-1)] 21) (.cells #[closV w1.heap.size] 146);have HRW : Hid (rowsW ⟨[],none,-1⟩ L = rowsW ⟨[],none,-1⟩ (L.drop 0)):=rfl;go_wp2
  go_loopw [27] (fun i wr => ∃ (k : Nat) (st : StU),k <= L.length /\ i = .int .i64 k /\ st.out.length <= k /\ (k = 0 -> st.op = none) /\ (∀ f,st.op = some f -> RowOk 512 f) /\ Hid (rowsW ⟨[],none,-1⟩ L = rowsW st (L.drop k)) /\ zcn w1.heap.size st wr /\ Below w1.heap.size w1 wr) (fun i _ => L.length - (intOf i).toNat)
  case atStart => exact ⟨0,⟨[],none,-1⟩,Nat.zero_le _,rfl,Nat.zero_le _,fun _ => rfl,fun f hf => absurd hf (by simp),HRW,hH,hB0⟩
  case round =>
   obtain ⟨k,st,hk,rfl,hol,hk0,hop,HW,hh,hb⟩:=hrel;clear hH hB0 HRW hmf hsf;have HOP:=hz0q hop;have HK0:=hz0q hk0;clear hop hk0
   by_cases hin : k < L.length
   ·have hi : (k : Int) < (L.length : Int):=(by omega);obtain ⟨l,hl⟩ : ∃ l,L[k]? = some l:=⟨_,List.getElem?_eq_getElem hin⟩;have hz:=HLO.out.1 l (List.mem_of_getElem? hl);have hd:=zf3 hl;obtain ⟨b,off,rfl,hbl,hcx⟩:=(hr.below (by omega) hb).at_ (by omega) (by omega);have cx1:=hcx _ _ (Ls_at L k l hl).1;have cx2:=hcx _ _ (Ls_at L k l hl).2;rw [<- Nat.add_assoc] at cx2;clear hcx;have hbA : Below wr.heap.size wr (wr.alloc (.cells #[.int .i64 l.1,.string (mk8 l.2)] 151)):=(Below.refl _ _).alloc (Nat.le_refl _) _;have TK:=takesZ w1.heap.size st l.2 _ ((hE1.below hb).below hbA) hz (hh.below hbA) HOP.out (by omega);have hto:=takeS_ok (N:=512) st l.2 hz HOP.out;have hbw : w1.heap.size <= wr.heap.size:=hb.size;obtain ⟨l1,l2⟩:=l;simp only [] at TK hto cx1 cx2 hbA hz;have HBB:=hz0q (And.intro hb hbA)
    by_cases hte : (takeS st l2).2 = 0
    ·have HS2 : Hid (rowsW ⟨[],none,-1⟩ L = rowsW (takeS st l2).1 (L.drop (k + 1))):=(by show _ = _; rw [HW.out,hd,zdu hte]);obtain ⟨⟨st2,e2⟩,hs2⟩ : ∃ z,z = takeS st l2:=⟨_,rfl⟩;rw [<- hs2] at TK hto HS2 hte;simp only [] at TK hto HS2 hte;subst hte;clear hs2 hd hb hbA hh hl hz;go_wp2_with fail;refine TK.mono ?_;rintro e w2 ⟨rfl,hh2,hb2,_⟩;have hb3:=(HBB.out.1.trans (HBB.out.2.mono hbw)).trans hb2;clear TK;go_wp2;go_roundw
     case rel => exact ⟨k + 1,st2,by omega,by go_num,by omega,fun h => absurd h (by omega),hto.2,HS2,hh2,hb3⟩
     case measure => simp [intOf]; omega
    ·have hres : rowsW ⟨[],none,-1⟩ L = (st,l1,(takeS st l2).2):=(by rw [HW.out,hd,zer hte]);have hR : R = ([],l1,(takeS st l2).2):=(by rw [HR.out,hres]; unfold endU; rw [if_pos hte]);have HR2:=hz0q hR;obtain ⟨⟨st2,e2⟩,hs2⟩ : ∃ z,z = takeS st l2:=⟨_,rfl⟩;rw [<- hs2] at TK HR2 hte;simp only [] at TK HR2 hte;have hne : (e2 != 0) = true:=(by simpa using hte);clear hs2 hd hb hbA hh hl hz hres hR;go_wp2_with fail;refine TK.mono ?_;rintro e w2 ⟨rfl,hh2,hb2,hb4⟩;replace hb4:=hb4 hte;have hb3:=(HBB.out.1.trans (HBB.out.2.mono hbw)).trans hb2;have hbl:=zd (zm wr #[.int .i64 l1,.string (mk8 l2)] 151) hb4;have cl : w2.cell? ⟨wr.heap.size,0,none⟩ = some (.int .i64 l1):=za hbl 0 rfl;have HB3:=hz0q hb3;clear TK hb4 hbl hb2 hb3 hte hh2;go_wp2;go_quiet (fail)
     go_wp2;go_returns;rw [HR2.out];exact ⟨[],none,0,rfl,rfl,zaq.nil _ _ _,zb hb1 (zf HB3.out _)⟩
   ·have hi : (L.length : Int) <= (k : Int):=(by omega);have hres : rowsW ⟨[],none,-1⟩ L = (st,0,0):=(by rw [HW.out,List.drop_of_length_le (by omega)]; rfl);have hR : R = endU L (st,0,0):=(by rw [HR.out,hres]);obtain ⟨os,Ao,co,q,hH⟩:=hh
    cases hst : st.op with
    | none =>
     have hR2 : R = (st.out,0,0):=(by rw [hR]; unfold endU; rw [if_neg (by simp),hst]; rfl);have hq:=hH.shut hst;subst hq;have cq : wr.cell? ⟨w1.heap.size + 1,0,none⟩ = some (.pointer none):=za hH.first 0 rfl;have co1 : wr.cell? ⟨w1.heap.size,0,none⟩ = some (.slice Ao os.length co):=za hH.out 0 rfl;have HR2:=hz0q hR2;have HHH:=hz0q (And.intro hH hb);clear hres hR hR2 hH hb hst;go_wp2;go_returns;rw [HR2.out];have hz:=hb1.size;exact ⟨os,Ao,co,HHH.out.1.outs,rfl,HHH.out.1.rows.base (by omega),zb hb1 HHH.out.2⟩
    | some f =>
     have hR2 : R = ([],zls L,10):=(by rw [hR]; unfold endU; rw [if_neg (by simp),hst]; rfl);obtain ⟨b0,Af,cf,hbp,hq,hbf,hap⟩:=hH.opens f hst;subst hq;have hk1 : k ≠ 0:=fun h => by have:=HK0.out h; rw [hst] at this; cases this
     obtain ⟨l,hl⟩ : ∃ l,L[L.length - 1]? = some l:=⟨_,List.getElem?_eq_getElem (by omega)⟩;rw [lastNo_get hl] at hR2;have cq : wr.cell? ⟨w1.heap.size + 1,0,none⟩ = some (.pointer (some ⟨b0,0,none⟩)):=za hH.first 0 rfl;obtain ⟨b,off,rfl,hbl,hcx⟩:=(hr.below (by omega) hb).at_ (by omega) (by omega);have cx1:=hcx _ _ (Ls_at L _ l hl).1;have hw1 : IntKind.i64.wrap ((L.length : Int) - 1) = ((L.length - 1 : Nat) : Int):=(by rw [IntWalk.i64_in _ (by omega)]; omega);have hlt : ((L.length - 1 : Nat) : Int) < (L.length : Int):=(by omega);have HR2:=hz0q hR2;have HHH:=hz0q (And.intro hH hb);clear hres hR hR2 hH hb hst hcx hbf hap;go_wp2;go_quiet (fail)
     go_wp2;go_returns;rw [HR2.out];exact ⟨[],none,0,rfl,rfl,zaq.nil _ _ _,zb hb1 (zf HHH.out.2 _)⟩
 ·rw [if_pos he];have hne : (e0 != 0) = true:=(by simpa using he);clear he hlo;go_enter Tryz.func25,Tryz.ntmps25;go_wp2_with fail;refine LN.mono ?_;rintro e w1 ⟨A,c,rfl,hown,hb⟩;go_wp2;go_returns;exact ⟨[],none,0,rfl,rfl,zaq.nil _ _ _,hb⟩
end
end Go.Proofs.YtolcabjkbefjgaaGreatDoor
section
section
namespace Go.Proofs.YtolcabjkbefjgaaGreatDoor
open Go.RowKit
def fldS (l : List UInt8) : List UInt8:=((cutL 59 l).map bareL).getD 0 []
def addO (out : List Int) (r : Int) : List Int:=if zaj r = true then out ++ [r] else out
def addW : List Int -> Int -> Nat -> List Int × Bool
 | out,_,0 => (out,false)
 | out,r,n + 1 => if 4096 < (addO out r).length then (addO out r,true) else addW (addO out r) (r + 1) n
def zhp (out : List Int) (a b : Int) : List Int × Bool:=addW out a (b - a + 1).toNat
def setR (out : List Int) (g : Int × Int × Int) : List Int × Int :=
 if g.2.2 ≠ 0 then (out,g.2.2) else if out.any (betw g.1 g.2.1) = true then (out,12) else if (zhp out g.1 g.2.1).2 = true then (out,14) else ((zhp out g.1 g.2.1).1,0)
def zav (out : List Int) (l : List UInt8) : List Int × Int:=setR out (zbe (fldS l))
def setsW : List Int -> List (Int × List UInt8) -> List Int × Int × Int
 | out,[] => (out,0,0)
 | out,p :: ls => if (zav out p.2).2 ≠ 0 then ([],p.1,(zav out p.2).2) else setsW (zav out p.2).1 ls
def setsE (r : List Int × Int × Int) : List Int × Int × Int:=(srt r.1,r.2.1,r.2.2)
def setsS (s : List UInt8) : List Int × Int × Int:=if (zbj s).2 ≠ 0 then ([],0,(zbj s).2) else setsE (setsW [] (zbj s).1)
theorem zc5 {out : List Int} {p : Int × List UInt8} {ls : List (Int × List UInt8)} (h : (zav out p.2).2 ≠ 0) : setsW out (p :: ls) = ([],p.1,(zav out p.2).2):=by
 simp only [setsW]; rw [if_pos h]
theorem ze7 {out : List Int} {p : Int × List UInt8} {ls : List (Int × List UInt8)} (h : (zav out p.2).2 = 0) : setsW out (p :: ls) = setsW (zav out p.2).1 ls:=by
 simp only [setsW]; rw [if_neg (by rw [h]; simp)]
theorem addW_zero (out : List Int) (r : Int) : addW out r 0 = (out,false):=rfl
theorem zhh {out : List Int} {r : Int} {n : Nat} (h : 4096 < (addO out r).length) : addW out r (n + 1) = (addO out r,true):=by
 simp only [addW]; rw [if_pos h]
theorem ziu {out : List Int} {r : Int} {n : Nat} (h : ¬ 4096 < (addO out r).length) : addW out r (n + 1) = addW (addO out r) (r + 1) n:=by
 simp only [addW]; rw [if_neg h]
theorem zmd : ∀ (n : Nat) (out : List Int) (r : Int),out.length <= 4096 -> (addW out r n).2 = false -> (addW out r n).1.length <= 4096
 | 0,out,r,h,_ => h
 | n + 1,out,r,h,hf => by
  by_cases hl : 4096 < (addO out r).length
  ·rw [zhh hl] at hf; simp at hf
  ·rw [ziu hl] at hf ⊢;exact zmd n _ _ (by omega) hf
theorem setStep_len {out : List Int} {l : List UInt8} (h : out.length <= 4096) : (zav out l).1.length <= 4096:=by
 unfold zav setR;repeat' split
 ·exact h
 ·exact h
 ·exact h
 ·rename_i hf;exact zmd _ _ _ h (by simpa [zhp] using hf)
theorem zje {a b : List UInt8} (h : (za3 a b).2.2 = 0) : 0 <= (za3 a b).1 /\ (za3 a b).1 <= (za3 a b).2.1 /\ (za3 a b).2.1 <= 1114111:=by
 unfold za3 at *;split at h
 ·rename_i h1; exact absurd h h1
 ·split at h
  ·rename_i h1; exact absurd h h1
  ·split at h
   ·simp at h
   ·rename_i h1 h2 h3;rw [if_neg h1,if_neg h2,if_neg h3];have ha:=zku a;have hb:=zku b;exact ⟨ha.1,by simp only []; omega,hb.2.1⟩
theorem zjf {l : List UInt8} (h : (zbe l).2.2 = 0) : 0 <= (zbe l).1 /\ (zbe l).1 <= (zbe l).2.1 /\ (zbe l).2.1 <= 1114111:=by
 unfold zbe at *;split at h
 ·rename_i hc; rw [if_pos hc]; exact zje h
 ·rename_i hc; rw [if_neg hc]; exact zje h
theorem zl2 (l : List UInt8) : ∃ ps,(cutL 59 l).map bareL = fldS l :: ps:=by
 unfold fldS
 cases h : (cutL 59 l).map bareL with
 | nil => simp [cutL] at h
 | cons x t => exact ⟨t,rfl⟩
theorem fldS_len (l : List UInt8) : (fldS l).length <= l.length:=by
 obtain ⟨ps,hp⟩:=zl2 l;have : fldS l ∈ (cutL 59 l).map bareL:=(by rw [hp]; simp);obtain ⟨y,hy,he⟩:=List.mem_map.1 this;have h1:=zdd 59 l y hy;have h2:=zcm y;rw [<- he];omega
def FreshSets (w : World) (r : List Int × Int × Int) (e : Ending) (w' : World) : Prop :=
 ∃ A c,e = .returned (.tuple #[.slice A r.1.length c,.int .i64 r.2.1,.int .i64 r.2.2]) /\ w'.ownsRow w.heap.size 21 1 (.slice A r.1.length c) r.1.length (Rs r.1) /\ Below w.heap.size w w'
theorem split59 (l : List UInt8) (w : World) (hE : Env w) (hs : l.length <= 512) :
  Calls Tryz.prog 61 #[.string (mk8 l),.int .u8 59] w (zh7 w ((cutL 59 l).map bareL)):=by
 have:=zgk (mk8 l) 59 w hE (by rw [z6]; omega);rw [za0] at this;exact this
theorem rangeZ (l : List UInt8) (w : World) (hE : Env w) (hs : l.length <= 512) :
  Calls Tryz.prog 60 #[.string (mk8 l)] w fun e w' => e = .returned (.tuple #[.int .i32 (zbe l).1,.int .i32 (zbe l).2.1,.int .i64 (zbe l).2.2]) /\ Below w.heap.size w w':=by
 have:=range_any (mk8 l) w hE (by rw [z6]; omega);rw [za0] at this;exact this
def Away (qs : List Nat) (v : Value) : Prop:=∀ b,v.ownBlock = some b -> b ∉ qs
theorem Away.step {qs : List Nat} {H : Nat} {v v' : Value} (h : Away qs v) (hv : v'.ownBlock = v.ownBlock \/ v'.ownBlock = some H) (hH : H ∉ qs) : Away qs v':=by
 intro b hb;rcases hv with hv | hv
 ·exact h b (hv ▸ hb)
 ·rw [hv] at hb;injection hb with hb;rw [<- hb];exact hH
theorem Away.ne {qs : List Nat} {v : Value} {q : Nat} (h : Away qs v) (hq : q ∈ qs) : v.ownBlock ≠ some q:=fun e => h q e hq
theorem zi5 (a b : Int) (q : Nat) (A : Option Addr) (n c : Nat) (zs : List Int) (W : World) (hr : Rd W A n (Rs zs)) (hn : n <= 1099511627776) (h0 : W.cell? ⟨q,0,none⟩ = some (.int .i32 a)) (h1 : W.cell? ⟨q + 1,0,none⟩ = some (.int .i32 b)) :
  Calls Tryz.prog 62 #[.slice A n c,.func (.func 63) #[] #[.pointer (some ⟨q,0,none⟩),.pointer (some ⟨q + 1,0,none⟩)]] W fun e w' => e = .returned (.bool (zs.any (betw a b))) /\ Below W.heap.size W w':=by
 refine containsf_any _ _ (enters_of Tryz.func63 (by kernel_rfl) rfl) (betw a b) A n c zs W hr hn ?_;intro x W2 hb;have e0:=(hb.cell (World.block_lt_of_cell? W _ h0)).trans h0;have e1:=(hb.cell (World.block_lt_of_cell? W _ h1)).trans h1;refine (sets1_any x a b q (q + 1) W2 e0 e1).mono ?_;rintro e w' ⟨rfl,rfl⟩;exact ⟨rfl,Below.refl _ _⟩
end Go.Proofs.YtolcabjkbefjgaaGreatDoor
end
section
namespace Go.Proofs.YtolcabjkbefjgaaGreatDoor
open Go.RowKit
theorem zns {w : World} {B : Nat} {A : Option Addr} {n c : Nat} {zs : List Int} (h : w.ownsRow B 21 1 (.slice A n c) n (Rs zs)) : Rd w A n (Rs zs):=by
 obtain ⟨A',c',hv,_,_,hr⟩:=Rd.of_own h;injection hv with h1 _ _;subst h1;exact hr
theorem ze3 (w : World) (o : Obj) : Below w.heap.size w (w.alloc o):=(Below.refl _ _).alloc (Nat.le_refl _) _
theorem zia (s : ByteArray) (w : World) (hE : Env w) (hs : s.size <= 1073741824) :
  Calls Tryz.prog 26 #[.string s] w (FreshSets w (setsS (bs s))):=by
 have LN:=zjr s w hE hs;have hlo:=zgx (bs s);unfold setsS;obtain ⟨⟨L,e0⟩,hL⟩ : ∃ z,z = zbj (bs s):=⟨_,rfl⟩;rw [<- hL] at LN hlo ⊢;simp only [] at hlo ⊢;clear hL
 by_cases he : e0 = 0
 ·subst he;rw [if_neg (show ¬ ((0 : Int) ≠ 0) by simp)];have HLO:=hz0q hlo;have hll:=hlo.2;clear hlo;obtain ⟨R,hR⟩ : ∃ R,R = setsE (setsW [] L):=⟨_,rfl⟩;rw [<- hR];have HR:=hz0q hR;clear hR;have hmf : ∀ (fn : Fn) (first cap : Array Value) (w : World),(Instr.makeFunc fn first cap).run Tryz.prog w = .ok (.func fn first cap) w:=fun _ _ _ _ => rfl;go_enter Tryz.func26,Tryz.ntmps26;go_wp2_with fail;refine LN.mono ?_;intro e w1 hF;obtain ⟨A,c,rfl,hr,hb1⟩:=hF.rd;have HE:=hz0q (hE.below hb1);have HB1:=hz0q hb1;clear hF LN hE hb1;have HRW : Hid (setsW [] L = setsW [] (L.drop 0)):=rfl;go_wp2
  go_loopw [24,7] (fun i o wr => ∃ (k : Nat) (out : List Int) (Ao : Option Addr) (co : Nat),k <= L.length /\ i = .int .i64 k /\ o = .slice Ao out.length co /\ out.length <= 4096 /\ wr.ownsRow w1.heap.size 21 1 (.slice Ao out.length co) out.length (Rs out) /\ Hid (setsW [] L = setsW out (L.drop k)) /\ Below w1.heap.size w1 wr) (fun i _ _ => L.length - (intOf i).toNat)
  case atStart => exact ⟨0,[],none,0,Nat.zero_le _,rfl,rfl,by simp,World.ownsRow_nil _ _ _ _,HRW,Below.refl _ _⟩
  case round =>
   obtain ⟨k,out,Ao,co,hk,rfl,rfl,hol,hown,HW,hb⟩:=hrel;clear HRW
   by_cases hin : k < L.length
   ·have hi : (k : Int) < (L.length : Int):=(by omega);obtain ⟨⟨l1,l2⟩,hl⟩ : ∃ l,L[k]? = some l:=⟨_,List.getElem?_eq_getElem hin⟩;have hz : l2.length <= 512:=HLO.out.1 _ (List.mem_of_getElem? hl);have hd:=zf3 hl;obtain ⟨b,off,rfl,hbl,hcx⟩:=(hr.below (by omega) hb).at_ (by omega) (by omega);have cx1:=hcx _ _ (Ls_at L k _ hl).1;have cx2:=hcx _ _ (Ls_at L k _ hl).2;rw [<- Nat.add_assoc] at cx2;simp only [] at cx1 cx2;clear hcx;have HST : Hid (setsW [] L = setsW out ((l1,l2) :: L.drop (k + 1))):=(by show _ = _; rw [HW.out,hd]);have hfl:=fldS_len l2;obtain ⟨fl,hfe⟩ : ∃ fl,fl = fldS l2:=⟨_,rfl⟩;obtain ⟨ps,hps⟩:=zl2 l2;have SP:=fun w h => split59 l2 w h hz;rw [hps,<- hfe] at SP;have HPS : Hid ((Ss (fl :: ps))[0]? = some (Value.string (mk8 fl))):=rfl;have RG:=fun w h => rangeZ fl w h (by rw [hfe]; omega);have hok:=zjf (l:=fl);have HSS : Hid (zav out l2 = setR out (zbe fl)):=(by show _ = _; rw [hfe]; rfl);obtain ⟨⟨ra,rb,re⟩,hrg⟩ : ∃ z,z = zbe fl:=⟨_,rfl⟩;rw [<- hrg] at RG hok HSS;simp only [] at RG hok;clear hfe hrg hd hps hl hfl hz;have hbA : Below wr.heap.size wr (wr.alloc (.cells #[.int .i64 l1,.string (mk8 l2)] 151)):=(Below.refl _ _).alloc (Nat.le_refl _) _;have HOWN:=hz0q hown;have HB:=hz0q hb;have HBA:=hz0q hbA;have HM0:=hz0q (hb.trans (hbA.mono hb.size));have HBL : Hid ((wr.alloc (.cells #[.int .i64 l1,.string (mk8 l2)] 151)).heap[wr.heap.size]? = some (.cells #[.int .i64 l1,.string (mk8 l2)] 151 (0,0))):=zm _ _ _
    clear hown hb hbA
    by_cases hre : re = 0
    ·subst hre;obtain ⟨ok1,ok2,ok3⟩:=hok rfl
     cases hany : out.any (betw ra rb)
     ·obtain ⟨N,hN⟩ : ∃ N,N = (rb - ra + 1).toNat:=⟨_,rfl⟩;have hNb : (N : Int) = rb - ra + 1:=(by omega);have HSA : Hid (zhp out ra rb = addW out ra N):=by show _ = _; unfold zhp; rw [hN]
      have HFU : Hid ((addW out ra N).2 = true -> R = ([],l1,14)):=by
       show _ -> _;intro hf;have hse : zav out l2 = (out,14):=(by rw [HSS.out]; unfold setR; rw [if_neg (by simp),if_neg (by simp [hany]),if_pos (by rw [HSA.out]; exact hf)]);rw [HR.out,HST.out,zc5 (by rw [hse]; simp),hse];show (srt [],_,_) = _;simp [srt]
      have HGO : Hid ((addW out ra N).2 = false -> setsW [] L = setsW (addW out ra N).1 (L.drop (k + 1))):=by
       show _ -> _;intro hf;have hse : zav out l2 = ((addW out ra N).1,0):=(by rw [HSS.out]; unfold setR; rw [if_neg (by simp),if_neg (by simp [hany]),if_neg (by rw [HSA.out,hf]; simp),HSA.out]);rw [HST.out,ze7 (by rw [hse]),hse]
      clear hok hN;go_wp2_with fail;refine (SP _ ?_).mono ?_
      ·exact (HE.out.below HB.out).alloc _
      intro e w2 hF;obtain ⟨A2,c2,rfl,hr2,hb2⟩:=hF.rd;clear hF SP;obtain ⟨b2,off2,rfl,hbl2,hc2⟩:=hr2.at_ (by simp);have cf : w2.cell? ⟨b2,off2,none⟩ = some (.string (mk8 fl)):=hc2 0 _ HPS.out;have HM2:=hz0q (HM0.out.trans (hb2.mono HM0.out.size));have HB2:=hz0q hb2;clear hr2 hc2 hb2;go_wp2_with fail;refine (RG _ ?_).mono ?_
      ·exact HE.out.below HM2.out
      rintro e w3 ⟨rfl,hb3⟩;clear RG cf;have HM3:=hz0q (HM2.out.trans (hb3.mono HM2.out.size));have hbl3 : w3.heap[wr.heap.size]? = some (.cells #[.int .i64 l1,.string (mk8 l2)] 151 (0,0)):=zd HBL.out (zb HB2.out hb3);have HBL3:=hz0q hbl3;have HR3:=hz0q (zb HBA.out (zb HB2.out hb3));clear hb3 hbl3;have CF:=fun W h0 h1 hr => zi5 ra rb w3.heap.size Ao out.length co out W hr (by omega) h0 h1;rw [hany] at CF;go_wp2_with fail;generalize hWW : (w3.alloc _).alloc _ = W at *;have hbW : Below w3.heap.size w3 W:=(by rw [<- hWW]; exact ((Below.refl _ _).alloc (Nat.le_refl _) _).alloc (by simp) _);have bx0 : W.heap[w3.heap.size]? = some (.cells #[.int .i32 ra] 21 (0,0)):=by rw [<- hWW]; exact zbg _ (zm w3 _ _)
      have bx1 : W.heap[w3.heap.size + 1]? = some (.cells #[.int .i32 rb] 21 (0,0)):=by
       rw [<- hWW];have:=zm (w3.alloc (.cells #[.int .i32 ra] 21)) #[.int .i32 rb] 21;simpa using this
      have hszW : W.heap.size = w3.heap.size + 2:=(by rw [<- hWW]; simp);clear hWW;have HBLW : Hid (W.heap[wr.heap.size]? = some (.cells #[.int .i64 l1,.string (mk8 l2)] 151 (0,0))):=zd HBL3.out hbW;have HMW:=hz0q (HM3.out.trans (hbW.mono HM3.out.size));refine (CF _ (za bx0 0 rfl) (za bx1 0 rfl) ?_).mono ?_
      ·exact (zns (zas HOWN.out (zb HR3.out hbW)))
      rintro e w4 ⟨rfl,hb4⟩;have cq0 : w4.cell? ⟨w3.heap.size,0,none⟩ = some (.int .i32 ra):=za (zd bx0 hb4) 0 rfl;have bq1:=zd bx1 hb4;have HBL4:=zd HBLW.out hb4;have hown4:=zas HOWN.out (zb (zb HR3.out hbW) hb4);have hm4:=HMW.out.trans (hb4.mono HMW.out.size);have hq4 : w3.heap.size + 1 < w4.heap.size:=by have:=hb4.size; omega
      have haw : Away [wr.heap.size,w3.heap.size,w3.heap.size + 1] (Value.slice Ao out.length co):=by
       intro x hx hm;have h1:=(HOWN.out.lt x hx).2;have h2:=HR3.out.size;simp at hm;omega
      clear CF hb4 hbW bx0 bx1 hszW HBLW HMW;generalize wr.heap.size = p at *;generalize w3.heap.size = q at *;have HAW0 : Hid (addW out ra N = addW out (ra + ((0 : Nat) : Int)) (N - 0)):=(by show _ = _; simp);go_wp2
      go_loopw [13,7] (fun r o wx => ∃ (j : Nat) (o2 : List Int) (A2 : Option Addr) (c2 : Nat),r = .int .i32 (ra + (j : Int)) /\ j <= N /\ o = .slice A2 o2.length c2 /\ o2.length <= 4096 /\ wx.ownsRow w1.heap.size 21 1 (.slice A2 o2.length c2) o2.length (Rs o2) /\ Hid (addW out ra N = addW o2 (ra + (j : Int)) (N - j)) /\ Away [p,q,q + 1] (.slice A2 o2.length c2) /\ wx.heap[q + 1]? = some (.cells #[.int .i32 rb] 21 (0,0)) /\ wx.heap[p]? = some (.cells #[.int .i64 l1,.string (mk8 l2)] 151 (0,0)) /\ q + 1 < wx.heap.size /\ Below w1.heap.size w1 wx) (fun r _ _ => N - (intOf r - ra).toNat)
      case atStart => exact ⟨0,out,Ao,co,by simp,Nat.zero_le _,rfl,hol,hown4,HAW0,haw,bq1,HBL4,hq4,hm4⟩
      case round =>
       obtain ⟨j,o2,Ax,dx,rfl,hj,rfl,hol2,hown2,HAW,haw2,hbx,hblx,hqx,hbm⟩:=hrel;clear HAW0 hown4 haw bq1 HBL4 hq4 hm4 cq0;have cq : wr.cell? ⟨q + 1,0,none⟩ = some (.int .i32 rb):=za hbx 0 rfl
       by_cases hjN : j < N
       ·have hle : ra + (j : Int) <= rb:=(by omega);have HA1 : Hid (addW out ra N = addW o2 (ra + (j : Int)) ((N - (j + 1)) + 1)):=by show _ = _; rw [HAW.out,show N - j = (N - (j + 1)) + 1 by omega]
        cases hsc : zaj (ra + (j : Int))
        ·have HA2 : Hid (addW out ra N = addW o2 (ra + ((j + 1 : Nat) : Int)) (N - (j + 1))):=by
          have ho : addO o2 (ra + (j : Int)) = o2:=(by unfold addO; rw [hsc]; rfl);show _ = _;rw [HA1.out,ziu (by rw [ho]; omega),ho,show ra + (j : Int) + 1 = ra + ((j + 1 : Nat) : Int) by omega]
         go_wp2_with (go_at_call 64; refine (zb0 _ _).mono ?_; rw [hsc]; rintro e w' ⟨rfl,rfl⟩)
         go_roundw
         case rel => exact ⟨j + 1,o2,Ax,dx,by congr 1; omega,by omega,rfl,hol2,hown2,HA2,haw2,hbx,hblx,hqx,hbm⟩
         case measure => simp [intOf]; omega
        ·have ho : addO o2 (ra + (j : Int)) = o2 ++ [ra + (j : Int)]:=(by unfold addO; rw [hsc]; rfl);have HK:=hz0q (And.intro hown2 (And.intro haw2 (And.intro hbx (And.intro hblx (And.intro hqx hbm)))));have hz2:=hbm.size;clear hown2 haw2 hbx hblx hqx hbm
         by_cases hfull : o2.length = 4096
         ·have hR : R = ([],l1,14):=HFU.out (by rw [HA1.out,zhh (by rw [ho,List.length_append,List.length_singleton]; omega)]);have HR2:=hz0q hR;have hl4 : (4096 : Int) < (o2.length : Int) + 1:=(by omega);have hl5 : 4096 < o2.length + 1:=(by omega);clear hR ho hfull;go_wp2_with fail;refine (zb0 _ _).mono ?_;rw [hsc];rintro e w5 ⟨rfl,rfl⟩;go_wp2_with (at_builtin; refine zak zal _ rfl _ _ rfl w1.heap.size rfl (zas HK.out.1 (ze3 _ _)) rfl (Rd.new1 _ _ _) (za7 rfl) (by omega) (by omega) (by simp; omega) ?_)
          intro A5 c5 w5 hown5 hg5 hb5;have hal:=ze3 wr (.cells #[.int .i32 (ra + (j : Int))] 21);have hblz : w5.heap[p]? = some (.cells #[.int .i64 l1,.string (mk8 l2)] 151 (0,0)):=zq (zd HK.out.2.2.2.1 hal) hg5 (HK.out.2.1.ne (by simp));have hbxz : w5.heap[q + 1]? = some (.cells #[.int .i32 rb] 21 (0,0)):=zq (zd HK.out.2.2.1 hal) hg5 (HK.out.2.1.ne (by simp));have hbm5 : Below w1.heap.size w1 w5:=(HK.out.2.2.2.2.2.trans (hal.mono hz2)).grown hg5 (Nat.le_trans hz2 hal.size) (fun j hj => (HK.out.1.lt j hj).1);have cl : w5.cell? ⟨p,0,none⟩ = some (.int .i64 l1):=za hblz 0 rfl;have HBM:=hz0q hbm5;clear hal hblz hbxz hbm5 hown5 hg5 hb5;go_wp2;go_quiet (fail)
          go_wp2;go_returns;rw [HR2.out];exact ⟨none,0,rfl,World.ownsRow_nil _ _ _ _,zb HB1.out (zf HBM.out _)⟩
         ·have hnf : ¬ 4096 < (addO o2 (ra + (j : Int))).length:=by rw [ho,List.length_append,List.length_singleton]; omega
          have HA2 : Hid (addW out ra N = addW (o2 ++ [ra + (j : Int)]) (ra + ((j + 1 : Nat) : Int)) (N - (j + 1))):=by
           show _ = _;rw [HA1.out,ziu hnf,ho,show ra + (j : Int) + 1 = ra + ((j + 1 : Nat) : Int) by omega]
          have hl4 : (o2.length : Int) + 1 <= 4096:=(by omega);have hl5 : o2.length + 1 <= 4096:=(by omega);clear ho hnf hfull;go_wp2_with fail;refine (zb0 _ _).mono ?_;rw [hsc];rintro e w5 ⟨rfl,rfl⟩;go_wp2_with (at_builtin; refine zak zal _ rfl _ _ rfl w1.heap.size rfl (zas HK.out.1 (ze3 _ _)) rfl (Rd.new1 _ _ _) (za7 rfl) (by omega) (by omega) (by simp; omega) ?_)
          intro A5 c5 w5 hown5 hg5 hb5;have hal:=ze3 wr (.cells #[.int .i32 (ra + (j : Int))] 21);have hblz : w5.heap[p]? = some (.cells #[.int .i64 l1,.string (mk8 l2)] 151 (0,0)):=zq (zd HK.out.2.2.2.1 hal) hg5 (HK.out.2.1.ne (by simp));have hbxz : w5.heap[q + 1]? = some (.cells #[.int .i32 rb] 21 (0,0)):=zq (zd HK.out.2.2.1 hal) hg5 (HK.out.2.1.ne (by simp));have hbm5 : Below w1.heap.size w1 w5:=(HK.out.2.2.2.2.2.trans (hal.mono hz2)).grown hg5 (Nat.le_trans hz2 hal.size) (fun j hj => (HK.out.1.lt j hj).1)
          have haw5 : Away [p,q,q + 1] (.slice A5 (o2.length + 1) c5):=HK.out.2.1.step hb5 (by
           have h1:=HK.out.2.2.2.2.1;have h2:=(Array.getElem?_eq_some_iff.1 HK.out.2.2.2.1).1;simp
           omega)
          have hq5 : q + 1 < w5.heap.size:=(Array.getElem?_eq_some_iff.1 hbxz).1;have hol5 : (o2 ++ [ra + (j : Int)]).length = o2.length + 1:=(by simp);have hown6 : w5.ownsRow w1.heap.size 21 1 (.slice A5 (o2.length + 1) c5) (o2.length + 1) (Rs (o2 ++ [ra + (j : Int)])):=(by simpa [Rs] using hown5);have HK2:=hz0q (And.intro hown6 (And.intro haw5 (And.intro hbxz (And.intro hblz (And.intro hq5 (And.intro hbm5 hol5))))));clear hal hblz hbxz hbm5 hown5 hg5 hb5 haw5 hq5 hown6 hol5;go_wp2;go_roundw
          case rel =>
           refine ⟨j + 1,o2 ++ [ra + (j : Int)],A5,c5,by congr 1; omega,by omega,by rw [HK2.out.2.2.2.2.2.2],by rw [HK2.out.2.2.2.2.2.2]; omega,?_,HA2,?_,HK2.out.2.2.1,HK2.out.2.2.2.1,HK2.out.2.2.2.2.1,HK2.out.2.2.2.2.2.1⟩
           ·rw [HK2.out.2.2.2.2.2.2]; exact HK2.out.1
           ·rw [HK2.out.2.2.2.2.2.2]; exact HK2.out.2.1
          case measure => simp [intOf]; omega
       ·have hgt : rb < ra + (j : Int):=(by omega);have hjN2 : N - j = 0:=(by omega);have hz : addW out ra N = (o2,false):=(by rw [HAW.out,hjN2,addW_zero]);have HS2 : Hid (setsW [] L = setsW o2 (L.drop (k + 1))):=(by show _ = _; rw [HGO.out (by rw [hz]),hz]);clear hz hjN2;go_wp2;go_roundw
        case rel => exact ⟨k + 1,o2,Ax,dx,by omega,by go_num,rfl,hol2,hown2,HS2,hbm⟩
        case measure => simp [intOf]; omega
     ·have hse : zav out l2 = (out,12):=by rw [HSS.out]; unfold setR; rw [if_neg (by simp),if_pos hany]
      have hR : R = ([],l1,12):=by
       rw [HR.out,HST.out,zc5 (by rw [hse]; simp),hse];show (srt [],_,_) = _;simp [srt]
      have HR2:=hz0q hR;clear hse hR hok;go_wp2_with fail;refine (SP _ ?_).mono ?_
      ·exact (HE.out.below HB.out).alloc _
      intro e w2 hF;obtain ⟨A2,c2,rfl,hr2,hb2⟩:=hF.rd;clear hF SP;obtain ⟨b2,off2,rfl,hbl2,hc2⟩:=hr2.at_ (by simp);have cf : w2.cell? ⟨b2,off2,none⟩ = some (.string (mk8 fl)):=hc2 0 _ HPS.out;have HM2:=hz0q (HM0.out.trans (hb2.mono HM0.out.size));have HB2:=hz0q hb2;clear hr2 hc2 hb2;go_wp2_with fail;refine (RG _ ?_).mono ?_
      ·exact HE.out.below HM2.out
      rintro e w3 ⟨rfl,hb3⟩;clear RG cf;have HM3:=hz0q (HM2.out.trans (hb3.mono HM2.out.size));have hbl3 : w3.heap[wr.heap.size]? = some (.cells #[.int .i64 l1,.string (mk8 l2)] 151 (0,0)):=zd HBL.out (zb HB2.out hb3);have HBL3:=hz0q hbl3;have HR3:=hz0q (zb HBA.out (zb HB2.out hb3));clear hb3 hbl3;have CF:=fun W h0 h1 hr => zi5 ra rb w3.heap.size Ao out.length co out W hr (by omega) h0 h1;rw [hany] at CF;go_wp2_with fail;generalize hWW : (w3.alloc _).alloc _ = W at *;have hbW : Below w3.heap.size w3 W:=(by rw [<- hWW]; exact ((Below.refl _ _).alloc (Nat.le_refl _) _).alloc (by simp) _);have bx0 : W.heap[w3.heap.size]? = some (.cells #[.int .i32 ra] 21 (0,0)):=by rw [<- hWW]; exact zbg _ (zm w3 _ _)
      have bx1 : W.heap[w3.heap.size + 1]? = some (.cells #[.int .i32 rb] 21 (0,0)):=by
       rw [<- hWW];have:=zm (w3.alloc (.cells #[.int .i32 ra] 21)) #[.int .i32 rb] 21;simpa using this
      have hszW : W.heap.size = w3.heap.size + 2:=(by rw [<- hWW]; simp);clear hWW;have HBLW : Hid (W.heap[wr.heap.size]? = some (.cells #[.int .i64 l1,.string (mk8 l2)] 151 (0,0))):=zd HBL3.out hbW;have HMW:=hz0q (HM3.out.trans (hbW.mono HM3.out.size));refine (CF _ (za bx0 0 rfl) (za bx1 0 rfl) ?_).mono ?_
      ·exact (zns (zas HOWN.out (zb HR3.out hbW)))
      rintro e w4 ⟨rfl,hb4⟩;have HBL4:=zd HBLW.out hb4;have cl : w4.cell? ⟨wr.heap.size,0,none⟩ = some (.int .i64 l1):=za HBL4 0 rfl;have HM4:=hz0q (HMW.out.trans (hb4.mono HMW.out.size));clear CF hb4 hbW bx0 bx1 hszW HBLW HMW HBL4;go_wp2;go_quiet (fail)
      go_wp2;go_returns;rw [HR2.out];exact ⟨none,0,rfl,World.ownsRow_nil _ _ _ _,zb HB1.out (zf HM4.out _)⟩
    ·have hse : zav out l2 = (out,re):=by rw [HSS.out]; unfold setR; rw [if_pos (by exact hre)]
     have hR : R = ([],l1,re):=by
      rw [HR.out,HST.out,zc5 (by rw [hse]; exact hre),hse];show (srt [],_,_) = _;simp [srt]
     have HR2:=hz0q hR;have hne : (re != 0) = true:=(by simpa using hre);clear hse hR hok hre;go_wp2_with fail;refine (SP _ ?_).mono ?_
     ·exact (HE.out.below HB.out).alloc _
     intro e w2 hF;obtain ⟨A2,c2,rfl,hr2,hb2⟩:=hF.rd;clear hF SP;obtain ⟨b2,off2,rfl,hbl2,hc2⟩:=hr2.at_ (by simp);have cf : w2.cell? ⟨b2,off2,none⟩ = some (.string (mk8 fl)):=hc2 0 _ HPS.out;have HM2:=hz0q (HM0.out.trans (hb2.mono HM0.out.size));have HB2:=hz0q hb2;clear hr2 hc2 hb2;go_wp2_with fail;refine (RG _ ?_).mono ?_
     ·exact HE.out.below HM2.out
     rintro e w3 ⟨rfl,hb3⟩;clear RG cf;have HM3:=hz0q (HM2.out.trans (hb3.mono HM2.out.size));have hbl3 : w3.heap[wr.heap.size]? = some (.cells #[.int .i64 l1,.string (mk8 l2)] 151 (0,0)):=zd HBL.out (zb HB2.out hb3);have HBL3:=hz0q hbl3;have HR3:=hz0q (zb HBA.out (zb HB2.out hb3));clear hb3 hbl3;go_wp2;generalize hWW : (w3.alloc _).alloc _ = W at *;have hbW : Below w3.heap.size w3 W:=(by rw [<- hWW]; exact ((Below.refl _ _).alloc (Nat.le_refl _) _).alloc (by simp) _);have cl : W.cell? ⟨wr.heap.size,0,none⟩ = some (.int .i64 l1):=za (zd HBL3.out hbW) 0 rfl;have HM4:=hz0q (HM3.out.trans (hbW.mono HM3.out.size));clear hWW hbW;go_quiet (fail)
     go_wp2;go_returns;rw [HR2.out];exact ⟨none,0,rfl,World.ownsRow_nil _ _ _ _,zb HB1.out (zf HM4.out _)⟩
   ·have hi : (L.length : Int) <= (k : Int):=(by omega);have hR2 : R = (srt out,0,0):=(by rw [HR.out,HW.out,List.drop_of_length_le (by omega)]; rfl);have HR2:=hz0q hR2;have SO:=zlc Ao out.length co w1.heap.size out wr hown (by omega);have hz1:=hb.size;have hq:=hown.lt;have HQ:=hz0q hq;have HB:=hz0q hb;clear hR2 hown hq hb;go_wp2_with fail;refine SO.mono ?_;rintro e w2 ⟨rfl,hown2,hg⟩;have hb2:=HB.out.grown hg hz1 (fun j hj => (HQ.out j hj).1);clear SO hg;go_wp2;go_returns;rw [HR2.out];refine ⟨Ao,co,by rw [zgh]; rfl,?_,zb HB1.out hb2⟩;rw [zgh];exact zax hown2 HB1.out.size
 ·rw [if_pos he];have hne : (e0 != 0) = true:=(by simpa using he);clear he hlo;go_enter Tryz.func26,Tryz.ntmps26;go_wp2_with fail;refine LN.mono ?_;rintro e w1 ⟨A,c,rfl,hown,hb⟩;go_wp2;go_returns;exact ⟨none,0,rfl,World.ownsRow_nil _ _ _ _,hb⟩
end Go.Proofs.YtolcabjkbefjgaaGreatDoor
end
end
