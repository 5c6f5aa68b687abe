/- When New answers, and what a base parts, by reckoning: for the chapters' examples. Plain. The example of the chapter on what is told at once: true. The example of the chapter on forms: what is told of its base (plain). What awake asks: bytes that begin with UTF-8's mark, read strictly, all at once. A decoder of codes, a writer, and rows of characters: what is had while parts are decoded. -/
import Derived.Test.YtolcabjkbefjgaaGreatDoorY41
import Derived.Test.YtolcabjkbefjgaaGreatDoorY40
set_option linter.unusedSimpArgs false
set_option linter.unusedVariables false
set_option maxRecDepth 20000
set_option maxHeartbeats 4000000
namespace Go.Proofs.YtolcabjkbefjgaaGreatDoor
section
open Go.RowKit
def endsN (D : Int -> List Int) : Nat -> Int -> Bool
 | 0,r => (D r).isEmpty
 | n + 1,r => (D r).all (endsN D n)
theorem zh3 {D : Int -> List Int} : ∀ {n : Nat} {r : Int},endsN D n r = true -> Ends D r
 | 0,r,h => by
  have : D r = []:=(by simpa [endsN] using h);exact Ends.of fun y hy => by rw [this] at hy; cases hy
 | n + 1,r,h => by
  unfold endsN at h;rw [List.all_eq_true] at h;exact Ends.of fun y hy => zh3 (h y hy)
def lenN (D : Int -> List Int) : Nat -> Int -> Nat
 | 0,_ => 1
 | n + 1,r => if (D r).isEmpty = true then 1 else ((D r).map (lenN D n)).sum
theorem zmz {D : Int -> List Int} (wf : WellFounded fun y x => y ∈ D x) : ∀ {n : Nat} {r : Int},endsN D n r = true -> lenD D wf r = lenN D n r
 | 0,r,h => by
  have : D r = []:=(by simpa [endsN] using h);rw [zfb,if_pos this];rfl
 | n + 1,r,h => by
  unfold endsN at h;rw [List.all_eq_true] at h;rw [zfb];unfold lenN
  by_cases hd : D r = []
  ·rw [if_pos hd,if_pos (by rw [hd]; rfl)]
  ·rw [if_neg hd,if_neg (by simpa using hd),List.map_congr_left fun y hy => zmz wf (h y hy)]
def keysL (rows : List RowS) : List Int:=(rows.filter fun x => !x.il.isEmpty).map (·.fr)
theorem zf1 {rows : List RowS} {r : Int} (h : (prtL rows r).isSome = true) : r ∈ keysL rows:=by
 obtain ⟨q,hq⟩:=Option.isSome_iff_exists.1 h;obtain ⟨x,hx,e,hne,_⟩:=zie hq;exact List.mem_map.2 ⟨x,List.mem_filter.2 ⟨hx,by simpa using hne⟩,e⟩
def newB (rows : List RowS) (out : List Int) (n : Nat) : Bool :=
 !rows.any zbq && !rows.any formB && (keysL rows).all (fun r => endsN (fun x => (decH (prtL rows) x).2) n r && decide (lenN (fun x => (decH (prtL rows) x).2) n r <= 18)) &&
  (keysL rows).all fun x => !madeQ (clsL rows) (prtL rows) out x || (!zdb (zay (prtL rows) x) && (keysL rows).all fun y => !madeQ (clsL rows) (prtL rows) out y || !decide (zay (prtL rows) x = zay (prtL rows) y) || decide (x = y))
theorem zks {rows : List RowS} {out : List Int} {n : Nat} (h : newB rows out n = true) : NewOk rows out:=by
 unfold newB at h;simp only [Bool.and_eq_true,Bool.not_eq_true',List.all_eq_true,decide_eq_true_eq,Bool.or_eq_true,decide_eq_false_iff_not] at h;obtain ⟨⟨⟨h1,h2⟩,h3⟩,h4⟩:=h;have hq : ∀ x,madeQ (clsL rows) (prtL rows) out x = true -> x ∈ keysL rows:=fun x hx => zf1 (by rw [(zci hx).1]; rfl);refine ⟨h1,h2,fun r hr => zh3 (h3 r (zf1 hr)).1,fun wf r hr => ?_,fun x hx => ?_,fun x y hx hy e => ?_⟩
 ·rw [zmz wf (h3 r (zf1 hr)).1];exact (h3 r (zf1 hr)).2
 ·rcases h4 x (hq x hx) with h | h
  ·rw [hx] at h; cases h
  ·exact h.1
 ·rcases h4 x (hq x hx) with h | h
  ·rw [hx] at h; cases h
  ·rcases h.2 y (hq y hy) with (h | h) | h
   ·rw [hy] at h; cases h
   ·exact absurd e h
   ·exact h
def oneN (dec : Int -> List UInt8 × List Int) (c : Bool) : Nat -> Int -> List Int
 | 0,r => [r]
 | n + 1,r => if (dec r).1.isEmpty = false /\ c = false \/ (dec r).2.isEmpty = true then [r] else (dec r).2.flatMap (oneN dec c n)
theorem zmu {B : BaseF} {c : Bool} : ∀ {n : Nat} {r : Int},endsN (fun x => (B.dec x).2) n r = true -> B.one c r = oneN B.dec c (n + 1) r
 | n,r,h => by
  unfold oneN
  by_cases h0 : (B.dec r).1.isEmpty = false /\ c = false \/ (B.dec r).2.isEmpty = true
  ·rw [if_pos h0];refine B.one_none ?_;unfold BaseF.parts;rcases h0 with ⟨h1,h2⟩ | h1
   ·rw [if_pos ⟨(by intro e; rw [e] at h1; cases h1),h2⟩]
   ·split
    ·rfl
    ·simpa using h1
  ·rw [if_neg h0]
   have hp : B.parts c r = (B.dec r).2:=by
    unfold BaseF.parts;rw [if_neg];rintro ⟨h1,h2⟩;refine h0 (.inl ⟨?_,h2⟩)
    cases hd : (B.dec r).1 with
    | nil => exact absurd hd h1
    | cons a t => rfl
   rw [B.one_some (by rw [hp]; intro e; exact h0 (.inr (by rw [e]; rfl))),hp];match n,h with
   | 0,h =>
    have : (B.dec r).2 = []:=(by simpa [endsN] using h);rw [this];rfl
   | n + 1,h =>
    unfold endsN at h;rw [List.all_eq_true] at h
    have key : ∀ l : List Int,(∀ y ∈ l,y ∈ (B.dec r).2) -> l.flatMap (B.one c) = l.flatMap (oneN B.dec c (n + 1)):=fun l => by
     induction l with
     | nil => intro _; rfl
     | cons y t ih =>
      intro hm;rw [List.flatMap_cons,List.flatMap_cons,zmu (h y (hm y (by simp))),ih fun z hz => hm z (by simp [hz])]
    exact key _ fun y hy => hy
theorem full_eq {B : BaseF} {c : Bool} {n : Nat} {l : List Int} (h : ∀ r ∈ l,endsN (fun x => (B.dec x).2) n r = true) : B.full c l = B.ord (l.flatMap (oneN B.dec c (n + 1))):=by
 unfold BaseF.full BaseF.all;congr 1;induction l with
 | nil => rfl
 | cons y t ih => rw [List.flatMap_cons,List.flatMap_cons,zmu (h y (by simp)),ih fun z hz => h z (by simp [hz])]
theorem aw8_none : setsS (bs ByteArray.empty) = ([],0,0):=by kernel_rfl
end
section
open Go.RowKit Go.Lib Go.Maps
def awBS : ByteArray:=⟨#[48,48,67,48,59,65,59,76,117,59,48,59,59,48,48,52,49,32,48,51,48,48,10,48,51,48,48,59,77,59,77,110,59,50,51,48,59,59]⟩
def awBR : List RowS:=[⟨192,192,[65],[76,117],0,[],[65,768]⟩,⟨768,768,[77],[77,110],230,[],[]⟩]
theorem zmb : rowsS (bs awBS) = (awBR,0,0):=by kernel_rfl
theorem zna : newB awBR [] 2 = true:=by kernel_rfl
theorem awB_g : RowsG awBR:=by have:=zmp (bs awBS); rw [zmb] at this; exact this
noncomputable def awBB : BaseF:=baseF awB_g (zks zna)
end
section
open Go.RowKit Go.Lib Go.Maps
theorem awB_many {c : Bool} {l m : List Int} (h : ∀ r ∈ l,endsN (fun x => (decH (prtL awBR) x).2) 1 r = true) (hl : l.flatMap (oneN (decH (prtL awBR)) c 2) = m) : awBB.full c l = awBB.ord m:=by
 have e:=full_eq (B:=awBB) (c:=c) (n:=1) (l:=l) h;rw [e];congr 1
theorem awB_e65 : endsN (fun x => (decH (prtL awBR) x).2) 1 65 = true:=by kernel_rfl
theorem awB_e768 : endsN (fun x => (decH (prtL awBR) x).2) 1 768 = true:=by kernel_rfl
theorem awC_full : awBB.full false [65,768] = [65,768]:=(awB_many (m:=[65,768]) (fun x hx => by
 rcases (show x = 65 \/ x = 768 by simpa using hx) with rfl | rfl
 ·exact awB_e65
 ·exact awB_e768) (by kernel_rfl)).trans (by kernel_rfl)
theorem awC_one : awBB.form false true [65,768] = [192]:=by
 show awBB.join (awBB.full false [65,768]) = [192];rw [awC_full];kernel_rfl
end
section
open Go.RowKit Go.Lib
theorem zj6 (A0 : Option Addr) (c0 : Nat) (s : ByteArray) (w : World) (h0 : Rd w A0 1 [.string s]) (hU : RowsU w) (hs : s.size <= 1073741824) (hv : zai (bs s) = true) :
  Calls Tryz.prog 20 #[.int .i64 1,.slice A0 1 c0] w fun e w' => ∃ A c,e = .returned (.tuple #[.slice A (chU (bs s)).length c,.slice none 0 0,.int .i64 0]) /\ w'.ownsRow w.heap.size 21 1 (.slice A (chU (bs s)).length c) (chU (bs s)).length (Rs (chU (bs s))) /\ Below w.heap.size w w':=by
 have JN:=zjw A0 c0 s w h0;have HU:=hz0q hU;have HV : Hid (rdN nextU 1 (bs s) = (chU (bs s),true)):=(by show _ = _; rw [<- hv]; rfl);obtain ⟨L,hL⟩ : ∃ L,L = chU (bs s):=⟨_,rfl⟩;rw [<- hL] at HV ⊢;clear h0 hU hv hL;go_enter Tryz.func20,Tryz.ntmps20;go_wp2_with fail;refine JN.mono ?_;rintro e wj ⟨rfl,rfl⟩;clear JN;go_wp2_with fail
 go_loopw [8,9,10] (fun v8 v9 v10 wr => ∃ (i : Nat) (A : Option Addr) (c : Nat) (zs : List Int),v10 = .int .i64 i /\ i <= s.size /\ v8 = .slice A zs.length c /\ v9 = .slice none 0 0 /\ wr.ownsRow w.heap.size 21 1 (.slice A zs.length c) zs.length (Rs zs) /\ zs.length <= i /\ Below w.heap.size w wr /\ Hid (rdN nextU 1 (bs s) = (zs ++ (rdN nextU 1 ((bs s).drop i)).1,(rdN nextU 1 ((bs s).drop i)).2)))
  (fun _ _ v10 _ => s.size - (intOf v10).toNat)
 case atStart => exact ⟨0,none,0,[],rfl,Nat.zero_le _,rfl,rfl,World.ownsRow_nil _ _ _ _,Nat.zero_le _,Below.refl _ _,by show _ = _; simp⟩
 case round =>
  obtain ⟨i,A,c,zs,rfl,hi,rfl,rfl,ho1,hz,hb,HQ0⟩:=hrel;obtain ⟨w1,rfl⟩ : ∃ w1,w1 = wr:=⟨wr,rfl⟩;have hsz:=hb.size
  by_cases hlt : i < s.size
  ·have hii : (i : Int) < (s.size : Int):=by omega
   have hne : (bs s).drop i ≠ []:=by
    intro e;have:=congrArg List.length e;rw [List.length_drop,zi] at this;simp at this;omega
   have hok:=zcu _ hne;rw [List.length_drop,zi] at hok;have hrc:=zgq (p:=1) (zcu) hne;have hbe : bs (s.extract i s.size) = (bs s).drop i:=(by rw [zck,List.take_of_length_le (by rw [zi]; exact Nat.le_refl _)]);have NE:=next_any (s.extract i s.size) w1 (HU.out.below hb) (by simp; omega);rw [hbe] at NE;obtain ⟨r,hr⟩ : ∃ r,r = (nextU ((bs s).drop i)).1:=⟨_,rfl⟩;obtain ⟨n,hn⟩ : ∃ n,n = (nextU ((bs s).drop i)).2.1:=⟨_,rfl⟩;obtain ⟨ev,hev⟩ : ∃ ev,ev = (nextU ((bs s).drop i)).2.2:=⟨_,rfl⟩;rw [<- hr,<- hn,<- hev] at NE;rw [<- hn] at hok;have hput : putN 1 (nextU ((bs s).drop i)) = if ev = 0 then [r] else if (1 : Int) = 2 then [65533] else []:=(by rw [hr,hev]; rfl);rw [hput,<- hn,<- hev,List.drop_drop] at hrc
   have h0 : ev = 0:=Classical.byContradiction fun h0 => by
    have h1:=HQ0.out;rw [HV.out,hrc,if_pos ⟨h0,rfl⟩] at h1;injection h1 with _ h1
    cases h1
   subst h0
   have HQ : Hid (rdN nextU 1 (bs s) = ((zs ++ [r]) ++ (rdN nextU 1 ((bs s).drop (i + n))).1,(rdN nextU 1 ((bs s).drop (i + n))).2)):=by
    show _ = _;rw [HQ0.out,hrc];simp
   have HO1:=hz0q ho1;have HB:=hz0q hb;have hin : i + n <= s.size:=(by omega);clear hr hn hev hne hbe hrc hput ho1 hb HQ0;go_wp2_with fail;refine NE.mono ?_;rintro e w3 ⟨rfl,hb3⟩;have ho1:=zas HO1.out hb3;have hb13:=HB.out.trans (hb3.mono hsz);have hs3 : w.heap.size <= w3.heap.size:=hb13.size;clear NE hb3 HO1 HB;have hs4 : w.heap.size <= (w3.alloc (.cells #[.int .i32 r] 21)).heap.size:=(by simp; omega);have hbA : Below w.heap.size w (w3.alloc (.cells #[.int .i32 r] 21)):=hb13.alloc (by omega) _;have ho1a:=zas ho1 ((Below.refl _ _).alloc (Nat.le_refl _) (.cells #[.int .i32 r] 21));go_wp2_with (at_builtin; refine zak zal _ rfl _ _ rfl w.heap.size rfl ho1a rfl (Rd.new1 _ _ _) (za7 rfl) (by omega) (by decide) hs4 ?_)
   intro A8 c8 w8 ho8 hg8 hat8;have HB8:=hz0q (ze4 hbA hs4 ho1a hg8);rw [show Rs zs ++ [.int .i32 r] = Rs (zs ++ [r]) by simp [Rs]] at ho8;have HO8:=hz0q ho8;clear ho1a hg8 hat8 hbA ho8 hs4 ho1 hb13;go_wp2;go_roundw
   case rel => exact ⟨i + n,A8,c8,zs ++ [r],by go_num,by omega,by rw [List.length_append]; rfl,rfl,by rw [List.length_append]; exact HO8.out,by rw [List.length_append]; simp; omega,HB8.out,HQ⟩
   case measure => simp [intOf]; omega
  ·obtain rfl : i = s.size:=(by omega);have hii : (s.size : Int) <= (s.size : Int):=Int.le_refl _
   have hL : L = zs:=by
    have h1:=HQ0.out;rw [HV.out,List.drop_of_length_le (by rw [zi]; exact Nat.le_refl _),rd_nil] at h1;injection h1 with h1;simpa using h1
   subst hL;have HO1:=hz0q ho1;have HB:=hz0q hb;clear HQ0 ho1 hb;go_wp2;go_returns;exact ⟨A,c,rfl,HO1.out,HB.out⟩
theorem marked5 (s : ByteArray) (w : World) (h : [239,187,191] <+: bs s) : Calls Tryz.prog 78 #[.string s] w fun e w' => e = .returned (.tuple #[.int .i64 5,.int .i64 3]) /\ Below w.heap.size w w':=by
 have PA:=pre_any s ⟨#[239,187,191]⟩ w;rw [show bs ⟨#[239,187,191]⟩ = [239,187,191] from rfl,decide_eq_true h] at PA;clear h;go_enter Tryz.func78,Tryz.ntmps78;go_wp2_with fail;refine PA.mono ?_;rintro e w' ⟨rfl,rfl⟩;go_wp2_with fail;go_returns;exact ⟨rfl,Below.refl _ _⟩
section
variable {w : World} {q base : Nat}
theorem read5 {rest : ByteArray} {all : Int} {g ov : Bool} {vb : Value} (hx : w.heap[q]? = some (.cells (stC rest all 5 1 g ov vb) 93 (0,0))) (s : ByteArray) (hU : RowsU w) (hs : s.size <= 1073741824) (hv : zai (bs s) = true) :
  Calls Tryz.prog 82 #[.pointer (some ⟨q,0,none⟩),.string s] w fun e w' => ∃ A c,e = .returned (.tuple #[.slice A (chU (bs s)).length c,.slice none 0 0,.int .i64 0]) /\ w'.ownsRow w.heap.size 21 1 (.slice A (chU (bs s)).length c) (chU (bs s)).length (Rs (chU (bs s))) /\ Below w.heap.size w w':=by
 have c2:=za hx 2 rfl;have c3:=za hx 3 rfl;have hba : Below w.heap.size w (w.alloc (.cells #[.string s] 9)):=(Below.refl _ _).alloc (Nat.le_refl _) _;have d3:=(hba.cell (p:=⟨q,3,none⟩) (za5 hx)).trans c3;have C:=zj6 (some ⟨w.heap.size,0,none⟩) 1 s (w.alloc (.cells #[.string s] 9)) (Rd.new1 _ _ _) (hU.below hba) hs hv;have HBA:=hz0q hba;obtain ⟨L,hL⟩ : ∃ L,L = chU (bs s):=⟨_,rfl⟩;rw [<- hL] at C ⊢;obtain ⟨ln,hln⟩ : ∃ ln,ln = L.length:=⟨_,rfl⟩;rw [<- hln] at C ⊢;clear hba hU hx hL hln;go_enter Tryz.func82,Tryz.ntmps82;go_wp2_with fail;refine C.mono ?_;rintro e w1 ⟨A,c,rfl,ho,hb⟩;have HO:=hz0q (zcg ho HBA.out.size);have HB:=hz0q (zb HBA.out hb);clear C ho hb c2 c3 d3;go_wp2;go_returns;exact ⟨A,c,rfl,HO.out,HB.out⟩
theorem faults5 {rest : ByteArray} {all k p : Int} {g ov : Bool} (h : DecM base w q rest all k p g ov 0 none 0 []) :
  Calls Tryz.prog 40 #[.pointer (some ⟨q,0,none⟩)] w fun e w' => (∃ v,e = .returned v) /\ Below w.heap.size w w':=by
 have b6:=za h.box 6 rfl
 have C : ∀ w : World,Calls Tryz.prog 86 #[.slice none 0 0] w fun e w' => (∃ v,e = .returned v) /\ Below w.heap.size w w':=fun w => by
  have hcmp:=fun w => Lib.run_eql_slice_nil (P:=Tryz.prog) w 47 128 none 0 0 0 0 Tryz.underlying47;simp only [Option.isNone] at hcmp;go_enter Tryz.func86,Tryz.ntmps86;go_wp2;go_returns;exact ⟨⟨_,rfl⟩,Below.refl _ _⟩
 clear h;go_enter Tryz.func40,Tryz.ntmps40;go_wp2_with fail;refine (C _).mono ?_;rintro e w' ⟨⟨v,rfl⟩,hb⟩;go_wp2;go_returns;exact ⟨⟨_,rfl⟩,hb⟩
theorem ch5 : chU [65,204,128] = [65,768]:=by kernel_rfl
theorem va5 : zai [65,204,128] = true:=by kernel_rfl
theorem take5 {rest : ByteArray} (hr : bs rest = [239,187,191,65,204,128]) (h : DecM base w q rest (6 : Nat) 5 1 true false 0 none 0 []) (hU : ∀ W,Below base w W -> RowsU W) (hbw : base <= w.heap.size) :
  Calls Tryz.prog 35 #[.pointer (some ⟨q,0,none⟩),.bool true] w fun e w' => (∃ A c,e = .returned (.tuple #[.slice A 2 c,.int .i64 0]) /\ w'.ownsRow w.heap.size 21 1 (.slice A 2 c) 2 (Rs [65,768])) /\ (∃ r,DecM base w' q r (6 : Nat) 5 1 false false 0 none 0 []) /\ Below base w w':=by
 have hsz6 : rest.size = 6:=(by rw [<- zi,hr]; rfl);obtain ⟨r1,hr1⟩ : ∃ r1,r1 = rest.extract 3 rest.size:=⟨_,rfl⟩;have hb1 : bs r1 = [65,204,128]:=(by rw [hr1,zck,hr,hsz6]; rfl);have h13 : r1.size = 3:=(by rw [<- zi,hb1]; rfl);have HB1:=hz0q hb1;have hb4:=za h.box 4 rfl;have hb0:=za h.box 0 rfl;have hf4:=zc h.box 4;have M4:=h.put (rest':=rest) (all':=(6 : Nat)) (k':=5) (p':=1) (g':=false) (ov':=false) 4 (.bool false) rfl;have B4 : Below base w (w.setCell ⟨q,4,none⟩ (.bool false)):=(Below.refl base w).setCell (p:=⟨q,4,none⟩) h.tb _;obtain ⟨W4,hW4⟩ : ∃ W4,w.setCell ⟨q,4,none⟩ (.bool false) = W4:=⟨_,rfl⟩;rw [hW4] at M4 B4;have MA:=marked5 rest W4 (by rw [hr]; decide);have HM4:=hz0q M4;have HB4:=hz0q B4;have HW4:=hz0q hW4;have HUU:=hz0q hU;have d0:=za M4.box 0 rfl;obtain ⟨mk,hmk⟩ : ∃ mk : Int,mk = 5:=⟨_,rfl⟩;obtain ⟨ml,hml⟩ : ∃ ml : Nat,ml = 3:=⟨_,rfl⟩;rw [show (Value.int IntKind.i64 5) = .int .i64 mk by rw [hmk],show (Value.int IntKind.i64 3) = .int .i64 (ml : Int) by rw [hml]; rfl] at MA;have HMK:=hz0q hmk;have hm1 : 0 < mk:=(by omega);have hmli : (ml : Int) <= (rest.size : Int):=(by omega);have HR1 : Hid (rest.extract ml rest.size = r1):=(by show _ = _; rw [hr1,hml]);clear h hU hr M4 B4 hW4 hmk hml hr1 hsz6 hb1;go_enter Tryz.func35,Tryz.ntmps35;go_upto_if 19 with (fail)
 go_cut [] from 6 (fun wx => ∃ (k1 : Int) (r : ByteArray),Hid (k1 = 5 /\ r = r1) /\ Hid (DecM base wx q r (6 : Nat) k1 1 false false 0 none 0 []) /\ Hid (Below base w wx))
 case first =>
  go_upto_region 5 with fail;rw [HW4.out];clear hb4 hb0 hf4 HW4;go_wp2_with fail;refine MA.mono ?_;rintro e w5 ⟨rfl,hb5⟩;have M5:=HM4.out.below hb5;have B5 : Below base w w5:=HB4.out.trans (hb5.mono (Nat.le_trans hbw HB4.out.size));have b0:=za M5.box 0 rfl;have b2:=za M5.box 2 rfl;have ef0:=zc M5.box 0;have ef2:=zc M5.box 2;have P1:=M5.put (rest':=rest) (all':=(6 : Nat)) (k':=mk) (p':=1) (g':=false) (ov':=false) 2 (.int .i64 mk) rfl;have P2:=P1.put (rest':=rest.extract ml rest.size) (all':=(6 : Nat)) (k':=mk) (p':=1) (g':=false) (ov':=false) 0 (.string (rest.extract ml rest.size)) rfl;have Q1:=M5.put (rest':=rest.extract ml rest.size) (all':=(6 : Nat)) (k':=5) (p':=1) (g':=false) (ov':=false) 0 (.string (rest.extract ml rest.size)) rfl;have Q2:=Q1.put (rest':=rest.extract ml rest.size) (all':=(6 : Nat)) (k':=mk) (p':=1) (g':=false) (ov':=false) 2 (.int .i64 mk) rfl;have PB:=(B5.setCell (p:=⟨q,2,none⟩) M5.tb (.int .i64 mk)).setCell (p:=⟨q,0,none⟩) M5.tb (.string (rest.extract ml rest.size));have QB:=(B5.setCell (p:=⟨q,0,none⟩) M5.tb (.string (rest.extract ml rest.size))).setCell (p:=⟨q,2,none⟩) M5.tb (.int .i64 mk);have HP:=hz0q (And.intro (P2.below (Drew.to ⟨1,rfl⟩)) (Below.drew PB));have HQ:=hz0q (And.intro (Q2.below (Drew.to ⟨1,rfl⟩)) (Below.drew QB));clear MA M5 B5 hb5 P1 P2 Q1 Q2 PB QB HB4 HM4;go_upto_region 7 with fail
  go_region
  all_goals
   first | go_meet | (go_wp2; go_meet)
   case rel => first | exact ⟨mk,_,hz0q ⟨HMK.out,HR1.out⟩,hz0q HP.out.1,hz0q HP.out.2⟩ | exact ⟨mk,_,hz0q ⟨HMK.out,HR1.out⟩,hz0q HQ.out.1,hz0q HQ.out.2⟩
 case rest =>
  obtain ⟨k1,r,HE,HD1,HBL1⟩:=hcut;obtain ⟨h5,h6⟩:=HE.out;have h6:=h6.symm;subst h5 h6;clear HE;clear hb4 hb0 hf4 d0 HR1 HM4 HB4 HW4 MA;have F:=from_any HD1.out (by omega) (by omega);have hmf : ∀ (fn : Fn) (first cap : Array Value) (w : World),(Instr.makeFunc fn first cap).run Tryz.prog w = .ok (.func fn first cap) w:=fun _ _ _ _ => rfl;go_wp2_with fail;refine F.mono ?_;rintro e w3 ⟨rfl,hb3⟩;have D3:=hz0q (HD1.out.below hb3);have BL3 : Hid (Below base w w3):=HBL1.out.trans (hb3.mono (Nat.le_trans hbw HBL1.out.size));have b0:=za D3.out.box 0 rfl;obtain ⟨fr,hfr⟩ : ∃ fr,fr = 6 - r1.size:=⟨_,rfl⟩;rw [<- hfr];clear F hb3 hfr HD1 HBL1;go_wp2_with fail;refine (all_any r1 w3).mono ?_;rintro e w4 ⟨rfl,hb4⟩;have D4:=hz0q (D3.out.below hb4);have BL4 : Hid (Below base w w4):=BL3.out.trans (hb4.mono (Nat.le_trans hbw BL3.out.size));clear b0 hb4;have b0:=za D4.out.box 0 rfl;obtain ⟨n,hn⟩ : ∃ n : Nat,n = r1.size:=⟨_,rfl⟩;rw [<- hn];have hni : (n : Int) <= (r1.size : Int):=(by omega);obtain ⟨r2,hr2⟩ : ∃ r2,r2 = r1.extract 0 n:=⟨_,rfl⟩;have hb2 : bs r2 = [65,204,128]:=(by rw [hr2,zck,HB1.out,hn,h13]; rfl);have RD:=read5 D4.out.box r2 (HUU.out w4 BL4.out) (by rw [<- zi,hb2]; decide) (by rw [hb2]; exact va5);rw [hb2,ch5] at RD;rw [hr2] at RD;clear hn hr2 hb2;go_wp2_with fail;refine RD.mono ?_;rintro e w5 ⟨Az,cz,rfl,ho,hb5⟩;have D5:=hz0q (D4.out.below hb5);have BL5 : Hid (Below base w w5):=BL4.out.trans (hb5.mono (Nat.le_trans hbw BL4.out.size))
  clear RD b0 D3 BL3;have b0:=za D5.out.box 0 rfl;have f0:=zc D5.out.box 0;obtain ⟨rest2,hrest2⟩ : ∃ r,r = r1.extract n 3:=⟨_,rfl⟩;have HD6:=hz0q (D5.out.put (rest':=rest2) (all':=(6 : Nat)) (k':=5) (p':=1) (g':=false) (ov':=false) 0 (.string rest2) rfl);have BL6:=hz0q (BL5.out.setCell (p:=⟨q,0,none⟩) D5.out.tb (.string rest2))
  have HO6:=hz0q (zcg (zdw ho (w':=w5.setCell ⟨q,0,none⟩ (.string rest2)) fun g hg => Below.heap_setCell w5 ⟨q,0,none⟩ (.string rest2) g (fun e => by
   have u1:=D4.out.lt;have u2:=(ho.lt g hg).1;have e : g = q:=e
   omega)) (show w.heap.size <= w4.heap.size from BL4.out.size))
  obtain ⟨w6,hw6⟩ : ∃ w6,w5.setCell ⟨q,0,none⟩ (.string rest2) = w6:=⟨_,rfl⟩;have HW6:=hz0q hw6;rw [hw6] at HD6 BL6 HO6;clear hw6 ho hb5;go_upto_region 15 with fail;rw [<- hrest2,HW6.out];clear b0 f0 D4 D5 BL4 BL5 HW6 hrest2;go_wp2_with fail
  go_loopw [99] (fun s99 wr => s99 = .int .i64 0 /\ Hid (w6 = wr)) (fun _ _ => 0)
  case atStart => exact ⟨rfl,hz0q rfl⟩
  case round =>
   obtain ⟨rfl,hsm⟩:=hrel;obtain rfl:=hsm.out;go_wp2;go_returns;exact ⟨⟨Az,cz,rfl,HO6.out⟩,⟨_,HD6.out⟩,BL6.out⟩
end
theorem whole5 (w : World) (hU : RowsU w) : Calls Tryz.prog 15 #[.int .i64 5,.int .i64 1,.bool true,.string ⟨#[239,187,191,65,204,128]⟩] w fun e w' => (∃ A c v2 k2,e = .returned (.tuple #[.slice A 2 c,v2,.int .i64 k2,.int .i64 0]) /\ Rd w' A 2 (Rs [65,768])) /\ Below w.heap.size w w':=by
 have NW:=snew_yes 5 1 true w (by decide);obtain ⟨s,hs⟩ : ∃ s : ByteArray,s = ⟨#[239,187,191,65,204,128]⟩:=⟨_,rfl⟩;have hbs : bs s = [239,187,191,65,204,128]:=(by rw [hs]; rfl);have hs6 : s.size = 6:=(by rw [hs]; rfl);rw [<- hs];obtain ⟨b0,hb0⟩ : ∃ b,b = w.heap.size:=⟨_,rfl⟩;have HUU : Hid (∀ W,Below b0 w W -> RowsU W):=fun W h => hU.below (by rw [hb0] at h; exact h);have HB0:=hz0q hb0;rw [<- hb0] at NW;clear hU hb0 hs;go_enter Tryz.func15,Tryz.ntmps15;go_wp2_with fail;refine NW.mono ?_;rintro e w1 ⟨rfl,hd1,hb1⟩;have hba : Below w1.heap.size w1 (w1.alloc (.cells #[.string s] 9)):=(Below.refl _ _).alloc (Nat.le_refl _) _;have hbs1 : b0 <= w1.heap.size:=(by rw [HB0.out]; exact hb1.size);have AD:=add_any (a:=0) (hd1.below hba) (some ⟨w1.heap.size,0,none⟩) 1 s (Rd.new1 _ _ _) (by (have : (⟨#[]⟩ : ByteArray).size = 0:=rfl); omega) (by omega);have HBA : Hid (Below b0 w (w1.alloc (.cells #[.string s] 9))):=hb1.trans (hba.mono hbs1);have he : (⟨#[]⟩ : ByteArray) ++ s = s:=(by apply ByteArray.ext; simp);rw [he,hs6] at AD;clear NW hd1 hb1 hba;go_wp2_with fail;refine AD.mono ?_;rintro e w2 ⟨rfl,hd2,hk2,hb2⟩;have HB2:=hz0q (HBA.out.trans hb2);have TK:=take5 hbs hd2 (fun W hW => HUU.out W (HB2.out.trans hW)) (by have:=hk2.1; simp at this; omega);clear AD hd2 hk2 hb2;go_wp2_with fail;refine TK.mono ?_;rintro e w3 ⟨⟨Az,cz,rfl,ho⟩,⟨r3,hd3⟩,hb3⟩;have FA:=fun W (hW : Below w3.heap.size w3 W) => faults5 (hd3.below hW);have c2:=za hd3.box 2 rfl
 have HB3:=hz0q (HB2.out.trans hb3);obtain ⟨A',c',hv,_,_,hrd⟩:=Rd.of_own ho;injection hv with e1 _ e3;subst e1 e3;have HRD:=hz0q hrd;have hsz3 : w.heap.size <= w3.heap.size:=HB3.out.size;clear TK ho hd3 hb3 hrd hbs;go_upto_region 6 with fail
 go_cut [8,9,10,11] from 12 (fun s8 s9 s10 s11 wx => ∃ v2 k2,s8 = .slice Az 2 cz /\ s9 = v2 /\ s10 = .int .i64 k2 /\ s11 = .int .i64 0 /\ Hid (Below w3.heap.size w3 wx))
 case first =>
  go_region_held3 (fun w' => w'.cell? ⟨b0,2,none⟩ = some (.int .i64 5) /\ Below w3.heap.size w3 w') (first | exact zlt c2 | assumption | (refine kp_call ?_ hb5; assumption))
   (first | (go_at_call 40; refine (FA _ (by first | exact (zlt c2).2 | assumption)).mono ?_; rintro e w5 ⟨⟨v2,rfl⟩,hb5⟩))
  all_goals
   have hk7 : w5.cell? ⟨b0,2,none⟩ = some (.int .i64 5) /\ Below w3.heap.size w3 w5:=(by assumption);have HB8:=hz0q hk7.2;clear hk7;first | go_meet | (go_wp2; go_meet)
   case rel => exact ⟨v2,5,rfl,rfl,rfl,rfl,HB8⟩
 case rest =>
  obtain ⟨v2,k2,rfl,rfl,rfl,rfl,HB9⟩:=hcut;have HF:=hz0q (HRD.out.below HB9.out)
  have HG : Hid (Below w.heap.size w wc):=by
   have:=HB3.out.trans (HB9.out.mono (by rw [HB0.out]; exact hsz3));rw [HB0.out] at this;exact this
  go_wp2;go_returns;exact ⟨⟨Az,cz,_,k2,rfl,HF.out⟩,HG.out⟩
theorem zfk (w : World) (hE : Env w) (hk : Kinds w) (hU : RowsU w) : Calls Tryz.prog 7 #[] w fun e w' => e = .returned (.bool true) /\ Below w.heap.size w w':=by
 have N1:=new_is (s:=awBS) (o:=ByteArray.empty) awB_g (zks zna) zmb aw8_none w hE hk (by decide) (by decide);have HBD : Hid (zap awBB):=zm9 awB_g (zks zna);have HK:=hz0q hk;have HU:=hz0q hU;unfold awBS at N1;go_enter Tryz.func7,Tryz.ntmps7;go_wp2_with fail;refine N1.mono ?_;rintro e w1 ⟨p,rfl,hp,hb1⟩;have HP : Hid (zac w1 (.pointer (some ⟨p,0,none⟩)) awBB):=hp;have HB1:=hz0q hb1;have WH:=whole5 w1 (HU.out.below hb1);clear N1 hp hb1 hE hk hU;go_wp2_with fail;refine WH.mono ?_;rintro e w2 ⟨⟨A,c,v2,k2,rfl,hrd⟩,hb2⟩;have HB2:=hz0q (zb HB1.out hb2);have C:=zev (cp:=c) (HP.out.below hb2) ((HK.out.below' HB1.out).below' hb2) HBD.out 2 A 2 [65,768] hrd rfl (by intro x hx; simp at hx; unfold R32; omega) (by decide);rw [zd2 (show mayF 2 = true from rfl),show cB 2 = false from rfl,show jB 2 = true from rfl,awC_one] at C;clear WH hb2 hrd;go_wp2_with fail;refine C.mono ?_;intro e w3 hf;obtain ⟨A3,c3,rfl,hz3,hb3⟩:=hf.argF (by intro x hx; simp at hx; unfold R32; omega);have HB3:=hz0q (zb HB2.out hb3);have EN:=enc192 A3 c3 w3 hz3.rd (HU.out.below HB3.out);clear C hf hz3 hb3;go_wp2_with fail;refine EN.mono ?_;rintro e w4 ⟨rfl,hb4⟩;have HB4:=hz0q (zb HB3.out hb4);clear EN hb4;go_wp2;go_returns;exact ⟨rfl,HB4.out⟩
end
section
open Go.RowKit Go.Lib Go.Maps
theorem chU_R (s : List UInt8) : ∀ x ∈ chU s,R32 x:=rdF_R nextU_R 1 _ _
theorem chU_len (s : List UInt8) : (chU s).length <= s.length:=znp zcu _ s (Nat.le_refl _)
section
variable {T : TxC} {H : HdC}
theorem zht (hT : GoodT T) : ∀ (l : List ByteArray) (h : ByteArray),zai (runC T H h l) = true
 | [],h => zj2 h
 | s :: l,h => ze6 (zb6 hT _ (h ++ s) (Nat.le_refl _)).1 (zht hT l _)
theorem runC_cons (hT : GoodT T) (h s : ByteArray) (l : List ByteArray) : chU (runC T H h (s :: l)) = chU (stpC T H (h ++ s)).1 ++ chU (runC T H (stpC T H (h ++ s)).2 l):=ch_app (zb6 hT _ (h ++ s) (Nat.le_refl _)).1
theorem zle (hT : GoodT T) : ∀ (l : List ByteArray) (h : ByteArray),(∀ s ∈ l,s.size <= 60) -> (runC T H h l).length <= 200 * (h.size + 60 * l.length)
 | [],h,_ => by
  show (flsC h).length <= _;unfold flsC;split
  ·simp
  ·show 3 <= _;omega
 | s :: l,h,h60 => by
  have h1:=(zb6 (H:=H) hT _ (h ++ s) (Nat.le_refl _)).2;have h2:=zle hT l (stpC T H (h ++ s)).2 (fun x hx => h60 x (List.mem_cons_of_mem _ hx));have h3:=h60 s (List.mem_cons_self ..);rw [ByteArray.size_append] at h1;show ((stpC T H (h ++ s)).1 ++ runC T H (stpC T H (h ++ s)).2 l).length <= _;rw [List.length_append,List.length_cons];omega
def RelC (T : TxC) (H : HdC) (ss : List ByteArray) (n : Nat) (W : List Int) (i : Nat) (hd : Option ByteArray) (outc : List Int) : Prop:=match hd with
 | some h => i <= n /\ W = outc ++ chU (runC T H h (ss.drop i)) /\ h.size <= 60 * i
 | none => i = n + 1 /\ W = outc
variable {ss : List ByteArray} {n i : Nat} {W outc : List Int} {hh s : ByteArray} {hd : Option ByteArray}
theorem RelC.start : RelC T H ss n (chU (runC T H ⟨#[]⟩ ss)) 0 (some ⟨#[]⟩) []:=⟨Nat.zero_le _,rfl,Nat.le_refl _⟩
theorem RelC.step (h : RelC T H ss n W i (some hh) outc) (hT : GoodT T) (hi : i < n) (hs : ss[i]? = some s) (h60 : s.size <= 60) : RelC T H ss n W (i + 1) (some (stpC T H (hh ++ s)).2) (outc ++ chU (stpC T H (hh ++ s)).1):=by
 obtain ⟨h1,h2,h3⟩:=h;obtain ⟨hl,hs⟩:=List.getElem?_eq_some_iff.1 hs;rw [List.drop_eq_getElem_cons hl,hs,runC_cons hT] at h2;have h4:=(zb6 (H:=H) hT _ (hh ++ s) (Nat.le_refl _)).2;rw [ByteArray.size_append] at h4;exact ⟨hi,by rw [List.append_assoc]; exact h2,by omega⟩
theorem RelC.flush (h : RelC T H ss n W n (some hh) outc) (hl : ss.length = n) : RelC T H ss n W (n + 1) none (outc ++ chU (flsC hh)):=by
 obtain ⟨h1,h2,h3⟩:=h;rw [List.drop_of_length_le (by omega)] at h2;exact ⟨rfl,h2⟩
theorem RelC.le (h : RelC T H ss n W i hd outc) : outc.length <= W.length /\ ∀ x ∈ outc,x ∈ W:=by
 cases hd with
 | none => rw [h.2]; exact ⟨Nat.le_refl _,fun x hx => hx⟩
 | some hh => rw [h.2.1]; exact ⟨by rw [List.length_append]; omega,fun x hx => List.mem_append_left _ hx⟩
theorem RelC.some_of (h : RelC T H ss n W i hd outc) (hi : i <= n) : ∃ hh,hd = some hh:=by
 cases hd with
 | none => exact absurd h.1 (by omega)
 | some hh => exact ⟨hh,rfl⟩
theorem RelC.end_ (h : RelC T H ss n W (n + 1) hd outc) : outc = W:=by
 cases hd with
 | none => exact h.2.symm
 | some hh => exact absurd h.1 (by omega)
end
theorem zkt : (130 : TypeId) ≠ 21:=by decide
theorem zlr : (130 : TypeId) ≠ 97:=by decide
structure PartC (q : Nat) (v0 wr : World) (db wp c : Nat) (p : Option Addr) (f : Int) (vv : Value) (F : List (Option Nat × Value × List Int)) (hd : Option ByteArray) : Prop where
 fam : FamO q wr F
 bx : WBox wr wp vv p f false
 dt : ∀ h,hd = some h -> ∃ a,DecB wr db c 2 h a false
 hb : Below q v0 wr
 sz : q <= wr.heap.size
 le : q <= wp
 ld : q <= db
section
variable {q db wp c i : Nat} {v0 wr w' : World} {p : Option Addr} {f : Int} {vv v v' : Value} {F : List (Option Nat × Value × List Int)} {hd hd' : Option ByteArray} {G G' : Option Nat} {xs xs' : List Int} {h : ByteArray} {a : Int}
theorem PartC.below (h : PartC q v0 wr db wp c p f vv F hd) (hb : Below wr.heap.size wr w') : PartC q v0 w' db wp c p f vv F hd :=
 ⟨h.fam.below hb,zd h.bx hb,fun x hx => (by obtain ⟨a,ha⟩:=h.dt x hx; exact ⟨a,zd ha hb⟩),h.hb.trans (hb.mono h.sz),Nat.le_trans h.sz hb.size,h.le,h.ld⟩
theorem PartC.read (h : PartC q v0 wr db wp c p f vv F hd) {x : ByteArray} (hx : hd = some x) (hw : Wrote (fun k => k = db) wr w') (hd2 : ∀ y,hd' = some y -> ∃ a,DecB w' db c 2 y a false) : PartC q v0 w' db wp c p f vv F hd':=by
 obtain ⟨a,hD⟩:=h.dt x hx
 exact ⟨⟨fun i a ha => (h.fam.own i a ha).blk fun g hg => hw.block g ((h.fam.own i a ha).lt hg).2 fun e => (h.fam.own i a ha).not (g:=db) (by rw [<- e]; exact hg) hD zkt,h.fam.apart⟩,
  hw.blk h.bx fun e => zaz h.bx hD (Ne.symm zlr) e,hd2,h.hb.trans (hw.below (fun k e => by rw [e]; exact h.ld) h.sz),Nat.le_trans h.sz hw.size,h.le,h.ld⟩
theorem PartC.app (h : PartC q v0 wr db wp c p f vv F hd) (hi : F[i]? = some (G,v,xs)) (hown : OwnG q w' G' v' xs') (hg : wr.grownBy w' G) (hat : ∀ g,G' = some g -> G = some g \/ wr.heap.size <= g) : PartC q v0 w' db wp c p f vv (F.set i (G',v',xs')) hd :=
 ⟨h.fam.app hi hown hg hat,h.fam.boxg hi h.bx hg,fun x hx => (by
  obtain ⟨a,hD⟩:=h.dt x hx
  exact ⟨a,(hg.block db (za5 hD) fun e => (h.fam.own i _ hi).not e.symm hD zkt).trans hD⟩),h.hb.trans ((Below.refl q wr).grown hg h.sz fun j hj => ((h.fam.own i _ hi).lt hj).1),Nat.le_trans h.sz hg.size,h.le,h.ld⟩
theorem PartC.feed (h : PartC q v0 wr db wp c p f vv F hd) (hi : F[0]? = some (G,vv,xs)) (hw : Wrote (fun k => k = wp \/ G = some k) wr w') (hW : WrM q w' wp p f false G' v' xs') (hat : ∀ g,G' = some g -> wr.heap.size <= g) : PartC q v0 w' db wp c p f v' (F.set 0 (G',v',xs')) hd :=
 ⟨h.fam.fed hi h.bx hw hW hat,hW.box,fun x hx => (by
  obtain ⟨a,hD⟩:=h.dt x hx
  exact ⟨a,hw.blk hD fun e => e.elim (fun e => zaz hD h.bx zlr e) fun e => (h.fam.own 0 _ hi).not e hD zkt⟩),h.hb.trans (hw.below (fun j hj => hj.elim (fun e => by rw [e]; exact h.le) fun e => ((h.fam.own 0 _ hi).lt e).1) h.sz),Nat.le_trans h.sz hw.size,h.le,h.ld⟩
theorem PartC.w (h : PartC q v0 wr db wp c p f vv F hd) (hi : F[0]? = some (G,vv,xs)) : WrM q wr wp p f false G vv xs:=h.fam.wr hi h.bx h.le
end
theorem zl5 (x : ByteArray) (w : World) (A0 : Option Addr) (c0 : Nat) (h0 : Rd w A0 1 [.string x]) (hU : RowsU w) (hs : x.size <= 1073741824) (hv : zai (bs x) = true) :
  Calls Tryz.prog 20 #[.int .i64 1,.slice A0 1 c0] w fun e w' => (∃ A c A2 n2 c2,e = .returned (.tuple #[.slice A (chU (bs x)).length c,.slice A2 n2 c2,.int .i64 0]) /\ Rd w' A (chU (bs x)).length (Rs (chU (bs x)))) /\ Below w.heap.size w w' :=
 (zj6 A0 c0 x w h0 hU hs hv).mono fun e w' ⟨A,c,he,ho,hb⟩ => by
  obtain ⟨A',c',e1,_,_,hr⟩:=Rd.of_own ho;injection e1 with e1;subst e1;exact ⟨⟨A,c,none,0,0,he,hr⟩,hb⟩
end
end Go.Proofs.YtolcabjkbefjgaaGreatDoor
