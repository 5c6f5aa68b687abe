/- decomp.order: marks where they belong, in place: the code. What is read of bytes are characters, no more than there are bytes (plain). Arguments of TopForms, opened; the table of kinds of characters out of what lies there when the call begins. -/
import Derived.Test.YtolcabjkbefjgaaGreatDoorY30
set_option linter.unusedSimpArgs false
set_option linter.unusedVariables false
set_option maxRecDepth 20000
set_option maxHeartbeats 4000000
namespace Go.Proofs.YtolcabjkbefjgaaGreatDoor
section
open Go.RowKit Go.Sort
section
variable {w0 : World} {q : Nat} {p : Option Addr} {B : BaseF}
theorem ord_mem {l : List Int} {x : Int} (h : x ∈ B.ordR l) : x ∈ l:=by
 refine ((zha (B:=B) l).mem x).2 ?_;unfold BaseF.ord;exact List.mem_reverse.2 h
theorem order_any (HB : Hid (∀ W,Below q w0 W -> zac W (.pointer p) B)) (g off cap n : Nat) (xs : List Int) (hn : xs.length = n) (hx : ∀ x ∈ xs,R32 x) (w : World) (hb : Below q w0 w) (hq : q <= w.heap.size) (hg : q <= g) (hgl : g < w.heap.size) (hH : zaf w g off xs) (hn2 : n <= 20000000) :
  Calls Tryz.prog 88 #[.pointer p,.slice (some ⟨g,off,none⟩) n cap] w fun e w' => (∃ v,e = .returned v) /\ zaf w' g off (B.ord xs) /\ OrdW g w w':=by
 have HN:=hz0q hn;have HX:=hz0q hx;have CB : Hid (∀ W,OrdW g w W -> Below q w0 W):=fun W h => hb.trans (h.1.below (by rintro k rfl; exact hg) hq);have HS0 : Hid (zaf w g off ((B.ordR (xs.take 0)).reverse ++ xs.drop 0)):=hH;clear hn hx hb hH hq hg;go_enter Tryz.func88,Tryz.ntmps88;go_wp2
 go_loopw [10] (fun i wr => ∃ k : Nat,k <= n /\ i = .int .i64 k /\ Hid (zaf wr g off ((B.ordR (xs.take k)).reverse ++ xs.drop k)) /\ Hid (OrdW g w wr)) (fun i _ => n - (intOf i).toNat)
 case atStart => exact ⟨0,Nat.zero_le _,rfl,HS0,OrdW.refl _ _⟩
 case round =>
  obtain ⟨k,hk,rfl,HS,HW⟩:=hrel
  by_cases hlt : k < n
  ·obtain ⟨r,hr⟩ : ∃ r,xs[k]? = some r:=⟨_,List.getElem?_eq_getElem (by rw [HN.out]; exact hlt)⟩;obtain ⟨acc,hacc⟩ : ∃ acc,acc = B.ordR (xs.take k):=⟨_,rfl⟩;obtain ⟨rest,hrest⟩ : ∃ rest,rest = xs.drop (k + 1):=⟨_,rfl⟩
   have hdr : xs.drop k = r :: rest:=by
    rw [hrest];have hkl:=(List.getElem?_eq_some_iff.1 hr).1;rw [List.drop_eq_getElem_cons hkl,(List.getElem?_eq_some_iff.1 hr).2]
   have hal : acc.length = k:=(by rw [hacc,ordR_len,List.length_take]; have:=HN.out; omega);have HNX : Hid (B.ordR (xs.take (k + 1)) = B.ins acc r):=(by show _ = _; rw [ord_take_snoc hr,hacc]);have HR1 : Hid (xs.drop (k + 1) = rest):=hrest.symm;have hrR : R32 r:=HX.out r (List.mem_of_getElem? hr);have HAR : Hid (∀ x ∈ acc,R32 x):=fun x hx => HX.out x (List.mem_of_mem_take (ord_mem (B:=B) (by rw [<- hacc]; exact hx)))
   have HM : Hid (zaf wr g off (midL acc r rest)):=by
    have:=HS.out;rw [<- hacc,hdr] at this;exact this
   have c0:=(HM.out k r (by rw [<- hal]; exact zmx acc r rest)).1;have C1:=zcw (HB.out wr (CB.out wr HW.out)) r hrR;have hki : (k : Int) < (n : Int):=(by omega);have HAL:=hz0q hal;obtain ⟨cr,hcr⟩ : ∃ cr,cr = B.cls r:=⟨_,rfl⟩;rw [<- hcr] at C1;have HCR:=hz0q hcr;clear hr hacc hrest hdr hal hcr hrR HS;go_wp2_with fail;go_step3
   go_wp2_with fail;refine C1.mono ?_;rintro e w1 ⟨rfl,hb1⟩;have hW1 : Hid (OrdW g w w1):=HW.out.trans (.of_below hb1);have hM1 : Hid (zaf w1 g off (midL acc r rest)):=zau HM.out hb1;clear C1 c0 hb1
   by_cases hc0 : cr = 0
   ·have hcz : (cr == 0) = true:=by simpa using hc0
    have HN1 : Hid (zaf w1 g off ((B.ordR (xs.take (k + 1))).reverse ++ xs.drop (k + 1))):=by
     show zaf _ _ _ _;have h1:=hM1.out;rw [HNX.out,HR1.out,zlz (fun a t _ => .inl (by rw [<- HCR.out]; exact hc0))];simpa [midL] using h1
    clear hc0;go_wp2;(first | rw [Exit.noGoto_exit] | simp only [Exit.noGoto])
    go_wp2;go_roundw
    case rel => exact ⟨k + 1,by omega,by go_num,HN1,hW1⟩
    case measure => simp [intOf]; omega
   ·have hcz : (cr == 0) = false:=(by simpa using hc0);have HC0 : Hid (B.cls r ≠ 0):=(by show _ ≠ _; rw [<- HCR.out]; exact hc0);clear hc0;go_wp2;go_step3
    go_wp2
    go_loopw [7] (fun j w2 => ∃ (Q A : List Int),Hid (acc = Q ++ A) /\ j = .int .i64 A.length /\ A.length <= k /\ Hid (∀ x ∈ Q,B.cls r < B.cls x) /\ Hid (zaf w2 g off (midL A r (Q.reverse ++ rest))) /\ Hid (OrdW g w w2)) (fun j _ => (intOf j).toNat)
    case atStart => exact ⟨[],acc,rfl,by rw [HAL.out],by rw [HAL.out]; exact Nat.le_refl _,fun x h => (by cases h),hM1,hW1⟩
    case round =>
     obtain ⟨Q,A,HQ,rfl,hAk,HLT,HMA,HWA⟩:=hrel
     have HEND : Hid ((∀ a t,A = a :: t -> B.cls r = 0 \/ B.cls a <= B.cls r) -> ∀ W,zaf W g off (midL A r (Q.reverse ++ rest)) -> zaf W g off ((B.ordR (xs.take (k + 1))).reverse ++ xs.drop (k + 1))):=fun h W hW => by
      rw [HNX.out,HR1.out,HQ.out,zly HC0.out A HLT.out,zlz h];simpa [midL] using hW
     have HML : Hid ((midL A r (Q.reverse ++ rest)).length = n):=by
      show _ = _;have h1:=HAL.out;have h2:=congrArg List.length HR1.out;have h3:=HN.out;rw [HQ.out,List.length_append] at h1;rw [List.length_drop] at h2;rw [midL_len,List.length_append,List.length_reverse];omega
     cases A with
     | nil =>
      have HN1 : Hid (zaf wr g off ((B.ordR (xs.take (k + 1))).reverse ++ xs.drop (k + 1))):=HEND.out (fun a t h => (by cases h)) _ HMA.out;simp only [List.length_nil] at hAk ⊢;go_wp2;(try first | rw [Exit.noGoto_exit] | simp only [Exit.noGoto])
      go_wp2;go_roundw
      case rel => exact ⟨k + 1,by omega,by go_num,HN1,HWA⟩
      case measure => simp [intOf]; omega
     | cons a A =>
      obtain ⟨t,ht⟩ : ∃ t,t = A.length:=⟨_,rfl⟩;have hl1 : (a :: A).length = t + 1:=(by rw [ht]; rfl);rw [hl1] at hAk ⊢;obtain ⟨G,hG⟩ : ∃ G : Nat -> Int,∀ i,G i = (midL (a :: A) r (Q.reverse ++ rest)).getD i 0:=⟨fun i => _,fun _ => rfl⟩;have hGa : G t = a:=(by rw [hG,List.getD_eq_getElem?_getD,ht,midL_ahead]; rfl);have hGr : G (t + 1) = r:=by rw [hG,List.getD_eq_getElem?_getD,<- hl1,zmx]; rfl
      have FAM : ∀ W,zaf W g off (midL (a :: A) r (Q.reverse ++ rest)) -> (∀ i,i < n -> W.cell? ⟨g,off + i,none⟩ = some (.int .i32 (G i))) /\ ∀ i,i < n -> W.frozen? ⟨g,off + i,none⟩ = false:=fun W hW => by
       have key : ∀ i,i < n -> W.cell? ⟨g,off + i,none⟩ = some (.int .i32 (G i)) /\ W.frozen? ⟨g,off + i,none⟩ = false:=fun i hi => by
        have h1:=List.getElem?_eq_getElem (l:=midL (a :: A) r (Q.reverse ++ rest)) (i:=i) (by rw [HML.out]; exact hi);rw [hG,List.getD_eq_getElem?_getD,h1];exact hW i _ h1
       exact ⟨fun i hi => (key i hi).1,fun i hi => (key i hi).2⟩
      obtain ⟨hcw,hfw⟩:=FAM _ HMA.out;have HF:=hz0q FAM;have HT:=hz0q ht;have haR : R32 (G t):=(by rw [hGa]; exact HAR.out a (by rw [HQ.out]; simp));have C2:=zcw (HB.out wr (CB.out wr HWA.out)) (G t) haR;have HGA:=hz0q hGa;have HGR:=hz0q hGr;obtain ⟨ca,hca⟩ : ∃ ca,ca = B.cls (G t):=⟨_,rfl⟩;rw [<- hca] at C2;have HCA:=hz0q hca;have htn : t + 1 < n:=(by omega);clear hG hGa hGr FAM ht hl1 haR hca;go_wp2_with fail;refine C2.mono ?_;rintro e w3 ⟨rfl,hb3⟩;have hW3 : Hid (OrdW g w w3):=HWA.out.trans (.of_below hb3);have hM3 : Hid (zaf w3 g off (midL (a :: A) r (Q.reverse ++ rest))):=zau HMA.out hb3;obtain ⟨hcw,hfw⟩:=HF.out _ hM3.out;clear C2 hb3
      by_cases hle : ca <= cr
      ·have HN1 : Hid (zaf w3 g off ((B.ordR (xs.take (k + 1))).reverse ++ xs.drop (k + 1))):=HEND.out (fun a' t' h => by injection h with h1 _; subst h1; rw [<- HGA.out,<- HCA.out,<- HCR.out]; exact .inr hle) _ hM3.out;clear hcw hfw;go_wp2;(try first | rw [Exit.noGoto_exit] | simp only [Exit.noGoto])
       go_wp2;go_roundw
       case rel => exact ⟨k + 1,by omega,by go_num,HN1,hW3⟩
       case measure => simp [intOf]; omega
      ·have hdr : ∀ X : World,Below X.heap.size X X.drew:=fun X => Drew.to ⟨1,rfl⟩
       have hSW : Hid (zaf ((w3.setCell ⟨g,off + t,none⟩ (.int .i32 (G (t + 1)))).setCell ⟨g,off + (t + 1),none⟩ (.int .i32 (G t))).drew g off (midL A r ((Q ++ [a]).reverse ++ rest))):=by
        show zaf _ _ _ _;have h1:=zfc (zfc hM3.out t (G (t + 1)) (by rw [HML.out]; omega)) (t + 1) (G t) (by rw [List.length_set,HML.out]; omega)
        have h2 : ((midL (a :: A) r (Q.reverse ++ rest)).set t (G (t + 1))).set (t + 1) (G t) = midL A r ((Q ++ [a]).reverse ++ rest):=by
         rw [HGR.out,HGA.out,HT.out,midL_swap];simp
        rw [h2] at h1;exact zau h1 (hdr _)
       have hWW : Hid (OrdW g w ((w3.setCell ⟨g,off + t,none⟩ (.int .i32 (G (t + 1)))).setCell ⟨g,off + (t + 1),none⟩ (.int .i32 (G t))).drew) :=
        ((hW3.out.trans (OrdW.setCell _ _ _)).trans (OrdW.setCell _ _ _)).trans (.of_below (hdr _))
       have hQA : Hid (acc = (Q ++ [a]) ++ A):=by show _ = _; rw [HQ.out]; simp
       have hQL : Hid (∀ x ∈ Q ++ [a],B.cls r < B.cls x):=fun x hx => by
        rcases List.mem_append.1 hx with hx | hx
        ·exact HLT.out x hx
        ·rw [List.mem_singleton] at hx;rw [hx,<- HGA.out,<- HCA.out,<- HCR.out];omega
       clear hdr;go_wp2
       go_region
       all_goals go_wp2
       go_roundw
       case rel => exact ⟨Q ++ [a],A,hQA,by rw [HT.out],by have:=HT.out; omega,hQL,hSW,hWW⟩
       case measure => simp [intOf]
  ·obtain rfl : k = n:=(by omega);have hki : (k : Int) <= (k : Int):=Int.le_refl _;go_wp2;go_end0;have h1:=HS.out;rw [List.take_of_length_le (by rw [HN.out]; exact Nat.le_refl _),List.drop_eq_nil_of_le (by rw [HN.out]; exact Nat.le_refl _),List.append_nil] at h1;exact ⟨⟨_,rfl⟩,h1,HW.out⟩
end
end
section
open Go.RowKit Go.Lib
def NxR (nx : Nx) : Prop:=∀ s,(nx s).2.2 = 0 -> 0 <= (nx s).1 /\ (nx s).1 <= 16777216
theorem znk (many : Nat) : ∀ (t : List UInt8) (n : Nat) (x : Int) (ft : Nat × Nat) (M : Nat),0 <= x -> (x + 1) * (64 : Int) ^ (many - n) <= M -> (tailU many n x ft t).2.2 = 0 -> 0 <= (tailU many n x ft t).1 /\ (tailU many n x ft t).1 < M
 | [],n,x,ft,M,hx,hM,h => by
  unfold tailU at h ⊢;split
  ·rename_i hm;rw [Nat.sub_eq_zero_of_le hm] at hM;simp only [Int.pow_zero,Int.mul_one] at hM;exact ⟨hx,by show x < M; omega⟩
  ·rename_i hm; rw [if_neg hm] at h; cases h
 | c :: t,n,x,ft,M,hx,hM,h => by
  unfold tailU at h ⊢;split
  ·rename_i hm;rw [Nat.sub_eq_zero_of_le hm] at hM;simp only [Int.pow_zero,Int.mul_one] at hM;exact ⟨hx,by show x < M; omega⟩
  ·rename_i hm;rw [if_neg hm] at h;split
   ·rename_i hc; rw [if_pos hc] at h; cases h
   ·rename_i hc;rw [if_neg hc] at h;refine znk many t (n + 1) _ _ M (by omega) ?_ h;have e : many - n = many - (n + 1) + 1:=(by omega);rw [e,Int.pow_succ] at hM;have h64 : (x * 64 + (c.toNat : Int) % 64 + 1) <= (x + 1) * 64:=(by omega);have hp : (0 : Int) <= 64 ^ (many - (n + 1)):=Int.pow_nonneg (by omega)
    calc (x * 64 + (c.toNat : Int) % 64 + 1) * 64 ^ (many - (n + 1)) <= (x + 1) * 64 * 64 ^ (many - (n + 1)):=Int.mul_le_mul_of_nonneg_right h64 hp
     _ = (x + 1) * (64 ^ (many - (n + 1)) * 64):=by rw [Int.mul_assoc,Int.mul_comm 64]
     _ <= M:=hM
theorem nextU_R : NxR nextU:=by
 intro s h
 cases s with
 | nil => cases h
 | cons b t =>
  rw [zbm] at h ⊢;split
  ·rename_i hc; rw [if_pos hc] at h; cases h
  ·rename_i hc;rw [if_neg hc] at h;have hb:=b.toNat_lt
   have key : 0 <= (leadU b).2 /\ ((leadU b).2 + 1) * (64 : Int) ^ ((leadU b).1 - 1) <= (16777216 : Nat):=by
    unfold leadU;split
    ·simp; omega
    split
    ·simp; omega
    split
    ·simp; omega
    split
    ·simp; omega
    ·simp
   have:=znk _ t 1 _ (za1 b) 16777216 key.1 key.2 h;exact ⟨this.1,by omega⟩
theorem rdF_R {nx : Nx} (h : NxR nx) (p : Int) : ∀ (k : Nat) (s : List UInt8),∀ x ∈ (rdF nx p k s).1,R32 x
 | 0,s,x,hx => by cases hx
 | k + 1,s,x,hx => by
  unfold rdF at hx;split at hx
  ·cases hx
  ·split at hx
   ·cases hx
   ·rcases List.mem_append.1 hx with hx | hx
    ·unfold putN at hx;split at hx
     ·rename_i h0;have : x = (nx s).1:=(by simpa using hx);have h1:=h s h0;rw [this]; unfold R32; omega
     ·split at hx
      ·have : x = 65533:=(by simpa using hx);rw [this]; unfold R32; omega
      ·cases hx
    ·exact rdF_R h p k _ x hx
end
section
open Go.ChangeShapes Go.WideShapes Go.ChangeAt Go.RowKit Go.Lib
theorem zni : Tryz.prog.cellsOf 3 = 1:=by kernel_rfl
theorem znl : Tryz.prog.cellsOf 9 = 1:=by kernel_rfl
theorem open_strs {H : Type} {enc : TypeId × Value -> H} {W : World} {base : Nat} {sp : Nat -> Bool} {held : Bool} {A : Option Addr} {n c : Nat} {d : DataW H} {p : List MemPlace}
  (h : DataW.Trod enc Tryz.prog W base sp held 28 (.slice A n c) d p) : ∃ ss,ArgSS W A n ss:=by
 obtain ⟨fuel,hf⟩:=h;rcases open_strings Tryz.underlying28 Tryz.underlying9 znl hf with ⟨hcs,_⟩ | ⟨a,len,cap,ss,hcs,_,hl,hm,hz,_,hcell,_⟩
 ·have hcs : [Value.slice A n c] = [.slice none 0 0]:=hcs;injection hcs with hcs _;injection hcs with e1 e2 e3;subst e1 e2 e3;exact ⟨[],rfl,Nat.zero_le _,Rd.nil _ _⟩
 ·have hcs : [Value.slice A n c] = [.slice (some a) len cap]:=hcs;injection hcs with hcs _;injection hcs with e1 e2 e3;subst e1 e2 e3;have hlz : n <= ss.length:=(by rw [hz]; split <;> omega);refine ⟨ss.take n,by simp; omega,Nat.le_trans hl hm,by simp; omega,fun hn => ?_⟩;obtain ⟨b,off,spot⟩:=a;have hc:=hcell 0 (by omega);have hspot : spot = none:=(by simpa [Addr.add] using World.cell?_spot hc);subst hspot;refine ⟨b,off,rfl,fun j u hu => ?_⟩;rw [List.getElem?_map] at hu;obtain ⟨y,hy,rfl⟩:=Option.map_eq_some_iff.1 hu;rw [List.getElem?_take] at hy;split at hy
  ·have hjl : j < ss.length:=(List.getElem?_eq_some_iff.1 hy).1;have:=hcell j hjl;rw [Addr.add_lit] at this;rw [this];simp [List.getD,hy]
  ·cases hy
theorem rws_g : Tryz.prog.globalNamed "inkhorn/utf8.rows" = some 0:=by kernel_rfl
theorem rws_t : (Tryz.prog.globals[0]?).map (·.type) = some 223:=by kernel_rfl
theorem rws_c4 : Tryz.prog.cellsOf 223 = 12:=by kernel_rfl
theorem znn : Tryz.prog.cellsOf 222 = 3:=by kernel_rfl
theorem rws_ci : Tryz.prog.cellsOf 21 = 1:=by kernel_rfl
theorem zdr {w : World} {fuel : Nat} {cs : List Value} {x : DataW Unit × List MemPlace} {a b c : Int}
  (h : DataW.trod (fun _ => ()) Tryz.prog w 0 (fun _ => true) false fuel 222 cs = some x) (hx : x.1 = .agg [.lit (.int .i32 a),.lit (.int .i64 b),.lit (.int .i64 c)]) : cs = [.int .i32 a,.int .i64 b,.int .i64 c]:=by
 obtain ⟨y0,y1,y2,n,rfl,hl,h0,h1,h2⟩:=Go.Deep.trod_struct3 Tryz.underlying222 h;rw [znn] at hl;match cs,hl with
 | [c0,c1,c2],_ =>
  obtain ⟨n0,e0,r0,_⟩:=DataW.trod_int Tryz.underlying21 (show DataW.trod _ _ _ _ _ _ n 21 (([c0,c1,c2].drop 0).take (Tryz.prog.cellsOf 21)) = some y0 from h0);obtain ⟨n1,e1,r1,_⟩:=DataW.trod_int Tryz.underlying3 (show DataW.trod _ _ _ _ _ _ n 3 (([c0,c1,c2].drop 1).take (Tryz.prog.cellsOf 3)) = some y1 from h1);obtain ⟨n2,e2,r2,_⟩:=DataW.trod_int Tryz.underlying3 (show DataW.trod _ _ _ _ _ _ n 3 (([c0,c1,c2].drop 2).take (Tryz.prog.cellsOf 3)) = some y2 from h2);rw [rws_ci] at e0;rw [zni] at e1 e2;simp at e0 e1 e2;subst e0 e1 e2 r0 r1 r2;simp at hx;rw [hx.1,hx.2.1,hx.2.2]
theorem rows_of_laid {W : World} {a b : String × DataW Unit} {rest : List (String × DataW Unit)} (h : laidMet Tryz.prog (a :: b :: ("inkhorn/utf8.rows",Rows.laid_inkhorn_utf8_rows) :: rest) W) : RowsU W:=by
 obtain ⟨ps,⟨_,_,_,_,_,_,_,_,_,_,⟨_,_,_,_,_,_,_,_,_,_,⟨g,t,cs,fuel,p,q,hg,ht,hvar,hd,_,_⟩,_⟩,_⟩,_⟩:=h;obtain rfl:=Option.some.inj (rws_g.symm.trans hg);obtain rfl:=Option.some.inj (rws_t.symm.trans ht);obtain ⟨l⟩:=cs;obtain ⟨xs,m,_,hx,hl,hlen,hi⟩:=DataW.trod_array Tryz.underlying223 hd;rw [rws_c4] at hl;simp only [znn] at hi;match xs,hlen with
 | [x0,x1,x2,x3],_ =>
  have i0:=hi 0 (by omega);have i1:=hi 1 (by omega);have i2:=hi 2 (by omega);have i3:=hi 3 (by omega);match l,hl with
  | [a0,a1,a2,b0,b1,b2,c0,c1,c2,d0,d1,d2],_ =>
   simp at i0 i1 i2 i3;simp only [Prod.mk.injEq,Rows.laid_inkhorn_utf8_rows,DataW.agg.injEq,List.map_cons,List.map_nil,List.cons.injEq,and_true] at hx;obtain ⟨⟨h0,h1,h2,h3⟩,_⟩:=hx;have j0:=zdr i0 h0.symm;have j1:=zdr i1 h1.symm;have j2:=zdr i2 h2.symm;have j3:=zdr i3 h3.symm;simp at j0 j1 j2 j3;obtain ⟨rfl,rfl,rfl⟩:=j0;obtain ⟨rfl,rfl,rfl⟩:=j1;obtain ⟨rfl,rfl,rfl⟩:=j2;obtain ⟨rfl,rfl,rfl⟩:=j3;exact ⟨World.var?_cell hg hvar 0,World.var?_cell hg hvar 1,World.var?_cell hg hvar 2,World.var?_cell hg hvar 3,World.var?_cell hg hvar 4,World.var?_cell hg hvar 5,World.var?_cell hg hvar 6,World.var?_cell hg hvar 7,World.var?_cell hg hvar 8,World.var?_cell hg hvar 9,World.var?_cell hg hvar 10,World.var?_cell hg hvar 11⟩
end
end Go.Proofs.YtolcabjkbefjgaaGreatDoor
