/- The example of the chapter on what is told at once: true. decomp.order: marks where they belong, in place: the code. One character more, as the code joins: the code. -/
import Derived.Test.YtfdelmodmadoaaaGreatDoorY34
set_option linter.unusedSimpArgs false
set_option linter.unusedVariables false
set_option maxRecDepth 20000
set_option maxHeartbeats 4000000
namespace Go.Proofs.YtfdelmodmadoaaaGreatDoor
section
open Go.RowKit Go.Lib Go.Maps
def awBS : ByteArray := ⟨#[48, 48, 67, 48, 59, 65, 59, 76, 117, 59, 48, 59, 59, 48, 48, 52, 49, 32, 48, 51, 48, 48, 10, 48, 51, 48, 48, 59, 77, 59, 77, 110, 59, 50, 51, 48, 59, 59]⟩
def awBR : List RowS := [⟨192, 192, [65], [76, 117], 0, [], [65, 768]⟩, ⟨768, 768, [77], [77, 110], 230, [], []⟩]
theorem zmu : rowsS (bs awBS) = (awBR, 0, 0) := by kernel_rfl
theorem znw : newB awBR [] 2 = true := by kernel_rfl
theorem awB_g : RowsG awBR := by have := zlr (bs awBS); rw [zmu] at this; exact this
noncomputable def awBB : BaseF := baseF awB_g (zlf znw)
theorem awB_one {c : Bool} {r : Int} {l : List Int} (h : endsN (fun x => (decH (prtL awBR) x).2) 1 r = true) (hl : oneN (decH (prtL awBR)) c 2 r = l) : awBB.full c [r] = awBB.ord l := by
 have e := znl (B := awBB) (c := c) (n := 1) (l := [r]) (fun x hx => by rw [List.mem_singleton] at hx; rw [hx]; exact h);rw [e];congr 1;show [r].flatMap (oneN (decH (prtL awBR)) c 2) = l;rw [List.flatMap_cons, List.flatMap_nil, List.append_nil, hl]
theorem zoe : awBB.full false [66] = [66] := (awB_one (l := [66]) (by kernel_rfl) (by kernel_rfl)).trans (by kernel_rfl)
theorem awB_sec66 : awBB.sec 66 = false := by kernel_rfl
theorem awB_cls66 : awBB.cls 66 = 0 := by kernel_rfl
end
section
open Go.RowKit Go.Sort
section
variable {w0 : World} {q : Nat} {p : Option Addr} {B : BaseF}
theorem ord_mem {l : List Int} {x : Int} (h : x ∈ B.ordR l) : x ∈ l := by
 refine ((zhn (B := B) l).mem x).2 ?_;unfold BaseF.ord;exact List.mem_reverse.2 h
theorem order_any (HB : Hid (∀ W, Below q w0 W -> zax W (.pointer p) B)) (g off cap n : Nat) (xs : List Int) (hn : xs.length = n) (hx : ∀ x ∈ xs, R32 x) (w : World) (hb : Below q w0 w) (hq : q <= w.heap.size) (hg : q <= g) (hgl : g < w.heap.size) (hH : za5 w g off xs) (hn2 : n <= 1000000) :
  Calls Tryz.prog 87 #[.pointer p, .slice (some ⟨g, off, none⟩) n cap] w fun e w' => (∃ v, e = .returned v) /\ za5 w' g off (B.ord xs) /\ OrdW g w w' := by
 have HN := hz0q hn;have HX := hz0q hx;have CB : Hid (∀ W, OrdW g w W -> Below q w0 W) := fun W h => hb.trans (h.1.below (by rintro k rfl; exact hg) hq);have HS0 : Hid (za5 w g off ((B.ordR (xs.take 0)).reverse ++ xs.drop 0)) := hH;clear hn hx hb hH hq hg;go_enter Tryz.func87, Tryz.ntmps87;go_wp2
 go_loopw [10] (fun i wr => ∃ k : Nat, k <= n /\ i = .int .i64 k /\ Hid (za5 wr g off ((B.ordR (xs.take k)).reverse ++ xs.drop k)) /\ Hid (OrdW g w wr)) (fun i _ => n - (intOf i).toNat)
 case atStart => exact ⟨0, Nat.zero_le _, rfl, HS0, OrdW.refl _ _⟩
 case round =>
  obtain ⟨k, hk, rfl, HS, HW⟩ := hrel
  by_cases hlt : k < n
  ·obtain ⟨r, hr⟩ : ∃ r, xs[k]? = some r := ⟨_, List.getElem?_eq_getElem (by rw [HN.out]; exact hlt)⟩;obtain ⟨acc, hacc⟩ : ∃ acc, acc = B.ordR (xs.take k) := ⟨_, rfl⟩;obtain ⟨rest, hrest⟩ : ∃ rest, rest = xs.drop (k + 1) := ⟨_, rfl⟩
   have hdr : xs.drop k = r :: rest := by
    rw [hrest];have hkl := (List.getElem?_eq_some_iff.1 hr).1;rw [List.drop_eq_getElem_cons hkl, (List.getElem?_eq_some_iff.1 hr).2]
   have hal : acc.length = k := (by rw [hacc, ordR_len, List.length_take]; have := HN.out; omega);have HNX : Hid (B.ordR (xs.take (k + 1)) = B.ins acc r) := (by show _ = _; rw [ord_take_snoc hr, hacc]);have HR1 : Hid (xs.drop (k + 1) = rest) := hrest.symm;have hrR : R32 r := HX.out r (List.mem_of_getElem? hr);have HAR : Hid (∀ x ∈ acc, R32 x) := fun x hx => HX.out x (List.mem_of_mem_take (ord_mem (B := B) (by rw [<- hacc]; exact hx)))
   have HM : Hid (za5 wr g off (midL acc r rest)) := by
    have := HS.out;rw [<- hacc, hdr] at this;exact this
   have c0 := (HM.out k r (by rw [<- hal]; exact znc acc r rest)).1;have C1 := zd6 (HB.out wr (CB.out wr HW.out)) r hrR;have hki : (k : Int) < (n : Int) := (by omega);have HAL := hz0q hal;obtain ⟨cr, hcr⟩ : ∃ cr, cr = B.cls r := ⟨_, rfl⟩;rw [<- hcr] at C1;have HCR := hz0q hcr;clear hr hacc hrest hdr hal hcr hrR HS;go_wp2_with fail;go_step3
   go_wp2_with fail;refine C1.mono ?_;rintro e w1 ⟨rfl, hb1⟩;have hW1 : Hid (OrdW g w w1) := HW.out.trans (.of_below hb1);have hM1 : Hid (za5 w1 g off (midL acc r rest)) := zds HM.out hb1;clear C1 c0 hb1
   by_cases hc0 : cr = 0
   ·have hcz : (cr == 0) = true := by simpa using hc0
    have HN1 : Hid (za5 w1 g off ((B.ordR (xs.take (k + 1))).reverse ++ xs.drop (k + 1))) := by
     show za5 _ _ _ _;have h1 := hM1.out;rw [HNX.out, HR1.out, zmi (fun a t _ => .inl (by rw [<- HCR.out]; exact hc0))];simpa [midL] using h1
    clear hc0;go_wp2;(first | rw [Exit.noGoto_exit] | simp only [Exit.noGoto])
    go_wp2;go_roundw
    case rel => exact ⟨k + 1, by omega, by go_num, HN1, hW1⟩
    case measure => simp [intOf]; omega
   ·have hcz : (cr == 0) = false := (by simpa using hc0);have HC0 : Hid (B.cls r ≠ 0) := (by show _ ≠ _; rw [<- HCR.out]; exact hc0);clear hc0;go_wp2;go_step3
    go_wp2
    go_loopw [7] (fun j w2 => ∃ (Q A : List Int), Hid (acc = Q ++ A) /\ j = .int .i64 A.length /\ A.length <= k /\ Hid (∀ x ∈ Q, B.cls r < B.cls x) /\ Hid (za5 w2 g off (midL A r (Q.reverse ++ rest))) /\ Hid (OrdW g w w2)) (fun j _ => (intOf j).toNat)
    case atStart => exact ⟨[], acc, rfl, by rw [HAL.out], by rw [HAL.out]; exact Nat.le_refl _, fun x h => (by cases h), hM1, hW1⟩
    case round =>
     obtain ⟨Q, A, HQ, rfl, hAk, HLT, HMA, HWA⟩ := hrel
     have HEND : Hid ((∀ a t, A = a :: t -> B.cls r = 0 \/ B.cls a <= B.cls r) -> ∀ W, za5 W g off (midL A r (Q.reverse ++ rest)) -> za5 W g off ((B.ordR (xs.take (k + 1))).reverse ++ xs.drop (k + 1))) := fun h W hW => by
      rw [HNX.out, HR1.out, HQ.out, zmh HC0.out A HLT.out, zmi h];simpa [midL] using hW
     have HML : Hid ((midL A r (Q.reverse ++ rest)).length = n) := by
      show _ = _;have h1 := HAL.out;have h2 := congrArg List.length HR1.out;have h3 := HN.out;rw [HQ.out, List.length_append] at h1;rw [List.length_drop] at h2;rw [midL_len, List.length_append, List.length_reverse];omega
     cases A with
     | nil =>
      have HN1 : Hid (za5 wr g off ((B.ordR (xs.take (k + 1))).reverse ++ xs.drop (k + 1))) := HEND.out (fun a t h => (by cases h)) _ HMA.out;simp only [List.length_nil] at hAk ⊢;go_wp2;(try first | rw [Exit.noGoto_exit] | simp only [Exit.noGoto])
      go_wp2;go_roundw
      case rel => exact ⟨k + 1, by omega, by go_num, HN1, HWA⟩
      case measure => simp [intOf]; omega
     | cons a A =>
      obtain ⟨t, ht⟩ : ∃ t, t = A.length := ⟨_, rfl⟩;have hl1 : (a :: A).length = t + 1 := (by rw [ht]; rfl);rw [hl1] at hAk ⊢;obtain ⟨G, hG⟩ : ∃ G : Nat -> Int, ∀ i, G i = (midL (a :: A) r (Q.reverse ++ rest)).getD i 0 := ⟨fun i => _, fun _ => rfl⟩;have hGa : G t = a := (by rw [hG, List.getD_eq_getElem?_getD, ht, midL_ahead]; rfl);have hGr : G (t + 1) = r := by rw [hG, List.getD_eq_getElem?_getD, <- hl1, znc]; rfl
      have FAM : ∀ W, za5 W g off (midL (a :: A) r (Q.reverse ++ rest)) -> (∀ i, i < n -> W.cell? ⟨g, off + i, none⟩ = some (.int .i32 (G i))) /\ ∀ i, i < n -> W.frozen? ⟨g, off + i, none⟩ = false := fun W hW => by
       have key : ∀ i, i < n -> W.cell? ⟨g, off + i, none⟩ = some (.int .i32 (G i)) /\ W.frozen? ⟨g, off + i, none⟩ = false := fun i hi => by
        have h1 := List.getElem?_eq_getElem (l := midL (a :: A) r (Q.reverse ++ rest)) (i := i) (by rw [HML.out]; exact hi);rw [hG, List.getD_eq_getElem?_getD, h1];exact hW i _ h1
       exact ⟨fun i hi => (key i hi).1, fun i hi => (key i hi).2⟩
      obtain ⟨hcw, hfw⟩ := FAM _ HMA.out;have HF := hz0q FAM;have HT := hz0q ht;have haR : R32 (G t) := (by rw [hGa]; exact HAR.out a (by rw [HQ.out]; simp));have C2 := zd6 (HB.out wr (CB.out wr HWA.out)) (G t) haR;have HGA := hz0q hGa;have HGR := hz0q hGr;obtain ⟨ca, hca⟩ : ∃ ca, ca = B.cls (G t) := ⟨_, rfl⟩;rw [<- hca] at C2;have HCA := hz0q hca;have htn : t + 1 < n := (by omega);clear hG hGa hGr FAM ht hl1 haR hca;go_wp2_with fail;refine C2.mono ?_;rintro e w3 ⟨rfl, hb3⟩;have hW3 : Hid (OrdW g w w3) := HWA.out.trans (.of_below hb3);have hM3 : Hid (za5 w3 g off (midL (a :: A) r (Q.reverse ++ rest))) := zds HMA.out hb3;obtain ⟨hcw, hfw⟩ := HF.out _ hM3.out;clear C2 hb3
      by_cases hle : ca <= cr
      ·have HN1 : Hid (za5 w3 g off ((B.ordR (xs.take (k + 1))).reverse ++ xs.drop (k + 1))) := HEND.out (fun a' t' h => by injection h with h1 _; subst h1; rw [<- HGA.out, <- HCA.out, <- HCR.out]; exact .inr hle) _ hM3.out;clear hcw hfw;go_wp2;(try first | rw [Exit.noGoto_exit] | simp only [Exit.noGoto])
       go_wp2;go_roundw
       case rel => exact ⟨k + 1, by omega, by go_num, HN1, hW3⟩
       case measure => simp [intOf]; omega
      ·have hdr : ∀ X : World, Below X.heap.size X X.drew := fun X => Drew.to ⟨1, rfl⟩
       have hSW : Hid (za5 ((w3.setCell ⟨g, off + t, none⟩ (.int .i32 (G (t + 1)))).setCell ⟨g, off + (t + 1), none⟩ (.int .i32 (G t))).drew g off (midL A r ((Q ++ [a]).reverse ++ rest))) := by
        show za5 _ _ _ _;have h1 := zd3 (zd3 hM3.out t (G (t + 1)) (by rw [HML.out]; omega)) (t + 1) (G t) (by rw [List.length_set, HML.out]; omega)
        have h2 : ((midL (a :: A) r (Q.reverse ++ rest)).set t (G (t + 1))).set (t + 1) (G t) = midL A r ((Q ++ [a]).reverse ++ rest) := by
         rw [HGR.out, HGA.out, HT.out, midL_swap];simp
        rw [h2] at h1;exact zds h1 (hdr _)
       have hWW : Hid (OrdW g w ((w3.setCell ⟨g, off + t, none⟩ (.int .i32 (G (t + 1)))).setCell ⟨g, off + (t + 1), none⟩ (.int .i32 (G t))).drew) :=
        ((hW3.out.trans (OrdW.setCell _ _ _)).trans (OrdW.setCell _ _ _)).trans (.of_below (hdr _))
       have hQA : Hid (acc = (Q ++ [a]) ++ A) := by show _ = _; rw [HQ.out]; simp
       have hQL : Hid (∀ x ∈ Q ++ [a], B.cls r < B.cls x) := fun x hx => by
        rcases List.mem_append.1 hx with hx | hx
        ·exact HLT.out x hx
        ·rw [List.mem_singleton] at hx;rw [hx, <- HGA.out, <- HCA.out, <- HCR.out];omega
       clear hdr;go_wp2
       go_region
       all_goals go_wp2
       go_roundw
       case rel => exact ⟨Q ++ [a], A, hQA, by rw [HT.out], by have := HT.out; omega, hQL, hSW, hWW⟩
       case measure => simp [intOf]
  ·obtain rfl : k = n := (by omega);have hki : (k : Int) <= (k : Int) := Int.le_refl _;go_wp2;go_end0;have h1 := HS.out;rw [List.take_of_length_le (by rw [HN.out]; exact Nat.le_refl _), List.drop_eq_nil_of_le (by rw [HN.out]; exact Nat.le_refl _), List.append_nil] at h1;exact ⟨⟨_, rfl⟩, h1, HW.out⟩
end
end
section
open Go.RowKit Go.Sort
section
variable {w0 : World} {q tp c : Nat} {p : Option Addr} {B : BaseF}
def PutP (B : BaseF) (w0 : World) (q tp : Nat) (p : Option Addr) (s : JS) (w' : World) : Prop :=
 Below q w0 w' /\ ∃ l A c hd last, TextM q w' tp (.pointer p) l A c hd last /\ PutAt B s l hd last
theorem put_any (HB : Hid (∀ W, Below q w0 W -> zax W (.pointer p) B)) (HK : Hid (∀ W, Below q w0 W -> Kinds W)) (hbd : zan B) (s : JS) (l : List Int) (A : Option Addr) (hd last r : Int) (w : World) (hb : Below q w0 w) (hq : q <= w.heap.size)
  (h : TextM q w tp (.pointer p) l A c hd last) (hp : PutAt B s l hd last) (hl : ∀ x ∈ l, R32 x) (hr : R32 r) (hn : l.length <= 1000000) :
  Calls Tryz.prog 88 #[.pointer (some ⟨tp, 0, none⟩), .int .i32 r] w fun e w' => (∃ v, e = .returned v) /\ PutP B w0 q tp p (B.step s r) w' := by
 have C1 := zd6 (HB.out w hb) r hr;have HT := hz0q h;have HP := hz0q hp;have HL := hz0q hl;have HR := hz0q hr;have HBD := hz0q hbd;have HBW := hz0q hb;have HQ := hz0q hq;have b0 := za h.box 0 rfl;obtain ⟨cl, hcl⟩ : ∃ cl, cl = B.cls r := ⟨_, rfl⟩;have hcl0 : 0 <= cl := (by rw [hcl]; exact B.cls0 r);rw [<- hcl] at C1;have HCL := hz0q hcl;obtain ⟨L, hL⟩ : ∃ L, L = l.length := ⟨_, rfl⟩;have HLL := hz0q hL;clear h hl hr hbd hb hq hcl hp;go_enter Tryz.func88, Tryz.ntmps88;go_wp2_with fail;refine C1.mono ?_;rintro e w1 ⟨rfl, hb1⟩;have HT1 := hz0q (HT.out.below hb1);have HBW1 := hz0q (HBW.out.trans (hb1.mono HQ.out));have HQ1 : Hid (q <= w1.heap.size) := Nat.le_trans HQ.out hb1.size;have b0 := za HT1.out.box 0 rfl;have b1 := za HT1.out.box 1 rfl;have b2 := za HT1.out.box 2 rfl;have b3 := za HT1.out.box 3 rfl;rw [<- HLL.out] at b1 hn;have HQT : Hid (∀ nq, TextM q (w1.drewN nq) tp (.pointer p) l A c hd last /\ Below q w0 (w1.drewN nq) /\ q <= (w1.drewN nq).heap.size) := fun nq => ⟨HT1.out.below (zab _ _ _), HBW1.out.trans (zab _ _ _), HQ1.out⟩;clear C1 hb1
 cases hh : s.hd with
 | none =>
  have hd1 := (HP.out.none hh).2;have hdn : (hd != -1) = false := (by rw [hd1]; rfl);have HS : Hid (B.step s r = B.app s r) := zi5 HP.out r (.inl hh);clear hh hd1 hL;go_wp2;go_quiet (fail)
  obtain ⟨hT2, hB2, hq2⟩ := HQT.out nq;obtain ⟨W2, hW2⟩ : ∃ W2, W2 = w1.drewN nq := ⟨_, rfl⟩;rw [<- hW2] at hT2 hB2 hq2 ⊢;have HT2 := hz0q hT2;have HB2 := hz0q hB2;have HQ2 := hz0q hq2;clear hW2 hT2 hB2 hq2 b0 b1 b2 b3 HQT;have HX0 : Hid (Below W2.heap.size W2 (W2.alloc (.cells #[.int .i32 r] 21))) := (Below.refl _ _).alloc (Nat.le_refl _) _;have HT3 := hz0q (HT2.out.below HX0.out);have hown3 := HT3.out.own;have hbq3 : q <= (W2.alloc (.cells #[.int .i32 r] 21)).heap.size := Nat.le_trans HQ2.out HX0.out.size;have b1 := za HT2.out.box 1 rfl;rw [<- HLL.out] at hown3 b1;go_wp2_with (at_builtin; refine z6 zaa _ rfl _ _ rfl q rfl hown3 rfl (Rd.new1 _ _ _) (zb6 rfl) (by omega) (by omega) hbq3 ?_)
  intro A4 c4 w4 hown4 hg4 hat4;have HB4 := hz0q (zb4 (HB2.out.trans (HX0.out.mono HQ2.out)) hbq3 (Nat.le_refl _) hown3 hg4);rw [HLL.out] at hown4 hg4;have bx4 := zu HT3.out.box hg4 (fun e => HT3.out.ne tp e rfl);have b1 := za bx4 1 rfl;have b2 := za bx4 2 rfl;have b3 := za bx4 3 rfl;have f1 := zc bx4 1;have f2 := zc bx4 2;have f3 := zc bx4 3;have HT5 := hz0q (HT3.out.grow hown4 hg4 hbq3);have HPA := hz0q (zi6 HP.out r);rw [<- HCL.out, <- HLL.out] at HPA;rw [<- HLL.out] at HT5 b1;have HTB : Hid (q <= tp) := HT2.out.tb;clear hown3 hbq3 hown4 hg4 hat4 bx4
  by_cases h0 : cl = 0
  ·subst h0;have HPA2 : Hid (PutAt B (B.step s r) (l ++ [r]) (L : Int) 0) := (by have := HPA.out; rw [if_pos rfl, if_pos rfl] at this; rw [HS.out]; exact this);have hw5 : IntKind.i64.wrap ((L : Int) + 1 - 1) = (L : Int) := (by rw [IntWalk.i64_in _ (by omega)]; omega);have bx5 := HT5.out.box;have c51 := za bx5 1 rfl;have g51 := zc bx5 2;have g53 := zc bx5 3;have HFI := hz0q ((HT5.out.setHd (L : Int)).setLast 0);have bx6 := (HT5.out.setHd (L : Int)).box;have g63 := zc bx6 3;have HLN : Hid ((l ++ [r]).length = L + 1) := (by show _ = _; rw [List.length_append, HLL.out]; rfl);rw [HLN.out] at c51;have HFB : Hid (Below q w0 (((w4.setCell ⟨tp, 1, none⟩ (.slice A4 (L + 1) c4)).setCell ⟨tp, 2, none⟩ (.int .i64 (L : Int))).setCell ⟨tp, 3, none⟩ (.int .i64 0))) := ((Below.setCell (p := ⟨tp, 1, none⟩) HB4.out HTB.out _).setCell (p := ⟨tp, 2, none⟩) HTB.out _).setCell (p := ⟨tp, 3, none⟩) HTB.out _;clear bx5 bx6;go_wp2;first | go_returns | go_end0
   exact ⟨⟨_, rfl⟩, HFB.out, _, _, _, _, _, HFI.out, HPA2.out⟩
  ·have hcb : (cl == 0) = false := (by simpa using h0);have HPA2 : Hid (PutAt B (B.step s r) (l ++ [r]) hd (max last cl)) := (by have := HPA.out; rw [if_neg h0, if_neg h0] at this; rw [HS.out]; exact this);have bx5 := HT5.out.box;have c53 := za bx5 3 rfl;have g53 := zc bx5 3;have HFI := hz0q (HT5.out.setLast (max last cl));have HFB : Hid (Below q w0 ((w4.setCell ⟨tp, 1, none⟩ (.slice A4 (L + 1) c4)).setCell ⟨tp, 3, none⟩ (.int .i64 (max last cl)))) := (Below.setCell (p := ⟨tp, 1, none⟩) HB4.out HTB.out _).setCell (p := ⟨tp, 3, none⟩) HTB.out _;clear bx5 h0;go_wp2;first | go_returns | go_end0
   exact ⟨⟨_, rfl⟩, HFB.out, _, _, _, _, _, HFI.out, HPA2.out⟩
 | some c0 =>
  have hd1 := HP.out.some _ hh;obtain ⟨m, hm⟩ : ∃ m, m = s.pre.length := ⟨_, rfl⟩;rw [<- hm] at hd1;subst hd1
  have hmL : m < L := by
   have h1 := JS.out_len hh;rw [<- HP.out.out, <- HLL.out, <- hm] at h1;omega
  have hat : l[m]? = some c0 := (by rw [HP.out.out, hm]; exact JS.out_at hh);have hdn : ((m : Int) != -1) = true := (by rw [bne_iff_ne]; omega);have hw1 : IntKind.i64.wrap ((m : Int) + 1) = (m : Int) + 1 := IntWalk.i64_in _ (by omega);have HHH := hz0q hh;have HMP := hz0q hm;have HAT := hz0q hat;obtain ⟨g, hgA, hgq⟩ := HT.out.addr (by rw [<- HLL.out]; omega);subst hgA;clear hh hm hat hL
  by_cases ht1 : (L : Int) = (m : Int) + 1
  ·have ht1b : ((L : Int) == (m : Int) + 1) = true := (by simpa using ht1);have HTT : Hid ((l.length : Int) = (m : Int) + 1 \/ last < B.cls r) := .inl (by rw [<- HLL.out]; exact ht1);clear ht1;go_wp2;go_quiet (fail)
   obtain ⟨hT2, hB2, hq2⟩ := HQT.out nq;obtain ⟨W2, hW2⟩ : ∃ W2, W2 = w1.drewN nq := ⟨_, rfl⟩;rw [<- hW2] at hT2 hB2 hq2 ⊢;have HT2 := hz0q hT2;have HB2 := hz0q hB2;have HQ2 := hz0q hq2;clear hW2 hT2 hB2 hq2 b0 b1 b2 b3 HQT;have HTB : Hid (q <= tp) := HT2.out.tb;have hc0R : R32 c0 := HL.out c0 (List.mem_of_getElem? HAT.out);have PR : Hid (∀ W, Below W2.heap.size W2 W -> Calls Tryz.prog 28 #[.pointer p, .int .i32 c0, .int .i32 r] W fun e w' => e = .returned (zbm (B.pair c0 r)) /\ Below W.heap.size W w') := fun W h => zm8 (HB.out W (HB2.out.trans (h.mono HQ2.out))) c0 r hc0R HR.out (HK.out W (HB2.out.trans (h.mono HQ2.out)))
   have HMK : Hid (∀ w', Below W2.heap.size W2 w' -> (((w'.cell? ⟨tp, 0, none⟩ = some (.pointer p) /\ w'.cell? ⟨tp, 1, none⟩ = some (.slice (some ⟨g, 0, none⟩) L c)) /\ w'.cell? ⟨tp, 2, none⟩ = some (.int .i64 m)) /\ w'.cell? ⟨g, m, none⟩ = some (.int .i32 c0)) /\ Below W2.heap.size W2 w') := fun w' h => by
    have hT := HT2.out.below h;have e1 := za hT.box 1 rfl;rw [<- HLL.out] at e1;exact ⟨⟨⟨⟨za hT.box 0 rfl, e1⟩, za hT.box 2 rfl⟩, (hT.at_ HAT.out).1⟩, h⟩
   have HNE : Hid (g ≠ tp) := HT2.out.ne g rfl;have hmLi : (m : Int) < (L : Int) := (by omega);clear hc0R
   cases hpr : B.pair c0 r with
   | none =>
    have HS : Hid (B.step s r = B.app s r) := zi5 HP.out r (.inr (.inr ⟨c0, HHH.out, hpr⟩));rw [hpr, show zbm none = .tuple #[.int .i32 0, .bool false] from rfl] at PR;clear hpr;go_upto_region 2 with fail;refine wp_region_held_drew (S := fun w' => (((w'.cell? ⟨tp, 0, none⟩ = some (.pointer p) /\ w'.cell? ⟨tp, 1, none⟩ = some (.slice (some ⟨g, 0, none⟩) L c)) /\ w'.cell? ⟨tp, 2, none⟩ = some (.int .i64 m)) /\ w'.cell? ⟨g, m, none⟩ = some (.int .i32 c0)) /\ Below W2.heap.size W2 w') (by kernel_rfl) (HMK.out _ (Drew.to ⟨1, rfl⟩)) (fun hH0 => ?_);refine tkH 0 (.pointer (some ⟨tp, 0, none⟩)) rfl hH0 ?_;try simp only [gA, gB, gC, Act.put, gD, gE, gF]
    refine tkH 1 (.pointer (some ⟨tp, 0, none⟩)) rfl hH0 ?_;try simp only [gA, gB, gC, Act.put, gD, gE, gF]
    refine tkH 2 (.pointer (some ⟨tp, 0, none⟩)) rfl hH0 ?_;try simp only [gA, gB, gC, Act.put, gD, gE, gF]
    refine tkH 3 (.pointer p) rfl hH0 ?_;try simp only [gA, gB, gC, Act.put, gD, gE, gF]
    refine tkH 4 (.pointer (some ⟨tp, 0, none⟩)) rfl hH0 ?_;try simp only [gA, gB, gC, Act.put, gD, gE, gF]
    refine tkH 5 (.pointer (some ⟨tp, 0, none⟩)) rfl hH0 ?_;try simp only [gA, gB, gC, Act.put, gD, gE, gF]
    refine tkH 6 (.pointer (some ⟨tp, 1, none⟩)) rfl hH0 ?_;try simp only [gA, gB, gC, Act.put, gD, gE, gF]
    refine tkH 7 (.slice (some ⟨g, 0, none⟩) L c) rfl hH0 ?_;try simp only [gA, gB, gC, Act.put, gD, gE, gF]
    refine tkH 8 (.pointer (some ⟨tp, 0, none⟩)) rfl hH0 ?_;try simp only [gA, gB, gC, Act.put, gD, gE, gF]
    refine tkH 9 (.pointer (some ⟨tp, 0, none⟩)) rfl hH0 ?_;try simp only [gA, gB, gC, Act.put, gD, gE, gF]
    refine tkH 10 (.pointer (some ⟨tp, 2, none⟩)) rfl hH0 ?_;try simp only [gA, gB, gC, Act.put, gD, gE, gF]
    refine tkH 11 (.int .i64 m) rfl hH0 ?_;try simp only [gA, gB, gC, Act.put, gD, gE, gF]
    refine tkH 12 (.pointer (some ⟨g, m, none⟩)) rfl hH0 ?_;try simp only [gA, gB, gC, Act.put, gD, gE, gF]
    refine tkH 13 (.int .i32 c0) rfl hH0 ?_;try simp only [gA, gB, gC, Act.put, gD, gE, gF]
    refine tkH 14 (.int .i32 r) rfl hH0 ?_;try simp only [gA, gB, gC, Act.put, gD, gE, gF]
    refine wpAnyH_ready (rs := [15]) (by kernel_rfl) (by simp) ?_;refine AllReadyH.cons rfl (fun K hK => ?_) AllReadyH.nil;go_simp
    refine (PR.out _ hH0.2).mono ?_;rintro e w50 ⟨rfl, hb5⟩;refine hK.out _ _ (HMK.out _ (zb hH0.2 hb5)) (fun hH1 => ?_);clear hK K hH0;try simp only [gA, gB, gC, Act.put, gD, gE, gF]
    refine tkH 16 (.tuple #[.int .i32 0, .bool false]) rfl hH1 ?_;try simp only [gA, gB, gC, Act.put, gD, gE, gF]
    refine tkH 17 (.int .i32 0) rfl hH1 ?_;try simp only [gA, gB, gC, Act.put, gD, gE, gF]
    refine tkH 18 (.bool false) rfl hH1 ?_;try simp only [gA, gB, gC, Act.put, gD, gE, gF]
    refine tkH 19 (.int .i32 0) rfl hH1 ?_;try simp only [gA, gB, gC, Act.put, gD, gE, gF]
    refine tkH 20 (.bool false) rfl hH1 ?_;try simp only [gA, gB, gC, Act.put, gD, gE, gF]
    refine wpAnyH_done (by kernel_rfl) ?_ _;have HB6 := hz0q hH1.2;clear hH1;have HT6 := hz0q (HT2.out.below HB6.out);have HB7 := hz0q (HB2.out.trans (HB6.out.mono HQ2.out));have HQ6 : Hid (q <= w50.heap.size) := Nat.le_trans HQ2.out HB6.out.size;clear HT2 HB2 HQ2 HMK PR HB6;rename Hid (q <= w50.heap.size) => HQ2;rename Hid (TextM q w50 tp (.pointer p) l (some ⟨g, 0, none⟩) c (m : Int) last) => HT2;rename Hid (Below q w0 w50) => HB2;have HX0 : Hid (Below w50.heap.size w50 (w50.alloc (.cells #[.int .i32 r] 21))) := (Below.refl _ _).alloc (Nat.le_refl _) _;have HT3 := hz0q (HT2.out.below HX0.out);have hown3 := HT3.out.own;have hbq3 : q <= (w50.alloc (.cells #[.int .i32 r] 21)).heap.size := Nat.le_trans HQ2.out HX0.out.size;have b1 := za HT2.out.box 1 rfl;rw [<- HLL.out] at hown3 b1;go_wp2_with (at_builtin; refine z6 zaa _ rfl _ _ rfl q rfl hown3 rfl (Rd.new1 _ _ _) (zb6 rfl) (by omega) (by omega) hbq3 ?_)
    intro A4 c4 w4 hown4 hg4 hat4;have HB4 := hz0q (zb4 (HB2.out.trans (HX0.out.mono HQ2.out)) hbq3 (Nat.le_refl _) hown3 hg4);rw [HLL.out] at hown4 hg4;have bx4 := zu HT3.out.box hg4 (fun e => HT3.out.ne tp e rfl);have b1 := za bx4 1 rfl;have b2 := za bx4 2 rfl;have b3 := za bx4 3 rfl;have f1 := zc bx4 1;have f2 := zc bx4 2;have f3 := zc bx4 3;have HT5 := hz0q (HT3.out.grow hown4 hg4 hbq3);have HPA := hz0q (zi6 HP.out r);rw [<- HCL.out, <- HLL.out] at HPA;rw [<- HLL.out] at HT5 b1;have HTB : Hid (q <= tp) := HT2.out.tb;clear hown3 hbq3 hown4 hg4 hat4 bx4
    by_cases h0 : cl = 0
    ·subst h0;have HPA2 : Hid (PutAt B (B.step s r) (l ++ [r]) (L : Int) 0) := (by have := HPA.out; rw [if_pos rfl, if_pos rfl] at this; rw [HS.out]; exact this);have hw5 : IntKind.i64.wrap ((L : Int) + 1 - 1) = (L : Int) := (by rw [IntWalk.i64_in _ (by omega)]; omega);have bx5 := HT5.out.box;have c51 := za bx5 1 rfl;have g51 := zc bx5 2;have g53 := zc bx5 3;have HFI := hz0q ((HT5.out.setHd (L : Int)).setLast 0);have bx6 := (HT5.out.setHd (L : Int)).box;have g63 := zc bx6 3;have HLN : Hid ((l ++ [r]).length = L + 1) := (by show _ = _; rw [List.length_append, HLL.out]; rfl);rw [HLN.out] at c51;have HFB : Hid (Below q w0 (((w4.setCell ⟨tp, 1, none⟩ (.slice A4 (L + 1) c4)).setCell ⟨tp, 2, none⟩ (.int .i64 (L : Int))).setCell ⟨tp, 3, none⟩ (.int .i64 0))) := ((Below.setCell (p := ⟨tp, 1, none⟩) HB4.out HTB.out _).setCell (p := ⟨tp, 2, none⟩) HTB.out _).setCell (p := ⟨tp, 3, none⟩) HTB.out _;clear bx5 bx6;go_wp2;first | go_returns | go_end0
     exact ⟨⟨_, rfl⟩, HFB.out, _, _, _, _, _, HFI.out, HPA2.out⟩
    ·have hcb : (cl == 0) = false := (by simpa using h0);have HPA2 : Hid (PutAt B (B.step s r) (l ++ [r]) (m : Int) (max last cl)) := (by have := HPA.out; rw [if_neg h0, if_neg h0] at this; rw [HS.out]; exact this);have bx5 := HT5.out.box;have c53 := za bx5 3 rfl;have g53 := zc bx5 3;have HFI := hz0q (HT5.out.setLast (max last cl));have HFB : Hid (Below q w0 ((w4.setCell ⟨tp, 1, none⟩ (.slice A4 (L + 1) c4)).setCell ⟨tp, 3, none⟩ (.int .i64 (max last cl)))) := (Below.setCell (p := ⟨tp, 1, none⟩) HB4.out HTB.out _).setCell (p := ⟨tp, 3, none⟩) HTB.out _;clear bx5 h0;go_wp2;first | go_returns | go_end0
     exact ⟨⟨_, rfl⟩, HFB.out, _, _, _, _, _, HFI.out, HPA2.out⟩
   | some c1 =>
    have HJ : Hid (PutAt B (B.step s r) (l.set m c1) (m : Int) last) := (by have := zlw HP.out r HHH.out HTT.out hpr; rw [<- HMP.out] at this; exact this);have hc1 : B.cls c1 = 0 := (B.made _ _ _ hpr).2.1;have hc1R : R32 c1 := HBD.out.pair c0 r c1 (HL.out c0 (List.mem_of_getElem? HAT.out)) HR.out hpr;have HC1 := hz0q hc1;have HC1R := hz0q hc1R;rw [hpr, show zbm (some c1) = .tuple #[.int .i32 c1, .bool true] from rfl] at PR;clear hpr hc1 hc1R;go_upto_region 2 with fail;refine wp_region_held_drew (S := fun w' => (((w'.cell? ⟨tp, 0, none⟩ = some (.pointer p) /\ w'.cell? ⟨tp, 1, none⟩ = some (.slice (some ⟨g, 0, none⟩) L c)) /\ w'.cell? ⟨tp, 2, none⟩ = some (.int .i64 m)) /\ w'.cell? ⟨g, m, none⟩ = some (.int .i32 c0)) /\ Below W2.heap.size W2 w') (by kernel_rfl) (HMK.out _ (Drew.to ⟨1, rfl⟩)) (fun hH0 => ?_);refine tkH 0 (.pointer (some ⟨tp, 0, none⟩)) rfl hH0 ?_;try simp only [gA, gB, gC, Act.put, gD, gE, gF]
    refine tkH 1 (.pointer (some ⟨tp, 0, none⟩)) rfl hH0 ?_;try simp only [gA, gB, gC, Act.put, gD, gE, gF]
    refine tkH 2 (.pointer (some ⟨tp, 0, none⟩)) rfl hH0 ?_;try simp only [gA, gB, gC, Act.put, gD, gE, gF]
    refine tkH 3 (.pointer p) rfl hH0 ?_;try simp only [gA, gB, gC, Act.put, gD, gE, gF]
    refine tkH 4 (.pointer (some ⟨tp, 0, none⟩)) rfl hH0 ?_;try simp only [gA, gB, gC, Act.put, gD, gE, gF]
    refine tkH 5 (.pointer (some ⟨tp, 0, none⟩)) rfl hH0 ?_;try simp only [gA, gB, gC, Act.put, gD, gE, gF]
    refine tkH 6 (.pointer (some ⟨tp, 1, none⟩)) rfl hH0 ?_;try simp only [gA, gB, gC, Act.put, gD, gE, gF]
    refine tkH 7 (.slice (some ⟨g, 0, none⟩) L c) rfl hH0 ?_;try simp only [gA, gB, gC, Act.put, gD, gE, gF]
    refine tkH 8 (.pointer (some ⟨tp, 0, none⟩)) rfl hH0 ?_;try simp only [gA, gB, gC, Act.put, gD, gE, gF]
    refine tkH 9 (.pointer (some ⟨tp, 0, none⟩)) rfl hH0 ?_;try simp only [gA, gB, gC, Act.put, gD, gE, gF]
    refine tkH 10 (.pointer (some ⟨tp, 2, none⟩)) rfl hH0 ?_;try simp only [gA, gB, gC, Act.put, gD, gE, gF]
    refine tkH 11 (.int .i64 m) rfl hH0 ?_;try simp only [gA, gB, gC, Act.put, gD, gE, gF]
    refine tkH 12 (.pointer (some ⟨g, m, none⟩)) rfl hH0 ?_;try simp only [gA, gB, gC, Act.put, gD, gE, gF]
    refine tkH 13 (.int .i32 c0) rfl hH0 ?_;try simp only [gA, gB, gC, Act.put, gD, gE, gF]
    refine tkH 14 (.int .i32 r) rfl hH0 ?_;try simp only [gA, gB, gC, Act.put, gD, gE, gF]
    refine wpAnyH_ready (rs := [15]) (by kernel_rfl) (by simp) ?_;refine AllReadyH.cons rfl (fun K hK => ?_) AllReadyH.nil;go_simp
    refine (PR.out _ hH0.2).mono ?_;rintro e w50 ⟨rfl, hb5⟩;refine hK.out _ _ (HMK.out _ (zb hH0.2 hb5)) (fun hH1 => ?_);clear hK K hH0;try simp only [gA, gB, gC, Act.put, gD, gE, gF]
    refine tkH 16 (.tuple #[.int .i32 c1, .bool true]) rfl hH1 ?_;try simp only [gA, gB, gC, Act.put, gD, gE, gF]
    refine tkH 17 (.int .i32 c1) rfl hH1 ?_;try simp only [gA, gB, gC, Act.put, gD, gE, gF]
    refine tkH 18 (.bool true) rfl hH1 ?_;try simp only [gA, gB, gC, Act.put, gD, gE, gF]
    refine tkH 19 (.int .i32 c1) rfl hH1 ?_;try simp only [gA, gB, gC, Act.put, gD, gE, gF]
    refine tkH 20 (.bool true) rfl hH1 ?_;try simp only [gA, gB, gC, Act.put, gD, gE, gF]
    refine wpAnyH_done (by kernel_rfl) ?_ _;have HB6 := hz0q hH1.2;clear hH1;obtain ⟨WD, hWD⟩ : ∃ WD, WD = w50.drew := ⟨_, rfl⟩;have hdd : Below w50.heap.size w50 WD := (by rw [hWD]; exact Drew.to ⟨1, rfl⟩);have HT7 := hz0q ((HT2.out.below HB6.out).below hdd);have HB7 := hz0q ((HB2.out.trans (HB6.out.mono HQ2.out)).trans (hdd.mono (Nat.le_trans HQ2.out HB6.out.size)));have HQ7 : Hid (q <= WD.heap.size) := Nat.le_trans (Nat.le_trans HQ2.out HB6.out.size) hdd.size;have HS4 : Hid (WD.cell? ⟨tp, 1, none⟩ = some (.slice (some ⟨g, 0, none⟩) L c) /\ WD.cell? ⟨tp, 2, none⟩ = some (.int .i64 m)) := ⟨by have e1 := za HT7.out.box 1 rfl; rw [<- HLL.out] at e1; exact e1, za HT7.out.box 2 rfl⟩;have hcm := (HT7.out.at_ HAT.out).1;have hfm := (HT7.out.at_ HAT.out).2;clear hdd HT2 HB2 HQ2 HMK PR HB6;go_upto_region 4 with fail;refine wp_region_held_drew (S := fun w' => (w'.cell? ⟨tp, 1, none⟩ = some (.slice (some ⟨g, 0, none⟩) L c) /\ w'.cell? ⟨tp, 2, none⟩ = some (.int .i64 m))) (by kernel_rfl) (by rw [<- hWD]; exact HS4.out) (fun hH0 => ?_);revert hH0;rw [<- hWD];intro hH0;clear hWD;refine tkH 0 (.pointer (some ⟨tp, 0, none⟩)) rfl hH0 ?_;try simp only [gA, gB, gC, Act.put, gD, gE, gF]
    refine tkH 1 (.pointer (some ⟨tp, 0, none⟩)) rfl hH0 ?_;try simp only [gA, gB, gC, Act.put, gD, gE, gF]
    refine tkH 2 (.pointer (some ⟨tp, 1, none⟩)) rfl hH0 ?_;try simp only [gA, gB, gC, Act.put, gD, gE, gF]
    refine tkH 3 (.slice (some ⟨g, 0, none⟩) L c) rfl hH0 ?_;try simp only [gA, gB, gC, Act.put, gD, gE, gF]
    refine tkH 4 (.pointer (some ⟨tp, 0, none⟩)) rfl hH0 ?_;try simp only [gA, gB, gC, Act.put, gD, gE, gF]
    refine tkH 5 (.pointer (some ⟨tp, 0, none⟩)) rfl hH0 ?_;try simp only [gA, gB, gC, Act.put, gD, gE, gF]
    refine tkH 6 (.pointer (some ⟨tp, 2, none⟩)) rfl hH0 ?_;try simp only [gA, gB, gC, Act.put, gD, gE, gF]
    refine tkH 7 (.int .i64 m) rfl hH0 ?_;try simp only [gA, gB, gC, Act.put, gD, gE, gF]
    refine tkH 8 (.int .i32 c1) rfl hH0 ?_;try simp only [gA, gB, gC, Act.put, gD, gE, gF]
    refine tkH 9 (.pointer (some ⟨g, m, none⟩)) rfl hH0 ?_;try simp only [gA, gB, gC, Act.put, gD, gE, gF]
    refine wpAnyH_ready (rs := [10]) (by kernel_rfl) (by simp) ?_;refine AllReadyH.cons rfl (fun K hK => ?_) AllReadyH.nil;go_simp
    refine hK.out _ _ (⟨(World.cell?_setCell_other _ _ _ _ (by intro e; injection e with e; exact HNE.out e)).trans HS4.out.1, (World.cell?_setCell_other _ _ _ _ (by intro e; injection e with e; exact HNE.out e)).trans HS4.out.2⟩) (fun hH1 => ?_);clear hK K hH0;try simp only [gA, gB, gC, Act.put, gD, gE, gF]
    refine wpAnyH_done (by kernel_rfl) ?_ _;clear hH1;have HT8 := hz0q (HT7.out.put (k := m) (by rw [<- HLL.out]; exact hmL) c1);have HB8 : Hid (Below q w0 (WD.setCell ⟨g, m, none⟩ (.int .i32 c1))) := Below.setCell (p := ⟨g, m, none⟩) HB7.out hgq _;have e0 := za HT8.out.box 0 rfl;have C2 := zd6 (HB.out _ HB8.out) c1 HC1R.out;rw [HC1.out] at C2;have HQ8 : Hid (q <= (WD.setCell ⟨g, m, none⟩ (.int .i32 c1)).heap.size) := (by show _ <= _; simp [World.setCell]; exact HQ7.out);clear hcm hfm;go_wp2_with fail;refine C2.mono ?_;rintro e w9 ⟨rfl, hb9⟩;have HT9 := hz0q (HT8.out.below hb9);have HB9 := hz0q (HB8.out.trans (hb9.mono HQ8.out));clear C2 hb9 e0;go_wp2;first | go_returns | go_end0
    exact ⟨⟨_, rfl⟩, HB9.out, _, _, _, _, _, HT9.out, HJ.out⟩
  ·have ht1b : ((L : Int) == (m : Int) + 1) = false := by simpa using ht1
   by_cases ht2 : last < cl
   ·have HTT : Hid ((l.length : Int) = (m : Int) + 1 \/ last < B.cls r) := .inr (by rw [<- HCL.out]; exact ht2);clear ht1;go_wp2;go_quiet (fail)
    obtain ⟨hT2, hB2, hq2⟩ := HQT.out nq;obtain ⟨W2, hW2⟩ : ∃ W2, W2 = w1.drewN nq := ⟨_, rfl⟩;rw [<- hW2] at hT2 hB2 hq2 ⊢;have HT2 := hz0q hT2;have HB2 := hz0q hB2;have HQ2 := hz0q hq2;clear hW2 hT2 hB2 hq2 b0 b1 b2 b3 HQT;have HTB : Hid (q <= tp) := HT2.out.tb;have hc0R : R32 c0 := HL.out c0 (List.mem_of_getElem? HAT.out);have PR : Hid (∀ W, Below W2.heap.size W2 W -> Calls Tryz.prog 28 #[.pointer p, .int .i32 c0, .int .i32 r] W fun e w' => e = .returned (zbm (B.pair c0 r)) /\ Below W.heap.size W w') := fun W h => zm8 (HB.out W (HB2.out.trans (h.mono HQ2.out))) c0 r hc0R HR.out (HK.out W (HB2.out.trans (h.mono HQ2.out)))
    have HMK : Hid (∀ w', Below W2.heap.size W2 w' -> (((w'.cell? ⟨tp, 0, none⟩ = some (.pointer p) /\ w'.cell? ⟨tp, 1, none⟩ = some (.slice (some ⟨g, 0, none⟩) L c)) /\ w'.cell? ⟨tp, 2, none⟩ = some (.int .i64 m)) /\ w'.cell? ⟨g, m, none⟩ = some (.int .i32 c0)) /\ Below W2.heap.size W2 w') := fun w' h => by
     have hT := HT2.out.below h;have e1 := za hT.box 1 rfl;rw [<- HLL.out] at e1;exact ⟨⟨⟨⟨za hT.box 0 rfl, e1⟩, za hT.box 2 rfl⟩, (hT.at_ HAT.out).1⟩, h⟩
    have HNE : Hid (g ≠ tp) := HT2.out.ne g rfl;have hmLi : (m : Int) < (L : Int) := (by omega);clear hc0R
    cases hpr : B.pair c0 r with
    | none =>
     have HS : Hid (B.step s r = B.app s r) := zi5 HP.out r (.inr (.inr ⟨c0, HHH.out, hpr⟩));rw [hpr, show zbm none = .tuple #[.int .i32 0, .bool false] from rfl] at PR;clear hpr;go_upto_region 2 with fail;refine wp_region_held_drew (S := fun w' => (((w'.cell? ⟨tp, 0, none⟩ = some (.pointer p) /\ w'.cell? ⟨tp, 1, none⟩ = some (.slice (some ⟨g, 0, none⟩) L c)) /\ w'.cell? ⟨tp, 2, none⟩ = some (.int .i64 m)) /\ w'.cell? ⟨g, m, none⟩ = some (.int .i32 c0)) /\ Below W2.heap.size W2 w') (by kernel_rfl) (HMK.out _ (Drew.to ⟨1, rfl⟩)) (fun hH0 => ?_);refine tkH 0 (.pointer (some ⟨tp, 0, none⟩)) rfl hH0 ?_;try simp only [gA, gB, gC, Act.put, gD, gE, gF]
     refine tkH 1 (.pointer (some ⟨tp, 0, none⟩)) rfl hH0 ?_;try simp only [gA, gB, gC, Act.put, gD, gE, gF]
     refine tkH 2 (.pointer (some ⟨tp, 0, none⟩)) rfl hH0 ?_;try simp only [gA, gB, gC, Act.put, gD, gE, gF]
     refine tkH 3 (.pointer p) rfl hH0 ?_;try simp only [gA, gB, gC, Act.put, gD, gE, gF]
     refine tkH 4 (.pointer (some ⟨tp, 0, none⟩)) rfl hH0 ?_;try simp only [gA, gB, gC, Act.put, gD, gE, gF]
     refine tkH 5 (.pointer (some ⟨tp, 0, none⟩)) rfl hH0 ?_;try simp only [gA, gB, gC, Act.put, gD, gE, gF]
     refine tkH 6 (.pointer (some ⟨tp, 1, none⟩)) rfl hH0 ?_;try simp only [gA, gB, gC, Act.put, gD, gE, gF]
     refine tkH 7 (.slice (some ⟨g, 0, none⟩) L c) rfl hH0 ?_;try simp only [gA, gB, gC, Act.put, gD, gE, gF]
     refine tkH 8 (.pointer (some ⟨tp, 0, none⟩)) rfl hH0 ?_;try simp only [gA, gB, gC, Act.put, gD, gE, gF]
     refine tkH 9 (.pointer (some ⟨tp, 0, none⟩)) rfl hH0 ?_;try simp only [gA, gB, gC, Act.put, gD, gE, gF]
     refine tkH 10 (.pointer (some ⟨tp, 2, none⟩)) rfl hH0 ?_;try simp only [gA, gB, gC, Act.put, gD, gE, gF]
     refine tkH 11 (.int .i64 m) rfl hH0 ?_;try simp only [gA, gB, gC, Act.put, gD, gE, gF]
     refine tkH 12 (.pointer (some ⟨g, m, none⟩)) rfl hH0 ?_;try simp only [gA, gB, gC, Act.put, gD, gE, gF]
     refine tkH 13 (.int .i32 c0) rfl hH0 ?_;try simp only [gA, gB, gC, Act.put, gD, gE, gF]
     refine tkH 14 (.int .i32 r) rfl hH0 ?_;try simp only [gA, gB, gC, Act.put, gD, gE, gF]
     refine wpAnyH_ready (rs := [15]) (by kernel_rfl) (by simp) ?_;refine AllReadyH.cons rfl (fun K hK => ?_) AllReadyH.nil;go_simp
     refine (PR.out _ hH0.2).mono ?_;rintro e w50 ⟨rfl, hb5⟩;refine hK.out _ _ (HMK.out _ (zb hH0.2 hb5)) (fun hH1 => ?_);clear hK K hH0;try simp only [gA, gB, gC, Act.put, gD, gE, gF]
     refine tkH 16 (.tuple #[.int .i32 0, .bool false]) rfl hH1 ?_;try simp only [gA, gB, gC, Act.put, gD, gE, gF]
     refine tkH 17 (.int .i32 0) rfl hH1 ?_;try simp only [gA, gB, gC, Act.put, gD, gE, gF]
     refine tkH 18 (.bool false) rfl hH1 ?_;try simp only [gA, gB, gC, Act.put, gD, gE, gF]
     refine tkH 19 (.int .i32 0) rfl hH1 ?_;try simp only [gA, gB, gC, Act.put, gD, gE, gF]
     refine tkH 20 (.bool false) rfl hH1 ?_;try simp only [gA, gB, gC, Act.put, gD, gE, gF]
     refine wpAnyH_done (by kernel_rfl) ?_ _;have HB6 := hz0q hH1.2;clear hH1;have HT6 := hz0q (HT2.out.below HB6.out);have HB7 := hz0q (HB2.out.trans (HB6.out.mono HQ2.out));have HQ6 : Hid (q <= w50.heap.size) := Nat.le_trans HQ2.out HB6.out.size;clear HT2 HB2 HQ2 HMK PR HB6;rename Hid (q <= w50.heap.size) => HQ2;rename Hid (TextM q w50 tp (.pointer p) l (some ⟨g, 0, none⟩) c (m : Int) last) => HT2;rename Hid (Below q w0 w50) => HB2;have HX0 : Hid (Below w50.heap.size w50 (w50.alloc (.cells #[.int .i32 r] 21))) := (Below.refl _ _).alloc (Nat.le_refl _) _;have HT3 := hz0q (HT2.out.below HX0.out);have hown3 := HT3.out.own;have hbq3 : q <= (w50.alloc (.cells #[.int .i32 r] 21)).heap.size := Nat.le_trans HQ2.out HX0.out.size;have b1 := za HT2.out.box 1 rfl;rw [<- HLL.out] at hown3 b1;go_wp2_with (at_builtin; refine z6 zaa _ rfl _ _ rfl q rfl hown3 rfl (Rd.new1 _ _ _) (zb6 rfl) (by omega) (by omega) hbq3 ?_)
     intro A4 c4 w4 hown4 hg4 hat4;have HB4 := hz0q (zb4 (HB2.out.trans (HX0.out.mono HQ2.out)) hbq3 (Nat.le_refl _) hown3 hg4);rw [HLL.out] at hown4 hg4;have bx4 := zu HT3.out.box hg4 (fun e => HT3.out.ne tp e rfl);have b1 := za bx4 1 rfl;have b2 := za bx4 2 rfl;have b3 := za bx4 3 rfl;have f1 := zc bx4 1;have f2 := zc bx4 2;have f3 := zc bx4 3;have HT5 := hz0q (HT3.out.grow hown4 hg4 hbq3);have HPA := hz0q (zi6 HP.out r);rw [<- HCL.out, <- HLL.out] at HPA;rw [<- HLL.out] at HT5 b1;have HTB : Hid (q <= tp) := HT2.out.tb;clear hown3 hbq3 hown4 hg4 hat4 bx4
     by_cases h0 : cl = 0
     ·subst h0;have HPA2 : Hid (PutAt B (B.step s r) (l ++ [r]) (L : Int) 0) := (by have := HPA.out; rw [if_pos rfl, if_pos rfl] at this; rw [HS.out]; exact this);have hw5 : IntKind.i64.wrap ((L : Int) + 1 - 1) = (L : Int) := (by rw [IntWalk.i64_in _ (by omega)]; omega);have bx5 := HT5.out.box;have c51 := za bx5 1 rfl;have g51 := zc bx5 2;have g53 := zc bx5 3;have HFI := hz0q ((HT5.out.setHd (L : Int)).setLast 0);have bx6 := (HT5.out.setHd (L : Int)).box;have g63 := zc bx6 3;have HLN : Hid ((l ++ [r]).length = L + 1) := (by show _ = _; rw [List.length_append, HLL.out]; rfl);rw [HLN.out] at c51;have HFB : Hid (Below q w0 (((w4.setCell ⟨tp, 1, none⟩ (.slice A4 (L + 1) c4)).setCell ⟨tp, 2, none⟩ (.int .i64 (L : Int))).setCell ⟨tp, 3, none⟩ (.int .i64 0))) := ((Below.setCell (p := ⟨tp, 1, none⟩) HB4.out HTB.out _).setCell (p := ⟨tp, 2, none⟩) HTB.out _).setCell (p := ⟨tp, 3, none⟩) HTB.out _;clear bx5 bx6;go_wp2;first | go_returns | go_end0
      exact ⟨⟨_, rfl⟩, HFB.out, _, _, _, _, _, HFI.out, HPA2.out⟩
     ·have hcb : (cl == 0) = false := (by simpa using h0);have HPA2 : Hid (PutAt B (B.step s r) (l ++ [r]) (m : Int) (max last cl)) := (by have := HPA.out; rw [if_neg h0, if_neg h0] at this; rw [HS.out]; exact this);have bx5 := HT5.out.box;have c53 := za bx5 3 rfl;have g53 := zc bx5 3;have HFI := hz0q (HT5.out.setLast (max last cl));have HFB : Hid (Below q w0 ((w4.setCell ⟨tp, 1, none⟩ (.slice A4 (L + 1) c4)).setCell ⟨tp, 3, none⟩ (.int .i64 (max last cl)))) := (Below.setCell (p := ⟨tp, 1, none⟩) HB4.out HTB.out _).setCell (p := ⟨tp, 3, none⟩) HTB.out _;clear bx5 h0;go_wp2;first | go_returns | go_end0
      exact ⟨⟨_, rfl⟩, HFB.out, _, _, _, _, _, HFI.out, HPA2.out⟩
    | some c1 =>
     have HJ : Hid (PutAt B (B.step s r) (l.set m c1) (m : Int) last) := (by have := zlw HP.out r HHH.out HTT.out hpr; rw [<- HMP.out] at this; exact this);have hc1 : B.cls c1 = 0 := (B.made _ _ _ hpr).2.1;have hc1R : R32 c1 := HBD.out.pair c0 r c1 (HL.out c0 (List.mem_of_getElem? HAT.out)) HR.out hpr;have HC1 := hz0q hc1;have HC1R := hz0q hc1R;rw [hpr, show zbm (some c1) = .tuple #[.int .i32 c1, .bool true] from rfl] at PR;clear hpr hc1 hc1R;go_upto_region 2 with fail;refine wp_region_held_drew (S := fun w' => (((w'.cell? ⟨tp, 0, none⟩ = some (.pointer p) /\ w'.cell? ⟨tp, 1, none⟩ = some (.slice (some ⟨g, 0, none⟩) L c)) /\ w'.cell? ⟨tp, 2, none⟩ = some (.int .i64 m)) /\ w'.cell? ⟨g, m, none⟩ = some (.int .i32 c0)) /\ Below W2.heap.size W2 w') (by kernel_rfl) (HMK.out _ (Drew.to ⟨1, rfl⟩)) (fun hH0 => ?_);refine tkH 0 (.pointer (some ⟨tp, 0, none⟩)) rfl hH0 ?_;try simp only [gA, gB, gC, Act.put, gD, gE, gF]
     refine tkH 1 (.pointer (some ⟨tp, 0, none⟩)) rfl hH0 ?_;try simp only [gA, gB, gC, Act.put, gD, gE, gF]
     refine tkH 2 (.pointer (some ⟨tp, 0, none⟩)) rfl hH0 ?_;try simp only [gA, gB, gC, Act.put, gD, gE, gF]
     refine tkH 3 (.pointer p) rfl hH0 ?_;try simp only [gA, gB, gC, Act.put, gD, gE, gF]
     refine tkH 4 (.pointer (some ⟨tp, 0, none⟩)) rfl hH0 ?_;try simp only [gA, gB, gC, Act.put, gD, gE, gF]
     refine tkH 5 (.pointer (some ⟨tp, 0, none⟩)) rfl hH0 ?_;try simp only [gA, gB, gC, Act.put, gD, gE, gF]
     refine tkH 6 (.pointer (some ⟨tp, 1, none⟩)) rfl hH0 ?_;try simp only [gA, gB, gC, Act.put, gD, gE, gF]
     refine tkH 7 (.slice (some ⟨g, 0, none⟩) L c) rfl hH0 ?_;try simp only [gA, gB, gC, Act.put, gD, gE, gF]
     refine tkH 8 (.pointer (some ⟨tp, 0, none⟩)) rfl hH0 ?_;try simp only [gA, gB, gC, Act.put, gD, gE, gF]
     refine tkH 9 (.pointer (some ⟨tp, 0, none⟩)) rfl hH0 ?_;try simp only [gA, gB, gC, Act.put, gD, gE, gF]
     refine tkH 10 (.pointer (some ⟨tp, 2, none⟩)) rfl hH0 ?_;try simp only [gA, gB, gC, Act.put, gD, gE, gF]
     refine tkH 11 (.int .i64 m) rfl hH0 ?_;try simp only [gA, gB, gC, Act.put, gD, gE, gF]
     refine tkH 12 (.pointer (some ⟨g, m, none⟩)) rfl hH0 ?_;try simp only [gA, gB, gC, Act.put, gD, gE, gF]
     refine tkH 13 (.int .i32 c0) rfl hH0 ?_;try simp only [gA, gB, gC, Act.put, gD, gE, gF]
     refine tkH 14 (.int .i32 r) rfl hH0 ?_;try simp only [gA, gB, gC, Act.put, gD, gE, gF]
     refine wpAnyH_ready (rs := [15]) (by kernel_rfl) (by simp) ?_;refine AllReadyH.cons rfl (fun K hK => ?_) AllReadyH.nil;go_simp
     refine (PR.out _ hH0.2).mono ?_;rintro e w50 ⟨rfl, hb5⟩;refine hK.out _ _ (HMK.out _ (zb hH0.2 hb5)) (fun hH1 => ?_);clear hK K hH0;try simp only [gA, gB, gC, Act.put, gD, gE, gF]
     refine tkH 16 (.tuple #[.int .i32 c1, .bool true]) rfl hH1 ?_;try simp only [gA, gB, gC, Act.put, gD, gE, gF]
     refine tkH 17 (.int .i32 c1) rfl hH1 ?_;try simp only [gA, gB, gC, Act.put, gD, gE, gF]
     refine tkH 18 (.bool true) rfl hH1 ?_;try simp only [gA, gB, gC, Act.put, gD, gE, gF]
     refine tkH 19 (.int .i32 c1) rfl hH1 ?_;try simp only [gA, gB, gC, Act.put, gD, gE, gF]
     refine tkH 20 (.bool true) rfl hH1 ?_;try simp only [gA, gB, gC, Act.put, gD, gE, gF]
     refine wpAnyH_done (by kernel_rfl) ?_ _;have HB6 := hz0q hH1.2;clear hH1;obtain ⟨WD, hWD⟩ : ∃ WD, WD = w50.drew := ⟨_, rfl⟩;have hdd : Below w50.heap.size w50 WD := (by rw [hWD]; exact Drew.to ⟨1, rfl⟩);have HT7 := hz0q ((HT2.out.below HB6.out).below hdd);have HB7 := hz0q ((HB2.out.trans (HB6.out.mono HQ2.out)).trans (hdd.mono (Nat.le_trans HQ2.out HB6.out.size)));have HQ7 : Hid (q <= WD.heap.size) := Nat.le_trans (Nat.le_trans HQ2.out HB6.out.size) hdd.size;have HS4 : Hid (WD.cell? ⟨tp, 1, none⟩ = some (.slice (some ⟨g, 0, none⟩) L c) /\ WD.cell? ⟨tp, 2, none⟩ = some (.int .i64 m)) := ⟨by have e1 := za HT7.out.box 1 rfl; rw [<- HLL.out] at e1; exact e1, za HT7.out.box 2 rfl⟩;have hcm := (HT7.out.at_ HAT.out).1;have hfm := (HT7.out.at_ HAT.out).2;clear hdd HT2 HB2 HQ2 HMK PR HB6;go_upto_region 4 with fail;refine wp_region_held_drew (S := fun w' => (w'.cell? ⟨tp, 1, none⟩ = some (.slice (some ⟨g, 0, none⟩) L c) /\ w'.cell? ⟨tp, 2, none⟩ = some (.int .i64 m))) (by kernel_rfl) (by rw [<- hWD]; exact HS4.out) (fun hH0 => ?_);revert hH0;rw [<- hWD];intro hH0;clear hWD;refine tkH 0 (.pointer (some ⟨tp, 0, none⟩)) rfl hH0 ?_;try simp only [gA, gB, gC, Act.put, gD, gE, gF]
     refine tkH 1 (.pointer (some ⟨tp, 0, none⟩)) rfl hH0 ?_;try simp only [gA, gB, gC, Act.put, gD, gE, gF]
     refine tkH 2 (.pointer (some ⟨tp, 1, none⟩)) rfl hH0 ?_;try simp only [gA, gB, gC, Act.put, gD, gE, gF]
     refine tkH 3 (.slice (some ⟨g, 0, none⟩) L c) rfl hH0 ?_;try simp only [gA, gB, gC, Act.put, gD, gE, gF]
     refine tkH 4 (.pointer (some ⟨tp, 0, none⟩)) rfl hH0 ?_;try simp only [gA, gB, gC, Act.put, gD, gE, gF]
     refine tkH 5 (.pointer (some ⟨tp, 0, none⟩)) rfl hH0 ?_;try simp only [gA, gB, gC, Act.put, gD, gE, gF]
     refine tkH 6 (.pointer (some ⟨tp, 2, none⟩)) rfl hH0 ?_;try simp only [gA, gB, gC, Act.put, gD, gE, gF]
     refine tkH 7 (.int .i64 m) rfl hH0 ?_;try simp only [gA, gB, gC, Act.put, gD, gE, gF]
     refine tkH 8 (.int .i32 c1) rfl hH0 ?_;try simp only [gA, gB, gC, Act.put, gD, gE, gF]
     refine tkH 9 (.pointer (some ⟨g, m, none⟩)) rfl hH0 ?_;try simp only [gA, gB, gC, Act.put, gD, gE, gF]
     refine wpAnyH_ready (rs := [10]) (by kernel_rfl) (by simp) ?_;refine AllReadyH.cons rfl (fun K hK => ?_) AllReadyH.nil;go_simp
     refine hK.out _ _ (⟨(World.cell?_setCell_other _ _ _ _ (by intro e; injection e with e; exact HNE.out e)).trans HS4.out.1, (World.cell?_setCell_other _ _ _ _ (by intro e; injection e with e; exact HNE.out e)).trans HS4.out.2⟩) (fun hH1 => ?_);clear hK K hH0;try simp only [gA, gB, gC, Act.put, gD, gE, gF]
     refine wpAnyH_done (by kernel_rfl) ?_ _;clear hH1;have HT8 := hz0q (HT7.out.put (k := m) (by rw [<- HLL.out]; exact hmL) c1);have HB8 : Hid (Below q w0 (WD.setCell ⟨g, m, none⟩ (.int .i32 c1))) := Below.setCell (p := ⟨g, m, none⟩) HB7.out hgq _;have e0 := za HT8.out.box 0 rfl;have C2 := zd6 (HB.out _ HB8.out) c1 HC1R.out;rw [HC1.out] at C2;have HQ8 : Hid (q <= (WD.setCell ⟨g, m, none⟩ (.int .i32 c1)).heap.size) := (by show _ <= _; simp [World.setCell]; exact HQ7.out);clear hcm hfm;go_wp2_with fail;refine C2.mono ?_;rintro e w9 ⟨rfl, hb9⟩;have HT9 := hz0q (HT8.out.below hb9);have HB9 := hz0q (HB8.out.trans (hb9.mono HQ8.out));clear C2 hb9 e0;go_wp2;first | go_returns | go_end0
     exact ⟨⟨_, rfl⟩, HB9.out, _, _, _, _, _, HT9.out, HJ.out⟩
   ·have HS : Hid (B.step s r = B.app s r) := zi5 HP.out r (.inr (.inl ⟨by rw [<- HLL.out]; exact ht1, by rw [<- HCL.out]; exact ht2⟩));have ht2b : decide (last < cl) = false := decide_eq_false ht2;clear ht1;go_wp2;go_quiet (fail)
    obtain ⟨hT2, hB2, hq2⟩ := HQT.out nq;obtain ⟨W2, hW2⟩ : ∃ W2, W2 = w1.drewN nq := ⟨_, rfl⟩;rw [<- hW2] at hT2 hB2 hq2 ⊢;have HT2 := hz0q hT2;have HB2 := hz0q hB2;have HQ2 := hz0q hq2;clear hW2 hT2 hB2 hq2 b0 b1 b2 b3 HQT;have HX0 : Hid (Below W2.heap.size W2 (W2.alloc (.cells #[.int .i32 r] 21))) := (Below.refl _ _).alloc (Nat.le_refl _) _;have HT3 := hz0q (HT2.out.below HX0.out);have hown3 := HT3.out.own;have hbq3 : q <= (W2.alloc (.cells #[.int .i32 r] 21)).heap.size := Nat.le_trans HQ2.out HX0.out.size;have b1 := za HT2.out.box 1 rfl;rw [<- HLL.out] at hown3 b1;go_wp2_with (at_builtin; refine z6 zaa _ rfl _ _ rfl q rfl hown3 rfl (Rd.new1 _ _ _) (zb6 rfl) (by omega) (by omega) hbq3 ?_)
    intro A4 c4 w4 hown4 hg4 hat4;have HB4 := hz0q (zb4 (HB2.out.trans (HX0.out.mono HQ2.out)) hbq3 (Nat.le_refl _) hown3 hg4);rw [HLL.out] at hown4 hg4;have bx4 := zu HT3.out.box hg4 (fun e => HT3.out.ne tp e rfl);have b1 := za bx4 1 rfl;have b2 := za bx4 2 rfl;have b3 := za bx4 3 rfl;have f1 := zc bx4 1;have f2 := zc bx4 2;have f3 := zc bx4 3;have HT5 := hz0q (HT3.out.grow hown4 hg4 hbq3);have HPA := hz0q (zi6 HP.out r);rw [<- HCL.out, <- HLL.out] at HPA;rw [<- HLL.out] at HT5 b1;have HTB : Hid (q <= tp) := HT2.out.tb;clear hown3 hbq3 hown4 hg4 hat4 bx4
    by_cases h0 : cl = 0
    ·subst h0;have HPA2 : Hid (PutAt B (B.step s r) (l ++ [r]) (L : Int) 0) := (by have := HPA.out; rw [if_pos rfl, if_pos rfl] at this; rw [HS.out]; exact this);have hw5 : IntKind.i64.wrap ((L : Int) + 1 - 1) = (L : Int) := (by rw [IntWalk.i64_in _ (by omega)]; omega);have bx5 := HT5.out.box;have c51 := za bx5 1 rfl;have g51 := zc bx5 2;have g53 := zc bx5 3;have HFI := hz0q ((HT5.out.setHd (L : Int)).setLast 0);have bx6 := (HT5.out.setHd (L : Int)).box;have g63 := zc bx6 3;have HLN : Hid ((l ++ [r]).length = L + 1) := (by show _ = _; rw [List.length_append, HLL.out]; rfl);rw [HLN.out] at c51;have HFB : Hid (Below q w0 (((w4.setCell ⟨tp, 1, none⟩ (.slice A4 (L + 1) c4)).setCell ⟨tp, 2, none⟩ (.int .i64 (L : Int))).setCell ⟨tp, 3, none⟩ (.int .i64 0))) := ((Below.setCell (p := ⟨tp, 1, none⟩) HB4.out HTB.out _).setCell (p := ⟨tp, 2, none⟩) HTB.out _).setCell (p := ⟨tp, 3, none⟩) HTB.out _;clear bx5 bx6;go_wp2;first | go_returns | go_end0
     exact ⟨⟨_, rfl⟩, HFB.out, _, _, _, _, _, HFI.out, HPA2.out⟩
    ·have hcb : (cl == 0) = false := (by simpa using h0);have HPA2 : Hid (PutAt B (B.step s r) (l ++ [r]) (m : Int) (max last cl)) := (by have := HPA.out; rw [if_neg h0, if_neg h0] at this; rw [HS.out]; exact this);have bx5 := HT5.out.box;have c53 := za bx5 3 rfl;have g53 := zc bx5 3;have HFI := hz0q (HT5.out.setLast (max last cl));have HFB : Hid (Below q w0 ((w4.setCell ⟨tp, 1, none⟩ (.slice A4 (L + 1) c4)).setCell ⟨tp, 3, none⟩ (.int .i64 (max last cl)))) := (Below.setCell (p := ⟨tp, 1, none⟩) HB4.out HTB.out _).setCell (p := ⟨tp, 3, none⟩) HTB.out _;clear bx5 h0;go_wp2;first | go_returns | go_end0
     exact ⟨⟨_, rfl⟩, HFB.out, _, _, _, _, _, HFI.out, HPA2.out⟩
end
end
end Go.Proofs.YtfdelmodmadoaaaGreatDoor
