/- Maps with texts as keys; a charset's texts in memory; charset.Next. multi's decoder and its answers in memory: New, gone, close, fault. multi: Step, Flush. multi: Flush. -/
import Derived.Test.YtolcabjkbefjgaaGreatDoorY25
set_option linter.unusedSimpArgs false
set_option linter.unusedVariables false
set_option maxRecDepth 20000
set_option maxHeartbeats 4000000
namespace Go.Proofs.YtolcabjkbefjgaaGreatDoor
section
open Go.RowKit Go.Lib Go.Maps
abbrev strV (s : ByteArray) : Value:=.string s
def zbv (s : ByteArray) : Lit:=.string s.data.toList
def StrOk (s : ByteArray) : Prop:=s.size <= maxLen
abbrev boolV (b : Bool) : Value:=.bool b
theorem strB {P : Program} {K : TypeId} (hk : P.underlying K = some .string) : KeyB P K strV zbv StrOk where
 keyed:=string_keyed hk
 of:=fun ha => WideMaps.keyOf_string_mk hk ha
 inv:=fun h => by
  obtain ⟨s,rfl,rfl,hs⟩:=WideMaps.string_of_keyOf hk h;exact ⟨s,hs,rfl,rfl⟩
 mkinj:=fun h => by cases h; rfl
theorem zah : KeyB Tryz.prog 9 strV zbv StrOk:=strB (by kernel_rfl)
theorem zi1 : Tryz.prog.underlying 201 = some (.map 9 9):=by kernel_rfl
theorem zg6 : Tryz.prog.underlying 202 = some (.map 9 4):=by kernel_rfl
theorem zfu (w : World) : (zeroValue 9).run Tryz.prog w = .ok (strV .empty) w:=by kernel_rfl
theorem zcc (w : World) : (zeroValue 4).run Tryz.prog w = .ok (boolV false) w:=by kernel_rfl
theorem findC_none {T : TxC} {s : ByteArray} {i n : Nat} (h : T (s.extract 0 (i + 1)) = none) : findC T s i (n + 1) = findC T s (i + 1) n:=by
 conv => lhs; unfold findC
 rw [h]
structure ChsM (w : World) (c : Nat) (cs : Array Value) (mt mh m n : Nat) (T : TxC) (H : HdC) : Prop where
 box : w.heap[c]? = some (.cells cs 206 (0,0))
 ct : cs[3]? = some (.map (some mt))
 ch : cs[4]? = some (.map (some mh))
 t : MapF w Tryz.prog 9 zbv StrOk strV mt m T
 h : MapF w Tryz.prog 9 zbv StrOk boolV mh n H
section
variable {w w' : World} {c : Nat} {cs : Array Value} {mt mh m n : Nat} {T : TxC} {H : HdC}
theorem ChsM.keep (h : ChsM w c cs mt mh m n T H) (h1 : w'.heap[c]? = w.heap[c]?) (h2 : w'.heap[mt]? = w.heap[mt]?) (h3 : w'.heap[mh]? = w.heap[mh]?) : ChsM w' c cs mt mh m n T H:=⟨h1.trans h.box,h.ct,h.ch,h.t.at h2,h.h.at h3⟩
theorem ChsM.lt (h : ChsM w c cs mt mh m n T H) : c < w.heap.size /\ mt < w.heap.size /\ mh < w.heap.size:=⟨(Array.getElem?_eq_some_iff.1 h.box).1,h.t.lt,h.h.lt⟩
theorem ChsM.below (h : ChsM w c cs mt mh m n T H) (hb : Below w.heap.size w w') : ChsM w' c cs mt mh m n T H:=h.keep (hb.block _ h.lt.1) (hb.block _ h.lt.2.1) (hb.block _ h.lt.2.2)
theorem ChsM.wrote {S : Nat -> Prop} (h : ChsM w c cs mt mh m n T H) (hw : Wrote S w w') (hS : ¬ S c /\ ¬ S mt /\ ¬ S mh) : ChsM w' c cs mt mh m n T H:=h.keep (hw.block _ h.lt.1 hS.1) (hw.block _ h.lt.2.1 hS.2.1) (hw.block _ h.lt.2.2 hS.2.2)
theorem ChsM.ne (h : ChsM w c cs mt mh m n T H) {q : Nat} {cur : Array Value} {t : TypeId} {fr : Nat × Nat} (hq : w.heap[q]? = some (.cells cur t fr)) (ht : t ≠ 206) : c ≠ q /\ mt ≠ q /\ mh ≠ q:=by
 refine ⟨?_,h.t.ne_cells hq,h.h.ne_cells hq⟩;rintro rfl;have:=h.box;rw [hq] at this;injection this with this;injection this with _ this;exact ht this
theorem cnext_any (h : ChsM w c cs mt mh m n T H) (s : ByteArray) (hs : s.size <= 100000) :
  Calls Tryz.prog 49 #[.pointer (some ⟨c,0,none⟩),.string s] w fun e w' => e = .returned (.tuple #[.int .i64 (nextC T H s).1,.string (nextC T H s).2.1,.int .i64 (nextC T H s).2.2]) /\ Drew w w':=by
 obtain ⟨R,hR⟩ : ∃ R,R = nextC T H s:=⟨_,rfl⟩;rw [<- hR];have HM:=hz0q h;have hR0 : Hid (R = match findC T s 0 (s.size - 0) with | some (n,t) => (n,t,0) | none => if (H s).getD false = true then (0,.empty,18) else (0,.empty,17)):=hR
 clear hR h;go_enter Tryz.func49,Tryz.ntmps49;go_wp2
 go_loopw [14] (fun i wr => ∃ k : Nat,k <= s.size /\ i = .int .i64 k /\ Hid (R = match findC T s k (s.size - k) with | some (n,t) => (n,t,0) | none => if (H s).getD false = true then (0,.empty,18) else (0,.empty,17)) /\ Hid (Drew w wr)) (fun i _ => s.size - (intOf i).toNat)
 case atStart => exact ⟨0,Nat.zero_le _,rfl,hR0,Drew.refl _⟩
 case round =>
  obtain ⟨k,hk,rfl,HK,hb⟩:=hrel;have hm:=HM.out.below hb.out.to;have c3:=za hm.box 3 hm.ct;have c4:=za hm.box 4 hm.ch
  by_cases hlt : k < s.size
  ·have hki : (k : Int) < (s.size : Int):=(by omega);have hk1 : ((k : Int) + 1) <= (s.size : Int):=(by omega);have hwk : IntKind.i64.wrap ((k : Int) + 1) = ((k + 1 : Nat) : Int):=(by rw [show ((k : Int) + 1) = ((k + 1 : Nat) : Int) by omega]; exact IntWalk.i64_in _ (by omega));have hx : StrOk (s.extract 0 (k + 1)):=(by show _ <= maxLen; simp; unfold maxLen; omega);obtain ⟨x,hxe⟩ : ∃ x,s.extract 0 (k + 1) = x:=⟨_,rfl⟩;have hsub : s.size - k = (s.size - (k + 1)) + 1:=(by omega);rw [hxe] at hx
   cases ht : T x with
   | some t =>
    have LK : ∀ q,(Instr.lookup 201 (.map (some mt)) (.string x) true).run Tryz.prog (wr.drewN q) = .ok (.tuple #[.string t,.bool true]) (wr.drewN q):=fun q => by
     have:=(hm.below (zf (Below.refl _ _) q)).t.look (both:=true) zah zi1 (zfu _) hx;rw [ht] at this;exact this
    have HR : Hid (R = (k + 1,t,0)):=by
     show _ = _;rw [HK.out,hsub];unfold findC;rw [hxe,ht]
    clear ht hm hsub HK hx;go_wp2_with fail;go_quiet (fail)
    have HB5 : Hid (Drew w (wr.drewN nq)):=hb.out.trans ⟨nq,rfl⟩;obtain ⟨W5,hW5⟩ : ∃ W5,wr.drewN nq = W5:=⟨_,rfl⟩;rw [hW5] at HB5 ⊢;clear hW5 LK;go_wp2;go_returns;exact ⟨by rw [HR.out]; simp,HB5.out⟩
   | none =>
    have LK : ∀ q,(Instr.lookup 201 (.map (some mt)) (.string x) true).run Tryz.prog (wr.drewN q) = .ok (.tuple #[.string .empty,.bool false]) (wr.drewN q):=fun q => by
     have:=(hm.below (zf (Below.refl _ _) q)).t.look (both:=true) zah zi1 (zfu _) hx;rw [ht] at this;exact this
    have HN : Hid (R = match findC T s (k + 1) (s.size - (k + 1)) with | some (n,t) => (n,t,0) | none => if (H s).getD false = true then (0,.empty,18) else (0,.empty,17)):=by
     show _ = _;rw [HK.out,hsub];rw [findC_none (by rw [hxe]; exact ht)]
    clear ht hm hsub HK hx;go_wp2_with fail;go_quiet (fail)
    have HB5 : Hid (Drew w (wr.drewN nq)):=hb.out.trans ⟨nq,rfl⟩;obtain ⟨W5,hW5⟩ : ∃ W5,wr.drewN nq = W5:=⟨_,rfl⟩;rw [hW5] at HB5 ⊢;clear hW5 LK;go_wp2;go_roundw
    case rel => exact ⟨k + 1,by omega,by go_num,HN,HB5⟩
    case measure => simp [intOf]; omega
  ·have hki : (s.size : Int) <= (k : Int):=(by omega);have hsz : s.size - k = 0:=(by omega);have hsk : StrOk s:=by show _ <= maxLen; unfold maxLen; omega
   cases hh : (H s).getD false with
   | true =>
    have HR : Hid (R = (0,.empty,18)):=by
     show _ = _;rw [HK.out,hsz];show (if (H s).getD false = true then _ else _) = _;rw [if_pos hh]
    clear HK;go_wp2_with (first | (at_lookup; refine zj rfl _ _ rfl zah zg6 (zcc _) hm.h (k:=s) hsk rfl rfl ?_; rw [hh]) | go_in)
    go_wp2;go_returns;exact ⟨by rw [HR.out]; rfl,hb.out⟩
   | false =>
    have HR : Hid (R = (0,.empty,17)):=by
     show _ = _;rw [HK.out,hsz];show (if (H s).getD false = true then _ else _) = _;rw [if_neg (by rw [hh]; decide)]
    clear HK;go_wp2_with (first | (at_lookup; refine zj rfl _ _ rfl zah zg6 (zcc _) hm.h (k:=s) hsk rfl rfl ?_; rw [hh]) | go_in)
    go_wp2;go_returns;exact ⟨by rw [HR.out]; rfl,hb.out⟩
end
end
section
open Go.RowKit Go.Lib
abbrev dcC (c : Nat) (p : Int) (held : ByteArray) (a : Int) (cl : Bool) : Array Value:=#[.pointer (some ⟨c,0,none⟩),.int .i64 p,.string held,.int .i64 a,.bool cl]
abbrev DecB (w : World) (q c : Nat) (p : Int) (held : ByteArray) (a : Int) (cl : Bool) : Prop:=w.heap[q]? = some (.cells (dcC c p held a cl) 130 (0,0))
theorem zf0 : LiesB 118 3:=by unfold LiesB; kernel_rfl
theorem zfl : (118 : TypeId) ≠ 5:=by decide
structure AnsM (base b : Nat) (l : List UInt8) (nf : Nat) (A : Option Addr) (c : Nat) (fs : List (Int × Int)) (w : World) : Prop where
 bld : ∃ cs,BldM 118 base b cs l w /\ cs.size = 3 /\ cs[2]? = some (.slice A nf c)
 own : w.ownsRow base 128 2 (.slice A nf c) nf (Fs fs)
 len : fs.length = nf
def KeepA (w w' : World) : Prop:=∀ (k : Nat) (cur : Array Value) (t : TypeId) (fr : Nat × Nat),w.heap[k]? = some (.cells cur t fr) -> t = 118 \/ t = 5 \/ t = 128 -> w'.heap[k]? = some (.cells cur t fr)
theorem KeepA.of_below {w w' : World} (h : Below w.heap.size w w') : KeepA w w':=fun k cur t fr hk _ => (h.block k (Array.getElem?_eq_some_iff.1 hk).1).trans hk
theorem KeepA.set {w : World} {q : Nat} {cs : Array Value} {t : TypeId} {fr : Nat × Nat} (hq : w.heap[q]? = some (.cells cs t fr)) (ht : t = 130) (i : Nat) (v : Value) : KeepA w (w.setCell ⟨q,i,none⟩ v):=fun k cur t' fr' hk ht' => by
 refine (Below.heap_setCell w ⟨q,i,none⟩ v k fun e => ?_).trans hk;have e : k = q:=e;rw [e,hq] at hk;injection hk with hk;injection hk with _ hk;subst hk ht;rcases ht' with h | h | h <;> exact absurd h (by decide)
theorem z8 {w w' : World} {base kk n : Nat} {e : TypeId} {v : Value} {xs : List Value} (h : w.ownsRow base e kk v n xs) (hk : ∀ (k : Nat) (cur : Array Value) (fr : Nat × Nat),w.heap[k]? = some (.cells cur e fr) -> w'.heap[k]? = some (.cells cur e fr)) : w'.ownsRow base e kk v n xs:=by
 refine ⟨h.1,?_⟩;rcases h.2 with hn | ⟨g,cap,cur,hv,hgb,hh,r⟩
 ·exact .inl hn
 ·exact .inr ⟨g,cap,cur,hv,hgb,hk g _ _ hh,r⟩
theorem BldM.keepT {T : TypeId} {base b : Nat} {cs : Array Value} {l : List UInt8} {w w' : World} (h : BldM T base b cs l w) (hk : ∀ (k : Nat) (cur : Array Value) (t : TypeId) (fr : Nat × Nat),w.heap[k]? = some (.cells cur t fr) -> t = T \/ t = 5 -> w'.heap[k]? = some (.cells cur t fr)) : BldM T base b cs l w':=by
 obtain ⟨v,h1,h2,h3⟩:=h.v;exact ⟨hk _ _ _ _ h.hx (.inl rfl),h.sz,h.p,⟨v,h1,z8 h2 (fun k cur fr hc => hk k cur _ fr hc (.inr rfl)),h3⟩,h.bb⟩
section
variable {base b q c nf cp : Nat} {l l' : List UInt8} {A : Option Addr} {fs : List (Int × Int)} {w w' : World} {p a : Int} {held : ByteArray} {cl : Bool}
theorem AnsM.keep (h : AnsM base b l nf A cp fs w) (hk : KeepA w w') : AnsM base b l nf A cp fs w':=by
 obtain ⟨cs,h1,h2,h3⟩:=h.bld;exact ⟨⟨cs,h1.keepT (fun k cur t fr hc ht => hk k cur t fr hc (ht.elim .inl (fun e => .inr (.inl e)))),h2,h3⟩,z8 h.own (fun k cur fr hc => hk k cur _ fr hc (.inr (.inr rfl))),h.len⟩
theorem AnsM.below (h : AnsM base b l nf A cp fs w) (hb : Below w.heap.size w w') : AnsM base b l nf A cp fs w':=h.keep (.of_below hb)
theorem AnsM.box (h : AnsM base b l nf A cp fs w) : ∃ cs,w.heap[b]? = some (.cells cs 118 (0,0)):=by
 obtain ⟨cs,h1,_,_⟩:=h.bld;exact ⟨cs,h1.hx⟩
theorem AnsM.put {cs : Array Value} (h : AnsM base b l nf A cp fs w) (hc : cs[2]? = some (.slice A nf cp)) (hs : cs.size = 3) (hw : BldP 118 base b cs l' w w') : AnsM base b l' nf A cp fs w':=by
 obtain ⟨cs',h1,h2,h3,h4,h5⟩:=hw;refine ⟨⟨cs',h1,h2.trans hs,(h3 2 (by omega)).trans hc⟩,z8 h.own fun k cur fr hk => h4.2 k _ hk ?_ ?_,h.len⟩
 ·intro e;obtain ⟨cs0,hb⟩:=h.box;rw [e,hb] at hk;injection hk with hk;injection hk with _ hk;exact absurd hk (by decide)
 ·intro cur' fr' e;injection e with _ e;exact absurd e (by decide)
theorem DecB.put (h : DecB w q c p held a cl) (i : Nat) (v : Value) {p' a' : Int} {held' : ByteArray} {cl' : Bool} (he : (dcC c p held a cl).setIfInBounds i v = dcC c p' held' a' cl') : DecB (w.setCell ⟨q,i,none⟩ v) q c p' held' a' cl':=by
 have:=zat h i v;rw [he] at this;exact this
theorem DecB.kept (h : DecB w q c p held a cl) (hk : KeptB b w w') {cs : Array Value} (hb : w.heap[b]? = some (.cells cs 118 (0,0))) : DecB w' q c p held a cl:=by
 refine hk.2 q _ h ?_ ?_
 ·intro e;have h:=h;unfold DecB at h;rw [e,hb] at h;injection h with h;injection h with _ h;exact absurd h (by decide)
 ·intro cur' fr' e;injection e with _ e;exact absurd e (by decide)
theorem DecB.put_other (h : DecB w q c p held a cl) (hbq : b ≠ q) (v : Value) : DecB (w.setCell ⟨b,2,none⟩ v) q c p held a cl:=(Below.heap_setCell w ⟨b,2,none⟩ v q (Ne.symm hbq)).trans h
theorem AnsM.grown {cs : Array Value} {c' : Nat} {A' : Option Addr} {x y : Int} {w9 : World} (h : AnsM base b l nf A cp fs w) (hB : BldM 118 base b cs l w) (hc2 : cs[2]? = some (.slice A nf cp)) (hs : cs.size = 3)
  (hown : w9.ownsRow base 128 2 (.slice A' (nf + 1) c') (nf + 1) (Fs fs ++ [.int .i64 x,.int .i64 y])) (hg : w.grownBy w9 (Value.slice A nf cp).ownBlock) :
  AnsM base b l (nf + 1) A' c' (fs ++ [(x,y)]) (w9.setCell ⟨b,2,none⟩ (.slice A' (nf + 1) c')):=by
 have hty : ∀ (k : Nat) (cur : Array Value) (t : TypeId) (fr : Nat × Nat),w.heap[k]? = some (.cells cur t fr) -> t ≠ 128 -> w9.heap[k]? = some (.cells cur t fr):=fun k cur t fr hk ht => (hg.block k (Array.getElem?_eq_some_iff.1 hk).1 fun e => by
  rcases h.own.2 with ⟨hv,_⟩ | ⟨g,cap,cur2,hv,_,hh,_⟩
  ·rw [hv] at e; cases e
  ·rw [hv] at e;injection e with e;subst e;rw [hk] at hh;injection hh with hh;injection hh with _ hh
   exact ht hh).trans hk
 have hB9:=hB.keepT (w':=w9) (fun k cur t fr hk ht => hty k cur t fr hk (by rcases ht with rfl | rfl <;> decide))
 have hx9:=hB9.hx;obtain ⟨v,h1,h2,h3⟩:=hB9.v;rw [Fs_app] at hown;refine ⟨⟨cs.setIfInBounds 2 (.slice A' (nf + 1) c'),⟨zat hx9 2 _,by rw [Array.size_setIfInBounds]; exact hB9.sz,?_,⟨v,?_,zeg h2 fun g hg => Below.heap_setCell w9 ⟨b,2,none⟩ _ g (zgp hx9 h2 zfl g hg),h3⟩,hB9.bb⟩,by rw [Array.size_setIfInBounds]; exact hs,?_⟩,zdw hown fun g hg => Below.heap_setCell w9 ⟨b,2,none⟩ _ g ?_,by rw [List.length_append,h.len]; rfl⟩
 ·rw [Array.getElem?_setIfInBounds_ne (by decide)]; exact hB9.p
 ·rw [Array.getElem?_setIfInBounds_ne (by decide)]; exact h1
 ·rw [Array.getElem?_setIfInBounds_self_of_lt (by omega)]
 ·intro e;have e : g = b:=e;rcases hown.2 with ⟨hv,_⟩ | ⟨g2,cap,cur2,hv,_,hh,_⟩
  ·rw [hv] at hg; cases hg
  ·rw [hv] at hg;injection hg with hg;have e2 : g2 = b:=hg.trans e;rw [e2,hx9] at hh;injection hh with hh;injection hh with _ hh;exact absurd hh (by decide)
def GoneP (q c : Nat) (p : Int) (held : ByteArray) (cl : Bool) (w w' : World) : Prop:=∃ a',DecB w' q c p held a' cl /\ KeepA w w' /\ Wrote (fun k => k = q) w w'
theorem zip (h : DecB w q c p held a cl) (n : Nat) (hn : n <= held.size) (hs : held.size <= 1073741824) :
  Calls Tryz.prog 50 #[.pointer (some ⟨q,0,none⟩),.int .i64 n] w fun e w' => e = .returned (.tuple #[]) /\ GoneP q c p (held.extract n held.size) cl w w':=by
 have b2:=za h 2 rfl;have b3:=za h 3 rfl;have f2:=zc h 2;have hni : (n : Int) <= (held.size : Int):=(by omega);have h1:=DecB.put h 2 (.string (held.extract n held.size)) (p':=p) (a':=a) (held':=held.extract n held.size) (cl':=cl) rfl;have k1:=KeepA.set h rfl 2 (.string (held.extract n held.size));have r1 : Wrote (fun k => k = q) w (w.setCell ⟨q,2,none⟩ (.string (held.extract n held.size))):=Wrote.setCell (S:=fun k => k = q) (p:=⟨q,2,none⟩) (.inl rfl) _;obtain ⟨W1,hW1⟩ : ∃ W1,w.setCell ⟨q,2,none⟩ (.string (held.extract n held.size)) = W1:=⟨_,rfl⟩;rw [hW1] at h1 k1 r1;obtain ⟨a1,ha1⟩ : ∃ a1,IntKind.i64.wrap (a + (n : Int)) = a1:=⟨_,rfl⟩;have h2:=DecB.put h1 3 (.int .i64 a1) (p':=p) (a':=a1) (held':=held.extract n held.size) (cl':=cl) rfl;have HF : Hid (GoneP q c p (held.extract n held.size) cl w (W1.setCell ⟨q,3,none⟩ (.int .i64 a1))):=⟨a1,h2,fun k cur t fr hk ht => KeepA.set h1 rfl 3 _ k cur t fr (k1 k cur t fr hk ht) ht,r1.trans (Wrote.setCell (S:=fun k => k = q) (p:=⟨q,3,none⟩) (.inl rfl) _)⟩;have b31:=za h1 3 rfl;have f31:=zc h1 3;have HW1:=hz0q hW1;clear h h1 h2 k1 r1 hW1;go_enter Tryz.func50,Tryz.ntmps50;go_upto_region 1 with fail;rw [HW1.out];go_wp2;try rw [ha1]
 go_end0;exact ⟨rfl,HF.out⟩
theorem zlq (c : Nat) (w : World) : Calls Tryz.prog 21 #[.pointer (some ⟨c,0,none⟩),.int .i64 2] w fun e w' => e = .returned (.tuple #[.pointer (some ⟨w.heap.size,0,none⟩),.int .i64 0]) /\ DecB w' w.heap.size c 2 ⟨#[]⟩ 0 false /\ Below w.heap.size w w':=by
 have HD : Hid (DecB (w.alloc (.cells (dcC c 2 ⟨#[]⟩ 0 false) 130)) w.heap.size c 2 ⟨#[]⟩ 0 false):=zm w _ _;go_enter Tryz.func21,Tryz.ntmps21;go_wp2;go_returns;exact ⟨rfl,HD.out,(Below.refl _ w).alloc (Nat.le_refl _) _⟩
def zng (base b q c : Nat) (p : Int) (held : ByteArray) (l : List UInt8) (nf : Nat) (w w' : World) : Prop:=∃ a' A' c' fs',DecB w' q c p held a' false /\ AnsM base b l nf A' c' fs' w' /\ Wrote (fun k => k = q \/ base <= k) w w'
theorem zj3 (h : DecB w q c 2 held a false) (hA : AnsM base b l nf A cp fs w) (n : Nat) (hn : n <= held.size) (hs : held.size <= 1073741824) (hl : l.length <= 1073741824) (hnf : nf <= 1073741824) (hbw : base <= w.heap.size) (hbb : base <= b) :
  Calls Tryz.prog 51 #[.pointer (some ⟨q,0,none⟩),.pointer (some ⟨b,0,none⟩),.int .i64 n] w fun e w' => e = .returned (.bool true) /\ zng base b q c 2 (held.extract n held.size) (l ++ badB) (nf + 1) w w':=by
 obtain ⟨cs,hB,hcs,hc2⟩:=hA.bld;have hbl:=(Array.getElem?_eq_some_iff.1 hB.hx).1;have hql:=(Array.getElem?_eq_some_iff.1 h).1
 have hbq : b ≠ q:=by
  intro e;have h1:=hB.hx;rw [e,h] at h1;injection h1 with h1;injection h1 with _ h1;exact absurd h1 (by decide)
 obtain ⟨W1,hW1⟩ : ∃ W1,W1 = (w.alloc (.cells #[.int .i64 a,.int .i64 n] 128)).drew:=⟨_,rfl⟩;have hb1 : Below w.heap.size w W1:=(by rw [hW1]; exact zb ((Below.refl _ _).alloc (Nat.le_refl _) _) (Drew.to ⟨1,rfl⟩));have hA1:=hA.below hb1;have hB1:=hB.keepT (w':=W1) (fun k cur t fr hk ht => KeepA.of_below hb1 k cur t fr hk (ht.elim .inl fun e => .inr (.inl e)));have h1:=zd h hb1;have hrd1 : RdK W1 (some ⟨w.heap.size,0,none⟩) 1 2 [.int .i64 a,.int .i64 n]:=(by rw [hW1]; exact (RdK.new w _ 1 [.int .i64 a,.int .i64 n] rfl).below (by decide) (Drew.to ⟨1,rfl⟩));have hbs1 : base <= W1.heap.size:=Nat.le_trans hbw hb1.size;have HS0 : Hid (w.drew.cell? ⟨q,3,none⟩ = some (.int .i64 a)):=za h 3 rfl;have HS1 : Hid (W1.cell? ⟨q,3,none⟩ = some (.int .i64 a)):=za h1 3 rfl;have HXO:=hz0q hA1.own;have HW1:=hz0q hW1;have d2:=zr hB.hx hc2;have d21:=zr hB1.hx hc2;have d3:=za h 3 rfl;have d31:=za h1 3 rfl;have HA1:=hz0q hA1;have HB1:=hz0q hB1;have HD1:=hz0q h1;have HBL:=hz0q hb1;have HC2:=hz0q hc2;have HBX:=hz0q hB1.hx
 have HNO : Hid (∀ g,(Value.slice A nf cp).ownBlock = some g -> g ≠ b /\ g ≠ q):=hz0q fun g hg => by
  rcases hA1.own.2 with ⟨hv,_⟩ | ⟨g2,cap2,cur2,hv,_,hh,_⟩
  ·rw [hv] at hg; cases hg
  ·rw [hv] at hg;injection hg with hg;subst hg;constructor
   ·intro e;have:=hB1.hx;rw [<- e,hh] at this;injection this with this;injection this with _ this;exact absurd this (by decide)
   ·intro e;have:=h1;rw [<- e,hh] at this;injection this with this;injection this with _ this;exact absurd this (by decide)
 clear h hA hB hA1 hB1 hb1 h1 hW1 hc2;go_enter Tryz.func51,Tryz.ntmps51;go_upto_region 1 with fail;refine wp_region_held_drew (S:=fun w' => w'.cell? ⟨q,3,none⟩ = some (.int .i64 a)) (by kernel_rfl) (HS0.out) (fun hH0 => ?_);refine wpAnyH_take (i:=0) (v:=.pointer (some ⟨b,0,none⟩)) rfl (by kernel_rfl) (by kernel_rfl) (by kernel_rfl) (fun _ _ _ h => h) (Or.inl ⟨by kernel_rfl,?_⟩) hH0 ?_
 ·intro w hSw;have s1:=hSw;go_simp
  all_goals try with_reducible rfl
 try simp only [gA,gB,gC,Act.put,gD,gE,gF]
 refine wpAnyH_take (i:=1) (v:=.pointer (some ⟨b,0,none⟩)) rfl (by kernel_rfl) (by kernel_rfl) (by kernel_rfl) (fun _ _ _ h => h) (Or.inl ⟨by kernel_rfl,?_⟩) hH0 ?_
 ·intro w hSw;have s1:=hSw;go_simp
  all_goals try with_reducible rfl
 try simp only [gA,gB,gC,Act.put,gD,gE,gF]
 refine wpAnyH_take (i:=2) (v:=.pointer (some ⟨b,0,none⟩)) rfl (by kernel_rfl) (by kernel_rfl) (by kernel_rfl) (fun _ _ _ h => h) (Or.inl ⟨by kernel_rfl,?_⟩) hH0 ?_
 ·intro w hSw;have s1:=hSw;go_simp
  all_goals try with_reducible rfl
 try simp only [gA,gB,gC,Act.put,gD,gE,gF]
 refine wpAnyH_take (i:=3) (v:=.pointer (some ⟨b,2,none⟩)) rfl (by kernel_rfl) (by kernel_rfl) (by kernel_rfl) (fun _ _ _ h => h) (Or.inl ⟨by kernel_rfl,?_⟩) hH0 ?_
 ·intro w hSw;have s1:=hSw;go_simp
  all_goals try with_reducible rfl
 try simp only [gA,gB,gC,Act.put,gD,gE,gF]
 refine wpAnyH_take (i:=5) (v:=.pointer (some ⟨q,0,none⟩)) rfl (by kernel_rfl) (by kernel_rfl) (by kernel_rfl) (fun _ _ _ h => h) (Or.inl ⟨by kernel_rfl,?_⟩) hH0 ?_
 ·intro w hSw;have s1:=hSw;go_simp
  all_goals try with_reducible rfl
 try simp only [gA,gB,gC,Act.put,gD,gE,gF]
 refine wpAnyH_take (i:=6) (v:=.pointer (some ⟨q,0,none⟩)) rfl (by kernel_rfl) (by kernel_rfl) (by kernel_rfl) (fun _ _ _ h => h) (Or.inl ⟨by kernel_rfl,?_⟩) hH0 ?_
 ·intro w hSw;have s1:=hSw;go_simp
  all_goals try with_reducible rfl
 try simp only [gA,gB,gC,Act.put,gD,gE,gF]
 refine wpAnyH_take (i:=7) (v:=.pointer (some ⟨q,3,none⟩)) rfl (by kernel_rfl) (by kernel_rfl) (by kernel_rfl) (fun _ _ _ h => h) (Or.inl ⟨by kernel_rfl,?_⟩) hH0 ?_
 ·intro w hSw;have s1:=hSw;go_simp
  all_goals try with_reducible rfl
 try simp only [gA,gB,gC,Act.put,gD,gE,gF]
 refine wpAnyH_take (i:=8) (v:=.int .i64 a) rfl (by kernel_rfl) (by kernel_rfl) (by kernel_rfl) (fun _ _ _ h => h) (Or.inl ⟨by kernel_rfl,?_⟩) hH0 ?_
 ·intro w hSw;have s1:=hSw;go_simp
  all_goals try with_reducible rfl
 try simp only [gA,gB,gC,Act.put,gD,gE,gF]
 refine wpAnyH_take (i:=9) (v:=.int .i64 n) rfl (by kernel_rfl) (by kernel_rfl) (by kernel_rfl) (fun _ _ _ h => h) (Or.inl ⟨by kernel_rfl,?_⟩) hH0 ?_
 ·intro w hSw;have s1:=hSw;go_simp
  all_goals try with_reducible rfl
 try simp only [gA,gB,gC,Act.put,gD,gE,gF]
 refine wpAnyH_take (i:=10) (v:=.agg #[.int .i64 a,.int .i64 n]) rfl (by kernel_rfl) (by kernel_rfl) (by kernel_rfl) (fun _ _ _ h => h) (Or.inl ⟨by kernel_rfl,?_⟩) hH0 ?_
 ·intro w hSw;have s1:=hSw;go_simp
  all_goals try with_reducible rfl
 try simp only [gA,gB,gC,Act.put,gD,gE,gF]
 refine wpAnyH_ready (rs:=[4,11]) (by kernel_rfl) (by simp) ?_;refine AllReadyH.cons rfl (fun K hK => ?_) (AllReadyH.cons rfl (fun K hK => ?_) AllReadyH.nil)
 ·go_simp
  refine hK.out _ _ (by first | exact HS0.out | exact HS1.out) (fun hH1 => ?_)
  clear hK K hH0;try simp only [gA,gB,gC,Act.put,gD,gE,gF]
  refine wpAnyH_ready (rs:=[11]) (by kernel_rfl) (by simp) ?_;refine AllReadyH.cons rfl (fun K hK => ?_) AllReadyH.nil;go_simp
  rw [<- HW1.out];refine hK.out _ _ (HS1.out) (fun hH2 => ?_);clear hK K hH1;try simp only [gA,gB,gC,Act.put,gD,gE,gF]
  refine wpAnyH_ready (rs:=[12]) (by kernel_rfl) (by simp) ?_;refine AllReadyH.cons rfl (fun K hK => ?_) AllReadyH.nil;refine zgg zey _ rfl (.tmp 11) (.tmp 18) rfl base rfl HXO.out rfl hrd1 (zk2 _ _) (by omega) (by decide) hbs1 ?_;intro A5 c5 w9 hown9 hg9 hat9;have hS9 : w9.cell? ⟨q,3,none⟩ = some (.int .i64 a):=hg9.cell HS1.out (fun e => (HNO.out q e.symm).2 rfl);refine hK.out _ _ (hS9) (fun hH3 => ?_);clear hK K hH2;try simp only [gA,gB,gC,Act.put,gD,gE,gF]
  refine wpAnyH_take (i:=13) (v:=.pointer (some ⟨b,0,none⟩)) rfl (by kernel_rfl) (by kernel_rfl) (by kernel_rfl) (fun _ _ _ h => h) (Or.inl ⟨by kernel_rfl,?_⟩) hH3 ?_
  ·intro w hSw;have s1:=hSw;go_simp
   all_goals try with_reducible rfl
  try simp only [gA,gB,gC,Act.put,gD,gE,gF]
  refine wpAnyH_take (i:=14) (v:=.pointer (some ⟨b,2,none⟩)) rfl (by kernel_rfl) (by kernel_rfl) (by kernel_rfl) (fun _ _ _ h => h) (Or.inl ⟨by kernel_rfl,?_⟩) hH3 ?_
  ·intro w hSw;have s1:=hSw;go_simp
   all_goals try with_reducible rfl
  try simp only [gA,gB,gC,Act.put,gD,gE,gF]
  refine wpAnyH_ready (rs:=[15]) (by kernel_rfl) (by simp) ?_;refine AllReadyH.cons rfl (fun K hK => ?_) AllReadyH.nil;have hb9:=(hg9.block b (Array.getElem?_eq_some_iff.1 HBX.out).1 (fun e => (HNO.out b e.symm).1 rfl)).trans HBX.out;have hcw:=za (j:=2) hb9 HC2.out;have hfw:=zc hb9 2;go_simp
  refine hK.out _ _ ((World.cell?_setCell_other _ _ _ _ (by intro e; injection e with e; exact hbq e)).trans hS9) (fun hH4 => ?_);clear hK K hH3;try simp only [gA,gB,gC,Act.put,gD,gE,gF]
  refine wpAnyH_done (by kernel_rfl) ?_ _;have hq9:=(hg9.block q (Array.getElem?_eq_some_iff.1 HD1.out).1 (fun e => (HNO.out q e.symm).2 rfl)).trans HD1.out;have hfn:=HA1.out.grown HB1.out HC2.out hcs hown9 hg9;have hD2:=DecB.put_other hq9 hbq (.slice A5 (nf + 1) c5);have hWr : Wrote (fun k => k = q \/ base <= k) w (w9.setCell ⟨b,2,none⟩ (.slice A5 (nf + 1) c5)):=((Wrote.of_below HBL.out).trans (Wrote.grown hg9 fun k e => .inr (HA1.out.own.lt k e).1)).trans (Wrote.setCell (p:=⟨b,2,none⟩) (.inl (.inr hbb)) _);obtain ⟨W2,hW2⟩ : ∃ W2,w9.setCell ⟨b,2,none⟩ (.slice A5 (nf + 1) c5) = W2:=⟨_,rfl⟩;rw [hW2] at hfn hD2 hWr ⊢;have hsz2 : base <= W2.heap.size:=Nat.le_trans hbw hWr.size;have HA2:=hz0q hfn;have HR2:=hz0q hWr;have GA:=zip hD2 n hn hs;clear hH4 hfn hown9 hg9 hat9 hS9 hb9 hq9 hcw hfw hrd1 hbs1 d2 d21 d3 d31 hD2 hWr hW2;go_wp2_with fail;refine GA.mono ?_;rintro e w3 ⟨rfl,a3,hD3,hk3,hr3⟩;have hA3:=HA2.out.keep hk3;obtain ⟨cs3,hB3,hcs3,hc3⟩:=hA3.bld;have b1:=za hD3 1 rfl;have hsz3 : base <= w3.heap.size:=Nat.le_trans hsz2 hr3.size;have WR:=zix 118 base b cs3 l w3 hB3 (by rw [hcs3]; exact zf0) zfl hl hsz3;have HD3:=hz0q hD3;have HA3:=hz0q hA3;have HR3:=hz0q (HR2.out.trans (hr3.mono fun k _ e => .inl e));have HX3:=hz0q hB3.hx;have HC3:=hz0q (And.intro hcs3 hc3);clear GA hD3 hk3 hr3 hA3 hB3 hcs3 hc3;go_wp2_with fail;refine WR.mono ?_;rintro e w4 ⟨⟨v4,rfl⟩,hP4⟩;have hA4:=HA3.out.put HC3.out.2 HC3.out.1 hP4;obtain ⟨cs4,_,_,_,hk4,hbe4⟩:=hP4
  have hD4:=DecB.kept HD3.out hk4 HX3.out;have hR4 : Wrote (fun k => k = q \/ base <= k) w3 w4:=⟨hbe4.os,hbe4.tape,hbe4.output,hbe4.size,fun k _ hn => hbe4.block k (Nat.lt_of_not_le fun e => hn (.inr e))⟩;have HF : Hid (zng base b q c 2 (held.extract n held.size) (l ++ badB) (nf + 1) w w4):=⟨a3,_,_,_,hD4,hA4,HR3.out.trans hR4⟩;have b41:=za hD4 1 rfl;clear WR hA4 hk4 hbe4 hD4 hR4 b1;go_wp2;go_returns;exact ⟨rfl,HF.out⟩
 ·go_simp
  rw [<- HW1.out];refine hK.out _ _ (HS1.out) (fun hH1 => ?_);clear hK K hH0;try simp only [gA,gB,gC,Act.put,gD,gE,gF]
  refine wpAnyH_ready (rs:=[4]) (by kernel_rfl) (by simp) ?_;refine AllReadyH.cons rfl (fun K hK => ?_) AllReadyH.nil;go_simp
  refine hK.out _ _ (by first | exact HS0.out | exact HS1.out) (fun hH2 => ?_)
  clear hK K hH1;try simp only [gA,gB,gC,Act.put,gD,gE,gF]
  refine wpAnyH_ready (rs:=[12]) (by kernel_rfl) (by simp) ?_;refine AllReadyH.cons rfl (fun K hK => ?_) AllReadyH.nil;refine zgg zey _ rfl (.tmp 11) (.tmp 18) rfl base rfl HXO.out rfl hrd1 (zk2 _ _) (by omega) (by decide) hbs1 ?_;intro A5 c5 w9 hown9 hg9 hat9;have hS9 : w9.cell? ⟨q,3,none⟩ = some (.int .i64 a):=hg9.cell HS1.out (fun e => (HNO.out q e.symm).2 rfl);refine hK.out _ _ (hS9) (fun hH3 => ?_);clear hK K hH2;try simp only [gA,gB,gC,Act.put,gD,gE,gF]
  refine wpAnyH_take (i:=13) (v:=.pointer (some ⟨b,0,none⟩)) rfl (by kernel_rfl) (by kernel_rfl) (by kernel_rfl) (fun _ _ _ h => h) (Or.inl ⟨by kernel_rfl,?_⟩) hH3 ?_
  ·intro w hSw;have s1:=hSw;go_simp
   all_goals try with_reducible rfl
  try simp only [gA,gB,gC,Act.put,gD,gE,gF]
  refine wpAnyH_take (i:=14) (v:=.pointer (some ⟨b,2,none⟩)) rfl (by kernel_rfl) (by kernel_rfl) (by kernel_rfl) (fun _ _ _ h => h) (Or.inl ⟨by kernel_rfl,?_⟩) hH3 ?_
  ·intro w hSw;have s1:=hSw;go_simp
   all_goals try with_reducible rfl
  try simp only [gA,gB,gC,Act.put,gD,gE,gF]
  refine wpAnyH_ready (rs:=[15]) (by kernel_rfl) (by simp) ?_;refine AllReadyH.cons rfl (fun K hK => ?_) AllReadyH.nil;have hb9:=(hg9.block b (Array.getElem?_eq_some_iff.1 HBX.out).1 (fun e => (HNO.out b e.symm).1 rfl)).trans HBX.out;have hcw:=za (j:=2) hb9 HC2.out;have hfw:=zc hb9 2;go_simp
  refine hK.out _ _ ((World.cell?_setCell_other _ _ _ _ (by intro e; injection e with e; exact hbq e)).trans hS9) (fun hH4 => ?_);clear hK K hH3;try simp only [gA,gB,gC,Act.put,gD,gE,gF]
  refine wpAnyH_done (by kernel_rfl) ?_ _;have hq9:=(hg9.block q (Array.getElem?_eq_some_iff.1 HD1.out).1 (fun e => (HNO.out q e.symm).2 rfl)).trans HD1.out;have hfn:=HA1.out.grown HB1.out HC2.out hcs hown9 hg9;have hD2:=DecB.put_other hq9 hbq (.slice A5 (nf + 1) c5);have hWr : Wrote (fun k => k = q \/ base <= k) w (w9.setCell ⟨b,2,none⟩ (.slice A5 (nf + 1) c5)):=((Wrote.of_below HBL.out).trans (Wrote.grown hg9 fun k e => .inr (HA1.out.own.lt k e).1)).trans (Wrote.setCell (p:=⟨b,2,none⟩) (.inl (.inr hbb)) _);obtain ⟨W2,hW2⟩ : ∃ W2,w9.setCell ⟨b,2,none⟩ (.slice A5 (nf + 1) c5) = W2:=⟨_,rfl⟩;rw [hW2] at hfn hD2 hWr ⊢;have hsz2 : base <= W2.heap.size:=Nat.le_trans hbw hWr.size;have HA2:=hz0q hfn;have HR2:=hz0q hWr;have GA:=zip hD2 n hn hs;clear hH4 hfn hown9 hg9 hat9 hS9 hb9 hq9 hcw hfw hrd1 hbs1 d2 d21 d3 d31 hD2 hWr hW2;go_wp2_with fail;refine GA.mono ?_;rintro e w3 ⟨rfl,a3,hD3,hk3,hr3⟩;have hA3:=HA2.out.keep hk3;obtain ⟨cs3,hB3,hcs3,hc3⟩:=hA3.bld;have b1:=za hD3 1 rfl;have hsz3 : base <= w3.heap.size:=Nat.le_trans hsz2 hr3.size;have WR:=zix 118 base b cs3 l w3 hB3 (by rw [hcs3]; exact zf0) zfl hl hsz3;have HD3:=hz0q hD3;have HA3:=hz0q hA3;have HR3:=hz0q (HR2.out.trans (hr3.mono fun k _ e => .inl e));have HX3:=hz0q hB3.hx;have HC3:=hz0q (And.intro hcs3 hc3);clear GA hD3 hk3 hr3 hA3 hB3 hcs3 hc3;go_wp2_with fail;refine WR.mono ?_;rintro e w4 ⟨⟨v4,rfl⟩,hP4⟩;have hA4:=HA3.out.put HC3.out.2 HC3.out.1 hP4;obtain ⟨cs4,_,_,_,hk4,hbe4⟩:=hP4
  have hD4:=DecB.kept HD3.out hk4 HX3.out;have hR4 : Wrote (fun k => k = q \/ base <= k) w3 w4:=⟨hbe4.os,hbe4.tape,hbe4.output,hbe4.size,fun k _ hn => hbe4.block k (Nat.lt_of_not_le fun e => hn (.inr e))⟩;have HF : Hid (zng base b q c 2 (held.extract n held.size) (l ++ badB) (nf + 1) w w4):=⟨a3,_,_,_,hD4,hA4,HR3.out.trans hR4⟩;have b41:=za hD4 1 rfl;clear WR hA4 hk4 hbe4 hD4 hR4 b1;go_wp2;go_returns;exact ⟨rfl,HF.out⟩
end
end
section
open Go.RowKit Go.Lib
structure StpI (T : TxC) (H : HdC) (w0 : World) (q c : Nat) (h0 hd : ByteArray) (l : List UInt8) (nf : Nat) (A : Option Addr) (cp : Nat) (fs : List (Int × Int)) (a : Int) (w : World) : Prop where
 dec : DecB w q c 2 hd a false
 ans : AnsM w0.heap.size w0.heap.size l nf A cp fs w
 wr : Wrote (fun k => k = q \/ w0.heap.size <= k) w0 w
 run : l ++ (stpC T H hd).1 = (stpC T H h0).1 /\ (stpC T H hd).2 = (stpC T H h0).2
 many : nf + hd.size <= h0.size
 len : l.length + 200 * hd.size <= 200 * h0.size
theorem StpI.below {T : TxC} {H : HdC} {w0 w w' : World} {q c nf cp : Nat} {h0 hd : ByteArray} {l : List UInt8} {A : Option Addr} {fs : List (Int × Int)} {a : Int} (h : StpI T H w0 q c h0 hd l nf A cp fs a w) (hb : Below w.heap.size w w') : StpI T H w0 q c h0 hd l nf A cp fs a w' :=
 ⟨zd h.dec hb,h.ans.below hb,h.wr.then_below hb,h.run,h.many,h.len⟩
def StepP (q c : Nat) (held : ByteArray) (out : List UInt8) (N : Nat) (w : World) (e : Ending) (w' : World) : Prop :=
 ∃ A n cp fs a',e = .returned (.tuple #[.string ⟨out.toArray⟩,.slice A n cp,.int .i64 0]) /\ DecB w' q c 2 held a' false /\ w'.ownsRow w.heap.size 128 2 (.slice A n cp) n (Fs fs) /\ fs.length = n /\ n + held.size <= N /\ Wrote (fun k => k = q) w w'
theorem KeptR.trans {a b c : World} (h : KeptR a b) (k : KeptR b c) : KeptR a c:=⟨Nat.le_trans h.1 k.1,fun i o h1 h2 => k.2 i o (h.2 i o h1 h2) h2⟩
theorem DecB.keptR {w w' : World} {q c : Nat} {p a : Int} {held : ByteArray} {cl : Bool} (h : DecB w q c p held a cl) (hk : KeptR w w') : DecB w' q c p held a cl:=hk.2 q _ h fun cur fr e => by injection e with _ e; exact absurd e (by decide)
section
variable {T : TxC} {H : HdC} {w : World} {q c mt mh m n : Nat} {cs : Array Value} {held : ByteArray} {a : Int}
theorem zlb (h : DecB w q c 2 held a false) (hM : ChsM w c cs mt mh m n T H) (hT : GoodT T) (s : ByteArray) (hs : held.size + s.size <= 100000) :
  Calls Tryz.prog 22 #[.pointer (some ⟨q,0,none⟩),.string s] w (StepP q c (stpC T H (held ++ s)).2 (stpC T H (held ++ s)).1 (held.size + s.size) w):=by
 have hne:=hM.ne h (by decide);have hlt:=hM.lt;have HMW : Hid (∀ W,Wrote (fun k => k = q \/ w.heap.size <= k) w W -> ChsM W c cs mt mh m n T H):=fun W hW => hM.wrote hW ⟨fun e => e.elim hne.1 (by omega),fun e => e.elim hne.2.1 (by omega),fun e => e.elim hne.2.2 (by omega)⟩;obtain ⟨h0,hh0⟩ : ∃ h0,h0 = held ++ s:=⟨_,rfl⟩;have hsz0 : h0.size = held.size + s.size:=(by rw [hh0,ByteArray.size_append]);rw [<- hh0,<- hsz0];have b4:=za h 4 rfl;have b2:=za h 2 rfl;have f2:=zc h 2;have hql:=(Array.getElem?_eq_some_iff.1 h).1;have hov : ¬ (9223372036854775807 < held.size + s.size):=(by omega);have h1:=DecB.put h 2 (.string h0) (p':=2) (a':=a) (held':=h0) (cl':=false) rfl;obtain ⟨W1,hW1⟩ : ∃ W1,w.setCell ⟨q,2,none⟩ (.string h0) = W1:=⟨_,rfl⟩;have r1 : Wrote (fun k => k = q \/ w.heap.size <= k) w W1:=(by rw [<- hW1]; exact Wrote.setCell (p:=⟨q,2,none⟩) (.inl (.inl rfl)) _);have hz1 : W1.heap.size = w.heap.size:=(by rw [<- hW1]; simp [World.setCell]);rw [hW1] at h1;obtain ⟨W2,hW2⟩ : ∃ W2,W1.alloc (.cells #[.pointer none,.slice none 0 0,.slice none 0 0] 118) = W2:=⟨_,rfl⟩;have hb2 : Below W1.heap.size W1 W2:=(by rw [<- hW2]; exact (Below.refl _ _).alloc (Nat.le_refl _) _);have hx2 : W2.heap[w.heap.size]? = some (.cells #[.pointer none,.slice none 0 0,.slice none 0 0] 118 (0,0)):=(by rw [<- hW2,<- hz1]; exact zm _ _ _);have hans : AnsM w.heap.size w.heap.size [] 0 none 0 [] W2:=⟨⟨_,⟨hx2,by decide,.inl rfl,⟨_,rfl,World.ownsRow_nil _ _ _ _,fun _ => rfl⟩,Nat.le_refl _⟩,rfl,rfl⟩,World.ownsRow_nil _ _ _ _,rfl⟩
 have HI0 : Hid (StpI T H w q c h0 h0 [] 0 none 0 [] a W2):=⟨zd h1 hb2,hans,r1.then_below hb2,⟨rfl,rfl⟩,by omega,by simp⟩;have HW1:=hz0q hW1;have HW2:=hz0q hW2;have HZ1:=hz0q hz1;have HT:=hz0q hT;have HH0:=hz0q hh0;have hs0 : h0.size <= 100000:=(by omega);clear h hM hne hlt h1 r1 hb2 hx2 hans hW1 hW2 hz1 hT hh0 hsz0;go_enter Tryz.func22,Tryz.ntmps22;go_upto_region 6 with fail;rw [<- HH0.out,HW1.out];have hz1:=HZ1.out;have hw2:=HW2.out;go_wp2_with fail;clear hz1 hw2 b4 b2 f2 hov;go_loopg [8,9,10] (h0.size + 1) (fun gk v8 v9 v10 wr => ∃ (hd : ByteArray) (l : List UInt8) (nf : Nat) (A : Option Addr) (cp : Nat) (fs : List (Int × Int)) (a2 : Int),hd.size < gk /\ Hid (StpI T H w q c h0 hd l nf A cp fs a2 wr))
 case atStart => exact ⟨h0,[],0,none,0,[],a,by omega,HI0⟩
 case round =>
  obtain ⟨hd,l,nf,A,cp,fs,a2,hg,HI⟩:=hrel;obtain ⟨wo,rfl⟩ : ∃ wo,wo = wr:=⟨wr,rfl⟩;have hfl:=HI.out.len;have hfm:=HI.out.many
  by_cases hz : hd.size = 0
  ·have HEN : Hid (l = (stpC T H h0).1 /\ hd = (stpC T H h0).2):=by
    have:=HI.out.run;rw [zkm hz] at this;exact ⟨by simpa using this.1,this.2⟩
   have hde : hd.toList.isEmpty = true:=(by rw [z7]; have:=zi hd; rw [hz] at this; rw [List.length_eq_zero_iff.1 this]; rfl);have b2:=za HI.out.dec 2 rfl;go_upto_region 17 with fail;clear hde b2;obtain ⟨cse,hBe,hcse,hce⟩:=HI.out.ans.bld;have hBd:=hBe.keepT (w':=wo.drew) (fun k cur t fr hk _ => hk);have BS:=zdg 118 w.heap.size w.heap.size cse l wo.drew hBd;have HXE : Hid (wo.drew.heap[w.heap.size]? = some (.cells cse 118 (0,0))):=hBd.hx;have HCE:=hz0q hce;have HS0 : Hid (wo.drew.cell? ⟨w.heap.size,2,none⟩ = some (.slice A nf cp) /\ (Below w.heap.size wo wo.drew /\ KeptR wo wo.drew)):=⟨zr hBd.hx hce,((show Drew wo wo.drew from ⟨1,rfl⟩).below _),KeptR.drew wo⟩
   clear hBe hBd hcse hce;refine wp_region_held_drew (S:=fun w' => w'.cell? ⟨w.heap.size,2,none⟩ = some (.slice A nf cp) /\ (Below w.heap.size wo w' /\ KeptR wo w')) (by kernel_rfl) (HS0.out) (fun hH0 => ?_);refine wpAnyH_take (i:=0) (v:=.pointer (some ⟨w.heap.size,0,none⟩)) rfl (by kernel_rfl) (by kernel_rfl) (by kernel_rfl) (fun _ _ _ h => h) (Or.inl ⟨by kernel_rfl,?_⟩) hH0 ?_
   ·intro w hSw;obtain ⟨s1,s2⟩:=hSw;go_simp
    all_goals try with_reducible rfl
   try simp only [gA,gB,gC,Act.put,gD,gE,gF]
   refine wpAnyH_take (i:=2) (v:=.pointer (some ⟨w.heap.size,2,none⟩)) rfl (by kernel_rfl) (by kernel_rfl) (by kernel_rfl) (fun _ _ _ h => h) (Or.inl ⟨by kernel_rfl,?_⟩) hH0 ?_
   ·intro w hSw;obtain ⟨s1,s2⟩:=hSw;go_simp
    all_goals try with_reducible rfl
   try simp only [gA,gB,gC,Act.put,gD,gE,gF]
   refine wpAnyH_take (i:=3) (v:=.slice A nf cp) rfl (by kernel_rfl) (by kernel_rfl) (by kernel_rfl) (fun _ _ _ h => h) (Or.inl ⟨by kernel_rfl,?_⟩) hH0 ?_
   ·intro w hSw;obtain ⟨s1,s2⟩:=hSw;go_simp
    all_goals try with_reducible rfl
   try simp only [gA,gB,gC,Act.put,gD,gE,gF]
   refine wpAnyH_ready (rs:=[1]) (by kernel_rfl) (by simp) ?_;refine AllReadyH.cons rfl (fun K hK => ?_) AllReadyH.nil;go_simp
   refine (BS).mono ?_;rintro e w50 ⟨rfl,hbe,hke⟩;refine hK.out _ _ (⟨zr (hke.2 _ _ HXE.out (fun cur fr e => by injection e with _ e; exact absurd e (by decide))) HCE.out,hH0.2.1.trans hbe,hH0.2.2.trans hke⟩) (fun hH1 => ?_);clear hK K hH0;try simp only [gA,gB,gC,Act.put,gD,gE,gF]
   refine wpAnyH_take (i:=4) (v:=.string ⟨l.toArray⟩) rfl (by kernel_rfl) (by kernel_rfl) (by kernel_rfl) (fun _ _ _ h => h) (Or.inl ⟨by kernel_rfl,?_⟩) hH1 ?_
   ·intro w hSw;obtain ⟨s1,s2⟩:=hSw;go_simp
    all_goals try with_reducible rfl
   try simp only [gA,gB,gC,Act.put,gD,gE,gF]
   refine wpAnyH_take (i:=5) (v:=.slice A nf cp) rfl (by kernel_rfl) (by kernel_rfl) (by kernel_rfl) (fun _ _ _ h => h) (Or.inl ⟨by kernel_rfl,?_⟩) hH1 ?_
   ·intro w hSw;obtain ⟨s1,s2⟩:=hSw;go_simp
    all_goals try with_reducible rfl
   try simp only [gA,gB,gC,Act.put,gD,gE,gF]
   refine wpAnyH_take (i:=6) (v:=.int .i64 0) rfl (by kernel_rfl) (by kernel_rfl) (by kernel_rfl) (fun _ _ _ h => h) (Or.inl ⟨by kernel_rfl,?_⟩) hH1 ?_
   ·intro w hSw;obtain ⟨s1,s2⟩:=hSw;go_simp
    all_goals try with_reducible rfl
   try simp only [gA,gB,gC,Act.put,gD,gE,gF]
   refine wpAnyH_done (by kernel_rfl) ?_ _;have hw : Wrote (fun k => k = q) w w50:=((HI.out.wr.trans (⟨hH1.2.1.os,hH1.2.1.tape,hH1.2.1.output,hH1.2.1.size,fun k _ hn => hH1.2.1.block k (Nat.lt_of_not_le fun e => hn (.inr e))⟩)).mono fun k hk hS => hS.elim id (fun e => by omega));have HF : Hid (StepP q c (stpC T H h0).2 (stpC T H h0).1 h0.size w (.returned (.tuple #[.string ⟨l.toArray⟩,.slice A nf cp,.int .i64 0])) w50):=⟨A,nf,cp,fs,a2,by rw [HEN.out.1],by rw [<- HEN.out.2]; exact DecB.keptR HI.out.dec hH1.2.2,z8 HI.out.ans.own (fun k cur fr hk => hH1.2.2.2 k _ hk (fun cur' fr' e => by injection e with _ e; exact absurd e (by decide))),HI.out.ans.len,by rw [<- HEN.out.2]; exact hfm,hw⟩;clear hH1 hbe hke BS hw HS0;go_wp2;go_returns;exact HF.out
  ·have hdn : hd.toList.isEmpty = false:=by
    rw [z7]
    cases hb : bs hd with
    | nil => exact absurd (by rw [<- zi,hb]; rfl) hz
    | cons x t => rfl
   have hm:=HMW.out wo HI.out.wr;have hd1 : hd.size <= 100000:=(by omega);have NX:=fun k => Calls.quiet_of (n:=k) (cnext_any (hm.below (zf (Below.refl _ wo) k)) hd hd1);have b0:=za HI.out.dec 0 rfl;have b2:=za HI.out.dec 2 rfl;obtain ⟨n1,hn1⟩ : ∃ n1,n1 = (nextC T H hd).1:=⟨_,rfl⟩;obtain ⟨t1,ht1⟩ : ∃ t1,t1 = (nextC T H hd).2.1:=⟨_,rfl⟩;rw [<- hn1,<- ht1] at NX;have HN1:=hz0q hn1;have HT1:=hz0q ht1;clear hm hn1 ht1;rcases nextC_cases T H hd with he | he | he
   ·
    rw [he] at NX;have hok:=zfz he;rw [<- HN1.out,<- HT1.out] at hok;have hgt:=HT.out _ _ hok.2.2;have hn0:=hok.1;have hnh:=hok.2.1;have htz:=hgt.2
    have HRUN : Hid (stpC T H hd = (bs t1 ++ (stpC T H (hd.extract n1 hd.size)).1,(stpC T H (hd.extract n1 hd.size)).2)):=by
     show _ = _;rw [znm hz he,<- HN1.out,<- HT1.out]
    clear he hok hgt;go_upto_region 8 with fail;go_quiet ((go_at_call 49; exact NX _))
    have HI5:=hz0q (HI.out.below (w':=wo.drewN nq) (zf (Below.refl _ wo) nq));obtain ⟨W5,hW5⟩ : ∃ W5,wo.drewN nq = W5:=⟨_,rfl⟩;rw [hW5] at HI5 ⊢;clear hW5 NX b0 b2 hdn;obtain ⟨cs5,hB5,hcs5,hc5⟩:=HI5.out.ans.bld;have hs5 : w.heap.size <= W5.heap.size:=HI5.out.wr.size;have WS:=zf6 118 w.heap.size w.heap.size cs5 l t1 W5 hB5 (by rw [hcs5]; exact zf0) zfl (by omega) (by omega) hs5;have HX5:=hz0q hB5.hx;have HC5:=hz0q (And.intro hcs5 hc5);clear hB5 hcs5 hc5;go_wp2_with fail;refine WS.mono ?_;rintro e w6 ⟨rfl,hP6⟩;have hA6:=HI5.out.ans.put HC5.out.2 HC5.out.1 hP6;obtain ⟨cs6,_,_,_,hk6,hbe6⟩:=hP6;have hD6:=DecB.kept HI5.out.dec hk6 HX5.out;have HR6 : Hid (Wrote (fun k => k = q \/ w.heap.size <= k) w w6):=HI5.out.wr.trans ⟨hbe6.os,hbe6.tape,hbe6.output,hbe6.size,fun k _ hn => hbe6.block k (Nat.lt_of_not_le fun e => hn (.inr e))⟩;have GA:=zip hD6 n1 hnh (by omega);have HA6:=hz0q hA6;clear WS hA6 hk6 hbe6 hD6;go_wp2_with fail;refine GA.mono ?_;rintro e w7 ⟨rfl,a3,hD7,hk7,hr7⟩
    have HIN : Hid (StpI T H w q c h0 (hd.extract n1 hd.size) (l ++ bs t1) nf A cp fs a3 w7):=by
     have hr:=HI5.out.run;rw [HRUN.out] at hr;refine ⟨hD7,HA6.out.keep hk7,HR6.out.trans (hr7.mono fun k _ e => .inl e),⟨?_,hr.2⟩,?_,?_⟩
     ·rw [List.append_assoc]; exact hr.1
     ·rw [zbw]; omega
     ·rw [zbw,List.length_append,zi]; omega
    have hlt : (hd.extract n1 hd.size).size < hd.size:=(by rw [zbw]; omega);clear GA hD7 hk7 hr7;go_wp2;go_roundg (hd.size)
    case measure => omega
    case rel => exact ⟨_,_,_,_,_,_,_,hlt,HIN⟩
   ·
    rw [he] at NX
    have HEN : Hid (l = (stpC T H h0).1 /\ hd = (stpC T H h0).2):=by
     have:=HI.out.run;rw [zk9 hz he] at this;exact ⟨by simpa using this.1,this.2⟩
    clear he;go_upto_region 8 with fail;go_quiet ((go_at_call 49; exact NX _))
    have HI5:=hz0q (HI.out.below (w':=wo.drewN nq) (zf (Below.refl _ wo) nq));obtain ⟨W5,hW5⟩ : ∃ W5,wo.drewN nq = W5:=⟨_,rfl⟩;rw [hW5] at HI5 ⊢;clear hW5 NX b0 b2 hdn;go_upto_region 13 with fail;obtain ⟨cse,hBe,hcse,hce⟩:=HI5.out.ans.bld;have hBd:=hBe.keepT (w':=W5.drew) (fun k cur t fr hk _ => hk);have BS:=zdg 118 w.heap.size w.heap.size cse l W5.drew hBd;have HXE : Hid (W5.drew.heap[w.heap.size]? = some (.cells cse 118 (0,0))):=hBd.hx;have HCE:=hz0q hce;have HS0 : Hid (W5.drew.cell? ⟨w.heap.size,2,none⟩ = some (.slice A nf cp) /\ (Below w.heap.size W5 W5.drew /\ KeptR W5 W5.drew)):=⟨zr hBd.hx hce,((show Drew W5 W5.drew from ⟨1,rfl⟩).below _),KeptR.drew W5⟩
    clear hBe hBd hcse hce;refine wp_region_held_drew (S:=fun w' => w'.cell? ⟨w.heap.size,2,none⟩ = some (.slice A nf cp) /\ (Below w.heap.size W5 w' /\ KeptR W5 w')) (by kernel_rfl) (HS0.out) (fun hH0 => ?_);refine wpAnyH_take (i:=0) (v:=.pointer (some ⟨w.heap.size,0,none⟩)) rfl (by kernel_rfl) (by kernel_rfl) (by kernel_rfl) (fun _ _ _ h => h) (Or.inl ⟨by kernel_rfl,?_⟩) hH0 ?_
    ·intro w hSw;obtain ⟨s1,s2⟩:=hSw;go_simp
     all_goals try with_reducible rfl
    try simp only [gA,gB,gC,Act.put,gD,gE,gF]
    refine wpAnyH_take (i:=2) (v:=.pointer (some ⟨w.heap.size,2,none⟩)) rfl (by kernel_rfl) (by kernel_rfl) (by kernel_rfl) (fun _ _ _ h => h) (Or.inl ⟨by kernel_rfl,?_⟩) hH0 ?_
    ·intro w hSw;obtain ⟨s1,s2⟩:=hSw;go_simp
     all_goals try with_reducible rfl
    try simp only [gA,gB,gC,Act.put,gD,gE,gF]
    refine wpAnyH_take (i:=3) (v:=.slice A nf cp) rfl (by kernel_rfl) (by kernel_rfl) (by kernel_rfl) (fun _ _ _ h => h) (Or.inl ⟨by kernel_rfl,?_⟩) hH0 ?_
    ·intro w hSw;obtain ⟨s1,s2⟩:=hSw;go_simp
     all_goals try with_reducible rfl
    try simp only [gA,gB,gC,Act.put,gD,gE,gF]
    refine wpAnyH_ready (rs:=[1]) (by kernel_rfl) (by simp) ?_;refine AllReadyH.cons rfl (fun K hK => ?_) AllReadyH.nil;go_simp
    refine (BS).mono ?_;rintro e w50 ⟨rfl,hbe,hke⟩;refine hK.out _ _ (⟨zr (hke.2 _ _ HXE.out (fun cur fr e => by injection e with _ e; exact absurd e (by decide))) HCE.out,hH0.2.1.trans hbe,hH0.2.2.trans hke⟩) (fun hH1 => ?_);clear hK K hH0;try simp only [gA,gB,gC,Act.put,gD,gE,gF]
    refine wpAnyH_take (i:=4) (v:=.string ⟨l.toArray⟩) rfl (by kernel_rfl) (by kernel_rfl) (by kernel_rfl) (fun _ _ _ h => h) (Or.inl ⟨by kernel_rfl,?_⟩) hH1 ?_
    ·intro w hSw;obtain ⟨s1,s2⟩:=hSw;go_simp
     all_goals try with_reducible rfl
    try simp only [gA,gB,gC,Act.put,gD,gE,gF]
    refine wpAnyH_take (i:=5) (v:=.slice A nf cp) rfl (by kernel_rfl) (by kernel_rfl) (by kernel_rfl) (fun _ _ _ h => h) (Or.inl ⟨by kernel_rfl,?_⟩) hH1 ?_
    ·intro w hSw;obtain ⟨s1,s2⟩:=hSw;go_simp
     all_goals try with_reducible rfl
    try simp only [gA,gB,gC,Act.put,gD,gE,gF]
    refine wpAnyH_take (i:=6) (v:=.int .i64 0) rfl (by kernel_rfl) (by kernel_rfl) (by kernel_rfl) (fun _ _ _ h => h) (Or.inl ⟨by kernel_rfl,?_⟩) hH1 ?_
    ·intro w hSw;obtain ⟨s1,s2⟩:=hSw;go_simp
     all_goals try with_reducible rfl
    try simp only [gA,gB,gC,Act.put,gD,gE,gF]
    refine wpAnyH_done (by kernel_rfl) ?_ _;have hw : Wrote (fun k => k = q) w w50:=((HI5.out.wr.trans (⟨hH1.2.1.os,hH1.2.1.tape,hH1.2.1.output,hH1.2.1.size,fun k _ hn => hH1.2.1.block k (Nat.lt_of_not_le fun e => hn (.inr e))⟩)).mono fun k hk hS => hS.elim id (fun e => by omega));have HF : Hid (StepP q c (stpC T H h0).2 (stpC T H h0).1 h0.size w (.returned (.tuple #[.string ⟨l.toArray⟩,.slice A nf cp,.int .i64 0])) w50):=⟨A,nf,cp,fs,a2,by rw [HEN.out.1],by rw [<- HEN.out.2]; exact DecB.keptR HI5.out.dec hH1.2.2,z8 HI5.out.ans.own (fun k cur fr hk => hH1.2.2.2 k _ hk (fun cur' fr' e => by injection e with _ e; exact absurd e (by decide))),HI5.out.ans.len,by rw [<- HEN.out.2]; exact hfm,hw⟩;clear hH1 hbe hke BS hw HS0;go_wp2;go_returns;exact HF.out
   ·
    have he0 : (nextC T H hd).2.2 ≠ 0:=(by rw [he]; decide);have he18 : (nextC T H hd).2.2 ≠ 18:=(by rw [he]; decide);have HRUN : Hid (stpC T H hd = (badB ++ (stpC T H (hd.extract 1 hd.size)).1,(stpC T H (hd.extract 1 hd.size)).2)):=zml hz he0 he18;rw [he] at NX;clear he he0 he18;go_upto_region 8 with fail;go_quiet ((go_at_call 49; exact NX _))
    have HI5:=hz0q (HI.out.below (w':=wo.drewN nq) (zf (Below.refl _ wo) nq));obtain ⟨W5,hW5⟩ : ∃ W5,wo.drewN nq = W5:=⟨_,rfl⟩;rw [hW5] at HI5 ⊢;clear hW5 NX b0 b2 hdn;have hs5 : w.heap.size <= W5.heap.size:=HI5.out.wr.size;have FA:=zj3 HI5.out.dec HI5.out.ans 1 (by omega) (by omega) (by omega) (by omega) hs5 (Nat.le_refl _);go_wp2_with fail;refine FA.mono ?_;rintro e w6 ⟨rfl,a3,A3,c3,fs3,hD6,hA6,hr6⟩
    have HIN : Hid (StpI T H w q c h0 (hd.extract 1 hd.size) (l ++ badB) (nf + 1) A3 c3 fs3 a3 w6):=by
     have hr:=HI5.out.run;rw [HRUN.out] at hr;have hb3 : badB.length = 3:=rfl;refine ⟨hD6,hA6,HI5.out.wr.trans hr6,⟨?_,hr.2⟩,?_,?_⟩
     ·rw [List.append_assoc]; exact hr.1
     ·rw [zbw]; omega
     ·rw [zbw,List.length_append]; omega
    have hlt : (hd.extract 1 hd.size).size < hd.size:=(by rw [zbw]; omega);clear FA hD6 hA6 hr6;go_wp2;go_roundg (hd.size)
    case measure => omega
    case rel => exact ⟨_,_,_,_,_,_,_,hlt,HIN⟩
end
end
section
open Go.RowKit Go.Lib
theorem zmi {P : Program} {c : Code} {a : Act} {w : World} {Q : Exit -> Act -> World -> Prop} (h : c.wp P (fun e a' w' => match e with | .normal => Q .normal a' w' | _ => False) a w) : c.wp P Q a w:=by
 refine wp_mono h ?_;intro e a' w' hq
 cases e <;> first | exact hq | exact hq.elim
def FlushP (q : Nat) (held : ByteArray) (w : World) (e : Ending) (w' : World) : Prop :=
 ∃ A n cp fs,e = .returned (.tuple #[.string ⟨(flsC held).toArray⟩,.slice A n cp,.int .i64 0]) /\ w'.ownsRow w.heap.size 128 2 (.slice A n cp) n (Fs fs) /\ fs.length = n /\ n <= held.size /\ Wrote (fun k => k = q) w w'
section
variable {w : World} {q c : Nat} {held : ByteArray} {a p : Int} {cl : Bool}
theorem zm7 (u : FrameMode) (h : DecB w q c p held a cl) :
  CallsD Tryz.prog 52 #[.pointer (some ⟨q,0,none⟩)] u w fun e u' w' => u' = u /\ (e = .returned (.tuple #[]) /\ KeepA w w' /\ Wrote (fun k => k = q) w w'):=by
 have f4:=zc h 4;have h1:=DecB.put h 4 (.bool true) (p':=p) (a':=a) (held':=held) (cl':=true) rfl;have k1:=KeepA.set h rfl 4 (.bool true);have r1 : Wrote (fun k => k = q) w (w.setCell ⟨q,4,none⟩ (.bool true)):=Wrote.setCell (S:=fun k => k = q) (p:=⟨q,4,none⟩) (.inl rfl) _;obtain ⟨W1,hW1⟩ : ∃ W1,w.setCell ⟨q,4,none⟩ (.bool true) = W1:=⟨_,rfl⟩;have b4:=za h 4 rfl;have b2:=za h 2 rfl;have f2:=zc h 2;rw [hW1] at h1 k1 r1;have HF : Hid (KeepA w (W1.setCell ⟨q,2,none⟩ (.string .empty)) /\ Wrote (fun k => k = q) w (W1.setCell ⟨q,2,none⟩ (.string .empty))):=⟨fun k cur t fr hk ht => KeepA.set h1 rfl 2 _ k cur t fr (k1 k cur t fr hk ht) ht,r1.trans (Wrote.setCell (S:=fun k => k = q) (p:=⟨q,2,none⟩) (.inl rfl) _)⟩;have HW1:=hz0q hW1;clear h h1 k1 r1 hW1;go_enter_d Tryz.func52,Tryz.ntmps52
 go_wp2;go_end0;have hF:=HF.out;rw [<- HW1.out] at hF;exact ⟨rfl,hF⟩
theorem zj1 (h : DecB w q c 2 held a false) (hs : held.size <= 100000) :
  Calls Tryz.prog 23 #[.pointer (some ⟨q,0,none⟩)] w (FlushP q held w):=by
 have b4:=za h 4 rfl;have b2:=za h 2 rfl;obtain ⟨W2,hW2⟩ : ∃ W2,w.alloc (.cells #[.pointer none,.slice none 0 0,.slice none 0 0] 118) = W2:=⟨_,rfl⟩;have hb2 : Below w.heap.size w W2:=(by rw [<- hW2]; exact (Below.refl _ _).alloc (Nat.le_refl _) _);have hx2 : W2.heap[w.heap.size]? = some (.cells #[.pointer none,.slice none 0 0,.slice none 0 0] 118 (0,0)):=(by rw [<- hW2]; exact zm _ _ _);have hans : AnsM w.heap.size w.heap.size [] 0 none 0 [] W2:=⟨⟨_,⟨hx2,by decide,.inl rfl,⟨_,rfl,World.ownsRow_nil _ _ _ _,fun _ => rfl⟩,Nat.le_refl _⟩,rfl,rfl⟩,World.ownsRow_nil _ _ _ _,rfl⟩;have HD2:=hz0q (zd h hb2);have HA2:=hz0q hans;have HB2:=hz0q hb2;have HQL:=hz0q (Array.getElem?_eq_some_iff.1 h).1;have b22:=za (zd h hb2) 2 rfl;clear h hb2 hx2 hans
 by_cases hz : held.size = 0
 ·have hde : held.toList.isEmpty = true:=(by rw [z7]; have:=zi held; rw [hz] at this; rw [List.length_eq_zero_iff.1 this]; rfl);have HFL : Hid (flsC held = []):=(by show _ = _; unfold flsC; rw [if_pos hz]);have HW : Hid (Wrote (fun k => k = q \/ w.heap.size <= k) w W2):=Wrote.of_below HB2.out;obtain ⟨l,hl⟩ : ∃ l : List UInt8,l = []:=⟨_,rfl⟩;have HL:=hz0q hl;rw [<- hl] at HA2;clear hl;go_enter_defers Tryz.func23,Tryz.ntmps23
  go_wp2_with fail;have HI:=HA2;have HDX:=HD2;clear hW2 b4 b2 b22 hde HA2 HD2;have hnf : 0 <= held.size:=Nat.zero_le _;have HEN : Hid (l = flsC held):=(by show _ = _; rw [HL.out,HFL.out]);obtain ⟨cse,hBe,hcse,hce⟩:=HI.out.bld;have hBd:=hBe.keepT (w':=W2.drew) (fun k cur t fr hk _ => hk);have BS:=zdg 118 w.heap.size w.heap.size cse l W2.drew hBd;have HXE : Hid (W2.drew.heap[w.heap.size]? = some (.cells cse 118 (0,0))):=hBd.hx;have HCE:=hz0q hce;have HS0 : Hid (W2.drew.cell? ⟨w.heap.size,2,none⟩ = some (.slice none 0 0) /\ (Below w.heap.size W2 W2.drew /\ KeptR W2 W2.drew)):=⟨zr hBd.hx hce,((show Drew W2 W2.drew from ⟨1,rfl⟩).below _),KeptR.drew W2⟩
  clear hBe hBd hcse hce;refine zmi ?_;refine wp_region_held_drew (S:=fun w' => w'.cell? ⟨w.heap.size,2,none⟩ = some (.slice none 0 0) /\ (Below w.heap.size W2 w' /\ KeptR W2 w')) (by kernel_rfl) (HS0.out) (fun hH0 => ?_);refine wpAnyH_take (i:=0) (v:=.pointer (some ⟨w.heap.size,0,none⟩)) rfl (by kernel_rfl) (by kernel_rfl) (by kernel_rfl) (fun _ _ _ h => h) (Or.inl ⟨by kernel_rfl,?_⟩) hH0 ?_
  ·intro w hSw;obtain ⟨s1,s2⟩:=hSw;go_simp
   all_goals try with_reducible rfl
  try simp only [gA,gB,gC,Act.put,gD,gE,gF]
  refine wpAnyH_take (i:=2) (v:=.pointer (some ⟨w.heap.size,2,none⟩)) rfl (by kernel_rfl) (by kernel_rfl) (by kernel_rfl) (fun _ _ _ h => h) (Or.inl ⟨by kernel_rfl,?_⟩) hH0 ?_
  ·intro w hSw;obtain ⟨s1,s2⟩:=hSw;go_simp
   all_goals try with_reducible rfl
  try simp only [gA,gB,gC,Act.put,gD,gE,gF]
  refine wpAnyH_take (i:=3) (v:=.slice none 0 0) rfl (by kernel_rfl) (by kernel_rfl) (by kernel_rfl) (fun _ _ _ h => h) (Or.inl ⟨by kernel_rfl,?_⟩) hH0 ?_
  ·intro w hSw;obtain ⟨s1,s2⟩:=hSw;go_simp
   all_goals try with_reducible rfl
  try simp only [gA,gB,gC,Act.put,gD,gE,gF]
  refine wpAnyH_ready (rs:=[1]) (by kernel_rfl) (by simp) ?_;refine AllReadyH.cons rfl (fun K hK => ?_) AllReadyH.nil;go_simp
  refine (BS).mono ?_;rintro e w50 ⟨rfl,hbe,hke⟩;refine hK.out _ _ (⟨zr (hke.2 _ _ HXE.out (fun cur fr e => by injection e with _ e; exact absurd e (by decide))) HCE.out,hH0.2.1.trans hbe,hH0.2.2.trans hke⟩) (fun hH1 => ?_);clear hK K hH0;try simp only [gA,gB,gC,Act.put,gD,gE,gF]
  refine wpAnyH_take (i:=4) (v:=.string ⟨l.toArray⟩) rfl (by kernel_rfl) (by kernel_rfl) (by kernel_rfl) (fun _ _ _ h => h) (Or.inl ⟨by kernel_rfl,?_⟩) hH1 ?_
  ·intro w hSw;obtain ⟨s1,s2⟩:=hSw;go_simp
   all_goals try with_reducible rfl
  try simp only [gA,gB,gC,Act.put,gD,gE,gF]
  refine wpAnyH_take (i:=5) (v:=.slice none 0 0) rfl (by kernel_rfl) (by kernel_rfl) (by kernel_rfl) (fun _ _ _ h => h) (Or.inl ⟨by kernel_rfl,?_⟩) hH1 ?_
  ·intro w hSw;obtain ⟨s1,s2⟩:=hSw;go_simp
   all_goals try with_reducible rfl
  try simp only [gA,gB,gC,Act.put,gD,gE,gF]
  refine wpAnyH_take (i:=6) (v:=.int .i64 0) rfl (by kernel_rfl) (by kernel_rfl) (by kernel_rfl) (fun _ _ _ h => h) (Or.inl ⟨by kernel_rfl,?_⟩) hH1 ?_
  ·intro w hSw;obtain ⟨s1,s2⟩:=hSw;go_simp
   all_goals try with_reducible rfl
  try simp only [gA,gB,gC,Act.put,gD,gE,gF]
  refine wpAnyH_done (by kernel_rfl) ?_ _;dsimp only;have hw : Wrote (fun k => k = q \/ w.heap.size <= k) w w50:=(HW.out.trans ⟨hH1.2.1.os,hH1.2.1.tape,hH1.2.1.output,hH1.2.1.size,fun k _ hn => hH1.2.1.block k (Nat.lt_of_not_le fun e => hn (.inr e))⟩);have HOW:=hz0q (z8 HI.out.own (fun k cur fr hk => hH1.2.2.2 k _ hk (fun cur' fr' e => by injection e with _ e; exact absurd e (by decide))));have CD:=zm7 .returning (DecB.keptR HDX.out hH1.2.2);have HWW:=hz0q hw;clear hH1 hbe hke BS hw HS0;go_wp2;refine leaves_cons (f:=52) (args:=#[.pointer (some ⟨q,0,none⟩)]) (by simp) (by simp [go_sem]) ?_;refine CD.mono ?_;rintro e u' w6 ⟨rfl,rfl,hk6,hr6⟩;refine ⟨_,results_tmp3 rfl _ _ _,none,0,0,[],?_,z8 HOW.out (fun k cur fr hk => hk6 k cur _ fr hk (.inr (.inr rfl))),HI.out.len,hnf,((HWW.out.trans (hr6.mono fun k _ e => .inl e)).mono fun k hk hS => hS.elim id (fun e => by omega))⟩;rw [<- HEN.out];rfl
 ·have hdn : held.toList.isEmpty = false:=by
   rw [z7]
   cases hb : bs held with
   | nil => exact absurd (by rw [<- zi,hb]; rfl) hz
   | cons x t => rfl
  have FA:=zj3 HD2.out HA2.out held.size (Nat.le_refl _) (by omega) (by simp) (by omega) HB2.out.size (Nat.le_refl _);have HFL : Hid (flsC held = badB):=(by show _ = _; unfold flsC; rw [if_neg hz]);go_enter_defers Tryz.func23,Tryz.ntmps23
  go_wp2_with fail;refine FA.mono ?_;rintro e w3 ⟨rfl,a3,A3,c3,fs3,hD3,hA3,hr3⟩;have HW : Hid (Wrote (fun k => k = q \/ w.heap.size <= k) w w3):=hz0q ((Wrote.of_below HB2.out).trans hr3);obtain ⟨l,hl⟩ : ∃ l : List UInt8,l = [] ++ badB:=⟨_,rfl⟩;have HEN : Hid (l = flsC held):=(by show _ = _; rw [HFL.out,hl]; rfl);rw [<- hl] at hA3;have HI:=hz0q hA3;have HDX:=hz0q hD3;have hnf : 0 + 1 <= held.size:=(by omega);clear FA hD3 hA3 hr3 hl b4 b2 b22 hdn hW2;go_wp2_with fail;obtain ⟨cse,hBe,hcse,hce⟩:=HI.out.bld;have hBd:=hBe.keepT (w':=w3.drew) (fun k cur t fr hk _ => hk);have BS:=zdg 118 w.heap.size w.heap.size cse l w3.drew hBd;have HXE : Hid (w3.drew.heap[w.heap.size]? = some (.cells cse 118 (0,0))):=hBd.hx;have HCE:=hz0q hce;have HS0 : Hid (w3.drew.cell? ⟨w.heap.size,2,none⟩ = some (.slice A3 (0 + 1) c3) /\ (Below w.heap.size w3 w3.drew /\ KeptR w3 w3.drew)):=⟨zr hBd.hx hce,((show Drew w3 w3.drew from ⟨1,rfl⟩).below _),KeptR.drew w3⟩
  clear hBe hBd hcse hce;refine zmi ?_;refine wp_region_held_drew (S:=fun w' => w'.cell? ⟨w.heap.size,2,none⟩ = some (.slice A3 (0 + 1) c3) /\ (Below w.heap.size w3 w' /\ KeptR w3 w')) (by kernel_rfl) (HS0.out) (fun hH0 => ?_);refine wpAnyH_take (i:=0) (v:=.pointer (some ⟨w.heap.size,0,none⟩)) rfl (by kernel_rfl) (by kernel_rfl) (by kernel_rfl) (fun _ _ _ h => h) (Or.inl ⟨by kernel_rfl,?_⟩) hH0 ?_
  ·intro w hSw;obtain ⟨s1,s2⟩:=hSw;go_simp
   all_goals try with_reducible rfl
  try simp only [gA,gB,gC,Act.put,gD,gE,gF]
  refine wpAnyH_take (i:=2) (v:=.pointer (some ⟨w.heap.size,2,none⟩)) rfl (by kernel_rfl) (by kernel_rfl) (by kernel_rfl) (fun _ _ _ h => h) (Or.inl ⟨by kernel_rfl,?_⟩) hH0 ?_
  ·intro w hSw;obtain ⟨s1,s2⟩:=hSw;go_simp
   all_goals try with_reducible rfl
  try simp only [gA,gB,gC,Act.put,gD,gE,gF]
  refine wpAnyH_take (i:=3) (v:=.slice A3 (0 + 1) c3) rfl (by kernel_rfl) (by kernel_rfl) (by kernel_rfl) (fun _ _ _ h => h) (Or.inl ⟨by kernel_rfl,?_⟩) hH0 ?_
  ·intro w hSw;obtain ⟨s1,s2⟩:=hSw;go_simp
   all_goals try with_reducible rfl
  try simp only [gA,gB,gC,Act.put,gD,gE,gF]
  refine wpAnyH_ready (rs:=[1]) (by kernel_rfl) (by simp) ?_;refine AllReadyH.cons rfl (fun K hK => ?_) AllReadyH.nil;go_simp
  refine (BS).mono ?_;rintro e w50 ⟨rfl,hbe,hke⟩;refine hK.out _ _ (⟨zr (hke.2 _ _ HXE.out (fun cur fr e => by injection e with _ e; exact absurd e (by decide))) HCE.out,hH0.2.1.trans hbe,hH0.2.2.trans hke⟩) (fun hH1 => ?_);clear hK K hH0;try simp only [gA,gB,gC,Act.put,gD,gE,gF]
  refine wpAnyH_take (i:=4) (v:=.string ⟨l.toArray⟩) rfl (by kernel_rfl) (by kernel_rfl) (by kernel_rfl) (fun _ _ _ h => h) (Or.inl ⟨by kernel_rfl,?_⟩) hH1 ?_
  ·intro w hSw;obtain ⟨s1,s2⟩:=hSw;go_simp
   all_goals try with_reducible rfl
  try simp only [gA,gB,gC,Act.put,gD,gE,gF]
  refine wpAnyH_take (i:=5) (v:=.slice A3 (0 + 1) c3) rfl (by kernel_rfl) (by kernel_rfl) (by kernel_rfl) (fun _ _ _ h => h) (Or.inl ⟨by kernel_rfl,?_⟩) hH1 ?_
  ·intro w hSw;obtain ⟨s1,s2⟩:=hSw;go_simp
   all_goals try with_reducible rfl
  try simp only [gA,gB,gC,Act.put,gD,gE,gF]
  refine wpAnyH_take (i:=6) (v:=.int .i64 0) rfl (by kernel_rfl) (by kernel_rfl) (by kernel_rfl) (fun _ _ _ h => h) (Or.inl ⟨by kernel_rfl,?_⟩) hH1 ?_
  ·intro w hSw;obtain ⟨s1,s2⟩:=hSw;go_simp
   all_goals try with_reducible rfl
  try simp only [gA,gB,gC,Act.put,gD,gE,gF]
  refine wpAnyH_done (by kernel_rfl) ?_ _;dsimp only;have hw : Wrote (fun k => k = q \/ w.heap.size <= k) w w50:=(HW.out.trans ⟨hH1.2.1.os,hH1.2.1.tape,hH1.2.1.output,hH1.2.1.size,fun k _ hn => hH1.2.1.block k (Nat.lt_of_not_le fun e => hn (.inr e))⟩);have HOW:=hz0q (z8 HI.out.own (fun k cur fr hk => hH1.2.2.2 k _ hk (fun cur' fr' e => by injection e with _ e; exact absurd e (by decide))));have CD:=zm7 .returning (DecB.keptR HDX.out hH1.2.2);have HWW:=hz0q hw;clear hH1 hbe hke BS hw HS0;go_wp2;refine leaves_cons (f:=52) (args:=#[.pointer (some ⟨q,0,none⟩)]) (by simp) (by simp [go_sem]) ?_;refine CD.mono ?_;rintro e u' w6 ⟨rfl,rfl,hk6,hr6⟩;refine ⟨_,results_tmp3 rfl _ _ _,A3,(0 + 1),c3,fs3,?_,z8 HOW.out (fun k cur fr hk => hk6 k cur _ fr hk (.inr (.inr rfl))),HI.out.len,hnf,((HWW.out.trans (hr6.mono fun k _ e => .inl e)).mono fun k hk hS => hS.elim id (fun e => by omega))⟩;rw [<- HEN.out];rfl
end
end
end Go.Proofs.YtolcabjkbefjgaaGreatDoor
