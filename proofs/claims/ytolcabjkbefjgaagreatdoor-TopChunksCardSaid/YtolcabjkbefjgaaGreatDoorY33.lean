/- A cover in memory, while it is made. charset.New: what it has in memory while it goes through the rows. charset.New: what it has in memory while keys and codes are told apart. Regions that draw their order: what a load yields, up to a store that waits for it. -/
import Derived.Test.YtolcabjkbefjgaaGreatDoorY32
set_option linter.unusedSimpArgs false
set_option linter.unusedVariables false
set_option maxRecDepth 20000
set_option maxHeartbeats 4000000
namespace Go.Proofs.YtolcabjkbefjgaaGreatDoor
section
open Go.RowKit Go.Lib Go.Maps
structure ArgK (w : World) (A : Option Addr) (n : Nat) (os : List LA) : Prop where
 len : os.length = n
 rd : Rd w A n (LLs os)
 into : ∀ x ∈ os,Rd w x.2.1 x.1.length (Rs x.1) /\ x.1.length <= 18 /\ (∀ r ∈ x.1,R32 r) /\ (x.2.1 = none -> x.1.length = 0 /\ x.2.2 = 0) /\ x.1.length <= x.2.2
theorem ArgK.below {w w' : World} {A : Option Addr} {n : Nat} {os : List LA} (h : ArgK w A n os) (hb : Below w.heap.size w w') : ArgK w' A n os :=
 ⟨h.len,h.rd.below hb,fun x hx => ⟨(h.into x hx).1.below hb,(h.into x hx).2⟩⟩
abbrev SL:=Option Addr × Nat × Nat
abbrev slV (x : SL) : Value:=.slice x.1 x.2.1 x.2.2
theorem intsT : Tryz.prog.underlying 304 = some (.map 21 250):=by kernel_rfl
theorem zm8 : Tryz.prog.underlying 305 = some (.map 21 4):=by kernel_rfl
theorem ziw (w : World) : (zeroValue 250).run Tryz.prog w = .ok (slV (none,0,0)) w:=by kernel_rfl
theorem zlx : Elem Tryz.prog 250 3 (.int .i64 0) 8:=⟨Tryz.underlying250,by kernel_rfl,rfl⟩
structure CvI (p : Option Addr) (w0 : World) (o mf mw ms : Nat) (kv : Value) (nk nf nw ns : Nat) (f : Int -> Option SL) (w : World) : Prop where
 bel : Below w0.heap.size w0 w
 box : w.heap[o]? = some (.cells #[wlV p,kv,.map (some mf),.map (some mw)] 307 (0,0))
 own : ∃ vs,w.ownsRow w0.heap.size 42 1 kv nk vs
 first : MapF w Tryz.prog 21 zn R32 slV mf nf f
 fam : ∀ a x,f a = some x -> ∃ vs,w.ownsRow w0.heap.size 3 1 (slV x) x.2.1 vs
 few : ∀ a x,f a = some x -> x.2.1 <= nk
 apart : ∀ a b x y,a ≠ b -> f a = some x -> f b = some y -> ∀ g,(slV x).ownBlock = some g -> (slV y).ownBlock ≠ some g
 within : ∃ fw,MapF w Tryz.prog 21 zn R32 boolV mw nw fw
 seen : ∃ fs,MapF w Tryz.prog 9 zbv StrOk boolV ms ns fs
 q : w0.heap.size <= o /\ w0.heap.size <= mf /\ w0.heap.size <= mw /\ w0.heap.size <= ms
 ne : mf ≠ mw /\ mf ≠ ms /\ mw ≠ ms
theorem zar {w : World} {base n k : Nat} {e : TypeId} {v : Value} {xs : List Value} (h : w.ownsRow base e k v n xs) {g : Nat} (hg : v.ownBlock = some g) : ∃ cur,w.heap[g]? = some (.cells cur e (0,0)):=by
 rcases h.2 with ⟨hv,_⟩ | ⟨g2,cap,cur,hv,_,hh,_⟩
 ·rw [hv] at hg; cases hg
 ·rw [hv] at hg;injection hg with hg;subst hg;exact ⟨cur,hh⟩
theorem zaz {w : World} {i j : Nat} {c1 c2 : Array Value} {t1 t2 : TypeId} {f1 f2 : Nat × Nat} (h1 : w.heap[i]? = some (.cells c1 t1 f1)) (h2 : w.heap[j]? = some (.cells c2 t2 f2)) (ht : t1 ≠ t2) : i ≠ j:=by
 intro e;subst e;rw [h1] at h2;injection h2 with h2;injection h2 with _ h2;exact ht h2
section
variable {p : Option Addr} {w0 w w' w9 : World} {o mf mw ms nk nf nw ns : Nat} {kv : Value} {f : Int -> Option SL} {row : Option Nat}
theorem CvI.below (h : CvI p w0 o mf mw ms kv nk nf nw ns f w) (hb : Below w.heap.size w w') : CvI p w0 o mf mw ms kv nk nf nw ns f w':=by
 obtain ⟨vs,h1⟩:=h.own;obtain ⟨fw,h2⟩:=h.within;obtain ⟨fs,h3⟩:=h.seen
 exact ⟨h.bel.trans (hb.mono h.bel.size),zd h.box hb,⟨vs,zy h1 hb⟩,h.first.below hb h.first.lt,fun a x hx => (by
  obtain ⟨us,hu⟩:=h.fam a x hx
  exact ⟨us,zy hu hb⟩),h.few,h.apart,⟨fw,h2.below hb h2.lt⟩,⟨fs,h3.below hb h3.lt⟩,h.q,h.ne⟩
theorem CvI.mapped (h : CvI p w0 o mf mw ms kv nk nf nw ns f w) {b : Nat} {es : Array MapEntry} {ck : Nat} (hbm : w.heap[b]? = some (.map es ck)) (hq : w0.heap.size <= b) (hg : w.grownBy w' (some b)) :
  Below w0.heap.size w0 w' /\ w'.heap[o]? = some (.cells #[wlV p,kv,.map (some mf),.map (some mw)] 307 (0,0)) /\ (∃ vs,w'.ownsRow w0.heap.size 42 1 kv nk vs) /\ ∀ a x,f a = some x -> ∃ vs,w'.ownsRow w0.heap.size 3 1 (slV x) x.2.1 vs:=by
 have nc : ∀ (k : Nat) (cur : Array Value) (t : TypeId) (fr : Nat × Nat),w.heap[k]? = some (.cells cur t fr) -> w'.heap[k]? = some (.cells cur t fr):=fun k cur t fr hk => (hg.block k (Array.getElem?_eq_some_iff.1 hk).1 (fun e => by
  injection e with e;subst e;rw [hk] at hbm
  cases hbm)).trans hk
 obtain ⟨vs,h1⟩:=h.own
 exact ⟨h.bel.trans ((Below.refl _ _).grown hg h.bel.size (fun k e => by injection e with e; omega)),nc _ _ _ _ h.box,⟨vs,z8 h1 (fun k cur fr hk => nc k cur _ fr hk)⟩,fun a x hx => (by
  obtain ⟨us,hu⟩:=h.fam a x hx
  exact ⟨us,z8 hu (fun k cur fr hk => nc k cur _ fr hk)⟩)⟩
theorem zdz {α β : Type} {P : Program} {K : TypeId} {lit : α -> Lit} {ok : α -> Prop} {mkV : β -> Value} {w : World} {b n : Nat} {f : α -> Option β} (h : MapF w P K lit ok mkV b n f) : ∃ es ck,w.heap[b]? = some (.map es ck):=by
 obtain ⟨D,⟨es,clock,h1,_⟩,_⟩:=h;exact ⟨es,clock,h1⟩
theorem CvI.seenPut (h : CvI p w0 o mf mw ms kv nk nf nw ns f w) {fs : ByteArray -> Option Bool} {n' : Nat} (hm : MapF w' Tryz.prog 9 zbv StrOk boolV ms n' fs) (hg : w.grownBy w' (some ms)) : CvI p w0 o mf mw ms kv nk nf nw n' f w':=by
 obtain ⟨fw,h2⟩:=h.within;obtain ⟨fs0,h3⟩:=h.seen;obtain ⟨es,ck,hb⟩:=zdz h3;obtain ⟨k1,k2,k3,k4⟩:=h.mapped hb h.q.2.2.2 hg;exact ⟨k1,k2,k3,h.first.kept hg (fun e => h.ne.2.1 (Option.some.inj e)),k4,h.few,h.apart,⟨fw,h2.kept hg (fun e => h.ne.2.2 (Option.some.inj e))⟩,⟨_,hm⟩,h.q,h.ne⟩
theorem CvI.withinPut (h : CvI p w0 o mf mw ms kv nk nf nw ns f w) {fw : Int -> Option Bool} {n' : Nat} (hm : MapF w' Tryz.prog 21 zn R32 boolV mw n' fw) (hg : w.grownBy w' (some mw)) : CvI p w0 o mf mw ms kv nk nf n' ns f w':=by
 obtain ⟨fw0,h2⟩:=h.within;obtain ⟨fs,h3⟩:=h.seen;obtain ⟨es,ck,hb⟩:=zdz h2;obtain ⟨k1,k2,k3,k4⟩:=h.mapped hb h.q.2.2.1 hg;exact ⟨k1,k2,k3,h.first.kept hg (fun e => h.ne.1 (Option.some.inj e)),k4,h.few,h.apart,⟨_,hm⟩,⟨fs,h3.kept hg (fun e => h.ne.2.2 (Option.some.inj e).symm)⟩,h.q,h.ne⟩
theorem CvI.keyed (h : CvI p w0 o mf mw ms kv nk nf nw ns f w) {nk' : Nat} {A' : Option Addr} {c' : Nat} {vs : List Value} (hk : nk <= nk') (hown : w9.ownsRow w0.heap.size 42 1 (.slice A' nk' c') nk' vs) (hg : w.grownBy w9 kv.ownBlock) :
  CvI p w0 o mf mw ms (.slice A' nk' c') nk' nf nw ns f (w9.setCell ⟨o,1,none⟩ (.slice A' nk' c')):=by
 obtain ⟨vs0,h1⟩:=h.own;obtain ⟨fw,h2⟩:=h.within;obtain ⟨fs,h3⟩:=h.seen
 have nc : ∀ (k : Nat) (cur : Array Value) (t : TypeId) (fr : Nat × Nat),w.heap[k]? = some (.cells cur t fr) -> t ≠ 42 -> w9.heap[k]? = some (.cells cur t fr):=fun k cur t fr hk ht => (hg.block k (Array.getElem?_eq_some_iff.1 hk).1 (fun e => by
  obtain ⟨cur2,hc⟩:=zar h1 e.symm
  exact zaz hk hc ht rfl)).trans hk
 have hx9:=nc _ _ _ _ h.box (by decide)
 have m : ∀ {α β : Type} {K : TypeId} {lit : α -> Lit} {ok : α -> Prop} {mkV : β -> Value} {b n : Nat} {f : α -> Option β},MapF w Tryz.prog K lit ok mkV b n f -> MapF (w9.setCell ⟨o,1,none⟩ (.slice A' nk' c')) Tryz.prog K lit ok mkV b n f:=fun hm =>
  (hm.kept hg (fun e => by
   obtain ⟨cur2,hc⟩:=zar h1 e.symm
   exact hm.ne_cells hc rfl)).setCell (hm.ne_cells h.box) _
 refine ⟨(h.bel.trans ((Below.refl _ _).grown hg h.bel.size (fun k e => (h1.lt k e).1))).setCell (p:=⟨o,1,none⟩) h.q.1 _,zat hx9 1 _,⟨vs,zdw hown fun g hgb => Below.heap_setCell w9 ⟨o,1,none⟩ _ g ?_⟩,m h.first,fun a x hx => ?_,fun a x hx => Nat.le_trans (h.few a x hx) hk,h.apart,⟨fw,m h2⟩,⟨fs,m h3⟩,h.q,h.ne⟩
 ·obtain ⟨cur2,hc⟩:=zar hown hgb;exact zaz hc hx9 (by decide)
 ·obtain ⟨us,hu⟩:=h.fam a x hx;have hu9:=z8 hu (w':=w9) (fun k cur fr hk => nc k cur _ fr hk (by decide))
  exact ⟨us,zdw hu9 fun g hgb => Below.heap_setCell w9 ⟨o,1,none⟩ _ g (by
   obtain ⟨cur2,hc⟩:=zar hu9 hgb
   exact zaz hc hx9 (by decide))⟩
theorem CvI.firstPut (h : CvI p w0 o mf mw ms kv nk nf nw ns f w) {r : Int} {x0 x1 : SL} {vs : List Value} (hx0 : x0 = (f r).getD (none,0,0)) (hown : w9.ownsRow w0.heap.size 3 1 (slV x1) x1.2.1 vs) (hn1 : x1.2.1 <= nk) (hg : w.grownBy w9 (slV x0).ownBlock)
  (hat : (slV x1).ownBlock = (slV x0).ownBlock \/ (slV x1).ownBlock = some w.heap.size) {n' : Nat} (hm : MapF w' Tryz.prog 21 zn R32 slV mf n' (upd f r (some x1))) (hg2 : w9.grownBy w' (some mf)) : CvI p w0 o mf mw ms kv nk n' nw ns (upd f r (some x1)) w':=by
 obtain ⟨vs0,h1⟩:=h.own;obtain ⟨fw,h2⟩:=h.within;obtain ⟨fs,h3⟩:=h.seen
 have hint : ∀ g,(slV x0).ownBlock = some g -> w0.heap.size <= g /\ ∃ cur,w.heap[g]? = some (.cells cur 3 (0,0)):=fun g hgb => by
  cases hf : f r with
  | none =>
   rw [hf] at hx0;rw [hx0] at hgb
   cases hgb
  | some x =>
   rw [hf] at hx0;rw [hx0] at hgb;obtain ⟨us,hu⟩:=h.fam r x hf;exact ⟨(hu.lt g hgb).1,zar hu hgb⟩
 have nc : ∀ (k : Nat) (cur : Array Value) (t : TypeId) (fr : Nat × Nat),w.heap[k]? = some (.cells cur t fr) -> t ≠ 3 -> w9.heap[k]? = some (.cells cur t fr):=fun k cur t fr hk ht => (hg.block k (Array.getElem?_eq_some_iff.1 hk).1 (fun e => by
  obtain ⟨_,cur2,hc⟩:=hint k e.symm
  exact zaz hk hc ht rfl)).trans hk
 have m9 : ∀ {α β : Type} {K : TypeId} {lit : α -> Lit} {ok : α -> Prop} {mkV : β -> Value} {b n : Nat} {f : α -> Option β},MapF w Tryz.prog K lit ok mkV b n f -> MapF w9 Tryz.prog K lit ok mkV b n f:=fun hm =>
  hm.kept hg (fun e => by
   obtain ⟨_,cur2,hc⟩:=hint _ e.symm
   exact hm.ne_cells hc rfl)
 obtain ⟨es,ck,hbm⟩:=zdz (m9 h.first)
 have nc2 : ∀ (k : Nat) (cur : Array Value) (t : TypeId) (fr : Nat × Nat),w9.heap[k]? = some (.cells cur t fr) -> w'.heap[k]? = some (.cells cur t fr):=fun k cur t fr hk => (hg2.block k (Array.getElem?_eq_some_iff.1 hk).1 (fun e => by
  injection e with e;subst e;rw [hk] at hbm
  cases hbm)).trans hk
 have hbel9 : Below w0.heap.size w0 w9:=h.bel.trans ((Below.refl _ _).grown hg h.bel.size (fun k e => (hint k e).1))
 have fam9 : ∀ a x,a ≠ r -> f a = some x -> ∃ vs,w'.ownsRow w0.heap.size 3 1 (slV x) x.2.1 vs:=fun a x ha hx => by
  obtain ⟨us,hu⟩:=h.fam a x hx
  have hu9 : w9.ownsRow w0.heap.size 3 1 (slV x) x.2.1 us:=ownK_grown hu hg (fun b hb e => by
   cases hf : f r with
   | none =>
    rw [hf] at hx0;rw [hx0] at e
    cases e
   | some y =>
    rw [hf] at hx0;rw [hx0] at e
    exact h.apart r a y x (fun e2 => ha e2.symm) hf hx b e hb)
  exact ⟨us,z8 hu9 (fun k cur fr hk => nc2 k cur _ fr hk)⟩
 have ap : ∀ a x,a ≠ r -> f a = some x -> ∀ g,(slV x1).ownBlock = some g -> (slV x).ownBlock ≠ some g:=fun a x ha hx g hgb e => by
  obtain ⟨us,hu⟩:=h.fam a x hx;rcases hat with hat | hat
  ·rw [hat] at hgb
   cases hf : f r with
   | none =>
    rw [hf] at hx0;rw [hx0] at hgb
    cases hgb
   | some y =>
    rw [hf] at hx0;rw [hx0] at hgb;exact h.apart r a y x (fun e2 => ha e2.symm) hf hx g hgb e
  ·rw [hat] at hgb;injection hgb with hgb;have:=(hu.lt g e).2;omega
 refine ⟨hbel9.trans ((Below.refl _ _).grown hg2 hbel9.size (fun k e => by injection e with e; rw [<- e]; exact h.q.2.1)),nc2 _ _ _ _ (nc _ _ _ _ h.box (by decide)),⟨vs0,z8 (z8 h1 (w':=w9) (fun k cur fr hk => nc k cur _ fr hk (by decide))) (fun k cur fr hk => nc2 k cur _ fr hk)⟩,hm,fun a x hx => ?_,fun a x hx => ?_,fun a b x y hab hx hy => ?_,⟨fw,(m9 h2).kept hg2 (fun e => h.ne.1 (Option.some.inj e).symm)⟩,⟨fs,(m9 h3).kept hg2 (fun e => h.ne.2.1 (Option.some.inj e).symm)⟩,h.q,h.ne⟩
 ·unfold upd at hx;split at hx
  ·injection hx with hx;subst hx;exact ⟨vs,z8 hown (fun k cur fr hk => nc2 k cur _ fr hk)⟩
  ·rename_i ha;exact fam9 a x ha hx
 ·unfold upd at hx;split at hx
  ·injection hx with hx;subst hx;exact hn1
  ·exact h.few a x hx
 ·unfold upd at hx hy
  by_cases ha : a = r
  ·rw [if_pos ha] at hx;injection hx with hx;subst hx;rw [if_neg (fun e => hab (ha.trans e.symm))] at hy;exact ap b y (fun e => hab (ha.trans e.symm)) hy
  ·rw [if_neg ha] at hx
   by_cases hb : b = r
   ·rw [if_pos hb] at hy;injection hy with hy;subst hy;intro g hgx hgy;exact ap a x ha hx g hgy hgx
   ·rw [if_neg hb] at hy;exact h.apart a b x y hab hx hy
end
end
section
open Go.RowKit Go.Lib Go.Maps
theorem mrElem : ElemK Tryz.prog 53 197 (.agg #[.string ByteArray.empty,.string ByteArray.empty,.int .i64 0]) 3 40:=⟨Tryz.underlying53,by kernel_rfl,rfl,by omega⟩
theorem krElem : ElemK Tryz.prog 208 211 (.agg #[.slice none 0 0,.string ByteArray.empty,.string ByteArray.empty,.int .i64 0]) 4 64:=⟨Tryz.underlying208,by kernel_rfl,rfl,by omega⟩
theorem MRs_one (rs : List MR) : ∀ u ∈ MRs rs,u.oneCell' = true:=by
 intro u hu;unfold MRs at hu;obtain ⟨f,_,hf⟩:=List.mem_flatMap.1 hu;simp at hf;rcases hf with rfl | rfl | rfl <;> rfl
theorem mrclone_any (A : Option Addr) (n c : Nat) (rs : List MR) (w : World) (hh : ArgMR w A n rs) (hn : n <= 40) : Calls Tryz.prog 90 #[.slice A n c] w fun e w' => (∃ A' n' c',e = .returned (.slice A' n' c')) /\ Below w.heap.size w w':=by
 cases A with
 | none =>
  have hcmp:=fun w => Lib.run_eql_slice_nil (P:=Tryz.prog) w 53 197 none n c 0 0 Tryz.underlying53;simp only [Option.isNone] at hcmp;clear hh;go_enter Tryz.func90,Tryz.ntmps90;go_wp2;go_returns;exact ⟨⟨none,0,0,rfl⟩,Below.refl _ _⟩
 | some a =>
  have hbn : Below w.heap.size w (w.alloc (.cells #[] 197)):=(Below.refl _ _).alloc (Nat.le_refl _) _;have hown0 : (w.alloc (.cells #[] 197)).ownsRow w.heap.size 197 3 (.slice (some ⟨w.heap.size,0,none⟩) 0 0) 0 []:=⟨rfl,.inr ⟨w.heap.size,0,#[],rfl,Nat.le_refl _,zm _ _ _,Nat.le_refl _,Nat.zero_le _,rfl,rfl⟩⟩;have hrb:=hh.rd.below (by decide) hbn;have hone:=MRs_one rs;clear hh;have hcmp:=fun w => Lib.run_eql_slice_nil (P:=Tryz.prog) w 53 197 (some a) n c 0 0 Tryz.underlying53;simp only [Option.isNone] at hcmp;go_enter Tryz.func90,Tryz.ntmps90;go_wp2_with (at_builtin; refine zcp mrElem _ rfl _ _ rfl w.heap.size rfl hown0 rfl hrb hone (by omega) (by decide) (by simp) ?_)
  intro A2 c2 w4 hown4 hg4 hat4;have hb4 : Below w.heap.size w w4:=hbn.grown hg4 (by simp) (fun k hk => (hown0.lt k hk).1);clear hown4 hg4 hat4 hown0 hrb hone;go_wp2;go_returns;exact ⟨⟨A2,_,c2,rfl⟩,hb4⟩
abbrev KY:=LA × MR
abbrev kyC (x : KY) : List Value:=[laV x.1,.string x.2.cd,.string x.2.tx,.int .i64 x.2.fl]
def Kys (ks : List KY) : List Value:=ks.flatMap kyC
theorem Kys_app (ks : List KY) (x : KY) : Kys ks ++ kyC x = Kys (ks ++ [x]):=by simp [Kys]
theorem zob {ks : List KY} {j : Nat} {x : KY} (h : ks[j]? = some x) : (Kys ks)[j * 4]? = some (laV x.1) /\ (Kys ks)[j * 4 + 1]? = some (.string x.2.cd) /\ (Kys ks)[j * 4 + 2]? = some (.string x.2.tx) /\ (Kys ks)[j * 4 + 3]? = some (.int .i64 x.2.fl):=by
 induction ks generalizing j with
 | nil => simp at h
 | cons f t ih =>
  cases j with
  | zero =>
   simp only [List.getElem?_cons_zero] at h;injection h with h;subst h;exact ⟨rfl,rfl,rfl,rfl⟩
  | succ j =>
   have:=ih (j:=j) (by simpa using h);rw [show (j + 1) * 4 = j * 4 + 1 + 1 + 1 + 1 by omega];exact this
structure NwI (w0 : World) (c mt mh ma : Nat) (cs : Array Value) (T : TxC) (H : HdC) (m n na nb : Nat) (Aa : Option Addr) (ca : Nat) (ks : List KY) (w : World) : Prop where
 bel : Below w0.heap.size w0 w
 ch : ChsM w c cs mt mh m n T H
 at_ : ∃ fa,MapF w Tryz.prog 9 zbv StrOk intV ma na fa /\ ∀ s v,fa s = some v -> 0 <= v /\ v < nb
 all : w.ownsRow w0.heap.size 211 4 (.slice Aa ks.length ca) ks.length (Kys ks)
 into : ∀ x ∈ ks,w.ownsRow w0.heap.size 21 1 (laV x.1) x.1.1.length (Rs x.1.1) /\ x.1.1.length <= 18 /\ (∀ r ∈ x.1.1,R32 r) /\ x.2.cd.size <= 200
 good : GoodT T
 q : w0.heap.size <= c /\ w0.heap.size <= mt /\ w0.heap.size <= mh /\ w0.heap.size <= ma
 ne : mt ≠ mh /\ ma ≠ mt /\ ma ≠ mh
section
variable {w0 w w' w9 : World} {c mt mh ma m n m' n' na nb : Nat} {cs : Array Value} {T T' : TxC} {H H' : HdC} {Aa : Option Addr} {ca : Nat} {ks : List KY}
theorem NwI.below (h : NwI w0 c mt mh ma cs T H m n na nb Aa ca ks w) (hb : Below w.heap.size w w') : NwI w0 c mt mh ma cs T H m n na nb Aa ca ks w':=by
 obtain ⟨fa,h1,h2⟩:=h.at_;exact ⟨h.bel.trans (hb.mono h.bel.size),h.ch.below hb,⟨fa,h1.below hb h1.lt,h2⟩,zy h.all hb,fun x hx => ⟨zy (h.into x hx).1 hb,(h.into x hx).2⟩,h.good,h.q,h.ne⟩
theorem NwI.rowed (h : NwI w0 c mt mh ma cs T H m n na nb Aa ca ks w) (hw : Wrote (fun k => k = mt \/ k = mh) w w') (hc : ChsM w' c cs mt mh m' n' T' H') (hg : GoodT T') : NwI w0 c mt mh ma cs T' H' m' n' na nb Aa ca ks w':=by
 obtain ⟨fa,h1,h2⟩:=h.at_
 have nc : ∀ (k : Nat) (cur : Array Value) (t : TypeId) (fr : Nat × Nat),w.heap[k]? = some (.cells cur t fr) -> w'.heap[k]? = some (.cells cur t fr):=fun k cur t fr hk => hw.blk hk (fun hS => by
  rcases hS with hS | hS
  ·exact h.ch.t.ne_cells hk hS.symm
  ·exact h.ch.h.ne_cells hk hS.symm)
 refine ⟨h.bel.trans (hw.below (fun k hS => by rcases hS with rfl | rfl; exact h.q.2.1; exact h.q.2.2.1) h.bel.size),hc,⟨fa,h1.at (hw.block ma h1.lt (fun hS => by rcases hS with hS | hS; exact h.ne.2.1 hS; exact h.ne.2.2 hS)),h2⟩,z8 h.all (fun k cur fr hk => nc k cur _ fr hk),fun x hx => ⟨z8 (h.into x hx).1 (fun k cur fr hk => nc k cur _ fr hk),(h.into x hx).2⟩,hg,h.q,h.ne⟩
theorem NwI.atPut (h : NwI w0 c mt mh ma cs T H m n na nb Aa ca ks w) {fa : ByteArray -> Option Int} {s : ByteArray} {v : Int} {nb' : Nat} (hfa : ∀ s v,fa s = some v -> 0 <= v /\ v < nb) (hm : MapF w' Tryz.prog 9 zbv StrOk intV ma (na + 1) (upd fa s (some v))) (hg : w.grownBy w' (some ma)) (h0 : 0 <= v) (hv : v < nb') (hnb : nb <= nb') :
  NwI w0 c mt mh ma cs T H m n (na + 1) nb' Aa ca ks w':=by
 obtain ⟨fa0,h1,h2⟩:=h.at_;obtain ⟨es,ck,hb⟩:=zdz h1
 have nc : ∀ (k : Nat) (cur : Array Value) (t : TypeId) (fr : Nat × Nat),w.heap[k]? = some (.cells cur t fr) -> w'.heap[k]? = some (.cells cur t fr):=fun k cur t fr hk => (hg.block k (Array.getElem?_eq_some_iff.1 hk).1 (fun e => by
  injection e with e;subst e;rw [hk] at hb
  cases hb)).trans hk
 refine ⟨h.bel.trans ((Below.refl _ _).grown hg h.bel.size (fun k e => by injection e with e; rw [<- e]; exact h.q.2.2.2)),h.ch.keep ((nc _ _ _ _ h.ch.box).trans h.ch.box.symm) (hg.block mt h.ch.t.lt (fun e => h.ne.2.1 (Option.some.inj e).symm)) (hg.block mh h.ch.h.lt (fun e => h.ne.2.2 (Option.some.inj e).symm)),⟨_,hm,fun s' v' hs' => ?_⟩,z8 h.all (fun k cur fr hk => nc k cur _ fr hk),fun x hx => ⟨z8 (h.into x hx).1 (fun k cur fr hk => nc k cur _ fr hk),(h.into x hx).2⟩,h.good,h.q,h.ne⟩;unfold upd at hs';split at hs'
 ·injection hs' with hs';subst hs';exact ⟨h0,hv⟩
 ·have:=hfa s' v' hs';exact ⟨this.1,by omega⟩
theorem NwI.allApp (h : NwI w0 c mt mh ma cs T H m n na nb Aa ca ks w) {x : KY} {A' : Option Addr} {c' : Nat} (hx : w.ownsRow w0.heap.size 21 1 (laV x.1) x.1.1.length (Rs x.1.1)) (hx2 : x.1.1.length <= 18 /\ (∀ r ∈ x.1.1,R32 r) /\ x.2.cd.size <= 200)
  (hown : w9.ownsRow w0.heap.size 211 4 (.slice A' (ks.length + 1) c') (ks.length + 1) (Kys ks ++ kyC x)) (hg : w.grownBy w9 (Value.slice Aa ks.length ca).ownBlock) : NwI w0 c mt mh ma cs T H m n na nb A' c' (ks ++ [x]) w9:=by
 obtain ⟨fa,h1,h2⟩:=h.at_
 have nc : ∀ (k : Nat) (cur : Array Value) (t : TypeId) (fr : Nat × Nat),w.heap[k]? = some (.cells cur t fr) -> t ≠ 211 -> w9.heap[k]? = some (.cells cur t fr):=fun k cur t fr hk ht => (hg.block k (Array.getElem?_eq_some_iff.1 hk).1 (fun e => by
  obtain ⟨cur2,hc⟩:=zar h.all e.symm
  exact zaz hk hc ht rfl)).trans hk
 have nm : ∀ {b : Nat},(∀ {j : Nat} {cs : Array Value} {t : TypeId} {fr : Nat × Nat},w.heap[j]? = some (.cells cs t fr) -> b ≠ j) -> some b ≠ (Value.slice Aa ks.length ca).ownBlock:=fun hm e => by
  obtain ⟨cur2,hc⟩:=zar h.all e.symm;exact hm hc rfl
 rw [Kys_app] at hown;refine ⟨h.bel.trans ((Below.refl _ _).grown hg h.bel.size (fun k e => (h.all.lt k e).1)),⟨nc _ _ _ _ h.ch.box (by decide),h.ch.ct,h.ch.ch,h.ch.t.kept hg (nm h.ch.t.ne_cells),h.ch.h.kept hg (nm h.ch.h.ne_cells)⟩,⟨fa,h1.kept hg (nm h1.ne_cells),h2⟩,by rw [List.length_append]; exact hown,fun y hy => ?_,h.good,h.q,h.ne⟩;rcases List.mem_append.1 hy with hy | hy
 ·exact ⟨z8 (h.into y hy).1 (fun k cur fr hk => nc k cur _ fr hk (by decide)),(h.into y hy).2⟩
 ·rw [List.mem_singleton] at hy;subst hy;exact ⟨z8 hx (fun k cur fr hk => nc k cur _ fr hk (by decide)),hx2⟩
theorem Kys_set {ks : List KY} {j : Nat} {x : KY} (h : ks[j]? = some x) (r : MR) : (((Kys ks).set (j * 4 + 1) (.string r.cd)).set (j * 4 + 1 + 1) (.string r.tx)).set (j * 4 + 1 + 2) (.int .i64 r.fl) = Kys (ks.set j (x.1,r)):=by
 induction ks generalizing j with
 | nil => simp at h
 | cons f t ih =>
  cases j with
  | zero =>
   simp only [List.getElem?_cons_zero] at h;injection h with h;subst h;rfl
  | succ j =>
   have:=ih (j:=j) (by simpa using h);rw [show (j + 1) * 4 + 1 + 1 = (j * 4 + 1 + 1) + 1 + 1 + 1 + 1 by omega,show (j + 1) * 4 + 1 + 2 = (j * 4 + 1 + 2) + 1 + 1 + 1 + 1 by omega,show (j + 1) * 4 + 1 = (j * 4 + 1) + 1 + 1 + 1 + 1 by omega];exact congrArg (kyC f ++ ·) this
theorem NwI.bestPut (h : NwI w0 c mt mh ma cs T H m n na nb Aa ca ks w) {g j nk : Nat} {x : KY} {r : MR} (hA : Aa = some ⟨g,0,none⟩) (hnk : nk = ks.length) (hj : ks[j]? = some x) (hr : r.cd.size <= 200) {a1 a2 a3 : Nat} (h1 : a1 = j * 4 + 1) (h2 : a2 = j * 4 + 1 + 1) (h3 : a3 = j * 4 + 1 + 2) :
  NwI w0 c mt mh ma cs T H m n na nb Aa ca (ks.set j (x.1,r)) (((w.setCell ⟨g,a1,none⟩ (.string r.cd)).setCell ⟨g,a2,none⟩ (.string r.tx)).setCell ⟨g,a3,none⟩ (.int .i64 r.fl)):=by
 subst h1 h2 h3 hA;obtain ⟨fa,m1,m2⟩:=h.at_;have hall:=h.all;obtain ⟨cur2,hg0⟩:=zar hall rfl;have hlt:=(hall.lt g rfl).1;have o1:=(hall.stored (j * 4 + 1) (.string r.cd)).1;have o2:=(o1.stored (j * 4 + 1 + 1) (.string r.tx)).1;have o3:=(o2.stored (j * 4 + 1 + 2) (.int .i64 r.fl)).1;rw [Kys_set hj] at o3
 have hb : ∀ k,k ≠ g -> (((w.setCell ⟨g,j * 4 + 1,none⟩ (.string r.cd)).setCell ⟨g,j * 4 + 1 + 1,none⟩ (.string r.tx)).setCell ⟨g,j * 4 + 1 + 2,none⟩ (.int .i64 r.fl)).heap[k]? = w.heap[k]? := fun k hk => by
  rw [Below.heap_setCell _ _ _ _ hk,Below.heap_setCell _ _ _ _ hk,Below.heap_setCell _ _ _ _ hk]
 have nc : ∀ (k : Nat) (cur : Array Value) (t : TypeId) (fr : Nat × Nat),w.heap[k]? = some (.cells cur t fr) -> t ≠ 211 -> k ≠ g:=fun k cur t fr hk ht => zaz hk hg0 ht;have hin : ∀ y : KY,w.ownsRow w0.heap.size 21 1 (laV y.1) y.1.1.length (Rs y.1.1) -> (((w.setCell ⟨g,j * 4 + 1,none⟩ (.string r.cd)).setCell ⟨g,j * 4 + 1 + 1,none⟩ (.string r.tx)).setCell ⟨g,j * 4 + 1 + 2,none⟩ (.int .i64 r.fl)).ownsRow w0.heap.size 21 1 (laV y.1) y.1.1.length (Rs y.1.1):=fun y hy => z8 hy (fun k cur fr hk => (hb k (nc k cur _ fr hk (by decide))).trans hk);refine ⟨((h.bel.setCell (p:=⟨g,_,none⟩) hlt _).setCell (p:=⟨g,_,none⟩) hlt _).setCell (p:=⟨g,_,none⟩) hlt _,h.ch.keep (hb _ (nc _ _ _ _ h.ch.box (by decide))) (hb _ (h.ch.t.ne_cells hg0)) (hb _ (h.ch.h.ne_cells hg0)),⟨fa,m1.at (hb _ (m1.ne_cells hg0)),m2⟩,by rw [List.length_set]; exact o3,fun y hy => ?_,h.good,h.q,h.ne⟩;rcases List.mem_or_eq_of_mem_set hy with hy | rfl
 ·exact ⟨hin y (h.into y hy).1,(h.into y hy).2⟩
 ·have hx:=h.into x (List.mem_of_getElem? hj);exact ⟨hin x hx.1,hx.2.1,hx.2.2.1,hr⟩
theorem NwI.allApp' (h : NwI w0 c mt mh ma cs T H m n na nb Aa ca ks w) {nk nz : Nat} (hnk : nk = ks.length) {zs : List Int} {Az A' : Option Addr} {cz c' : Nat} {cd tx : ByteArray} {fl : Int} (hz : zs.length = nz) (hx : w.ownsRow w0.heap.size 21 1 (.slice Az nz cz) nz (Rs zs)) (hx2 : nz <= 18 /\ (∀ r ∈ zs,R32 r) /\ cd.size <= 200)
  (hown : w9.ownsRow w0.heap.size 211 4 (.slice A' (nk + 1) c') (nk + 1) (Kys ks ++ [.slice Az nz cz,.string cd,.string tx,.int .i64 fl])) (hg : w.grownBy w9 (Value.slice Aa nk ca).ownBlock) : NwI w0 c mt mh ma cs T H m n na nb A' c' (ks ++ [((zs,Az,cz),⟨cd,tx,fl⟩)]) w9:=by
 subst hnk hz;exact h.allApp (x:=((zs,Az,cz),⟨cd,tx,fl⟩)) hx hx2 hown hg
end
end
section
open Go.RowKit Go.Lib Go.Maps
theorem zh9 : Elem Tryz.prog 28 9 (.string .empty) 16:=⟨Tryz.underlying28,by kernel_rfl,rfl⟩
structure KwS (w0 : World) (c mt mh m n : Nat) (T : TxC) (H : HdC) (cs : Array Value) (Aa : Option Addr) (ca nk : Nat) (ks : List KY) (kv : Value) (kn : Nat) (kl : List Value) (dv : Value) (dn : Nat) (dl : List Value) (w : World) : Prop where
 bel : Below w0.heap.size w0 w
 ch : ChsM w c cs mt mh m n T H
 all : w.ownsRow w0.heap.size 211 4 (.slice Aa nk ca) nk (Kys ks)
 into : ∀ x ∈ ks,w.ownsRow w0.heap.size 21 1 (laV x.1) x.1.1.length (Rs x.1.1) /\ x.1.1.length <= 18 /\ (∀ r ∈ x.1.1,R32 r) /\ x.2.cd.size <= 200
 keys : w.ownsRow w0.heap.size 42 1 kv kn kl
 codes : w.ownsRow w0.heap.size 9 1 dv dn dl
 good : GoodT T
 q : w0.heap.size <= c
theorem NwI.kws {w0 w : World} {c mt mh ma m n na nb nk : Nat} {cs : Array Value} {T : TxC} {H : HdC} {Aa : Option Addr} {ca : Nat} {ks : List KY} (h : NwI w0 c mt mh ma cs T H m n na nb Aa ca ks w) (hn : nk = ks.length) : KwS w0 c mt mh m n T H cs Aa ca nk ks (.slice none 0 0) 0 [] (.slice none 0 0) 0 [] w:=by
 subst hn;exact ⟨h.bel,h.ch,h.all,h.into,World.ownsRow_nil _ _ _ _,World.ownsRow_nil _ _ _ _,h.good,h.q.1⟩
section
variable {w0 w w' w9 : World} {c mt mh m n nk : Nat} {cs : Array Value} {T : TxC} {H : HdC} {Aa : Option Addr} {ca : Nat} {ks : List KY} {kv dv : Value} {kn dn : Nat} {kl dl : List Value}
theorem KwS.below (h : KwS w0 c mt mh m n T H cs Aa ca nk ks kv kn kl dv dn dl w) (hb : Below w.heap.size w w') : KwS w0 c mt mh m n T H cs Aa ca nk ks kv kn kl dv dn dl w' :=
 ⟨h.bel.trans (hb.mono h.bel.size),h.ch.below hb,zy h.all hb,fun x hx => ⟨zy (h.into x hx).1 hb,(h.into x hx).2⟩,zy h.keys hb,zy h.codes hb,h.good,h.q⟩
theorem KwS.other {e : TypeId} (h : KwS w0 c mt mh m n T H cs Aa ca nk ks kv kn kl dv dn dl w) {v : Value} {vn : Nat} {vl : List Value} (hv : w.ownsRow w0.heap.size e 1 v vn vl) (hg : w.grownBy w9 v.ownBlock) (e1 : e ≠ 206) (e2 : e ≠ 211) (e3 : e ≠ 21) :
  Below w0.heap.size w0 w9 /\ ChsM w9 c cs mt mh m n T H /\ w9.ownsRow w0.heap.size 211 4 (.slice Aa nk ca) nk (Kys ks) /\ (∀ x ∈ ks,w9.ownsRow w0.heap.size 21 1 (laV x.1) x.1.1.length (Rs x.1.1) /\ x.1.1.length <= 18 /\ (∀ r ∈ x.1.1,R32 r) /\ x.2.cd.size <= 200) /\
  ∀ (k : Nat) (cur : Array Value) (t : TypeId) (fr : Nat × Nat),w.heap[k]? = some (.cells cur t fr) -> t ≠ e -> w9.heap[k]? = some (.cells cur t fr):=by
 have nc : ∀ (k : Nat) (cur : Array Value) (t : TypeId) (fr : Nat × Nat),w.heap[k]? = some (.cells cur t fr) -> t ≠ e -> w9.heap[k]? = some (.cells cur t fr):=fun k cur t fr hk ht => (hg.block k (Array.getElem?_eq_some_iff.1 hk).1 (fun e => by
  obtain ⟨cur2,hc⟩:=zar hv e.symm
  exact zaz hk hc ht rfl)).trans hk
 have nm : ∀ {b : Nat},(∀ {j : Nat} {cs : Array Value} {t : TypeId} {fr : Nat × Nat},w.heap[j]? = some (.cells cs t fr) -> b ≠ j) -> some b ≠ v.ownBlock:=fun hm e => by
  obtain ⟨cur2,hc⟩:=zar hv e.symm;exact hm hc rfl
 exact ⟨h.bel.trans ((Below.refl _ _).grown hg h.bel.size (fun k e => (hv.lt k e).1)),⟨nc _ _ _ _ h.ch.box (Ne.symm e1),h.ch.ct,h.ch.ch,h.ch.t.kept hg (nm h.ch.t.ne_cells),h.ch.h.kept hg (nm h.ch.h.ne_cells)⟩,z8 h.all (fun k cur fr hk => nc k cur _ fr hk (Ne.symm e2)),fun x hx => ⟨z8 (h.into x hx).1 (fun k cur fr hk => nc k cur _ fr hk (Ne.symm e3)),(h.into x hx).2⟩,nc⟩
theorem KwS.keyApp (h : KwS w0 c mt mh m n T H cs Aa ca nk ks kv kn kl dv dn dl w) {kv' : Value} {kn' : Nat} {kl' : List Value} (ho : w9.ownsRow w0.heap.size 42 1 kv' kn' kl') (hg : w.grownBy w9 kv.ownBlock) : KwS w0 c mt mh m n T H cs Aa ca nk ks kv' kn' kl' dv dn dl w9:=by
 obtain ⟨h1,h2,h3,h4,nc⟩:=h.other h.keys hg (by decide) (by decide) (by decide);exact ⟨h1,h2,h3,h4,ho,z8 h.codes (fun k cur fr hk => nc k cur _ fr hk (by decide)),h.good,h.q⟩
theorem KwS.codeApp (h : KwS w0 c mt mh m n T H cs Aa ca nk ks kv kn kl dv dn dl w) {kv' : Value} {kn' : Nat} {kl' : List Value} (ho : w9.ownsRow w0.heap.size 9 1 kv' kn' kl') (hg : w.grownBy w9 dv.ownBlock) : KwS w0 c mt mh m n T H cs Aa ca nk ks kv kn kl kv' kn' kl' w9:=by
 obtain ⟨h1,h2,h3,h4,nc⟩:=h.other h.codes hg (by decide) (by decide) (by decide);exact ⟨h1,h2,h3,h4,z8 h.keys (fun k cur fr hk => nc k cur _ fr hk (by decide)),ho,h.good,h.q⟩
theorem KwS.cset (h : KwS w0 c mt mh m n T H cs Aa ca nk ks kv kn kl dv dn dl w) (j : Nat) (h3 : j ≠ 3) (h4 : j ≠ 4) (v : Value) : KwS w0 c mt mh m n T H (cs.setIfInBounds j v) Aa ca nk ks kv kn kl dv dn dl (w.setCell ⟨c,j,none⟩ v):=by
 have nb : ∀ (k : Nat),k ≠ c -> (w.setCell ⟨c,j,none⟩ v).heap[k]? = w.heap[k]? := fun k hk => Below.heap_setCell w ⟨c,j,none⟩ v k hk;have nc : ∀ (k : Nat) (cur : Array Value) (t : TypeId) (fr : Nat × Nat),w.heap[k]? = some (.cells cur t fr) -> t ≠ 206 -> (w.setCell ⟨c,j,none⟩ v).heap[k]? = some (.cells cur t fr):=fun k cur t fr hk ht => (nb k (zaz hk h.ch.box ht)).trans hk;exact ⟨h.bel.setCell (p:=⟨c,j,none⟩) h.q _,⟨zat h.ch.box j _,by rw [Array.getElem?_setIfInBounds_ne h3]; exact h.ch.ct,by rw [Array.getElem?_setIfInBounds_ne h4]; exact h.ch.ch,h.ch.t.setCell (h.ch.t.ne_cells h.ch.box) _,h.ch.h.setCell (h.ch.h.ne_cells h.ch.box) _⟩,z8 h.all (fun k cur fr hk => nc k cur _ fr hk (by decide)),fun x hx => ⟨z8 (h.into x hx).1 (fun k cur fr hk => nc k cur _ fr hk (by decide)),(h.into x hx).2⟩,z8 h.keys (fun k cur fr hk => nc k cur _ fr hk (by decide)),z8 h.codes (fun k cur fr hk => nc k cur _ fr hk (by decide)),h.good,h.q⟩
abbrev Kl (ks : List KY) : List Value:=ks.map fun x => laV x.1
abbrev Dl (ks : List KY) : List Value:=ks.map fun x => .string x.2.cd
theorem Kl_next {k : Nat} {x : KY} (h : ks[k]? = some x) : Kl (ks.take k) ++ [laV x.1] = Kl (ks.take (k + 1)):=by rw [List.take_add_one,h]; simp [Kl]
theorem Dl_next {k : Nat} {x : KY} (h : ks[k]? = some x) : Dl (ks.take k) ++ [.string x.2.cd] = Dl (ks.take (k + 1)):=by rw [List.take_add_one,h]; simp [Dl]
theorem KwS.next {k : Nat} {x : KY} (h : KwS w0 c mt mh m n T H cs Aa ca nk ks kv kn (Kl (ks.take k) ++ [laV x.1]) dv dn (Dl (ks.take k) ++ [.string x.2.cd]) w) (hx : ks[k]? = some x) : KwS w0 c mt mh m n T H cs Aa ca nk ks kv kn (Kl (ks.take (k + 1))) dv dn (Dl (ks.take (k + 1))) w:=by
 rw [<- Kl_next hx,<- Dl_next hx];exact h
theorem KwS.args {Ak Ad : Option Addr} {ck cd : Nat} (h : KwS w0 c mt mh m n T H cs Aa ca nk ks (.slice Ak kn ck) kn (Kl ks) (.slice Ad dn cd) dn (Dl ks) w) (hk : kn = ks.length) (hd : dn = ks.length) (h40 : dn <= 40) : ArgSS w Ad dn (ks.map fun x => x.2.cd) /\ ArgK w Ak kn (ks.map fun x => x.1):=by
 refine ⟨⟨by rw [List.length_map]; exact hd.symm,by unfold maxLen; omega,?_⟩,⟨by rw [List.length_map]; exact hk.symm,?_,fun y hy => ?_⟩⟩
 ·obtain ⟨A',c',e,_,_,hr⟩:=Rd.of_own h.codes;injection e with e;subst e;rw [List.map_map];exact hr
 ·obtain ⟨A',c',e,_,_,hr⟩:=Rd.of_own h.keys;injection e with e;subst e;rw [LLs,List.map_map];exact hr
 ·obtain ⟨x,hx,rfl⟩:=List.mem_map.1 hy;obtain ⟨h1,h2,h3,_⟩:=h.into x hx;obtain ⟨⟨l,A1,c1⟩,r⟩:=x;obtain ⟨A',c',e,hcap,_,hr⟩:=Rd.of_own h1;injection e with e _ e2;subst e e2;refine ⟨hr,h2,h3,fun e => ?_,hcap⟩;rcases h1.2 with ⟨hv,_⟩ | ⟨g,cap,cur,hv,_⟩
  ·injection hv with _ h5 h6;exact ⟨h5,h6⟩
  ·injection hv with hv;dsimp only at e hv;rw [e] at hv
   cases hv
theorem KwS.allocB (h : KwS w0 c mt mh m n T H cs Aa ca nk ks kv kn kl dv dn dl w) (o : Obj) : Below w.heap.size w (w.alloc o):=(Below.refl _ _).alloc (Nat.le_refl _) _
theorem KwS.allocD (h : KwS w0 c mt mh m n T H cs Aa ca nk ks kv kn kl dv dn dl w.drew) (o : Obj) : Below w.drew.heap.size w.drew (w.alloc o).drew:=(Below.refl w.drew.heap.size w.drew).alloc (Nat.le_refl _) o
theorem KwS.newBoxD (h : KwS w0 c mt mh m n T H cs Aa ca nk ks kv kn kl dv dn dl w.drew) (xs : Array Value) (t : TypeId) : (w.alloc (.cells xs t)).drew.heap[w.heap.size]? = some (.cells xs t (0,0)):=zm _ _ _
theorem KwS.newBoxD2 {o : Obj} (h : KwS w0 c mt mh m n T H cs Aa ca nk ks kv kn kl dv dn dl (w.alloc o).drew) (xs : Array Value) (t : TypeId) : ((w.alloc o).alloc (.cells xs t)).drew.heap[w.heap.size + 1]? = some (.cells xs t (0,0)):=by
 have h1:=zm (w.alloc o) xs t;rw [show (w.alloc o).heap.size = w.heap.size + 1 by simp] at h1;exact h1
theorem KwS.newBox (h : KwS w0 c mt mh m n T H cs Aa ca nk ks kv kn kl dv dn dl w) (xs : Array Value) (t : TypeId) : (w.alloc (.cells xs t)).heap[w.heap.size]? = some (.cells xs t (0,0)):=zm _ _ _
theorem KwS.boxSet (h : KwS w0 c mt mh m n T H cs Aa ca nk ks kv kn kl dv dn dl w) {b j : Nat} {xs : Array Value} {t : TypeId} {v : Value} (hx : w.heap[b]? = some (.cells xs t (0,0))) (ht : t ≠ 206) : (w.setCell ⟨c,j,none⟩ v).heap[b]? = some (.cells xs t (0,0)) :=
 (Below.heap_setCell w ⟨c,j,none⟩ v b (zaz hx h.ch.box ht)).trans hx
end
theorem zff {w : World} {b : Nat} {v : Value} {t : TypeId} (h : w.heap[b]? = some (.cells #[v] t (0,0))) : Rd w (some ⟨b,0,none⟩) 1 [v]:=⟨rfl,fun _ => ⟨b,0,rfl,fun j u hu => by
 match j,hu with
 | 0,hu =>
  injection hu with hu;subst hu;exact za h 0 rfl
 | j + 1,hu => simp at hu⟩⟩
end
section
open Go.RowKit Go.Lib Go.Maps
def zbh (P : Program) (md : Region.Mode) (ops : Array Oper) (Q : Exit -> Act -> World -> Prop) (k : Nat) (R C : World -> Prop) : Nat -> Array Bool -> Act -> World -> Prop
 | 0,L,a,w => Region.ready md ops L = [] /\ Q .normal a w
 | n + 1,L,a,w => (Region.ready md ops L = [] -> Q .normal a w) /\
  ∀ j ∈ Region.ready md ops L,wpOp P ops Q j (fun a' w' => (R w' /\ ((L.setIfInBounds j true).getD k true = false -> C w')) /\ zbh P md ops Q k R C n (L.setIfInBounds j true) a' w') a w
def zi0 (md : Region.Mode) (ops : Array Oper) (k i : Nat) : Bool:=match ops[k]? with
 | some o => o.after.any fun e => Region.binds md e && e.on == i
 | none => false
section
variable {P : Program} {ops : Array Oper} {Q : Exit -> Act -> World -> Prop} {md : Region.Mode} {R C S : World -> Prop} {k : Nat}
theorem zk4 : ∀ (n : Nat) (L : Array Bool) (a : Act) (w : World),zbh P md ops Q k R C n L a w -> wpAny P md ops Q n L a w
 | 0,_,_,_,h => h
 | n + 1,_,_,_,h => ⟨h.1,fun j hj => wpOp_mono (fun a' w' h' => zk4 n _ a' w' h'.2) (h.2 j hj)⟩
theorem zhk {i : Nat} {oi : Oper} {v : Value} (hi : ops[i]? = some oi) (hik : i ≠ k) (hsel : ∀ (j : Nat) (o : Oper) cs b,ops[j]? = some o -> o.op ≠ .select cs b)
  (hQ : ∀ c a w,Q (.panic c) (a.put oi.dst v) w -> Q (.panic c) a w) : ∀ (n : Nat) (L : Array Bool) (a : Act) (w : World),
   (∀ j oj,ops[j]? = some oj -> j ≠ i -> L.getD j true = false -> (∀ e ∈ oj.after,Region.binds md e = true -> e.on ≠ i) -> oi.apart ops oj = true) ->
   i ∈ Region.ready md ops L -> YieldsIf P ops S oi v a -> ((∀ w,R w -> S w) \/ (zi0 md ops k i = true /\ L.getD k true = false /\ ∀ w,R w -> C w -> S w)) -> R w /\ (L.getD k true = false -> C w) ->
   zbh P md ops Q k R C n (L.setIfInBounds i true) (a.put oi.dst v) w -> zbh P md ops Q k R C (n + 1) L a w:=by
 have out : ∀ {L : Array Bool} {w : World},((∀ w,R w -> S w) \/ (zi0 md ops k i = true /\ L.getD k true = false /\ ∀ w,R w -> C w -> S w)) -> R w /\ (L.getD k true = false -> C w) -> S w:=fun h hw => by
  rcases h with h | ⟨_,h1,h2⟩
  ·exact h _ hw.1
  ·exact h2 _ hw.1 (hw.2 h1)
 intro n;induction n with
 | zero =>
  intro L a w _ hr hy hc hS H;refine ⟨fun h => (by rw [h] at hr; cases hr),fun j hj => ?_⟩
  by_cases hji : j = i
  ·subst hji;exact hy.wpOp hi (out hc hS) ⟨⟨hS.1,by rw [getD_set_ne true hik]; exact hS.2⟩,H⟩
  ·have:=ready_mono hj hji;rw [H.1] at this
   cases this
 | succ n ih =>
  intro L a w hfree hr hy hc hS H;refine ⟨fun h => (by rw [h] at hr; cases hr),fun j hj => ?_⟩
  by_cases hji : j = i
  ·subst hji;exact hy.wpOp hi (out hc hS) ⟨⟨hS.1,by rw [getD_set_ne true hik]; exact hS.2⟩,H⟩
  ·obtain ⟨hjun,oj,hoj,hall⟩:=mem_ready.1 hj;have hi0:=(mem_ready.1 hr).1
   have hnot : ∀ e ∈ oj.after,Region.binds md e = true -> e.on ≠ i:=fun e he hb heq => by
    have h1:=hall e he hb;rw [heq] at h1;rcases Nat.lt_or_ge i L.size with h' | h'
    ·simp [h'] at hi0 h1;rw [hi0] at h1
     cases h1
    ·simp [Array.getElem?_eq_none h'] at h1
   have hc' : (∀ w,R w -> S w) \/ (zi0 md ops k i = true /\ (L.setIfInBounds j true).getD k true = false /\ ∀ w,R w -> C w -> S w):=by
    rcases hc with hc | ⟨h1,h2,h3⟩
    ·exact .inl hc
    ·refine .inr ⟨h1,?_,h3⟩
     have hjk : j ≠ k:=fun e => by
      subst e;unfold zi0 at h1;rw [hoj] at h1;obtain ⟨e,he,h2⟩:=Array.any_eq_true'.1 h1;rw [Bool.and_eq_true] at h2;exact hnot e he h2.1 (by simpa using h2.2)
     rw [getD_set_ne true hjk];exact h2
   have h2:=wpOp_putIf hoj (hfree j oj hoj hji hjun hnot) (fun cs b => hsel i oi cs b hi) (fun cs b => hsel j oj cs b hoj) hQ hy (H.2 j (ready_mono hj hji));refine wpOp_mono (fun a' w' h3 => ?_) h2;have hS' : R w' /\ ((L.setIfInBounds j true).getD k true = false -> C w'):=⟨h3.2.1.1,fun e => h3.2.1.2 (by rw [Array.setIfInBounds_comm _ _ (Ne.symm hji),getD_set_ne true hik]; exact e)⟩;refine ⟨hS',ih (L.setIfInBounds j true) a' w' (fun m om hm hmi hun hno => hfree m om hm hmi ?_ hno) (ready_mono hr (Ne.symm hji)) h3.1 hc' hS' (by rw [Array.setIfInBounds_comm _ _ hji]; exact h3.2.2)⟩
   by_cases hjm : j = m
   ·subst hjm;exact hjun
   ·rw [getD_set_ne true hjm] at hun;exact hun
def zb4 (P : Program) (md : Region.Mode) (ops : Array Oper) (Q : Exit -> Act -> World -> Prop) (k : Nat) (R C : World -> Prop) (n : Nat) (L : Array Bool) (a : Act) (w : World) (rs : List Nat) : Prop :=
 ∀ j ∈ rs,wpOp P ops Q j (fun a' w' => (R w' /\ ((L.setIfInBounds j true).getD k true = false -> C w')) /\ zbh P md ops Q k R C n (L.setIfInBounds j true) a' w') a w
theorem zb4.nil {n : Nat} {L : Array Bool} {a : Act} {w : World} : zb4 P md ops Q k R C n L a w []:=fun _ h => by cases h
theorem zb4.cons {n : Nat} {L : Array Bool} {a : Act} {w : World} {i : Nat} {o : Oper} {rs : List Nat} (ho : ops[i]? = some o)
  (h : ∀ K' : Act -> World -> Prop,Shut (∀ a w,R w -> ((L.setIfInBounds i true).getD k true = false -> C w) -> zbh P md ops Q k R C n (L.setIfInBounds i true) a w -> K' a w) -> if Region.wanted o (yielded ops a.tmps) = true then Oper.wp P o a w K' Q else K' (a.put o.dst undef) w)
  (hs : zb4 P md ops Q k R C n L a w rs) : zb4 P md ops Q k R C n L a w (i :: rs):=fun j hj => by
 rcases List.mem_cons.1 hj with rfl | hj
 ·exact wpOp_step ho (fun K' hK => h K' (fun a w h1 h2 h3 => hK a w ⟨⟨h1,h2⟩,h3⟩))
 ·exact hs j hj
theorem zhj {rs : List Nat} {n : Nat} {L : Array Bool} {a : Act} {w : World} (hr : Region.ready md ops L = rs) (hne : rs ≠ [])
  (h : zb4 P md ops Q k R C n L a w rs) : zbh P md ops Q k R C (n + 1) L a w:=⟨fun h0 => absurd (hr ▸ h0) hne,hr ▸ h⟩
theorem zgb {L : Array Bool} {a : Act} {w : World} (hr : Region.ready md ops L = []) (h : Q .normal a w) : ∀ n,zbh P md ops Q k R C n L a w
 | 0 => ⟨hr,h⟩
 | _ + 1 => ⟨fun _ => h,by rw [hr]; simp⟩
theorem till_start {id : Nat} {a : Act} {w : World} (k : Nat) (R C : World -> Prop) (hm : P.follows .mixedOrders = true)
  (h : zbh P .any ops Q k R C ops.size (Array.replicate ops.size false) a w.drew) : (Code.region id ops true).wp P Q a w:=wp_region_any hm (zk4 _ _ _ _ h)
theorem tkT (i : Nat) (v : Value) {oi : Oper} {n : Nat} {L : Array Bool} {a : Act} {w : World} (hS : R w /\ C w) (hi : ops[i]? = some oi:=by rfl)
  (hs : Region.noSelect ops = true:=by kernel_rfl) (hf : Region.free md ops L i = true:=by kernel_rfl) (hr : (Region.ready md ops L).contains i = true:=by kernel_rfl) (hw : zi0 md ops k i = true:=by kernel_rfl) (hik : i ≠ k:=by decide) (hL : L.getD k true = false:=by kernel_rfl)
  (hQ : ∀ c a w,Q (.panic c) (a.put oi.dst v) w -> Q (.panic c) a w:=by exact fun _ _ _ h => h) (hy1 : Region.wanted oi (yielded ops a.tmps) = true:=by kernel_rfl) (hy : ∀ w,R w -> C w -> (execOp a.eval oi).run P w = .ok (.value v) w)
  (h : zbh P md ops Q k R C n (L.setIfInBounds i true) (a.put oi.dst v) w) : zbh P md ops Q k R C (n + 1) L a w :=
 zhk (S:=fun w => R w /\ C w) hi hik (Region.noSelect_spec hs) hQ n L a w (Region.free_spec hi hf) (by simpa using hr) (.inl ⟨hy1,fun w h => hy w h.1 h.2⟩) (.inr ⟨hw,hL,fun _ h1 h2 => ⟨h1,h2⟩⟩) ⟨hS.1,fun _ => hS.2⟩ h
theorem tkR (i : Nat) (v : Value) {oi : Oper} {n : Nat} {L : Array Bool} {a : Act} {w : World} (hS : R w /\ C w) (hi : ops[i]? = some oi:=by rfl)
  (hs : Region.noSelect ops = true:=by kernel_rfl) (hf : Region.free md ops L i = true:=by kernel_rfl) (hr : (Region.ready md ops L).contains i = true:=by kernel_rfl) (hik : i ≠ k:=by decide)
  (hQ : ∀ c a w,Q (.panic c) (a.put oi.dst v) w -> Q (.panic c) a w:=by exact fun _ _ _ h => h) (hy1 : Region.wanted oi (yielded ops a.tmps) = true:=by kernel_rfl) (hy : ∀ w,R w -> (execOp a.eval oi).run P w = .ok (.value v) w)
  (h : zbh P md ops Q k R C n (L.setIfInBounds i true) (a.put oi.dst v) w) : zbh P md ops Q k R C (n + 1) L a w :=
 zhk (S:=R) hi hik (Region.noSelect_spec hs) hQ n L a w (Region.free_spec hi hf) (by simpa using hr) (.inl ⟨hy1,hy⟩) (.inl fun _ h => h) ⟨hS.1,fun _ => hS.2⟩ h
theorem rdT (i : Nat) {n : Nat} {L : Array Bool} {a : Act} {w : World} {o : Oper} (hr : Region.ready md ops L = [i]:=by kernel_rfl) (ho : ops[i]? = some o:=by rfl)
  (h : ∀ K' : Act -> World -> Prop,Shut (∀ a w,R w -> ((L.setIfInBounds i true).getD k true = false -> C w) -> zbh P md ops Q k R C n (L.setIfInBounds i true) a w -> K' a w) -> if Region.wanted o (yielded ops a.tmps) = true then Oper.wp P o a w K' Q else K' (a.put o.dst undef) w) : zbh P md ops Q k R C (n + 1) L a w :=
 zhj hr (by simp) (zb4.cons ho h zb4.nil)
theorem rdT2 (i j : Nat) {n : Nat} {L : Array Bool} {a : Act} {w : World} {o o2 : Oper} (hr : Region.ready md ops L = [i,j]:=by kernel_rfl) (ho : ops[i]? = some o:=by rfl) (ho2 : ops[j]? = some o2:=by rfl)
  (h : ∀ K' : Act -> World -> Prop,Shut (∀ a w,R w -> ((L.setIfInBounds i true).getD k true = false -> C w) -> zbh P md ops Q k R C n (L.setIfInBounds i true) a w -> K' a w) -> if Region.wanted o (yielded ops a.tmps) = true then Oper.wp P o a w K' Q else K' (a.put o.dst undef) w)
  (h2 : ∀ K' : Act -> World -> Prop,Shut (∀ a w,R w -> ((L.setIfInBounds j true).getD k true = false -> C w) -> zbh P md ops Q k R C n (L.setIfInBounds j true) a w -> K' a w) -> if Region.wanted o2 (yielded ops a.tmps) = true then Oper.wp P o2 a w K' Q else K' (a.put o2.dst undef) w) : zbh P md ops Q k R C (n + 1) L a w :=
 zhj hr (by simp) (zb4.cons ho h (zb4.cons ho2 h2 zb4.nil))
theorem za8 {b : Bool} {p : Prop} (hb : b = true:=by kernel_rfl) : b = false -> p:=fun e => by rw [hb] at e; cases e
end
end
end Go.Proofs.YtolcabjkbefjgaaGreatDoor
