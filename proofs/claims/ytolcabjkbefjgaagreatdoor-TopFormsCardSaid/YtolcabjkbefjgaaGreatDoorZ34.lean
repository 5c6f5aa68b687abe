/- wide.put, Encode and Mark, at the mark alone. The kind that a mark tells; whether bytes may become a mark. May bytes become a mark? stream's take. stream: Feed, Close, Faults, Whole. utf8.Encode of one character, U+00C0. -/
import Derived.Test.YtolcabjkbefjgaaGreatDoorZ31
import Derived.StillTailTactics
set_option linter.unusedSimpArgs false
set_option linter.unusedVariables false
set_option maxRecDepth 20000
set_option maxHeartbeats 4000000
namespace Go.Proofs.YtolcabjkbefjgaaGreatDoor
section
open Go.RowKit
theorem BldP.kept {T : TypeId} {base b : Nat} {cs : Array Value} {l : List UInt8} {w0 w w' : World} (h : BldP T base b cs l w w') (hk : KeptB b w0 w) (hb : Below base w0 w) :
  ∃ cs', BldM T base b cs' l w' /\ cs'.size = cs.size /\ KeptB b w0 w' /\ Below base w0 w' := by
 obtain ⟨cs', h1, h2, _, h4, h5⟩ := h;exact ⟨cs', h1, h2, hk.trans h4, hb.trans h5⟩
theorem KeptB.cell {b : Nat} {w w' : World} (h : KeptB b w w') {A : Addr} {o : Obj} (hA : w.heap[A.block]? = some o) (hb : A.block ≠ b) (ho : ∀ cur fr, o ≠ .cells cur 5 fr) {v : Value} (hv : w.cell? A = some v) : w'.cell? A = some v := by
 have := h.2 A.block o hA hb ho;rw [<- hv];simp only [World.cell?, this, hA]
theorem wput_l2 (base b : Nat) (cs : Array Value) (A : Addr) (c : Nat) (o : Obj) (w : World) (hcs : cs.size = 2) (h : BldM 116 base b cs [] w) (hA : w.cell? A = some (.int .i64 65279)) (hAo : w.heap[A.block]? = some o) (hAb : A.block ≠ b) (ho : ∀ cur fr, o ≠ .cells cur 5 fr) (hbw : base <= w.heap.size) :
  Calls Tryz.prog 207 #[.agg #[.int .i64 2, .bool false], .pointer (some ⟨b, 0, none⟩), .slice (some A) 1 c] w fun e w' => e = .returned (.tuple #[]) /\ (∃ cs', BldM 116 base b cs' [255, 254] w') /\ Below base w w' := by
 obtain ⟨W, hW⟩ : ∃ W, w.alloc (.cells #[.int .i64 2, .bool false] 299) = W := ⟨_, rfl⟩;have hblt := (Array.getElem?_eq_some_iff.1 h.hx).1;have hb0 : Below w.heap.size w W := (by rw [<- hW]; exact (Below.refl _ _).alloc (Nat.le_refl _) _);have hx : W.heap[w.heap.size]? = some (.cells #[.int .i64 2, .bool false] 299 (0, 0)) := (by rw [<- hW]; exact zj w _ _);have HX := hz0q hx;have d0 := za hx 0 rfl;have d1 := za hx 1 rfl;have HB : Hid (Below base w W) := hz0q (hb0.mono hbw)
 have hM : BldM 116 base b cs [] W := ⟨(hb0.block b hblt).trans h.hx, h.sz, h.p, by
  obtain ⟨v, g1, g2, g3⟩ := h.v
  exact ⟨v, g1, zl g2 hb0, g3⟩, h.bb⟩
 have hAW : W.cell? A = some (.int .i64 65279) := by
  have : W.heap[A.block]? = w.heap[A.block]? := hb0.block A.block (Array.getElem?_eq_some_iff.1 hAo).1;rw [<- hA]; simp only [World.cell?, this]
 have hAoW : W.heap[A.block]? = some o := (hb0.block A.block (Array.getElem?_eq_some_iff.1 hAo).1).trans hAo;have HW := hz0q hW;have HAo := hz0q hAoW;have HA := hz0q hAW;have hxb : w.heap.size ≠ b := (by omega);have HXB := hz0q hxb;have hWs : base <= W.heap.size := (by rw [<- hW]; simp; omega);have HWS := hz0q hWs;have a0 := hAW;clear hb0 hx hW h hA hAo hAoW hblt hxb hWs hbw hAW;go_enter Tryz.func207, Tryz.ntmps207;go_wp2_with fail;rw [HW.out];refine wp_loop_rounds 2 ?_;rw [rounds_succ];go_wp2_with fail;refine wp_loop_rounds 3 ?_;rw [rounds_succ];go_wp2_with fail;refine (zal 116 base b cs [] 255 W hM (by rw [hcs]; exact zce) (by decide) (by simp) (by first | exact HWS.out | (have := hb1.out.size; exact Nat.le_trans HWS.out (hk1.out.1)))).mono ?_;rintro e W1 ⟨rfl, hp⟩;obtain ⟨cs1, g1, hs1, g2, g3⟩ := hp.kept (KeptB.refl _ _) (Below.refl _ _);rw [hcs] at hs1;have d0 := za (g2.2 _ _ HX.out HXB.out (by intro cur fr e; injection e with _ e; exact absurd e (by decide))) 0 rfl;have d1 := za (g2.2 _ _ HX.out HXB.out (by intro cur fr e; injection e with _ e; exact absurd e (by decide))) 1 rfl;have a0 := g2.cell HAo.out hAb ho HA.out;have hM1 := hz0q g1;have hk1 := hz0q g2;have hb1 := hz0q g3;clear g1 g2 g3 hp hM;go_wp2_with fail;rw [rounds_succ];go_wp2_with fail;refine (zal 116 base b cs1 [255] 254 W1 hM1.out (by rw [hs1]; exact zce) (by decide) (by simp) (by first | exact HWS.out | (have := hb1.out.size; exact Nat.le_trans HWS.out (hk1.out.1)))).mono ?_;rintro e W2 ⟨rfl, hp⟩;obtain ⟨cs2, g1, hs2, g2, g3⟩ := hp.kept hk1.out hb1.out
 rw [hs1] at hs2;have d0 := za (g2.2 _ _ HX.out HXB.out (by intro cur fr e; injection e with _ e; exact absurd e (by decide))) 0 rfl;have d1 := za (g2.2 _ _ HX.out HXB.out (by intro cur fr e; injection e with _ e; exact absurd e (by decide))) 1 rfl;have a0 := g2.cell HAo.out hAb ho HA.out;have hM2 := hz0q g1;have hk2 := hz0q g2;have hb2 := hz0q g3;clear g1 g2 g3 hp ;go_wp2_with fail;rw [rounds_succ];go_wp2_with fail;rw [rounds_succ];go_wp2_with fail;go_returns;exact ⟨rfl, ⟨cs2, hM2.out⟩, HB.out.trans hb2.out⟩
theorem wput_b2 (base b : Nat) (cs : Array Value) (A : Addr) (c : Nat) (o : Obj) (w : World) (hcs : cs.size = 2) (h : BldM 116 base b cs [] w) (hA : w.cell? A = some (.int .i64 65279)) (hAo : w.heap[A.block]? = some o) (hAb : A.block ≠ b) (ho : ∀ cur fr, o ≠ .cells cur 5 fr) (hbw : base <= w.heap.size) :
  Calls Tryz.prog 207 #[.agg #[.int .i64 2, .bool true], .pointer (some ⟨b, 0, none⟩), .slice (some A) 1 c] w fun e w' => e = .returned (.tuple #[]) /\ (∃ cs', BldM 116 base b cs' [254, 255] w') /\ Below base w w' := by
 obtain ⟨W, hW⟩ : ∃ W, w.alloc (.cells #[.int .i64 2, .bool true] 299) = W := ⟨_, rfl⟩;have hblt := (Array.getElem?_eq_some_iff.1 h.hx).1;have hb0 : Below w.heap.size w W := (by rw [<- hW]; exact (Below.refl _ _).alloc (Nat.le_refl _) _);have hx : W.heap[w.heap.size]? = some (.cells #[.int .i64 2, .bool true] 299 (0, 0)) := (by rw [<- hW]; exact zj w _ _);have HX := hz0q hx;have d0 := za hx 0 rfl;have d1 := za hx 1 rfl;have HB : Hid (Below base w W) := hz0q (hb0.mono hbw)
 have hM : BldM 116 base b cs [] W := ⟨(hb0.block b hblt).trans h.hx, h.sz, h.p, by
  obtain ⟨v, g1, g2, g3⟩ := h.v
  exact ⟨v, g1, zl g2 hb0, g3⟩, h.bb⟩
 have hAW : W.cell? A = some (.int .i64 65279) := by
  have : W.heap[A.block]? = w.heap[A.block]? := hb0.block A.block (Array.getElem?_eq_some_iff.1 hAo).1;rw [<- hA]; simp only [World.cell?, this]
 have hAoW : W.heap[A.block]? = some o := (hb0.block A.block (Array.getElem?_eq_some_iff.1 hAo).1).trans hAo;have HW := hz0q hW;have HAo := hz0q hAoW;have HA := hz0q hAW;have hxb : w.heap.size ≠ b := (by omega);have HXB := hz0q hxb;have hWs : base <= W.heap.size := (by rw [<- hW]; simp; omega);have HWS := hz0q hWs;have a0 := hAW;clear hb0 hx hW h hA hAo hAoW hblt hxb hWs hbw hAW;go_enter Tryz.func207, Tryz.ntmps207;go_wp2_with fail;rw [HW.out];refine wp_loop_rounds 2 ?_;rw [rounds_succ];go_wp2_with fail;refine wp_loop_rounds 3 ?_;rw [rounds_succ];go_wp2_with fail;refine (zal 116 base b cs [] 254 W hM (by rw [hcs]; exact zce) (by decide) (by simp) (by first | exact HWS.out | (have := hb1.out.size; exact Nat.le_trans HWS.out (hk1.out.1)))).mono ?_;rintro e W1 ⟨rfl, hp⟩;obtain ⟨cs1, g1, hs1, g2, g3⟩ := hp.kept (KeptB.refl _ _) (Below.refl _ _);rw [hcs] at hs1;have d0 := za (g2.2 _ _ HX.out HXB.out (by intro cur fr e; injection e with _ e; exact absurd e (by decide))) 0 rfl;have d1 := za (g2.2 _ _ HX.out HXB.out (by intro cur fr e; injection e with _ e; exact absurd e (by decide))) 1 rfl;have a0 := g2.cell HAo.out hAb ho HA.out;have hM1 := hz0q g1;have hk1 := hz0q g2;have hb1 := hz0q g3;clear g1 g2 g3 hp hM;go_wp2_with fail;rw [rounds_succ];go_wp2_with fail;refine (zal 116 base b cs1 [254] 255 W1 hM1.out (by rw [hs1]; exact zce) (by decide) (by simp) (by first | exact HWS.out | (have := hb1.out.size; exact Nat.le_trans HWS.out (hk1.out.1)))).mono ?_;rintro e W2 ⟨rfl, hp⟩;obtain ⟨cs2, g1, hs2, g2, g3⟩ := hp.kept hk1.out hb1.out
 rw [hs1] at hs2;have d0 := za (g2.2 _ _ HX.out HXB.out (by intro cur fr e; injection e with _ e; exact absurd e (by decide))) 0 rfl;have d1 := za (g2.2 _ _ HX.out HXB.out (by intro cur fr e; injection e with _ e; exact absurd e (by decide))) 1 rfl;have a0 := g2.cell HAo.out hAb ho HA.out;have hM2 := hz0q g1;have hk2 := hz0q g2;have hb2 := hz0q g3;clear g1 g2 g3 hp ;go_wp2_with fail;rw [rounds_succ];go_wp2_with fail;rw [rounds_succ];go_wp2_with fail;go_returns;exact ⟨rfl, ⟨cs2, hM2.out⟩, HB.out.trans hb2.out⟩
theorem wput_l4 (base b : Nat) (cs : Array Value) (A : Addr) (c : Nat) (o : Obj) (w : World) (hcs : cs.size = 2) (h : BldM 116 base b cs [] w) (hA : w.cell? A = some (.int .i64 65279)) (hAo : w.heap[A.block]? = some o) (hAb : A.block ≠ b) (ho : ∀ cur fr, o ≠ .cells cur 5 fr) (hbw : base <= w.heap.size) :
  Calls Tryz.prog 207 #[.agg #[.int .i64 4, .bool false], .pointer (some ⟨b, 0, none⟩), .slice (some A) 1 c] w fun e w' => e = .returned (.tuple #[]) /\ (∃ cs', BldM 116 base b cs' [255, 254, 0, 0] w') /\ Below base w w' := by
 obtain ⟨W, hW⟩ : ∃ W, w.alloc (.cells #[.int .i64 4, .bool false] 299) = W := ⟨_, rfl⟩;have hblt := (Array.getElem?_eq_some_iff.1 h.hx).1;have hb0 : Below w.heap.size w W := (by rw [<- hW]; exact (Below.refl _ _).alloc (Nat.le_refl _) _);have hx : W.heap[w.heap.size]? = some (.cells #[.int .i64 4, .bool false] 299 (0, 0)) := (by rw [<- hW]; exact zj w _ _);have HX := hz0q hx;have d0 := za hx 0 rfl;have d1 := za hx 1 rfl;have HB : Hid (Below base w W) := hz0q (hb0.mono hbw)
 have hM : BldM 116 base b cs [] W := ⟨(hb0.block b hblt).trans h.hx, h.sz, h.p, by
  obtain ⟨v, g1, g2, g3⟩ := h.v
  exact ⟨v, g1, zl g2 hb0, g3⟩, h.bb⟩
 have hAW : W.cell? A = some (.int .i64 65279) := by
  have : W.heap[A.block]? = w.heap[A.block]? := hb0.block A.block (Array.getElem?_eq_some_iff.1 hAo).1;rw [<- hA]; simp only [World.cell?, this]
 have hAoW : W.heap[A.block]? = some o := (hb0.block A.block (Array.getElem?_eq_some_iff.1 hAo).1).trans hAo;have HW := hz0q hW;have HAo := hz0q hAoW;have HA := hz0q hAW;have hxb : w.heap.size ≠ b := (by omega);have HXB := hz0q hxb;have hWs : base <= W.heap.size := (by rw [<- hW]; simp; omega);have HWS := hz0q hWs;have a0 := hAW;clear hb0 hx hW h hA hAo hAoW hblt hxb hWs hbw hAW;go_enter Tryz.func207, Tryz.ntmps207;go_wp2_with fail;rw [HW.out];refine wp_loop_rounds 2 ?_;rw [rounds_succ];go_wp2_with fail;refine wp_loop_rounds 5 ?_;rw [rounds_succ];go_wp2_with fail;refine (zal 116 base b cs [] 255 W hM (by rw [hcs]; exact zce) (by decide) (by simp) (by first | exact HWS.out | (have := hb1.out.size; exact Nat.le_trans HWS.out (hk1.out.1)))).mono ?_;rintro e W1 ⟨rfl, hp⟩;obtain ⟨cs1, g1, hs1, g2, g3⟩ := hp.kept (KeptB.refl _ _) (Below.refl _ _);rw [hcs] at hs1;have d0 := za (g2.2 _ _ HX.out HXB.out (by intro cur fr e; injection e with _ e; exact absurd e (by decide))) 0 rfl;have d1 := za (g2.2 _ _ HX.out HXB.out (by intro cur fr e; injection e with _ e; exact absurd e (by decide))) 1 rfl;have a0 := g2.cell HAo.out hAb ho HA.out;have hM1 := hz0q g1;have hk1 := hz0q g2;have hb1 := hz0q g3;clear g1 g2 g3 hp hM;go_wp2_with fail;rw [rounds_succ];go_wp2_with fail;refine (zal 116 base b cs1 [255] 254 W1 hM1.out (by rw [hs1]; exact zce) (by decide) (by simp) (by first | exact HWS.out | (have := hb1.out.size; exact Nat.le_trans HWS.out (hk1.out.1)))).mono ?_;rintro e W2 ⟨rfl, hp⟩;obtain ⟨cs2, g1, hs2, g2, g3⟩ := hp.kept hk1.out hb1.out
 rw [hs1] at hs2;have d0 := za (g2.2 _ _ HX.out HXB.out (by intro cur fr e; injection e with _ e; exact absurd e (by decide))) 0 rfl;have d1 := za (g2.2 _ _ HX.out HXB.out (by intro cur fr e; injection e with _ e; exact absurd e (by decide))) 1 rfl;have a0 := g2.cell HAo.out hAb ho HA.out;have hM2 := hz0q g1;have hk2 := hz0q g2;have hb2 := hz0q g3;clear g1 g2 g3 hp ;go_wp2_with fail;rw [rounds_succ];go_wp2_with fail;refine (zal 116 base b cs2 [255, 254] 0 W2 hM2.out (by rw [hs2]; exact zce) (by decide) (by simp) (by first | exact HWS.out | (have := hb2.out.size; exact Nat.le_trans HWS.out (hk2.out.1)))).mono ?_;rintro e W3 ⟨rfl, hp⟩;obtain ⟨cs3, g1, hs3, g2, g3⟩ := hp.kept hk2.out hb2.out;rw [hs2] at hs3;have d0 := za (g2.2 _ _ HX.out HXB.out (by intro cur fr e; injection e with _ e; exact absurd e (by decide))) 0 rfl;have d1 := za (g2.2 _ _ HX.out HXB.out (by intro cur fr e; injection e with _ e; exact absurd e (by decide))) 1 rfl;have a0 := g2.cell HAo.out hAb ho HA.out;have hM3 := hz0q g1;have hk3 := hz0q g2;have hb3 := hz0q g3;clear g1 g2 g3 hp ;go_wp2_with fail;rw [rounds_succ];go_wp2_with fail;refine (zal 116 base b cs3 [255, 254, 0] 0 W3 hM3.out (by rw [hs3]; exact zce) (by decide) (by simp) (by first | exact HWS.out | (have := hb3.out.size; exact Nat.le_trans HWS.out (hk3.out.1)))).mono ?_;rintro e W4 ⟨rfl, hp⟩;obtain ⟨cs4, g1, hs4, g2, g3⟩ := hp.kept hk3.out hb3.out;rw [hs3] at hs4;have d0 := za (g2.2 _ _ HX.out HXB.out (by intro cur fr e; injection e with _ e; exact absurd e (by decide))) 0 rfl
 have d1 := za (g2.2 _ _ HX.out HXB.out (by intro cur fr e; injection e with _ e; exact absurd e (by decide))) 1 rfl;have a0 := g2.cell HAo.out hAb ho HA.out;have hM4 := hz0q g1;have hk4 := hz0q g2;have hb4 := hz0q g3;clear g1 g2 g3 hp ;go_wp2_with fail;rw [rounds_succ];go_wp2_with fail;rw [rounds_succ];go_wp2_with fail;go_returns;exact ⟨rfl, ⟨cs4, hM4.out⟩, HB.out.trans hb4.out⟩
theorem wput_b4 (base b : Nat) (cs : Array Value) (A : Addr) (c : Nat) (o : Obj) (w : World) (hcs : cs.size = 2) (h : BldM 116 base b cs [] w) (hA : w.cell? A = some (.int .i64 65279)) (hAo : w.heap[A.block]? = some o) (hAb : A.block ≠ b) (ho : ∀ cur fr, o ≠ .cells cur 5 fr) (hbw : base <= w.heap.size) :
  Calls Tryz.prog 207 #[.agg #[.int .i64 4, .bool true], .pointer (some ⟨b, 0, none⟩), .slice (some A) 1 c] w fun e w' => e = .returned (.tuple #[]) /\ (∃ cs', BldM 116 base b cs' [0, 0, 254, 255] w') /\ Below base w w' := by
 obtain ⟨W, hW⟩ : ∃ W, w.alloc (.cells #[.int .i64 4, .bool true] 299) = W := ⟨_, rfl⟩;have hblt := (Array.getElem?_eq_some_iff.1 h.hx).1;have hb0 : Below w.heap.size w W := (by rw [<- hW]; exact (Below.refl _ _).alloc (Nat.le_refl _) _);have hx : W.heap[w.heap.size]? = some (.cells #[.int .i64 4, .bool true] 299 (0, 0)) := (by rw [<- hW]; exact zj w _ _);have HX := hz0q hx;have d0 := za hx 0 rfl;have d1 := za hx 1 rfl;have HB : Hid (Below base w W) := hz0q (hb0.mono hbw)
 have hM : BldM 116 base b cs [] W := ⟨(hb0.block b hblt).trans h.hx, h.sz, h.p, by
  obtain ⟨v, g1, g2, g3⟩ := h.v
  exact ⟨v, g1, zl g2 hb0, g3⟩, h.bb⟩
 have hAW : W.cell? A = some (.int .i64 65279) := by
  have : W.heap[A.block]? = w.heap[A.block]? := hb0.block A.block (Array.getElem?_eq_some_iff.1 hAo).1;rw [<- hA]; simp only [World.cell?, this]
 have hAoW : W.heap[A.block]? = some o := (hb0.block A.block (Array.getElem?_eq_some_iff.1 hAo).1).trans hAo;have HW := hz0q hW;have HAo := hz0q hAoW;have HA := hz0q hAW;have hxb : w.heap.size ≠ b := (by omega);have HXB := hz0q hxb;have hWs : base <= W.heap.size := (by rw [<- hW]; simp; omega);have HWS := hz0q hWs;have a0 := hAW;clear hb0 hx hW h hA hAo hAoW hblt hxb hWs hbw hAW;go_enter Tryz.func207, Tryz.ntmps207;go_wp2_with fail;rw [HW.out];refine wp_loop_rounds 2 ?_;rw [rounds_succ];go_wp2_with fail;refine wp_loop_rounds 5 ?_;rw [rounds_succ];go_wp2_with fail;refine (zal 116 base b cs [] 0 W hM (by rw [hcs]; exact zce) (by decide) (by simp) (by first | exact HWS.out | (have := hb1.out.size; exact Nat.le_trans HWS.out (hk1.out.1)))).mono ?_;rintro e W1 ⟨rfl, hp⟩;obtain ⟨cs1, g1, hs1, g2, g3⟩ := hp.kept (KeptB.refl _ _) (Below.refl _ _);rw [hcs] at hs1;have d0 := za (g2.2 _ _ HX.out HXB.out (by intro cur fr e; injection e with _ e; exact absurd e (by decide))) 0 rfl;have d1 := za (g2.2 _ _ HX.out HXB.out (by intro cur fr e; injection e with _ e; exact absurd e (by decide))) 1 rfl;have a0 := g2.cell HAo.out hAb ho HA.out;have hM1 := hz0q g1;have hk1 := hz0q g2;have hb1 := hz0q g3;clear g1 g2 g3 hp hM;go_wp2_with fail;rw [rounds_succ];go_wp2_with fail;refine (zal 116 base b cs1 [0] 0 W1 hM1.out (by rw [hs1]; exact zce) (by decide) (by simp) (by first | exact HWS.out | (have := hb1.out.size; exact Nat.le_trans HWS.out (hk1.out.1)))).mono ?_;rintro e W2 ⟨rfl, hp⟩;obtain ⟨cs2, g1, hs2, g2, g3⟩ := hp.kept hk1.out hb1.out
 rw [hs1] at hs2;have d0 := za (g2.2 _ _ HX.out HXB.out (by intro cur fr e; injection e with _ e; exact absurd e (by decide))) 0 rfl;have d1 := za (g2.2 _ _ HX.out HXB.out (by intro cur fr e; injection e with _ e; exact absurd e (by decide))) 1 rfl;have a0 := g2.cell HAo.out hAb ho HA.out;have hM2 := hz0q g1;have hk2 := hz0q g2;have hb2 := hz0q g3;clear g1 g2 g3 hp ;go_wp2_with fail;rw [rounds_succ];go_wp2_with fail;refine (zal 116 base b cs2 [0, 0] 254 W2 hM2.out (by rw [hs2]; exact zce) (by decide) (by simp) (by first | exact HWS.out | (have := hb2.out.size; exact Nat.le_trans HWS.out (hk2.out.1)))).mono ?_;rintro e W3 ⟨rfl, hp⟩;obtain ⟨cs3, g1, hs3, g2, g3⟩ := hp.kept hk2.out hb2.out;rw [hs2] at hs3;have d0 := za (g2.2 _ _ HX.out HXB.out (by intro cur fr e; injection e with _ e; exact absurd e (by decide))) 0 rfl;have d1 := za (g2.2 _ _ HX.out HXB.out (by intro cur fr e; injection e with _ e; exact absurd e (by decide))) 1 rfl;have a0 := g2.cell HAo.out hAb ho HA.out;have hM3 := hz0q g1;have hk3 := hz0q g2;have hb3 := hz0q g3;clear g1 g2 g3 hp ;go_wp2_with fail;rw [rounds_succ];go_wp2_with fail;refine (zal 116 base b cs3 [0, 0, 254] 255 W3 hM3.out (by rw [hs3]; exact zce) (by decide) (by simp) (by first | exact HWS.out | (have := hb3.out.size; exact Nat.le_trans HWS.out (hk3.out.1)))).mono ?_;rintro e W4 ⟨rfl, hp⟩;obtain ⟨cs4, g1, hs4, g2, g3⟩ := hp.kept hk3.out hb3.out;rw [hs3] at hs4;have d0 := za (g2.2 _ _ HX.out HXB.out (by intro cur fr e; injection e with _ e; exact absurd e (by decide))) 0 rfl
 have d1 := za (g2.2 _ _ HX.out HXB.out (by intro cur fr e; injection e with _ e; exact absurd e (by decide))) 1 rfl;have a0 := g2.cell HAo.out hAb ho HA.out;have hM4 := hz0q g1;have hk4 := hz0q g2;have hb4 := hz0q g3;clear g1 g2 g3 hp ;go_wp2_with fail;rw [rounds_succ];go_wp2_with fail;rw [rounds_succ];go_wp2_with fail;go_returns;exact ⟨rfl, ⟨cs4, hM4.out⟩, HB.out.trans hb4.out⟩
theorem wenc_1 (A : Addr) (c : Nat) (w : World) (hA : w.cell? A = some (.int .i32 65279)) (hAl : A.block < w.heap.size) :
  Calls Tryz.prog 171 #[.int .i64 1, .slice (some A) 1 c] w fun e w' => e = .returned (.tuple #[.string ⟨#[255, 254]⟩, .int .i64 0]) /\ Below w.heap.size w w' := by
 have OF := zca 1 (by decide) (by decide) w;rw [show fvW 1 = .agg #[.int .i64 2, .bool false, .bool true] from rfl] at OF;go_enter Tryz.func171, Tryz.ntmps171;go_wp2_with fail;refine OF.mono ?_;rintro e wo ⟨rfl, hbo⟩;have hws := hbo.size;obtain ⟨W1, hW1⟩ : ∃ W1, wo.alloc (.cells #[.int .i64 2, .bool false, .bool true] 301) = W1 := ⟨_, rfl⟩;obtain ⟨bx, hbx⟩ : ∃ bx, wo.heap.size = bx := ⟨_, rfl⟩;have hx1 : W1.heap[bx]? = some (.cells #[.int .i64 2, .bool false, .bool true] 301 (0, 0)) := (by rw [<- hW1, <- hbx]; exact zj _ _ _);have hb1 : Below w.heap.size w W1 := (by rw [<- hW1]; exact zb hbo ((Below.refl _ _).alloc (Nat.le_refl _) _));have HW1 := hz0q hW1;clear OF hbo hW1;go_upto_region 4 with fail;rw [HW1.out];obtain ⟨W2, hW2⟩ : ∃ W2, W1.alloc (.cells #[.pointer none, .slice none 0 0] 116) = W2 := ⟨_, rfl⟩;obtain ⟨bb, hbb⟩ : ∃ bb, W1.heap.size = bb := ⟨_, rfl⟩;have hx2 : W2.heap[bb]? = some (.cells #[.pointer none, .slice none 0 0] 116 (0, 0)) := (by rw [<- hW2, <- hbb]; exact zj _ _ _);have hb12 : Below W1.heap.size W1 W2 := (by rw [<- hW2]; exact (Below.refl _ _).alloc (Nat.le_refl _) _);have hb2 : Below w.heap.size w W2 := zb hb1 hb12;have hx12 : W2.heap[bx]? = some (.cells #[.int .i64 2, .bool false, .bool true] 301 (0, 0)) := (hb12.block bx (Array.getElem?_eq_some_iff.1 hx1).1).trans hx1;have hA2 : W2.cell? A = some (.int .i32 65279) := (hb2.cell hAl).trans hA;have c0 := za hx12 0 rfl;have c1 := za hx12 1 rfl;have c2 := za hx12 2 rfl;have HA2 := hz0q hA2;have HX12 := hz0q hx12
 have hM : Hid (BldM 116 w.heap.size bb #[.pointer none, .slice none 0 0] [] W2) := hz0q ⟨hx2, by decide, .inl rfl, ⟨_, rfl, World.ownsRow_nil _ _ _ _, fun _ => rfl⟩, by rw [<- hbb]; exact hb1.size⟩;have HB2 := hz0q hb2;have hs2 : Hid (w.heap.size <= W2.heap.size) := hz0q hb2.size;obtain ⟨b, hb⟩ : ∃ b, b = bb := ⟨_, rfl⟩;clear hx1 hx2 hb12 hb2 hb1 hx12 hws;go_wp2_with fail;refine wp_loop_rounds 2 ?_;rw [rounds_succ];go_wp2_with fail;refine (zaj 65279 _).mono ?_;rintro e w' ⟨rfl, rfl⟩;go_wp2_with fail;obtain ⟨W3, hW3⟩ : ∃ W3, W2.alloc (.cells #[.int .i64 65279] 3) = W3 := ⟨_, rfl⟩;obtain ⟨bi, hbi⟩ : ∃ bi, W2.heap.size = bi := ⟨_, rfl⟩;have hx3 : W3.heap[bi]? = some (.cells #[.int .i64 65279] 3 (0, 0)) := (by rw [<- hW3, <- hbi]; exact zj _ _ _);have hb3 : Below W2.heap.size W2 W3 := (by rw [<- hW3]; exact (Below.refl _ _).alloc (Nat.le_refl _) _);have hM3 : BldM 116 w.heap.size bb #[.pointer none, .slice none 0 0] [] W3 := ⟨(hb3.block bb (Array.getElem?_eq_some_iff.1 hM.out.hx).1).trans hM.out.hx, by decide, .inl rfl, ⟨_, rfl, World.ownsRow_nil _ _ _ _, fun _ => rfl⟩, hM.out.bb⟩;have hne : bi ≠ bb := (by have := (Array.getElem?_eq_some_iff.1 hM.out.hx).1; omega);have hb03 : Below w.heap.size w W3 := zb HB2.out hb3;first | rw [hW3] | skip
 first | rw [hbi] | skip
 refine (wput_l2 w.heap.size bb _ ⟨bi, 0, none⟩ _ _ W3 rfl hM3 (za hx3 0 rfl) hx3 hne (by intro cur fr e; injection e with _ e; exact absurd e (by decide)) hb03.size).mono ?_;rintro e W4 ⟨rfl, ⟨cs4, hM4⟩, hb4⟩;have HB4 := hz0q (hb03.trans hb4);have HM4 := hz0q hM4;clear hM3 hM4 hb4 hb03 hne hb3 hx3 hW3;go_wp2_with fail;rw [rounds_succ];go_wp2_with fail;refine (zey _ _ _ _ _ _ HM4.out).mono ?_;rintro e W5 ⟨rfl, hb5⟩;have HB5 := hz0q (HB4.out.trans hb5);go_wp2_with fail;go_returns;exact ⟨rfl, HB5.out⟩
theorem zlw (w : World) : Calls Tryz.prog 124 #[.int .i64 1] w fun e w' => e = .returned (.string ⟨#[255, 254]⟩) /\ Below w.heap.size w w' := by
 obtain ⟨W1, hW1⟩ : ∃ W1, w.alloc (.cells #[.int .i32 65279] 21) = W1 := ⟨_, rfl⟩;obtain ⟨bx, hbx⟩ : ∃ bx, w.heap.size = bx := ⟨_, rfl⟩;have hx1 : W1.heap[bx]? = some (.cells #[.int .i32 65279] 21 (0, 0)) := (by rw [<- hW1, <- hbx]; exact zj _ _ _);have hb1 : Below w.heap.size w W1 := (by rw [<- hW1]; exact (Below.refl _ _).alloc (Nat.le_refl _) _);have EN := wenc_1 ⟨bx, 0, none⟩ 1 W1 (za hx1 0 rfl) (Array.getElem?_eq_some_iff.1 hx1).1;have HB1 := hz0q hb1;clear hb1 hx1;go_enter Tryz.func124, Tryz.ntmps124;go_wp2_with fail;first | rw [hW1, hbx] | rw [hW1] | skip
 refine EN.mono ?_;rintro e W5 ⟨rfl, hb5⟩;have HB5 := hz0q (zb HB1.out hb5);go_wp2_with fail;go_returns;exact ⟨rfl, HB5.out⟩
theorem wenc_2 (A : Addr) (c : Nat) (w : World) (hA : w.cell? A = some (.int .i32 65279)) (hAl : A.block < w.heap.size) :
  Calls Tryz.prog 171 #[.int .i64 2, .slice (some A) 1 c] w fun e w' => e = .returned (.tuple #[.string ⟨#[254, 255]⟩, .int .i64 0]) /\ Below w.heap.size w w' := by
 have OF := zca 2 (by decide) (by decide) w;rw [show fvW 2 = .agg #[.int .i64 2, .bool true, .bool true] from rfl] at OF;go_enter Tryz.func171, Tryz.ntmps171;go_wp2_with fail;refine OF.mono ?_;rintro e wo ⟨rfl, hbo⟩;have hws := hbo.size;obtain ⟨W1, hW1⟩ : ∃ W1, wo.alloc (.cells #[.int .i64 2, .bool true, .bool true] 301) = W1 := ⟨_, rfl⟩;obtain ⟨bx, hbx⟩ : ∃ bx, wo.heap.size = bx := ⟨_, rfl⟩;have hx1 : W1.heap[bx]? = some (.cells #[.int .i64 2, .bool true, .bool true] 301 (0, 0)) := (by rw [<- hW1, <- hbx]; exact zj _ _ _);have hb1 : Below w.heap.size w W1 := (by rw [<- hW1]; exact zb hbo ((Below.refl _ _).alloc (Nat.le_refl _) _));have HW1 := hz0q hW1;clear OF hbo hW1;go_upto_region 4 with fail;rw [HW1.out];obtain ⟨W2, hW2⟩ : ∃ W2, W1.alloc (.cells #[.pointer none, .slice none 0 0] 116) = W2 := ⟨_, rfl⟩;obtain ⟨bb, hbb⟩ : ∃ bb, W1.heap.size = bb := ⟨_, rfl⟩;have hx2 : W2.heap[bb]? = some (.cells #[.pointer none, .slice none 0 0] 116 (0, 0)) := (by rw [<- hW2, <- hbb]; exact zj _ _ _);have hb12 : Below W1.heap.size W1 W2 := (by rw [<- hW2]; exact (Below.refl _ _).alloc (Nat.le_refl _) _);have hb2 : Below w.heap.size w W2 := zb hb1 hb12;have hx12 : W2.heap[bx]? = some (.cells #[.int .i64 2, .bool true, .bool true] 301 (0, 0)) := (hb12.block bx (Array.getElem?_eq_some_iff.1 hx1).1).trans hx1;have hA2 : W2.cell? A = some (.int .i32 65279) := (hb2.cell hAl).trans hA;have c0 := za hx12 0 rfl;have c1 := za hx12 1 rfl;have c2 := za hx12 2 rfl;have HA2 := hz0q hA2;have HX12 := hz0q hx12
 have hM : Hid (BldM 116 w.heap.size bb #[.pointer none, .slice none 0 0] [] W2) := hz0q ⟨hx2, by decide, .inl rfl, ⟨_, rfl, World.ownsRow_nil _ _ _ _, fun _ => rfl⟩, by rw [<- hbb]; exact hb1.size⟩;have HB2 := hz0q hb2;have hs2 : Hid (w.heap.size <= W2.heap.size) := hz0q hb2.size;obtain ⟨b, hb⟩ : ∃ b, b = bb := ⟨_, rfl⟩;clear hx1 hx2 hb12 hb2 hb1 hx12 hws;go_wp2_with fail;refine wp_loop_rounds 2 ?_;rw [rounds_succ];go_wp2_with fail;refine (zaj 65279 _).mono ?_;rintro e w' ⟨rfl, rfl⟩;go_wp2_with fail;obtain ⟨W3, hW3⟩ : ∃ W3, W2.alloc (.cells #[.int .i64 65279] 3) = W3 := ⟨_, rfl⟩;obtain ⟨bi, hbi⟩ : ∃ bi, W2.heap.size = bi := ⟨_, rfl⟩;have hx3 : W3.heap[bi]? = some (.cells #[.int .i64 65279] 3 (0, 0)) := (by rw [<- hW3, <- hbi]; exact zj _ _ _);have hb3 : Below W2.heap.size W2 W3 := (by rw [<- hW3]; exact (Below.refl _ _).alloc (Nat.le_refl _) _);have hM3 : BldM 116 w.heap.size bb #[.pointer none, .slice none 0 0] [] W3 := ⟨(hb3.block bb (Array.getElem?_eq_some_iff.1 hM.out.hx).1).trans hM.out.hx, by decide, .inl rfl, ⟨_, rfl, World.ownsRow_nil _ _ _ _, fun _ => rfl⟩, hM.out.bb⟩;have hne : bi ≠ bb := (by have := (Array.getElem?_eq_some_iff.1 hM.out.hx).1; omega);have hb03 : Below w.heap.size w W3 := zb HB2.out hb3;first | rw [hW3] | skip
 first | rw [hbi] | skip
 refine (wput_b2 w.heap.size bb _ ⟨bi, 0, none⟩ _ _ W3 rfl hM3 (za hx3 0 rfl) hx3 hne (by intro cur fr e; injection e with _ e; exact absurd e (by decide)) hb03.size).mono ?_;rintro e W4 ⟨rfl, ⟨cs4, hM4⟩, hb4⟩;have HB4 := hz0q (hb03.trans hb4);have HM4 := hz0q hM4;clear hM3 hM4 hb4 hb03 hne hb3 hx3 hW3;go_wp2_with fail;rw [rounds_succ];go_wp2_with fail;refine (zey _ _ _ _ _ _ HM4.out).mono ?_;rintro e W5 ⟨rfl, hb5⟩;have HB5 := hz0q (HB4.out.trans hb5);go_wp2_with fail;go_returns;exact ⟨rfl, HB5.out⟩
theorem zlv (w : World) : Calls Tryz.prog 124 #[.int .i64 2] w fun e w' => e = .returned (.string ⟨#[254, 255]⟩) /\ Below w.heap.size w w' := by
 obtain ⟨W1, hW1⟩ : ∃ W1, w.alloc (.cells #[.int .i32 65279] 21) = W1 := ⟨_, rfl⟩;obtain ⟨bx, hbx⟩ : ∃ bx, w.heap.size = bx := ⟨_, rfl⟩;have hx1 : W1.heap[bx]? = some (.cells #[.int .i32 65279] 21 (0, 0)) := (by rw [<- hW1, <- hbx]; exact zj _ _ _);have hb1 : Below w.heap.size w W1 := (by rw [<- hW1]; exact (Below.refl _ _).alloc (Nat.le_refl _) _);have EN := wenc_2 ⟨bx, 0, none⟩ 1 W1 (za hx1 0 rfl) (Array.getElem?_eq_some_iff.1 hx1).1;have HB1 := hz0q hb1;clear hb1 hx1;go_enter Tryz.func124, Tryz.ntmps124;go_wp2_with fail;first | rw [hW1, hbx] | rw [hW1] | skip
 refine EN.mono ?_;rintro e W5 ⟨rfl, hb5⟩;have HB5 := hz0q (zb HB1.out hb5);go_wp2_with fail;go_returns;exact ⟨rfl, HB5.out⟩
theorem wenc_3 (A : Addr) (c : Nat) (w : World) (hA : w.cell? A = some (.int .i32 65279)) (hAl : A.block < w.heap.size) :
  Calls Tryz.prog 171 #[.int .i64 3, .slice (some A) 1 c] w fun e w' => e = .returned (.tuple #[.string ⟨#[255, 254, 0, 0]⟩, .int .i64 0]) /\ Below w.heap.size w w' := by
 have OF := zca 3 (by decide) (by decide) w;rw [show fvW 3 = .agg #[.int .i64 4, .bool false, .bool false] from rfl] at OF;go_enter Tryz.func171, Tryz.ntmps171;go_wp2_with fail;refine OF.mono ?_;rintro e wo ⟨rfl, hbo⟩;have hws := hbo.size;obtain ⟨W1, hW1⟩ : ∃ W1, wo.alloc (.cells #[.int .i64 4, .bool false, .bool false] 301) = W1 := ⟨_, rfl⟩;obtain ⟨bx, hbx⟩ : ∃ bx, wo.heap.size = bx := ⟨_, rfl⟩;have hx1 : W1.heap[bx]? = some (.cells #[.int .i64 4, .bool false, .bool false] 301 (0, 0)) := (by rw [<- hW1, <- hbx]; exact zj _ _ _);have hb1 : Below w.heap.size w W1 := (by rw [<- hW1]; exact zb hbo ((Below.refl _ _).alloc (Nat.le_refl _) _));have HW1 := hz0q hW1;clear OF hbo hW1;go_upto_region 4 with fail;rw [HW1.out];obtain ⟨W2, hW2⟩ : ∃ W2, W1.alloc (.cells #[.pointer none, .slice none 0 0] 116) = W2 := ⟨_, rfl⟩;obtain ⟨bb, hbb⟩ : ∃ bb, W1.heap.size = bb := ⟨_, rfl⟩;have hx2 : W2.heap[bb]? = some (.cells #[.pointer none, .slice none 0 0] 116 (0, 0)) := (by rw [<- hW2, <- hbb]; exact zj _ _ _);have hb12 : Below W1.heap.size W1 W2 := (by rw [<- hW2]; exact (Below.refl _ _).alloc (Nat.le_refl _) _);have hb2 : Below w.heap.size w W2 := zb hb1 hb12;have hx12 : W2.heap[bx]? = some (.cells #[.int .i64 4, .bool false, .bool false] 301 (0, 0)) := (hb12.block bx (Array.getElem?_eq_some_iff.1 hx1).1).trans hx1;have hA2 : W2.cell? A = some (.int .i32 65279) := (hb2.cell hAl).trans hA;have c0 := za hx12 0 rfl;have c1 := za hx12 1 rfl;have c2 := za hx12 2 rfl;have HA2 := hz0q hA2;have HX12 := hz0q hx12
 have hM : Hid (BldM 116 w.heap.size bb #[.pointer none, .slice none 0 0] [] W2) := hz0q ⟨hx2, by decide, .inl rfl, ⟨_, rfl, World.ownsRow_nil _ _ _ _, fun _ => rfl⟩, by rw [<- hbb]; exact hb1.size⟩;have HB2 := hz0q hb2;have hs2 : Hid (w.heap.size <= W2.heap.size) := hz0q hb2.size;obtain ⟨b, hb⟩ : ∃ b, b = bb := ⟨_, rfl⟩;clear hx1 hx2 hb12 hb2 hb1 hx12 hws;go_wp2_with fail;refine wp_loop_rounds 2 ?_;rw [rounds_succ];go_wp2_with fail;refine (zaj 65279 _).mono ?_;rintro e w' ⟨rfl, rfl⟩;go_wp2_with fail;obtain ⟨W3, hW3⟩ : ∃ W3, W2.alloc (.cells #[.int .i64 65279] 3) = W3 := ⟨_, rfl⟩;obtain ⟨bi, hbi⟩ : ∃ bi, W2.heap.size = bi := ⟨_, rfl⟩;have hx3 : W3.heap[bi]? = some (.cells #[.int .i64 65279] 3 (0, 0)) := (by rw [<- hW3, <- hbi]; exact zj _ _ _);have hb3 : Below W2.heap.size W2 W3 := (by rw [<- hW3]; exact (Below.refl _ _).alloc (Nat.le_refl _) _);have hM3 : BldM 116 w.heap.size bb #[.pointer none, .slice none 0 0] [] W3 := ⟨(hb3.block bb (Array.getElem?_eq_some_iff.1 hM.out.hx).1).trans hM.out.hx, by decide, .inl rfl, ⟨_, rfl, World.ownsRow_nil _ _ _ _, fun _ => rfl⟩, hM.out.bb⟩;have hne : bi ≠ bb := (by have := (Array.getElem?_eq_some_iff.1 hM.out.hx).1; omega);have hb03 : Below w.heap.size w W3 := zb HB2.out hb3;first | rw [hW3] | skip
 first | rw [hbi] | skip
 refine (wput_l4 w.heap.size bb _ ⟨bi, 0, none⟩ _ _ W3 rfl hM3 (za hx3 0 rfl) hx3 hne (by intro cur fr e; injection e with _ e; exact absurd e (by decide)) hb03.size).mono ?_;rintro e W4 ⟨rfl, ⟨cs4, hM4⟩, hb4⟩;have HB4 := hz0q (hb03.trans hb4);have HM4 := hz0q hM4;clear hM3 hM4 hb4 hb03 hne hb3 hx3 hW3;go_wp2_with fail;rw [rounds_succ];go_wp2_with fail;refine (zey _ _ _ _ _ _ HM4.out).mono ?_;rintro e W5 ⟨rfl, hb5⟩;have HB5 := hz0q (HB4.out.trans hb5);go_wp2_with fail;go_returns;exact ⟨rfl, HB5.out⟩
theorem zlu (w : World) : Calls Tryz.prog 124 #[.int .i64 3] w fun e w' => e = .returned (.string ⟨#[255, 254, 0, 0]⟩) /\ Below w.heap.size w w' := by
 obtain ⟨W1, hW1⟩ : ∃ W1, w.alloc (.cells #[.int .i32 65279] 21) = W1 := ⟨_, rfl⟩;obtain ⟨bx, hbx⟩ : ∃ bx, w.heap.size = bx := ⟨_, rfl⟩;have hx1 : W1.heap[bx]? = some (.cells #[.int .i32 65279] 21 (0, 0)) := (by rw [<- hW1, <- hbx]; exact zj _ _ _);have hb1 : Below w.heap.size w W1 := (by rw [<- hW1]; exact (Below.refl _ _).alloc (Nat.le_refl _) _);have EN := wenc_3 ⟨bx, 0, none⟩ 1 W1 (za hx1 0 rfl) (Array.getElem?_eq_some_iff.1 hx1).1;have HB1 := hz0q hb1;clear hb1 hx1;go_enter Tryz.func124, Tryz.ntmps124;go_wp2_with fail;first | rw [hW1, hbx] | rw [hW1] | skip
 refine EN.mono ?_;rintro e W5 ⟨rfl, hb5⟩;have HB5 := hz0q (zb HB1.out hb5);go_wp2_with fail;go_returns;exact ⟨rfl, HB5.out⟩
theorem wenc_4 (A : Addr) (c : Nat) (w : World) (hA : w.cell? A = some (.int .i32 65279)) (hAl : A.block < w.heap.size) :
  Calls Tryz.prog 171 #[.int .i64 4, .slice (some A) 1 c] w fun e w' => e = .returned (.tuple #[.string ⟨#[0, 0, 254, 255]⟩, .int .i64 0]) /\ Below w.heap.size w w' := by
 have OF := zca 4 (by decide) (by decide) w;rw [show fvW 4 = .agg #[.int .i64 4, .bool true, .bool false] from rfl] at OF;go_enter Tryz.func171, Tryz.ntmps171;go_wp2_with fail;refine OF.mono ?_;rintro e wo ⟨rfl, hbo⟩;have hws := hbo.size;obtain ⟨W1, hW1⟩ : ∃ W1, wo.alloc (.cells #[.int .i64 4, .bool true, .bool false] 301) = W1 := ⟨_, rfl⟩;obtain ⟨bx, hbx⟩ : ∃ bx, wo.heap.size = bx := ⟨_, rfl⟩;have hx1 : W1.heap[bx]? = some (.cells #[.int .i64 4, .bool true, .bool false] 301 (0, 0)) := (by rw [<- hW1, <- hbx]; exact zj _ _ _);have hb1 : Below w.heap.size w W1 := (by rw [<- hW1]; exact zb hbo ((Below.refl _ _).alloc (Nat.le_refl _) _));have HW1 := hz0q hW1;clear OF hbo hW1;go_upto_region 4 with fail;rw [HW1.out];obtain ⟨W2, hW2⟩ : ∃ W2, W1.alloc (.cells #[.pointer none, .slice none 0 0] 116) = W2 := ⟨_, rfl⟩;obtain ⟨bb, hbb⟩ : ∃ bb, W1.heap.size = bb := ⟨_, rfl⟩;have hx2 : W2.heap[bb]? = some (.cells #[.pointer none, .slice none 0 0] 116 (0, 0)) := (by rw [<- hW2, <- hbb]; exact zj _ _ _);have hb12 : Below W1.heap.size W1 W2 := (by rw [<- hW2]; exact (Below.refl _ _).alloc (Nat.le_refl _) _);have hb2 : Below w.heap.size w W2 := zb hb1 hb12;have hx12 : W2.heap[bx]? = some (.cells #[.int .i64 4, .bool true, .bool false] 301 (0, 0)) := (hb12.block bx (Array.getElem?_eq_some_iff.1 hx1).1).trans hx1;have hA2 : W2.cell? A = some (.int .i32 65279) := (hb2.cell hAl).trans hA;have c0 := za hx12 0 rfl;have c1 := za hx12 1 rfl;have c2 := za hx12 2 rfl;have HA2 := hz0q hA2;have HX12 := hz0q hx12
 have hM : Hid (BldM 116 w.heap.size bb #[.pointer none, .slice none 0 0] [] W2) := hz0q ⟨hx2, by decide, .inl rfl, ⟨_, rfl, World.ownsRow_nil _ _ _ _, fun _ => rfl⟩, by rw [<- hbb]; exact hb1.size⟩;have HB2 := hz0q hb2;have hs2 : Hid (w.heap.size <= W2.heap.size) := hz0q hb2.size;obtain ⟨b, hb⟩ : ∃ b, b = bb := ⟨_, rfl⟩;clear hx1 hx2 hb12 hb2 hb1 hx12 hws;go_wp2_with fail;refine wp_loop_rounds 2 ?_;rw [rounds_succ];go_wp2_with fail;refine (zaj 65279 _).mono ?_;rintro e w' ⟨rfl, rfl⟩;go_wp2_with fail;obtain ⟨W3, hW3⟩ : ∃ W3, W2.alloc (.cells #[.int .i64 65279] 3) = W3 := ⟨_, rfl⟩;obtain ⟨bi, hbi⟩ : ∃ bi, W2.heap.size = bi := ⟨_, rfl⟩;have hx3 : W3.heap[bi]? = some (.cells #[.int .i64 65279] 3 (0, 0)) := (by rw [<- hW3, <- hbi]; exact zj _ _ _);have hb3 : Below W2.heap.size W2 W3 := (by rw [<- hW3]; exact (Below.refl _ _).alloc (Nat.le_refl _) _);have hM3 : BldM 116 w.heap.size bb #[.pointer none, .slice none 0 0] [] W3 := ⟨(hb3.block bb (Array.getElem?_eq_some_iff.1 hM.out.hx).1).trans hM.out.hx, by decide, .inl rfl, ⟨_, rfl, World.ownsRow_nil _ _ _ _, fun _ => rfl⟩, hM.out.bb⟩;have hne : bi ≠ bb := (by have := (Array.getElem?_eq_some_iff.1 hM.out.hx).1; omega);have hb03 : Below w.heap.size w W3 := zb HB2.out hb3;first | rw [hW3] | skip
 first | rw [hbi] | skip
 refine (wput_b4 w.heap.size bb _ ⟨bi, 0, none⟩ _ _ W3 rfl hM3 (za hx3 0 rfl) hx3 hne (by intro cur fr e; injection e with _ e; exact absurd e (by decide)) hb03.size).mono ?_;rintro e W4 ⟨rfl, ⟨cs4, hM4⟩, hb4⟩;have HB4 := hz0q (hb03.trans hb4);have HM4 := hz0q hM4;clear hM3 hM4 hb4 hb03 hne hb3 hx3 hW3;go_wp2_with fail;rw [rounds_succ];go_wp2_with fail;refine (zey _ _ _ _ _ _ HM4.out).mono ?_;rintro e W5 ⟨rfl, hb5⟩;have HB5 := hz0q (HB4.out.trans hb5);go_wp2_with fail;go_returns;exact ⟨rfl, HB5.out⟩
theorem zlt (w : World) : Calls Tryz.prog 124 #[.int .i64 4] w fun e w' => e = .returned (.string ⟨#[0, 0, 254, 255]⟩) /\ Below w.heap.size w w' := by
 obtain ⟨W1, hW1⟩ : ∃ W1, w.alloc (.cells #[.int .i32 65279] 21) = W1 := ⟨_, rfl⟩;obtain ⟨bx, hbx⟩ : ∃ bx, w.heap.size = bx := ⟨_, rfl⟩;have hx1 : W1.heap[bx]? = some (.cells #[.int .i32 65279] 21 (0, 0)) := (by rw [<- hW1, <- hbx]; exact zj _ _ _);have hb1 : Below w.heap.size w W1 := (by rw [<- hW1]; exact (Below.refl _ _).alloc (Nat.le_refl _) _);have EN := wenc_4 ⟨bx, 0, none⟩ 1 W1 (za hx1 0 rfl) (Array.getElem?_eq_some_iff.1 hx1).1;have HB1 := hz0q hb1;clear hb1 hx1;go_enter Tryz.func124, Tryz.ntmps124;go_wp2_with fail;first | rw [hW1, hbx] | rw [hW1] | skip
 refine EN.mono ?_;rintro e W5 ⟨rfl, hb5⟩;have HB5 := hz0q (zb HB1.out hb5);go_wp2_with fail;go_returns;exact ⟨rfl, HB5.out⟩
end
section
open Go.RowKit
theorem pre_iff (s p : List UInt8) : Lib.hasPrefix s p = decide (p <+: s) := by
 unfold Lib.hasPrefix
 cases h : p.isPrefixOf s
 ·symm; rw [decide_eq_false_iff_not]; intro hp; rw [List.isPrefixOf_iff_prefix.2 hp] at h; cases h
 ·symm; rw [decide_eq_true_iff]; exact List.isPrefixOf_iff_prefix.1 h
theorem zea (s p : ByteArray) (w : World) : Calls Tryz.prog 123 #[.string s, .string p] w fun e w' => e = .returned (.bool (decide (bs p <+: bs s))) /\ w = w' := by
 refine (Tryz.strings_HasPrefix s p w).mono ?_;rintro e w' ⟨rfl, rfl⟩;exact ⟨by rw [pre_iff]; rfl, rfl⟩
def zjh : List (Int × List UInt8) := [(3, [0xff, 0xfe, 0, 0]), (4, [0, 0, 0xfe, 0xff]), (1, [0xff, 0xfe]), (2, [0xfe, 0xff])]
theorem guess_any (s : ByteArray) (w : World) : Calls Tryz.prog 126 #[.string s] w fun e w' => e = .returned (.tuple #[.int .i64 (za1 (bs s) zjh).1, .int .i64 (za1 (bs s) zjh).2]) /\ Below w.heap.size w w' := by
 have p3 := fun W => zea s ⟨#[255, 254, 0, 0]⟩ W;rw [show bs ⟨#[255, 254, 0, 0]⟩ = [255, 254, 0, 0] from rfl] at p3;obtain ⟨b3, hb3⟩ : ∃ b, b = decide ([255, 254, 0, 0] <+: bs s) := ⟨_, rfl⟩;rw [<- hb3] at p3;have HB3 := hz0q hb3;clear hb3;have p4 := fun W => zea s ⟨#[0, 0, 254, 255]⟩ W;rw [show bs ⟨#[0, 0, 254, 255]⟩ = [0, 0, 254, 255] from rfl] at p4;obtain ⟨b4, hb4⟩ : ∃ b, b = decide ([0, 0, 254, 255] <+: bs s) := ⟨_, rfl⟩;rw [<- hb4] at p4;have HB4 := hz0q hb4;clear hb4;have p1 := fun W => zea s ⟨#[255, 254]⟩ W;rw [show bs ⟨#[255, 254]⟩ = [255, 254] from rfl] at p1;obtain ⟨b1, hb1⟩ : ∃ b, b = decide ([255, 254] <+: bs s) := ⟨_, rfl⟩;rw [<- hb1] at p1;have HB1 := hz0q hb1;clear hb1;have p2 := fun W => zea s ⟨#[254, 255]⟩ W;rw [show bs ⟨#[254, 255]⟩ = [254, 255] from rfl] at p2;obtain ⟨b2, hb2⟩ : ∃ b, b = decide ([254, 255] <+: bs s) := ⟨_, rfl⟩;rw [<- hb2] at p2;have HB2 := hz0q hb2;clear hb2
 have HV : Hid (za1 (bs s) zjh = if b3 = true then (3, 4) else if b4 = true then (4, 4) else if b1 = true then (1, 2) else if b2 = true then (2, 2) else (0, 0)) := by
  show _ = _;rw [HB3.out, HB4.out, HB1.out, HB2.out];simp only [decide_eq_true_eq];rfl
 obtain ⟨V, hV⟩ : ∃ V, V = za1 (bs s) zjh := ⟨_, rfl⟩;rw [<- hV];rw [<- hV] at HV;have HVV := hz0q hV;clear hV;have i0 : ∀ W, (Instr.index 297 (.agg #[.int .i64 3, .int .i64 4, .int .i64 1, .int .i64 2]) (.int .i64 0)).run Tryz.prog W = .ok (.int .i64 3) W := fun W => by kernel_rfl
 have i1 : ∀ W, (Instr.index 297 (.agg #[.int .i64 3, .int .i64 4, .int .i64 1, .int .i64 2]) (.int .i64 1)).run Tryz.prog W = .ok (.int .i64 4) W := fun W => by kernel_rfl
 have i2 : ∀ W, (Instr.index 297 (.agg #[.int .i64 3, .int .i64 4, .int .i64 1, .int .i64 2]) (.int .i64 2)).run Tryz.prog W = .ok (.int .i64 1) W := fun W => by kernel_rfl
 have i3 : ∀ W, (Instr.index 297 (.agg #[.int .i64 3, .int .i64 4, .int .i64 1, .int .i64 2]) (.int .i64 3)).run Tryz.prog W = .ok (.int .i64 2) W := fun W => by kernel_rfl
 go_enter Tryz.func126, Tryz.ntmps126;go_wp2_with fail;refine wp_loop_rounds 5 ?_;rw [rounds_succ];go_wp2_with fail;refine (zlu _).mono ?_;rintro e u0 ⟨rfl, hq⟩;have g0 : Hid (Below w.heap.size w u0) := hz0q (hq);clear hq;go_wp2_with fail;refine (p3 _).mono ?_;rintro e w' ⟨rfl, rfl⟩
 by_cases h3 : b3 = true
 ·subst h3;have HR : Hid (V = (3, 4)) := (by show _ = _; rw [HV.out]; rw [if_pos rfl]);go_wp2_with fail;go_returns;exact ⟨by rw [HR.out]; rfl, g0.out⟩
 have n3 : Hid (b3 = false) := (by show _ = _; simpa using h3);have m := n3.out;clear h3;go_wp2_with fail;rw [rounds_succ];go_wp2_with fail;refine (zlt _).mono ?_;rintro e u1 ⟨rfl, hq⟩;have g1 : Hid (Below w.heap.size w u1) := hz0q (zb g0.out hq);clear hq;go_wp2_with fail;refine (p4 _).mono ?_;rintro e w' ⟨rfl, rfl⟩
 by_cases h4 : b4 = true
 ·subst h4;have HR : Hid (V = (4, 4)) := (by show _ = _; rw [HV.out]; rw [if_neg (by rw [n3.out]; simp)]; rw [if_pos rfl]);go_wp2_with fail;go_returns;exact ⟨by rw [HR.out]; rfl, g1.out⟩
 have n4 : Hid (b4 = false) := (by show _ = _; simpa using h4);have m := n4.out;clear h4;go_wp2_with fail;rw [rounds_succ];go_wp2_with fail;refine (zlw _).mono ?_;rintro e u2 ⟨rfl, hq⟩;have g2 : Hid (Below w.heap.size w u2) := hz0q (zb g1.out hq);clear hq;go_wp2_with fail;refine (p1 _).mono ?_;rintro e w' ⟨rfl, rfl⟩
 by_cases h1 : b1 = true
 ·subst h1;have HR : Hid (V = (1, 2)) := (by show _ = _; rw [HV.out]; rw [if_neg (by rw [n3.out]; simp)]; rw [if_neg (by rw [n4.out]; simp)]; rw [if_pos rfl]);go_wp2_with fail;go_returns;exact ⟨by rw [HR.out]; rfl, g2.out⟩
 have n1 : Hid (b1 = false) := (by show _ = _; simpa using h1);have m := n1.out;clear h1;go_wp2_with fail;rw [rounds_succ];go_wp2_with fail;refine (zlv _).mono ?_;rintro e u3 ⟨rfl, hq⟩;have g3 : Hid (Below w.heap.size w u3) := hz0q (zb g2.out hq);clear hq;go_wp2_with fail;refine (p2 _).mono ?_;rintro e w' ⟨rfl, rfl⟩
 by_cases h2 : b2 = true
 ·subst h2;have HR : Hid (V = (2, 2)) := (by show _ = _; rw [HV.out]; rw [if_neg (by rw [n3.out]; simp)]; rw [if_neg (by rw [n4.out]; simp)]; rw [if_neg (by rw [n1.out]; simp)]; rw [if_pos rfl]);go_wp2_with fail;go_returns;exact ⟨by rw [HR.out]; rfl, g3.out⟩
 have n2 : Hid (b2 = false) := (by show _ = _; simpa using h2);have m := n2.out;clear h2;go_wp2_with fail;rw [rounds_succ];have HR : Hid (V = (0, 0)) := (by show _ = _; rw [HV.out]; rw [if_neg (by rw [n3.out]; simp)]; rw [if_neg (by rw [n4.out]; simp)]; rw [if_neg (by rw [n1.out]; simp)]; rw [if_neg (by rw [n2.out]; simp)]);go_wp2_with fail;go_returns;exact ⟨by rw [HR.out]; rfl, g3.out⟩
theorem zhi (s : ByteArray) (w : World) : Calls Tryz.prog 78 #[.string s] w fun e w' => e = .returned (.tuple #[.int .i64 (zap (bs s)).1, .int .i64 (zap (bs s)).2]) /\ Below w.heap.size w w' := by
 have PA := fun W => zea s ⟨#[239, 187, 191]⟩ W;rw [show bs ⟨#[239, 187, 191]⟩ = [239, 187, 191] from rfl] at PA
 by_cases h : [239, 187, 191] <+: bs s
 ·rw [decide_eq_true h] at PA;have HV : Hid (zap (bs s) = (5, 3)) := (by show _ = _; exact if_pos h);clear h;go_enter Tryz.func78, Tryz.ntmps78;go_wp2_with fail;refine (PA _).mono ?_;rintro e w' ⟨rfl, rfl⟩;go_wp2_with fail;go_returns;exact ⟨by rw [HV.out]; rfl, Below.refl _ _⟩
 ·rw [decide_eq_false h] at PA;have HV : Hid (zap (bs s) = za1 (bs s) zjh) := (by show _ = _; exact if_neg h);have GA := guess_any s w;clear h;go_enter Tryz.func78, Tryz.ntmps78;go_wp2_with fail;refine (PA _).mono ?_;rintro e w' ⟨rfl, rfl⟩;go_wp2_with fail;refine GA.mono ?_;rintro e w2 ⟨rfl, hb2⟩;go_wp2_with fail;go_returns;exact ⟨by rw [HV.out]; rfl, hb2⟩
theorem indexi_any (g : FuncId) (cb : Array Value) (en : ∀ args w, (callFunc g args).run Tryz.prog w = .ok (.enter g args) w) (p : Int -> Bool) (A : Option Addr) (n c : Nat) (zs : List Int) (w : World) (hr : Rd w A n (zs.map fun z : Int => Value.int .i64 z)) (hn : n <= 1099511627776)
  (hp : ∀ x ∈ zs, ∀ W, Below w.heap.size w W -> Calls Tryz.prog g (#[.int .i64 x] ++ cb) W fun e W' => e = .returned (.bool (p x)) /\ Below W.heap.size W W') :
  Calls Tryz.prog 172 #[.slice A n c, .func (.func g) #[] cb] w fun e w' => (∃ k : Int, e = .returned (.int .i64 k) /\ decide (0 <= k) = zs.any p) /\ Below w.heap.size w w' := by
 have hzl : zs.length = n := (by have := hr.1; simpa using this);have HZL := hz0q hzl;clear hzl;have HP := hz0q hp;clear hp;go_enter Tryz.func172, Tryz.ntmps172;go_wp2
 go_loopw [8] (fun i wr => ∃ k : Nat, k <= n /\ i = .int .i64 k /\ Hid ((zs.take k).any p = false) /\ Below w.heap.size w wr) (fun i _ => n - (intOf i).toNat)
 case atStart => exact ⟨0, Nat.zero_le _, rfl, by show _ = _; rfl, Below.refl _ _⟩
 case round =>
  obtain ⟨k, hk, rfl, HA, hb⟩ := hrel
  by_cases hlt : k < n
  ·obtain ⟨x, hx⟩ : ∃ x, zs[k]? = some x := ⟨_, List.getElem?_eq_getElem (by rw [HZL.out]; exact hlt)⟩;obtain ⟨b, off, rfl, hbl, hc⟩ := (hr.below hb).at_ (by omega);have cx : wr.cell? ⟨b, off + k, none⟩ = some (.int .i64 x) := hc k _ (by simp [hx]);have HC := HP.out x (List.mem_of_getElem? hx) wr hb
   have HT : Hid ((zs.take (k + 1)).any p = p x) := by
    show _ = _;rw [List.take_add_one, hx, List.any_append, HA.out];simp
   have hi : (k : Int) < (n : Int) := (by omega);clear hc hr hx
   cases hpx : p x
   ·rw [hpx] at HC HT;clear hpx;go_wp2_with fail;refine HC.mono ?_;rintro e w1 ⟨rfl, hb1⟩;have hb2 := zb hb hb1;go_wp2;go_roundw
    case rel => exact ⟨k + 1, by omega, by go_num, HT, hb2⟩
    case measure => simp [intOf]; omega
   ·have HZ : Hid (zs.any p = true) := by
     show _ = _;rw [<- List.take_append_drop (k + 1) zs, List.any_append, HT.out, hpx];rfl
    rw [hpx] at HC;clear hpx HT;go_wp2_with fail;refine HC.mono ?_;rintro e w1 ⟨rfl, hb1⟩;have hb2 := zb hb hb1;go_wp2;go_returns;rw [HZ.out];exact ⟨⟨(k : Int), rfl, by simp⟩, hb2⟩
  ·have hi : (n : Int) <= (k : Int) := by omega
   have HZ : Hid (zs.any p = false) := by
    show _ = _;rw [<- HA.out, List.take_of_length_le (by rw [HZL.out]; omega)]
   go_wp2;go_returns;rw [HZ.out];exact ⟨⟨-1, rfl, by decide⟩, hb⟩
theorem containsi_any (g : FuncId) (cb : Array Value) (en : ∀ args w, (callFunc g args).run Tryz.prog w = .ok (.enter g args) w) (p : Int -> Bool) (A : Option Addr) (n c : Nat) (zs : List Int) (w : World) (hr : Rd w A n (zs.map fun z : Int => Value.int .i64 z)) (hn : n <= 1099511627776)
  (hp : ∀ x ∈ zs, ∀ W, Below w.heap.size w W -> Calls Tryz.prog g (#[.int .i64 x] ++ cb) W fun e W' => e = .returned (.bool (p x)) /\ Below W.heap.size W W') :
  Calls Tryz.prog 125 #[.slice A n c, .func (.func g) #[] cb] w fun e w' => e = .returned (.bool (zs.any p)) /\ Below w.heap.size w w' := by
 have HI := indexi_any g cb en p A n c zs w hr hn hp;clear hp hr;go_enter Tryz.func125, Tryz.ntmps125;go_wp2_with fail;refine HI.mono ?_;rintro e w1 ⟨⟨k, rfl, hk⟩, hb⟩;have HK := hz0q hk;clear hk HI;go_wp2;go_returns;refine ⟨?_, hb⟩;rw [<- HK.out];rfl
def mkL (k : Int) : List UInt8 := if k = 1 then [255, 254] else if k = 2 then [254, 255] else if k = 3 then [255, 254, 0, 0] else [0, 0, 254, 255]
theorem wmark_any (k : Int) (h1 : 1 <= k) (h4 : k <= 4) (w : World) : Calls Tryz.prog 124 #[.int .i64 k] w fun e w' => e = .returned (.string ⟨(mkL k).toArray⟩) /\ Below w.heap.size w w' := by
 rcases (show k = 1 \/ k = 2 \/ k = 3 \/ k = 4 by omega) with rfl | rfl | rfl | rfl
 ·exact zlw w
 ·exact zlv w
 ·exact zlu w
 ·exact zlt w
theorem zh8 {w : World} {p : Addr} {u : Value} (h : w.cell? p = some u) : w.drew.cell? p = some u /\ Below w.heap.size w w.drew := ⟨h, (show Drew w w.drew from ⟨1, rfl⟩).to⟩
theorem zc0 {w : World} {A : Addr} {v : Value} (h : w.cell? A = some v) : A.block < w.heap.size := by
 refine Nat.lt_of_not_le fun hl => ?_;unfold World.cell? at h;rw [Array.getElem?_eq_none hl] at h
 cases h
theorem zmj {w0 w w' : World} {p : Addr} {u : Value} (h : w.cell? p = some u /\ Below w0.heap.size w0 w) (hb : Below w.heap.size w w') : w'.cell? p = some u /\ Below w0.heap.size w0 w' := ⟨(hb.cell (zc0 h.1)).trans h.1, zb h.2 hb⟩
theorem open1_any (k : Int) (h1 : 1 <= k) (h4 : k <= 4) (q : Nat) (s : ByteArray) (w : World) (hq : w.cell? ⟨q, 0, none⟩ = some (.string s)) :
  Calls Tryz.prog 122 #[.int .i64 k, .pointer (some ⟨q, 0, none⟩)] w fun e w' => e = .returned (.bool (decide (bs s <+: mkL k))) /\ Below w.heap.size w w' := by
 have MA := fun W => wmark_any k h1 h4 W;have PA := fun W => zea ⟨(mkL k).toArray⟩ s W;rw [show bs ⟨(mkL k).toArray⟩ = mkL k from rfl] at PA;go_enter Tryz.func122, Tryz.ntmps122;go_wp2_with fail
 go_region_held3 (fun w' => w'.cell? ⟨q, 0, none⟩ = some (.string s) /\ Below w.heap.size w w') (first | exact zh8 hq | assumption | (refine zmj ?_ hb5; assumption))
  (first
   | (go_at_call 124; refine (MA _).mono ?_; rintro e w5 ⟨rfl, hb5⟩)
   | (go_at_call 123; refine (PA _).mono ?_; rintro e w6 ⟨rfl, rfl⟩))
 all_goals
  have hk7 : w5.cell? ⟨q, 0, none⟩ = some (.string s) /\ Below w.heap.size w w5 := (by assumption);obtain ⟨_, hb8⟩ := hk7;go_wp2;go_returns;exact ⟨rfl, hb8⟩
end
section
open Go.RowKit
instance openDec (s : List UInt8) : Decidable (OpenS s) := by unfold OpenS; infer_instance
theorem str_of_bs {s t : ByteArray} (h : bs s = bs t) : s = t := ByteArray.ext (Array.toList_inj.1 h)
theorem zhg (s : List UInt8) : (∃ x ∈ zfl, s <+: x.2) ↔ (s <+: [0xef, 0xbb, 0xbf] \/ ([1, 2, 3, 4] : List Int).any (fun k => decide (s <+: mkL k)) = true) := by
 simp [zfl, mkL];constructor
 ·rintro (h | h | h | h | h) <;> simp [h]
 ·rintro (h | h | h | h | h) <;> simp [h]
theorem open_any (s : ByteArray) (w : World) (hs : s.size <= 1073741824) : Calls Tryz.prog 77 #[.string s] w fun e w' => e = .returned (.bool (decide (OpenS (bs s)))) /\ Below w.heap.size w w' := by
 have hsz := ze s;obtain ⟨D, hD⟩ : ∃ D, D = decide (OpenS (bs s)) := ⟨_, rfl⟩;rw [<- hD];obtain ⟨W1, hW1⟩ : ∃ W1, w.alloc (.cells #[.string s] 9) = W1 := ⟨_, rfl⟩;obtain ⟨q, hq⟩ : ∃ q, w.heap.size = q := ⟨_, rfl⟩;have hx1 : W1.heap[q]? = some (.cells #[.string s] 9 (0, 0)) := (by rw [<- hW1, <- hq]; exact zj _ _ _);have hb1 : Hid (Below w.heap.size w W1) := (by rw [<- hW1]; exact (Below.refl _ _).alloc (Nat.le_refl _) _);have c0 := za hx1 0 rfl;have HX := hz0q hx1;clear hx1
 by_cases h4 : 4 <= s.size
 ·have hi : (4 : Int) <= (s.size : Int) := by omega
  have HD : Hid (D = false) := by
   show _ = _;rw [hD];exact decide_eq_false (fun h => by have := h.1; omega)
  clear hD hsz;go_enter Tryz.func77, Tryz.ntmps77;go_wp2;go_returns;rw [HD.out];exact ⟨rfl, hb1.out⟩
 ·have hi : (s.size : Int) < 4 := by omega
  by_cases hm : bs s = [239, 187, 191]
  ·obtain rfl : s = ⟨#[239, 187, 191]⟩ := str_of_bs hm
   have HD : Hid (D = false) := by
    show _ = _;rw [hD];exact decide_eq_false (fun h => h.2.1 rfl)
   clear hD hsz hm;go_enter Tryz.func77, Tryz.ntmps77;go_wp2;go_returns;rw [HD.out];exact ⟨rfl, hb1.out⟩
  ·have hne : (s.toList == [239, 187, 191]) = false := beq_false_of_ne (fun e => hm (by
    rw [<- e, zah]))
   have hle : decide ((4 : Int) <= (s.size : Int)) = false := decide_eq_false (by omega)
   have HD : Hid (D = (decide (bs s <+: [239, 187, 191]) || ([1, 2, 3, 4] : List Int).any (fun k => decide (bs s <+: mkL k)))) := by
    show _ = _;rw [hD];rw [Bool.eq_iff_iff, decide_eq_true_iff, Bool.or_eq_true, decide_eq_true_iff];exact ⟨fun h => (zhg _).1 h.2.2, fun h => ⟨by omega, hm, (zhg _).2 h⟩⟩
   have PA := fun W => zea ⟨#[239, 187, 191]⟩ s W;rw [show bs ⟨#[239, 187, 191]⟩ = [239, 187, 191] from rfl] at PA;have hmf : ∀ (fn : Fn) (first cap : Array Value) (w : World), (Instr.makeFunc fn first cap).run Tryz.prog w = .ok (.func fn first cap) w := fun _ _ _ _ => rfl;obtain ⟨b1, hbb1⟩ : ∃ b, b = decide (bs s <+: [239, 187, 191]) := ⟨_, rfl⟩;rw [<- hbb1] at PA HD;clear hD hsz hm hbb1
   cases b1
   ·rw [Bool.false_or] at HD;obtain ⟨b2, hb2⟩ : ∃ b, b = ([1, 2, 3, 4] : List Int).any (fun k => decide (bs s <+: mkL k)) := ⟨_, rfl⟩;have HB2 := hz0q hb2;rw [<- hb2] at HD;clear hb2;go_enter Tryz.func77, Tryz.ntmps77;go_wp2_with fail;refine (PA _).mono ?_;rintro e w' ⟨rfl, rfl⟩;go_wp2_with fail;obtain ⟨W2, hW2⟩ : ∃ W2, W1.alloc (.cells #[.int .i64 1, .int .i64 2, .int .i64 3, .int .i64 4] 3) = W2 := ⟨_, rfl⟩;have hb12 : Below W1.heap.size W1 W2 := (by rw [<- hW2]; exact (Below.refl _ _).alloc (Nat.le_refl _) _);have hrd : Rd W2 (some ⟨W1.heap.size, 0, none⟩) 4 (([1, 2, 3, 4] : List Int).map fun z : Int => Value.int .i64 z) := by rw [<- hW2]; exact Rd.new _ _ _
    have hqb : W2.cell? ⟨q, 0, none⟩ = some (.string s) := by
     rw [hb12.cell (zc0 c0)]; exact c0
    first | rw [hW2] | skip
    refine (containsi_any _ _ (enters_of Tryz.func122 (by kernel_rfl) rfl) (fun k => decide (bs s <+: mkL k)) (some ⟨W1.heap.size, 0, none⟩) 4 _ [1, 2, 3, 4] W2 hrd (by decide) (fun x hx W hbW => open1_any x (by simp at hx; omega) (by simp at hx; omega) q s W (by rw [hbW.cell (zc0 hqb)]; exact hqb))).mono ?_;rw [<- HB2.out];rintro e W3 ⟨rfl, hb3⟩;have hb13 := hz0q (zb hb1.out (zb hb12 hb3));clear hrd hqb hb12 hb3 hW2;go_wp2;go_returns;rw [HD.out];exact ⟨rfl, hb13.out⟩
   ·go_enter Tryz.func77, Tryz.ntmps77;go_wp2_with fail;refine (PA _).mono ?_;rintro e w' ⟨rfl, rfl⟩;go_wp2;go_returns;rw [HD.out];exact ⟨rfl, hb1.out⟩
end
section
open Go.RowKit
def TakeR (k p : Int) (g : Bool) (r : List UInt8) (en : Bool) (zs : List Int) (k' : Int) (g' : Bool) (r' : List UInt8) (ov' : Bool) : Prop :=
 (g = true /\ en = false /\ OpenS r /\ zs = [] /\ k' = k /\ g' = true /\ r' = r /\ ov' = false) \/
 (¬ (g = true /\ en = false /\ OpenS r) /\ ∃ k1 r1 n, (k1, r1) = (if g = true then zas k r else (k, r)) /\ n = (if en = true then r1.length else cutK k1 r1) /\ zs = (rdN (nextK k1) p (r1.take n)).1 /\ k' = k1 /\ g' = false /\
  r' = (if (rdN (nextK k1) p (r1.take n)).2 = true then r1.drop n else []) /\ ov' = !(rdN (nextK k1) p (r1.take n)).2)
def TakeP (base : Nat) (w : World) (q : Nat) (rest : ByteArray) (a : Nat) (k p : Int) (g : Bool) (en : Bool) (e : Ending) (w' : World) : Prop :=
 ∃ (zs : List Int) (er k' : Int) (g' : Bool) (rest' : ByteArray) (ov' : Bool) (nf' : Nat) (A' : Option Addr) (c' : Nat) (fs' : List (Int × Int)) (Az : Option Addr) (cz : Nat), e = .returned (.tuple #[.slice Az zs.length cz, .int .i64 er]) /\
  w'.ownsRow w.heap.size 21 1 (.slice Az zs.length cz) zs.length (Rs zs) /\ DecM base w' q rest' a k' p g' ov' nf' A' c' fs' /\ zi w w' /\ Below base w w' /\ nf' + rest'.size <= a /\ (1 <= k' /\ k' <= 5) /\ er = (if ov' = true then 17 else 0) /\ TakeR k p g (bs rest) en zs k' g' (bs rest') ov'
section
variable {w : World} {q base : Nat} {rest : ByteArray} {k p : Int} {g : Bool} {nf c a : Nat} {A : Option Addr} {fs : List (Int × Int)}
theorem zhw (h : DecM base w q rest a k p g false nf A c fs) (h1 : 1 <= k) (h5 : k <= 5) (hp1 : 1 <= p) (hp3 : p <= 3) (hU : ∀ W, Below base w W -> RowsU W) (hle : nf + rest.size <= a) (ha : a <= 1000000) (hbw : base <= w.heap.size) (en : Bool) :
  Calls Tryz.prog 35 #[.pointer (some ⟨q, 0, none⟩), .bool en] w (TakeP base w q rest a k p g en) := by
 have hb4 := za h.box 4 rfl;have hb0 := za h.box 0 rfl;have HD := hz0q h;have HUU := hz0q hU;clear h hU;go_enter Tryz.func35, Tryz.ntmps35;go_upto_if 19 with (fail)
 go_cut [] from 6 (fun wx => ∃ k1 rest1, DecM base wx q rest1 a k1 p false false nf A c fs /\ Hid (zi w wx /\ Below base w wx /\ ¬ (g = true /\ en = false /\ OpenS (bs rest)) /\ (k1, bs rest1) = (if g = true then zas k (bs rest) else (k, bs rest))) /\ 1 <= k1 /\ k1 <= 5 /\ nf + rest1.size <= a)
 case first =>
  cases g with
  | false =>
   go_wp2;go_meet
   case rel => exact ⟨k, rest, HD.out, hz0q ⟨zi.refl _, Below.refl _ _, by simp, by simp⟩, h1, h5, hle⟩
  | true =>
   have O := open_any rest w (by omega)
   cases en with
   | false =>
    by_cases ho : OpenS (bs rest)
    ·rw [decide_eq_true ho] at O;go_wp2_with fail;refine O.mono ?_;rintro e w2 ⟨rfl, hb2⟩;have HF : Hid (TakeP base w q rest a k p true false (.returned (.tuple #[.slice none 0 0, .int .i64 0])) w2) := ⟨[], 0, k, true, rest, false, nf, A, c, fs, none, 0, rfl, World.ownsRow_nil _ _ _ _, HD.out.below hb2, zi.of_below hb2, hb2.mono hbw, hle, ⟨h1, h5⟩, rfl, .inl ⟨rfl, rfl, ho, rfl, rfl, rfl, rfl, rfl⟩⟩;clear O hb2;go_wp2;go_returns;exact HF.out
    ·rw [decide_eq_false ho] at O;go_wp2_with fail;refine O.mono ?_;rintro e w2 ⟨rfl, hb2⟩;have HD2 := hz0q (HD.out.below hb2);have HK2 := hz0q (zi.of_below hb2);have HB2 := hz0q (hb2.mono hbw);clear O hb2;have M4 := HD2.out.put (rest' := rest) (all' := a) (k' := k) (p' := p) (g' := false) (ov' := false) 4 (.bool false) rfl;have K4 := HK2.out.trans (zi.set HD2.out.box 4 (.bool false));have B4 := HB2.out.setCell (p := ⟨q, 4, none⟩) HD2.out.tb (.bool false);obtain ⟨W4, hW4⟩ : ∃ W4, w2.setCell ⟨q, 4, none⟩ (.bool false) = W4 := ⟨_, rfl⟩;rw [hW4] at M4 K4 B4;have HW4 := hz0q hW4;have b4 := za HD2.out.box 4 rfl;have f4 := zc HD2.out.box 4;have b0 := za M4.box 0 rfl;have MA := zhi rest W4;have M4H := hz0q M4;have K4H := hz0q K4;have B4H := hz0q B4;obtain ⟨mk, hmk⟩ : ∃ mk, mk = (zap (bs rest)).1 := ⟨_, rfl⟩;obtain ⟨ml, hml⟩ : ∃ ml, ml = (zap (bs rest)).2 := ⟨_, rfl⟩;rw [<- hmk, <- hml] at MA;have HMK := hz0q hmk;have HML := hz0q hml;have hmr : mk = 0 \/ 1 <= mk /\ mk <= 5 := (by rw [hmk]; exact zgg (bs rest));have hmle : ml <= rest.size := (by rw [hml, <- ze]; exact zgf (bs rest));clear M4 K4 B4 hW4 hmk hml;go_upto_region 5 with fail;rw [HW4.out];clear b4 f4 HW4;go_wp2_with fail;refine MA.mono ?_;rintro e w5 ⟨rfl, hb5⟩;have M5 := M4H.out.below hb5;have HK5 := hz0q (K4H.out.trans (zi.of_below hb5));have HB5 := hz0q (B4H.out.trans (hb5.mono (by have := B4H.out.size; omega)));have b0 := za M5.box 0 rfl;have M5H := hz0q M5;clear MA M5 hb5 M4H K4H B4H
     by_cases hm0 : mk = 0
     ·subst hm0
      have hAt : Hid ((k, bs rest) = (if true = true then zas k (bs rest) else (k, bs rest))) := by
       show _ = _;rw [if_pos rfl]; unfold zas; rw [<- HMK.out, if_neg (by omega)]
      go_wp2;go_meet
      case rel => exact ⟨k, rest, M5H.out, hz0q ⟨HK5.out, HB5.out, by simp [ho], hAt.out⟩, h1, h5, hle⟩
     ·have hm1 : 0 < mk := (by omega);have hm5 : 1 <= mk /\ mk <= 5 := by omega
      have hAt : Hid ((mk, bs (rest.extract ml rest.size)) = (if true = true then zas k (bs rest) else (k, bs rest))) := by
       show _ = _;rw [if_pos rfl]; unfold zas; rw [<- HMK.out, <- HML.out, if_pos hm1, z8, List.take_of_length_le (by rw [ze]; exact Nat.le_refl _)]
      have hsz : (rest.extract ml rest.size).size <= rest.size := (by simp);have P1 := M5H.out.put (rest' := rest) (all' := a) (k' := mk) (p' := p) (g' := false) (ov' := false) 2 (.int .i64 mk) rfl;have P2 := P1.put (rest' := rest.extract ml rest.size) (all' := a) (k' := mk) (p' := p) (g' := false) (ov' := false) 0 (.string (rest.extract ml rest.size)) rfl;have PK2 := (HK5.out.trans (zi.set M5H.out.box 2 (.int .i64 mk))).trans (zi.set P1.box 0 (.string (rest.extract ml rest.size)));have Q1 := M5H.out.put (rest' := rest.extract ml rest.size) (all' := a) (k' := k) (p' := p) (g' := false) (ov' := false) 0 (.string (rest.extract ml rest.size)) rfl;have Q2 := Q1.put (rest' := rest.extract ml rest.size) (all' := a) (k' := mk) (p' := p) (g' := false) (ov' := false) 2 (.int .i64 mk) rfl;have QK2 := (HK5.out.trans (zi.set M5H.out.box 0 (.string (rest.extract ml rest.size)))).trans (zi.set Q1.box 2 (.int .i64 mk));have PB2 := (HB5.out.setCell (p := ⟨q, 2, none⟩) M5H.out.tb (.int .i64 mk)).setCell (p := ⟨q, 0, none⟩) M5H.out.tb (.string (rest.extract ml rest.size));have QB2 := (HB5.out.setCell (p := ⟨q, 0, none⟩) M5H.out.tb (.string (rest.extract ml rest.size))).setCell (p := ⟨q, 2, none⟩) M5H.out.tb (.int .i64 mk);have HP2 := hz0q (And.intro (P2.below (Drew.to ⟨1, rfl⟩)) (And.intro (PK2.trans (zi.of_below (Drew.to ⟨1, rfl⟩))) (Below.drew PB2)));have HQ2 := hz0q (And.intro (Q2.below (Drew.to ⟨1, rfl⟩)) (And.intro (QK2.trans (zi.of_below (Drew.to ⟨1, rfl⟩))) (Below.drew QB2)));have b2 := za M5H.out.box 2 rfl
      have ef0 := zc M5H.out.box 0;have ef2 := zc M5H.out.box 2;have hmli : (ml : Int) <= (rest.size : Int) := (by omega);clear P1 P2 PK2 Q1 Q2 QK2 PB2 QB2 hmr;go_upto_region 7 with fail
      go_region
      all_goals
       first | go_meet | (go_wp2; go_meet)
       case rel => first | exact ⟨mk, rest.extract ml rest.size, HP2.out.1, hz0q ⟨HP2.out.2.1, HP2.out.2.2, by simp [ho], hAt.out⟩, hm5.1, hm5.2, by omega⟩ | exact ⟨mk, rest.extract ml rest.size, HQ2.out.1, hz0q ⟨HQ2.out.2.1, HQ2.out.2.2, by simp [ho], hAt.out⟩, hm5.1, hm5.2, by omega⟩
   | true =>
    clear O;have HD2 := HD;have HK2 := hz0q (zi.refl w);have HB2 := hz0q (Below.refl base w);have M4 := HD2.out.put (rest' := rest) (all' := a) (k' := k) (p' := p) (g' := false) (ov' := false) 4 (.bool false) rfl;have K4 := HK2.out.trans (zi.set HD2.out.box 4 (.bool false));have B4 := HB2.out.setCell (p := ⟨q, 4, none⟩) HD2.out.tb (.bool false);obtain ⟨W4, hW4⟩ : ∃ W4, w.setCell ⟨q, 4, none⟩ (.bool false) = W4 := ⟨_, rfl⟩;rw [hW4] at M4 K4 B4;have HW4 := hz0q hW4;have b4 := za HD2.out.box 4 rfl;have f4 := zc HD2.out.box 4;have b0 := za M4.box 0 rfl;have MA := zhi rest W4;have M4H := hz0q M4;have K4H := hz0q K4;have B4H := hz0q B4;obtain ⟨mk, hmk⟩ : ∃ mk, mk = (zap (bs rest)).1 := ⟨_, rfl⟩;obtain ⟨ml, hml⟩ : ∃ ml, ml = (zap (bs rest)).2 := ⟨_, rfl⟩;rw [<- hmk, <- hml] at MA;have HMK := hz0q hmk;have HML := hz0q hml;have hmr : mk = 0 \/ 1 <= mk /\ mk <= 5 := (by rw [hmk]; exact zgg (bs rest));have hmle : ml <= rest.size := (by rw [hml, <- ze]; exact zgf (bs rest));clear M4 K4 B4 hW4 hmk hml;go_upto_region 5 with fail;rw [HW4.out];clear b4 f4 HW4;go_wp2_with fail;refine MA.mono ?_;rintro e w5 ⟨rfl, hb5⟩;have M5 := M4H.out.below hb5;have HK5 := hz0q (K4H.out.trans (zi.of_below hb5));have HB5 := hz0q (B4H.out.trans (hb5.mono (by have := B4H.out.size; omega)));have b0 := za M5.box 0 rfl;have M5H := hz0q M5;clear MA M5 hb5 M4H K4H B4H
    by_cases hm0 : mk = 0
    ·subst hm0
     have hAt : Hid ((k, bs rest) = (if true = true then zas k (bs rest) else (k, bs rest))) := by
      show _ = _;rw [if_pos rfl]; unfold zas; rw [<- HMK.out, if_neg (by omega)]
     go_wp2;go_meet
     case rel => exact ⟨k, rest, M5H.out, hz0q ⟨HK5.out, HB5.out, by simp, hAt.out⟩, h1, h5, hle⟩
    ·have hm1 : 0 < mk := (by omega);have hm5 : 1 <= mk /\ mk <= 5 := by omega
     have hAt : Hid ((mk, bs (rest.extract ml rest.size)) = (if true = true then zas k (bs rest) else (k, bs rest))) := by
      show _ = _;rw [if_pos rfl]; unfold zas; rw [<- HMK.out, <- HML.out, if_pos hm1, z8, List.take_of_length_le (by rw [ze]; exact Nat.le_refl _)]
     have hsz : (rest.extract ml rest.size).size <= rest.size := (by simp);have P1 := M5H.out.put (rest' := rest) (all' := a) (k' := mk) (p' := p) (g' := false) (ov' := false) 2 (.int .i64 mk) rfl;have P2 := P1.put (rest' := rest.extract ml rest.size) (all' := a) (k' := mk) (p' := p) (g' := false) (ov' := false) 0 (.string (rest.extract ml rest.size)) rfl;have PK2 := (HK5.out.trans (zi.set M5H.out.box 2 (.int .i64 mk))).trans (zi.set P1.box 0 (.string (rest.extract ml rest.size)));have Q1 := M5H.out.put (rest' := rest.extract ml rest.size) (all' := a) (k' := k) (p' := p) (g' := false) (ov' := false) 0 (.string (rest.extract ml rest.size)) rfl;have Q2 := Q1.put (rest' := rest.extract ml rest.size) (all' := a) (k' := mk) (p' := p) (g' := false) (ov' := false) 2 (.int .i64 mk) rfl;have QK2 := (HK5.out.trans (zi.set M5H.out.box 0 (.string (rest.extract ml rest.size)))).trans (zi.set Q1.box 2 (.int .i64 mk));have PB2 := (HB5.out.setCell (p := ⟨q, 2, none⟩) M5H.out.tb (.int .i64 mk)).setCell (p := ⟨q, 0, none⟩) M5H.out.tb (.string (rest.extract ml rest.size));have QB2 := (HB5.out.setCell (p := ⟨q, 0, none⟩) M5H.out.tb (.string (rest.extract ml rest.size))).setCell (p := ⟨q, 2, none⟩) M5H.out.tb (.int .i64 mk);have HP2 := hz0q (And.intro (P2.below (Drew.to ⟨1, rfl⟩)) (And.intro (PK2.trans (zi.of_below (Drew.to ⟨1, rfl⟩))) (Below.drew PB2)));have HQ2 := hz0q (And.intro (Q2.below (Drew.to ⟨1, rfl⟩)) (And.intro (QK2.trans (zi.of_below (Drew.to ⟨1, rfl⟩))) (Below.drew QB2)));have b2 := za M5H.out.box 2 rfl
     have ef0 := zc M5H.out.box 0;have ef2 := zc M5H.out.box 2;have hmli : (ml : Int) <= (rest.size : Int) := (by omega);clear P1 P2 PK2 Q1 Q2 QK2 PB2 QB2 hmr;go_upto_region 7 with fail
     go_region
     all_goals
      first | go_meet | (go_wp2; go_meet)
      case rel => first | exact ⟨mk, rest.extract ml rest.size, HP2.out.1, hz0q ⟨HP2.out.2.1, HP2.out.2.2, by simp, hAt.out⟩, hm5.1, hm5.2, by omega⟩ | exact ⟨mk, rest.extract ml rest.size, HQ2.out.1, hz0q ⟨HQ2.out.2.1, HQ2.out.2.2, by simp, hAt.out⟩, hm5.1, hm5.2, by omega⟩
 case rest =>
  obtain ⟨k1, rest1, HD1, HF, hk1, hk5, hle1⟩ := hcut;clear hb4 hb0;have HU := HUU;have hr1 : rest1.size <= 1000000 := by omega
  cases en with
  | true =>
   have F := zk8 HD1 (by omega) (by omega);have HD1 := hz0q HD1;have hmf : ∀ (fn : Fn) (first cap : Array Value) (w : World), (Instr.makeFunc fn first cap).run Tryz.prog w = .ok (.func fn first cap) w := fun _ _ _ _ => rfl;go_wp2_with fail;refine F.mono ?_;rintro e w3 ⟨rfl, hb3⟩;have D3 := hz0q (HD1.out.below hb3);have KD3 := hz0q (HF.out.1.trans (zi.of_below hb3));have BL3 := hz0q (HF.out.2.1.trans (hb3.mono (Nat.le_trans hbw HF.out.2.1.size)));have b0 := za D3.out.box 0 rfl;clear F hb3;obtain ⟨fr, hfr⟩ : ∃ fr, fr = a - rest1.size := ⟨_, rfl⟩;rw [<- hfr];have HFR := hz0q hfr;clear hfr;go_wp2_with fail;refine (all_any rest1 w3).mono ?_;rintro e w4 ⟨rfl, hb4⟩;have D4 := hz0q (D3.out.below hb4);have KD4 := hz0q (KD3.out.trans (zi.of_below hb4));have BL4 := hz0q (BL3.out.trans (hb4.mono (Nat.le_trans hbw BL3.out.size)));clear b0 hb4;have b0 := za D4.out.box 0 rfl;obtain ⟨n, hn⟩ : ∃ n : Nat, n = rest1.size := ⟨_, rfl⟩;skip;have hnr : n <= rest1.size := (by omega);have hnn : n = (if true = true then (bs rest1).length else cutK k1 (bs rest1)) := (by rw [if_pos rfl, ze]; exact hn);rw [<- hn];have HN := hz0q hnn;have hni : (n : Int) <= (rest1.size : Int) := (by omega);clear hn hnn;have RD := zkl D4.out.box hk1 hk5 hp1 hp3 (rest1.extract 0 n) (HU.out w4 BL4.out) (by simp; omega);have hbs : bs (rest1.extract 0 n) = (bs rest1).take n := (by rw [z8]; simp);rw [hbs] at RD;obtain ⟨zs, hzs⟩ : ∃ zs, zs = (rdN (nextK k1) p ((bs rest1).take n)).1 := ⟨_, rfl⟩;obtain ⟨ok, hok⟩ : ∃ ok, ok = (rdN (nextK k1) p ((bs rest1).take n)).2 := ⟨_, rfl⟩
   rw [<- hzs, <- hok] at RD;have HZS := hz0q hzs;have HOK := hz0q hok;clear hbs hzs hok;go_wp2_with fail;refine RD.mono ?_;intro e w5 hd;obtain ⟨Az, cz, A2, n2, c2, fs2, er, rfl, her, ho1, ho2, hf2, hl2, hb5⟩ := hd.opened;have D5 := hz0q (D4.out.below hb5);have KD5 := hz0q (KD4.out.trans (zi.of_below hb5));have BL5 := hz0q (BL4.out.trans (hb5.mono (Nat.le_trans hbw BL4.out.size)));have hn2 : n2 <= n := by simp at hl2; omega
   have HAP : Hid (∀ b, (Value.slice A nf c).ownBlock = some b -> (Value.slice A2 n2 c2).ownBlock ≠ some b) := hz0q (fun b hb hb2 => by
    have u1 := (D4.out.own.lt b hb).2;have u2 := (ho2.lt b hb2).1
    omega)
   have HO1 := hz0q (zba ho1 (show w.heap.size <= w4.heap.size from Nat.le_trans KD4.out.1 (Nat.le_refl _)))
   have HO2 := hz0q ho2;have HF2 := hz0q hf2;clear RD hd b0 hb5 ho1 ho2 hf2;have b0 := za D5.out.box 0 rfl;have f0 := zc D5.out.box 0;obtain ⟨rest2, hrest2⟩ : ∃ r, r = rest1.extract n rest1.size := ⟨_, rfl⟩;have hr2 : rest2.size = rest1.size - n := (by rw [hrest2]; simp);have HR2 : Hid (bs rest2 = (bs rest1).drop n) := (by show _ = _; rw [hrest2, z8, List.take_of_length_le (by rw [ze]; exact Nat.le_refl _)]);have HD6 := hz0q (D5.out.put (rest' := rest2) (all' := a) (k' := k1) (p' := p) (g' := false) (ov' := false) 0 (.string rest2) rfl);have KD6 := hz0q (KD5.out.trans (zi.set D5.out.box 0 (.string rest2)));have BL6 := hz0q (BL5.out.setCell (p := ⟨q, 0, none⟩) D5.out.tb (.string rest2));have HO16 := hz0q (za0 HO1.out (zi.set D5.out.box 0 (.string rest2)) (by decide) (by decide))
   have HO26 : Hid ((w5.setCell ⟨q, 0, none⟩ (.string rest2)).ownsRow w4.heap.size 128 2 (.slice A2 n2 c2) n2 (Fs fs2)) := hz0q (zds HO2.out fun b hb => Below.heap_setCell w5 ⟨q, 0, none⟩ (.string rest2) b (fun e => by
    have u1 := D4.out.lt;have u2 := (HO2.out.lt b hb).1;have e : b = q := e
    omega))
   obtain ⟨w6, hw6⟩ : ∃ w6, w5.setCell ⟨q, 0, none⟩ (.string rest2) = w6 := ⟨_, rfl⟩;have HW6 := hz0q hw6;rw [hw6] at HD6 KD6 BL6 HO16 HO26;clear hw6;go_upto_region 15 with fail;rw [<- hrest2, HW6.out];have HCE := hz0q HF.out.2.2;clear b0 f0 D3 KD3 BL3 D4 KD4 D5 KD5 BL5 HO1 HO2 HW6 hrest2 HD1 HF;go_wp2_with fail
   go_loopw [99] (fun s99 wr => ∃ (j : Nat) (Ad : Option Addr) (cd : Nat) (fsd : List (Int × Int)), s99 = .int .i64 j /\ j <= n2 /\ Hid (DecM base wr q rest2 a k1 p false false (nf + j) Ad cd fsd) /\ Hid (zi w wr) /\ Hid (Below base w wr) /\ Hid (wr.ownsRow w.heap.size 21 1 (.slice Az zs.length cz) zs.length (Rs zs)) /\ Hid (wr.ownsRow w4.heap.size 128 2 (.slice A2 n2 c2) n2 (Fs fs2)) /\ Hid (∀ b, (Value.slice Ad (nf + j) cd).ownBlock = some b -> (Value.slice A2 n2 c2).ownBlock ≠ some b)) (fun s99 _ => n2 - (intOf s99).toNat)
   case atStart => exact ⟨0, A, c, fs, rfl, Nat.zero_le _, HD6, KD6, BL6, HO16, HO26, HAP⟩
   case round =>
    obtain ⟨j, Ad, cd, fsd, rfl, hj, HDR, HKR, HBR, HZR, HFR2, HAR⟩ := hrel;obtain ⟨wo, rfl⟩ : ∃ wo, wo = wr := ⟨wr, rfl⟩
    by_cases hlt : j < n2
    ·have hji : (j : Int) < (n2 : Int) := (by omega);obtain ⟨A2', c2', hv2, _, _, hrd2⟩ := RdK.of_own HFR2.out;injection hv2 with hv2a _ hv2c;subst hv2a hv2c;obtain ⟨b3, o3, rfl, _, hcl⟩ := hrd2.at_ (by decide) (by omega);obtain ⟨xy, hxy⟩ : ∃ xy, fs2[j]? = some xy := ⟨_, List.getElem?_eq_getElem (by rw [HF2.out]; exact hlt)⟩;obtain ⟨x, y⟩ := xy;have c0 := hcl _ _ (zlq hxy).1;have c1 := hcl _ _ (zlq hxy).2;rw [<- Nat.add_assoc] at c1;obtain ⟨Wb, hWb⟩ : ∃ Wb, wo.alloc (.cells #[.int .i64 x, .int .i64 y] 128) = Wb := ⟨_, rfl⟩;obtain ⟨bx, hbx⟩ : ∃ bx, wo.heap.size = bx := ⟨_, rfl⟩;obtain ⟨sx, hsx⟩ : ∃ sx, IntKind.i64.wrap ((fr : Int) + x) = sx := ⟨_, rfl⟩;have hxb : Wb.heap[bx]? = some (.cells #[.int .i64 x, .int .i64 y] 128 (0, 0)) := (by rw [<- hWb, <- hbx]; exact zj _ _ _);have hbb : Below wo.heap.size wo Wb := (by rw [<- hWb]; exact (Below.refl _ _).alloc (Nat.le_refl _) _);have HSB : Hid (Wb.cell? ⟨bx, 0, none⟩ = some (.int .i64 x) /\ Wb.cell? ⟨bx, 1, none⟩ = some (.int .i64 y)) := ⟨za hxb 0 rfl, za hxb 1 rfl⟩;have HS0 : Hid (Wb.drew.cell? ⟨bx, 0, none⟩ = some (.int .i64 x) /\ Wb.drew.cell? ⟨bx, 1, none⟩ = some (.int .i64 y)) := HSB;obtain ⟨W1, hW1⟩ : ∃ W1, W1 = (Wb.alloc (.cells #[.int .i64 sx, .int .i64 y] 128)).drew := ⟨_, rfl⟩;have hbw1 : Below Wb.heap.size Wb W1 := (by rw [hW1]; exact zb ((Below.refl _ _).alloc (Nat.le_refl _) _) (Drew.to ⟨1, rfl⟩));have HBW : Hid (Below wo.heap.size wo W1) := hz0q (zb hbb hbw1);have HS1 : Hid (W1.cell? ⟨bx, 0, none⟩ = some (.int .i64 x) /\ W1.cell? ⟨bx, 1, none⟩ = some (.int .i64 y)) := ⟨(hbw1.cell (zc0 HSB.out.1)).trans HSB.out.1, (hbw1.cell (zc0 HSB.out.2)).trans HSB.out.2⟩
     have hdb := HDR.out.below hbb;have HD1W := hz0q (HDR.out.below HBW.out);have HXO := hz0q HD1W.out.own;have hrd1 : RdK W1 (some ⟨Wb.heap.size, 0, none⟩) 1 2 [.int .i64 sx, .int .i64 y] := (by rw [hW1]; exact (RdK.new Wb _ 1 [.int .i64 sx, .int .i64 y] rfl).below (by decide) (Drew.to ⟨1, rfl⟩));have hbs1 : base <= W1.heap.size := Nat.le_trans (Nat.le_trans hbw HBR.out.size) HBW.out.size;have HNB : Hid ((Value.slice Ad (nf + j) cd).ownBlock ≠ some bx) := hz0q (fun e => by have := (HDR.out.own.lt bx e).2; omega);have HNQ : Hid (bx ≠ q) := hz0q (fun e => by have := HDR.out.lt; omega);have d6 := za hdb.box 6 rfl;have d61 := za HD1W.out.box 6 rfl;have HW1 := hz0q hW1;have hjn : nf + j <= 1000000 := (by omega);clear hcl hrd2 hxy hxb hbb hbw1 hW1 hdb;go_upto_region 18 with fail;refine wp_region_held_drew (S := fun w' => w'.cell? ⟨bx, 0, none⟩ = some (.int .i64 x) /\ w'.cell? ⟨bx, 1, none⟩ = some (.int .i64 y)) (by kernel_rfl) (HS0.out) (fun hH0 => ?_);refine wpAnyH_take (i := 0) (v := .pointer (some ⟨q, 0, none⟩)) rfl (by kernel_rfl) (by kernel_rfl) (by kernel_rfl) (fun _ _ _ h => h) (Or.inl ⟨by kernel_rfl, ?_⟩) hH0 ?_
     ·intro w hSw;obtain ⟨s1, s2⟩ := hSw;go_simp
      all_goals try with_reducible rfl
     try simp only [gA, gB, gC, Act.put, gD, gE, gF]
     refine wpAnyH_take (i := 1) (v := .pointer (some ⟨q, 0, none⟩)) rfl (by kernel_rfl) (by kernel_rfl) (by kernel_rfl) (fun _ _ _ h => h) (Or.inl ⟨by kernel_rfl, ?_⟩) hH0 ?_
     ·intro w hSw;obtain ⟨s1, s2⟩ := hSw;go_simp
      all_goals try with_reducible rfl
     try simp only [gA, gB, gC, Act.put, gD, gE, gF]
     refine wpAnyH_take (i := 2) (v := .pointer (some ⟨q, 0, none⟩)) rfl (by kernel_rfl) (by kernel_rfl) (by kernel_rfl) (fun _ _ _ h => h) (Or.inl ⟨by kernel_rfl, ?_⟩) hH0 ?_
     ·intro w hSw;obtain ⟨s1, s2⟩ := hSw;go_simp
      all_goals try with_reducible rfl
     try simp only [gA, gB, gC, Act.put, gD, gE, gF]
     refine wpAnyH_take (i := 3) (v := .pointer (some ⟨q, 6, none⟩)) rfl (by kernel_rfl) (by kernel_rfl) (by kernel_rfl) (fun _ _ _ h => h) (Or.inl ⟨by kernel_rfl, ?_⟩) hH0 ?_
     ·intro w hSw;obtain ⟨s1, s2⟩ := hSw;go_simp
      all_goals try with_reducible rfl
     try simp only [gA, gB, gC, Act.put, gD, gE, gF]
     refine wpAnyH_take (i := 5) (v := .int .i64 fr) rfl (by kernel_rfl) (by kernel_rfl) (by kernel_rfl) (fun _ _ _ h => h) (Or.inl ⟨by kernel_rfl, ?_⟩) hH0 ?_
     ·intro w hSw;obtain ⟨s1, s2⟩ := hSw;go_simp
      all_goals try with_reducible rfl
     try simp only [gA, gB, gC, Act.put, gD, gE, gF]
     refine wpAnyH_take (i := 6) (v := .pointer (some ⟨bx, 0, none⟩)) rfl (by kernel_rfl) (by kernel_rfl) (by kernel_rfl) (fun _ _ _ h => h) (Or.inl ⟨by kernel_rfl, ?_⟩) hH0 ?_
     ·intro w hSw;obtain ⟨s1, s2⟩ := hSw;go_simp
      all_goals try with_reducible rfl
     try simp only [gA, gB, gC, Act.put, gD, gE, gF]
     refine wpAnyH_take (i := 7) (v := .int .i64 x) rfl (by kernel_rfl) (by kernel_rfl) (by kernel_rfl) (fun _ _ _ h => h) (Or.inl ⟨by kernel_rfl, ?_⟩) hH0 ?_
     ·intro w hSw;obtain ⟨s1, s2⟩ := hSw;go_simp
      all_goals try with_reducible rfl
     try simp only [gA, gB, gC, Act.put, gD, gE, gF]
     refine wpAnyH_take (i := 8) (v := .int .i64 sx) rfl (by kernel_rfl) (by kernel_rfl) (by kernel_rfl) (fun _ _ _ h => h) (Or.inl ⟨by kernel_rfl, ?_⟩) hH0 ?_
     ·intro w hSw;obtain ⟨s1, s2⟩ := hSw;go_simp
      all_goals try with_reducible rfl
     try simp only [gA, gB, gC, Act.put, gD, gE, gF]
     refine wpAnyH_take (i := 9) (v := .pointer (some ⟨bx, 1, none⟩)) rfl (by kernel_rfl) (by kernel_rfl) (by kernel_rfl) (fun _ _ _ h => h) (Or.inl ⟨by kernel_rfl, ?_⟩) hH0 ?_
     ·intro w hSw;obtain ⟨s1, s2⟩ := hSw;go_simp
      all_goals try with_reducible rfl
     try simp only [gA, gB, gC, Act.put, gD, gE, gF]
     refine wpAnyH_take (i := 10) (v := .int .i64 y) rfl (by kernel_rfl) (by kernel_rfl) (by kernel_rfl) (fun _ _ _ h => h) (Or.inl ⟨by kernel_rfl, ?_⟩) hH0 ?_
     ·intro w hSw;obtain ⟨s1, s2⟩ := hSw;go_simp
      all_goals try with_reducible rfl
     try simp only [gA, gB, gC, Act.put, gD, gE, gF]
     refine wpAnyH_take (i := 11) (v := .agg #[.int .i64 sx, .int .i64 y]) rfl (by kernel_rfl) (by kernel_rfl) (by kernel_rfl) (fun _ _ _ h => h) (Or.inl ⟨by kernel_rfl, ?_⟩) hH0 ?_
     ·intro w hSw;obtain ⟨s1, s2⟩ := hSw;go_simp
      all_goals try with_reducible rfl
     try simp only [gA, gB, gC, Act.put, gD, gE, gF]
     refine wpAnyH_ready (rs := [4, 12]) (by kernel_rfl) (by simp) ?_;refine AllReadyH.cons rfl (fun K hK => ?_) (AllReadyH.cons rfl (fun K hK => ?_) AllReadyH.nil)
     ·go_simp
      refine hK.out _ _ (by first | exact HS0.out | exact HS1.out) (fun hH1 => ?_)
      clear hK K hH0;try simp only [gA, gB, gC, Act.put, gD, gE, gF]
      refine wpAnyH_ready (rs := [12]) (by kernel_rfl) (by simp) ?_;refine AllReadyH.cons rfl (fun K hK => ?_) AllReadyH.nil;go_simp
      rw [<- HW1.out];refine hK.out _ _ (HS1.out) (fun hH2 => ?_);clear hK K hH1;try simp only [gA, gB, gC, Act.put, gD, gE, gF]
      refine wpAnyH_ready (rs := [13]) (by kernel_rfl) (by simp) ?_;refine AllReadyH.cons rfl (fun K hK => ?_) AllReadyH.nil;refine zen za2 _ rfl (.tmp 107) (.tmp 115) rfl base rfl HXO.out rfl hrd1 (zbs _ _) (by omega) (by decide) hbs1 ?_;intro A5 c5 w9 hown9 hg9 hat9;have hS9 : w9.cell? ⟨bx, 0, none⟩ = some (.int .i64 x) /\ w9.cell? ⟨bx, 1, none⟩ = some (.int .i64 y) := ⟨by first | exact hg9.cell HS1.out.1 HNB.out | exact hg9.cell HS1.out.1 (Ne.symm HNB.out), by first | exact hg9.cell HS1.out.2 HNB.out | exact hg9.cell HS1.out.2 (Ne.symm HNB.out)⟩;refine hK.out _ _ (hS9) (fun hH3 => ?_);clear hK K hH2;try simp only [gA, gB, gC, Act.put, gD, gE, gF]
      refine wpAnyH_take (i := 14) (v := .pointer (some ⟨q, 0, none⟩)) rfl (by kernel_rfl) (by kernel_rfl) (by kernel_rfl) (fun _ _ _ h => h) (Or.inl ⟨by kernel_rfl, ?_⟩) hH3 ?_
      ·intro w hSw;obtain ⟨s1, s2⟩ := hSw;go_simp
       all_goals try with_reducible rfl
      try simp only [gA, gB, gC, Act.put, gD, gE, gF]
      refine wpAnyH_take (i := 15) (v := .pointer (some ⟨q, 6, none⟩)) rfl (by kernel_rfl) (by kernel_rfl) (by kernel_rfl) (fun _ _ _ h => h) (Or.inl ⟨by kernel_rfl, ?_⟩) hH3 ?_
      ·intro w hSw;obtain ⟨s1, s2⟩ := hSw;go_simp
       all_goals try with_reducible rfl
      try simp only [gA, gB, gC, Act.put, gD, gE, gF]
      refine wpAnyH_ready (rs := [16]) (by kernel_rfl) (by simp) ?_;refine AllReadyH.cons rfl (fun K hK => ?_) AllReadyH.nil;have hb9 := (hg9.block q HD1W.out.lt (fun e => HD1W.out.ne q e.symm rfl)).trans HD1W.out.box;have hcw := za hb9 6 rfl;have hfw := zc hb9 6;go_simp
      refine hK.out _ _ (⟨(World.cell?_setCell_other _ _ _ _ (by intro e; injection e with e; exact HNQ.out e.symm)).trans hS9.1, (World.cell?_setCell_other _ _ _ _ (by intro e; injection e with e; exact HNQ.out e.symm)).trans hS9.2⟩) (fun hH4 => ?_);clear hK K hH3;try simp only [gA, gB, gC, Act.put, gD, gE, gF]
      refine wpAnyH_done (by kernel_rfl) ?_ _;have hfn := HDR.out.fault HBW.out (Nat.le_trans hbw HBR.out.size) hown9 hg9 hat9 HFR2.out HAR.out;have HN1 := hz0q hfn.1;have HN2 := hz0q (HKR.out.trans hfn.2.1);have HN3 := hz0q (HBR.out.trans hfn.2.2.1);have HN4 := hz0q (za0 HZR.out hfn.2.1 (by decide) (by decide));have HN5 := hz0q hfn.2.2.2.1;have HN6 := hz0q hfn.2.2.2.2;clear hH4 hfn hown9 hg9 hat9 hS9 hb9 hcw hfw hrd1 hbs1 d6 d61 c0 c1;go_wp2;go_roundw
      case rel => exact ⟨j + 1, A5, c5, _, by go_num, by omega, HN1, HN2, HN3, HN4, HN5, HN6⟩
      case measure => simp [intOf] <;> omega
     ·go_simp
      rw [<- HW1.out];refine hK.out _ _ (HS1.out) (fun hH1 => ?_);clear hK K hH0;try simp only [gA, gB, gC, Act.put, gD, gE, gF]
      refine wpAnyH_ready (rs := [4]) (by kernel_rfl) (by simp) ?_;refine AllReadyH.cons rfl (fun K hK => ?_) AllReadyH.nil;go_simp
      refine hK.out _ _ (by first | exact HS0.out | exact HS1.out) (fun hH2 => ?_)
      clear hK K hH1;try simp only [gA, gB, gC, Act.put, gD, gE, gF]
      refine wpAnyH_ready (rs := [13]) (by kernel_rfl) (by simp) ?_;refine AllReadyH.cons rfl (fun K hK => ?_) AllReadyH.nil;refine zen za2 _ rfl (.tmp 107) (.tmp 115) rfl base rfl HXO.out rfl hrd1 (zbs _ _) (by omega) (by decide) hbs1 ?_;intro A5 c5 w9 hown9 hg9 hat9;have hS9 : w9.cell? ⟨bx, 0, none⟩ = some (.int .i64 x) /\ w9.cell? ⟨bx, 1, none⟩ = some (.int .i64 y) := ⟨by first | exact hg9.cell HS1.out.1 HNB.out | exact hg9.cell HS1.out.1 (Ne.symm HNB.out), by first | exact hg9.cell HS1.out.2 HNB.out | exact hg9.cell HS1.out.2 (Ne.symm HNB.out)⟩;refine hK.out _ _ (hS9) (fun hH3 => ?_);clear hK K hH2;try simp only [gA, gB, gC, Act.put, gD, gE, gF]
      refine wpAnyH_take (i := 14) (v := .pointer (some ⟨q, 0, none⟩)) rfl (by kernel_rfl) (by kernel_rfl) (by kernel_rfl) (fun _ _ _ h => h) (Or.inl ⟨by kernel_rfl, ?_⟩) hH3 ?_
      ·intro w hSw;obtain ⟨s1, s2⟩ := hSw;go_simp
       all_goals try with_reducible rfl
      try simp only [gA, gB, gC, Act.put, gD, gE, gF]
      refine wpAnyH_take (i := 15) (v := .pointer (some ⟨q, 6, none⟩)) rfl (by kernel_rfl) (by kernel_rfl) (by kernel_rfl) (fun _ _ _ h => h) (Or.inl ⟨by kernel_rfl, ?_⟩) hH3 ?_
      ·intro w hSw;obtain ⟨s1, s2⟩ := hSw;go_simp
       all_goals try with_reducible rfl
      try simp only [gA, gB, gC, Act.put, gD, gE, gF]
      refine wpAnyH_ready (rs := [16]) (by kernel_rfl) (by simp) ?_;refine AllReadyH.cons rfl (fun K hK => ?_) AllReadyH.nil;have hb9 := (hg9.block q HD1W.out.lt (fun e => HD1W.out.ne q e.symm rfl)).trans HD1W.out.box;have hcw := za hb9 6 rfl;have hfw := zc hb9 6;go_simp
      refine hK.out _ _ (⟨(World.cell?_setCell_other _ _ _ _ (by intro e; injection e with e; exact HNQ.out e.symm)).trans hS9.1, (World.cell?_setCell_other _ _ _ _ (by intro e; injection e with e; exact HNQ.out e.symm)).trans hS9.2⟩) (fun hH4 => ?_);clear hK K hH3;try simp only [gA, gB, gC, Act.put, gD, gE, gF]
      refine wpAnyH_done (by kernel_rfl) ?_ _;have hfn := HDR.out.fault HBW.out (Nat.le_trans hbw HBR.out.size) hown9 hg9 hat9 HFR2.out HAR.out;have HN1 := hz0q hfn.1;have HN2 := hz0q (HKR.out.trans hfn.2.1);have HN3 := hz0q (HBR.out.trans hfn.2.2.1);have HN4 := hz0q (za0 HZR.out hfn.2.1 (by decide) (by decide));have HN5 := hz0q hfn.2.2.2.1;have HN6 := hz0q hfn.2.2.2.2;clear hH4 hfn hown9 hg9 hat9 hS9 hb9 hcw hfw hrd1 hbs1 d6 d61 c0 c1;go_wp2;go_roundw
      case rel => exact ⟨j + 1, A5, c5, _, by go_num, by omega, HN1, HN2, HN3, HN4, HN5, HN6⟩
      case measure => simp [intOf] <;> omega
    ·obtain rfl : j = n2 := (by omega);have hji : ¬ ((j : Int) < (j : Int)) := by omega
     cases ok with
     | true =>
      obtain rfl : er = 0 := her.out;have HF : Hid (TakeP base w q rest a k p g true (.returned (.tuple #[.slice Az zs.length cz, .int .i64 0])) wo) := ⟨zs, 0, k1, false, rest2, false, nf + j, Ad, cd, fsd, Az, cz, rfl, HZR.out, HDR.out, HKR.out, HBR.out, by omega, ⟨hk1, hk5⟩, rfl, .inr ⟨by simp, k1, bs rest1, n, HCE.out.2, HN.out, HZS.out, rfl, rfl, by rw [<- HOK.out, if_pos rfl]; exact HR2.out, by rw [<- HOK.out]; rfl⟩⟩;go_wp2;go_returns;exact HF.out
     | false =>
      obtain rfl : er = 17 := her.out;have e0 := za HDR.out.box 0 rfl;have e5 := za HDR.out.box 5 rfl;have ef0 := zc HDR.out.box 0;have ef5 := zc HDR.out.box 5;have P1 := HDR.out.put (rest' := ⟨#[]⟩) (all' := a) (k' := k1) (p' := p) (g' := false) (ov' := false) 0 (.string ⟨#[]⟩) rfl;have P2 := P1.put (rest' := ⟨#[]⟩) (all' := a) (k' := k1) (p' := p) (g' := false) (ov' := true) 5 (.bool true) rfl;have PK := (HKR.out.trans (zi.set HDR.out.box 0 (.string ⟨#[]⟩))).trans (zi.set P1.box 5 (.bool true));have PB := (HBR.out.setCell (p := ⟨q, 0, none⟩) HDR.out.tb (.string ⟨#[]⟩)).setCell (p := ⟨q, 5, none⟩) HDR.out.tb (.bool true);have PO := za0 (za0 HZR.out (zi.set HDR.out.box 0 (.string ⟨#[]⟩)) (by decide) (by decide)) (zi.set P1.box 5 (.bool true)) (by decide) (by decide);have HF : Hid (TakeP base w q rest a k p g true (.returned (.tuple #[.slice Az zs.length cz, .int .i64 17])) ((wo.setCell ⟨q, 0, none⟩ (.string ⟨#[]⟩)).setCell ⟨q, 5, none⟩ (.bool true))) := ⟨zs, 17, k1, false, ⟨#[]⟩, true, nf + j, Ad, cd, fsd, Az, cz, rfl, PO, P2, PK, PB, by (have : (⟨#[]⟩ : ByteArray).size = 0 := rfl); omega, ⟨hk1, hk5⟩, rfl, .inr ⟨by simp, k1, bs rest1, n, HCE.out.2, HN.out, HZS.out, rfl, rfl, by rw [<- HOK.out, if_neg (by simp)]; rfl, by rw [<- HOK.out]; rfl⟩⟩;clear P1 P2 PK PB PO;go_wp2;go_returns;exact HF.out
  | false =>
   have F := zk8 HD1 (by omega) (by omega);have HD1 := hz0q HD1;have hmf : ∀ (fn : Fn) (first cap : Array Value) (w : World), (Instr.makeFunc fn first cap).run Tryz.prog w = .ok (.func fn first cap) w := fun _ _ _ _ => rfl;go_wp2_with fail;refine F.mono ?_;rintro e w3 ⟨rfl, hb3⟩;have D3 := hz0q (HD1.out.below hb3);have KD3 := hz0q (HF.out.1.trans (zi.of_below hb3));have BL3 := hz0q (HF.out.2.1.trans (hb3.mono (Nat.le_trans hbw HF.out.2.1.size)));have b0 := za D3.out.box 0 rfl;clear F hb3;obtain ⟨fr, hfr⟩ : ∃ fr, fr = a - rest1.size := ⟨_, rfl⟩;rw [<- hfr];have HFR := hz0q hfr;clear hfr;go_wp2_with fail;refine (sure_any D3.out.box hk1 hk5 rest1 (HU.out w3 BL3.out) (by omega)).mono ?_;rintro e w4 ⟨rfl, hb4⟩;have D4 := hz0q (D3.out.below hb4);have KD4 := hz0q (KD3.out.trans (zi.of_below hb4));have BL4 := hz0q (BL3.out.trans (hb4.mono (Nat.le_trans hbw BL3.out.size)));clear b0 hb4;have b0 := za D4.out.box 0 rfl;obtain ⟨n, hn⟩ : ∃ n : Nat, n = cutK k1 (bs rest1) := ⟨_, rfl⟩;rw [<- hn];have hnr : n <= rest1.size := (by rw [hn, <- ze]; exact (zj7 k1 (bs rest1)).1);have hnn : n = (if false = true then (bs rest1).length else cutK k1 (bs rest1)) := (by rw [if_neg (by simp)]; exact hn);skip;have HN := hz0q hnn;have hni : (n : Int) <= (rest1.size : Int) := (by omega);clear hn hnn;have RD := zkl D4.out.box hk1 hk5 hp1 hp3 (rest1.extract 0 n) (HU.out w4 BL4.out) (by simp; omega);have hbs : bs (rest1.extract 0 n) = (bs rest1).take n := (by rw [z8]; simp);rw [hbs] at RD;obtain ⟨zs, hzs⟩ : ∃ zs, zs = (rdN (nextK k1) p ((bs rest1).take n)).1 := ⟨_, rfl⟩
   obtain ⟨ok, hok⟩ : ∃ ok, ok = (rdN (nextK k1) p ((bs rest1).take n)).2 := ⟨_, rfl⟩;rw [<- hzs, <- hok] at RD;have HZS := hz0q hzs;have HOK := hz0q hok;clear hbs hzs hok;go_wp2_with fail;refine RD.mono ?_;intro e w5 hd;obtain ⟨Az, cz, A2, n2, c2, fs2, er, rfl, her, ho1, ho2, hf2, hl2, hb5⟩ := hd.opened;have D5 := hz0q (D4.out.below hb5);have KD5 := hz0q (KD4.out.trans (zi.of_below hb5));have BL5 := hz0q (BL4.out.trans (hb5.mono (Nat.le_trans hbw BL4.out.size)));have hn2 : n2 <= n := by simp at hl2; omega
   have HAP : Hid (∀ b, (Value.slice A nf c).ownBlock = some b -> (Value.slice A2 n2 c2).ownBlock ≠ some b) := hz0q (fun b hb hb2 => by
    have u1 := (D4.out.own.lt b hb).2;have u2 := (ho2.lt b hb2).1
    omega)
   have HO1 := hz0q (zba ho1 (show w.heap.size <= w4.heap.size from Nat.le_trans KD4.out.1 (Nat.le_refl _)))
   have HO2 := hz0q ho2;have HF2 := hz0q hf2;clear RD hd b0 hb5 ho1 ho2 hf2;have b0 := za D5.out.box 0 rfl;have f0 := zc D5.out.box 0;obtain ⟨rest2, hrest2⟩ : ∃ r, r = rest1.extract n rest1.size := ⟨_, rfl⟩;have hr2 : rest2.size = rest1.size - n := (by rw [hrest2]; simp);have HR2 : Hid (bs rest2 = (bs rest1).drop n) := (by show _ = _; rw [hrest2, z8, List.take_of_length_le (by rw [ze]; exact Nat.le_refl _)]);have HD6 := hz0q (D5.out.put (rest' := rest2) (all' := a) (k' := k1) (p' := p) (g' := false) (ov' := false) 0 (.string rest2) rfl);have KD6 := hz0q (KD5.out.trans (zi.set D5.out.box 0 (.string rest2)));have BL6 := hz0q (BL5.out.setCell (p := ⟨q, 0, none⟩) D5.out.tb (.string rest2));have HO16 := hz0q (za0 HO1.out (zi.set D5.out.box 0 (.string rest2)) (by decide) (by decide))
   have HO26 : Hid ((w5.setCell ⟨q, 0, none⟩ (.string rest2)).ownsRow w4.heap.size 128 2 (.slice A2 n2 c2) n2 (Fs fs2)) := hz0q (zds HO2.out fun b hb => Below.heap_setCell w5 ⟨q, 0, none⟩ (.string rest2) b (fun e => by
    have u1 := D4.out.lt;have u2 := (HO2.out.lt b hb).1;have e : b = q := e
    omega))
   obtain ⟨w6, hw6⟩ : ∃ w6, w5.setCell ⟨q, 0, none⟩ (.string rest2) = w6 := ⟨_, rfl⟩;have HW6 := hz0q hw6;rw [hw6] at HD6 KD6 BL6 HO16 HO26;clear hw6;go_upto_region 15 with fail;rw [<- hrest2, HW6.out];have HCE := hz0q HF.out.2.2;clear b0 f0 D3 KD3 BL3 D4 KD4 D5 KD5 BL5 HO1 HO2 HW6 hrest2 HD1 HF;go_wp2_with fail
   go_loopw [99] (fun s99 wr => ∃ (j : Nat) (Ad : Option Addr) (cd : Nat) (fsd : List (Int × Int)), s99 = .int .i64 j /\ j <= n2 /\ Hid (DecM base wr q rest2 a k1 p false false (nf + j) Ad cd fsd) /\ Hid (zi w wr) /\ Hid (Below base w wr) /\ Hid (wr.ownsRow w.heap.size 21 1 (.slice Az zs.length cz) zs.length (Rs zs)) /\ Hid (wr.ownsRow w4.heap.size 128 2 (.slice A2 n2 c2) n2 (Fs fs2)) /\ Hid (∀ b, (Value.slice Ad (nf + j) cd).ownBlock = some b -> (Value.slice A2 n2 c2).ownBlock ≠ some b)) (fun s99 _ => n2 - (intOf s99).toNat)
   case atStart => exact ⟨0, A, c, fs, rfl, Nat.zero_le _, HD6, KD6, BL6, HO16, HO26, HAP⟩
   case round =>
    obtain ⟨j, Ad, cd, fsd, rfl, hj, HDR, HKR, HBR, HZR, HFR2, HAR⟩ := hrel;obtain ⟨wo, rfl⟩ : ∃ wo, wo = wr := ⟨wr, rfl⟩
    by_cases hlt : j < n2
    ·have hji : (j : Int) < (n2 : Int) := (by omega);obtain ⟨A2', c2', hv2, _, _, hrd2⟩ := RdK.of_own HFR2.out;injection hv2 with hv2a _ hv2c;subst hv2a hv2c;obtain ⟨b3, o3, rfl, _, hcl⟩ := hrd2.at_ (by decide) (by omega);obtain ⟨xy, hxy⟩ : ∃ xy, fs2[j]? = some xy := ⟨_, List.getElem?_eq_getElem (by rw [HF2.out]; exact hlt)⟩;obtain ⟨x, y⟩ := xy;have c0 := hcl _ _ (zlq hxy).1;have c1 := hcl _ _ (zlq hxy).2;rw [<- Nat.add_assoc] at c1;obtain ⟨Wb, hWb⟩ : ∃ Wb, wo.alloc (.cells #[.int .i64 x, .int .i64 y] 128) = Wb := ⟨_, rfl⟩;obtain ⟨bx, hbx⟩ : ∃ bx, wo.heap.size = bx := ⟨_, rfl⟩;obtain ⟨sx, hsx⟩ : ∃ sx, IntKind.i64.wrap ((fr : Int) + x) = sx := ⟨_, rfl⟩;have hxb : Wb.heap[bx]? = some (.cells #[.int .i64 x, .int .i64 y] 128 (0, 0)) := (by rw [<- hWb, <- hbx]; exact zj _ _ _);have hbb : Below wo.heap.size wo Wb := (by rw [<- hWb]; exact (Below.refl _ _).alloc (Nat.le_refl _) _);have HSB : Hid (Wb.cell? ⟨bx, 0, none⟩ = some (.int .i64 x) /\ Wb.cell? ⟨bx, 1, none⟩ = some (.int .i64 y)) := ⟨za hxb 0 rfl, za hxb 1 rfl⟩;have HS0 : Hid (Wb.drew.cell? ⟨bx, 0, none⟩ = some (.int .i64 x) /\ Wb.drew.cell? ⟨bx, 1, none⟩ = some (.int .i64 y)) := HSB;obtain ⟨W1, hW1⟩ : ∃ W1, W1 = (Wb.alloc (.cells #[.int .i64 sx, .int .i64 y] 128)).drew := ⟨_, rfl⟩;have hbw1 : Below Wb.heap.size Wb W1 := (by rw [hW1]; exact zb ((Below.refl _ _).alloc (Nat.le_refl _) _) (Drew.to ⟨1, rfl⟩));have HBW : Hid (Below wo.heap.size wo W1) := hz0q (zb hbb hbw1);have HS1 : Hid (W1.cell? ⟨bx, 0, none⟩ = some (.int .i64 x) /\ W1.cell? ⟨bx, 1, none⟩ = some (.int .i64 y)) := ⟨(hbw1.cell (zc0 HSB.out.1)).trans HSB.out.1, (hbw1.cell (zc0 HSB.out.2)).trans HSB.out.2⟩
     have hdb := HDR.out.below hbb;have HD1W := hz0q (HDR.out.below HBW.out);have HXO := hz0q HD1W.out.own;have hrd1 : RdK W1 (some ⟨Wb.heap.size, 0, none⟩) 1 2 [.int .i64 sx, .int .i64 y] := (by rw [hW1]; exact (RdK.new Wb _ 1 [.int .i64 sx, .int .i64 y] rfl).below (by decide) (Drew.to ⟨1, rfl⟩));have hbs1 : base <= W1.heap.size := Nat.le_trans (Nat.le_trans hbw HBR.out.size) HBW.out.size;have HNB : Hid ((Value.slice Ad (nf + j) cd).ownBlock ≠ some bx) := hz0q (fun e => by have := (HDR.out.own.lt bx e).2; omega);have HNQ : Hid (bx ≠ q) := hz0q (fun e => by have := HDR.out.lt; omega);have d6 := za hdb.box 6 rfl;have d61 := za HD1W.out.box 6 rfl;have HW1 := hz0q hW1;have hjn : nf + j <= 1000000 := (by omega);clear hcl hrd2 hxy hxb hbb hbw1 hW1 hdb;go_upto_region 18 with fail;refine wp_region_held_drew (S := fun w' => w'.cell? ⟨bx, 0, none⟩ = some (.int .i64 x) /\ w'.cell? ⟨bx, 1, none⟩ = some (.int .i64 y)) (by kernel_rfl) (HS0.out) (fun hH0 => ?_);refine wpAnyH_take (i := 0) (v := .pointer (some ⟨q, 0, none⟩)) rfl (by kernel_rfl) (by kernel_rfl) (by kernel_rfl) (fun _ _ _ h => h) (Or.inl ⟨by kernel_rfl, ?_⟩) hH0 ?_
     ·intro w hSw;obtain ⟨s1, s2⟩ := hSw;go_simp
      all_goals try with_reducible rfl
     try simp only [gA, gB, gC, Act.put, gD, gE, gF]
     refine wpAnyH_take (i := 1) (v := .pointer (some ⟨q, 0, none⟩)) rfl (by kernel_rfl) (by kernel_rfl) (by kernel_rfl) (fun _ _ _ h => h) (Or.inl ⟨by kernel_rfl, ?_⟩) hH0 ?_
     ·intro w hSw;obtain ⟨s1, s2⟩ := hSw;go_simp
      all_goals try with_reducible rfl
     try simp only [gA, gB, gC, Act.put, gD, gE, gF]
     refine wpAnyH_take (i := 2) (v := .pointer (some ⟨q, 0, none⟩)) rfl (by kernel_rfl) (by kernel_rfl) (by kernel_rfl) (fun _ _ _ h => h) (Or.inl ⟨by kernel_rfl, ?_⟩) hH0 ?_
     ·intro w hSw;obtain ⟨s1, s2⟩ := hSw;go_simp
      all_goals try with_reducible rfl
     try simp only [gA, gB, gC, Act.put, gD, gE, gF]
     refine wpAnyH_take (i := 3) (v := .pointer (some ⟨q, 6, none⟩)) rfl (by kernel_rfl) (by kernel_rfl) (by kernel_rfl) (fun _ _ _ h => h) (Or.inl ⟨by kernel_rfl, ?_⟩) hH0 ?_
     ·intro w hSw;obtain ⟨s1, s2⟩ := hSw;go_simp
      all_goals try with_reducible rfl
     try simp only [gA, gB, gC, Act.put, gD, gE, gF]
     refine wpAnyH_take (i := 5) (v := .int .i64 fr) rfl (by kernel_rfl) (by kernel_rfl) (by kernel_rfl) (fun _ _ _ h => h) (Or.inl ⟨by kernel_rfl, ?_⟩) hH0 ?_
     ·intro w hSw;obtain ⟨s1, s2⟩ := hSw;go_simp
      all_goals try with_reducible rfl
     try simp only [gA, gB, gC, Act.put, gD, gE, gF]
     refine wpAnyH_take (i := 6) (v := .pointer (some ⟨bx, 0, none⟩)) rfl (by kernel_rfl) (by kernel_rfl) (by kernel_rfl) (fun _ _ _ h => h) (Or.inl ⟨by kernel_rfl, ?_⟩) hH0 ?_
     ·intro w hSw;obtain ⟨s1, s2⟩ := hSw;go_simp
      all_goals try with_reducible rfl
     try simp only [gA, gB, gC, Act.put, gD, gE, gF]
     refine wpAnyH_take (i := 7) (v := .int .i64 x) rfl (by kernel_rfl) (by kernel_rfl) (by kernel_rfl) (fun _ _ _ h => h) (Or.inl ⟨by kernel_rfl, ?_⟩) hH0 ?_
     ·intro w hSw;obtain ⟨s1, s2⟩ := hSw;go_simp
      all_goals try with_reducible rfl
     try simp only [gA, gB, gC, Act.put, gD, gE, gF]
     refine wpAnyH_take (i := 8) (v := .int .i64 sx) rfl (by kernel_rfl) (by kernel_rfl) (by kernel_rfl) (fun _ _ _ h => h) (Or.inl ⟨by kernel_rfl, ?_⟩) hH0 ?_
     ·intro w hSw;obtain ⟨s1, s2⟩ := hSw;go_simp
      all_goals try with_reducible rfl
     try simp only [gA, gB, gC, Act.put, gD, gE, gF]
     refine wpAnyH_take (i := 9) (v := .pointer (some ⟨bx, 1, none⟩)) rfl (by kernel_rfl) (by kernel_rfl) (by kernel_rfl) (fun _ _ _ h => h) (Or.inl ⟨by kernel_rfl, ?_⟩) hH0 ?_
     ·intro w hSw;obtain ⟨s1, s2⟩ := hSw;go_simp
      all_goals try with_reducible rfl
     try simp only [gA, gB, gC, Act.put, gD, gE, gF]
     refine wpAnyH_take (i := 10) (v := .int .i64 y) rfl (by kernel_rfl) (by kernel_rfl) (by kernel_rfl) (fun _ _ _ h => h) (Or.inl ⟨by kernel_rfl, ?_⟩) hH0 ?_
     ·intro w hSw;obtain ⟨s1, s2⟩ := hSw;go_simp
      all_goals try with_reducible rfl
     try simp only [gA, gB, gC, Act.put, gD, gE, gF]
     refine wpAnyH_take (i := 11) (v := .agg #[.int .i64 sx, .int .i64 y]) rfl (by kernel_rfl) (by kernel_rfl) (by kernel_rfl) (fun _ _ _ h => h) (Or.inl ⟨by kernel_rfl, ?_⟩) hH0 ?_
     ·intro w hSw;obtain ⟨s1, s2⟩ := hSw;go_simp
      all_goals try with_reducible rfl
     try simp only [gA, gB, gC, Act.put, gD, gE, gF]
     refine wpAnyH_ready (rs := [4, 12]) (by kernel_rfl) (by simp) ?_;refine AllReadyH.cons rfl (fun K hK => ?_) (AllReadyH.cons rfl (fun K hK => ?_) AllReadyH.nil)
     ·go_simp
      refine hK.out _ _ (by first | exact HS0.out | exact HS1.out) (fun hH1 => ?_)
      clear hK K hH0;try simp only [gA, gB, gC, Act.put, gD, gE, gF]
      refine wpAnyH_ready (rs := [12]) (by kernel_rfl) (by simp) ?_;refine AllReadyH.cons rfl (fun K hK => ?_) AllReadyH.nil;go_simp
      rw [<- HW1.out];refine hK.out _ _ (HS1.out) (fun hH2 => ?_);clear hK K hH1;try simp only [gA, gB, gC, Act.put, gD, gE, gF]
      refine wpAnyH_ready (rs := [13]) (by kernel_rfl) (by simp) ?_;refine AllReadyH.cons rfl (fun K hK => ?_) AllReadyH.nil;refine zen za2 _ rfl (.tmp 107) (.tmp 115) rfl base rfl HXO.out rfl hrd1 (zbs _ _) (by omega) (by decide) hbs1 ?_;intro A5 c5 w9 hown9 hg9 hat9;have hS9 : w9.cell? ⟨bx, 0, none⟩ = some (.int .i64 x) /\ w9.cell? ⟨bx, 1, none⟩ = some (.int .i64 y) := ⟨by first | exact hg9.cell HS1.out.1 HNB.out | exact hg9.cell HS1.out.1 (Ne.symm HNB.out), by first | exact hg9.cell HS1.out.2 HNB.out | exact hg9.cell HS1.out.2 (Ne.symm HNB.out)⟩;refine hK.out _ _ (hS9) (fun hH3 => ?_);clear hK K hH2;try simp only [gA, gB, gC, Act.put, gD, gE, gF]
      refine wpAnyH_take (i := 14) (v := .pointer (some ⟨q, 0, none⟩)) rfl (by kernel_rfl) (by kernel_rfl) (by kernel_rfl) (fun _ _ _ h => h) (Or.inl ⟨by kernel_rfl, ?_⟩) hH3 ?_
      ·intro w hSw;obtain ⟨s1, s2⟩ := hSw;go_simp
       all_goals try with_reducible rfl
      try simp only [gA, gB, gC, Act.put, gD, gE, gF]
      refine wpAnyH_take (i := 15) (v := .pointer (some ⟨q, 6, none⟩)) rfl (by kernel_rfl) (by kernel_rfl) (by kernel_rfl) (fun _ _ _ h => h) (Or.inl ⟨by kernel_rfl, ?_⟩) hH3 ?_
      ·intro w hSw;obtain ⟨s1, s2⟩ := hSw;go_simp
       all_goals try with_reducible rfl
      try simp only [gA, gB, gC, Act.put, gD, gE, gF]
      refine wpAnyH_ready (rs := [16]) (by kernel_rfl) (by simp) ?_;refine AllReadyH.cons rfl (fun K hK => ?_) AllReadyH.nil;have hb9 := (hg9.block q HD1W.out.lt (fun e => HD1W.out.ne q e.symm rfl)).trans HD1W.out.box;have hcw := za hb9 6 rfl;have hfw := zc hb9 6;go_simp
      refine hK.out _ _ (⟨(World.cell?_setCell_other _ _ _ _ (by intro e; injection e with e; exact HNQ.out e.symm)).trans hS9.1, (World.cell?_setCell_other _ _ _ _ (by intro e; injection e with e; exact HNQ.out e.symm)).trans hS9.2⟩) (fun hH4 => ?_);clear hK K hH3;try simp only [gA, gB, gC, Act.put, gD, gE, gF]
      refine wpAnyH_done (by kernel_rfl) ?_ _;have hfn := HDR.out.fault HBW.out (Nat.le_trans hbw HBR.out.size) hown9 hg9 hat9 HFR2.out HAR.out;have HN1 := hz0q hfn.1;have HN2 := hz0q (HKR.out.trans hfn.2.1);have HN3 := hz0q (HBR.out.trans hfn.2.2.1);have HN4 := hz0q (za0 HZR.out hfn.2.1 (by decide) (by decide));have HN5 := hz0q hfn.2.2.2.1;have HN6 := hz0q hfn.2.2.2.2;clear hH4 hfn hown9 hg9 hat9 hS9 hb9 hcw hfw hrd1 hbs1 d6 d61 c0 c1;go_wp2;go_roundw
      case rel => exact ⟨j + 1, A5, c5, _, by go_num, by omega, HN1, HN2, HN3, HN4, HN5, HN6⟩
      case measure => simp [intOf] <;> omega
     ·go_simp
      rw [<- HW1.out];refine hK.out _ _ (HS1.out) (fun hH1 => ?_);clear hK K hH0;try simp only [gA, gB, gC, Act.put, gD, gE, gF]
      refine wpAnyH_ready (rs := [4]) (by kernel_rfl) (by simp) ?_;refine AllReadyH.cons rfl (fun K hK => ?_) AllReadyH.nil;go_simp
      refine hK.out _ _ (by first | exact HS0.out | exact HS1.out) (fun hH2 => ?_)
      clear hK K hH1;try simp only [gA, gB, gC, Act.put, gD, gE, gF]
      refine wpAnyH_ready (rs := [13]) (by kernel_rfl) (by simp) ?_;refine AllReadyH.cons rfl (fun K hK => ?_) AllReadyH.nil;refine zen za2 _ rfl (.tmp 107) (.tmp 115) rfl base rfl HXO.out rfl hrd1 (zbs _ _) (by omega) (by decide) hbs1 ?_;intro A5 c5 w9 hown9 hg9 hat9;have hS9 : w9.cell? ⟨bx, 0, none⟩ = some (.int .i64 x) /\ w9.cell? ⟨bx, 1, none⟩ = some (.int .i64 y) := ⟨by first | exact hg9.cell HS1.out.1 HNB.out | exact hg9.cell HS1.out.1 (Ne.symm HNB.out), by first | exact hg9.cell HS1.out.2 HNB.out | exact hg9.cell HS1.out.2 (Ne.symm HNB.out)⟩;refine hK.out _ _ (hS9) (fun hH3 => ?_);clear hK K hH2;try simp only [gA, gB, gC, Act.put, gD, gE, gF]
      refine wpAnyH_take (i := 14) (v := .pointer (some ⟨q, 0, none⟩)) rfl (by kernel_rfl) (by kernel_rfl) (by kernel_rfl) (fun _ _ _ h => h) (Or.inl ⟨by kernel_rfl, ?_⟩) hH3 ?_
      ·intro w hSw;obtain ⟨s1, s2⟩ := hSw;go_simp
       all_goals try with_reducible rfl
      try simp only [gA, gB, gC, Act.put, gD, gE, gF]
      refine wpAnyH_take (i := 15) (v := .pointer (some ⟨q, 6, none⟩)) rfl (by kernel_rfl) (by kernel_rfl) (by kernel_rfl) (fun _ _ _ h => h) (Or.inl ⟨by kernel_rfl, ?_⟩) hH3 ?_
      ·intro w hSw;obtain ⟨s1, s2⟩ := hSw;go_simp
       all_goals try with_reducible rfl
      try simp only [gA, gB, gC, Act.put, gD, gE, gF]
      refine wpAnyH_ready (rs := [16]) (by kernel_rfl) (by simp) ?_;refine AllReadyH.cons rfl (fun K hK => ?_) AllReadyH.nil;have hb9 := (hg9.block q HD1W.out.lt (fun e => HD1W.out.ne q e.symm rfl)).trans HD1W.out.box;have hcw := za hb9 6 rfl;have hfw := zc hb9 6;go_simp
      refine hK.out _ _ (⟨(World.cell?_setCell_other _ _ _ _ (by intro e; injection e with e; exact HNQ.out e.symm)).trans hS9.1, (World.cell?_setCell_other _ _ _ _ (by intro e; injection e with e; exact HNQ.out e.symm)).trans hS9.2⟩) (fun hH4 => ?_);clear hK K hH3;try simp only [gA, gB, gC, Act.put, gD, gE, gF]
      refine wpAnyH_done (by kernel_rfl) ?_ _;have hfn := HDR.out.fault HBW.out (Nat.le_trans hbw HBR.out.size) hown9 hg9 hat9 HFR2.out HAR.out;have HN1 := hz0q hfn.1;have HN2 := hz0q (HKR.out.trans hfn.2.1);have HN3 := hz0q (HBR.out.trans hfn.2.2.1);have HN4 := hz0q (za0 HZR.out hfn.2.1 (by decide) (by decide));have HN5 := hz0q hfn.2.2.2.1;have HN6 := hz0q hfn.2.2.2.2;clear hH4 hfn hown9 hg9 hat9 hS9 hb9 hcw hfw hrd1 hbs1 d6 d61 c0 c1;go_wp2;go_roundw
      case rel => exact ⟨j + 1, A5, c5, _, by go_num, by omega, HN1, HN2, HN3, HN4, HN5, HN6⟩
      case measure => simp [intOf] <;> omega
    ·obtain rfl : j = n2 := (by omega);have hji : ¬ ((j : Int) < (j : Int)) := by omega
     cases ok with
     | true =>
      obtain rfl : er = 0 := her.out;have HF : Hid (TakeP base w q rest a k p g false (.returned (.tuple #[.slice Az zs.length cz, .int .i64 0])) wo) := ⟨zs, 0, k1, false, rest2, false, nf + j, Ad, cd, fsd, Az, cz, rfl, HZR.out, HDR.out, HKR.out, HBR.out, by omega, ⟨hk1, hk5⟩, rfl, .inr ⟨by have := HCE.out.1; simpa using this, k1, bs rest1, n, HCE.out.2, HN.out, HZS.out, rfl, rfl, by rw [<- HOK.out, if_pos rfl]; exact HR2.out, by rw [<- HOK.out]; rfl⟩⟩;go_wp2;go_returns;exact HF.out
     | false =>
      obtain rfl : er = 17 := her.out;have e0 := za HDR.out.box 0 rfl;have e5 := za HDR.out.box 5 rfl;have ef0 := zc HDR.out.box 0;have ef5 := zc HDR.out.box 5;have P1 := HDR.out.put (rest' := ⟨#[]⟩) (all' := a) (k' := k1) (p' := p) (g' := false) (ov' := false) 0 (.string ⟨#[]⟩) rfl;have P2 := P1.put (rest' := ⟨#[]⟩) (all' := a) (k' := k1) (p' := p) (g' := false) (ov' := true) 5 (.bool true) rfl;have PK := (HKR.out.trans (zi.set HDR.out.box 0 (.string ⟨#[]⟩))).trans (zi.set P1.box 5 (.bool true));have PB := (HBR.out.setCell (p := ⟨q, 0, none⟩) HDR.out.tb (.string ⟨#[]⟩)).setCell (p := ⟨q, 5, none⟩) HDR.out.tb (.bool true);have PO := za0 (za0 HZR.out (zi.set HDR.out.box 0 (.string ⟨#[]⟩)) (by decide) (by decide)) (zi.set P1.box 5 (.bool true)) (by decide) (by decide);have HF : Hid (TakeP base w q rest a k p g false (.returned (.tuple #[.slice Az zs.length cz, .int .i64 17])) ((wo.setCell ⟨q, 0, none⟩ (.string ⟨#[]⟩)).setCell ⟨q, 5, none⟩ (.bool true))) := ⟨zs, 17, k1, false, ⟨#[]⟩, true, nf + j, Ad, cd, fsd, Az, cz, rfl, PO, P2, PK, PB, by (have : (⟨#[]⟩ : ByteArray).size = 0 := rfl); omega, ⟨hk1, hk5⟩, rfl, .inr ⟨by have := HCE.out.1; simpa using this, k1, bs rest1, n, HCE.out.2, HN.out, HZS.out, rfl, rfl, by rw [<- HOK.out, if_neg (by simp)]; rfl, by rw [<- HOK.out]; rfl⟩⟩;clear P1 P2 PK PB PO;go_wp2;go_returns;exact HF.out
end
end
section
open Go.RowKit
theorem zik {k p : Int} {g : Bool} {r : List UInt8} {zs : List Int} {k' : Int} {g' : Bool} {r' : List UInt8} {ov' : Bool} (h : TakeR k p g r true zs k' g' r' ov') : zs = zb9 k p g r := by
 rcases h with ⟨_, h, _⟩ | ⟨_, k1, r1, n, h1, h2, h3, _⟩
 ·cases h
 ·rw [if_pos rfl] at h2;subst h2;rw [List.take_of_length_le (Nat.le_refl _)] at h3;rw [h3];unfold zb9
  cases g with
  | true =>
   rw [if_pos rfl] at h1 ⊢;rw [<- h1]
  | false =>
   rw [if_neg (by simp)] at h1 ⊢;injection h1 with e1 e2;subst e1 e2;rfl
def okW (k p : Int) (g : Bool) (r : List UInt8) : Bool := if g = true then (rdN (nextK (zas k r).1) p (zas k r).2).2 else (rdN (nextK k) p r).2
theorem takeR_ok {k p : Int} {g : Bool} {r : List UInt8} {zs : List Int} {k' : Int} {g' : Bool} {r' : List UInt8} {ov' : Bool} (h : TakeR k p g r true zs k' g' r' ov') : ov' = !okW k p g r := by
 rcases h with ⟨_, h, _⟩ | ⟨_, k1, r1, n, h1, h2, h3, _, _, _, h4⟩
 ·cases h
 ·rw [if_pos rfl] at h2;subst h2;rw [List.take_of_length_le (Nat.le_refl _)] at h4;rw [h4];unfold okW
  cases g with
  | true =>
   rw [if_pos rfl] at h1 ⊢;rw [<- h1]
  | false =>
   rw [if_neg (by simp)] at h1 ⊢;injection h1 with e1 e2;subst e1 e2;rfl
theorem takeR_feed {k0 p : Int} {g0 : Bool} {all : List UInt8} {out : List Int} {k : Int} {g : Bool} {r : List UInt8} (hs : Strm k0 p g0 all out k g r false) {zs : List Int} {k' : Int} {g' : Bool} {r' : List UInt8} {ov' : Bool} (h : TakeR k p g r false zs k' g' r' ov') : Strm k0 p g0 all (out ++ zs) k' g' r' ov' := by
 rcases h with ⟨rfl, _, _, rfl, rfl, rfl, rfl, rfl⟩ | ⟨hc, k1, r1, n, h1, h2, rfl, rfl, rfl, rfl, rfl⟩
 ·simpa using hs
 ·rw [if_neg (by simp)] at h2;subst h2
  cases g with
  | true =>
   rw [if_pos rfl] at h1;have ho : ¬ OpenS r := fun h => hc ⟨rfl, rfl, h⟩;have := hs.mark ho;rw [<- h1] at this;exact this.take (zj7 _ _)
  | false =>
   rw [if_neg (by simp)] at h1;injection h1 with e1 e2;subst e1 e2;exact hs.take (zj7 _ _)
theorem fclone_any (A : Option Addr) (n c : Nat) (xs : List Value) (w : World) (hrd : RdK w A n 2 xs) (h1 : ∀ u ∈ xs, u.oneCell' = true) (h2 : n <= 1000000) (hA : A = none -> n = 0 /\ c = 0) :
  Calls Tryz.prog 86 #[.slice A n c] w fun e w' => ∃ v, e = .returned v /\ Below w.heap.size w w' := by
 cases A with
 | none =>
  obtain ⟨rfl, rfl⟩ := hA rfl;clear hrd hA;have hcmp := fun w => Lib.run_eql_slice_nil (P := Tryz.prog) w 47 128 none 0 0 0 0 Tryz.underlying47;simp only [Option.isNone] at hcmp;go_enter Tryz.func86, Tryz.ntmps86;go_wp2;go_returns;exact ⟨_, rfl, Below.refl _ _⟩
 | some a =>
  have HB0 : Hid (Below w.heap.size w (w.alloc (.cells #[] 128))) := (Below.refl _ _).alloc (Nat.le_refl _) _;have HRD := hz0q (hrd.below (by decide) HB0.out);have hown : (w.alloc (.cells #[] 128)).ownsRow w.heap.size 128 2 (.slice (some ⟨w.heap.size, 0, none⟩) 0 0) 0 [] := ⟨rfl, .inr ⟨w.heap.size, 0, #[], rfl, Nat.le_refl _, zj w _ _, Nat.le_refl _, Nat.zero_le _, rfl, rfl⟩⟩;clear hrd hA;have hcmp := fun w => Lib.run_eql_slice_nil (P := Tryz.prog) w 47 128 (some a) n c 0 0 Tryz.underlying47;simp only [Option.isNone] at hcmp;go_enter Tryz.func86, Tryz.ntmps86;go_wp2_with (at_builtin; refine zaz za2 _ rfl _ _ rfl w.heap.size rfl hown rfl HRD.out h1 (by omega) (by decide) HB0.out.size ?_)
  intro A' c' w' hown' hg hat;have HB : Hid (Below w.heap.size w w') := HB0.out.grown hg HB0.out.size (fun k hk => (hown.lt k hk).1);clear hown' hg hat hown;go_wp2;go_returns;exact ⟨_, rfl, HB.out⟩
theorem Fs_one (fs : List (Int × Int)) : ∀ u ∈ Fs fs, u.oneCell' = true := by
 intro u hu;simp only [Fs, List.mem_flatMap, List.mem_cons, List.not_mem_nil, or_false] at hu;obtain ⟨f, _, rfl | rfl⟩ := hu <;> rfl
section
variable {w : World} {q base : Nat} {rest : ByteArray} {all k p : Int} {g ov : Bool} {nf c : Nat} {A : Option Addr} {fs : List (Int × Int)}
theorem faults_any (h : DecM base w q rest all k p g ov nf A c fs) (hn : nf <= 1000000) :
  Calls Tryz.prog 40 #[.pointer (some ⟨q, 0, none⟩)] w fun e w' => (∃ v, e = .returned v) /\ Below w.heap.size w w' := by
 obtain ⟨A', c', hv, _, _, hrd⟩ := RdK.of_own h.own;injection hv with e1 _ e3;subst e1 e3
 have C := fclone_any A nf c (Fs fs) w hrd (Fs_one fs) hn (fun e => by
  subst e;rcases h.own.2 with ⟨hv, h0⟩ | ⟨g, cap, cur, hv, _⟩
  ·injection hv with _ _ e3;exact ⟨h0, e3⟩
  ·injection hv with e1
   cases e1)
 have b6 := za h.box 6 rfl;clear h hrd;go_enter Tryz.func40, Tryz.ntmps40;go_wp2_with fail;refine C.mono ?_;rintro e w' ⟨v, rfl, hb⟩;go_wp2;go_returns;exact ⟨⟨_, rfl⟩, hb⟩
end
def DecT (base : Nat) (w : World) (q : Nat) (k0 p : Int) (g0 : Bool) (all : List UInt8) (out : List Int) : Prop :=
 ∃ (rest : ByteArray) (a : Nat) (k : Int) (g ov : Bool) (nf : Nat) (A : Option Addr) (c : Nat) (fs : List (Int × Int)), DecM base w q rest a k p g ov nf A c fs /\ nf + rest.size <= a /\ a <= all.length /\ 1 <= k /\ k <= 5 /\ Strm k0 p g0 all out k g (bs rest) ov
def zmz (base : Nat) (w : World) (q : Nat) (k0 p : Int) (g0 : Bool) (all : List UInt8) (out : List Int) (s : List UInt8) (e : Ending) (w' : World) : Prop :=
 ∃ zs er A c, e = .returned (.tuple #[.slice A zs.length c, .int .i64 er]) /\ w'.ownsRow w.heap.size 21 1 (.slice A zs.length c) zs.length (Rs zs) /\ DecT base w' q k0 p g0 (all ++ s) (out ++ zs) /\ zi w w' /\ Below base w w'
section
variable {w : World} {q base : Nat} {k0 p : Int} {g0 : Bool} {all : List UInt8} {out : List Int}
theorem sfeed_any (h : DecT base w q k0 p g0 all out) (hp1 : 1 <= p) (hp3 : p <= 3) (hU : ∀ W, Below base w W -> RowsU W) (hbw : base <= w.heap.size) (Al : Option Addr) (cl : Nat) (s : ByteArray) (hs : Rd w Al 1 [.string s]) (hlen : all.length + s.size <= 1000000) :
  Calls Tryz.prog 11 #[.pointer (some ⟨q, 0, none⟩), .slice Al 1 cl] w (zmz base w q k0 p g0 all out (bs s)) := by
 obtain ⟨rest, a, k, g, ov, nf, A, c, fs, hd, hle, ha, hk1, hk5, hst⟩ := h;have b5 := za hd.box 5 rfl
 cases ov with
 | true =>
  have HF : Hid (zmz base w q k0 p g0 all out (bs s) (.returned (.tuple #[.slice none 0 0, .int .i64 21])) w) := ⟨[], 21, none, 0, rfl, World.ownsRow_nil _ _ _ _, ⟨rest, a, k, g, true, nf, A, c, fs, hd, hle, by rw [List.length_append]; omega, hk1, hk5, by rw [List.append_nil]; exact hst.isOver _⟩, zi.refl _, Below.refl _ _⟩;clear hd hst hU;go_enter Tryz.func11, Tryz.ntmps11;go_wp2;go_returns;exact HF.out
 | false =>
  have AD := zmx hd Al cl s hs (by omega) (by omega);have HU := hz0q hU;have HST := hz0q (hst.more (bs s));clear hd hst hU;go_enter Tryz.func11, Tryz.ntmps11;go_wp2_with fail;refine AD.mono ?_;rintro e w2 ⟨rfl, hd2, hk2, hb2⟩;have hsz : (rest ++ s).size = rest.size + s.size := ByteArray.size_append;have TK := zhw hd2 hk1 hk5 hp1 hp3 (fun W hW => HU.out W (hb2.trans hW)) (by omega) (by omega) (Nat.le_trans hbw hb2.size) false;have HK2 := hz0q hk2;have HB2 := hz0q hb2;clear AD hd2 hk2 hb2 b5;go_wp2_with fail;refine TK.mono ?_;intro e w3 hf;obtain ⟨zs, er, k', g', rest', ov', nf', A', c', fs', Az, cz, rfl, ho, hd3, hk3, hb3, hle3, ⟨hk1', hk5'⟩, heE, hR⟩ := hf;clear heE;have hbs : bs (rest ++ s) = bs rest ++ bs s := (by simp [bs]);rw [hbs] at hR;have HF : Hid (zmz base w q k0 p g0 all out (bs s) (.returned (.tuple #[.slice Az zs.length cz, .int .i64 er])) w3) := ⟨zs, er, Az, cz, rfl, zba ho HB2.out.size, ⟨rest', a + s.size, k', g', ov', nf', A', c', fs', hd3, hle3, by rw [List.length_append, ze]; omega, hk1', hk5', takeR_feed HST.out hR⟩, HK2.out.trans hk3, HB2.out.trans hb3⟩;clear TK ho hd3 hk3 hb3 hR;go_wp2;go_returns;exact HF.out
def zj8 (base : Nat) (w : World) (k0 p : Int) (g0 : Bool) (all : List UInt8) (out : List Int) (e : Ending) (w' : World) : Prop :=
 ∃ zs er A c, e = .returned (.tuple #[.slice A zs.length c, .int .i64 er]) /\ w'.ownsRow w.heap.size 21 1 (.slice A zs.length c) zs.length (Rs zs) /\ out ++ zs = zb9 k0 p g0 all /\ zi w w' /\ Below base w w'
theorem sclose_any (h : DecT base w q k0 p g0 all out) (hp1 : 1 <= p) (hp3 : p <= 3) (hU : ∀ W, Below base w W -> RowsU W) (hbw : base <= w.heap.size) (hlen : all.length <= 1000000) :
  Calls Tryz.prog 13 #[.pointer (some ⟨q, 0, none⟩)] w (zj8 base w k0 p g0 all out) := by
 obtain ⟨rest, a, k, g, ov, nf, A, c, fs, hd, hle, ha, hk1, hk5, hst⟩ := h;have b5 := za hd.box 5 rfl
 cases ov with
 | true =>
  have hcl := hst.close;rw [if_pos rfl] at hcl;have HF : Hid (zj8 base w k0 p g0 all out (.returned (.tuple #[.slice none 0 0, .int .i64 21])) w) := ⟨[], 21, none, 0, rfl, World.ownsRow_nil _ _ _ _, hcl, zi.refl _, Below.refl _ _⟩;clear hd hst hU hcl;go_enter Tryz.func13, Tryz.ntmps13;go_wp2;go_returns;exact HF.out
 | false =>
  have TK := zhw hd hk1 hk5 hp1 hp3 hU (by omega) (by omega) hbw true;have hcl := hst.close;rw [if_neg (by simp)] at hcl;have HCL := hz0q hcl;clear hd hst hU hcl;go_enter Tryz.func13, Tryz.ntmps13;go_wp2_with fail;refine TK.mono ?_;intro e w3 hf;obtain ⟨zs, er, k', g', rest', ov', nf', A', c', fs', Az, cz, rfl, ho, hd3, hk3, hb3, hle3, ⟨hk1', hk5'⟩, heE, hR⟩ := hf;clear heE;have hz := zik hR;have HF : Hid (zj8 base w k0 p g0 all out (.returned (.tuple #[.slice Az zs.length cz, .int .i64 er])) (w3.setCell ⟨q, 5, none⟩ (.bool true))) := ⟨zs, er, Az, cz, rfl, za0 ho (zi.set hd3.box 5 (.bool true)) (by decide) (by decide), by rw [hz]; exact HCL.out, hk3.trans (zi.set hd3.box 5 (.bool true)), hb3.setCell (p := ⟨q, 5, none⟩) hd3.tb _⟩;have c5 := za hd3.box 5 rfl;have f5 := zc hd3.box 5;clear TK ho hd3 hk3 hb3 hR hz b5;go_wp2;go_returns;exact HF.out
end
def znl (w : World) (k p : Int) (g : Bool) (s : List UInt8) (e : Ending) (w' : World) : Prop :=
 ∃ zs A c v2 k2, e = .returned (.tuple #[.slice A zs.length c, v2, .int .i64 k2, .int .i64 (if okW k p g s = true then 0 else 17)]) /\ w'.ownsRow w.heap.size 21 1 (.slice A zs.length c) zs.length (Rs zs) /\ zs = zb9 k p g s /\ Below w.heap.size w w'
theorem zij (k p : Int) (g : Bool) (hr : zcb k p = true) (s : ByteArray) (w : World) (hU : RowsU w) (hs : s.size <= 1000000) :
  Calls Tryz.prog 15 #[.int .i64 k, .int .i64 p, .bool g, .string s] w (znl w k p g (bs s)) := by
 have hk := (zbp k p).1 hr;have NW := snew_yes k p g w hr;obtain ⟨b0, hb0⟩ : ∃ b, b = w.heap.size := ⟨_, rfl⟩;have HUU : Hid (∀ W, Below b0 w W -> RowsU W) := fun W h => hU.below (by rw [hb0] at h; exact h);have HB0 := hz0q hb0;rw [<- hb0] at NW;clear hU hr hb0;go_enter Tryz.func15, Tryz.ntmps15;go_wp2_with fail;refine NW.mono ?_;rintro e w1 ⟨rfl, hd1, hb1⟩;have hba : Below w1.heap.size w1 (w1.alloc (.cells #[.string s] 9)) := (Below.refl _ _).alloc (Nat.le_refl _) _;have hb1s := hb1.size;have hbs1 : b0 <= w1.heap.size := (by rw [HB0.out]; exact hb1s);have AD := zmx (a := 0) (hd1.below hba) (some ⟨w1.heap.size, 0, none⟩) 1 s (Rd.new1 _ _ _) (by (have : (⟨#[]⟩ : ByteArray).size = 0 := rfl); omega) (by omega);have HBA : Hid (Below b0 w (w1.alloc (.cells #[.string s] 9))) := hb1.trans (hba.mono hbs1);have he : (⟨#[]⟩ : ByteArray) ++ s = s := (by apply ByteArray.ext; simp);rw [he] at AD;clear NW hd1 hb1 hba;go_wp2_with fail;refine AD.mono ?_;rintro e w2 ⟨rfl, hd2, hk2, hb2⟩;have HB2 := hz0q (HBA.out.trans hb2);have TK := zhw hd2 hk.1.1 hk.1.2 hk.2.1 hk.2.2 (fun W hW => HUU.out W (HB2.out.trans hW)) (by omega) (by omega) (by have := hk2.1; simp at this; omega) true;clear AD hd2 hk2 hb2;go_wp2_with fail;refine TK.mono ?_;intro e w3 hf;obtain ⟨zs, er, k', g', rest', ov', nf', A', c', fs', Az, cz, rfl, ho, hd3, hk3, hb3, hle3, ⟨hk1', hk5'⟩, her, hR⟩ := hf;have hov := takeR_ok hR;have hz := zik hR
 have HER : Hid (er = if okW k p g (bs s) = true then 0 else 17) := by
  show _ = _;rw [her, hov]
  cases okW k p g (bs s) <;> rfl
 have HZ := hz0q hz;have FA := fun W (hW : Below w3.heap.size w3 W) => faults_any (hd3.below hW) (by omega);have c2 := za hd3.box 2 rfl;have HB3 := hz0q (HB2.out.trans hb3);have HO3 := hz0q ho;have hsz3 : b0 <= w3.heap.size := (by have h0 := HB0.out; have h1 := hb3.size; have h2 := HB2.out.size; omega);have HW3 : Hid (w.heap.size <= w3.heap.size) := hz0q (by rw [<- HB0.out]; exact hsz3);have hbase2 : w.heap.size <= w2.heap.size := (by have := HB2.out.size; exact this);have HO3 := hz0q (zba ho hbase2);clear TK ho hd3 hk3 hb3 hR hov hz her hle3 hbase2 hsz3;go_upto_region 6 with fail
 go_cut [8, 9, 10, 11] from 12 (fun s8 s9 s10 s11 wx => ∃ v2 k2, s8 = .slice Az zs.length cz /\ s9 = v2 /\ s10 = .int .i64 k2 /\ s11 = .int .i64 er /\ Hid (Below w3.heap.size w3 wx))
 case first =>
  go_region_held3 (fun w' => w'.cell? ⟨b0, 2, none⟩ = some (.int .i64 k') /\ Below w3.heap.size w3 w') (first | exact zh8 c2 | assumption | (refine zmj ?_ hb5; assumption))
   (first | (go_at_call 40; refine (FA _ (by first | exact (zh8 c2).2 | assumption)).mono ?_; rintro e w5 ⟨⟨v2, rfl⟩, hb5⟩))
  all_goals
   have hk7 : w5.cell? ⟨b0, 2, none⟩ = some (.int .i64 k') /\ Below w3.heap.size w3 w5 := (by assumption);have HB8 := hz0q hk7.2;clear hk7;first | go_meet | (go_wp2; go_meet)
   case rel => exact ⟨v2, k', rfl, rfl, rfl, rfl, HB8⟩
 case rest =>
  obtain ⟨v2, k2, rfl, rfl, rfl, rfl, HB9⟩ := hcut
  have HF : ∀ v2, Hid (znl w k p g (bs s) (.returned (.tuple #[.slice Az zs.length cz, v2, .int .i64 k2, .int .i64 er])) wc) := fun v2 => ⟨zs, Az, cz, v2, k2, by rw [HER.out], zn HO3.out HB9.out, HZ.out, by
   have := HB3.out.trans (HB9.out.mono (by rw [HB0.out]; exact HW3.out));rw [HB0.out] at this
   exact this⟩
  go_wp2;go_returns;exact (HF _).out
end
section
open Go.RowKit
theorem zm8 (w : World) (hU : RowsU w) : Calls Tryz.prog 53 #[.int .i32 192] w fun e w' => e = .returned (.int .i64 2) /\ Below w.heap.size w w' := by
 obtain ⟨c0, c1, c2, c3, c4, c5, c6, c7, c8, c9, c10, c11⟩ := hU;have hx0 := tab0;have hx1 := tab1;have S := zaj 192 w;have hs : zaa 192 = true := (by decide);rw [hs] at S;go_enter Tryz.func53, Tryz.ntmps53;go_wp2_with fail;refine S.mono ?_;rintro e w' ⟨rfl, rfl⟩;go_wp2_with fail;refine wp_loop_rounds 3 ?_;rw [rounds_succ];go_wp2_with fail;rw [rounds_succ];go_wp2_with fail;go_returns;exact ⟨rfl, ((Below.refl _ w).alloc (Nat.le_refl _) _).alloc (by simp) _⟩
theorem put192 (base b : Nat) (cs : Array Value) (w : World) (hcs : cs.size = 2) (h : BldM 116 base b cs [] w) (hU : RowsU w) (hR : 0 < base) (hbw : base <= w.heap.size) :
  Calls Tryz.prog 54 #[.pointer (some ⟨b, 0, none⟩), .int .i32 192] w fun e w' => e = .returned (.tuple #[]) /\ (∃ cs', BldM 116 base b cs' [195, 128] w') /\ Below base w w' := by
 have LN := zm8 w hU;have HM := hz0q h;have HU := hz0q hU;clear h hU;go_enter Tryz.func54, Tryz.ntmps54;go_wp2_with fail;refine LN.mono ?_;rintro e w1 ⟨rfl, hb1⟩;obtain ⟨c0, c1, c2, c3, c4, c5, c6, c7, c8, c9, c10, c11⟩ := HU.out.below hb1
 have HM1 : Hid (BldM 116 base b cs [] w1) := ⟨(hb1.block b (Array.getElem?_eq_some_iff.1 HM.out.hx).1).trans HM.out.hx, HM.out.sz, HM.out.p, by
  obtain ⟨v, g1, g2, g3⟩ := HM.out.v
  exact ⟨v, g1, zl g2 hb1, g3⟩, HM.out.bb⟩
 have HB1 := hz0q (hb1.mono hbw);have HS1 : Hid (base <= w1.heap.size) := Nat.le_trans hbw hb1.size;clear LN hb1;have v1 : IntKind.i64.wrap 1 = 1 := (by decide);have v6 : IntKind.i64.wrap 6 = 6 := (by decide);have v3 : IntKind.i64.wrap 3 = 3 := (by decide);have vo : bits .or .i64 192 3 = 195 := (by decide);have vu : IntKind.u8.wrap 195 = 195 := (by decide);go_upto_region 1 with fail;go_still_tail 14, (by kernel_rfl)
 change wpList _ _ _ _ _ w1.drew;have HM2 : Hid (BldM 116 base b cs [] w1.drew) := ⟨HM1.out.hx, HM1.out.sz, HM1.out.p, HM1.out.v, HM1.out.bb⟩;have HB2 : Hid (Below base w w1.drew) := Below.drew HB1.out;have HS2 : Hid (base <= w1.drew.heap.size) := HS1.out;generalize w1.drew = w2 at HM2 HB2 HS2;go_wp2_with fail;refine (zal 116 base b cs [] 195 w2 HM2.out (by rw [hcs]; exact zce) (by decide) (by simp) HS2.out).mono ?_;rintro e w3 ⟨rfl, hp⟩;obtain ⟨cs3, h3, hs3, hk3, hb3⟩ := hp.kept (KeptB.refl _ _) (Below.refl _ _);rw [hcs] at hs3;have HM3 := hz0q h3;have HB3 := hz0q (HB2.out.trans hb3);have HS3 : Hid (base <= w3.heap.size) := Nat.le_trans HS2.out hb3.size;clear hp h3 hk3 hb3;go_wp2_with fail;refine wp_loop_rounds 2 ?_;rw [rounds_succ];go_wp2_with fail;refine (zal 116 base b cs3 [195] 128 w3 HM3.out (by rw [hs3]; exact zce) (by decide) (by simp) HS3.out).mono ?_;rintro e w4 ⟨rfl, hp⟩;obtain ⟨cs4, h4, hs4, hk4, hb4⟩ := hp.kept (KeptB.refl _ _) (Below.refl _ _);have HM4 := hz0q h4;have HB4 := hz0q (HB3.out.trans hb4);clear hp h4 hk4 hb4;go_wp2_with fail;rw [rounds_succ];go_wp2_with fail;go_end0;exact ⟨rfl, ⟨cs4, HM4.out⟩, HB4.out⟩
theorem enc192 (A : Option Addr) (c : Nat) (w : World) (hr : Rd w A 1 [.int .i32 192]) (hU : RowsU w) : Calls Tryz.prog 24 #[.slice A 1 c] w fun e w' => e = .returned (.tuple #[.string ⟨#[195, 128]⟩, .int .i64 0]) /\ Below w.heap.size w w' := by
 obtain ⟨b9, o9, rfl, hb9, hc9⟩ := hr.at_ (by omega);have cA := hc9 0 _ rfl;have hRl := hU.lt;obtain ⟨W1, hW1⟩ : ∃ W1, w.alloc (.cells #[.pointer none, .slice none 0 0] 116) = W1 := ⟨_, rfl⟩;obtain ⟨bx, hbx⟩ : ∃ bx, w.heap.size = bx := ⟨_, rfl⟩;have hx1 : W1.heap[bx]? = some (.cells #[.pointer none, .slice none 0 0] 116 (0, 0)) := (by rw [<- hW1, <- hbx]; exact zj _ _ _);have hb1 : Below w.heap.size w W1 := (by rw [<- hW1]; exact (Below.refl _ _).alloc (Nat.le_refl _) _);have HM : Hid (BldM 116 w.heap.size bx #[.pointer none, .slice none 0 0] [] W1) := hz0q ⟨hx1, by decide, .inl rfl, ⟨_, rfl, World.ownsRow_nil _ _ _ _, fun _ => rfl⟩, by rw [<- hbx]; exact Nat.le_refl _⟩;have cA1 : W1.cell? ⟨b9, o9, none⟩ = some (.int .i32 192) := (hb1.cell hb9).trans cA;have LN := zm8 W1 (hU.below hb1);have HU1 := hz0q (hU.below hb1);have HB1 := hz0q hb1;have HRL := hz0q hRl;clear hr hc9 cA hx1 hb1 hU hRl;go_enter Tryz.func24, Tryz.ntmps24;go_wp2_with fail;refine wp_loop_rounds 2 ?_;rw [rounds_succ];go_wp2_with fail;refine LN.mono ?_;rintro e w2 ⟨rfl, hb2⟩;have HB2 := hz0q (HB1.out.trans (hb2.mono HB1.out.size));have hM2 : BldM 116 w.heap.size bx #[.pointer none, .slice none 0 0] [] w2 := ⟨(hb2.block bx (Array.getElem?_eq_some_iff.1 HM.out.hx).1).trans HM.out.hx, HM.out.sz, HM.out.p, ⟨_, rfl, World.ownsRow_nil _ _ _ _, fun _ => rfl⟩, HM.out.bb⟩;have PT := put192 w.heap.size bx _ w2 rfl hM2 (HU1.out.below hb2) HRL.out HB2.out.size;clear LN hb2 hM2;go_wp2_with fail;refine PT.mono ?_;rintro e w3 ⟨rfl, ⟨cs3, hM3⟩, hb3⟩
 have HM3 := hz0q hM3;have HB3 := hz0q (HB2.out.trans hb3);clear PT hM3 hb3;go_wp2_with fail;rw [rounds_succ];go_wp2_with fail;refine (zey _ _ _ _ _ _ HM3.out).mono ?_;rintro e w5 ⟨rfl, hb5⟩;have HB5 := hz0q (HB3.out.trans hb5);go_wp2_with fail;go_returns;exact ⟨rfl, HB5.out⟩
end
end Go.Proofs.YtolcabjkbefjgaaGreatDoor
