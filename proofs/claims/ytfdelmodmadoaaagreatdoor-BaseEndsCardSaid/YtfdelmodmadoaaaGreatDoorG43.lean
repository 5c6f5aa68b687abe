/- BaseEnds' law: no character leads back to itself. -/
import Derived.Test.YtfdelmodmadoaaaGreatDoorG40
import Derived.Test.YtfdelmodmadoaaaGreatDoorG41
import Derived.Test.YtfdelmodmadoaaaGreatDoorG38
import Derived.Test.YtfdelmodmadoaaaGreatDoorG12
set_option linter.unusedSimpArgs false
set_option linter.unusedVariables false
set_option maxRecDepth 20000
set_option maxHeartbeats 4000000
namespace Go.Proofs.YtfdelmodmadoaaaGreatDoor
section
open Go.RowKit Go.Lib Go.Maps Go.Sort Go.Shelf
attribute [local go_sem] Oper.semAt_some
def allE (D : Int -> List Int) (l : List Int) : Bool := l.all fun y => (D y).isEmpty
theorem lv_ne (D : Int -> List Int) : ∀ i r, lvL D i r ≠ []
 | 0, r => by simp [lvL]
 | i + 1, r => by
  obtain ⟨x, t, e⟩ := List.exists_cons_of_ne_nil (lv_ne D i r);show stepL D (lvL D i r) ≠ [];rw [e];unfold stepL;rw [List.flatMap_cons];intro h;have h1 := (List.append_eq_nil_iff.1 h).1;split at h1
  ·cases h1
  ·rename_i h2; exact h2 h1
structure ziy (bp : Nat) (a : BAddr) (n : Nat) (pr : Int × Int -> Option Int) (md : Int -> Option (Int × Int)) (sc : Int -> Option Int) (cls : Int -> Int) (prt : Int -> Option (List UInt8 × List Int)) (B : BaseF) (w : World) : Prop where
 m : BaseM w bp a n cls prt pr md sc
 is : zck w (.pointer (some ⟨bp, 0, none⟩)) B
 few : n <= 1000000
 ends : ∀ r, (prt r).isSome = true -> EndsL (fun x => (B.dec x).2) r
theorem ziy.below {bp : Nat} {a : BAddr} {n : Nat} {pr : Int × Int -> Option Int} {md : Int -> Option (Int × Int)} {sc : Int -> Option Int} {cls : Int -> Int} {prt : Int -> Option (List UInt8 × List Int)} {B : BaseF} {w w' : World} (h : ziy bp a n pr md sc cls prt B w) (hb : Below w.heap.size w w') : ziy bp a n pr md sc cls prt B w' :=
 ⟨h.m.below hb, h.is.below hb, h.few, h.ends⟩
theorem ends_ok {rows : List RowS} {out : List Int} (g : RowsG rows) (h : NewOk rows out) (hk : (keysL rows).length <= 380) {w w' : World} {e : Ending} (hG : zfc rows out w e w') :
  ∃ bp a n pr md sc cls prt B, e = .returned (.tuple #[.pointer (some ⟨bp, 0, none⟩), .int .i64 0]) /\ ziy bp a n pr md sc cls prt B w' /\ Below w.heap.size w w' := by
 obtain ⟨bp, he, hB, hb⟩ := zh1 g h hG;obtain ⟨bp', a, n, ss, pr, md, sc, he', hM, hn, _, hI, _, _⟩ := hG;rw [he] at he'
 have : bp = bp' := by
  injection he' with h1;injection h1 with h1;have := congrArg (fun x => x[0]?) h1;simpa using this
 subst this;exact ⟨bp, a, n, pr, md, sc, _, _, _, he, ⟨hM, hB, by omega, fun r hr => ends_of g h hk hr⟩, hb⟩
section
variable {w : World}
theorem baseends_main (s o : ByteArray) (hE : Env w) (hk : Kinds w) (hs : s.size <= 3000) (ho : o.size <= 500) (hC : NewC (bs s) (bs o)) :
  Calls Tryz.prog 3 #[.agg #[.string s, .string o]] w fun e w' => e = .returned (.bool true) /\ Below w.heap.size w w' := by
 refine (callsIn_wide (n := 9)).1 ?_;have hro : Fence.wide.round = none := rfl;have h1 : 1 <= 9 := (by omega);have hkl := rows_keys (bs s) (by rw [zl]; exact hs);obtain ⟨W0, hW0⟩ : ∃ W0, (w.alloc (.cells #[.string s, .string o] 23)).alloc (.cells #[.bool false] 4) = W0 := ⟨_, rfl⟩;have hsz : W0.heap.size = w.heap.size + 2 := by rw [<- hW0]; simp
 have hB0 : Below w.heap.size w W0 := by
  rw [<- hW0];exact ((Below.refl _ w).alloc (Nat.le_refl _) _).alloc (by simp) _
 have bx1 : W0.heap[w.heap.size]? = some (.cells #[.string s, .string o] 23 (0, 0)) := by
  rw [<- hW0];exact (Below.heap_alloc _ _ _ (by simp)).trans (zp w _ _)
 have bx2 : Boxed W0 (w.heap.size + 1) 4 (.bool false) := by
  rw [<- hW0];have := Boxed.new (w.alloc (.cells #[.string s, .string o] 23)) 4 (.bool false);rwa [World.size_alloc] at this
 have FW := few8 s o W0 hs ho;have hc0 := za bx1 0 rfl;have hc1 := za bx1 1 rfl;have NW := fun W1 (hb : Below W0.heap.size W0 W1) => zdv (w := W1) s o (hE.below (zb hB0 hb)) (hk.below' (zb hB0 hb)) (by omega) (by omega);refine callsIn_of_wp_marks Tryz.func3 rfl trivial ?_ hro;simp only [Tryz.ntmps3, List.size_toArray, List.length_cons, List.length_nil, Nat.reduceAdd, Nat.reduceSub, Array.replicate_succ, Array.replicate_zero, List.push_toArray, List.append_toArray, List.nil_append, List.cons_append];have hnf : ∀ (f : Fn) (a c : Array Value) (w : World), Sem.run Tryz.prog (binOp BinOp.eql 31 (Value.func f a c) Value.nilFunc) w = .ok (.bool false) w := fun f a c w => by kernel_rfl
 clear hs ho;have HKL0 := hz0q hkl;clear hkl
 gi_wp2
 clear hW0 hc0 hc1;refine ⟨trivial, (callsIn_wide.2 FW).mono ?_⟩;rintro e w1 ⟨rfl, hb1⟩;have hc0 := (za (zd bx1 hb1) 0 rfl);have hc1 := (za (zd bx1 hb1) 1 rfl);have N1 := NW w1 hb1;clear FW NW
 gi_wp2
 refine ⟨trivial, (callsIn_wide.2 N1).mono ?_⟩;rintro e w2 hP;rcases hP with ⟨hn, _⟩ | ⟨⟨_, _, hok⟩, hG⟩
 ·exact absurd hC hn
 obtain ⟨bp, a, n, pr, md, sc, cls, prt, B, rfl, hB, hb2⟩ := ends_ok (zfm _) hok HKL0.out hG;have hb02 := zb hb1 hb2;have hbw2 := zb hB0 hb02;have b6 := ze bx2 hb02;have b7 := Boxed.new w2 26 (.pointer (some ⟨bp, 0, none⟩));have hb7 : Below w2.heap.size w2 (w2.alloc (.cells #[.pointer (some ⟨bp, 0, none⟩)] 26)) := (Below.refl _ _).alloc (Nat.le_refl _) _;obtain ⟨W3, hW3⟩ : ∃ W3, w2.alloc (.cells #[.pointer (some ⟨bp, 0, none⟩)] 26) = W3 := ⟨_, rfl⟩;obtain ⟨qb, hqb⟩ : ∃ qb, w2.heap.size = qb := ⟨_, rfl⟩;have hlt2 : w.heap.size + 1 < qb := (by have := hb02.size; omega);rw [hW3] at b7 hb7;have hB3 := hB.below hb7;have b63 := ze b6 hb7;have hbw3 := zb hbw2 hb7;rw [hqb] at b7;have c7 := b7.cell;have KN := zew hB3.m hB3.few;have HB3 := hz0q hB3;have HBW3 := hz0q hbw3;have H63 := hz0q b63;have H73 := hz0q b7;have HKK := hz0q hk;have HEE := hz0q hE;have hqW : qb < W3.heap.size := b7.lt;clear hc0 N1 hB hG hok b6 b63 b7 hb02 hbw2 hbw3 hb1 hb2 hb7 bx1 bx2 hB0 hC hB3 hc1 hk hE hsz
 gi_wp2
 refine ⟨trivial, (callsIn_wide.2 KN).mono ?_⟩;rintro e V0 ⟨g, Bs, ks, rfl, hIt, hAll, hkn, hBs1, hg1, hg2, hb30⟩;have hks : ∀ x ∈ ks, EndsL (fun x => (B.dec x).2) x := fun x hx => HB3.out.ends x ((hAll.2 x).1 hx).2;have hkl : ks.length <= 100000000 := (by have := HB3.out.few; omega);obtain ⟨ks', hks'⟩ : ∃ ks' : List (Ok32 (EndsL (fun x => (B.dec x).2))), ks = ks'.map (·.1) := ⟨ks.attachWith _ hks, by simp⟩;subst hks';rw [List.length_map] at hkl;have HB0 := hz0q (HB3.out.below hb30);have HB30 := hz0q hb30;have hs30 : W3.heap.size <= V0.heap.size := hb30.size;have KPB : ∀ (V : World) (l : Nat) (o o' : Obj), V0.heap.size <= l -> V.heap[l]? = some o -> o.isCells = false -> o.isWalk = false -> KpV g V (V.putObj l o') := KpV.put hg2;clear KN hAll hkn hb30 hks hBs1 hg1
 gi_wp2
 refine wpIn_rangeFunc_ownG hro h1 (gf := 71) (lb := #[.pointer (some ⟨Bs, 0, none⟩)]) rfl trivial (enters_of Tryz.func71 (by kernel_rfl) rfl)
  (zbw Fence.wide (9 - 1) trivial hro (by omega) g Bs ks' (by omega) V0 hIt) (fun h k => h.trans k) KPB (Below.refl _ _) (fun _ => rfl)
  (fun _ V => Below V0.heap.size V0 V) (fun _ (_ : List (Ok32 (EndsL fun x => (B.dec x).2))) _ => False)
  (ownFrom_below (Nat.le_refl _) (Nat.le_refl _)) (fun _ _ _ _ _ hs _ _ => hs) (Below.refl _ _)
  (fun x => { tmps := #[Value.agg #[Value.string s, Value.string o], Value.pointer (some { block := w.heap.size, off := 0 }), Value.pointer (some { block := w.heap.size + 1, off := 0 }), Value.pointer (some { block := qb, off := 0 }), Value.int IntKind.i64 0, Value.func (Fn.func 71) #[] #[Value.pointer (some { block := Bs, off := 0 })], runeV x.1, undef, undef, undef, undef, undef, undef, undef, Value.agg #[Value.string s, Value.string o], Value.bool true, Value.bool false, undef, Value.tuple #[Value.pointer (some { block := bp, off := 0 }), Value.int IntKind.i64 0], Value.pointer (some { block := w.heap.size, off := 0 }), Value.string s, Value.pointer (some { block := w.heap.size, off := 1 }), Value.string o, Value.tuple #[Value.pointer (some { block := bp, off := 0 }), Value.int IntKind.i64 0], Value.pointer (some { block := bp, off := 0 }), Value.int IntKind.i64 0, Value.int IntKind.i64 0, Value.bool false, Value.bool false, Value.pointer (some { block := bp, off := 0 }), Value.bool false, Value.bool false, undef, undef, undef, undef, undef, undef, undef, undef, undef, Value.pointer (some { block := bp, off := 0 }), Value.func (Fn.func 71) #[] #[Value.pointer (some { block := Bs, off := 0 })], Value.func (Fn.func 71) #[] #[Value.pointer (some { block := Bs, off := 0 })], Value.bool false, Value.func (Fn.func 71) #[] #[Value.pointer (some { block := Bs, off := 0 })], runeV x.1, undef, undef, undef, undef, undef, undef, undef, undef, undef, undef, undef, undef, undef, undef, undef, undef, undef, undef, undef, undef, undef, undef, undef, undef, undef, undef, undef, undef, undef, undef, undef, undef, undef, undef, undef, undef, undef, undef, undef, undef, undef, undef], defers := [] }) ?assign ?body ?done ?stop
 case assign =>
  intro l x V K hK
  gi_wp2
  exact hK
 case stop =>
  rintro D c pre W _ _ h;exact h.elim
 case done =>
  rintro D1 ys W hD _ hW hK;have hb3W : Below W3.heap.size W3 W := HB30.out.trans (hW.mono hs30);have HB3W := hz0q hb3W;have HK := hz0q hK;have hDl := (Array.getElem?_eq_some_iff.1 hK).1;have hsW := hb3W.size;have AW := zaq W (HEE.out.below (zb HBW3.out hb3W)) (HKK.out.below' (zb HBW3.out hb3W));clear hW hK hb3W hIt
  gi_wp2
  refine ⟨trivial, (callsIn_wide.2 AW).mono ?_⟩;rintro e v ⟨rfl, hb⟩;have b6 := ze H63.out (zb HB3W.out hb);have c6 := b6.cell;have f6 := b6.frozen;have HBV := hz0q hb;have hsV := hb.size;clear AW hb
  gi_wp2
  have z6 := b6.set (.bool true);have hWF : Wrote (fun k => k = w.heap.size + 1) v (v.setCell ⟨w.heap.size + 1, 0, none⟩ (.bool true)) := Wrote.setCell (S := fun k => k = w.heap.size + 1) (.inl rfl) _;have hbF := (zb HBW3.out (zb HB3W.out HBV.out)).trans (hWF.below (B := w.heap.size) (by rintro k e; omega) (by omega));have e1 := hWF.blk ((HBV.out.block D1 hDl).trans HK.out) (by omega);generalize v.setCell ⟨w.heap.size + 1, 0, none⟩ (.bool true) = V2 at *;have k6 := (z6.kept (grownBy_putObj' V2 D1 (.deferred none)) (by simp; omega)).cell;have hbG : Below w.heap.size w (V2.putObj D1 (.deferred none)) := hbF.trans (belowK_b (w := w) (Nat.le_refl _) _ D1 _ _ (by omega) e1 rfl rfl);refine zjg e1 ⟨.bool true, ?_, rfl, hbG⟩;simp [results, Tryz.f3, go_sem, k6]
 case body =>
  rintro l pre ⟨r, hr⟩ W hi hlt;have hB0W : ∀ W', Below W.heap.size W W' -> Below V0.heap.size V0 W' := fun W' h => zb hi h;have HIW := hz0q hB0W;have hgW : g < W.heap.size := (by have := hi.size; omega);obtain ⟨D, hD⟩ : ∃ D : Int -> List Int, D = fun x => (B.dec x).2 := ⟨_, rfl⟩
  have DC : Hid (∀ y W', R32 y -> Below W.heap.size W W' -> Calls Tryz.prog 11 #[.pointer (some ⟨bp, 0, none⟩), .int .i32 y] W' fun e w'' => ∃ kd A cp, e = .returned (.tuple #[.string kd, .slice A (D y).length cp]) /\ Rd w'' A (D y).length (Rs (D y)) /\ Below W'.heap.size W' w'') := by
   show ∀ y W', _;intro y W' hy hb;refine (zdm (HB0.out.is.below (hB0W W' hb)) y hy (HKK.out.below' (zb HBW3.out (HB30.out.trans ((hB0W W' hb).mono hs30))))).mono ?_;rintro e w'' ⟨A, cp, rfl, hown, hb⟩;obtain ⟨A1, c1, hv, _, _, hrd⟩ := Rd.of_own hown;injection hv with e1 _ e3;subst e1 e3;subst hD;exact ⟨_, _, _, rfl, hrd, hb⟩
  have BX : Hid (∀ W', Below W.heap.size W W' -> W'.cell? ⟨qb, 0, none⟩ = some (.pointer (some ⟨bp, 0, none⟩))) := fun W' h => (ze H73.out (HB30.out.trans ((hB0W W' h).mono hs30))).cell;skip;rw [<- hD] at hr;have HR := hz0q hr;clear hr hD hi hlt hB0W hIt KPB;dsimp only [runeV]
  gi_wp2
  gi_loopw [7, 8] (fun vl vi wr => ∃ (i b off c : Nat), vl = .slice (some ⟨b, off, none⟩) (lvL D i r).length c /\ vi = .int .i64 i /\ i <= 399 /\ Rd wr (some ⟨b, off, none⟩) (lvL D i r).length (Rs (lvL D i r)) /\ Below W.heap.size W wr) (fun _ vi _ => 400 - (intOf vi).toNat)
  case atStart => exact ⟨0, W.heap.size, 0, 1, rfl, rfl, by omega, Rd.new1 _ _ _, (Below.refl _ _).alloc (Nat.le_refl _) _⟩
  case round =>
   obtain ⟨i, b, off, c, rfl, rfl, hi9, hrd, hbw⟩ := hrel;obtain ⟨w1, rfl⟩ : ∃ w1, w1 = wr := ⟨wr, rfl⟩;obtain ⟨zs, hzs⟩ : ∃ zs, zs = lvL D i r := ⟨_, rfl⟩;have hn18 : zs.length <= 18 := (by rw [hzs]; exact HR.out.len i);have hmem : Hid (∀ y ∈ zs, R32 y) := (by rw [hzs]; exact HR.out.mem i);rw [<- hzs] at hrd ⊢;have HZ := hz0q hzs;have HMEM := hmem;obtain ⟨n, hn⟩ : ∃ n, n = zs.length := ⟨_, rfl⟩;rw [<- hn] at hrd hn18 ⊢;have HN := hz0q hn;have HRD := hz0q hrd;have HBW := hz0q hbw;have hi4 : (i : Int) < 400 := (by omega);clear hzs hn hrd hbw
   gi_wp2
   have hmul : ∀ k, (stepL D (zs.take k)).length <= 18 := fun k => Nat.le_trans (stepL_take zs k) (by have := HR.out.len (i + 1); rw [HZ.out]; exact this);have HMUL := hz0q hmul;clear hmul
   gi_loopw [9, 10, 11] (fun vn vs vk w2 => ∃ (k m : Nat) (A2 : Option Addr) (c2 : Nat) (same : Bool), vn = .slice A2 m c2 /\ vs = .bool same /\ vk = .int .i64 k /\ k <= n /\ Hid (same = allE D (zs.take k)) /\ Hid (m = (stepL D (zs.take k)).length) /\ w2.ownsRow w1.heap.size 21 1 (.slice A2 m c2) m (Rs (stepL D (zs.take k))) /\ Below w1.heap.size w1 w2) (fun _ _ vk _ => n - (intOf vk).toNat)
   case atStart => exact ⟨0, 0, none, 0, true, rfl, rfl, rfl, Nat.zero_le _, by show _ = _; simp [allE], by show _ = _; simp [stepL], World.ownsRow_nil _ _ _ _, Below.refl _ _⟩
   case round =>
    obtain ⟨k, m, A2, c2, same, rfl, rfl, rfl, hk, HS, HM, hown, hb2⟩ := hrel;obtain ⟨w2, rfl⟩ : ∃ w2, w2 = wr := ⟨wr, rfl⟩;have hm18 : m <= 18 := by rw [HM.out]; exact HMUL.out k
    by_cases hlk : k < n
    ·obtain ⟨y, hy⟩ : ∃ y, zs[k]? = some y := ⟨_, List.getElem?_eq_getElem (by have := HN.out; omega)⟩;obtain ⟨b2, off2, he2, hbl, hcx⟩ := (HRD.out.below hb2).at_ (by omega);injection he2 with he2;injection he2 with he3 he4;subst he3 he4;have hyR : R32 y := HMEM.out y (List.mem_of_getElem? hy);have hcy : Hid (∀ W', Below w2.heap.size w2 W' -> W'.cell? ⟨b, off + k, none⟩ = some (.int .i32 y)) := fun W' h => (h.cell (p := ⟨b, off + k, none⟩) hbl).trans (hcx k _ (by simp [Rs, hy]));have hbW2 := zb HBW.out hb2;have DC2 : Hid (∀ W', Below w2.heap.size w2 W' -> Calls Tryz.prog 11 #[.pointer (some ⟨bp, 0, none⟩), .int .i32 y] W' fun e w'' => ∃ kd A cp, e = .returned (.tuple #[.string kd, .slice A (D y).length cp]) /\ Rd w'' A (D y).length (Rs (D y)) /\ Below W'.heap.size W' w'') := fun W' h => DC.out y W' hyR (zb hbW2 h);have BX2 : Hid (∀ W', Below w2.heap.size w2 W' -> W'.cell? ⟨qb, 0, none⟩ = some (.pointer (some ⟨bp, 0, none⟩))) := fun W' h => BX.out W' (zb hbW2 h);have hTK : Hid (zs.take (k + 1) = zs.take k ++ [y]) := (by show _ = _; rw [List.take_add_one, hy]; rfl);have HOWN := hz0q hown;have HB2 := hz0q hb2;have hik : (k : Int) < (n : Int) := (by omega);obtain ⟨d, hd⟩ : ∃ d, d = D y := ⟨_, rfl⟩;rw [<- hd] at DC2;have HD := hz0q hd
     have hd18 : Hid (d.length <= 18) := by
      show _ <= _;have h1 := HMUL.out (k + 1);rw [hTK.out, zbn, List.length_append] at h1;rw [hd]
      by_cases h0 : D y = []
      ·rw [h0]; simp
      ·rw [if_neg h0] at h1; omega
     clear hcx hbl hyR hy hown hb2 hbW2 hd;have hcy0 := hcy.out w2 (Below.refl _ _);have bx0 := BX2.out w2 (Below.refl _ _)
     gi_upto_region 20 with fail
     refine wpIn_cut (fun a' w' => ∃ (A3 : Option Addr) (c3 : Nat) (x12 x59 x60 x61 x62 x63 x64 x65 x66 x67 : Value), a' = { tmps := #[Value.agg #[Value.string s, Value.string o], Value.pointer (some { block := w.heap.size, off := 0 }), Value.pointer (some { block := w.heap.size + 1, off := 0 }), Value.pointer (some { block := qb, off := 0 }), Value.int IntKind.i64 0, Value.func (Fn.func 71) #[] #[Value.pointer (some { block := Bs, off := 0 })], Value.int IntKind.i32 r, Value.slice (some { block := b, off := off }) n c, Value.int IntKind.i64 (i : Int), Value.slice A2 m c2, Value.bool same, Value.int IntKind.i64 (k : Int), x12, Value.slice A3 d.length c3, Value.agg #[Value.string s, Value.string o], Value.bool true, Value.bool false, undef, Value.tuple #[Value.pointer (some { block := bp, off := 0 }), Value.int IntKind.i64 0], Value.pointer (some { block := w.heap.size, off := 0 }), Value.string s, Value.pointer (some { block := w.heap.size, off := 1 }), Value.string o, Value.tuple #[Value.pointer (some { block := bp, off := 0 }), Value.int IntKind.i64 0], Value.pointer (some { block := bp, off := 0 }), Value.int IntKind.i64 0, Value.int IntKind.i64 0, Value.bool false, Value.bool false, Value.pointer (some { block := bp, off := 0 }), Value.bool false, Value.bool false, undef, undef, undef, undef, undef, undef, undef, undef, undef, Value.pointer (some { block := bp, off := 0 }), Value.func (Fn.func 71) #[] #[Value.pointer (some { block := Bs, off := 0 })], Value.func (Fn.func 71) #[] #[Value.pointer (some { block := Bs, off := 0 })], Value.bool false, Value.func (Fn.func 71) #[] #[Value.pointer (some { block := Bs, off := 0 })], Value.int IntKind.i32 r, Value.int IntKind.i32 r, Value.slice (some { block := W.heap.size, off := 0 }) 1 1, Value.int IntKind.i64 (i : Int), Value.bool true, u51, u52, Value.int IntKind.i64 (k : Int), Value.slice (some { block := b, off := off }) n c, Value.int IntKind.i64 (n : Int), Value.bool true, u57, u58, x59, x60, x61, x62, x63, x64, x65, x66, x67, u68, u69, u70, u71, u72, u73, u74, u75, u76, u77, u78, u79, u80, u81, u82, u83, u84, u85, u86, u87, undef], defers := [] } /\ Hid (Rd w' A3 d.length (Rs d)) /\ Hid (Below w2.heap.size w2 w')) ?rest ?first
     case first =>
      intro J K' hJ hK'
      gi_region_with (refine ⟨trivial, (CallsIn.inRound l (callsIn_wide.2 (DC2.out _ ((Drew.to ⟨1, rfl⟩ : Below w2.heap.size w2 w2.drew))))).mono ?_⟩; rintro e w3 ⟨kd, A3, c3, rfl, hr3, hb3⟩)
      all_goals exact hK' _ _ (Met.intro (hJ _ _ ⟨A3, c3, _, _, _, _, _, _, _, _, _, _, rfl, hr3, zb (Drew.to ⟨1, rfl⟩ : Below w2.heap.size w2 w2.drew) hb3⟩))
     case rest =>
      rintro a' Wc ⟨A3, c3, x12, x59, x60, x61, x62, x63, x64, x65, x66, x67, rfl, HR3, HBC⟩;have hownC := zay HOWN.out HBC.out;have hbC : Below w1.heap.size w1 Wc := HB2.out.trans (HBC.out.mono HB2.out.size);have hs1C : w1.heap.size <= Wc.heap.size := hbC.size
      by_cases h0 : d = []
      ·have HD0 : Hid (D y = []) := (by rw [<- HD.out]; exact h0);have HRS : Hid (Rs (stepL D (zs.take k)) ++ [.int .i32 y] = Rs (stepL D (zs.take (k + 1)))) := (by show _ = _; rw [hTK.out, zbn, if_pos HD0.out]; simp [Rs]);have HM2 : Hid (m + 1 = (stepL D (zs.take (k + 1))).length) := (by show _ = _; rw [hTK.out, zbn, if_pos HD0.out, List.length_append, <- HM.out]; rfl);have HS2 : Hid (same = allE D (zs.take (k + 1))) := (by show _ = _; rw [hTK.out, HS.out]; simp [allE, HD0.out]);have hcyC := hcy.out Wc HBC.out;have hbA : Below Wc.heap.size Wc (Wc.alloc (.cells #[.int .i32 y] 21)) := (Below.refl _ _).alloc (Nat.le_refl _) _;have hownA := zay hownC hbA;have hsA : w1.heap.size <= (Wc.alloc (.cells #[.int .i32 y] 21)).heap.size := Nat.le_trans hs1C hbA.size;have HBA := hz0q (hbC.trans (hbA.mono hs1C));subst h0;clear hownC hbC hbA HOWN
       gi_wp2_with (gi_at_builtin; refine zbg za8 _ rfl _ _ rfl w1.heap.size rfl hownA rfl (Rd.new1 _ _ _) (zg7 rfl) (by omega) (by decide) hsA ?_)
       intro A4 c4 w4 hown4 hg4 hat4;have hb4 := zcj HBA.out hsA hownA hg4;have hs4 : w1.heap.size <= w4.heap.size := hb4.size;clear hownA hg4 hat4
       gi_wp2_with (gi_at_builtin; refine zbg za8 _ rfl _ _ rfl w1.heap.size rfl hown4 rfl (Rd.nil _ _) (by simp) (by omega) (by decide) hs4 ?_)
       intro A5 c5 w5 hown5 hg5 hat5;have HB5 := hz0q (zcj hb4 hs4 hown4 hg5);rw [HRS.out] at hown5;have HOWN5 := hz0q hown5;clear hown4 hg5 hat5 hb4 hown5
       gi_wp2
       go_roundw
       case rel => exact ⟨k + 1, m + 1, A5, c5, same, rfl, rfl, by go_num, by omega, HS2, HM2, HOWN5.out, HB5.out⟩
       case measure => simp [intOf]; omega
      ·have HD0 : Hid (D y ≠ []) := (by show _ ≠ _; rw [<- HD.out]; exact h0);have HRS : Hid (Rs (stepL D (zs.take k)) ++ Rs d = Rs (stepL D (zs.take (k + 1)))) := (by show _ = _; rw [hTK.out, zbn, if_neg HD0.out, <- HD.out]; simp [Rs]);have HM2 : Hid (m + d.length = (stepL D (zs.take (k + 1))).length) := (by show _ = _; rw [hTK.out, zbn, if_neg HD0.out, List.length_append, <- HM.out, <- HD.out]);have HS2 : Hid (false = allE D (zs.take (k + 1))) := (by show _ = _; rw [hTK.out]; simp [allE, HD0.out]);obtain ⟨dn, hdn⟩ : ∃ dn, dn = d.length := ⟨_, rfl⟩
       have hd0 : ((dn : Int) == 0) = false := by
        have := List.length_pos_iff.2 h0;have h : dn ≠ 0 := (by omega);simpa using h
       have hdn18 : dn <= 18 := (by rw [hdn]; exact hd18.out);have hr3 := HR3.out;rw [<- hdn] at HM2 hr3 ⊢;have HDN := hz0q hdn;have hone := zgs .i32 d;clear h0 hdn HOWN
       gi_wp2_with (gi_at_builtin; refine zbg za8 _ rfl _ _ rfl w1.heap.size rfl hownC rfl hr3 hone (by omega) (by decide) hs1C ?_)
       intro A5 c5 w5 hown5 hg5 hat5;have HB5 := hz0q (zcj hbC hs1C hownC hg5);rw [HRS.out] at hown5;have HOWN5 := hz0q hown5;clear hownC hg5 hat5 hbC hown5 hr3
       gi_wp2
       go_roundw
       case rel => exact ⟨k + 1, m + dn, A5, c5, false, rfl, rfl, by go_num, by omega, HS2, HM2, HOWN5.out, HB5.out⟩
       case measure => simp [intOf]; omega
    ·obtain rfl : k = n := (by omega);have hik : (k : Int) <= (k : Int) := Int.le_refl _;have HSL : Hid (stepL D (zs.take k) = lvL D (i + 1) r) := (by show _ = _; rw [HN.out, List.take_length, HZ.out]; rfl);have HTS : Hid (zs.take k = zs) := (by show _ = _; rw [HN.out, List.take_length]);have hm1 : m = (lvL D (i + 1) r).length := (by rw [HM.out, HSL.out]);rw [HSL.out] at hown;obtain ⟨A4, c4, hv, _, _, hrd4⟩ := Rd.of_own hown;injection hv with e1 _ e3;subst e1 e3;have HBE := hz0q (zb HBW.out hb2);have hm0 : 0 < m := (by rw [hm1]; exact List.length_pos_iff.2 (lv_ne D (i + 1) r));obtain ⟨b2, off2, rfl, _, _⟩ := hrd4.at_ hm0;have HRD4 := hz0q hrd4;have HM1 := hz0q hm1;have hm3 : ¬ (18 < (m : Int)) := (by omega);clear hown hb2 hrd4 hm1
     cases same with
     | true =>
      gi_wp2
      exact ⟨zao (S := fun _ => False) (Wrote.of_below HBE.out) (fun _ _ _ h => h), KpV.of_below HBE.out hgW, HIW.out _ HBE.out⟩
     | false =>
      have hi3 : i ≠ 399 := by
       rintro rfl;have h1 := HS.out;rw [HTS.out] at h1
       have h2 : allE D zs = true := by
        rw [HZ.out];unfold allE;rw [List.all_eq_true];intro y hy;rw [HR.out.fin y hy];rfl
       rw [h2] at h1
       cases h1
      have hi2 : ((i : Int) == 399) = false := (by simpa using fun e : (i : Int) = 399 => hi3 (by omega));clear HS
      gi_wp2
      go_roundw
      case rel => exact ⟨i + 1, b2, off2, c2, by rw [<- HM1.out], by go_num, by omega, by rw [<- HM1.out]; exact HRD4.out, HBE.out⟩
      case measure => simp [intOf]; omega
theorem baseends_few (s o : ByteArray) (hE : Env w) (hk : Kinds w) (hs : ¬ (s.size <= 3000 /\ o.size <= 500)) :
  Calls Tryz.prog 3 #[.agg #[.string s, .string o]] w fun e w' => e = .returned (.bool true) /\ Below w.heap.size w w' := by
 refine (callsIn_wide (n := 9)).1 ?_;have hro : Fence.wide.round = none := rfl;have h1 : 1 <= 9 := (by omega);obtain ⟨W0, hW0⟩ : ∃ W0, (w.alloc (.cells #[.string s, .string o] 23)).alloc (.cells #[.bool false] 4) = W0 := ⟨_, rfl⟩;have hsz : W0.heap.size = w.heap.size + 2 := by rw [<- hW0]; simp
 have hB0 : Below w.heap.size w W0 := by
  rw [<- hW0];exact ((Below.refl _ w).alloc (Nat.le_refl _) _).alloc (by simp) _
 have bx1 : W0.heap[w.heap.size]? = some (.cells #[.string s, .string o] 23 (0, 0)) := by
  rw [<- hW0];exact (Below.heap_alloc _ _ _ (by simp)).trans (zp w _ _)
 have bx2 : Boxed W0 (w.heap.size + 1) 4 (.bool false) := by
  rw [<- hW0];have := Boxed.new (w.alloc (.cells #[.string s, .string o] 23)) 4 (.bool false);rwa [World.size_alloc] at this
 have FW := zio s o W0 hs;have hc0 := za bx1 0 rfl;have hc1 := za bx1 1 rfl;refine callsIn_of_wp_marks Tryz.func3 rfl trivial ?_ hro;simp only [Tryz.ntmps3, List.size_toArray, List.length_cons, List.length_nil, Nat.reduceAdd, Nat.reduceSub, Array.replicate_succ, Array.replicate_zero, List.push_toArray, List.append_toArray, List.nil_append, List.cons_append];have hnf : ∀ (f : Fn) (a c : Array Value) (w : World), Sem.run Tryz.prog (binOp BinOp.eql 31 (Value.func f a c) Value.nilFunc) w = .ok (.bool false) w := fun f a c w => by kernel_rfl
 gi_wp2
 clear hW0 hc0 hc1;refine ⟨trivial, (callsIn_wide.2 FW).mono ?_⟩;rintro e w1 ⟨rfl, hb1⟩;have AW := zaq w1 (hE.below (zb hB0 hb1)) (hk.below' (zb hB0 hb1));clear FW
 gi_wp2
 refine ⟨trivial, (callsIn_wide.2 AW).mono ?_⟩;rintro e v ⟨rfl, hb2⟩;have hb3 := zb hb1 hb2;have hbV := zb hB0 hb3;have b6 := ze bx2 hb3;have c6 := b6.cell;have f6 := b6.frozen;clear AW bx1 bx2 hb1 hb2 hb3 hB0
 gi_wp2
 have z6 := b6.set (.bool true);have hWF : Wrote (fun k => k = w.heap.size + 1) v (v.setCell ⟨w.heap.size + 1, 0, none⟩ (.bool true)) := Wrote.setCell (S := fun k => k = w.heap.size + 1) (.inl rfl) _;have hbF := hbV.trans (hWF.below (B := w.heap.size) (by rintro k e; omega) (by have := hbV.size; omega));have k6 := z6.cell;refine ⟨.bool true, ?_, rfl, hbF⟩;simp [results, Tryz.f3, go_sem, k6]
theorem baseends_bad (s o : ByteArray) (hE : Env w) (hk : Kinds w) (hs : s.size <= 3000) (ho : o.size <= 500) (hC : ¬ NewC (bs s) (bs o)) :
  Calls Tryz.prog 3 #[.agg #[.string s, .string o]] w fun e w' => e = .returned (.bool true) /\ Below w.heap.size w w' := by
 refine (callsIn_wide (n := 9)).1 ?_;have hro : Fence.wide.round = none := rfl;have h1 : 1 <= 9 := (by omega);obtain ⟨W0, hW0⟩ : ∃ W0, (w.alloc (.cells #[.string s, .string o] 23)).alloc (.cells #[.bool false] 4) = W0 := ⟨_, rfl⟩;have hsz : W0.heap.size = w.heap.size + 2 := by rw [<- hW0]; simp
 have hB0 : Below w.heap.size w W0 := by
  rw [<- hW0];exact ((Below.refl _ w).alloc (Nat.le_refl _) _).alloc (by simp) _
 have bx1 : W0.heap[w.heap.size]? = some (.cells #[.string s, .string o] 23 (0, 0)) := by
  rw [<- hW0];exact (Below.heap_alloc _ _ _ (by simp)).trans (zp w _ _)
 have bx2 : Boxed W0 (w.heap.size + 1) 4 (.bool false) := by
  rw [<- hW0];have := Boxed.new (w.alloc (.cells #[.string s, .string o] 23)) 4 (.bool false);rwa [World.size_alloc] at this
 have FW := few8 s o W0 hs ho;have hc0 := za bx1 0 rfl;have hc1 := za bx1 1 rfl;have NW := fun W1 (hb : Below W0.heap.size W0 W1) => zdv (w := W1) s o (hE.below (zb hB0 hb)) (hk.below' (zb hB0 hb)) (by omega) (by omega);refine callsIn_of_wp_marks Tryz.func3 rfl trivial ?_ hro;simp only [Tryz.ntmps3, List.size_toArray, List.length_cons, List.length_nil, Nat.reduceAdd, Nat.reduceSub, Array.replicate_succ, Array.replicate_zero, List.push_toArray, List.append_toArray, List.nil_append, List.cons_append];have hnf : ∀ (f : Fn) (a c : Array Value) (w : World), Sem.run Tryz.prog (binOp BinOp.eql 31 (Value.func f a c) Value.nilFunc) w = .ok (.bool false) w := fun f a c w => by kernel_rfl
 clear hs ho
 gi_wp2
 clear hW0 hc0 hc1;refine ⟨trivial, (callsIn_wide.2 FW).mono ?_⟩;rintro e w1 ⟨rfl, hb1⟩;have hc0 := (za (zd bx1 hb1) 0 rfl);have hc1 := (za (zd bx1 hb1) 1 rfl);have N1 := NW w1 hb1;clear FW NW
 gi_wp2
 refine ⟨trivial, (callsIn_wide.2 N1).mono ?_⟩;rintro e w2 hP;rcases hP with ⟨_, ⟨er, her, rfl⟩, hb2⟩ | ⟨hn, _⟩;rotate_left
 ·exact absurd hn hC
 have hb02 := zb hb1 hb2;have b7 := Boxed.new w2 26 (.pointer none);have hb7 : Below w2.heap.size w2 (w2.alloc (.cells #[.pointer none] 26)) := (Below.refl _ _).alloc (Nat.le_refl _) _;have hb03 := zb hb02 hb7;have c7 := b7.cell;have AW := zaq (w2.alloc (.cells #[.pointer none] 26)) (hE.below (zb hB0 hb03)) (hk.below' (zb hB0 hb03));have hne : (er == 0) = false := (by simpa using her);have hne2 : (er != 0) = true := (by simpa using her);clear N1 hb1 hb2 hb02 hb7 hC her
 gi_wp2
 refine ⟨trivial, (callsIn_wide.2 AW).mono ?_⟩;rintro e v ⟨rfl, hb2⟩;have hb3 := zb hb03 hb2;have hbV := zb hB0 hb3;have b6 := ze bx2 hb3;have c6 := b6.cell;have f6 := b6.frozen;clear AW bx1 bx2 hb2 hb3 hB0 hb03
 gi_wp2
 have z6 := b6.set (.bool true);have hWF : Wrote (fun k => k = w.heap.size + 1) v (v.setCell ⟨w.heap.size + 1, 0, none⟩ (.bool true)) := Wrote.setCell (S := fun k => k = w.heap.size + 1) (.inl rfl) _;have hbF := hbV.trans (hWF.below (B := w.heap.size) (by rintro k e; omega) (by have := hbV.size; omega));have k6 := z6.cell;refine ⟨.bool true, ?_, rfl, hbF⟩;simp [results, Tryz.f3, go_sem, k6]
theorem baseends_yes (s o : ByteArray) (w : World) (hE : Env w) (hk : Kinds w) :
  Calls Tryz.prog 3 #[.agg #[.string s, .string o]] w fun e w' => e = .returned (.bool true) /\ Below w.heap.size w w' := by
 by_cases hf : s.size <= 3000 /\ o.size <= 500
 ·by_cases hC : NewC (bs s) (bs o)
  ·exact baseends_main s o hE hk hf.1 hf.2 hC
  ·exact baseends_bad s o hE hk hf.1 hf.2 hC
 ·exact baseends_few s o hE hk hf
end
end
end Go.Proofs.YtfdelmodmadoaaaGreatDoor
