/- A text in a form, and whether two are the same but for it: the code. An argument that is a form and lists of characters, opened. What a law without lines knows; the first, and the last ones of a list. Are parts not too many, or too long: the code. -/
import Derived.Test.YtfdelmodmadoaaaGreatDoorY37
set_option linter.unusedSimpArgs false
set_option linter.unusedVariables false
set_option maxRecDepth 20000
set_option maxHeartbeats 4000000
namespace Go.Proofs.YtfdelmodmadoaaaGreatDoor
section
open Go.RowKit
noncomputable def formE (B : BaseF) (f : Int) (xs : List Int) : List Int × Int := if mayF f = true then (B.form (cB f) (jB f) xs, 0) else ([], 16)
theorem zmm {B : BaseF} {f : Int} {xs : List Int} (h : f < 1 \/ 4 < f) : formE B f xs = ([], 16) := by
 unfold formE;rw [if_neg];rw [ze1];omega
section
variable {w : World} {p : Option Addr} {B : BaseF}
theorem zhd (hB : zax w (.pointer p) B) (hk : Kinds w) (hbd : zan B) (f : Int) (A : Option Addr) (n cp : Nat) (xs : List Int) (hrd : Rd w A n (Rs xs)) (hn : xs.length = n) (hx : ∀ x ∈ xs, R32 x) (hn2 : n <= 3300) :
  Calls Tryz.prog 23 #[.pointer p, .int .i64 f, .slice A n cp] w (za8 w (formE B f xs)) := by
 have FU := fun c => zmk (cp := cp) hB hk hbd (one_R hbd) c A n xs hrd hn hx hn2;have HB := hz0q hB;have HK := hz0q hk;have HBD := hz0q hbd;have HFR : Hid (∀ c, ∀ y ∈ B.full c xs, R32 y) := fun c y hy => zkn hbd c hx y hy;have HFL : Hid (∀ c, (B.full c xs).length <= 178200) := fun c => by have := zgj hbd c xs; rw [hn] at this; omega
 clear hB hk hbd hrd hn hx;rcases zli f with h | rfl | rfl | rfl | rfl | h
 ·have h1 : (f == 1) = false := (by rw [beq_eq_false_iff_ne]; omega);have h2 : (f == 2) = false := (by rw [beq_eq_false_iff_ne]; omega);have h3 : (f == 3) = false := (by rw [beq_eq_false_iff_ne]; omega);have h4 : (f == 4) = false := (by rw [beq_eq_false_iff_ne]; omega);have HF : Hid (formE B f xs = ([], 16)) := zmm (.inl h);clear FU h;go_enter Tryz.func23, Tryz.ntmps23;go_wp2;go_returns;rw [HF.out];exact ⟨none, 0, rfl, World.ownsRow_nil _ _ _ _, Below.refl _ _⟩
 ·have F1 := FU false;obtain ⟨ys, hys⟩ : ∃ ys, ys = B.full false xs := ⟨_, rfl⟩;rw [<- hys] at F1;have HF : Hid (formE B 1 xs = (ys, 0)) := (by show _ = _; rw [hys]; rfl);clear FU hys;go_enter Tryz.func23, Tryz.ntmps23;go_wp2_with fail;refine F1.mono ?_;rintro e w1 ⟨A1, c1, rfl, hown, hb1⟩;have HR : Hid (za8 w (ys, 0) (.returned (.tuple #[.slice A1 ys.length c1, .int .i64 0])) w1) := ⟨A1, c1, rfl, hown, hb1⟩;clear F1 hown hb1;go_wp2;go_returns;rw [HF.out];exact HR.out
 ·have F1 := FU false;obtain ⟨ys, hys⟩ : ∃ ys, ys = B.full false xs := ⟨_, rfl⟩;rw [<- hys] at F1;have hyR : ∀ y ∈ ys, R32 y := (by rw [hys]; exact HFR.out false);have hyl : ys.length <= 178200 := (by rw [hys]; exact HFL.out false);have HYR := hz0q hyR;have hjl : (B.join ys).length <= 178200 := Nat.le_trans (zgg ys) hyl;obtain ⟨js, hjs⟩ : ∃ js, js = B.join ys := ⟨_, rfl⟩;have HF : Hid (formE B 2 xs = (js, 0)) := (by show _ = _; rw [hjs, hys]; rfl);have HJS := hz0q hjs;rw [<- hjs] at hjl;clear FU hys hyR hjs;go_enter Tryz.func23, Tryz.ntmps23;go_wp2_with fail;refine F1.mono ?_;intro e w1 hf;obtain ⟨A1, c1, rfl, hr1, hb1⟩ := hf.rd;have JN := zks (cp := c1) (HB.out.below hb1) (HK.out.below' hb1) HBD.out A1 ys.length ys hr1 rfl HYR.out (by omega);rw [<- HJS.out] at JN;have HB1 := hz0q hb1;clear F1 hf hr1 hb1;go_wp2_with fail;refine JN.mono ?_;rintro e w2 ⟨A2, c2, rfl, hown, hb2⟩;have HR : Hid (za8 w (js, 0) (.returned (.tuple #[.slice A2 js.length c2, .int .i64 0])) w2) := ⟨A2, c2, rfl, za1 hown HB1.out.size, zb HB1.out hb2⟩;clear JN hown hb2;go_wp2;go_returns;rw [HF.out];exact HR.out
 ·have F1 := FU true;obtain ⟨ys, hys⟩ : ∃ ys, ys = B.full true xs := ⟨_, rfl⟩;rw [<- hys] at F1;have HF : Hid (formE B 3 xs = (ys, 0)) := (by show _ = _; rw [hys]; rfl);clear FU hys;go_enter Tryz.func23, Tryz.ntmps23;go_wp2_with fail;refine F1.mono ?_;rintro e w1 ⟨A1, c1, rfl, hown, hb1⟩;have HR : Hid (za8 w (ys, 0) (.returned (.tuple #[.slice A1 ys.length c1, .int .i64 0])) w1) := ⟨A1, c1, rfl, hown, hb1⟩;clear F1 hown hb1;go_wp2;go_returns;rw [HF.out];exact HR.out
 ·have F1 := FU true;obtain ⟨ys, hys⟩ : ∃ ys, ys = B.full true xs := ⟨_, rfl⟩;rw [<- hys] at F1;have hyR : ∀ y ∈ ys, R32 y := (by rw [hys]; exact HFR.out true);have hyl : ys.length <= 178200 := (by rw [hys]; exact HFL.out true);have HYR := hz0q hyR;have hjl : (B.join ys).length <= 178200 := Nat.le_trans (zgg ys) hyl;obtain ⟨js, hjs⟩ : ∃ js, js = B.join ys := ⟨_, rfl⟩;have HF : Hid (formE B 4 xs = (js, 0)) := (by show _ = _; rw [hjs, hys]; rfl);have HJS := hz0q hjs;rw [<- hjs] at hjl;clear FU hys hyR hjs;go_enter Tryz.func23, Tryz.ntmps23;go_wp2_with fail;refine F1.mono ?_;intro e w1 hf;obtain ⟨A1, c1, rfl, hr1, hb1⟩ := hf.rd;have JN := zks (cp := c1) (HB.out.below hb1) (HK.out.below' hb1) HBD.out A1 ys.length ys hr1 rfl HYR.out (by omega);rw [<- HJS.out] at JN;have HB1 := hz0q hb1;clear F1 hf hr1 hb1;go_wp2_with fail;refine JN.mono ?_;rintro e w2 ⟨A2, c2, rfl, hown, hb2⟩;have HR : Hid (za8 w (js, 0) (.returned (.tuple #[.slice A2 js.length c2, .int .i64 0])) w2) := ⟨A2, c2, rfl, za1 hown HB1.out.size, zb HB1.out hb2⟩;clear JN hown hb2;go_wp2;go_returns;rw [HF.out];exact HR.out
 ·have h1 : (f == 1) = false := (by rw [beq_eq_false_iff_ne]; omega);have h2 : (f == 2) = false := (by rw [beq_eq_false_iff_ne]; omega);have h3 : (f == 3) = false := (by rw [beq_eq_false_iff_ne]; omega);have h4 : (f == 4) = false := (by rw [beq_eq_false_iff_ne]; omega);have HF : Hid (formE B f xs = ([], 16)) := zmm (.inr h);clear FU h;go_enter Tryz.func23, Tryz.ntmps23;go_wp2;go_returns;rw [HF.out];exact ⟨none, 0, rfl, World.ownsRow_nil _ _ _ _, Below.refl _ _⟩
end
end
section
open Go.ChangeShapes Go.WideShapes Go.ChangeAt Go.RowKit Go.Lib
theorem how_c : Tryz.prog.cellsOf 46 = 2 := by kernel_rfl
theorem how_ci : Tryz.prog.cellsOf 3 = 1 := by kernel_rfl
theorem how_cl : Tryz.prog.cellsOf 33 = 1 := by kernel_rfl
theorem how_cll : Tryz.prog.cellsOf 44 = 1 := by kernel_rfl
theorem cells_getH {W : World} {base n : Nat} {a : Addr} {cs : List Value} (h : W.cells? base a n = some cs) : cs.length = n /\ ∀ j, j < n -> W.cell? (a.add j) = cs[j]? := by
 unfold World.cells? at h;split at h
 ·have hl := mapM_some_length h;rw [List.length_range] at hl;refine ⟨hl, fun j hj => ?_⟩;exact mapM_some_get h j j (by rw [List.getElem?_range hj])
 ·cases h
structure zfe (W : World) (x : LA) : Prop where
 rd : Rd W x.2.1 x.1.length (Rs x.1)
 r : ∀ y ∈ x.1, R32 y
 nil : x.2.1 = none -> x.1.length = 0 /\ x.2.2 = 0
 cap : x.1.length <= x.2.2
 mx : x.2.2 <= maxLen
theorem rd_listH {H : Type} {enc : TypeId × Value -> H} {W : World} {base : Nat} {sp : Nat -> Bool} {held : Bool} {fuel : Nat} {v : Value} {x : DataW H × List MemPlace}
  (h : DataW.trod enc Tryz.prog W base sp held fuel 33 [v] = some x) : ∃ y : LA, v = laV y /\ zfe W y := by
 rcases open_ints Tryz.underlying33 Tryz.underlying21 (by kernel_rfl) h with ⟨hcs, _⟩ | ⟨a, len, cap, zs, hcs, _, hl, hm, hz, _, hcell, hwz⟩
 ·injection hcs with hcs _;exact ⟨([], none, 0), hcs, ⟨Rd.nil _ _, (fun z hz => by cases hz), (fun _ => ⟨rfl, rfl⟩), Nat.le_refl _, Nat.zero_le _⟩⟩
 ·injection hcs with hcs _;have hlz : len <= zs.length := (by rw [hz]; split <;> omega);have htl : (zs.take len).length = len := (by simp; omega);refine ⟨(zs.take len, some a, cap), (by show v = .slice (some a) (zs.take len).length cap; rw [htl]; exact hcs), ⟨⟨by simp, fun hn => ?_⟩, fun z hzm => ?_, (fun e => by cases e), (by show (zs.take len).length <= cap; rw [htl]; exact hl), hm⟩⟩
  ·have hn : 0 < (zs.take len).length := hn;rw [htl] at hn;obtain ⟨b, off, spot⟩ := a;have hc := hcell 0 (by omega);have hspot : spot = none := (by simpa [Addr.add] using World.cell?_spot hc);subst hspot;refine ⟨b, off, rfl, fun j u hu => ?_⟩;have hu : (Rs (zs.take len))[j]? = some u := hu;rw [List.getElem?_map] at hu;obtain ⟨y, hy, rfl⟩ := Option.map_eq_some_iff.1 hu;rw [List.getElem?_take] at hy;split at hy
   ·have hjl : j < zs.length := (List.getElem?_eq_some_iff.1 hy).1;have := hcell j hjl;rw [Addr.add_lit] at this;rw [this];simp [List.getD, hy]
   ·cases hy
  ·have := bounds_i32 (hwz z (List.mem_of_mem_take hzm));exact ⟨this.1, by omega⟩
structure ArgLL (W : World) (A : Option Addr) (n : Nat) (os : List LA) : Prop where
 len : os.length = n
 mx : n <= maxLen
 rd : Rd W A n (LLs os)
 into : ∀ x ∈ os, zfe W x
theorem zfe.below {w w' : World} {x : LA} (h : zfe w x) (hb : Below w.heap.size w w') : zfe w' x := ⟨h.rd.below hb, h.r, h.nil, h.cap, h.mx⟩
theorem ArgLL.below {w w' : World} {A : Option Addr} {n : Nat} {os : List LA} (h : ArgLL w A n os) (hb : Below w.heap.size w w') : ArgLL w' A n os := ⟨h.len, h.mx, h.rd.below hb, fun x hx => (h.into x hx).below hb⟩
theorem ArgLL.at_ {W : World} {A : Option Addr} {n : Nat} {os : List LA} (h : ArgLL W A n os) {k : Nat} (hk : k < n) : ∃ b off x, A = some ⟨b, off, none⟩ /\ b < W.heap.size /\ os[k]? = some x /\ W.cell? ⟨b, off + k, none⟩ = some (laV x) /\ zfe W x := by
 obtain ⟨x, hx⟩ : ∃ x, os[k]? = some x := ⟨_, List.getElem?_eq_getElem (by rw [h.len]; exact hk)⟩;obtain ⟨b, off, rfl, hb, hc⟩ := h.rd.at_ (by omega);exact ⟨b, off, x, rfl, hb, hx, hc k _ (by rw [LLs, List.getElem?_map, hx]; rfl), h.into x (List.mem_of_getElem? hx)⟩
theorem open_lists {H : Type} {enc : TypeId × Value -> H} {W : World} {base : Nat} {sp : Nat -> Bool} {held : Bool} {fuel : Nat} {v : Value} {x : DataW H × List MemPlace}
  (h : DataW.trod enc Tryz.prog W base sp held fuel 44 [v] = some x) : ∃ A n c os, v = .slice A n c /\ ArgLL W A n os := by
 rcases DataW.trod_slice Tryz.underlying44 h with ⟨hcs, _⟩ | ⟨a, n, cap, elems, rest, m, _, hcs, _, hb, hl, hm, hlen, hel, _, _⟩
 ·injection hcs with hcs _;exact ⟨none, 0, 0, [], hcs, rfl, Nat.zero_le _, Rd.nil _ _, fun x hx => by simp at hx⟩
 ·injection hcs with hcs _;rw [how_cl] at hel
  have each : ∀ i, i < n -> ∃ r : LA, W.cell? (a.add i) = some (laV r) /\ zfe W r := by
   intro i hi;have h1 := hel i hi;rw [List.getElem?_eq_getElem (by omega), Option.bind_eq_some_iff] at h1;obtain ⟨cs, h2, h3⟩ := h1;obtain ⟨h4, h5⟩ := cells_getH h2;match cs, h4 with
   | [v], _ =>
    obtain ⟨r, rfl, h6⟩ := rd_listH h3;have := h5 0 (by omega);refine ⟨r, ?_, h6⟩;rw [show a.add i = (a.add (i * 1)).add 0 by unfold Addr.add; split <;> simp_all];rw [this];rfl
  have hex : ∃ os : List LA, os.length = n /\ ∀ i (hi : i < os.length), W.cell? (a.add i) = some (laV os[i]) /\ zfe W os[i] := by
   have hch : ∀ i : Fin n, ∃ r : LA, W.cell? (a.add i.1) = some (laV r) /\ zfe W r := fun i => each i.1 i.2;refine ⟨List.ofFn fun i => Classical.choose (hch i), List.length_ofFn, fun i hi => ?_⟩;rw [List.getElem_ofFn];exact Classical.choose_spec (hch ⟨i, by rw [List.length_ofFn] at hi; exact hi⟩)
  obtain ⟨os, hol, hos⟩ := hex;refine ⟨some a, n, cap, os, hcs, hol, Nat.le_trans hl hm, ⟨by simp [hol], fun hn => ?_⟩, fun x hx => ?_⟩
  ·obtain ⟨b, off, spot⟩ := a;have h0 := (hos 0 (by omega)).1;have hspot : spot = none := (by simpa [Addr.add] using World.cell?_spot h0);subst hspot;refine ⟨b, off, rfl, fun j u hu => ?_⟩;rw [List.getElem?_map] at hu;obtain ⟨y, hy, rfl⟩ := Option.map_eq_some_iff.1 hu;obtain ⟨hj, he⟩ := List.getElem?_eq_some_iff.1 hy;have := (hos j hj).1;rw [he, Addr.add_lit] at this;exact this
  ·obtain ⟨i, hi, rfl⟩ := List.getElem_of_mem hx;exact (hos i hi).2
theorem open_how {H : Type} {enc : TypeId × Value -> H} {W : World} {base base' : Nat} {sp : Nat -> Bool} {held : Bool} {v : Value} {d : DataW H} {p : List MemPlace} (hv : Value.okWide Tryz.prog W .any base' 46 v)
  (h : DataW.Trod enc Tryz.prog W base sp held 46 v d p) : ∃ (f : Int) (A : Option Addr) (n c : Nat) (os : List LA), v = .agg #[.int .i64 f, .slice A n c] /\ ArgLL W A n os := by
 obtain ⟨cs, rfl, _⟩ := okWide_struct Tryz.underlying46 hv;obtain ⟨fuel, hf⟩ := h;obtain ⟨y0, y1, n, _, hl, g0, g1⟩ := Go.ChangeShapes.trod_struct2 Tryz.underlying46 hf;rw [how_c] at hl;obtain ⟨l⟩ := cs;have hcl : (Value.agg ⟨l⟩).cells.toList = l := (by simp [Value.cells]);rw [hcl] at hl g0 g1;match l, hl with
 | [a, b], _ =>
  have g0' : DataW.trod enc Tryz.prog W base sp held n 3 (([a, b].drop 0).take (Tryz.prog.cellsOf 3)) = some y0 := g0;have g1' : DataW.trod enc Tryz.prog W base sp held n 44 (([a, b].drop 1).take (Tryz.prog.cellsOf 44)) = some y1 := g1;rw [how_ci] at g0';rw [how_cll] at g1';obtain ⟨f, e0, _, _⟩ := DataW.trod_int Tryz.underlying3 g0';obtain ⟨A, n2, c, os, e1, h2⟩ := open_lists (show DataW.trod enc Tryz.prog W base sp held n 44 [b] = some y1 from g1');simp at e0;subst e0 e1;exact ⟨f, A, n2, c, os, rfl, h2⟩
end
section
open Go.RowKit Go.Lib
theorem Rd.take {w : World} {A : Option Addr} {n : Nat} {xs : List Int} (h : Rd w A n (Rs xs)) {k : Nat} (hk : k <= n) : Rd w A k (Rs (xs.take k)) := by
 have hl : xs.length = n := (by have := h.1; simpa using this);refine ⟨by simp; omega, fun h0 => ?_⟩;obtain ⟨b, off, rfl, _, hc⟩ := h.at_ (by omega);refine ⟨b, off, rfl, fun j u hu => hc j u ?_⟩;have hj := (List.getElem?_eq_some_iff.1 hu).1;rw [<- hu];simp at hj;simp [List.getElem?_take];intro h;omega
theorem Rd.drop {w : World} {b off n : Nat} {xs : List Int} (h : Rd w (some ⟨b, off, none⟩) n (Rs xs)) {k : Nat} (hk : k <= n) : Rd w (some ⟨b, off + k, none⟩) (n - k) (Rs (xs.drop k)) := by
 have hl : xs.length = n := (by have := h.1; simpa using this);refine ⟨by simp; omega, fun h0 => ?_⟩;obtain ⟨b', off', e, _, hc⟩ := h.at_ (by omega);injection e with e;injection e with e1 e2 _;subst e1 e2;refine ⟨b, off + k, rfl, fun j u hu => ?_⟩;rw [Nat.add_assoc];refine hc (k + j) u ?_;rw [<- hu];simp
end
section
open Go.RowKit Go.Lib
def fewB (os : List LA) : Bool := (os.all fun x => decide (x.1.length <= 20)) && decide (os.length <= 20)
def FewTo (os : List LA) (k : Nat) : Prop := ∀ i x, i < k -> os[i]? = some x -> x.1.length <= 20
theorem fewB_not {os : List LA} {k : Nat} {x : LA} (h : os[k]? = some x) (hx : ¬ x.1.length <= 20) : fewB os = false := by
 unfold fewB
 have : (os.all fun x => decide (x.1.length <= 20)) = false := by
  rw [List.all_eq_false];exact ⟨x, List.mem_of_getElem? h, by simpa using hx⟩
 rw [this];rfl
theorem fewB_all {os : List LA} (h : FewTo os os.length) : fewB os = decide (os.length <= 20) := by
 unfold fewB
 have : (os.all fun x => decide (x.1.length <= 20)) = true := by
  rw [List.all_eq_true];intro x hx;obtain ⟨i, hi⟩ := List.getElem?_of_mem hx;exact decide_eq_true (h i x (List.getElem?_eq_some_iff.1 hi).1 hi)
 rw [this];rfl
theorem znn {os : List LA} (h : fewB os = true) : os.length <= 20 /\ ∀ x ∈ os, x.1.length <= 20 := by
 unfold fewB at h;rw [Bool.and_eq_true] at h;exact ⟨of_decide_eq_true h.2, fun x hx => of_decide_eq_true (List.all_eq_true.1 h.1 x hx)⟩
theorem zl8 (A : Option Addr) (n c : Nat) (os : List LA) (w : World) (h : ArgLL w A n os) : Calls Tryz.prog 18 #[.slice A n c] w fun e w' => e = .returned (.bool (fewB os)) /\ Below w.heap.size w w' := by
 have HL := hz0q h;have hmx := h.mx;have hml : maxLen = 9223372036854775807 := rfl;have hn63 : n <= 9223372036854775807 := (by omega);have HF0 : Hid (FewTo os 0) := fun i x hi => absurd hi (by omega);have HB0 : Hid (Below w.heap.size w w) := Below.refl _ _;clear h hmx hml;go_enter Tryz.func18, Tryz.ntmps18;go_wp2
 go_loopw [3] (fun i wr => ∃ k : Nat, k <= n /\ i = .int .i64 k /\ Hid (FewTo os k) /\ Hid (Below w.heap.size w wr)) (fun i _ => n - (intOf i).toNat)
 case atStart => exact ⟨0, Nat.zero_le _, rfl, HF0, HB0⟩
 case round =>
  obtain ⟨k, hk, rfl, HF, HBW⟩ := hrel
  by_cases hlt : k < n
  ·obtain ⟨b, off, x, rfl, _, hx, c0, _⟩ := (HL.out.below HBW.out).at_ hlt;obtain ⟨zs, Ax, cx⟩ := x;have hki : (k : Int) < (n : Int) := (by omega);have hk0 : (0 : Int) <= (k : Int) := (by omega);have hwk : IntKind.i64.wrap ((k : Int) + 1) = (k : Int) + 1 := IntWalk.i64_in _ (by omega);have HX := hz0q hx;simp only [laV] at c0;obtain ⟨zl, hzl⟩ : ∃ zl, zl = zs.length := ⟨_, rfl⟩;rw [<- hzl] at c0;have HZ := hz0q hzl;clear hx hzl
   by_cases h20 : zl <= 20
   ·have hz1 : ¬ (20 : Int) < (zl : Int) := by omega
    have HF2 : Hid (FewTo os (k + 1)) := fun i y hi hy => by
     by_cases hik : i < k
     ·exact HF.out i y hik hy
     ·obtain rfl : i = k := (by omega);rw [HX.out] at hy;injection hy with hy;rw [<- hy];show zs.length <= 20;rw [<- HZ.out];exact h20
    go_wp2;go_roundw
    case rel => exact ⟨k + 1, by omega, by go_num, HF2, HBW⟩
    case measure => simp [intOf]; omega
   ·have hz1 : (20 : Int) < (zl : Int) := (by omega);have HR : Hid (fewB os = false) := fewB_not HX.out (by show ¬ zs.length <= 20; rw [<- HZ.out]; exact h20);go_wp2;go_returns;exact ⟨by rw [HR.out] <;> rfl, HBW.out⟩
  ·obtain rfl : k = n := (by omega);have hki : ¬ (k : Int) < (k : Int) := by omega
   have HR : Hid (fewB os = decide ((k : Int) <= 20)) := by
    show _ = _;rw [fewB_all (by rw [HL.out.len]; exact HF.out), HL.out.len];exact decide_eq_decide.2 (by omega)
   go_wp2;go_returns;exact ⟨by rw [HR.out] <;> rfl, HBW.out⟩
end
end Go.Proofs.YtfdelmodmadoaaaGreatDoor
