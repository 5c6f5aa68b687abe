/- Whether a character leads back to itself: plain words, and the document's code. How many characters one is: the document's code. Lists of lists of characters in memory; how decomp.Runs cuts: plain. -/
import Derived.Test.YtkocaoeednmkpaaGreatDoorH28
set_option linter.unusedSimpArgs false
set_option linter.unusedVariables false
set_option maxRecDepth 20000
set_option maxHeartbeats 4000000
namespace Go.Proofs.YtkocaoeednmkpaaGreatDoor
section
open Go.RowKit
structure BkP (D : Int -> List Int) (r : Int) (todo : List Int) (i : Nat) : Prop where
 sub : ∀ y ∈ D r, y ∈ todo
 cl : ∀ (j : Nat) x, j < i -> todo[j]? = some x -> ∀ y ∈ D x, y ∈ todo
 ne : ∀ (j : Nat) x, j < i -> todo[j]? = some x -> x ≠ r
 shape : ∃ l0 rest : List Int, todo = l0 ++ rest /\ l0.length <= 18 /\ rest.Nodup /\ ∀ x ∈ rest, x ∈ allR
 all : ∀ x ∈ todo, x ∈ allR
section
variable {D : Int -> List Int} {r : Int} {todo : List Int} {i : Nat}
theorem BkP.start (hD : ∀ y ∈ D r, y ∈ allR) (hl : (D r).length <= 18) : BkP D r (D r) 0 := ⟨fun y hy => hy, fun j x h => absurd h (Nat.not_lt_zero _), fun j x h => absurd h (Nat.not_lt_zero _), ⟨D r, [], by simp, hl, List.nodup_nil, by simp⟩, hD⟩
theorem BkP.len (h : BkP D r todo i) : todo.length <= 1114130 := by
 obtain ⟨l0, rest, e, h1, h2, h3⟩ := h.shape;have := zn9 h2 h3;rw [zk1] at this;rw [e, List.length_append];omega
theorem BkP.push (h : BkP D r todo i) (hi : i < todo.length) {y : Int} (hy : y ∈ allR) (hn : y ∉ todo) : BkP D r (todo ++ [y]) i := by
 obtain ⟨l0, rest, e, h1, h2, h3⟩ := h.shape;have hlt : ∀ {j x}, j < i -> (todo ++ [y])[j]? = some x -> todo[j]? = some x := fun {j x} hj hx => by rwa [List.getElem?_append_left (by omega)] at hx
 refine ⟨fun z hz => List.mem_append.2 (.inl (h.sub z hz)), fun j x hj hx z hz => List.mem_append.2 (.inl (h.cl j x hj (hlt hj hx) z hz)), fun j x hj hx => h.ne j x hj (hlt hj hx), ⟨l0, rest ++ [y], by rw [e, List.append_assoc], h1, ?_, ?_⟩, ?_⟩
 ·rw [List.nodup_append];refine ⟨h2, by simp, fun a ha b hb => ?_⟩;rw [List.mem_singleton] at hb;subst hb;rintro rfl;exact hn (by rw [e]; exact List.mem_append.2 (.inr ha))
 ·intro x hx;rcases List.mem_append.1 hx with hx | hx
  ·exact h3 x hx
  ·rw [List.mem_singleton] at hx; subst hx; exact hy
 ·intro x hx;rcases List.mem_append.1 hx with hx | hx
  ·exact h.all x hx
  ·rw [List.mem_singleton] at hx; subst hx; exact hy
theorem BkP.next (h : BkP D r todo i) {x : Int} (hx : todo[i]? = some x) (hn : x ≠ r) (hc : ∀ y ∈ D x, y ∈ todo) : BkP D r todo (i + 1) := by
 refine ⟨h.sub, fun j z hj hz => ?_, fun j z hj hz => ?_, h.shape, h.all⟩
 ·by_cases e : j = i
  ·subst e; rw [hx] at hz; injection hz with hz; subst hz; exact hc
  ·exact h.cl j z (by omega) hz
 ·by_cases e : j = i
  ·subst e; rw [hx] at hz; injection hz with hz; subst hz; exact hn
  ·exact h.ne j z (by omega) hz
theorem BkP.done (h : BkP D r todo todo.length) : ¬ Down D r r := by
 have key : ∀ y, Down D r y -> y ∈ todo := fun y hy => by
  induction hy with
  | one hy => exact h.sub _ hy
  | more _ hz ih =>
   obtain ⟨j, hj⟩ := List.getElem?_of_mem ih;exact h.cl j _ (List.getElem?_eq_some_iff.1 hj).1 hj _ hz
 intro hd;obtain ⟨j, hj⟩ := List.getElem?_of_mem (key r hd);exact h.ne j r (List.getElem?_eq_some_iff.1 hj).1 hj rfl
end
def Apt (Am : Option Addr) (m : List Int) (v : Value) : Prop := ∀ g, v.ownBlock = some g -> ∀ a, Am = some a -> 0 < m.length -> a.block ≠ g
def BkM (w wr : World) (s7 : Value) (todo : List Int) : Prop := ∃ A c, s7 = .slice A todo.length c /\ wr.ownsRow w.heap.size 21 1 (.slice A todo.length c) todo.length (Rs todo) /\ Below w.heap.size w wr
def BackP (D : Int -> List Int) (r : Int) (w : World) (e : Ending) (w' : World) : Prop := (∃ b, e = .returned (.bool b) /\ (b = false -> ¬ Down D r r)) /\ Below w.heap.size w w'
section
variable {w w' : World} {rp : Nat} {os : List RA} {out : List Int} {A A2 : Option Addr} {c c2 : Nat}
theorem rback_any (h : RefM w rp os out A A2 c c2) (g : RowsG (os.map (·.1))) (r : Int) (hr : r ∈ allR) : Calls Tryz.prog 65 #[.pointer (some ⟨rp, 0, none⟩), .int .i32 r] w (BackP (fun x => (decH (prtL (os.map (·.1))) x).2) r w) := by
 obtain ⟨D, hD⟩ : ∃ D, D = fun x => (decH (prtL (os.map (·.1))) x).2 := ⟨_, rfl⟩
 have DC : Hid (∀ W z, Below w.heap.size w W -> R32 z -> Calls Tryz.prog 96 #[.pointer (some ⟨rp, 0, none⟩), .int .i32 z] W (RDecP w (decH (prtL (os.map (·.1))) z).1 (D z) W)) := fun W z hb hz => by
  rw [hD]; exact zfc h hb g z hz
 have HA : Hid (∀ x, ∀ y ∈ D x, y ∈ allR) := fun x => by rw [hD]; exact zip (fun r q hq => (g.into r q hq).2.1) x
 have HL : Hid (∀ x, (D x).length <= 18) := fun x => by rw [hD]; exact zkv (fun r q hq => (g.into r q hq).2.2.1) x
 rw [<- hD];have D0 := DC.out w r (Below.refl _ _) (zcm hr);have hl0 := HL.out r;clear hD h g hr;obtain ⟨kd, hkd⟩ : ∃ kd, kd = (decH (prtL (os.map (·.1))) r).1 := ⟨_, rfl⟩;rw [<- hkd] at D0;clear hkd;have hone := ziz (D r);have HONE := hz0q hone;clear hone;go_enter Tryz.func65, Tryz.ntmps65;go_wp2_with fail;refine D0.mono ?_;rintro e w1 ⟨Ad, cd, rfl, hrd, hb1, _⟩;clear D0;have hown0 : w1.ownsRow w.heap.size 21 1 (.slice none 0 0) 0 [] := World.ownsRow_nil _ _ _ _;go_wp2_with (at_builtin; refine z6 zab _ rfl _ _ rfl w.heap.size rfl hown0 rfl hrd HONE.out (by omega) (by omega) hb1.size ?_)
 intro A3 c3 w3 hown3 hg3 hat3;have hb3 := zbb hb1 hb1.size hown0 hg3;have hM0 : BkM w w3 (.slice A3 (D r).length c3) (D r) := ⟨A3, c3, rfl, by simpa using hown3, hb3⟩;have HP0 := hz0q (BkP.start (HA.out r) hl0);clear hown3 hg3 hat3 hown0 hrd hb3 hb1;go_wp2
 go_loopw [7, 8] (fun s7 i wr => ∃ (todo : List Int) (k : Nat), i = .int .i64 k /\ k <= todo.length /\ Hid (BkP D r todo k) /\ BkM w wr s7 todo) (fun _ i _ => 1200000 - (intOf i).toNat)
 case atStart => exact ⟨D r, 0, rfl, Nat.zero_le _, HP0, hM0⟩
 case round =>
  obtain ⟨todo, k, rfl, hk, HP, A4, c4, rfl, hown, hb⟩ := hrel;have hlen := HP.out.len
  by_cases hlt : k < todo.length
  ·obtain ⟨x, hx⟩ : ∃ x, todo[k]? = some x := ⟨_, List.getElem?_eq_getElem hlt⟩;obtain ⟨A5, c5, he5, _, _, hrdt⟩ := Rd.of_own hown;injection he5 with e1 _ e3;subst e1 e3;obtain ⟨b, off, rfl, hbl, hc⟩ := hrdt.at_ (by omega);have c0 : wr.cell? ⟨b, off + k, none⟩ = some (.int .i32 x) := hc k _ (by simp [Rs, hx]);have hi : (k : Int) < (todo.length : Int) := (by omega);have HX := hz0q hx;have hxa := HP.out.all x (List.mem_of_getElem? hx)
   by_cases hxr : x = r
   ·have hxe : (x == r) = true := (by simpa using hxr);clear hx hc hxr hrdt hown;go_wp2;go_returns;exact ⟨⟨true, rfl, fun h => by cases h⟩, hb⟩
   ·have hxe : (x == r) = false := (by simpa using hxr);have HXR := hz0q hxr;have DX := DC.out wr x hb (zcm hxa);obtain ⟨kx, hkx⟩ : ∃ kx, kx = (decH (prtL (os.map (·.1))) x).1 := ⟨_, rfl⟩;rw [<- hkx] at DX;obtain ⟨m, hm⟩ : ∃ m, m = D x := ⟨_, rfl⟩;rw [<- hm] at DX;have HMX := hz0q hm;have hml : m.length <= 18 := (by rw [hm]; exact HL.out x);clear hx hc hxr hkx hm hrdt;go_wp2_with fail;refine DX.mono ?_;rintro e w2 ⟨Am, cm, rfl, hrm, hb2, hloc⟩;have hown2 := z8 hown hb2;have hbb := zb hb hb2;have hob : ∀ v, wr.ownsRow w.heap.size 21 1 v todo.length (Rs todo) -> True := fun _ _ => trivial;have HLOC : Hid (∀ a, Am = some a -> 0 < m.length -> a.block < w.heap.size \/ wr.heap.size <= a.block) := hloc;have hs2 := hb2.size;clear DX c0 hown hloc hob;go_wp2
    have hA0 : Apt Am m (.slice (some ⟨b, off, none⟩) todo.length c4) := fun g hg a ha h0l => by
     rcases hown2.2 with ⟨hv, _⟩ | ⟨g', cap, cur, hv, hbase, hgb, _⟩
     ·cases hv
     ·injection hv with e1 _ _;injection e1 with e1;injection e1 with e1 _;simp [Value.ownBlock] at hg;have := HLOC.out a ha h0l;omega
    go_loopw [7, 11] (fun s7 i2 wr2 => ∃ (td2 : List Int) (k2 : Nat), i2 = .int .i64 k2 /\ k2 <= m.length /\ Hid (BkP D r td2 k /\ k < td2.length /\ td2[k]? = some x /\ ∀ y ∈ m.take k2, y ∈ td2) /\ BkM w wr2 s7 td2 /\ Rd wr2 Am m.length (Rs m) /\ Apt Am m s7) (fun _ i2 _ => m.length - (intOf i2).toNat)
    case atStart => exact ⟨todo, 0, rfl, Nat.zero_le _, ⟨HP.out, hlt, HX.out, by simp⟩, ⟨_, _, rfl, hown2, hbb⟩, hrm, hA0⟩
    case round =>
     obtain ⟨td2, k2, rfl, hk2, HB2, ⟨A6, c6, rfl, hown6, hb6⟩, hrm6, hap6⟩ := hrel;have hlen6 := HB2.out.1.len;have hk6 := HB2.out.2.1
     by_cases hlt2 : k2 < m.length
     ·obtain ⟨y, hy⟩ : ∃ y, m[k2]? = some y := ⟨_, List.getElem?_eq_getElem hlt2⟩;have hi2 : (k2 : Int) < (m.length : Int) := (by omega);obtain ⟨A7, c7, he7, _, _, hrd7⟩ := Rd.of_own hown6;injection he7 with e1 _ e3;subst e1 e3;obtain ⟨bm, om, rfl, hblm, hcm⟩ := hrm6.at_ (by omega);obtain ⟨bt, ot, rfl, hblt, hct⟩ := hrd7.at_ (by omega);have cm : wr.cell? ⟨bm, om + k2, none⟩ = some (.int .i32 y) := hcm k2 _ (by simp [Rs, hy]);have HCT := hz0q hct;have HY := hz0q hy;have HOW := hz0q hown6;have HRM := hz0q hrm6;have HAP := hz0q hap6;clear hct hcm hy hrd7 hown6 hrm6 hap6;obtain ⟨wo, hwo⟩ : ∃ wo, wo = wr := ⟨wr, rfl⟩;have HWO := hz0q hwo;clear hwo;go_wp2
      go_loopw [12, 13] (fun s12 s13 wr3 => ∃ j : Nat, j <= td2.length /\ s13 = .int .i64 j /\ s12 = .bool (decide (y ∈ td2.take j)) /\ Hid (Drew wo wr3)) (fun _ s13 _ => td2.length - (intOf s13).toNat)
      case atStart => exact ⟨0, Nat.zero_le _, rfl, by simp, by show Drew _ _; rw [HWO.out]; exact Drew.refl _⟩
      case round =>
       obtain ⟨j, hj, rfl, rfl, HDR⟩ := hrel;obtain ⟨nd, hnd⟩ := HDR.out;rw [HWO.out] at hnd
       by_cases hjl : j < td2.length
       ·obtain ⟨z, hz⟩ : ∃ z, td2[j]? = some z := ⟨_, List.getElem?_eq_getElem hjl⟩;have hij : (j : Int) < (td2.length : Int) := (by omega);have d1 : wr.cell? ⟨bt, ot + j, none⟩ = some (.int .i32 z) := (by rw [hnd]; exact HCT.out j _ (by simp [Rs, hz]));have d2 : wr.cell? ⟨bm, om + k2, none⟩ = some (.int .i32 y) := (by rw [hnd]; exact cm);have HZ := hz0q hz;have HND := hz0q hnd;clear hz hnd cm;obtain ⟨sb, hsb⟩ : ∃ sb, sb = decide (y ∈ td2.take j) := ⟨_, rfl⟩;rw [<- hsb];have HSB := hz0q hsb;clear hsb
        cases sb with
        | true =>
         have HN : Hid (decide (y ∈ td2.take (j + 1)) = true) := by
          show _ = _;have := of_decide_eq_true HSB.out.symm;refine decide_eq_true ?_;rw [List.take_add_one];exact List.mem_append.2 (.inl this)
         go_wp2;go_quiet (fail)
         go_wp2;go_roundw
         case rel => exact ⟨j + 1, by omega, by go_num, by rw [HN.out], HDR.out.trans ⟨_, rfl⟩⟩
         case measure => simp [intOf]; omega
        | false =>
         have hny := of_decide_eq_false HSB.out.symm
         by_cases hzy : z = y
         ·have HN : Hid (decide (y ∈ td2.take (j + 1)) = true) := by
           show _ = _;refine decide_eq_true ?_;rw [List.take_add_one, HZ.out, hzy];simp
          have hze : (z == y) = true := (by simpa using hzy);clear hny hzy;go_wp2;go_quiet (fail)
          go_wp2;go_roundw
          case rel => exact ⟨j + 1, by omega, by go_num, by rw [HN.out], HDR.out.trans ⟨_, rfl⟩⟩
          case measure => simp [intOf]; omega
         ·have HN : Hid (decide (y ∈ td2.take (j + 1)) = false) := by
           show _ = _;refine decide_eq_false ?_;rw [List.take_add_one, HZ.out];intro hm;rcases List.mem_append.1 hm with hm | hm
           ·exact hny hm
           ·simp at hm; exact hzy hm.symm
          have hze : (z == y) = false := (by simpa using hzy);clear hny hzy;go_wp2;go_quiet (fail)
          go_wp2;go_roundw
          case rel => exact ⟨j + 1, by omega, by go_num, by rw [HN.out], HDR.out.trans ⟨_, rfl⟩⟩
          case measure => simp [intOf]; omega
       ·obtain rfl : j = td2.length := (by omega);have hij : (td2.length : Int) <= (td2.length : Int) := Int.le_refl _;rw [List.take_length];have hbd : Below wo.heap.size wo wr := HDR.out.to;rw [HWO.out] at hbd;have hownD := z8 HOW.out hbd;have hrmD := HRM.out.below hbd;have hbW := zb hb6 hbd;have d2 := (hbd.cell (p := ⟨bm, om + k2, none⟩) hblm).trans cm;have hya : y ∈ allR := HA.out x y (by rw [<- HMX.out]; exact List.mem_of_getElem? HY.out);have HTK : Hid (m.take (k2 + 1) = m.take k2 ++ [y]) := (by show _ = _; rw [List.take_add_one, HY.out]; rfl);clear hbd cm hnd
        by_cases hym : y ∈ td2
        ·have hdt : decide (y ∈ td2) = true := decide_eq_true hym;rw [hdt]
         have HN : Hid (BkP D r td2 k /\ k < td2.length /\ td2[k]? = some x /\ ∀ y ∈ m.take (k2 + 1), y ∈ td2) := ⟨HB2.out.1, HB2.out.2.1, HB2.out.2.2.1, fun u hu => by
          rw [HTK.out] at hu;rcases List.mem_append.1 hu with hu | hu
          ·exact HB2.out.2.2.2 u hu
          ·rw [List.mem_singleton] at hu; subst hu; exact hym⟩
         have hM2 : BkM w wr (.slice (some ⟨bt, ot, none⟩) td2.length c6) td2 := ⟨_, c6, rfl, hownD, hbW⟩;have hap := HAP.out;clear hdt hym hownD hbW;go_wp2;go_roundw
         case rel => exact ⟨td2, k2 + 1, by go_num, by omega, HN, hM2, hrmD, hap⟩
         case measure => simp [intOf]; omega
        ·have hdt : decide (y ∈ td2) = false := decide_eq_false hym;rw [hdt]
         have HN : Hid (BkP D r (td2 ++ [y]) k /\ k < (td2 ++ [y]).length /\ (td2 ++ [y])[k]? = some x /\ ∀ z ∈ m.take (k2 + 1), z ∈ td2 ++ [y]) := ⟨HB2.out.1.push HB2.out.2.1 hya hym, by simp; omega, by rw [List.getElem?_append_left HB2.out.2.1]; exact HB2.out.2.2.1, fun u hu => by
          rw [HTK.out] at hu;rcases List.mem_append.1 hu with hu | hu
          ·exact List.mem_append.2 (.inl (HB2.out.2.2.2 u hu))
          ·exact List.mem_append.2 (.inr hu)⟩
         clear hdt hym;have hbs := hbW.size;go_wp2_with (at_builtin; refine z6 zab _ rfl _ _ rfl w.heap.size rfl (hownD.alloc _) rfl (Rd.new1 _ _ _) (zci rfl) (by omega) (by omega) (by simp; omega) ?_)
         intro A9 c9 w9 hown9 hg9 hat9;have hb9 := zbb (hbW.alloc (by omega) _) (by simp; omega) (hownD.alloc _) hg9;have hM2 : BkM w w9 (.slice A9 (td2.length + 1) c9) (td2 ++ [y]) := ⟨A9, c9, by simp, by simpa [Rs] using hown9, hb9⟩
         have hrm9 : Rd w9 (some ⟨bm, om, none⟩) m.length (Rs m) := (hrmD.alloc _).grown hg9 (fun a ha e => by
          have := HAP.out bt (by simp [Value.ownBlock]) a ha (by omega);simp [Value.ownBlock] at e
          exact this e.symm)
         have hap9 : Apt (some ⟨bm, om, none⟩) m (.slice A9 (td2.length + 1) c9) := fun g hg a ha h0l => by
          rcases hat9 with h | h
          ·rw [h] at hg;exact HAP.out g hg a ha h0l
          ·rw [h] at hg;injection hg with hg;injection ha with ha;subst ha hg;have := hrmD.at_ h0l;obtain ⟨b', o', e, hlt', _⟩ := this;injection e with e;injection e with e _;simp;omega
         clear hown9 hg9 hat9 hownD hbW hrmD hb9;go_wp2;go_roundw
         case rel => exact ⟨td2 ++ [y], k2 + 1, by go_num, by omega, HN, hM2, hrm9, hap9⟩
         case measure => simp [intOf]; omega
     ·obtain rfl : k2 = m.length := (by omega);have hi2 : (m.length : Int) <= (m.length : Int) := Int.le_refl _;have hM2 : BkM w wr (.slice A6 td2.length c6) td2 := ⟨A6, c6, rfl, hown6, hb6⟩;have HN : Hid (BkP D r td2 (k + 1)) := HB2.out.1.next HB2.out.2.2.1 HXR.out fun y hy => HB2.out.2.2.2 y (by rw [List.take_length, HMX.out]; exact hy);clear hown6 hrm6 hap6;go_wp2;go_roundw
      case rel => exact ⟨td2, k + 1, by go_num, by omega, HN, hM2⟩
      case measure => simp [intOf]; omega
  ·obtain rfl : k = todo.length := (by omega);have hi : (todo.length : Int) <= (todo.length : Int) := Int.le_refl _;have HD := hz0q HP.out.done;go_wp2;go_returns;exact ⟨⟨false, rfl, fun _ => HD.out⟩, hb⟩
end
end
section
open Go.RowKit
def zqt (w : World) (e : Ending) (w' : World) : Prop := (∃ v : Int, e = .returned (.int .i64 v) /\ 1 <= v /\ v <= 19) /\ Below w.heap.size w w'
section
variable {w0 : World} {rp : Nat} {os : List RA} {out : List Int} {A A2 : Option Addr} {c c2 : Nat}
theorem rmany_any (h : RefM w0 rp os out A A2 c c2) (g : RowsG (os.map (·.1))) (r : Int) (hE : Ends (fun x => (decH (prtL (os.map (·.1))) x).2) r) : ∀ (w : World), Below w0.heap.size w0 w -> R32 r ->
  Calls Tryz.prog 66 #[.pointer (some ⟨rp, 0, none⟩), .int .i32 r] w (zqt w) := by
 induction hE with
 | intro r hacc ih =>
  intro w hb hr;have D0 := zfc h hb g r hr;have hR : ∀ y ∈ (decH (prtL (os.map (·.1))) r).2, R32 y := (zj2 (prt := prtL (os.map (·.1))) (fun r q hq => by obtain ⟨_, h1, h2, _⟩ := g.into r q hq; exact ⟨fun y hy => zcm (h1 y hy), h2⟩) r).1;have hL : (decH (prtL (os.map (·.1))) r).2.length <= 18 := (zj2 (prt := prtL (os.map (·.1))) (fun r q hq => by obtain ⟨_, h1, h2, _⟩ := g.into r q hq; exact ⟨fun y hy => zcm (h1 y hy), h2⟩) r).2;obtain ⟨il, hil⟩ : ∃ il, il = (decH (prtL (os.map (·.1))) r).2 := ⟨_, rfl⟩;obtain ⟨kd, hkd⟩ : ∃ kd, kd = (decH (prtL (os.map (·.1))) r).1 := ⟨_, rfl⟩;have HIH : Hid (∀ y ∈ il, ∀ W, Below w0.heap.size w0 W -> Calls Tryz.prog 66 #[.pointer (some ⟨rp, 0, none⟩), .int .i32 y] W (zqt W)) := fun y hy W hW => ih y (by rw [hil] at hy; exact hy) W hW (hR y (by rw [hil] at hy; exact hy));rw [<- hil, <- hkd] at D0;rw [<- hil] at hL;clear ih hR hacc hil hkd h g
  by_cases h0 : il = []
  ·subst h0;go_enter Tryz.func66, Tryz.ntmps66;go_wp2_with fail;refine D0.mono ?_;rintro e w1 ⟨Ad, cd, rfl, _, hb1, _⟩;clear D0;go_wp2;go_returns;exact ⟨⟨1, rfl, by omega, by omega⟩, hb1⟩
  ·have hpos : 0 < il.length := List.length_pos_iff.2 h0;have hne : ((il.length : Int) == 0) = false := (by simpa using h0);clear h0;go_enter Tryz.func66, Tryz.ntmps66;go_wp2_with fail;refine D0.mono ?_;rintro e w1 ⟨Ad, cd, rfl, hrd, hb1, _⟩;have HRD := hz0q hrd;have HB0 := hz0q (zb hb hb1);clear D0 hrd;go_wp2
   go_loopw [7, 8] (fun s7 s8 wr => ∃ (n : Int) (k : Nat), s7 = .int .i64 n /\ s8 = .int .i64 k /\ 0 <= n /\ n <= 37 /\ (0 < k -> 1 <= n) /\ k <= il.length /\ Below w1.heap.size w1 wr) (fun _ s8 _ => il.length - (intOf s8).toNat)
   case atStart => exact ⟨0, 0, rfl, rfl, by omega, by omega, fun h => absurd h (by omega), Nat.zero_le _, Below.refl _ _⟩
   case round =>
    obtain ⟨n, k, rfl, rfl, hn0, hn1, hn2, hk, hbw⟩ := hrel
    by_cases hlt : k < il.length
    ·have hi : (k : Int) < (il.length : Int) := by omega
     by_cases h19 : n < 19
     ·obtain ⟨y, hy⟩ : ∃ y, il[k]? = some y := ⟨_, List.getElem?_eq_getElem hlt⟩;obtain ⟨b, off, rfl, hbl, hc⟩ := HRD.out.at_ (by omega);have c0 : wr.cell? ⟨b, off + k, none⟩ = some (.int .i32 y) := (hbw.cell (p := ⟨b, off + k, none⟩) hbl).trans (hc k _ (by simp [Rs, hy]));have MY := HIH.out y (List.mem_of_getElem? hy) wr (zb HB0.out hbw);clear hy hc;go_wp2_with fail;refine MY.mono ?_;rintro e w2 ⟨⟨v, rfl, hv1, hv2⟩, hb2⟩;have hb3 := zb hbw hb2;clear MY c0;go_wp2;go_roundw
      case rel => exact ⟨n + v, k + 1, rfl, by go_num, by omega, by omega, fun _ => by omega, by omega, hb3⟩
      case measure => simp [intOf]; omega
     ·have h19' : ¬ n < 19 := h19;have hmin : min n 19 = 19 := (by omega);go_wp2;go_returns;exact ⟨⟨_, rfl, by first | omega | (rw [hmin]; omega), by first | omega | (rw [hmin]; omega)⟩, zb hb1 hbw⟩
    ·obtain rfl : k = il.length := (by omega);have hi : (il.length : Int) <= (il.length : Int) := Int.le_refl _;have hn3 := hn2 hpos;go_wp2;go_returns;exact ⟨⟨_, rfl, by omega, by omega⟩, zb hb1 hbw⟩
end
end
section
open Go.RowKit
abbrev LA := List Int × Option Addr × Nat
section
variable {w w' : World} {B : Nat} {os : List LA} {A : Option Addr} {c : Nat}
end
section
variable {B : BaseF} {xs : List Int} {k fr : Nat} {out : List (List Int)}
end
end
end Go.Proofs.YtkocaoeednmkpaaGreatDoor
