/- Characters that lines of ranges tell: the document's answer. -/
import Derived.Test.YtobleaiecnpcoaaGreatDoorH02
import Derived.Test.YtobleaiecnpcoaaGreatDoorH01
import Derived.Test.YtobleaiecnpcoaaGreatDoorH03
import Derived.Test.YtobleaiecnpcoaaGreatDoorH06
import Derived.Test.YtobleaiecnpcoaaGreatDoorH09
import Derived.Test.YtobleaiecnpcoaaGreatDoorH04
import Derived.Test.YtobleaiecnpcoaaGreatDoorH10
import Derived.Test.YtobleaiecnpcoaaGreatDoorH32
import Derived.Test.YtobleaiecnpcoaaGreatDoorH13
import Derived.Test.YtobleaiecnpcoaaGreatDoorH14
import Derived.Test.YtobleaiecnpcoaaGreatDoorH20
import Derived.Test.YtobleaiecnpcoaaGreatDoorH15
import Derived.Test.YtobleaiecnpcoaaGreatDoorH18
set_option linter.unusedSimpArgs false
set_option linter.unusedVariables false
namespace Go.Proofs.YtobleaiecnpcoaaGreatDoor
section
open Go.RowKit
theorem rsplit59 (l : List UInt8) (w : World) (hs : l.length ≤ 512) :
  Calls Tryz.prog 58 #[.string (mk8 l), .int .u8 59] w (FreshS w ((cutL 59 l).map bareL)) := by
 have := rsplit_str (mk8 l) 59 w (by rw [mk8_size]; omega)
 rw [bs_mk8] at this
 exact this
theorem rrangeZ (l : List UInt8) (w : World) (hs : l.length ≤ 512) :
  Calls Tryz.prog 57 #[.string (mk8 l)] w fun e w' => e = .returned (.tuple #[.int .i32 (rangeS l).1, .int .i32 (rangeS l).2.1, .int .i64 (rangeS l).2.2]) ∧ Drew w w' := by
 have := rrange_any (mk8 l) w (by rw [mk8_size]; omega)
 rw [bs_mk8] at this
 exact this
def FullI (fu : Bool) (out : List Int) (ra : Int) (N : Nat) (o2 : List Int) (j : Nat) : Prop :=
 (fu = false ∧ addW out ra N = addW o2 (ra + (j : Int)) (N - j)) ∨ (fu = true ∧ (addW out ra N).2 = true)
theorem ins_done {P Q : List Int} {x : Int} (hpw : (P ++ Q).Pairwise (· ≤ ·)) (hQ : ∀ y ∈ Q, x ≤ y) (h : P = [] ∨ ∃ P' p, P = P' ++ [p] ∧ p ≤ x) : (P ++ x :: Q).Pairwise (· ≤ ·) := by
 rw [List.pairwise_append] at hpw ⊢
 obtain ⟨h1, h2, h3⟩ := hpw
 refine ⟨h1, List.pairwise_cons.2 ⟨hQ, h2⟩, fun a ha b hb => ?_⟩
 rcases List.mem_cons.1 hb with rfl | hb
 ·rcases h with h | ⟨P', p, hP, hpx⟩
  ·rw [h] at ha; simp at ha
  ·rw [hP] at ha h1
   rcases List.mem_append.1 ha with ha | ha
   ·have := (List.pairwise_append.1 h1).2.2 a ha p (by simp)
    omega
   ·rw [List.mem_singleton] at ha
    omega
 ·exact h3 a ha b hb
set_option maxRecDepth 20000 in
set_option maxHeartbeats 8000000 in
theorem rsets_any (s : ByteArray) (w : World) (hs : s.size ≤ 1073741824) :
  Calls Tryz.prog 33 #[.string s] w (FreshSets w (setsS (bs s))) := by
 have LN := rlines_any s w hs
 have hlo := linesS_ok (bs s)
 unfold setsS
 obtain ⟨⟨L, e0⟩, hL⟩ : ∃ z, z = linesS (bs s) := ⟨_, rfl⟩
 rw [← hL] at LN hlo ⊢
 simp only [] at hlo ⊢
 clear hL
 by_cases he : e0 = 0
 ·subst he
  rw [if_neg (show ¬ ((0 : Int) ≠ 0) by simp)]
  have HLO := Lib.hid hlo
  have hll := hlo.2
  clear hlo
  obtain ⟨R, hR⟩ : ∃ R, R = setsE (setsW [] L) := ⟨_, rfl⟩
  rw [← hR]
  have HR := Lib.hid hR
  clear hR
  go_enter Tryz.func33, Tryz.ntmps33
  go_wp2_with fail
  refine LN.mono ?_
  intro e w1 hF
  obtain ⟨A, c, rfl, hr, hb1⟩ := hF.rd
  have HB1 := Lib.hid hb1
  clear hF LN hb1
  have HRW : Hid (setsW [] L = setsW [] (L.drop 0)) := rfl
  go_wp2
  go_loopw [8, 7] (fun i o wr => ∃ (k : Nat) (out : List Int) (Ao : Option Addr) (co : Nat), k ≤ L.length ∧ i = .int .i64 k ∧ o = .slice Ao out.length co ∧ out.length ≤ 4096 ∧ wr.ownsRow w1.heap.size 21 1 (.slice Ao out.length co) out.length (Rs out) ∧ Hid (setsW [] L = setsW out (L.drop k)) ∧ Below w1.heap.size w1 wr) (fun i _ _ => L.length - (intOf i).toNat)
  case atStart => exact ⟨0, [], none, 0, Nat.zero_le _, rfl, rfl, by simp, World.ownsRow_nil _ _ _ _, HRW, Below.refl _ _⟩
  case round =>
   obtain ⟨k, out, Ao, co, hk, rfl, rfl, hol, hown, HW, hb⟩ := hrel
   clear HRW
   by_cases hin : k < L.length
   ·have hi : (k : Int) < (L.length : Int) := by omega
    obtain ⟨⟨l1, l2⟩, hl⟩ : ∃ l, L[k]? = some l := ⟨_, List.getElem?_eq_getElem hin⟩
    have hz : l2.length ≤ 512 := HLO.out.1 _ (List.mem_of_getElem? hl)
    have hd := drop_get hl
    obtain ⟨b0, off0, hAe, hblow, _⟩ := hr.at_ (by omega) (by omega)
    obtain ⟨b, off, rfl, hbl, hcx⟩ := (hr.below (by omega) hb).at_ (by omega) (by omega)
    injection hAe with hAe
    injection hAe with hAb hAo _
    subst hAb
    subst hAo
    have HLOW : Hid (b < w1.heap.size) := hblow
    have cx1 := hcx _ _ (Ls_at L k _ hl).1
    have cx2 := hcx _ _ (Ls_at L k _ hl).2
    rw [← Nat.add_assoc] at cx2
    simp only [] at cx1 cx2
    clear hcx hblow
    have HST : Hid (setsW [] L = setsW out ((l1, l2) :: L.drop (k + 1))) := by show _ = _; rw [HW.out, hd]
    have hfl := fldS_len l2
    obtain ⟨fl, hfe⟩ : ∃ fl, fl = fldS l2 := ⟨_, rfl⟩
    obtain ⟨ps, hps⟩ := fldS_get l2
    have SP := fun w => rsplit59 l2 w hz
    rw [hps, ← hfe] at SP
    have HPS : Hid ((Ss (fl :: ps))[0]? = some (Value.string (mk8 fl))) := rfl
    have RG := fun w => rrangeZ fl w (by rw [hfe]; omega)
    have hok := rangeS_ok (l := fl)
    have HSS : Hid (setStep out l2 = setR out (rangeS fl)) := by show _ = _; rw [hfe]; rfl
    obtain ⟨⟨ra, rb, re⟩, hrg⟩ : ∃ z, z = rangeS fl := ⟨_, rfl⟩
    rw [← hrg] at RG hok HSS
    simp only [] at RG hok
    clear hfe hrg hd hps hl hfl hz
    have HOWN := Lib.hid hown
    have HB := Lib.hid hb
    clear hown hb
    by_cases hre : re = 0
    ·subst hre
     obtain ⟨ok1, ok2, ok3⟩ := hok rfl
     obtain ⟨N, hN⟩ : ∃ N, N = (rb - ra + 1).toNat := ⟨_, rfl⟩
     have hNb : (N : Int) = rb - ra + 1 := by omega
     have HSA : Hid (setAdd out ra rb = addW out ra N) := by show _ = _; unfold setAdd; rw [hN]
     have HTH : Hid (out.any (betw ra rb) = true → R = ([], l1, 12)) := by
      show _ → _
      intro hany
      have hse : setStep out l2 = (out, 12) := by rw [HSS.out]; unfold setR; rw [if_neg (by simp), if_pos hany]
      rw [HR.out, HST.out, setsW_bad (by rw [hse]; simp), hse]
      show (srt [], _, _) = _
      simp [srt]
     have HFU : Hid (out.any (betw ra rb) = false → (addW out ra N).2 = true → R = ([], l1, 14)) := by
      show _ → _ → _
      intro hany hf
      have hse : setStep out l2 = (out, 14) := by rw [HSS.out]; unfold setR; rw [if_neg (by simp), if_neg (by simp [hany]), if_pos (by rw [HSA.out]; exact hf)]
      rw [HR.out, HST.out, setsW_bad (by rw [hse]; simp), hse]
      show (srt [], _, _) = _
      simp [srt]
     have HGO : Hid (out.any (betw ra rb) = false → (addW out ra N).2 = false → setsW [] L = setsW (addW out ra N).1 (L.drop (k + 1))) := by
      show _ → _ → _
      intro hany hf
      have hse : setStep out l2 = ((addW out ra N).1, 0) := by rw [HSS.out]; unfold setR; rw [if_neg (by simp), if_neg (by simp [hany]), if_neg (by rw [HSA.out, hf]; simp), HSA.out]
      rw [HST.out, setsW_good (by rw [hse]), hse]
     clear hok hN
     go_wp2_with fail
     refine (SP _).mono ?_
     intro e w2 hF
     obtain ⟨A2, c2, rfl, hr2, hb2⟩ := hF.rd
     clear hF SP
     obtain ⟨b2, off2, rfl, hbl2, hc2⟩ := hr2.at_ (by simp)
     have cf : w2.cell? ⟨b2, off2, none⟩ = some (.string (mk8 fl)) := hc2 0 _ HPS.out
     have HB2 := Lib.hid hb2
     clear hr2 hc2 hb2
     go_wp2_with fail
     refine (RG _).mono ?_
     rintro e w3 ⟨rfl, hd3⟩
     have hb3 := below_then HB2.out hd3.to
     clear RG cf hd3
     have HB3 := Lib.hid hb3
     have cl : w3.cell? ⟨b, off + k * 2, none⟩ = some (.int .i64 l1) := (hb3.cell hbl).trans cx1
     clear hb3
     have hown3 := own_below HOWN.out HB3.out
     have hm3 := HB.out.trans (HB3.out.mono HB.out.size)
     have HO3 := Lib.hid hown3
     have HT0 : Hid (false = (out.take 0).any (betw ra rb)) := rfl
     clear cx1 cx2
     go_wp2
     go_loopw [15, 13] (fun i t wx => ∃ (m : Nat) (th : Bool), i = .int .i64 m ∧ m ≤ out.length ∧ t = .bool th ∧ Hid (th = (out.take m).any (betw ra rb)) ∧ wx.ownsRow w1.heap.size 21 1 (.slice Ao out.length co) out.length (Rs out) ∧ wx.cell? ⟨b, off + k * 2, none⟩ = some (.int .i64 l1) ∧ Below w1.heap.size w1 wx) (fun i _ _ => out.length - (intOf i).toNat)
     case atStart => exact ⟨0, false, rfl, Nat.zero_le _, rfl, HT0, hown3, cl, hm3⟩
     case round =>
      obtain ⟨m, th, rfl, hm, rfl, HTT, hownm, clm, hbm⟩ := hrel
      clear hown3 cl hm3 HT0
      by_cases hml : m < out.length
      ·obtain ⟨x, hx⟩ : ∃ x, out[m]? = some x := ⟨_, List.getElem?_eq_getElem hml⟩
       obtain ⟨bo, oo, hAo, hblo, hco⟩ := (own_rd hownm).at_ (by omega)
       subst hAo
       have cxo : wr.cell? ⟨bo, oo + m, none⟩ = some (.int .i32 x) := hco m _ (by simp [Rs, hx])
       have hmi : (m : Int) < (out.length : Int) := by omega
       have hnext : (out.take (m + 1)).any (betw ra rb) = (th || betw ra rb x) := by
        rw [List.take_add_one, hx, List.any_append, ← HTT.out]
        simp
       have HNX := Lib.hid hnext
       have HOM := Lib.hid (And.intro hownm hbm)
       clear hnext hco hx hownm hbm
       cases th
       ·by_cases h1 : ra ≤ x
        ·by_cases h2 : x ≤ rb
         ·have HV : Hid (true = (out.take (m + 1)).any (betw ra rb)) := by show _ = _; rw [HNX.out]; simp [betw, h1, h2]
          go_wp2
          go_roundw
          case rel => exact ⟨m + 1, true, by go_num, by omega, rfl, HV, HOM.out.1, clm, HOM.out.2⟩
          case measure => simp [intOf]; omega
         ·have h3 : rb < x := by omega
          have HV : Hid (false = (out.take (m + 1)).any (betw ra rb)) := by show _ = _; rw [HNX.out]; simp [betw]; intro; omega
          go_wp2
          go_roundw
          case rel => exact ⟨m + 1, false, by go_num, by omega, rfl, HV, HOM.out.1, clm, HOM.out.2⟩
          case measure => simp [intOf]; omega
        ·have h3 : x < ra := by omega
         have HV : Hid (false = (out.take (m + 1)).any (betw ra rb)) := by show _ = _; rw [HNX.out]; simp [betw]; intro; omega
         go_wp2
         go_roundw
         case rel => exact ⟨m + 1, false, by go_num, by omega, rfl, HV, HOM.out.1, clm, HOM.out.2⟩
         case measure => simp [intOf]; omega
       ·have HV : Hid (true = (out.take (m + 1)).any (betw ra rb)) := by show _ = _; rw [HNX.out]; rfl
        go_wp2
        go_roundw
        case rel => exact ⟨m + 1, true, by go_num, by omega, rfl, HV, HOM.out.1, clm, HOM.out.2⟩
        case measure => simp [intOf]; omega
      ·have hmi : (out.length : Int) ≤ (m : Int) := by omega
       have HTV : Hid (th = out.any (betw ra rb)) := by show _ = _; rw [HTT.out, List.take_of_length_le (by omega)]
       have HAW0 : FullI false out ra N out 0 := .inl ⟨rfl, by simp⟩
       clear HTT
       go_wp2
       go_loopw [16, 7, 12] (fun r o f wx => ∃ (j : Nat) (o2 : List Int) (A2 : Option Addr) (c2 : Nat) (fu : Bool), r = .int .i32 (ra + (j : Int)) ∧ j ≤ N ∧ o = .slice A2 o2.length c2 ∧ f = .bool fu ∧ o2.length ≤ 4097 ∧ (fu = false → o2.length ≤ 4096) ∧ FullI fu out ra N o2 j ∧ wx.ownsRow w1.heap.size 21 1 (.slice A2 o2.length c2) o2.length (Rs o2) ∧ wx.cell? ⟨b, off + k * 2, none⟩ = some (.int .i64 l1) ∧ Below w1.heap.size w1 wx) (fun r _ _ _ => N - (intOf r - ra).toNat)
       case atStart => exact ⟨0, out, Ao, co, false, by simp, Nat.zero_le _, rfl, rfl, by omega, fun _ => hol, HAW0, hownm, clm, hbm⟩
       case round =>
        obtain ⟨j, o2, Ax, dx, fu, rfl, hj, rfl, rfl, hol2, hfl2, HAW, hown2, clj, hbj⟩ := hrel
        clear HAW0 hownm clm hbm
        cases hfu : fu
        ·subst hfu
         have hol3 := hfl2 rfl
         have hAW : addW out ra N = addW o2 (ra + (j : Int)) (N - j) := by
          rcases HAW with h | h
          ·exact h.2
          ·exact absurd h.1 (by simp)
         have HAW2 := Lib.hid hAW
         clear hAW hfl2 HAW
         by_cases hjN : j < N
         ·have hle : ra + (j : Int) ≤ rb := by omega
          have HA1 : Hid (addW out ra N = addW o2 (ra + (j : Int)) ((N - (j + 1)) + 1)) := by show _ = _; rw [HAW2.out, show N - j = (N - (j + 1)) + 1 by omega]
          cases hsc : scalarB (ra + (j : Int))
          ·have HA2 : FullI false out ra N o2 (j + 1) := by
            have ho : addO o2 (ra + (j : Int)) = o2 := by unfold addO; rw [hsc]; rfl
            left
            rw [HA1.out, addW_go (by rw [ho]; omega), ho, show ra + (j : Int) + 1 = ra + ((j + 1 : Nat) : Int) by omega]
            exact ⟨rfl, rfl⟩
           have hl4 : (o2.length : Int) ≤ 4096 := by omega
           go_wp2_with (go_at_call 59; refine (scalar_any _ _).mono ?_; rw [hsc]; rintro e w' ⟨rfl, rfl⟩)
           go_roundw
           case rel => exact ⟨j + 1, o2, Ax, dx, false, by congr 1; omega, by omega, rfl, by simp; try omega, hol2, fun _ => hol3, HA2, hown2, clj, hbj⟩
           case measure => simp [intOf]; omega
          ·have ho : addO o2 (ra + (j : Int)) = o2 ++ [ra + (j : Int)] := by unfold addO; rw [hsc]; rfl
           have hblb : b < wr.heap.size := World.block_lt_of_cell? _ _ clj
           have hlow : b < w1.heap.size := HLOW.out
           have HK := Lib.hid (And.intro hown2 (And.intro clj hbj))
           have hz2 := hbj.size
           clear hown2 clj hbj
           go_wp2_with fail
           refine (scalar_any _ _).mono ?_
           rw [hsc]
           rintro e w5 ⟨rfl, rfl⟩
           go_wp2_with (at_builtin; refine wpList_app runeElem _ rfl _ _ rfl w1.heap.size rfl (own_below HK.out.1 (below_one _ _)) rfl (Rd.new1 _ _ _) (one_of rfl) (by omega) (by omega) (by simp; omega) ?_)
           intro A5 c5 w5 hown5 hg5 hb5
           have hal := below_one wr (.cells #[.int .i32 (ra + (j : Int))] 21)
           have hbm5 : Below w1.heap.size w1 w5 := (HK.out.2.2.trans (hal.mono hz2)).grown hg5 (Nat.le_trans hz2 hal.size) (fun j hj => (HK.out.1.lt j hj).1)
           have cl5 : w5.cell? ⟨b, off + k * 2, none⟩ = some (.int .i64 l1) := (World.cell?_of_block (hg5.block b (by have := hal.size; omega) (fun e => by have := (HK.out.1.lt b e.symm).1; omega))).trans ((hal.cell hblb).trans HK.out.2.1)
           have hown6 : w5.ownsRow w1.heap.size 21 1 (.slice A5 (o2.length + 1) c5) (o2.length + 1) (Rs (o2 ++ [ra + (j : Int)])) := by simpa [Rs] using hown5
           have hol5 : (o2 ++ [ra + (j : Int)]).length = o2.length + 1 := by simp
           have HK2 := Lib.hid (And.intro hown6 (And.intro cl5 (And.intro hbm5 hol5)))
           clear hal hbm5 hown5 hg5 hb5 cl5 hown6 hol5
           by_cases hfull : o2.length = 4096
           ·have HA2 : FullI true out ra N (o2 ++ [ra + (j : Int)]) (j + 1) := by
             right
             rw [HA1.out, addW_full (by rw [ho, List.length_append, List.length_singleton]; omega)]
             exact ⟨rfl, rfl⟩
            have hl4 : (4096 : Int) < (o2.length : Int) + 1 := by omega
            have hl5 : 4096 < o2.length + 1 := by omega
            clear ho hfull
            go_wp2
            go_roundw
            case rel =>
             refine ⟨j + 1, o2 ++ [ra + (j : Int)], A5, c5, true, by congr 1; omega, by omega, by rw [HK2.out.2.2.2], by simp; try omega, by rw [HK2.out.2.2.2]; omega, fun h => by simp at h, HA2, ?_, HK2.out.2.1, HK2.out.2.2.1⟩
             rw [HK2.out.2.2.2]; exact HK2.out.1
            case measure => simp [intOf]; omega
           ·have HA2 : FullI false out ra N (o2 ++ [ra + (j : Int)]) (j + 1) := by
             have hnf : ¬ 4096 < (addO o2 (ra + (j : Int))).length := by rw [ho, List.length_append, List.length_singleton]; omega
             left
             rw [HA1.out, addW_go hnf, ho, show ra + (j : Int) + 1 = ra + ((j + 1 : Nat) : Int) by omega]
             exact ⟨rfl, rfl⟩
            have hl4 : (o2.length : Int) + 1 ≤ 4096 := by omega
            have hl5 : o2.length + 1 ≤ 4096 := by omega
            clear ho hfull
            go_wp2
            go_roundw
            case rel =>
             refine ⟨j + 1, o2 ++ [ra + (j : Int)], A5, c5, false, by congr 1; omega, by omega, by rw [HK2.out.2.2.2], by simp; try omega, by rw [HK2.out.2.2.2]; omega, fun _ => by rw [HK2.out.2.2.2]; omega, HA2, ?_, HK2.out.2.1, HK2.out.2.2.1⟩
             rw [HK2.out.2.2.2]; exact HK2.out.1
            case measure => simp [intOf]; omega
         ·have hgt : rb < ra + (j : Int) := by omega
          have hz : addW out ra N = (o2, false) := by rw [HAW2.out, show N - j = 0 by omega, addW_zero]
          cases hth : th
          ·subst hth
           have HS2 : Hid (setsW [] L = setsW o2 (L.drop (k + 1))) := by show _ = _; rw [HGO.out HTV.out.symm (by rw [hz]), hz]
           clear hz
           go_wp2
           go_roundw
           case rel => exact ⟨k + 1, o2, Ax, dx, by omega, by go_num, rfl, hol3, hown2, HS2, hbj⟩
           case measure => simp [intOf]; omega
          ·subst hth
           have HR2 := Lib.hid (HTH.out HTV.out.symm)
           have HBJ := Lib.hid hbj
           clear hz hown2 hbj
           go_wp2
           go_quiet (fail)
           go_wp2
           go_returns
           rw [HR2.out]
           exact ⟨none, 0, rfl, World.ownsRow_nil _ _ _ _, below_then HB1.out (below_drew' HBJ.out _)⟩
        ·subst hfu
         have hFU : (addW out ra N).2 = true := by
          rcases HAW with h | h
          ·exact absurd h.1 (by simp)
          ·exact h.2
         have HBJ := Lib.hid hbj
         cases hth : th
         ·subst hth
          have HR2 := Lib.hid (HFU.out HTV.out.symm hFU)
          clear hown2 hbj hFU
          by_cases hle : ra + (j : Int) ≤ rb
          ·go_wp2
           go_quiet (fail)
           go_wp2
           go_returns
           rw [HR2.out]
           exact ⟨none, 0, rfl, World.ownsRow_nil _ _ _ _, below_then HB1.out (below_drew' HBJ.out _)⟩
          ·have hgt : rb < ra + (j : Int) := by omega
           go_wp2
           go_quiet (fail)
           go_wp2
           go_returns
           rw [HR2.out]
           exact ⟨none, 0, rfl, World.ownsRow_nil _ _ _ _, below_then HB1.out (below_drew' HBJ.out _)⟩
         ·subst hth
          have HR2 := Lib.hid (HTH.out HTV.out.symm)
          clear hown2 hbj hFU
          by_cases hle : ra + (j : Int) ≤ rb
          ·go_wp2
           go_quiet (fail)
           go_wp2
           go_returns
           rw [HR2.out]
           exact ⟨none, 0, rfl, World.ownsRow_nil _ _ _ _, below_then HB1.out (below_drew' HBJ.out _)⟩
          ·have hgt : rb < ra + (j : Int) := by omega
           go_wp2
           go_quiet (fail)
           go_wp2
           go_returns
           rw [HR2.out]
           exact ⟨none, 0, rfl, World.ownsRow_nil _ _ _ _, below_then HB1.out (below_drew' HBJ.out _)⟩
    ·have hse : setStep out l2 = (out, re) := by rw [HSS.out]; unfold setR; rw [if_pos (by exact hre)]
     have hR : R = ([], l1, re) := by
      rw [HR.out, HST.out, setsW_bad (by rw [hse]; exact hre), hse]
      show (srt [], _, _) = _
      simp [srt]
     have HR2 := Lib.hid hR
     have hne : (re != 0) = true := by simpa using hre
     clear hse hR hok hre
     go_wp2_with fail
     refine (SP _).mono ?_
     intro e w2 hF
     obtain ⟨A2, c2, rfl, hr2, hb2⟩ := hF.rd
     clear hF SP
     obtain ⟨b2, off2, rfl, hbl2, hc2⟩ := hr2.at_ (by simp)
     have cf : w2.cell? ⟨b2, off2, none⟩ = some (.string (mk8 fl)) := hc2 0 _ HPS.out
     have HB2 := Lib.hid hb2
     clear hr2 hc2 hb2
     go_wp2_with fail
     refine (RG _).mono ?_
     rintro e w3 ⟨rfl, hd3⟩
     have hb3 := below_then HB2.out hd3.to
     clear RG cf hd3
     have HB3 := Lib.hid hb3
     have cl : w3.cell? ⟨b, off + k * 2, none⟩ = some (.int .i64 l1) := (hb3.cell hbl).trans cx1
     clear hb3
     have HM3 := Lib.hid (HB.out.trans (HB3.out.mono HB.out.size))
     clear cx1 cx2
     go_wp2
     go_quiet (fail)
     go_wp2
     go_returns
     rw [HR2.out]
     exact ⟨none, 0, rfl, World.ownsRow_nil _ _ _ _, below_then HB1.out (below_drew' HM3.out _)⟩
   ·have hi : (L.length : Int) ≤ (k : Int) := by omega
    have hR2 : R = (srt out, 0, 0) := by rw [HR.out, HW.out, List.drop_of_length_le (by omega)]; rfl
    have HR2 := Lib.hid hR2
    have HSO : Hid ((out.take 1).Pairwise (· ≤ ·)) := by
     show List.Pairwise _ _
     cases out with
     | nil => simp
     | cons x t => simp
    clear hR2 HW
    go_wp2
    go_loopw [17] (fun i wx => ∃ (m : Nat) (l : List Int), i = .int .i64 m ∧ 1 ≤ m ∧ (m ≤ out.length ∨ m = 1) ∧ l.Perm out ∧ Hid ((l.take m).Pairwise (· ≤ ·)) ∧ wx.ownsRow w1.heap.size 21 1 (.slice Ao out.length co) out.length (Rs l) ∧ Below w1.heap.size w1 wx) (fun i _ => out.length - (intOf i).toNat)
    case atStart => exact ⟨1, out, rfl, by omega, .inr rfl, List.Perm.refl _, HSO, hown, hb⟩
    case round =>
     obtain ⟨m, l, rfl, hm1, hm2, hpl, HSL, hownm, hbm⟩ := hrel
     clear HSO hown hb
     have hll := hpl.length_eq
     have HPL := Lib.hid hpl
     have HLL : Hid (l.length = out.length) := hll
     clear hpl hll
     by_cases hml : m < out.length
     ·have hmi : (m : Int) < (out.length : Int) := by omega
      obtain ⟨g, rfl⟩ := own_addr hownm (own_some (m := out.length - 1) hownm (by omega))
      have HIN : Hid (∃ P x Q T, l = P ++ x :: (Q ++ T) ∧ P.length = m ∧ P.length + Q.length = m ∧ (P ++ Q).Pairwise (· ≤ ·) ∧ ∀ y ∈ Q, x ≤ y) := by
       have hlm : m < l.length := by rw [HLL.out]; exact hml
       refine ⟨l.take m, l[m], [], l.drop (m + 1), ?_, by simp; omega, by simp; omega, by simpa using HSL.out, fun y hy => by simp at hy⟩
       rw [List.nil_append, ← List.drop_eq_getElem_cons hlm, List.take_append_drop]
      clear HSL
      go_wp2
      go_loopw [18] (fun v wx => ∃ (kk : Nat) (l2 : List Int), v = .int .i64 kk ∧ kk ≤ m ∧ l2.Perm out ∧ Hid (∃ P x Q T, l2 = P ++ x :: (Q ++ T) ∧ P.length = kk ∧ P.length + Q.length = m ∧ (P ++ Q).Pairwise (· ≤ ·) ∧ ∀ y ∈ Q, x ≤ y) ∧ wx.ownsRow w1.heap.size 21 1 (.slice (some ⟨g, 0, none⟩) out.length co) out.length (Rs l2) ∧ Below w1.heap.size w1 wx) (fun v _ => (intOf v).toNat)
      case atStart => exact ⟨m, l, rfl, Nat.le_refl _, HPL.out, HIN, hownm, hbm⟩
      case round =>
       obtain ⟨kk, l2, rfl, hkk, hpl2, HI, hown2, hbk⟩ := hrel
       clear HIN hownm hbm
       have HPL2 := Lib.hid hpl2
       have hg0 : w1.heap.size ≤ g := (hown2.lt g rfl).1
       clear hpl2
       obtain ⟨P, x, Q, T, hl2, hP, hPQ, hpw, hQ⟩ := HI.out
       have hout : (P = [] ∨ ∃ P' p, P = P' ++ [p] ∧ p ≤ x) → ((l2.take (m + 1)).Pairwise (· ≤ ·)) := by
        intro h
        have h2 : (P ++ x :: Q).Pairwise (· ≤ ·) := ins_done hpw hQ h
        rw [hl2, show P ++ x :: (Q ++ T) = (P ++ x :: Q) ++ T by simp, List.take_append_of_le_length (by simp; omega), List.take_of_length_le (by simp; omega)]
        exact h2
       have HOUT := Lib.hid hout
       have HLQ := Lib.hid (And.intro hl2 (And.intro hP (And.intro hPQ (And.intro hpw hQ))))
       clear hout hl2 hP hPQ hpw hQ HI
       rcases Nat.eq_zero_or_pos kk with hk0 | hk0
       ·have HFIN : Hid ((l2.take (m + 1)).Pairwise (· ≤ ·)) := HOUT.out (.inl (List.eq_nil_of_length_eq_zero (by rw [HLQ.out.2.1]; exact hk0)))
        subst hk0
        go_wp2
        go_quiet (fail)
        go_wp2
        go_roundw
        case rel => exact ⟨m + 1, l2, by go_num, by omega, .inl (by omega), HPL2.out, HFIN, own_below hown2 (below_drewN _ _ _), below_drew' hbk _⟩
        case measure => simp [intOf]; omega
       ·obtain ⟨a, rfl⟩ : ∃ a, kk = a + 1 := ⟨kk - 1, by omega⟩
        obtain ⟨P', p, hPe⟩ : ∃ P' p, P = P' ++ [p] := by
         have h1 := HLQ.out.2.1
         exact ⟨P.dropLast, P.getLast (by intro h; rw [h] at h1; simp at h1), (List.dropLast_concat_getLast _).symm⟩
        have hPa : P'.length = a := by have h1 := HLQ.out.2.1; rw [hPe] at h1; simpa using h1
        have e1 : (Rs l2)[a]? = some (.int .i32 p) := by rw [HLQ.out.1, hPe]; simp [Rs, ← hPa]
        have e2 : (Rs l2)[a + 1]? = some (.int .i32 x) := by
         rw [HLQ.out.1, hPe, ← hPa]
         simp [Rs]
        have c1 : wr.cell? ⟨g, a, none⟩ = some (.int .i32 p) := by rw [hown2.cellAt a (by omega)]; exact e1
        have c2 : wr.cell? ⟨g, a + 1, none⟩ = some (.int .i32 x) := by rw [hown2.cellAt (a + 1) (by omega)]; exact e2
        have f1 : wr.frozen? ⟨g, a, none⟩ = false := hown2.frozenAt a
        have f2 : wr.frozen? ⟨g, a + 1, none⟩ = false := hown2.frozenAt (a + 1)
        have hka : (0 : Int) < (a : Int) + 1 := by omega
        have hw1 : IntKind.i64.wrap ((a : Int) + 1 - 1) = (a : Int) := by rw [IntWalk.i64_in _ (by omega)]; omega
        have hla : (a : Int) < (out.length : Int) := by omega
        have hlb : (a : Int) + 1 < (out.length : Int) := by omega
        clear e1 e2 hk0
        by_cases hpx : x < p
        ·
         have HNEW : Hid (∃ P2 x2 Q2 T2, (P' ++ x :: ((p :: Q) ++ T)) = P2 ++ x2 :: (Q2 ++ T2) ∧ P2.length = a ∧ P2.length + Q2.length = m ∧ (P2 ++ Q2).Pairwise (· ≤ ·) ∧ ∀ y ∈ Q2, x2 ≤ y) := by
          obtain ⟨h1, h2, h3, h4, h5⟩ := HLQ.out
          rw [hPe] at h3 h4
          refine ⟨P', x, p :: Q, T, rfl, hPa, by simp at h3 ⊢; omega, by simpa using h4, fun y hy => ?_⟩
          rcases List.mem_cons.1 hy with rfl | hy
          ·omega
          ·exact h5 y hy
         have HPN : Hid ((P' ++ x :: ((p :: Q) ++ T)).Perm out) := by
          refine List.Perm.trans ?_ HPL2.out
          rw [HLQ.out.1, hPe]
          simp only [List.append_assoc, List.singleton_append, List.cons_append]
          exact (List.Perm.swap p x (Q ++ T)).append_left P'
         have hset : ((Rs l2).set (a + 1) (.int .i32 p)).set a (.int .i32 x) = Rs (P' ++ x :: ((p :: Q) ++ T)) := by
          rw [HLQ.out.1, hPe, ← hPa]
          simp [Rs]
         have HSE := Lib.hid hset
         clear hset hPe hPa HOUT
         go_wp2
         go_quiet (fail)
         go_wp2
         go_roundw
         case rel =>
          refine ⟨a, _, rfl, by omega, HPN.out, HNEW, ?_, ((below_drew' hbk _).setCell (p := ⟨g, a + 1, none⟩) hg0 _).setCell (p := ⟨g, a, none⟩) hg0 _⟩
          have h1 := ((own_below hown2 (below_drewN wr wr.heap.size nq)).stored (a + 1) (.int .i32 p)).1
          have h2 := (h1.stored a (.int .i32 x)).1
          rw [HSE.out] at h2
          exact h2
         case measure => simp [intOf]; try omega
        ·have HFIN : Hid ((l2.take (m + 1)).Pairwise (· ≤ ·)) := HOUT.out (.inr ⟨P', p, hPe, by omega⟩)
         have hle : p ≤ x := by omega
         go_wp2
         go_quiet (fail)
         go_wp2
         go_roundw
         case rel => exact ⟨m + 1, l2, by go_num, by omega, .inl (by omega), HPL2.out, HFIN, own_below hown2 (below_drewN _ _ _), below_drew' hbk _⟩
         case measure => simp [intOf]; omega
     ·have hmi : (out.length : Int) ≤ (m : Int) := by omega
      have hfin : l = srt out := srt_unique HPL.out (by have := HSL.out; rwa [List.take_of_length_le (by rw [HLL.out]; omega)] at this)
      subst hfin
      go_wp2
      go_returns
      rw [HR2.out]
      refine ⟨Ao, co, by rw [srt_len]; rfl, ?_, below_then HB1.out hbm⟩
      rw [srt_len]
      exact own_base hownm HB1.out.size
 ·rw [if_pos he]
  have hne : (e0 != 0) = true := by simpa using he
  clear he hlo
  go_enter Tryz.func33, Tryz.ntmps33
  go_wp2_with fail
  refine LN.mono ?_
  rintro e w1 ⟨A, c, rfl, hown, hb⟩
  go_wp2
  go_returns
  exact ⟨none, 0, rfl, World.ownsRow_nil _ _ _ _, hb⟩
end
end Go.Proofs.YtobleaiecnpcoaaGreatDoor
