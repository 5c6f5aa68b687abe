/- What names are plain: the document's answer's walk; and which names are the same. -/
import Derived.Test.YthfakejhkbelhaaDoorNamC
set_option linter.unusedSimpArgs false
set_option linter.unusedVariables false
namespace Go.Proofs.YthfakejhkbelhaaDoor
open Go.RowKit Go.Lib

theorem zeroF_any {a : Bool} : ∀ {l : List UInt8}, headDig l = false → zeroF a l = zeroF false l
  | [], _ => by simp [zeroF]
  | b :: t, h => by
    have hb : b ≠ 48 := fun e => by rw [e] at h; simp [headDig, digI] at h
    rw [zeroF_keep (fun h2 => hb h2.1), zeroF_keep (fun h2 => hb h2.1)]
theorem run_true : ∀ (n : Nat) (l : List UInt8), n ≤ l.length → (∀ j, j < n → ∀ b, l[j]? = some b → digI b.toNat = true) → zeroF true l = l.take n ++ zeroF true (l.drop n)
  | 0, l, _, _ => by simp
  | n + 1, [], h, _ => by simp at h
  | n + 1, b :: t, h, hd => by
    have hb := hd 0 (by omega) b (by simp)
    rw [zeroF_keep (fun h2 => by simp at h2), hb, run_true n t (by simpa using h) (fun j hj c hc => hd (j + 1) (by omega) c (by simpa using hc))]
    simp
theorem runs_a {F : List UInt8} {i k : Nat} {z : UInt8} (hik : i + 1 < k) (hk : k ≤ F.length) (hd : ∀ j, i ≤ j → j < k → ∀ b, F[j]? = some b → digI b.toNat = true) (hz : F[i]? = some z) (h48 : z ≠ 48) (he : headDig (F.drop k) = false) :
    zeroF false (F.drop i) = (F.drop i).take (k - i) ++ zeroF false (F.drop k) := by
  have hdr : F.drop i = z :: F.drop (i + 1) := by
    have hi := (List.getElem?_eq_some_iff.1 hz)
    rw [List.drop_eq_getElem_cons hi.1, hi.2]
  have hzd := hd i (Nat.le_refl _) (by omega) z hz
  rw [hdr, zeroF_keep (fun h2 => h48 h2.1), hzd, run_true (k - (i + 1)) (F.drop (i + 1)) (by rw [List.length_drop]; omega) (fun j hj b hb => hd (i + 1 + j) (by omega) (by omega) b (by rw [List.getElem?_drop] at hb; exact hb)), List.drop_drop,
    show i + 1 + (k - (i + 1)) = k by omega, zeroF_any he, show k - i = (k - (i + 1)) + 1 by omega]
  simp
theorem runs_b {F : List UInt8} {i : Nat} {b : UInt8} (hb : F[i]? = some b) (h : headDig (F.drop (i + 1)) = false ∨ digI b.toNat = false) :
    zeroF false (F.drop i) = (F.drop i).take 1 ++ zeroF false (F.drop (i + 1)) := by
  have hdr : F.drop i = b :: F.drop (i + 1) := by
    have hi := (List.getElem?_eq_some_iff.1 hb)
    rw [List.drop_eq_getElem_cons hi.1, hi.2]
  rw [hdr]
  rcases h with h | h
  · rw [zeroF_keep (fun h2 => by rw [h] at h2; exact absurd h2.2.2 (by decide)), zeroF_any h]; rfl
  · rw [zeroF_keep (fun h2 => by rw [h2.1] at h; exact absurd h (by decide)), h]; rfl
theorem head_drop {F : List UInt8} {k : Nat} {b : UInt8} (hb : F[k]? = some b) : headDig (F.drop k) = digI b.toNat := by
  have hi := (List.getElem?_eq_some_iff.1 hb)
  rw [List.drop_eq_getElem_cons hi.1, hi.2]; rfl
theorem filtL_snoc (l : List UInt8) (b : UInt8) : filtL (l ++ [b]) = filtL l ++ (if isB b = true then [lowN b] else []) := by
  unfold filtL
  rw [List.filter_append, List.map_append]
  by_cases h : isB b = true
  · rw [if_pos h, List.filter_cons_of_pos h]; rfl
  · rw [if_neg h, List.filter_cons_of_neg h]; rfl
theorem dig_low {x : UInt8} (h : digI x.toNat = true) : isB x = true ∧ lowN x = x := by
  have h2 : 48 ≤ x.toNat ∧ x.toNat ≤ 57 := by unfold digI at h; rw [decide_eq_true_eq] at h; omega
  have h3 : lowN x = x := lowN_no (by omega)
  refine ⟨?_, h3⟩
  unfold isB
  rw [h3, h]; rfl
theorem small_low {x : UInt8} (h : 0 < smallI x) : smallI x = (lowN x).toNat := by
  unfold smallI at *
  split
  · rfl
  · rename_i hh; rw [if_neg hh] at h; omega
theorem one_str (w : World) (b : UInt8) : (convert 54 9 (.slice (some ⟨w.heap.size, 0, none⟩) 1 1)).run Tryd.prog (w.alloc (.cells #[.int .u8 b.toNat] 5)) = .ok (.string (mk8 [b])) (w.alloc (.cells #[.int .u8 b.toNat] 5)) :=
  run_convert_bytes_back (w.alloc (.cells #[.int .u8 b.toNat] 5)) 54 9 5 ⟨w.heap.size, 0, none⟩ 1 [b] Tryd.underlying54 Tryd.underlying5 Tryd.underlying9 (by
    intro j hj
    have : j = 0 := by simp at hj; exact hj
    subst this
    exact World.cell?_alloc_at _ _ _ _ (by simp))
theorem extract_one (s : ByteArray) (k : Nat) (hk : k < s.size) : s.extract k (k + 1) = mk8 [s[k]'hk] := by
  refine bs_inj ?_
  have hlk : ((bs s).take k).length = k := by rw [List.length_take, bs_length]; omega
  rw [bs_extract, take_snocB hk, List.drop_append, List.drop_of_length_le (Nat.le_of_eq hlk), hlk]
  simp [bs_mk8]
theorem mk8_cat (a b : List UInt8) : mk8 a ++ mk8 b = mk8 (a ++ b) := bs_inj (by rw [bs_append]; rfl)
theorem mk8_extract (l : List UInt8) (a b : Nat) : (mk8 l).extract a b = mk8 ((l.drop a).take (b - a)) := by
  refine bs_inj ?_
  rw [bs_extract, bs_mk8, bs_mk8, List.drop_take]
/-- The digits of the first loop: all of them from i to k. -/
def Digs (F : List UInt8) (i k : Nat) : Prop := ∀ j, i ≤ j → j < k → ∀ b, F[j]? = some b → digI b.toNat = true
theorem Digs.succ {F : List UInt8} {i k : Nat} {b : UInt8} (h : Digs F i k) (hb : F[k]? = some b) (hd : digI b.toNat = true) : Digs F i (k + 1) := by
  intro j hj hj2 c hc
  by_cases hjk : j = k
  · subst hjk
    rw [hb] at hc
    injection hc with hc
    rw [← hc]; exact hd
  · exact h j hj (by omega) c hc
set_option maxRecDepth 20000 in
set_option maxHeartbeats 8000000 in
theorem rplain_any (s : ByteArray) (w : World) (hsz : s.size ≤ 1073741824) :
    Calls Tryd.prog 9 #[.string s] w fun e w' => e = .returned (.string (mk8 (plainS (bs s)))) ∧ Below w.heap.size w w' := by
  have MY := fun w => rmay_any s w hsz
  clear hsz
  by_cases hm : mayS (bs s) = 0
  · rw [plainS_yes hm]
    have hin := (mayS_ascii hm).1
    rw [bs_length] at hin
    have hsi : (s.size : Int) ≤ 64 := by omega
    rw [hm] at MY
    obtain ⟨res, hres⟩ : ∃ res, res = zeroF false (filtL (bs s)) := ⟨_, rfl⟩
    rw [← hres]
    have HRES := Lib.hid hres
    clear hm hin hres
    go_enter Tryd.func9, Tryd.ntmps9
    go_wp2_with fail
    refine (MY _).mono ?_
    rintro e w1 ⟨rfl, rfl⟩
    clear MY
    go_wp2
    go_loopw [3, 4] (fun v i wr => ∃ k : Nat, k ≤ s.size ∧ i = .int .i64 k ∧ v = .string (mk8 (filtL ((bs s).take k))) ∧ Below w.heap.size w wr) (fun _ i _ => s.size - (intOf i).toNat)
    case atStart => exact ⟨0, Nat.zero_le _, rfl, rfl, Below.refl _ _⟩
    case round =>
      obtain ⟨k, hk, rfl, rfl, hbw⟩ := hrel
      have hz := hbw.size
      have hfz : (mk8 (filtL ((bs s).take k))).size ≤ 64 := by
        have := filtL_len ((bs s).take k)
        rw [List.length_take, bs_length] at this
        rw [mk8_size]; omega
      have hfi : ((mk8 (filtL ((bs s).take k))).size : Int) ≤ 64 := by omega
      by_cases hlt : k < s.size
      · have hki : (k : Int) < (s.size : Int) := by omega
        have hsn := filtL_snoc ((bs s).take k) (s[k]'hlt)
        rw [← take_snocB hlt] at hsn
        have hsl := fun w => slice_at s (k : Int) ((k : Int) + 1) k (k + 1) (by omega) (by omega) rfl (by omega) w
        have hx := fun w => index_at s (k : Int) k hlt rfl w
        have hex := extract_one s k hlt
        obtain ⟨x, hxe⟩ : ∃ x, (s[k]'hlt) = x := ⟨_, rfl⟩
        rw [hxe] at hsn hx hex
        rw [hex] at hsl
        have DG := fun w => rdig_any x.toNat w
        have SM := fun w => small_any x w
        have h1z : ∀ b : UInt8, (mk8 [b]).size ≤ 1 := fun b => by rw [mk8_size]; simp
        clear hxe hex
        by_cases hdg : digI x.toNat = true
        · have hdl := dig_low hdg
          rw [if_pos hdl.1, hdl.2] at hsn
          have HCAT : Hid (mk8 (filtL ((bs s).take k)) ++ mk8 [x] = mk8 (filtL ((bs s).take (k + 1)))) := by show _ = _; rw [mk8_cat, hsn]
          rw [hdg] at DG
          have hz1 := h1z x
          clear hsn hdg hdl SM h1z
          go_wp2_with fail
          refine (DG _).mono ?_
          rintro e w2 ⟨rfl, rfl⟩
          go_wp2
          go_roundw
          case rel => exact ⟨k + 1, by omega, by go_num, by rw [HCAT.out], hbw⟩
          case measure => simp [intOf]; omega
        · have hdg' : digI x.toNat = false := by simpa using hdg
          have hsp := small_pos x
          rw [hdg', Bool.false_or] at hsp
          rw [hdg'] at DG
          clear hdg hdg'
          by_cases h0 : 0 < smallI x
          · have hb : isB x = true := by rw [hsp]; simp [h0]
            rw [if_pos hb] at hsn
            have hsm := small_low h0
            obtain ⟨y, hy⟩ : ∃ y, y = lowN x := ⟨_, rfl⟩
            rw [← hy] at hsn hsm
            have HCAT : Hid (mk8 (filtL ((bs s).take k)) ++ mk8 [y] = mk8 (filtL ((bs s).take (k + 1)))) := by show _ = _; rw [mk8_cat, hsn]
            rw [hsm] at SM h0
            have hcv := one_str wr y
            have hz1 := h1z y
            clear hsn hsp hb hsm hy h1z
            go_wp2_with fail
            refine (DG _).mono ?_
            rintro e w2 ⟨rfl, rfl⟩
            go_wp2_with fail
            refine (SM _).mono ?_
            rintro e w2 ⟨rfl, rfl⟩
            go_wp2_with fail
            refine (SM _).mono ?_
            rintro e w2 ⟨rfl, rfl⟩
            go_wp2
            go_roundw
            case rel => exact ⟨k + 1, by omega, by go_num, by rw [HCAT.out], hbw.alloc hz _⟩
            case measure => simp [intOf]; omega
          · have hb : ¬ isB x = true := by rw [hsp]; simp; omega
            rw [if_neg hb, List.append_nil] at hsn
            have hs0 : smallI x = 0 := by have := smallI_cases x; omega
            have HS := Lib.hid hsn
            rw [hs0] at SM
            clear hsn hsp hb hs0 h0 h1z
            go_wp2_with fail
            refine (DG _).mono ?_
            rintro e w2 ⟨rfl, rfl⟩
            go_wp2_with fail
            refine (SM _).mono ?_
            rintro e w2 ⟨rfl, rfl⟩
            go_wp2
            go_roundw
            case rel => exact ⟨k + 1, by omega, by go_num, by rw [HS.out], hbw⟩
            case measure => simp [intOf]; omega
      · have hki : (s.size : Int) ≤ (k : Int) := by omega
        have hall : (bs s).take k = bs s := List.take_of_length_le (by rw [bs_length]; omega)
        rw [hall] at hfz hfi
        rw [hall]
        obtain ⟨F, hF⟩ : ∃ F, F = filtL (bs s) := ⟨_, rfl⟩
        rw [← hF] at hfz hfi HRES
        rw [← hF]
        have hFl : F.length = (mk8 F).size := (mk8_size F).symm
        have hget : ∀ (j : Nat) (h : j < (mk8 F).size), F[j]? = some ((mk8 F)[j]'h) := fun j h => bs_get (mk8 F) j h
        have hcat : ∀ (os : List UInt8) (a b : Nat), mk8 os ++ (mk8 F).extract a b = mk8 (os ++ (F.drop a).take (b - a)) := fun os a b => by rw [mk8_extract, mk8_cat]
        obtain ⟨m, hmm⟩ : ∃ m, m = mk8 F := ⟨_, rfl⟩
        rw [← hmm] at hfz hfi hFl hcat
        rw [← hmm]
        have hget2 : ∀ (j : Nat) (h : j < m.size), F[j]? = some (m[j]'h) := by subst hmm; exact hget
        have HGET := Lib.hid hget2
        have HCAT := Lib.hid hcat
        have HFL := Lib.hid hFl
        clear hall hF hmm hget hget2 hcat hFl
        go_wp2
        go_loop [5, 6] (fun v i => ∃ (i0 : Nat) (os : List UInt8), i0 ≤ m.size ∧ i = .int .i64 i0 ∧ v = .string (mk8 os) ∧ os.length ≤ i0 ∧ Hid (res = os ++ zeroF false (F.drop i0))) (fun _ i => m.size - (intOf i).toNat)
        case atStart => exact ⟨0, [], Nat.zero_le _, rfl, rfl, Nat.le_refl _, (by show res = _; rw [HRES.out]; rfl)⟩
        case round =>
          obtain ⟨i0, os, hi0, rfl, rfl, hol, HR⟩ := hrel
          have hosz : (mk8 os).size ≤ 64 := by rw [mk8_size]; omega
          have hosi : ((mk8 os).size : Int) ≤ 64 := by omega
          by_cases hil : i0 < m.size
          · have hii : (i0 : Int) < (m.size : Int) := by omega
            go_wp2
            go_loop [7] (fun v => ∃ k1 : Nat, i0 ≤ k1 ∧ k1 ≤ m.size ∧ v = .int .i64 k1 ∧ Hid (Digs F i0 k1)) (fun v => m.size - (intOf v).toNat)
            case atStart => exact ⟨i0, Nat.le_refl _, by omega, rfl, (fun j h1 h2 => by omega)⟩
            case round =>
              obtain ⟨k1, hik, hkm, rfl, HD⟩ := hrel
              by_cases hkl : k1 < m.size
              · have hkli : (k1 : Int) < (m.size : Int) := by omega
                have hy := fun w => index_at m (k1 : Int) k1 hkl rfl w
                have hgy := HGET.out k1 hkl
                obtain ⟨y, hye⟩ : ∃ y, (m[k1]'hkl) = y := ⟨_, rfl⟩
                rw [hye] at hy hgy
                have DY := fun w => rdig_any y.toNat w
                cases hdy : digI y.toNat
                · rw [hdy] at DY
                  have HE : Hid (headDig (F.drop k1) = false) := by show _ = _; rw [head_drop hgy, hdy]
                  clear hye hgy hdy
                  go_wp2_with fail
                  refine (DY _).mono ?_
                  rintro e w2 ⟨rfl, rfl⟩
                  go_wp2
                  go_loop [6] (fun v => ∃ i1 : Nat, i0 ≤ i1 ∧ (i1 = i0 ∨ i1 + 1 ≤ k1) ∧ v = .int .i64 i1 ∧ Hid (zeroF false (F.drop i0) = zeroF false (F.drop i1))) (fun v => m.size - (intOf v).toNat)
                  case atStart => exact ⟨i0, Nat.le_refl _, .inl rfl, rfl, rfl⟩
                  case round =>
                    obtain ⟨i1, hi01, hi1k, rfl, HZ⟩ := hrel
                    have hi1m : i1 < m.size := by omega
                    have hi1i : (i1 : Int) < (m.size : Int) := by omega
                    have hy2 := fun w => index_at m (i1 : Int) i1 hi1m rfl w
                    have hgz := HGET.out i1 hi1m
                    obtain ⟨z, hze⟩ : ∃ z, (m[i1]'hi1m) = z := ⟨_, rfl⟩
                    rw [hze] at hy2 hgz
                    clear hze
                    by_cases hc1 : i1 + 1 < k1
                    · have hci : (i1 : Int) < (k1 : Int) - 1 := by omega
                      by_cases h48 : z = 48
                      · subst h48
                        rw [show ((UInt8.toNat 48 : Nat) : Int) = 48 from rfl] at hy2
                        have HZ2 : Hid (zeroF false (F.drop i0) = zeroF false (F.drop (i1 + 1))) := by
                          show _ = _
                          have hlt2 : i1 + 1 < F.length := by rw [HFL.out]; omega
                          have hg1 : F[i1 + 1]? = some F[i1 + 1] := List.getElem?_eq_getElem hlt2
                          have hdd := HD.out (i1 + 1) (by omega) (by omega) _ hg1
                          have hii2 := (List.getElem?_eq_some_iff.1 hgz)
                          rw [HZ.out, List.drop_eq_getElem_cons hii2.1, hii2.2, zeroF_drop ⟨rfl, rfl, by rw [head_drop hg1, hdd]⟩]
                        clear hgz
                        go_wp2
                        go_round
                        case rel => exact ⟨i1 + 1, by omega, .inr (by omega), by go_num, HZ2⟩
                        case measure => simp [intOf]; omega
                      · have hzn : (((z.toNat : Nat) : Int) == 48) = false := by
                          rw [beq_eq_false_iff_ne]
                          intro h
                          exact h48 (UInt8.toNat_inj.1 (by rw [show (48 : UInt8).toNat = 48 from rfl]; omega))
                        have hrun := runs_a hc1 (by rw [HFL.out]; omega) (fun j h1 h2 b hb => HD.out j (by omega) h2 b hb) hgz h48 HE.out
                        have HRUN := Lib.hid hrun
                        clear hrun hgz h48
                        have hmax : max (k1 : Int) ((i1 : Int) + 1) = ((k1 : Nat) : Int) := by omega
                        have hkk1 : (k1 : Nat) ≤ m.size := by omega
                        have hkk2 : i1 ≤ (k1 : Nat) := by omega
                        have hsl := fun w => slice_at m (i1 : Int) ((k1 : Nat) : Int) i1 (k1) hkk2 hkk1 rfl rfl w
                        have hexz : (m.extract i1 (k1)).size ≤ 64 := by rw [ByteArray.size_extract]; omega
                        have HC := Lib.hid (HCAT.out os i1 (k1))
                        have HR3 : Hid (res = (os ++ (F.drop i1).take (k1 - i1)) ++ zeroF false (F.drop (k1))) := by show _ = _; rw [HR.out, HZ.out, List.append_assoc, HRUN.out]
                        have hol2 : (os ++ (F.drop i1).take (k1 - i1)).length ≤ k1 := by rw [List.length_append, List.length_take]; omega
                        obtain ⟨u, hu⟩ : ∃ u, u = m.extract i1 (k1) := ⟨_, rfl⟩
                        rw [← hu] at hsl hexz HC
                        clear hu
                        go_wp2
                        go_round
                        case rel => exact ⟨k1, _, hkk1, by go_num, by rw [HC.out], hol2, HR3⟩
                        case measure => simp [intOf]; omega
                    · have hci : (k1 : Int) - 1 ≤ (i1 : Int) := by omega
                      have hh : headDig (F.drop (i1 + 1)) = false ∨ digI z.toNat = false := by
                        by_cases hk : k1 = i1 + 1
                        · left; rw [← hk]; exact HE.out
                        · right
                          have hk2 : k1 = i1 := by omega
                          rw [← head_drop hgz, ← hk2]; exact HE.out
                      have hrun := runs_b hgz hh
                      have he1 : i1 + 1 - i1 = 1 := by omega
                      have HRUN : Hid (zeroF false (F.drop i1) = (F.drop i1).take (i1 + 1 - i1) ++ zeroF false (F.drop (i1 + 1))) := by show _ = _; rw [he1]; exact hrun
                      clear hrun hgz hh he1
                      have hmax : max (k1 : Int) ((i1 : Int) + 1) = ((i1 + 1 : Nat) : Int) := by omega
                      have hkk1 : (i1 + 1 : Nat) ≤ m.size := by omega
                      have hkk2 : i1 ≤ (i1 + 1 : Nat) := by omega
                      have hsl := fun w => slice_at m (i1 : Int) ((i1 + 1 : Nat) : Int) i1 (i1 + 1) hkk2 hkk1 rfl rfl w
                      have hexz : (m.extract i1 (i1 + 1)).size ≤ 64 := by rw [ByteArray.size_extract]; omega
                      have HC := Lib.hid (HCAT.out os i1 (i1 + 1))
                      have HR3 : Hid (res = (os ++ (F.drop i1).take (i1 + 1 - i1)) ++ zeroF false (F.drop (i1 + 1))) := by show _ = _; rw [HR.out, HZ.out, List.append_assoc, HRUN.out]
                      have hol2 : (os ++ (F.drop i1).take (i1 + 1 - i1)).length ≤ i1 + 1 := by rw [List.length_append, List.length_take]; omega
                      skip
                      skip
                      skip
                      go_wp2
                      go_round
                      case rel => exact ⟨i1 + 1, _, hkk1, by go_num, by rw [HC.out], hol2, HR3⟩
                      case measure => simp [intOf]; omega
                · rw [hdy] at DY
                  have HD2 : Hid (Digs F i0 (k1 + 1)) := HD.out.succ hgy hdy
                  clear hye hgy hdy
                  go_wp2_with fail
                  refine (DY _).mono ?_
                  rintro e w2 ⟨rfl, rfl⟩
                  go_wp2
                  go_round
                  case rel => exact ⟨k1 + 1, by omega, by omega, by go_num, HD2⟩
                  case measure => simp [intOf]; omega
              · have hkli : (m.size : Int) ≤ (k1 : Int) := by omega
                have HE : Hid (headDig (F.drop k1) = false) := by show _ = _; rw [List.drop_eq_nil_of_le (by rw [HFL.out]; omega)]; rfl
                go_wp2
                go_loop [6] (fun v => ∃ i1 : Nat, i0 ≤ i1 ∧ (i1 = i0 ∨ i1 + 1 ≤ k1) ∧ v = .int .i64 i1 ∧ Hid (zeroF false (F.drop i0) = zeroF false (F.drop i1))) (fun v => m.size - (intOf v).toNat)
                case atStart => exact ⟨i0, Nat.le_refl _, .inl rfl, rfl, rfl⟩
                case round =>
                  obtain ⟨i1, hi01, hi1k, rfl, HZ⟩ := hrel
                  have hi1m : i1 < m.size := by omega
                  have hi1i : (i1 : Int) < (m.size : Int) := by omega
                  have hy2 := fun w => index_at m (i1 : Int) i1 hi1m rfl w
                  have hgz := HGET.out i1 hi1m
                  obtain ⟨z, hze⟩ : ∃ z, (m[i1]'hi1m) = z := ⟨_, rfl⟩
                  rw [hze] at hy2 hgz
                  clear hze
                  by_cases hc1 : i1 + 1 < k1
                  · have hci : (i1 : Int) < (k1 : Int) - 1 := by omega
                    by_cases h48 : z = 48
                    · subst h48
                      rw [show ((UInt8.toNat 48 : Nat) : Int) = 48 from rfl] at hy2
                      have HZ2 : Hid (zeroF false (F.drop i0) = zeroF false (F.drop (i1 + 1))) := by
                        show _ = _
                        have hlt2 : i1 + 1 < F.length := by rw [HFL.out]; omega
                        have hg1 : F[i1 + 1]? = some F[i1 + 1] := List.getElem?_eq_getElem hlt2
                        have hdd := HD.out (i1 + 1) (by omega) (by omega) _ hg1
                        have hii2 := (List.getElem?_eq_some_iff.1 hgz)
                        rw [HZ.out, List.drop_eq_getElem_cons hii2.1, hii2.2, zeroF_drop ⟨rfl, rfl, by rw [head_drop hg1, hdd]⟩]
                      clear hgz
                      go_wp2
                      go_round
                      case rel => exact ⟨i1 + 1, by omega, .inr (by omega), by go_num, HZ2⟩
                      case measure => simp [intOf]; omega
                    · have hzn : (((z.toNat : Nat) : Int) == 48) = false := by
                        rw [beq_eq_false_iff_ne]
                        intro h
                        exact h48 (UInt8.toNat_inj.1 (by rw [show (48 : UInt8).toNat = 48 from rfl]; omega))
                      have hrun := runs_a hc1 (by rw [HFL.out]; omega) (fun j h1 h2 b hb => HD.out j (by omega) h2 b hb) hgz h48 HE.out
                      have HRUN := Lib.hid hrun
                      clear hrun hgz h48
                      have hmax : max (k1 : Int) ((i1 : Int) + 1) = ((k1 : Nat) : Int) := by omega
                      have hkk1 : (k1 : Nat) ≤ m.size := by omega
                      have hkk2 : i1 ≤ (k1 : Nat) := by omega
                      have hsl := fun w => slice_at m (i1 : Int) ((k1 : Nat) : Int) i1 (k1) hkk2 hkk1 rfl rfl w
                      have hexz : (m.extract i1 (k1)).size ≤ 64 := by rw [ByteArray.size_extract]; omega
                      have HC := Lib.hid (HCAT.out os i1 (k1))
                      have HR3 : Hid (res = (os ++ (F.drop i1).take (k1 - i1)) ++ zeroF false (F.drop (k1))) := by show _ = _; rw [HR.out, HZ.out, List.append_assoc, HRUN.out]
                      have hol2 : (os ++ (F.drop i1).take (k1 - i1)).length ≤ k1 := by rw [List.length_append, List.length_take]; omega
                      obtain ⟨u, hu⟩ : ∃ u, u = m.extract i1 (k1) := ⟨_, rfl⟩
                      rw [← hu] at hsl hexz HC
                      clear hu
                      go_wp2
                      go_round
                      case rel => exact ⟨k1, _, hkk1, by go_num, by rw [HC.out], hol2, HR3⟩
                      case measure => simp [intOf]; omega
                  · have hci : (k1 : Int) - 1 ≤ (i1 : Int) := by omega
                    have hh : headDig (F.drop (i1 + 1)) = false ∨ digI z.toNat = false := by
                      by_cases hk : k1 = i1 + 1
                      · left; rw [← hk]; exact HE.out
                      · right
                        have hk2 : k1 = i1 := by omega
                        rw [← head_drop hgz, ← hk2]; exact HE.out
                    have hrun := runs_b hgz hh
                    have he1 : i1 + 1 - i1 = 1 := by omega
                    have HRUN : Hid (zeroF false (F.drop i1) = (F.drop i1).take (i1 + 1 - i1) ++ zeroF false (F.drop (i1 + 1))) := by show _ = _; rw [he1]; exact hrun
                    clear hrun hgz hh he1
                    have hmax : max (k1 : Int) ((i1 : Int) + 1) = ((i1 + 1 : Nat) : Int) := by omega
                    have hkk1 : (i1 + 1 : Nat) ≤ m.size := by omega
                    have hkk2 : i1 ≤ (i1 + 1 : Nat) := by omega
                    have hsl := fun w => slice_at m (i1 : Int) ((i1 + 1 : Nat) : Int) i1 (i1 + 1) hkk2 hkk1 rfl rfl w
                    have hexz : (m.extract i1 (i1 + 1)).size ≤ 64 := by rw [ByteArray.size_extract]; omega
                    have HC := Lib.hid (HCAT.out os i1 (i1 + 1))
                    have HR3 : Hid (res = (os ++ (F.drop i1).take (i1 + 1 - i1)) ++ zeroF false (F.drop (i1 + 1))) := by show _ = _; rw [HR.out, HZ.out, List.append_assoc, HRUN.out]
                    have hol2 : (os ++ (F.drop i1).take (i1 + 1 - i1)).length ≤ i1 + 1 := by rw [List.length_append, List.length_take]; omega
                    skip
                    skip
                    skip
                    go_wp2
                    go_round
                    case rel => exact ⟨i1 + 1, _, hkk1, by go_num, by rw [HC.out], hol2, HR3⟩
                    case measure => simp [intOf]; omega
          · have hii : (m.size : Int) ≤ (i0 : Int) := by omega
            have hos : res = os := by rw [HR.out, List.drop_eq_nil_of_le (by rw [HFL.out]; omega)]; simp [zeroF]
            have HOS := Lib.hid hos
            clear hos
            go_wp2
            go_returns
            exact ⟨ret_str' (by rw [HOS.out]), hbw⟩
  · rw [plainS_no hm]
    obtain ⟨r, hr⟩ : ∃ r, r = mayS (bs s) := ⟨_, rfl⟩
    rw [← hr] at MY hm
    have hq : (r != 0) = true := by simpa using hm
    clear hr
    go_enter Tryd.func9, Tryd.ntmps9
    go_wp2_with fail
    refine (MY _).mono ?_
    rintro e w1 ⟨rfl, rfl⟩
    go_wp2
    go_returns
    exact ⟨rfl, Below.refl _ _⟩
/-- Are two names the same? -/
def sameS (a b : List UInt8) : Bool := decide (plainS a ≠ [] ∧ plainS a = plainS b)
set_option maxRecDepth 20000 in
theorem same21_any (s t : ByteArray) (w : World) (hE : EnvN w) :
    Calls Tryd.prog 13 #[.string s, .string t] w fun e w' => e = .returned (.bool (sameS (bs s) (bs t))) ∧ Below w.heap.size w w' := by
  have P1 := fun w h => plain_any s w h
  have P2 := fun w h => plain_any t w h
  unfold sameS
  obtain ⟨a, ha⟩ : ∃ a, a = plainS (bs s) := ⟨_, rfl⟩
  obtain ⟨b, hb⟩ : ∃ b, b = plainS (bs t) := ⟨_, rfl⟩
  rw [← ha] at P1
  rw [← hb] at P2
  rw [← ha, ← hb]
  clear ha hb
  by_cases h0 : a = []
  · have hd : decide (a ≠ [] ∧ a = b) = false := by rw [decide_eq_false_iff_not]; exact fun h => h.1 h0
    rw [hd]
    have hte : (mk8 a).toList.isEmpty = true := by rw [h0, toList_bs, bs_mk8]; rfl
    have hte2 : (!(mk8 a).toList.isEmpty) = false := by rw [hte]; rfl
    clear hd h0
    go_enter Tryd.func13, Tryd.ntmps13
    go_wp2_with fail
    refine (P1 _ hE).mono ?_
    rintro e w1 ⟨rfl, hb1⟩
    go_wp2
    go_returns
    exact ⟨rfl, hb1⟩
  · have hte : (mk8 a).toList.isEmpty = false := by
      rw [toList_bs, bs_mk8]
      cases a with
      | nil => exact absurd rfl h0
      | cons c t => rfl
    by_cases hab : a = b
    · subst hab
      have hd : decide (a ≠ [] ∧ a = a) = true := by rw [decide_eq_true_eq]; exact ⟨h0, rfl⟩
      rw [hd]
      clear hd h0
      go_enter Tryd.func13, Tryd.ntmps13
      go_wp2_with fail
      refine (P1 _ hE).mono ?_
      rintro e w1 ⟨rfl, hb1⟩
      go_wp2_with fail
      refine (P2 _ (hE.below hb1)).mono ?_
      rintro e w2 ⟨rfl, hb2⟩
      go_wp2
      go_returns
      exact ⟨rfl, below_then hb1 hb2⟩
    · have hd : decide (a ≠ [] ∧ a = b) = false := by rw [decide_eq_false_iff_not]; exact fun h => hab h.2
      rw [hd]
      have hne : ¬ ((mk8 a).toList = (mk8 b).toList) := fun h => hab (by rw [toList_bs, toList_bs, bs_mk8, bs_mk8] at h; exact h)
      have hbq : ((mk8 a).toList == (mk8 b).toList) = false := beq_eq_false_iff_ne.2 hne
      clear hd h0 hab
      go_enter Tryd.func13, Tryd.ntmps13
      go_wp2_with fail
      refine (P1 _ hE).mono ?_
      rintro e w1 ⟨rfl, hb1⟩
      go_wp2_with fail
      refine (P2 _ (hE.below hb1)).mono ?_
      rintro e w2 ⟨rfl, hb2⟩
      go_wp2
      go_returns
      first | exact ⟨rfl, below_then hb1 hb2⟩ | exact ⟨ret_bool' hbq, below_then hb1 hb2⟩
end Go.Proofs.YthfakejhkbelhaaDoor
