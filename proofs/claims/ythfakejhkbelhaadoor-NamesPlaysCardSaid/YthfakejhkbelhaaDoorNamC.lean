/- What names are plain: the code's walk. -/
import Derived.Test.YthfakejhkbelhaaDoorNamB
import Derived.Shelf.Strings.MapGrows
set_option linter.unusedSimpArgs false
set_option linter.unusedVariables false
namespace Go.Proofs.YthfakejhkbelhaaDoor
open Go.RowKit Go.Lib

abbrev Bs (l : List UInt8) : List Value := l.map (fun b => Value.int .u8 b.toNat)
theorem byteElem : Elem Tryd.prog 54 5 (.int .u8 0) 1 := ⟨Tryd.underlying54, by kernel_rfl, rfl⟩
theorem own_bytes {w : World} {base : Nat} {A : Option Addr} {c : Nat} {l : List UInt8} (h : w.ownsRow base 5 1 (.slice A l.length c) l.length (Bs l)) (hl : l ≠ []) :
    ∃ b off, A = some ⟨b, off, none⟩ ∧ ∀ j u, (Bs l)[j]? = some u → w.cell? ⟨b, off + j, none⟩ = some u := by
  have hlen : 0 < l.length := List.length_pos_iff.2 hl
  obtain ⟨A', c', e, _, _, hr⟩ := Rd.of_own h
  injection e with e1 _ e2
  subst e1 e2
  exact hr.2 hlen
theorem bytes_str {w : World} {base : Nat} {A : Option Addr} {c : Nat} {l : List UInt8} (h : w.ownsRow base 5 1 (.slice A l.length c) l.length (Bs l)) (hl : l ≠ []) :
    (convert 54 9 (.slice A l.length c)).run Tryd.prog w = .ok (.string (mk8 l)) w :=
  (own_bytes h hl).elim fun b h1 => h1.elim fun off h2 => by
    rw [h2.1]
    refine run_convert_bytes_back w 54 9 5 ⟨b, off, none⟩ c l Tryd.underlying54 Tryd.underlying5 Tryd.underlying9 (fun j hj => ?_)
    rw [Addr.add_lit]
    exact h2.2 j _ (by simp [hj])
theorem ret_str' {a b : ByteArray} (h : a = b) : Ending.returned (.string a) = .returned (.string b) := by rw [h]
/-- What Map keeps. -/
def keepR (r : Int) : Int := if r < 128 ∧ (digI r || ltrI r) = true then r else -1
set_option maxRecDepth 20000 in
theorem keep_any (x : Nat) (hx : x ≤ 1114111) (w : World) : Calls Tryd.prog 35 #[.int .i32 x] w fun e w' => e = .returned (.int .i32 (keepR x)) ∧ w = w' := by
  have hk : ((x : Int) < 48 ∧ keepR x = -1) ∨ ((48 : Int) ≤ x ∧ (x : Int) ≤ 57 ∧ keepR x = x) ∨ ((57 : Int) < x ∧ (x : Int) < 97 ∧ keepR x = -1) ∨ ((97 : Int) ≤ x ∧ (x : Int) ≤ 122 ∧ keepR x = x) ∨ ((122 : Int) < x ∧ (x : Int) < 128 ∧ keepR x = -1) ∨ ((128 : Int) ≤ x ∧ keepR x = -1) := by
    unfold keepR digI ltrI
    simp only [Bool.or_eq_true, decide_eq_true_eq]
    rcases (show x < 48 ∨ (48 ≤ x ∧ x ≤ 57) ∨ (57 < x ∧ x < 97) ∨ (97 ≤ x ∧ x ≤ 122) ∨ (122 < x ∧ x < 128) ∨ 128 ≤ x by omega) with h | h | h | h | h | h
    · rw [if_neg (by omega)]; omega
    · rw [if_pos (by omega)]; omega
    · rw [if_neg (by omega)]; omega
    · rw [if_pos (by omega)]; omega
    · rw [if_neg (by omega)]; omega
    · rw [if_neg (by omega)]; omega
  obtain ⟨n, hn⟩ : ∃ n, n = keepR x := ⟨_, rfl⟩
  rw [← hn] at hk
  rw [← hn]
  clear hn
  have hxi : (x : Int) ≤ 1114111 := by omega
  rcases hk with ⟨h, rfl⟩ | ⟨h, h', rfl⟩ | ⟨h, h', rfl⟩ | ⟨h, h', rfl⟩ | ⟨h, h', rfl⟩ | ⟨h, rfl⟩
  all_goals
    go_enter Tryd.func35, Tryd.ntmps35
    go_wp2
    go_returns
    exact ⟨rfl, rfl⟩
theorem keep_grows (w : World) : MapGrows Tryd.prog 35 #[] keepR w := fun W x hx hb => (keep_any x hx W).mono fun e w' h => ⟨h.1, h.2 ▸ Below.refl _ _⟩
theorem keepR_val (n : Nat) : keepR n = n ∨ keepR n < 0 := by
  unfold keepR
  split
  · exact .inl rfl
  · exact .inr (by decide)
theorem keepR_low (b : UInt8) : decide (0 ≤ keepR (lowN b).toNat) = isB b := by
  unfold keepR isB
  rw [Bool.eq_iff_iff, decide_eq_true_eq]
  constructor
  · intro h
    split at h
    · rename_i h2; exact h2.2
    · exact absurd h (by decide)
  · intro h
    have hlt : (((lowN b).toNat : Nat) : Int) < 128 := by
      unfold digI ltrI at h
      simp only [Bool.or_eq_true, decide_eq_true_eq] at h
      omega
    rw [if_pos ⟨hlt, h⟩]
    omega
theorem map_filt {l : List UInt8} (h : ∀ b ∈ l, b.toNat < 128) : Lib.mapD keepR (l.map lowN) = filtL l := by
  rw [mapD_ascii keepR (fun n _ => keepR_val n) (l.map lowN) (by
    intro b hb
    obtain ⟨c, hc, rfl⟩ := List.mem_map.1 hb
    have := h c hc
    by_cases hu : 65 ≤ c.toNat ∧ c.toNat ≤ 90
    · rw [lowN_up hu]; omega
    · rw [lowN_no hu]; exact this)]
  unfold filtL
  have hp : (fun b : UInt8 => decide (0 ≤ keepR ((lowN b).toNat : Int))) = isB := funext keepR_low
  rw [List.filter_map]
  simp only [Function.comp_def]
  rw [hp]
set_option maxRecDepth 20000 in
theorem lower_any (s : ByteArray) (w : World) (hs : s.size ≤ 64) (h : ∀ b ∈ bs s, b.toNat < 128) :
    Calls Tryd.prog 29 #[.string s] w fun e w' => e = .returned (.string (mk8 ((bs s).map lowN))) ∧ Below w.heap.size w w' := by
  have := Tryd.strings_ToLower_ascii s w (by omega) (fun j b hb => h b (List.mem_of_getElem? hb))
  unfold Lib.toLowerA at this
  rw [show List.map Lib.lowerB s.data.toList = (bs s).map lowN from List.map_congr_left fun b _ => lowerB_eq b] at this
  exact this
set_option maxRecDepth 20000 in
theorem map_any (l : List UInt8) (w : World) (hE : EnvN w) (hs : l.length ≤ 64) (h : ∀ b ∈ l, b.toNat < 128) :
    Calls Tryd.prog 34 #[.func (.func 35) #[] #[], .string (mk8 (l.map lowN))] w fun e w' => e = .returned (.string (mk8 (filtL l))) ∧ Below w.heap.size w w' := by
  have := Tryd.strings_Map_grows 35 #[] (enters_of Tryd.func35 (by kernel_rfl) rfl) keepR (mk8 (l.map lowN)) w (by rw [mk8_size, List.length_map]; omega) (keep_grows w) (fun x hx => by
    rcases keepR_val x with h | h
    · omega
    · unfold keepR at *; split <;> omega) hE.2
  rw [show (mk8 (l.map lowN)).data.toList = l.map lowN from rfl, map_filt h] at this
  exact this
theorem zeroF_ne : ∀ (l : List UInt8) (a : Bool), l ≠ [] → zeroF a l ≠ []
  | [], _, h => absurd rfl h
  | b :: t, a, _ => by
    by_cases hc : b = 48 ∧ a = false ∧ headDig t = true
    · rw [zeroF_drop hc]
      exact zeroF_ne t false (by intro h; rw [h] at hc; exact absurd hc.2.2 (by decide))
    · rw [zeroF_keep hc]; simp
theorem may_filt : ∀ (l : List UInt8), mayF false l = 0 → filtL l ≠ []
  | [], h => by simp [mayF] at h
  | b :: t, h => by
    cases hi : isB b with
    | true => rw [filtL_cons, if_pos hi]; simp
    | false =>
      rw [filtL_cons, if_neg (by rw [hi]; simp)]
      cases h2 : betB b with
      | true => rw [mayF_bet hi h2] at h; exact may_filt t h
      | false => rw [mayF_no hi h2] at h; exact absurd h (by decide)
theorem mayS_filt {l : List UInt8} (h : mayS l = 0) : filtL l ≠ [] := by
  unfold mayS at h
  split at h
  · exact absurd h (by decide)
  · exact may_filt l h
def lastDig (os : List UInt8) : Bool := match os.getLast? with
  | none => false
  | some b => digI b.toNat
theorem lastDig_snoc (os : List UInt8) (b : UInt8) : lastDig (os ++ [b]) = digI b.toNat := by simp [lastDig]
theorem step_keep {F os l : List UInt8} {x : UInt8} (h : zeroF false F = os ++ zeroF (lastDig os) (x :: l)) (hc : ¬ (x = 48 ∧ lastDig os = false ∧ headDig l = true)) : zeroF false F = (os ++ [x]) ++ zeroF (lastDig (os ++ [x])) l := by
  rw [h, zeroF_keep hc, lastDig_snoc]; simp
theorem step_drop {F os l : List UInt8} {x : UInt8} (h : zeroF false F = os ++ zeroF (lastDig os) (x :: l)) (hc : x = 48 ∧ lastDig os = false ∧ headDig l = true) : zeroF false F = os ++ zeroF (lastDig os) l := by
  rw [h, zeroF_drop hc, hc.2.1]
theorem plainS_no {l : List UInt8} (h : ¬ mayS l = 0) : plainS l = [] := by unfold plainS; rw [if_neg h]
theorem plainS_yes {l : List UInt8} (h : mayS l = 0) : plainS l = zeroF false (filtL l) := by unfold plainS; rw [if_pos h]
set_option maxRecDepth 20000 in
set_option maxHeartbeats 8000000 in
theorem plain_any (s : ByteArray) (w : World) (hE : EnvN w) :
    Calls Tryd.prog 12 #[.string s] w fun e w' => e = .returned (.string (mk8 (plainS (bs s)))) ∧ Below w.heap.size w w' := by
  have MY := fun w h => may_any s w h
  by_cases hm : mayS (bs s) = 0
  · rw [plainS_yes hm]
    have hin := mayS_ascii hm
    have hne := mayS_filt hm
    have hfl := filtL_len (bs s)
    rw [hm] at MY
    rw [bs_length] at hin hfl
    have LW := fun w => lower_any s w hin.1 hin.2
    have MP := fun w h => map_any (bs s) w h (by rw [bs_length]; exact hin.1) hin.2
    obtain ⟨F, hF⟩ : ∃ F, F = filtL (bs s) := ⟨_, rfl⟩
    rw [← hF] at MP hne hfl
    rw [← hF]
    have hsz : (mk8 F).size ≤ 64 := by rw [mk8_size]; omega
    have hbm : bs (mk8 F) = F := bs_mk8 F
    have hmz : F.length = (mk8 F).size := (mk8_size F).symm
    obtain ⟨m, hmm⟩ : ∃ m, m = mk8 F := ⟨_, rfl⟩
    rw [← hmm] at MP hsz hbm hmz
    have HMM := Lib.hid hmm
    have HNE := Lib.hid hne
    have HBM := Lib.hid hbm
    have hmi : (m.size : Int) ≤ 64 := by omega
    obtain ⟨res, hres⟩ : ∃ res, res = zeroF false F := ⟨_, rfl⟩
    rw [← hres]
    have HRES := Lib.hid hres
    clear hF hin hmm hne hbm hmz hm hfl hres
    go_enter Tryd.func12, Tryd.ntmps12
    have hbw := Below.refl w.heap.size w
    go_wp2_with fail
    refine (MY _ hE).mono ?_
    rintro e w1 ⟨rfl, hb1⟩
    replace hE := hE.below hb1
    replace hbw := below_then hbw hb1
    clear hb1
    go_wp2_with fail
    refine (LW _).mono ?_
    rintro e w2 ⟨rfl, hb1⟩
    replace hE := hE.below hb1
    replace hbw := below_then hbw hb1
    clear hb1
    go_wp2_with fail
    refine (MP _ hE).mono ?_
    rintro e w3 ⟨rfl, hb1⟩
    replace hbw := below_then hbw hb1
    clear hb1 hE MY LW MP
    go_wp2
    go_loopw [3, 14] (fun v i wr => ∃ (k : Nat) (os : List UInt8) (A' : Option Addr) (c' : Nat), k ≤ m.size ∧ i = .int .i64 k ∧ v = .slice A' os.length c' ∧ os.length ≤ k ∧ Hid (zeroF false F = os ++ zeroF (lastDig os) ((bs m).drop k)) ∧ wr.ownsRow w.heap.size 5 1 (.slice A' os.length c') os.length (Bs os) ∧ Below w.heap.size w wr) (fun _ i _ => m.size - (intOf i).toNat)
    case atStart => exact ⟨0, [], none, 0, Nat.zero_le _, rfl, rfl, Nat.le_refl _, (by show _ = _; rw [HBM.out]; rfl), World.ownsRow_nil _ _ _ _, hbw⟩
    case round =>
      clear hbw
      obtain ⟨k, os, A', c', hk, rfl, rfl, hol, HR, hown, hbw⟩ := hrel
      have hz := hbw.size
      by_cases hlt : k < m.size
      · have hki : (k : Int) < (m.size : Int) := by omega
        have hd := bs_drop m k hlt
        have hx := fun w => index_at m (k : Int) k hlt rfl w
        obtain ⟨x, hxe⟩ : ∃ x, (m[k]'hlt) = x := ⟨_, rfl⟩
        rw [hxe] at hd hx
        rw [hd] at HR
        clear hd hxe
        by_cases hos : os = []
        · have ho0 : (os.length : Int) ≤ 0 := by rw [hos]; decide
          have hld : lastDig os = false := by rw [hos]; rfl
          clear hos
          by_cases h48 : x = 48
          · subst h48
            rw [show ((UInt8.toNat 48 : Nat) : Int) = 48 from rfl] at hx
            by_cases hn : k + 1 < m.size
            · have hni : (k : Int) + 1 < (m.size : Int) := by omega
              have hd2 := bs_drop m (k + 1) hn
              have hy := fun w => index_at m ((k : Int) + 1) (k + 1) hn (by omega) w
              obtain ⟨y, hye⟩ : ∃ y, (m[k + 1]'hn) = y := ⟨_, rfl⟩
              rw [hye] at hd2 hy
              have DY := fun w => ndigit_any y.toNat w
              have hhd : headDig ((bs m).drop (k + 1)) = digI y.toNat := by rw [hd2]; rfl
              obtain ⟨yv, hyv⟩ : ∃ yv : Int, yv = y.toNat := ⟨_, rfl⟩
              rw [← hyv] at hy DY hhd
              clear hd2 hye hyv
              cases hdy : digI yv
              · rw [hdy] at DY hhd
                have HR2 : Hid (zeroF false F = (os ++ [48]) ++ zeroF (lastDig (os ++ [48])) ((bs m).drop (k + 1))) := step_keep HR.out (by rw [hhd]; simp)
                clear hdy hhd hld
                go_wp2_with fail
                refine (DY _).mono ?_
                rintro e w5 ⟨rfl, rfl⟩
                go_wp2_with (at_builtin; refine wpList_app byteElem _ rfl _ _ rfl w.heap.size rfl (hown.alloc _) rfl (Rd.new1 _ _ _) (one_of rfl) (by omega) (by omega) (by simp; omega) ?_)
                intro A2 c2 w6 hown4 hg4 hat4
                have hb4 := below_app (hbw.alloc hz _) (by simp; omega) (hown.alloc _) hg4
                go_wp2
                go_roundw
                case rel => exact ⟨k + 1, os ++ [48], A2, c2, by omega, by go_num, by simp, by simp <;> omega, HR2, by simpa using hown4, hb4⟩
                case measure => simp [intOf]; omega
              · rw [hdy] at DY hhd
                have HR2 : Hid (zeroF false F = os ++ zeroF (lastDig os) ((bs m).drop (k + 1))) := step_drop HR.out ⟨rfl, hld, hhd⟩
                clear hdy hhd hld
                go_wp2_with fail
                refine (DY _).mono ?_
                rintro e w5 ⟨rfl, rfl⟩
                go_wp2
                go_roundw
                case rel => exact ⟨k + 1, os, _, c', by omega, by go_num, rfl, by omega, HR2, hown, hbw⟩
                case measure => simp [intOf]; omega
            · have hni : (m.size : Int) ≤ (k : Int) + 1 := by omega
              have hhd : headDig ((bs m).drop (k + 1)) = false := by rw [List.drop_eq_nil_of_le (by rw [bs_length]; omega)]; rfl
              have HR2 : Hid (zeroF false F = (os ++ [48]) ++ zeroF (lastDig (os ++ [48])) ((bs m).drop (k + 1))) := step_keep HR.out (by rw [hhd]; simp)
              clear hhd hld
              go_wp2_with (at_builtin; refine wpList_app byteElem _ rfl _ _ rfl w.heap.size rfl (hown.alloc _) rfl (Rd.new1 _ _ _) (one_of rfl) (by omega) (by omega) (by simp; omega) ?_)
              intro A2 c2 w6 hown4 hg4 hat4
              have hb4 := below_app (hbw.alloc hz _) (by simp; omega) (hown.alloc _) hg4
              go_wp2
              go_roundw
              case rel => exact ⟨k + 1, os ++ [48], A2, c2, by omega, by go_num, by simp, by simp <;> omega, HR2, by simpa using hown4, hb4⟩
              case measure => simp [intOf]; omega
          · have HR2 : Hid (zeroF false F = (os ++ [x]) ++ zeroF (lastDig (os ++ [x])) ((bs m).drop (k + 1))) := step_keep HR.out (fun h => h48 h.1)
            have hxn : (((x.toNat : Nat) : Int) == 48) = false := by
              rw [beq_eq_false_iff_ne]
              intro h
              exact h48 (UInt8.toNat_inj.1 (by rw [show (48 : UInt8).toNat = 48 from rfl]; omega))
            clear hld h48
            go_wp2_with (at_builtin; refine wpList_app byteElem _ rfl _ _ rfl w.heap.size rfl (hown.alloc _) rfl (Rd.new1 _ _ _) (one_of rfl) (by omega) (by omega) (by simp; omega) ?_)
            intro A2 c2 w6 hown4 hg4 hat4
            have hb4 := below_app (hbw.alloc hz _) (by simp; omega) (hown.alloc _) hg4
            go_wp2
            go_roundw
            case rel => exact ⟨k + 1, os ++ [x], A2, c2, by omega, by go_num, by simp, by simp <;> omega, HR2, by simpa using hown4, hb4⟩
            case measure => simp [intOf]; omega
        · have ho1 : (0 : Int) < (os.length : Int) := by have := List.length_pos_iff.2 hos; omega
          obtain ⟨gb, off, rfl, hcx⟩ := own_bytes hown hos
          obtain ⟨o1, lb, hob⟩ : ∃ o1 lb, os = o1 ++ [lb] := ⟨_, _, (List.dropLast_concat_getLast hos).symm⟩
          have hold : lastDig os = digI lb.toNat := by rw [hob, lastDig_snoc]
          have holn : os.length = o1.length + 1 := by rw [hob]; simp
          have hc := hcx o1.length (.int .u8 lb.toNat) (by rw [hob]; simp)
          have hii : (os.length : Int) - 1 = (o1.length : Int) := by omega
          have DL := fun w => ndigit_any lb.toNat w
          obtain ⟨lv, hlv⟩ : ∃ lv : Int, lv = lb.toNat := ⟨_, rfl⟩
          rw [← hlv] at hc DL hold
          have hoi : (o1.length : Int) < (os.length : Int) := by omega
          clear hcx hob hlv hos holn
          cases hdl : digI lv
          · rw [hdl] at hold DL
            have hld := hold
            clear hold hdl
            by_cases h48 : x = 48
            · subst h48
              rw [show ((UInt8.toNat 48 : Nat) : Int) = 48 from rfl] at hx
              by_cases hn : k + 1 < m.size
              · have hni : (k : Int) + 1 < (m.size : Int) := by omega
                have hd2 := bs_drop m (k + 1) hn
                have hy := fun w => index_at m ((k : Int) + 1) (k + 1) hn (by omega) w
                obtain ⟨y, hye⟩ : ∃ y, (m[k + 1]'hn) = y := ⟨_, rfl⟩
                rw [hye] at hd2 hy
                have DY := fun w => ndigit_any y.toNat w
                have hhd : headDig ((bs m).drop (k + 1)) = digI y.toNat := by rw [hd2]; rfl
                obtain ⟨yv, hyv⟩ : ∃ yv : Int, yv = y.toNat := ⟨_, rfl⟩
                rw [← hyv] at hy DY hhd
                clear hd2 hye hyv
                cases hdy : digI yv
                · rw [hdy] at DY hhd
                  have HR2 : Hid (zeroF false F = (os ++ [48]) ++ zeroF (lastDig (os ++ [48])) ((bs m).drop (k + 1))) := step_keep HR.out (by rw [hhd]; simp)
                  clear hdy hhd hld
                  go_wp2_with fail
                  refine (DL _).mono ?_
                  rintro e w4 ⟨rfl, rfl⟩
                  go_wp2_with fail
                  refine (DY _).mono ?_
                  rintro e w5 ⟨rfl, rfl⟩
                  go_wp2_with (at_builtin; refine wpList_app byteElem _ rfl _ _ rfl w.heap.size rfl (hown.alloc _) rfl (Rd.new1 _ _ _) (one_of rfl) (by omega) (by omega) (by simp; omega) ?_)
                  intro A2 c2 w6 hown4 hg4 hat4
                  have hb4 := below_app (hbw.alloc hz _) (by simp; omega) (hown.alloc _) hg4
                  go_wp2
                  go_roundw
                  case rel => exact ⟨k + 1, os ++ [48], A2, c2, by omega, by go_num, by simp, by simp <;> omega, HR2, by simpa using hown4, hb4⟩
                  case measure => simp [intOf]; omega
                · rw [hdy] at DY hhd
                  have HR2 : Hid (zeroF false F = os ++ zeroF (lastDig os) ((bs m).drop (k + 1))) := step_drop HR.out ⟨rfl, hld, hhd⟩
                  clear hdy hhd hld
                  go_wp2_with fail
                  refine (DL _).mono ?_
                  rintro e w4 ⟨rfl, rfl⟩
                  go_wp2_with fail
                  refine (DY _).mono ?_
                  rintro e w5 ⟨rfl, rfl⟩
                  go_wp2
                  go_roundw
                  case rel => exact ⟨k + 1, os, _, c', by omega, by go_num, rfl, by omega, HR2, hown, hbw⟩
                  case measure => simp [intOf]; omega
              · have hni : (m.size : Int) ≤ (k : Int) + 1 := by omega
                have hhd : headDig ((bs m).drop (k + 1)) = false := by rw [List.drop_eq_nil_of_le (by rw [bs_length]; omega)]; rfl
                have HR2 : Hid (zeroF false F = (os ++ [48]) ++ zeroF (lastDig (os ++ [48])) ((bs m).drop (k + 1))) := step_keep HR.out (by rw [hhd]; simp)
                clear hhd hld
                go_wp2_with fail
                refine (DL _).mono ?_
                rintro e w4 ⟨rfl, rfl⟩
                go_wp2_with (at_builtin; refine wpList_app byteElem _ rfl _ _ rfl w.heap.size rfl (hown.alloc _) rfl (Rd.new1 _ _ _) (one_of rfl) (by omega) (by omega) (by simp; omega) ?_)
                intro A2 c2 w6 hown4 hg4 hat4
                have hb4 := below_app (hbw.alloc hz _) (by simp; omega) (hown.alloc _) hg4
                go_wp2
                go_roundw
                case rel => exact ⟨k + 1, os ++ [48], A2, c2, by omega, by go_num, by simp, by simp <;> omega, HR2, by simpa using hown4, hb4⟩
                case measure => simp [intOf]; omega
            · have HR2 : Hid (zeroF false F = (os ++ [x]) ++ zeroF (lastDig (os ++ [x])) ((bs m).drop (k + 1))) := step_keep HR.out (fun h => h48 h.1)
              have hxn : (((x.toNat : Nat) : Int) == 48) = false := by
                rw [beq_eq_false_iff_ne]
                intro h
                exact h48 (UInt8.toNat_inj.1 (by rw [show (48 : UInt8).toNat = 48 from rfl]; omega))
              clear hld h48
              go_wp2_with fail
              refine (DL _).mono ?_
              rintro e w4 ⟨rfl, rfl⟩
              go_wp2_with (at_builtin; refine wpList_app byteElem _ rfl _ _ rfl w.heap.size rfl (hown.alloc _) rfl (Rd.new1 _ _ _) (one_of rfl) (by omega) (by omega) (by simp; omega) ?_)
              intro A2 c2 w6 hown4 hg4 hat4
              have hb4 := below_app (hbw.alloc hz _) (by simp; omega) (hown.alloc _) hg4
              go_wp2
              go_roundw
              case rel => exact ⟨k + 1, os ++ [x], A2, c2, by omega, by go_num, by simp, by simp <;> omega, HR2, by simpa using hown4, hb4⟩
              case measure => simp [intOf]; omega
          · rw [hdl] at hold DL
            have hld := hold
            clear hold hdl
            have HR2 : Hid (zeroF false F = (os ++ [x]) ++ zeroF (lastDig (os ++ [x])) ((bs m).drop (k + 1))) := step_keep HR.out (fun h => by rw [hld] at h; exact absurd h.2.1 (by decide))
            clear hld
            by_cases h48 : x = 48
            · subst h48
              rw [show ((UInt8.toNat 48 : Nat) : Int) = 48 from rfl] at hx
              go_wp2_with fail
              refine (DL _).mono ?_
              rintro e w4 ⟨rfl, rfl⟩
              go_wp2_with (at_builtin; refine wpList_app byteElem _ rfl _ _ rfl w.heap.size rfl (hown.alloc _) rfl (Rd.new1 _ _ _) (one_of rfl) (by omega) (by omega) (by simp; omega) ?_)
              intro A2 c2 w6 hown4 hg4 hat4
              have hb4 := below_app (hbw.alloc hz _) (by simp; omega) (hown.alloc _) hg4
              go_wp2
              go_roundw
              case rel => exact ⟨k + 1, os ++ [48], A2, c2, by omega, by go_num, by simp, by simp <;> omega, HR2, by simpa using hown4, hb4⟩
              case measure => simp [intOf]; omega
            · have hxn : (((x.toNat : Nat) : Int) == 48) = false := by
                rw [beq_eq_false_iff_ne]
                intro h
                exact h48 (UInt8.toNat_inj.1 (by rw [show (48 : UInt8).toNat = 48 from rfl]; omega))
              clear h48
              go_wp2_with fail
              refine (DL _).mono ?_
              rintro e w4 ⟨rfl, rfl⟩
              go_wp2_with (at_builtin; refine wpList_app byteElem _ rfl _ _ rfl w.heap.size rfl (hown.alloc _) rfl (Rd.new1 _ _ _) (one_of rfl) (by omega) (by omega) (by simp; omega) ?_)
              intro A2 c2 w6 hown4 hg4 hat4
              have hb4 := below_app (hbw.alloc hz _) (by simp; omega) (hown.alloc _) hg4
              go_wp2
              go_roundw
              case rel => exact ⟨k + 1, os ++ [x], A2, c2, by omega, by go_num, by simp, by simp <;> omega, HR2, by simpa using hown4, hb4⟩
              case measure => simp [intOf]; omega
      · have hki : (m.size : Int) ≤ (k : Int) := by omega
        have hdr : (bs m).drop k = [] := List.drop_eq_nil_of_le (by rw [bs_length]; omega)
        have hos : res = os := by rw [HRES.out, HR.out, hdr]; simp [zeroF]
        have hone : os ≠ [] := by rw [← hos, HRES.out]; exact zeroF_ne F false HNE.out
        have hcv := bytes_str hown hone
        have HOS := Lib.hid hos
        clear hdr hos hone
        go_wp2
        go_returns
        exact ⟨ret_str' (by rw [HOS.out]), hbw⟩
  · rw [plainS_no hm]
    obtain ⟨r, hr⟩ : ∃ r, r = mayS (bs s) := ⟨_, rfl⟩
    rw [← hr] at MY hm
    have hq : (r != 0) = true := by simpa using hm
    clear hr
    go_enter Tryd.func12, Tryd.ntmps12
    go_wp2_with fail
    refine (MY _ hE).mono ?_
    rintro e w1 ⟨rfl, hb1⟩
    go_wp2
    go_returns
    exact ⟨rfl, hb1⟩
end Go.Proofs.YthfakejhkbelhaaDoor
