/- Whether a character leads back to itself: the code. How many characters one is, parted as far as it can be: the code. -/
import Derived.Test.YtggichcfklbjiaaGreatDoorG27
section
set_option linter.unusedSimpArgs false
set_option linter.unusedVariables false
namespace Go.Proofs.YtggichcfklbjiaaGreatDoor
open Go.RowKit Go.Lib Go.Maps

/-- One character comes out of another. -/
inductive Down (D : Int → List Int) : Int → Int → Prop
  | one {x y : Int} : y ∈ D x → Down D x y
  | more {x y z : Int} : Down D x y → z ∈ D y → Down D x z
theorem Down.cut {D : Int → List Int} {x z : Int} (h : Down D x z) : ∃ c ∈ D x, c = z ∨ Down D c z := by
  induction h with
  | one h => exact ⟨_, h, .inl rfl⟩
  | more _ hz ih =>
    obtain ⟨c, hc, rfl | hd⟩ := ih
    · exact ⟨_, hc, .inr (.one hz)⟩
    · exact ⟨_, hc, .inr (.more hd hz)⟩
/-- What is parted again and again comes to an end. -/
def Ends (D : Int → List Int) (x : Int) : Prop := Acc (fun y x => y ∈ D x) x
theorem Ends.irr {D : Int → List Int} {a : Int} (h : Ends D a) : ¬ Down D a a := by
  induction h with
  | intro a _ ih =>
    intro hd
    obtain ⟨c, hc, e | hd2⟩ := hd.cut
    · subst e; exact ih _ hc hd
    · exact ih c hc (.more hd2 hc)
theorem Ends.of {D : Int → List Int} {a : Int} (h : ∀ y ∈ D a, Ends D y) : Ends D a := Acc.intro _ h
theorem marksT : Tryz.prog.underlying 62 = some (.map 21 3) := secsT
/-- Both maps of marks in memory. -/
structure LSt (w : World) (wb db : Nat) (D : Int → List Int) (wy dn : Int → Option Int) : Prop where
  mwy : MapF w Tryz.prog 21 runeLit R32 intV wb 1114112 wy
  mdn : MapF w Tryz.prog 21 runeLit R32 intV db 1114112 dn
  mw : Marks wy
  md : Marks dn
  ok : ∀ x, gd dn x = 1 → Ends D x
abbrev MB (wb db : Nat) (k : Nat) : Prop := k = wb ∨ k = db
theorem LSt.at_ {w w' : World} {wb db : Nat} {D : Int → List Int} {wy dn : Int → Option Int} (h : LSt w wb db D wy dn) (hb : Below w.heap.size w w') : LSt w' wb db D wy dn :=
  ⟨h.mwy.below hb h.mwy.lt, h.mdn.below hb h.mdn.lt, h.mw, h.md, h.ok⟩
theorem mapF_len {w : World} {b n : Nat} {f : Int → Option Int} (h : MapF w Tryz.prog 21 runeLit R32 intV b n f) (hm : Marks f) : MapF w Tryz.prog 21 runeLit R32 intV b 1114112 f := by
  have := h.tight rune_keyed hm.2
  rwa [allR_len] at this
theorem below_wr {W0 w w' : World} {wb db : Nat} (hb : Below W0.heap.size W0 w) (hW : Wrote (MB wb db) w w') (h1 : W0.heap.size ≤ wb) (h2 : W0.heap.size ≤ db) : Below W0.heap.size W0 w' :=
  hb.trans (hW.below (by rintro k (rfl | rfl) <;> assumption) hb.size)
def LoopsP (wb db : Nat) (D : Int → List Int) (wy dn : Int → Option Int) (r : Int) (w : World) (e : Ending) (w' : World) : Prop :=
  Wrote (MB wb db) w w' ∧ ((e = .returned (.bool true) ∧ ∃ x ∈ allR, ¬ Ends D x) ∨
  (e = .returned (.bool false) ∧ ∃ wy' dn', LSt w' wb db D wy' dn' ∧ (∀ x, gd wy' x = gd wy x) ∧ (∀ x, gd dn x = 1 → gd dn' x = 1) ∧ (∀ x, gd wy x = 1 → gd dn' x = gd dn x) ∧ gd dn' r = 1))
/-- Between two characters of a list. -/
def LoI (wb db : Nat) (D : Int → List Int) (wy1 dn : Int → Option Int) (il : List Int) (w2 wr : World) (k : Nat) : Prop :=
  ∃ wy' dn', LSt wr wb db D wy' dn' ∧ (∀ x, gd wy' x = gd wy1 x) ∧ (∀ x, gd dn x = 1 → gd dn' x = 1) ∧ (∀ x, gd wy1 x = 1 → gd dn' x = gd dn x) ∧ (∀ y ∈ il.take k, gd dn' y = 1) ∧ Wrote (MB wb db) w2 wr
section
variable {W0 : World} {bp n : Nat} {a : BAddr} {cls : Int → Int} {prt : Int → Option (List UInt8 × List Int)} {pr : Int × Int → Option Int} {md : Int → Option (Int × Int)} {sc : Int → Option Int}
set_option maxRecDepth 100000 in
set_option maxHeartbeats 8000000 in
theorem loops_any (h : BaseM W0 bp a n cls prt pr md sc) (hk : Kinds W0) (hD : ∀ x ∈ allR, ∀ y ∈ (decH prt x).2, y ∈ allR) (hDl : ∀ x, (decH prt x).2.length ≤ 18) {wb db : Nat} (hwd : wb ≠ db) (hwb : W0.heap.size ≤ wb) (hdb : W0.heap.size ≤ db) :
    ∀ (m : Nat) (w : World) (r : Int) (wy dn : Int → Option Int), r ∈ allR → cntL allR wy < m → Below W0.heap.size W0 w → LSt w wb db (fun x => (decH prt x).2) wy dn → (∀ x, gd wy x = 1 → Down (fun x => (decH prt x).2) x r) →
    Calls Tryz.prog 26 #[.pointer (some ⟨bp, 0, none⟩), .int .i32 r, .map (some wb), .map (some db)] w (LoopsP wb db (fun x => (decH prt x).2) wy dn r w) := by
  intro m
  induction m with
  | zero => intro w r wy dn _ hc; exact absurd hc (Nat.not_lt_zero _)
  | succ m ih =>
    intro w r wy dn hr hcnt hb hS hdown
    obtain ⟨D, hDe⟩ : ∃ D, D = fun x => (decH prt x).2 := ⟨_, rfl⟩
    have HDE := Lib.hid hDe
    rw [← hDe] at ih hS hdown
    rw [← hDe]
    have hrR : R32 r := allR_R hr
    have hmx : 1114112 < maxLen := by unfold maxLen; omega
    by_cases hdone : gd dn r = 1
    · have hdn := hS.mdn
      have HG : Hid ((dn r).getD 0 = 1) := hdone
      have HP : Hid (LoopsP wb db D wy dn r w (.returned (.bool false)) w) := ⟨Wrote.refl _ _, .inr ⟨rfl, wy, dn, hS, fun _ => rfl, fun _ h => h, fun _ _ => rfl, hdone⟩⟩
      clear ih hDe hdone hcnt hS hdown hD hDl h
      go_enter Tryz.func26, Tryz.ntmps26
      go_wp2_with (first | (at_lookup; refine wpList_lookF rfl _ _ rfl rune_keyed marksT (zero_int _) hdn (k := r) hrR rfl rfl ?_; rw [HG.out]) | go_in)
      go_returns
      exact HP.out
    · have hd0 : gd dn r = 0 := (hS.md.1 r).resolve_right hdone
      by_cases hway : gd wy r = 1
      · have hdn := hS.mdn
        have hwy := hS.mwy
        have HG : Hid ((dn r).getD 0 = 0) := hd0
        have HW : Hid ((wy r).getD 0 = 1) := hway
        have HP : Hid (LoopsP wb db D wy dn r w (.returned (.bool true)) w) := ⟨Wrote.refl _ _, .inl ⟨rfl, r, hr, fun he => he.irr (hdown r hway)⟩⟩
        clear ih hDe hdone hcnt hS hdown hD hDl h hd0 hway
        go_enter Tryz.func26, Tryz.ntmps26
        go_wp2_with (first | (at_lookup; refine wpList_lookF rfl _ _ rfl rune_keyed marksT (zero_int _) hdn (k := r) hrR rfl rfl ?_; rw [HG.out]) | (at_lookup; refine wpList_lookF rfl _ _ rfl rune_keyed marksT (zero_int _) hwy (k := r) hrR rfl rfl ?_; rw [HW.out]) | go_in)
        go_returns
        exact HP.out
      · have hw0 : gd wy r = 0 := (hS.mw.1 r).resolve_right hway
        have hdn := hS.mdn
        have hwy := hS.mwy
        have HG : Hid ((dn r).getD 0 = 0) := hd0
        have HW : Hid ((wy r).getD 0 = 0) := hw0
        have HWW : Hid (gd wy r = 0) := hw0
        have HDR : Hid (D r = (decH prt r).2) := by show _ = _; rw [hDe]
        obtain ⟨il, hil⟩ : ∃ il, il = (decH prt r).2 := ⟨_, rfl⟩
        obtain ⟨kd, hkd⟩ : ∃ kd, kd = (decH prt r).1 := ⟨_, rfl⟩
        have HIL : Hid (D r = il) := by show _ = _; rw [hil]; exact HDR.out
        have hill : il.length ≤ 18 := by rw [hil]; exact hDl r
        have hilr : ∀ y ∈ il, y ∈ allR := fun y hy => hD r hr y (by rw [← hil]; exact hy)
        have DC : ∀ W, Below W0.heap.size W0 W → Calls Tryz.prog 11 #[.pointer (some ⟨bp, 0, none⟩), .int .i32 r] W (DecP kd il W) := fun W hW => by
          rw [hil, hkd]
          exact decomp_any (h.below hW) r hrR (hk.below' hW)
        have HCN := Lib.hid hcnt
        have HST := Lib.hid hS
        have HDN := Lib.hid hdown
        have HIH := Lib.hid ih
        have HBB := Lib.hid hb
        clear ih hDe hdone hcnt hS hdown hD hDl h hd0 hway hw0 hil hkd hb
        go_enter Tryz.func26, Tryz.ntmps26
        go_wp2_with (first | (at_lookup; refine wpList_lookF rfl _ _ rfl rune_keyed marksT (zero_int _) hdn (k := r) hrR rfl rfl ?_; rw [HG.out]) | (at_lookup; refine wpList_lookF rfl _ _ rfl rune_keyed marksT (zero_int _) hwy (k := r) hrR rfl rfl ?_; rw [HW.out]) | (refine wpList_putF rfl _ _ _ rfl rune_keyed marksT hmx hwy (k := r) hrR 1 rfl rfl rfl ?_; intro w1 hm1 hg1 hs1; have hbw1 := HBB.out.grown hg1 HBB.out.size (fun k e => by cases e; exact hwb)) | (go_at_call 11; refine (DC _ hbw1).mono ?_; rintro e w2 ⟨A, c, rfl, hown, hb2⟩) | go_in)
        have hS := HST.out
        have hs12 : w1.heap.size ≤ w2.heap.size := hb2.size
        have hwl := hS.mwy.lt
        have hdl := hS.mdn.lt
        have hm2 : LSt w2 wb db D (upd wy r (some 1)) dn := by
          have e1 := mapF_len hm1 (hS.mw.upd hr (.inr rfl))
          have e2 := hS.mdn.kept hg1 (by simpa using fun e => hwd e.symm)
          exact ⟨e1.below hb2 e1.lt, e2.below hb2 e2.lt, hS.mw.upd hr (.inr rfl), hS.md, hS.ok⟩
        obtain ⟨wy1, hwy1⟩ : ∃ f, f = upd wy r (some 1) := ⟨_, rfl⟩
        have HY : ∀ x, gd wy1 x = if x = r then 1 else gd wy x := fun x => by rw [hwy1]; exact gd_upd
        rw [← hwy1] at hm2
        have HY1 := Lib.hid HY
        have hcn : cntL allR wy1 < m := by
          have := cnt_lt (f := wy) (g := wy1) (fun x hx => by rw [HY] at hx; by_cases e : x = r <;> simp [e] at hx; exact hx) (r := r) HW.out (by rw [HY]; simp) hr
          have := HCN.out
          omega
        have HDW : Hid (∀ x, gd wy1 x = 1 → ∀ y ∈ il, Down D x y) := fun x hx y hy => by
          rw [← HIL.out] at hy
          rw [HY] at hx
          by_cases e : x = r
          · rw [e]; exact .one hy
          · rw [if_neg e] at hx; exact .more (HDN.out x hx) hy
        have hb02 := below_then hbw1 hb2
        have HW2 : Hid (Wrote (MB wb db) w w2) := (Wrote.grown hg1 fun k e => by cases e; exact .inl rfl).trans (.of_below hb2)
        obtain ⟨A2, c2, hv2, _, _, hrd⟩ := Rd.of_own hown
        injection hv2 with hA2 hn2 hc2
        rw [← hA2] at hrd
        clear hn2 hc2
        have HAB : Hid (∀ a, A = some a → ¬ MB wb db a.block) := fun a ha => by
          rcases hown.2 with ⟨hv, _⟩ | ⟨g, cap, cur, hv, hbase, _⟩
          · injection hv with e; rw [ha] at e; cases e
          · injection hv with e _ _
            rw [ha] at e
            injection e with e
            subst e
            rintro (e | e) <;> simp only [] at e <;> omega
        clear hwy1 HY hown hm1 hg1 hs1 hbw1 hb2 hA2 hdn hwy HW hS
        go_loopw [33] (fun i wr => ∃ k : Nat, k ≤ il.length ∧ i = .int .i64 k ∧ LoI wb db D wy1 dn il w2 wr k) (fun i _ => il.length - (intOf i).toNat)
        case atStart => exact ⟨0, Nat.zero_le _, rfl, wy1, dn, hm2, fun _ => rfl, fun _ h => h, fun _ _ => rfl, by simp, Wrote.refl _ _⟩
        case round =>
          obtain ⟨k, hkl, rfl, wy', dn', hS', e1, e2, e3, e4, hW⟩ := hrel
          have hbr : Below W0.heap.size W0 wr := below_wr hb02 hW hwb hdb
          by_cases hlt : k < il.length
          · obtain ⟨x, hx⟩ : ∃ x, il[k]? = some x := ⟨_, List.getElem?_eq_getElem hlt⟩
            have hxm : x ∈ il := List.mem_of_getElem? hx
            have HC := HIH.out wr x wy' dn' (hilr x hxm) (Nat.lt_of_le_of_lt (cnt_le (fun y hy => by rw [← e1 y]; exact hy) _) hcn) hbr hS' (fun y hy => HDW.out y (by rw [← e1 y]; exact hy) x hxm)
            obtain ⟨b, off, rfl, hbl, hcx⟩ := (hrd.wrote hW (fun _ a ha => HAB.out a ha)).at_ (by omega)
            have c0 : wr.cell? ⟨b, off + k, none⟩ = some (.int .i32 x) := hcx k _ (by simp [Rs, hx])
            have hi : (k : Int) < (il.length : Int) := by omega
            have HTK : Hid (il.take (k + 1) = il.take k ++ [x]) := by show _ = _; rw [List.take_add_one, hx]; rfl
            have HE := Lib.hid (And.intro e1 (And.intro e2 (And.intro e3 e4)))
            clear hx hcx hS' e1 e2 e3 e4 hbl hxm
            go_wp2_with fail
            refine HC.mono ?_
            rintro e w3 ⟨hW3, (⟨rfl, hex⟩ | ⟨rfl, wy2, dn2, hS3, i1, i2, i3, i4⟩)⟩
            · have HP : Hid (LoopsP wb db D wy dn r w (.returned (.bool true)) w3) := ⟨(HW2.out.trans hW).trans hW3, .inl ⟨rfl, hex⟩⟩
              clear HC hW3 hex hm2 hrd
              go_wp2
              go_returns
              exact HP.out
            · obtain ⟨e1, e2, e3, e4⟩ := HE.out
              have hI : LoI wb db D wy1 dn il w2 w3 (k + 1) := ⟨wy2, dn2, hS3, fun y => (i1 y).trans (e1 y), fun y hy => i2 y (e2 y hy), fun y hy => (i3 y (by rw [e1 y]; exact hy)).trans (e3 y hy), fun y hy => by
                rw [HTK.out, List.mem_append, List.mem_singleton] at hy
                rcases hy with hy | rfl
                · exact i2 y (e4 y hy)
                · exact i4, hW.trans hW3⟩
              clear HC hW3 i1 i2 i3 i4 e1 e2 e3 e4 hm2 hrd
              go_wp2
              go_roundw
              case rel => exact ⟨k + 1, by omega, by go_num, hI⟩
              case measure => simp [intOf]; omega
          · obtain rfl : k = il.length := by omega
            rw [List.take_length] at e4
            have hi : (il.length : Int) ≤ (il.length : Int) := Int.le_refl _
            have hwy' := hS'.mwy
            have hdn' := hS'.mdn
            have h1 : gd wy1 r = 1 := by rw [HY1.out, if_pos rfl]
            have HW' : Hid ((wy' r).getD 0 = 1) := (e1 r).trans h1
            have HG' : Hid ((dn' r).getD 0 = 0) := (e3 r h1).trans HG.out
            have HE := Lib.hid (And.intro hS' (And.intro e1 (And.intro e2 (And.intro e3 e4))))
            have hne : (some db : Option Nat) ≠ some wb := by simpa using fun e => hwd e.symm
            clear hS' e1 e2 e3 e4 hm2 h1 hrd hb02 hbr
            go_wp2_with (first | (at_lookup; refine wpList_lookF rfl _ _ rfl rune_keyed marksT (zero_int _) hwy' (k := r) hrR rfl rfl ?_; rw [HW'.out]) | (refine wpList_putF rfl _ _ _ rfl rune_keyed marksT hmx hwy' (k := r) hrR 0 rfl rfl rfl ?_; intro w4 hm4 hg4 hs4; have hdn4 := hdn'.kept hg4 hne) | (at_lookup; refine wpList_lookF rfl _ _ rfl rune_keyed marksT (zero_int _) hdn4 (k := r) hrR rfl rfl ?_; rw [HG'.out]) | (refine wpList_putF rfl _ _ _ rfl rune_keyed marksT hmx hdn4 (k := r) hrR 1 rfl rfl rfl ?_; intro w5 hm5 hg5 hs5) | go_in)
            go_returns
            obtain ⟨hS', e1, e2, e3, e4⟩ := HE.out
            have n1 := mapF_len hm4 (hS'.mw.upd hr (.inl rfl))
            have n2 := mapF_len hm5 (hS'.md.upd hr (.inr rfl))
            refine ⟨((HW2.out.trans hW).trans (Wrote.grown hg4 fun k e => by cases e; exact .inl rfl)).trans (Wrote.grown hg5 fun k e => by cases e; exact .inr rfl), .inr ⟨rfl, _, _, ⟨n1.kept hg5 (by simpa using hwd), n2, hS'.mw.upd hr (.inl rfl), hS'.md.upd hr (.inr rfl), fun x hx => ?_⟩, fun x => ?_, fun x hx => ?_, fun x hx => ?_, ?_⟩⟩
            · rw [gd_upd] at hx
              by_cases e : x = r
              · subst e
                exact Ends.of fun y hy => hS'.ok y (e4 y (by rw [← HIL.out]; exact hy))
              · rw [if_neg e] at hx; exact hS'.ok x hx
            · rw [gd_upd]
              by_cases e : x = r
              · rw [if_pos e, e]; exact HWW.out.symm
              · rw [if_neg e, e1, HY1.out, if_neg e]
            · rw [gd_upd]
              by_cases e : x = r
              · rw [if_pos e]
              · rw [if_neg e]; exact e2 x hx
            · have e : x ≠ r := fun e => by rw [e, HWW.out] at hx; cases hx
              rw [gd_upd, if_neg e]
              exact e3 x (by rw [HY1.out, if_neg e]; exact hx)
            · rw [gd_upd, if_pos rfl]
end
end Go.Proofs.YtggichcfklbjiaaGreatDoor
end

section
set_option linter.unusedSimpArgs false
set_option linter.unusedVariables false
namespace Go.Proofs.YtggichcfklbjiaaGreatDoor
open Go.RowKit Go.Lib Go.Maps

/-- The map of what is known of how many characters are. -/
structure KSt (w : World) (kb : Nat) (L : Int → Nat) (kn : Int → Option Int) : Prop where
  mkn : MapF w Tryz.prog 21 runeLit R32 intV kb 1114112 kn
  keys : ∀ x, R32 x → (kn x).isSome = true → x ∈ allR
  val : ∀ x, gd kn x = 0 ∨ gd kn x = ((min (L x) 19 : Nat) : Int)
def ManyP (kb : Nat) (L : Int → Nat) (r : Int) (w : World) (e : Ending) (w' : World) : Prop :=
  e = .returned (.int .i64 ((min (L r) 19 : Nat) : Int)) ∧ Wrote (· = kb) w w' ∧ ∃ kn', KSt w' kb L kn'
theorem map_len {w : World} {b n : Nat} {f : Int → Option Int} (h : MapF w Tryz.prog 21 runeLit R32 intV b n f) (hm : ∀ x, R32 x → (f x).isSome = true → x ∈ allR) : MapF w Tryz.prog 21 runeLit R32 intV b 1114112 f := by
  have := h.tight rune_keyed hm
  rwa [allR_len] at this
/-- What the sum is of those that have come. -/
def sumM (L : Int → Nat) (il : List Int) : Nat := (il.map fun y => min (L y) 19).sum
theorem sumM_le (L : Int → Nat) (il : List Int) : sumM L il ≤ 19 * il.length := by
  unfold sumM
  induction il with
  | nil => simp
  | cons a l ih => simp; omega
theorem sumM_snoc (L : Int → Nat) (il : List Int) (x : Int) : sumM L (il ++ [x]) = sumM L il + min (L x) 19 := by
  unfold sumM; simp
theorem sumM_cap (L : Int → Nat) (il : List Int) : min (sumM L il) 19 = min ((il.map L).sum) 19 := by
  unfold sumM
  induction il with
  | nil => rfl
  | cons a l ih => simp; omega
theorem put_keys {f : Int → Option Int} {r : Int} (hr : r ∈ allR) (h : ∀ x, R32 x → (f x).isSome = true → x ∈ allR) (v : Int) : ∀ x, R32 x → (upd f r (some v) x).isSome = true → x ∈ allR := fun x hx hs => by
  unfold upd at hs
  split at hs
  · rename_i e; rw [e]; exact hr
  · exact h x hx hs
section
variable {W0 : World} {bp n : Nat} {a : BAddr} {cls : Int → Int} {prt : Int → Option (List UInt8 × List Int)} {pr : Int × Int → Option Int} {md : Int → Option (Int × Int)} {sc : Int → Option Int}
set_option maxRecDepth 100000 in
set_option maxHeartbeats 8000000 in
theorem many_any (h : BaseM W0 bp a n cls prt pr md sc) (hk : Kinds W0) (hD : ∀ x ∈ allR, ∀ y ∈ (decH prt x).2, y ∈ allR) (hDl : ∀ x, (decH prt x).2.length ≤ 18) {kb : Nat} (hkb : W0.heap.size ≤ kb)
    (L : Int → Nat) (hL : ∀ x, L x = if (decH prt x).2 = [] then 1 else ((decH prt x).2.map L).sum) (hL1 : ∀ x, 1 ≤ L x) (r : Int) (hE : Ends (fun x => (decH prt x).2) r) :
    ∀ (w : World) (kn : Int → Option Int), r ∈ allR → Below W0.heap.size W0 w → KSt w kb L kn →
    Calls Tryz.prog 27 #[.pointer (some ⟨bp, 0, none⟩), .int .i32 r, .map (some kb)] w (ManyP kb L r w) := by
  induction hE with
  | intro r hacc ih =>
    intro w kn hr hb hS
    have hrR : R32 r := allR_R hr
    have hmx : 1114112 < maxLen := by unfold maxLen; omega
    have hkn := hS.mkn
    have hLr1 := hL1 r
    have HL1R := Lib.hid hLr1
    rcases hS.val r with h0 | h0
    rotate_left
    · obtain ⟨v, hv⟩ : ∃ v : Int, v = ((min (L r) 19 : Nat) : Int) := ⟨_, rfl⟩
      have hv1 : v > 0 := by omega
      have HG : Hid ((kn r).getD 0 = v) := by rw [hv]; exact h0
      have HP : Hid (ManyP kb L r w (.returned (.int .i64 v)) w) := ⟨by rw [hv], Wrote.refl _ _, kn, hS⟩
      clear ih h0 hS hD hDl h hL hL1 hv hLr1 hacc
      go_enter Tryz.func27, Tryz.ntmps27
      go_wp2_with (first | (at_lookup; refine wpList_lookF rfl _ _ rfl rune_keyed marksT (zero_int _) hkn (k := r) hrR rfl rfl ?_; rw [HG.out]) | go_in)
      go_returns
      exact HP.out
    · have HG : Hid ((kn r).getD 0 = 0) := h0
      obtain ⟨il, hil⟩ : ∃ il, il = (decH prt r).2 := ⟨_, rfl⟩
      obtain ⟨kd, hkd⟩ : ∃ kd, kd = (decH prt r).1 := ⟨_, rfl⟩
      have hill : il.length ≤ 18 := by rw [hil]; exact hDl r
      have hilr : ∀ y ∈ il, y ∈ allR := fun y hy => hD r hr y (by rw [← hil]; exact hy)
      have DC : ∀ W, Below W0.heap.size W0 W → Calls Tryz.prog 11 #[.pointer (some ⟨bp, 0, none⟩), .int .i32 r] W (DecP kd il W) := fun W hW => by
        rw [hil, hkd]
        exact decomp_any (h.below hW) r hrR (hk.below' hW)
      have HLR : Hid (L r = if il = [] then 1 else (il.map L).sum) := by show _ = _; rw [hil]; exact hL r
      have HIH := Lib.hid (show ∀ y ∈ il, ∀ (w : World) (kn : Int → Option Int), y ∈ allR → Below W0.heap.size W0 w → KSt w kb L kn → Calls Tryz.prog 27 #[.pointer (some ⟨bp, 0, none⟩), .int .i32 y, .map (some kb)] w (ManyP kb L y w) from fun y hy => ih y (by show y ∈ (decH prt r).2; rw [← hil]; exact hy))
      have HBB := Lib.hid hb
      have HST := Lib.hid hS
      clear ih h0 hS hD hDl h hL hil hkd hb hacc hL1 hLr1
      go_enter Tryz.func27, Tryz.ntmps27
      go_wp2_with (first | (at_lookup; refine wpList_lookF rfl _ _ rfl rune_keyed marksT (zero_int _) hkn (k := r) hrR rfl rfl ?_; rw [HG.out]) | (go_at_call 11; refine (DC _ HBB.out).mono ?_; rintro e w2 ⟨A, c, rfl, hown, hb2⟩) | go_in)
      have hkl := hkn.lt
      have hs2 := hb2.size
      have hm2 : KSt w2 kb L kn := ⟨hkn.below hb2 hkl, HST.out.keys, HST.out.val⟩
      have hb02 := below_then HBB.out hb2
      obtain ⟨A2, c2, hv2, _, _, hrd⟩ := Rd.of_own hown
      injection hv2 with hA2 hn2 hc2
      rw [← hA2] at hrd
      clear hn2 hc2
      have HAB : Hid (∀ a, A = some a → ¬ (fun k => k = kb) a.block) := fun a ha => by
        rcases hown.2 with ⟨hv, _⟩ | ⟨g, cap, cur, hv, hbase, _⟩
        · injection hv with e; rw [ha] at e; cases e
        · injection hv with e _ _
          rw [ha] at e
          injection e with e
          subst e
          intro e
          simp only [] at e
          omega
      have HW2 : Hid (Wrote (· = kb) w w2) := .of_below hb2
      clear hown hb2 hA2 hkn
      go_loopw [10, 27] (fun s i wr => ∃ k q : Nat, k ≤ il.length ∧ i = .int .i64 k ∧ s = .int .i64 q ∧ Hid (q = sumM L (il.take k)) ∧ (∃ kn', KSt wr kb L kn') ∧ Wrote (· = kb) w2 wr) (fun _ i _ => il.length - (intOf i).toNat)
      case atStart => exact ⟨0, 0, Nat.zero_le _, rfl, rfl, by show _ = _; rfl, ⟨kn, hm2⟩, Wrote.refl _ _⟩
      case round =>
        obtain ⟨k, q, hkl2, rfl, rfl, HQ, ⟨kn', hS'⟩, hW⟩ := hrel
        have hq : q ≤ 19 * 18 := by
          have := sumM_le L (il.take k)
          rw [← HQ.out, List.length_take] at this
          omega
        have hbr : Below W0.heap.size W0 wr := hb02.trans (hW.below (by rintro j rfl; exact hkb) hb02.size)
        by_cases hlt : k < il.length
        · obtain ⟨x, hx⟩ : ∃ x, il[k]? = some x := ⟨_, List.getElem?_eq_getElem hlt⟩
          have hxm : x ∈ il := List.mem_of_getElem? hx
          have HC := HIH.out x hxm wr kn' (hilr x hxm) hbr hS'
          obtain ⟨b, off, rfl, hbl, hcx⟩ := (hrd.wrote hW (fun _ a ha => HAB.out a ha)).at_ (by omega)
          have c0 : wr.cell? ⟨b, off + k, none⟩ = some (.int .i32 x) := hcx k _ (by simp [Rs, hx])
          have hi : (k : Int) < (il.length : Int) := by omega
          obtain ⟨v, hv⟩ : ∃ v : Nat, v = min (L x) 19 := ⟨_, rfl⟩
          have hv19 : v ≤ 19 := by omega
          have HQ2 : Hid (q + v = sumM L (il.take (k + 1))) := by
            show _ = _
            rw [List.take_add_one, hx]
            show _ = sumM L (il.take k ++ [x])
            rw [sumM_snoc, HQ.out, hv]
          have hwr : wrap64 ((q : Int) + (v : Int)) = ((q + v : Nat) : Int) := by unfold wrap64; omega
          unfold ManyP at HC
          rw [← hv] at HC
          clear hx hcx hS' hbl hxm HQ hv
          go_wp2_with fail
          refine HC.mono ?_
          rintro e w3 ⟨rfl, hW3, hS3⟩
          have hW4 := hW.trans hW3
          clear HC hW3 hm2 hrd
          go_wp2
          go_roundw
          case rel => exact ⟨k + 1, q + v, by omega, by go_num, by first | rfl | (rw [hwr]) | (congr 1), HQ2, hS3, hW4⟩
          case measure => simp [intOf]; omega
        · obtain rfl : k = il.length := by omega
          have HQ3 : Hid (q = sumM L il) := by show _ = _; rw [HQ.out, List.take_length]
          have hi : (il.length : Int) ≤ (il.length : Int) := Int.le_refl _
          have hkn' := hS'.mkn
          have hk1 := hS'.keys
          have hk2 := hS'.val
          obtain ⟨V, hV⟩ : ∃ V : Nat, V = min (L r) 19 := ⟨_, rfl⟩
          have hVq : (V : Int) = min (max (q : Int) 1) 19 := by
            have hcap := sumM_cap L il
            rw [← HQ3.out] at hcap
            have h1 := HLR.out
            by_cases e : il = []
            · rw [if_pos e] at h1
              have : q = 0 := by rw [HQ3.out, e]; rfl
              subst this
              rw [hV, h1]
              rfl
            · rw [if_neg e] at h1
              have := HL1R.out
              rw [h1] at this
              rw [hV, h1]
              omega
          have HVR : Hid (((min (L r) 19 : Nat) : Int) = (V : Int)) := by show _ = _; rw [hV]
          have HVQ := Lib.hid hVq
          have HK := Lib.hid (And.intro hk1 hk2)
          clear hS' hm2 hrd hbr HQ HQ3 hV hVq hk1 hk2
          go_wp2_with (first | (refine wpList_putF rfl _ _ _ rfl rune_keyed marksT hmx hkn' (k := r) hrR (min (max (q : Int) 1) 19) rfl rfl rfl ?_; intro w4 hm4 hg4 hs4; rw [← HVQ.out] at hm4) | go_in)
          go_returns
          refine ⟨?_, (HW2.out.trans hW).trans (Wrote.grown hg4 fun k e => by cases e; rfl), _, map_len hm4 (put_keys hr HK.out.1 _), put_keys hr HK.out.1 _, fun x => ?_⟩
          · rw [HVR.out, HVQ.out]; first | done | rfl | simp
          · rw [gd_upd]
            by_cases e : x = r
            · rw [if_pos e, e]; exact .inr HVR.out.symm
            · rw [if_neg e]; exact HK.out.2 x
end
end Go.Proofs.YtggichcfklbjiaaGreatDoor
end
