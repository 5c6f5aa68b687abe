/- When New answers, and what a base parts, by reckoning: for the chapters' examples. Plain. The example of the chapter on what is told at once: true. The example of the chapter on forms: what is told of its base (plain). -/
import Derived.Test.YtolcabjkbefjgaaGreatDoorZ33
set_option linter.unusedSimpArgs false
set_option linter.unusedVariables false
set_option maxRecDepth 20000
set_option maxHeartbeats 4000000
namespace Go.Proofs.YtolcabjkbefjgaaGreatDoor
section
open Go.RowKit
def endsN (D : Int -> List Int) : Nat -> Int -> Bool
 | 0, r => (D r).isEmpty
 | n + 1, r => (D r).all (endsN D n)
theorem zhp {D : Int -> List Int} : ∀ {n : Nat} {r : Int}, endsN D n r = true -> Ends D r
 | 0, r, h => by
  have : D r = [] := (by simpa [endsN] using h);exact Ends.of fun y hy => by rw [this] at hy; cases hy
 | n + 1, r, h => by
  unfold endsN at h;rw [List.all_eq_true] at h;exact Ends.of fun y hy => zhp (h y hy)
def lenN (D : Int -> List Int) : Nat -> Int -> Nat
 | 0, _ => 1
 | n + 1, r => if (D r).isEmpty = true then 1 else ((D r).map (lenN D n)).sum
theorem zmg {D : Int -> List Int} (wf : WellFounded fun y x => y ∈ D x) : ∀ {n : Nat} {r : Int}, endsN D n r = true -> lenD D wf r = lenN D n r
 | 0, r, h => by
  have : D r = [] := (by simpa [endsN] using h);rw [ze6, if_pos this];rfl
 | n + 1, r, h => by
  unfold endsN at h;rw [List.all_eq_true] at h;rw [ze6];unfold lenN
  by_cases hd : D r = []
  ·rw [if_pos hd, if_pos (by rw [hd]; rfl)]
  ·rw [if_neg hd, if_neg (by simpa using hd), List.map_congr_left fun y hy => zmg wf (h y hy)]
def keysL (rows : List RowS) : List Int := (rows.filter fun x => !x.il.isEmpty).map (·.fr)
theorem zfq {rows : List RowS} {r : Int} (h : (prtL rows r).isSome = true) : r ∈ keysL rows := by
 obtain ⟨q, hq⟩ := Option.isSome_iff_exists.1 h;obtain ⟨x, hx, e, hne, _⟩ := zh1 hq;exact List.mem_map.2 ⟨x, List.mem_filter.2 ⟨hx, by simpa using hne⟩, e⟩
def newB (rows : List RowS) (out : List Int) (n : Nat) : Bool :=
 !rows.any zbu && !rows.any formB && (keysL rows).all (fun r => endsN (fun x => (decH (prtL rows) x).2) n r && decide (lenN (fun x => (decH (prtL rows) x).2) n r <= 18)) &&
  (keysL rows).all fun x => !madeQ (clsL rows) (prtL rows) out x || (!zdd (zax (prtL rows) x) && (keysL rows).all fun y => !madeQ (clsL rows) (prtL rows) out y || !decide (zax (prtL rows) x = zax (prtL rows) y) || decide (x = y))
theorem zj3 {rows : List RowS} {out : List Int} {n : Nat} (h : newB rows out n = true) : NewOk rows out := by
 unfold newB at h;simp only [Bool.and_eq_true, Bool.not_eq_true', List.all_eq_true, decide_eq_true_eq, Bool.or_eq_true, decide_eq_false_iff_not] at h;obtain ⟨⟨⟨h1, h2⟩, h3⟩, h4⟩ := h;have hq : ∀ x, madeQ (clsL rows) (prtL rows) out x = true -> x ∈ keysL rows := fun x hx => zfq (by rw [(zco hx).1]; rfl);refine ⟨h1, h2, fun r hr => zhp (h3 r (zfq hr)).1, fun wf r hr => ?_, fun x hx => ?_, fun x y hx hy e => ?_⟩
 ·rw [zmg wf (h3 r (zfq hr)).1];exact (h3 r (zfq hr)).2
 ·rcases h4 x (hq x hx) with h | h
  ·rw [hx] at h; cases h
  ·exact h.1
 ·rcases h4 x (hq x hx) with h | h
  ·rw [hx] at h; cases h
  ·rcases h.2 y (hq y hy) with (h | h) | h
   ·rw [hy] at h; cases h
   ·exact absurd e h
   ·exact h
def oneN (dec : Int -> List UInt8 × List Int) (c : Bool) : Nat -> Int -> List Int
 | 0, r => [r]
 | n + 1, r => if (dec r).1.isEmpty = false /\ c = false \/ (dec r).2.isEmpty = true then [r] else (dec r).2.flatMap (oneN dec c n)
theorem zma {B : BaseF} {c : Bool} : ∀ {n : Nat} {r : Int}, endsN (fun x => (B.dec x).2) n r = true -> B.one c r = oneN B.dec c (n + 1) r
 | n, r, h => by
  unfold oneN
  by_cases h0 : (B.dec r).1.isEmpty = false /\ c = false \/ (B.dec r).2.isEmpty = true
  ·rw [if_pos h0];refine B.one_none ?_;unfold BaseF.parts;rcases h0 with ⟨h1, h2⟩ | h1
   ·rw [if_pos ⟨(by intro e; rw [e] at h1; cases h1), h2⟩]
   ·split
    ·rfl
    ·simpa using h1
  ·rw [if_neg h0]
   have hp : B.parts c r = (B.dec r).2 := by
    unfold BaseF.parts;rw [if_neg];rintro ⟨h1, h2⟩;refine h0 (.inl ⟨?_, h2⟩)
    cases hd : (B.dec r).1 with
    | nil => exact absurd hd h1
    | cons a t => rfl
   rw [B.one_some (by rw [hp]; intro e; exact h0 (.inr (by rw [e]; rfl))), hp];match n, h with
   | 0, h =>
    have : (B.dec r).2 = [] := (by simpa [endsN] using h);rw [this];rfl
   | n + 1, h =>
    unfold endsN at h;rw [List.all_eq_true] at h
    have key : ∀ l : List Int, (∀ y ∈ l, y ∈ (B.dec r).2) -> l.flatMap (B.one c) = l.flatMap (oneN B.dec c (n + 1)) := fun l => by
     induction l with
     | nil => intro _; rfl
     | cons y t ih =>
      intro hm;rw [List.flatMap_cons, List.flatMap_cons, zma (h y (hm y (by simp))), ih fun z hz => hm z (by simp [hz])]
    exact key _ fun y hy => hy
theorem full_eq {B : BaseF} {c : Bool} {n : Nat} {l : List Int} (h : ∀ r ∈ l, endsN (fun x => (B.dec x).2) n r = true) : B.full c l = B.ord (l.flatMap (oneN B.dec c (n + 1))) := by
 unfold BaseF.full BaseF.all;congr 1;induction l with
 | nil => rfl
 | cons y t ih => rw [List.flatMap_cons, List.flatMap_cons, zma (h y (by simp)), ih fun z hz => h z (by simp [hz])]
theorem aw8_none : setsS (bs ByteArray.empty) = ([], 0, 0) := by kernel_rfl
end
section
open Go.RowKit Go.Lib Go.Maps
def awBS : ByteArray := ⟨#[48, 48, 67, 48, 59, 65, 59, 76, 117, 59, 48, 59, 59, 48, 48, 52, 49, 32, 48, 51, 48, 48, 10, 48, 51, 48, 48, 59, 77, 59, 77, 110, 59, 50, 51, 48, 59, 59]⟩
def awBR : List RowS := [⟨192, 192, [65], [76, 117], 0, [], [65, 768]⟩, ⟨768, 768, [77], [77, 110], 230, [], []⟩]
theorem zlm : rowsS (bs awBS) = (awBR, 0, 0) := by kernel_rfl
theorem zmu : newB awBR [] 2 = true := by kernel_rfl
theorem awB_g : RowsG awBR := by have := zl3 (bs awBS); rw [zlm] at this; exact this
noncomputable def awBB : BaseF := baseF awB_g (zj3 zmu)
end
section
open Go.RowKit Go.Lib Go.Maps
theorem awB_many {c : Bool} {l m : List Int} (h : ∀ r ∈ l, endsN (fun x => (decH (prtL awBR) x).2) 1 r = true) (hl : l.flatMap (oneN (decH (prtL awBR)) c 2) = m) : awBB.full c l = awBB.ord m := by
 have e := full_eq (B := awBB) (c := c) (n := 1) (l := l) h;rw [e];congr 1
theorem awB_e65 : endsN (fun x => (decH (prtL awBR) x).2) 1 65 = true := by kernel_rfl
theorem awB_e768 : endsN (fun x => (decH (prtL awBR) x).2) 1 768 = true := by kernel_rfl
theorem awC_full : awBB.full false [65, 768] = [65, 768] := (awB_many (m := [65, 768]) (fun x hx => by
 rcases (show x = 65 \/ x = 768 by simpa using hx) with rfl | rfl
 ·exact awB_e65
 ·exact awB_e768) (by kernel_rfl)).trans (by kernel_rfl)
theorem awC_one : awBB.form false true [65, 768] = [192] := by
 show awBB.join (awBB.full false [65, 768]) = [192];rw [awC_full];kernel_rfl
end
end Go.Proofs.YtolcabjkbefjgaaGreatDoor
