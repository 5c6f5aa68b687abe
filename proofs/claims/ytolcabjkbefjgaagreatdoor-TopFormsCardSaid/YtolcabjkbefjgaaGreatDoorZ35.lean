/- Few: are lines not too many? The code. What is read of bytes are characters, no more than there are bytes (plain). -/
import Derived.Test.YtolcabjkbefjgaaGreatDoorZ34
set_option linter.unusedSimpArgs false
set_option linter.unusedVariables false
set_option maxRecDepth 20000
set_option maxHeartbeats 4000000
namespace Go.Proofs.YtolcabjkbefjgaaGreatDoor
section
open Go.RowKit
theorem few_yes (s o : ByteArray) (w : World) (hs : s.size <= 3000) (ho : o.size <= 500) : Calls Tryz.prog 5 #[.agg #[.string s, .string o]] w fun e w' => e = .returned (.bool true) /\ Below w.heap.size w w' := by
 have h1 : (s.size : Int) <= 3000 := (by omega);have h2 : (o.size : Int) <= 500 := (by omega);have hb : Below w.heap.size w (w.alloc (.cells #[.string s, .string o] 23)) := (Below.refl _ _).alloc (Nat.le_refl _) _;go_enter Tryz.func5, Tryz.ntmps5;go_wp2;go_returns;exact ⟨rfl, hb⟩
theorem few_no (s o : ByteArray) (w : World) (h : ¬ (s.size <= 3000 /\ o.size <= 500)) : Calls Tryz.prog 5 #[.agg #[.string s, .string o]] w fun e w' => e = .returned (.bool false) /\ Below w.heap.size w w' := by
 have hb : Below w.heap.size w (w.alloc (.cells #[.string s, .string o] 23)) := (Below.refl _ _).alloc (Nat.le_refl _) _
 by_cases h1 : s.size <= 3000
 ·have h1' : (s.size : Int) <= 3000 := (by omega);have h2 : ¬ ((o.size : Int) <= 500) := fun e => h ⟨h1, by omega⟩;have h3 : decide ((o.size : Int) <= 500) = false := decide_eq_false h2;clear h;go_enter Tryz.func5, Tryz.ntmps5;go_wp2;go_returns;exact ⟨zaw (by first | simp | (simp; omega)), hb⟩
 ·have h2 : ¬ ((s.size : Int) <= 3000) := fun e => h1 (by omega);clear h;go_enter Tryz.func5, Tryz.ntmps5;go_wp2;go_returns;exact ⟨rfl, hb⟩
end
section
open Go.RowKit Go.Lib
def NxR (nx : Nx) : Prop := ∀ s, (nx s).2.2 = 0 -> 0 <= (nx s).1 /\ (nx s).1 <= 16777216
theorem zm1 (many : Nat) : ∀ (t : List UInt8) (n : Nat) (x : Int) (ft : Nat × Nat) (M : Nat), 0 <= x -> (x + 1) * (64 : Int) ^ (many - n) <= M -> (tailU many n x ft t).2.2 = 0 -> 0 <= (tailU many n x ft t).1 /\ (tailU many n x ft t).1 < M
 | [], n, x, ft, M, hx, hM, h => by
  unfold tailU at h ⊢;split
  ·rename_i hm;rw [Nat.sub_eq_zero_of_le hm] at hM;simp only [Int.pow_zero, Int.mul_one] at hM;exact ⟨hx, by show x < M; omega⟩
  ·rename_i hm; rw [if_neg hm] at h; cases h
 | c :: t, n, x, ft, M, hx, hM, h => by
  unfold tailU at h ⊢;split
  ·rename_i hm;rw [Nat.sub_eq_zero_of_le hm] at hM;simp only [Int.pow_zero, Int.mul_one] at hM;exact ⟨hx, by show x < M; omega⟩
  ·rename_i hm;rw [if_neg hm] at h;split
   ·rename_i hc; rw [if_pos hc] at h; cases h
   ·rename_i hc;rw [if_neg hc] at h;refine zm1 many t (n + 1) _ _ M (by omega) ?_ h;have e : many - n = many - (n + 1) + 1 := (by omega);rw [e, Int.pow_succ] at hM;have h64 : (x * 64 + (c.toNat : Int) % 64 + 1) <= (x + 1) * 64 := (by omega);have hp : (0 : Int) <= 64 ^ (many - (n + 1)) := Int.pow_nonneg (by omega)
    calc (x * 64 + (c.toNat : Int) % 64 + 1) * 64 ^ (many - (n + 1)) <= (x + 1) * 64 * 64 ^ (many - (n + 1)) := Int.mul_le_mul_of_nonneg_right h64 hp
     _ = (x + 1) * (64 ^ (many - (n + 1)) * 64) := by rw [Int.mul_assoc, Int.mul_comm 64]
     _ <= M := hM
theorem nextU_R : NxR nextU := by
 intro s h
 cases s with
 | nil => cases h
 | cons b t =>
  rw [za6] at h ⊢;split
  ·rename_i hc; rw [if_pos hc] at h; cases h
  ·rename_i hc;rw [if_neg hc] at h;have hb := b.toNat_lt
   have key : 0 <= (leadU b).2 /\ ((leadU b).2 + 1) * (64 : Int) ^ ((leadU b).1 - 1) <= (16777216 : Nat) := by
    unfold leadU;split
    ·simp; omega
    split
    ·simp; omega
    split
    ·simp; omega
    split
    ·simp; omega
    ·simp
   have := zm1 _ t 1 _ (zbd b) 16777216 key.1 key.2 h;exact ⟨this.1, by omega⟩
theorem nextW_R (k : Int) : NxR (nextW k) := by
 intro s;unfold nextW;split
 ·intro h; cases h
 ·split
  ·split
   ·intro h; cases h
   ·split
    ·rename_i h1 h2 h3;intro _;obtain ⟨_, h4, h5⟩ := h1;obtain ⟨h6, h7⟩ := h3;constructor
     ·show (0 : Int) <= 65536 + ((unitW k s : Int) - 55296) * 1024 + unitW k (s.drop (sizeW k)) - 56320;omega
     ·show 65536 + ((unitW k s : Int) - 55296) * 1024 + unitW k (s.drop (sizeW k)) - 56320 <= (16777216 : Int);omega
    ·intro h; cases h
  ·split
   ·intro h; cases h
   ·rename_i h1;intro _;constructor
    ·show (0 : Int) <= (unitW k s : Int);omega
    ·show (unitW k s : Int) <= 16777216;omega
theorem zmb (k : Int) : NxR (nextK k) := by
 unfold nextK;split
 ·exact nextU_R
 ·exact nextW_R k
theorem rdF_R {nx : Nx} (h : NxR nx) (p : Int) : ∀ (k : Nat) (s : List UInt8), ∀ x ∈ (rdF nx p k s).1, R32 x
 | 0, s, x, hx => by cases hx
 | k + 1, s, x, hx => by
  unfold rdF at hx;split at hx
  ·cases hx
  ·split at hx
   ·cases hx
   ·rcases List.mem_append.1 hx with hx | hx
    ·unfold putN at hx;split at hx
     ·rename_i h0;have : x = (nx s).1 := (by simpa using hx);have h1 := h s h0;rw [this]; unfold R32; omega
     ·split at hx
      ·have : x = 65533 := (by simpa using hx);rw [this]; unfold R32; omega
      ·cases hx
    ·exact rdF_R h p k _ x hx
theorem zju (k p : Int) (g : Bool) (s : List UInt8) : ∀ x ∈ zb9 k p g s, R32 x := by
 unfold zb9;split
 ·exact rdF_R (zmb _) p _ _
 ·exact rdF_R (zmb _) p _ _
theorem zii (k p : Int) (g : Bool) (s : List UInt8) : (zb9 k p g s).length <= s.length := by
 unfold zb9;split
 ·have h1 := zl6 (p := p) (zkv (zas k s).1) _ (zas k s).2 (Nat.le_refl _)
  have h2 : (zas k s).2.length <= s.length := by
   unfold zas;split
   ·simp
   ·exact Nat.le_refl _
  exact Nat.le_trans h1 h2
 ·exact zl6 (p := p) (zkv k) _ s (Nat.le_refl _)
theorem DecT.told {base : Nat} {w : World} {q : Nat} {k0 p : Int} {g0 : Bool} {all : List UInt8} {out : List Int} (h : DecT base w q k0 p g0 all out) : (∀ x ∈ out, R32 x) /\ out.length <= all.length := by
 obtain ⟨rest, a, k, g, ov, nf, A, c, fs, hd, h1, h2, h3, h4, h5⟩ := h;have hc := h5.close;refine ⟨fun x hx => zju k0 p g0 all x (by rw [<- hc]; exact List.mem_append_left _ hx), ?_⟩;have h6 := zii k0 p g0 all;rw [<- hc, List.length_append] at h6;omega
end
end Go.Proofs.YtolcabjkbefjgaaGreatDoor
