/- BaseOut's law: a character that is excluded is made of none, and all else is as it was. -/
import Derived.Test.YtfdelmodmadoaaaGreatDoorG42
import Derived.Test.YtfdelmodmadoaaaGreatDoorG39
import Derived.Test.YtfdelmodmadoaaaGreatDoorG38
import Derived.Test.YtfdelmodmadoaaaGreatDoorG12
set_option linter.unusedSimpArgs false
set_option linter.unusedVariables false
set_option maxRecDepth 20000
set_option maxHeartbeats 4000000
namespace Go.Proofs.YtfdelmodmadoaaaGreatDoor
section
open Go.RowKit Go.Lib Go.Maps Go.Sort Go.Shelf
attribute [local go_sem] Oper.semAt_some
structure OutOk (rows : List RowS) (out : List Int) (bp : Nat) (a : BAddr) (n : Nat) (pr : Int × Int -> Option Int) (md : Int -> Option (Int × Int)) (sc : Int -> Option Int) (B : BaseF) (w : World) : Prop where
 m : BaseM w bp a n (clsL rows) (prtL rows) pr md sc
 is : zck w (.pointer (some ⟨bp, 0, none⟩)) B
 few : n <= 100000
 dec : ∀ r, B.dec r = decH (prtL rows) r
 cls : ∀ r, B.cls r = clsL rows r
 mdq : ∀ x, (md x).isSome = madeQ (clsL rows) (prtL rows) out x
section
variable {rows : List RowS} {out : List Int} {bp : Nat} {a : BAddr} {n : Nat} {pr : Int × Int -> Option Int} {md : Int -> Option (Int × Int)} {sc : Int -> Option Int} {B : BaseF} {w w' : World}
theorem OutOk.below (h : OutOk rows out bp a n pr md sc B w) (hb : Below w.heap.size w w') : OutOk rows out bp a n pr md sc B w' := ⟨h.m.below hb, h.is.below hb, h.few, h.dec, h.cls, h.mdq⟩
end
theorem zjx {rows : List RowS} {out : List Int} (g : RowsG rows) (h : NewOk rows out) {w w' : World} {e : Ending} (hG : zfc rows out w e w') :
  ∃ bp a n pr md sc B, e = .returned (.tuple #[.pointer (some ⟨bp, 0, none⟩), .int .i64 0]) /\ OutOk rows out bp a n pr md sc B w' /\ zhv B /\ Below w.heap.size w w' := by
 obtain ⟨bp, he, hB, hb⟩ := zh1 g h hG;obtain ⟨bp', a, n, ss, pr, md, sc, he', hM, hn, hA, hI, _, _⟩ := hG;rw [he] at he'
 have : bp = bp' := by
  injection he' with h1;injection h1 with h1;have := congrArg (fun x => x[0]?) h1;simpa using this
 subst this;refine ⟨bp, a, n, pr, md, sc, _, he, ⟨hM, hB, by omega, fun _ => rfl, fun _ => rfl, fun x => ?_⟩, zjl g h, hb⟩;rw [hI.md];split
 ·rename_i hq;rw [hq.2];rfl
 ·rename_i hq
  cases hm : madeQ (clsL rows) (prtL rows) out x with
  | false => rfl
  | true =>
   have h1 := (zbb hm).1;exact absurd ⟨(hA.2 x).2 ⟨zb7 (g.into x _ h1).1, by rw [h1]; rfl⟩, hm⟩ hq
def outL (c : Nat) (pre : List (Int × (Int × Int))) : List Int := (pre.map (·.1)).filter fun y => decide (y ≠ (c : Int))
section
variable {w : World}
theorem baseout_few (s o : ByteArray) (c r : Int) (hE : Env w) (hk : Kinds w) (hs : ¬ (s.size <= 3000 /\ o.size <= 500)) :
  Calls Tryz.prog 4 #[.agg #[.string s, .string o], .int .i32 c, .int .i32 r] w fun e w' => e = .returned (.bool true) /\ Below w.heap.size w w' := by
 refine (callsIn_wide (n := 9)).1 ?_;have hro : Fence.wide.round = none := rfl;have h1 : 1 <= 9 := (by omega);obtain ⟨W0, hW0⟩ : ∃ W0, ((w.alloc (.cells #[.string s, .string o] 23)).alloc (.cells #[.int .i32 c] 21)).alloc (.cells #[.bool false] 4) = W0 := ⟨_, rfl⟩;have hsz : W0.heap.size = w.heap.size + 3 := by rw [<- hW0]; simp
 have hB0 : Below w.heap.size w W0 := by
  rw [<- hW0];exact (((Below.refl _ w).alloc (Nat.le_refl _) _).alloc (by simp) _).alloc (by simp; omega) _
 have bx1 : W0.heap[w.heap.size]? = some (.cells #[.string s, .string o] 23 (0, 0)) := by
  rw [<- hW0];exact (Below.heap_alloc _ _ _ (by simp; omega)).trans ((Below.heap_alloc _ _ _ (by simp)).trans (zp w _ _))
 have bxc : Boxed W0 (w.heap.size + 1) 21 (.int .i32 c) := by
  rw [<- hW0];have := Boxed.new (w.alloc (.cells #[.string s, .string o] 23)) 21 (.int .i32 c);rw [World.size_alloc] at this;exact (Below.heap_alloc _ _ _ (by simp)).trans this
 have bx2 : Boxed W0 (w.heap.size + 2) 4 (.bool false) := by
  rw [<- hW0];have := Boxed.new ((w.alloc (.cells #[.string s, .string o] 23)).alloc (.cells #[.int .i32 c] 21)) 4 (.bool false);rwa [World.size_alloc, World.size_alloc] at this
 have FW := zio s o W0 hs;have hx0 := za bx1 0 rfl;have hx1 := za bx1 1 rfl;refine callsIn_of_wp_marks Tryz.func4 rfl trivial ?_ hro;simp only [Tryz.ntmps4, List.size_toArray, List.length_cons, List.length_nil, Nat.reduceAdd, Nat.reduceSub, Array.replicate_succ, Array.replicate_zero, List.push_toArray, List.append_toArray, List.nil_append, List.cons_append]
 gi_wp2
 clear hW0 hx0 hx1;refine ⟨trivial, (callsIn_wide.2 FW).mono ?_⟩;rintro e w1 ⟨rfl, hb1⟩;have AW := zaq w1 (hE.below (zb hB0 hb1)) (hk.below' (zb hB0 hb1));clear FW
 gi_wp2
 try any_goals (rename_i hb _; exact absurd hb (by first | (intro e; injection e with e; cases e; done) | simp [undef]))
 refine ⟨trivial, ?_⟩
 gi_wp2
 try any_goals (rename_i hb _; exact absurd hb (by first | (intro e; injection e with e; cases e; done) | simp [undef]))
 refine ⟨trivial, (callsIn_wide.2 AW).mono ?_⟩;rintro e v ⟨rfl, hb2⟩;have HB := hz0q (zb hb1 hb2);clear AW hb1 hb2;have b6 := ze bx2 HB.out;have c6 := b6.cell;have f6 := b6.frozen
 gi_wp2
 have z6 := b6.set (.bool true);have hWF : Wrote (fun k => k = w.heap.size + 2) v (v.setCell ⟨w.heap.size + 2, 0, none⟩ (.bool true)) := Wrote.setCell (S := fun k => k = w.heap.size + 2) (.inl rfl) _;have hbF := (zb hB0 HB.out).trans (hWF.below (B := w.heap.size) (by rintro k e; omega) (by have := (zb hB0 HB.out).size; omega));have k6 := z6.cell;refine ⟨.bool true, ?_, rfl, hbF⟩;simp [results, Tryz.f4, go_sem, k6]
theorem baseout_low (s o : ByteArray) (c r : Int) (hE : Env w) (hk : Kinds w) (hs : s.size <= 3000) (ho : o.size <= 500) (hc : c < 16) :
  Calls Tryz.prog 4 #[.agg #[.string s, .string o], .int .i32 c, .int .i32 r] w fun e w' => e = .returned (.bool true) /\ Below w.heap.size w w' := by
 refine (callsIn_wide (n := 9)).1 ?_;have hro : Fence.wide.round = none := rfl;have h1 : 1 <= 9 := (by omega);obtain ⟨W0, hW0⟩ : ∃ W0, ((w.alloc (.cells #[.string s, .string o] 23)).alloc (.cells #[.int .i32 c] 21)).alloc (.cells #[.bool false] 4) = W0 := ⟨_, rfl⟩;have hsz : W0.heap.size = w.heap.size + 3 := by rw [<- hW0]; simp
 have hB0 : Below w.heap.size w W0 := by
  rw [<- hW0];exact (((Below.refl _ w).alloc (Nat.le_refl _) _).alloc (by simp) _).alloc (by simp; omega) _
 have bx1 : W0.heap[w.heap.size]? = some (.cells #[.string s, .string o] 23 (0, 0)) := by
  rw [<- hW0];exact (Below.heap_alloc _ _ _ (by simp; omega)).trans ((Below.heap_alloc _ _ _ (by simp)).trans (zp w _ _))
 have bxc : Boxed W0 (w.heap.size + 1) 21 (.int .i32 c) := by
  rw [<- hW0];have := Boxed.new (w.alloc (.cells #[.string s, .string o] 23)) 21 (.int .i32 c);rw [World.size_alloc] at this;exact (Below.heap_alloc _ _ _ (by simp)).trans this
 have bx2 : Boxed W0 (w.heap.size + 2) 4 (.bool false) := by
  rw [<- hW0];have := Boxed.new ((w.alloc (.cells #[.string s, .string o] 23)).alloc (.cells #[.int .i32 c] 21)) 4 (.bool false);rwa [World.size_alloc, World.size_alloc] at this
 have FW := few8 s o W0 hs ho;have hx0 := za bx1 0 rfl;have hx1 := za bx1 1 rfl;refine callsIn_of_wp_marks Tryz.func4 rfl trivial ?_ hro;simp only [Tryz.ntmps4, List.size_toArray, List.length_cons, List.length_nil, Nat.reduceAdd, Nat.reduceSub, Array.replicate_succ, Array.replicate_zero, List.push_toArray, List.append_toArray, List.nil_append, List.cons_append];clear hs ho
 gi_wp2
 clear hW0 hx0 hx1;refine ⟨trivial, (callsIn_wide.2 FW).mono ?_⟩;rintro e w1 ⟨rfl, hb1⟩;have hcc := (ze bxc hb1).cell;have AW := zaq w1 (hE.below (zb hB0 hb1)) (hk.below' (zb hB0 hb1));clear FW
 gi_wp2
 try any_goals (rename_i hb _; exact absurd hb (by first | (intro e; injection e with e; cases e; done) | simp [undef]))
 refine ⟨trivial, ?_⟩
 gi_wp2
 try any_goals (rename_i hb _; exact absurd hb (by first | (intro e; injection e with e; cases e; done) | simp [undef]))
 refine ⟨trivial, (callsIn_wide.2 AW).mono ?_⟩;rintro e v ⟨rfl, hb2⟩;have HB := hz0q (zb hb1 hb2);clear AW hb1 hb2;have b6 := ze bx2 HB.out;have c6 := b6.cell;have f6 := b6.frozen
 gi_wp2
 have z6 := b6.set (.bool true);have hWF : Wrote (fun k => k = w.heap.size + 2) v (v.setCell ⟨w.heap.size + 2, 0, none⟩ (.bool true)) := Wrote.setCell (S := fun k => k = w.heap.size + 2) (.inl rfl) _;have hbF := (zb hB0 HB.out).trans (hWF.below (B := w.heap.size) (by rintro k e; omega) (by have := (zb hB0 HB.out).size; omega));have k6 := z6.cell;refine ⟨.bool true, ?_, rfl, hbF⟩;simp [results, Tryz.f4, go_sem, k6]
theorem baseout_high (s o : ByteArray) (c r : Int) (hE : Env w) (hk : Kinds w) (hs : s.size <= 3000) (ho : o.size <= 500) (hc0 : ¬ c < 16) (hc : 65535 < c) :
  Calls Tryz.prog 4 #[.agg #[.string s, .string o], .int .i32 c, .int .i32 r] w fun e w' => e = .returned (.bool true) /\ Below w.heap.size w w' := by
 refine (callsIn_wide (n := 9)).1 ?_;have hro : Fence.wide.round = none := rfl;have h1 : 1 <= 9 := (by omega);obtain ⟨W0, hW0⟩ : ∃ W0, ((w.alloc (.cells #[.string s, .string o] 23)).alloc (.cells #[.int .i32 c] 21)).alloc (.cells #[.bool false] 4) = W0 := ⟨_, rfl⟩;have hsz : W0.heap.size = w.heap.size + 3 := by rw [<- hW0]; simp
 have hB0 : Below w.heap.size w W0 := by
  rw [<- hW0];exact (((Below.refl _ w).alloc (Nat.le_refl _) _).alloc (by simp) _).alloc (by simp; omega) _
 have bx1 : W0.heap[w.heap.size]? = some (.cells #[.string s, .string o] 23 (0, 0)) := by
  rw [<- hW0];exact (Below.heap_alloc _ _ _ (by simp; omega)).trans ((Below.heap_alloc _ _ _ (by simp)).trans (zp w _ _))
 have bxc : Boxed W0 (w.heap.size + 1) 21 (.int .i32 c) := by
  rw [<- hW0];have := Boxed.new (w.alloc (.cells #[.string s, .string o] 23)) 21 (.int .i32 c);rw [World.size_alloc] at this;exact (Below.heap_alloc _ _ _ (by simp)).trans this
 have bx2 : Boxed W0 (w.heap.size + 2) 4 (.bool false) := by
  rw [<- hW0];have := Boxed.new ((w.alloc (.cells #[.string s, .string o] 23)).alloc (.cells #[.int .i32 c] 21)) 4 (.bool false);rwa [World.size_alloc, World.size_alloc] at this
 have FW := few8 s o W0 hs ho;have hx0 := za bx1 0 rfl;have hx1 := za bx1 1 rfl;refine callsIn_of_wp_marks Tryz.func4 rfl trivial ?_ hro;simp only [Tryz.ntmps4, List.size_toArray, List.length_cons, List.length_nil, Nat.reduceAdd, Nat.reduceSub, Array.replicate_succ, Array.replicate_zero, List.push_toArray, List.append_toArray, List.nil_append, List.cons_append];clear hs ho
 gi_wp2
 clear hW0 hx0 hx1;refine ⟨trivial, (callsIn_wide.2 FW).mono ?_⟩;rintro e w1 ⟨rfl, hb1⟩;have hcc := (ze bxc hb1).cell;have AW := zaq w1 (hE.below (zb hB0 hb1)) (hk.below' (zb hB0 hb1));clear FW
 gi_wp2
 try any_goals (rename_i hb _; exact absurd hb (by first | (intro e; injection e with e; cases e; done) | simp [undef]))
 refine ⟨trivial, ?_⟩
 gi_wp2
 try any_goals (rename_i hb _; exact absurd hb (by first | (intro e; injection e with e; cases e; done) | simp [undef]))
 refine ⟨trivial, (callsIn_wide.2 AW).mono ?_⟩;rintro e v ⟨rfl, hb2⟩;have HB := hz0q (zb hb1 hb2);clear AW hb1 hb2;have b6 := ze bx2 HB.out;have c6 := b6.cell;have f6 := b6.frozen
 gi_wp2
 have z6 := b6.set (.bool true);have hWF : Wrote (fun k => k = w.heap.size + 2) v (v.setCell ⟨w.heap.size + 2, 0, none⟩ (.bool true)) := Wrote.setCell (S := fun k => k = w.heap.size + 2) (.inl rfl) _;have hbF := (zb hB0 HB.out).trans (hWF.below (B := w.heap.size) (by rintro k e; omega) (by have := (zb hB0 HB.out).size; omega));have k6 := z6.cell;refine ⟨.bool true, ?_, rfl, hbF⟩;simp [results, Tryz.f4, go_sem, k6]
theorem baseout_none (s o : ByteArray) (c r : Int) (hE : Env w) (hk : Kinds w) (hs : s.size <= 3000) (ho : o.size <= 500) (hc0 : ¬ c < 16) (hc9 : ¬ 65535 < c) (hc : zy c = false) :
  Calls Tryz.prog 4 #[.agg #[.string s, .string o], .int .i32 c, .int .i32 r] w fun e w' => e = .returned (.bool true) /\ Below w.heap.size w w' := by
 refine (callsIn_wide (n := 9)).1 ?_;have hro : Fence.wide.round = none := rfl;have h1 : 1 <= 9 := (by omega);obtain ⟨W0, hW0⟩ : ∃ W0, ((w.alloc (.cells #[.string s, .string o] 23)).alloc (.cells #[.int .i32 c] 21)).alloc (.cells #[.bool false] 4) = W0 := ⟨_, rfl⟩;have hsz : W0.heap.size = w.heap.size + 3 := by rw [<- hW0]; simp
 have hB0 : Below w.heap.size w W0 := by
  rw [<- hW0];exact (((Below.refl _ w).alloc (Nat.le_refl _) _).alloc (by simp) _).alloc (by simp; omega) _
 have bx1 : W0.heap[w.heap.size]? = some (.cells #[.string s, .string o] 23 (0, 0)) := by
  rw [<- hW0];exact (Below.heap_alloc _ _ _ (by simp; omega)).trans ((Below.heap_alloc _ _ _ (by simp)).trans (zp w _ _))
 have bxc : Boxed W0 (w.heap.size + 1) 21 (.int .i32 c) := by
  rw [<- hW0];have := Boxed.new (w.alloc (.cells #[.string s, .string o] 23)) 21 (.int .i32 c);rw [World.size_alloc] at this;exact (Below.heap_alloc _ _ _ (by simp)).trans this
 have bx2 : Boxed W0 (w.heap.size + 2) 4 (.bool false) := by
  rw [<- hW0];have := Boxed.new ((w.alloc (.cells #[.string s, .string o] 23)).alloc (.cells #[.int .i32 c] 21)) 4 (.bool false);rwa [World.size_alloc, World.size_alloc] at this
 have FW := few8 s o W0 hs ho;have hx0 := za bx1 0 rfl;have hx1 := za bx1 1 rfl;have SC := fun W => zaw c W;rw [hc] at SC;clear hc;refine callsIn_of_wp_marks Tryz.func4 rfl trivial ?_ hro;simp only [Tryz.ntmps4, List.size_toArray, List.length_cons, List.length_nil, Nat.reduceAdd, Nat.reduceSub, Array.replicate_succ, Array.replicate_zero, List.push_toArray, List.append_toArray, List.nil_append, List.cons_append];clear hs ho
 gi_wp2
 clear hW0 hx0 hx1;refine ⟨trivial, (callsIn_wide.2 FW).mono ?_⟩;rintro e w1 ⟨rfl, hb1⟩;have hcc := (ze bxc hb1).cell;have AW := zaq w1 (hE.below (zb hB0 hb1)) (hk.below' (zb hB0 hb1));clear FW
 gi_wp2
 refine ⟨trivial, (callsIn_wide.2 (SC w1)).mono ?_⟩;rintro e w2 ⟨rfl, rfl⟩
 gi_wp2
 refine ⟨trivial, (callsIn_wide.2 AW).mono ?_⟩;rintro e v ⟨rfl, hb2⟩;have HB := hz0q (zb hb1 hb2);clear AW hb1 hb2;have b6 := ze bx2 HB.out;have c6 := b6.cell;have f6 := b6.frozen
 gi_wp2
 have z6 := b6.set (.bool true);have hWF : Wrote (fun k => k = w.heap.size + 2) v (v.setCell ⟨w.heap.size + 2, 0, none⟩ (.bool true)) := Wrote.setCell (S := fun k => k = w.heap.size + 2) (.inl rfl) _;have hbF := (zb hB0 HB.out).trans (hWF.below (B := w.heap.size) (by rintro k e; omega) (by have := (zb hB0 HB.out).size; omega));have k6 := z6.cell;refine ⟨.bool true, ?_, rfl, hbF⟩;simp [results, Tryz.f4, go_sem, k6]
theorem baseout_bad (s o : ByteArray) (c r : Int) (hE : Env w) (hk : Kinds w) (hs : s.size <= 3000) (ho : o.size <= 500) (hc0 : ¬ c < 16) (hc9 : ¬ 65535 < c) (hc : zy c = true) (hC : ¬ NewC (bs s) []) :
  Calls Tryz.prog 4 #[.agg #[.string s, .string o], .int .i32 c, .int .i32 r] w fun e w' => e = .returned (.bool true) /\ Below w.heap.size w w' := by
 refine (callsIn_wide (n := 9)).1 ?_;have hro : Fence.wide.round = none := rfl;have h1 : 1 <= 9 := (by omega);obtain ⟨W0, hW0⟩ : ∃ W0, ((w.alloc (.cells #[.string s, .string o] 23)).alloc (.cells #[.int .i32 c] 21)).alloc (.cells #[.bool false] 4) = W0 := ⟨_, rfl⟩;have hsz : W0.heap.size = w.heap.size + 3 := by rw [<- hW0]; simp
 have hB0 : Below w.heap.size w W0 := by
  rw [<- hW0];exact (((Below.refl _ w).alloc (Nat.le_refl _) _).alloc (by simp) _).alloc (by simp; omega) _
 have bx1 : W0.heap[w.heap.size]? = some (.cells #[.string s, .string o] 23 (0, 0)) := by
  rw [<- hW0];exact (Below.heap_alloc _ _ _ (by simp; omega)).trans ((Below.heap_alloc _ _ _ (by simp)).trans (zp w _ _))
 have bxc : Boxed W0 (w.heap.size + 1) 21 (.int .i32 c) := by
  rw [<- hW0];have := Boxed.new (w.alloc (.cells #[.string s, .string o] 23)) 21 (.int .i32 c);rw [World.size_alloc] at this;exact (Below.heap_alloc _ _ _ (by simp)).trans this
 have bx2 : Boxed W0 (w.heap.size + 2) 4 (.bool false) := by
  rw [<- hW0];have := Boxed.new ((w.alloc (.cells #[.string s, .string o] 23)).alloc (.cells #[.int .i32 c] 21)) 4 (.bool false);rwa [World.size_alloc, World.size_alloc] at this
 have FW := few8 s o W0 hs ho;have hx0 := za bx1 0 rfl;have hx1 := za bx1 1 rfl;have SC := fun W => zaw c W;rw [hc] at SC;have NW := fun W1 (hb : Below W0.heap.size W0 W1) => zdv (w := W1) s ⟨#[]⟩ (hE.below (zb hB0 hb)) (hk.below' (zb hB0 hb)) (by omega) (by decide);refine callsIn_of_wp_marks Tryz.func4 rfl trivial ?_ hro;simp only [Tryz.ntmps4, List.size_toArray, List.length_cons, List.length_nil, Nat.reduceAdd, Nat.reduceSub, Array.replicate_succ, Array.replicate_zero, List.push_toArray, List.append_toArray, List.nil_append, List.cons_append];clear hs ho hc
 gi_wp2
 clear hW0 hx0 hx1;refine ⟨trivial, (callsIn_wide.2 FW).mono ?_⟩;rintro e w1 ⟨rfl, hb1⟩;have hcc := (ze bxc hb1).cell;have hd0 := (za (zd bx1 hb1) 0 rfl);have N1 := NW w1 hb1;clear FW NW
 gi_wp2
 refine ⟨trivial, (callsIn_wide.2 (SC w1)).mono ?_⟩;rintro e w1' ⟨rfl, rfl⟩
 gi_wp2
 refine ⟨trivial, (callsIn_wide.2 N1).mono ?_⟩;rintro e w2 hP;rcases hP with ⟨_, ⟨er, her, rfl⟩, hb2⟩ | ⟨hn, _⟩;rotate_left
 ·exact absurd hn hC
 have hb02 := zb hb1 hb2;have AW := zaq w2 (hE.below (zb hB0 hb02)) (hk.below' (zb hB0 hb02));have hne : (er == 0) = false := (by simpa using her);have hne2 : (er != 0) = true := (by simpa using her);clear N1 hb1 hb2 hC her hd0 hcc SC
 gi_wp2
 refine ⟨trivial, (callsIn_wide.2 AW).mono ?_⟩;rintro e v ⟨rfl, hb2⟩;have HB := hz0q (zb hb02 hb2);clear AW hb02 hb2;have b6 := ze bx2 HB.out;have c6 := b6.cell;have f6 := b6.frozen
 gi_wp2
 have z6 := b6.set (.bool true);have hWF : Wrote (fun k => k = w.heap.size + 2) v (v.setCell ⟨w.heap.size + 2, 0, none⟩ (.bool true)) := Wrote.setCell (S := fun k => k = w.heap.size + 2) (.inl rfl) _;have hbF := (zb hB0 HB.out).trans (hWF.below (B := w.heap.size) (by rintro k e; omega) (by have := (zb hB0 HB.out).size; omega));have k6 := z6.cell;refine ⟨.bool true, ?_, rfl, hbF⟩;simp [results, Tryz.f4, go_sem, k6]
theorem baseout_main (s o : ByteArray) (cn : Nat) (r : Int) (hE : Env w) (hk : Kinds w) (hr : R32 r) (hs : s.size <= 3000) (ho : o.size <= 500) (hc0 : ¬ (cn : Int) < 16) (hc9 : ¬ (65535 : Int) < cn) (hc : zy cn = true) (hC : NewC (bs s) []) :
  Calls Tryz.prog 4 #[.agg #[.string s, .string o], .int .i32 cn, .int .i32 r] w fun e w' => e = .returned (.bool true) /\ Below w.heap.size w w' := by
 refine (callsIn_wide (n := 9)).1 ?_;have hro : Fence.wide.round = none := rfl;have h1 : 1 <= 9 := (by omega);obtain ⟨W0, hW0⟩ : ∃ W0, ((w.alloc (.cells #[.string s, .string o] 23)).alloc (.cells #[.int .i32 cn] 21)).alloc (.cells #[.bool false] 4) = W0 := ⟨_, rfl⟩;have hsz : W0.heap.size = w.heap.size + 3 := by rw [<- hW0]; simp
 have hB0 : Below w.heap.size w W0 := by
  rw [<- hW0];exact (((Below.refl _ w).alloc (Nat.le_refl _) _).alloc (by simp) _).alloc (by simp; omega) _
 have bx1 : W0.heap[w.heap.size]? = some (.cells #[.string s, .string o] 23 (0, 0)) := by
  rw [<- hW0];exact (Below.heap_alloc _ _ _ (by simp; omega)).trans ((Below.heap_alloc _ _ _ (by simp)).trans (zp w _ _))
 have bxc : Boxed W0 (w.heap.size + 1) 21 (.int .i32 cn) := by
  rw [<- hW0];have := Boxed.new (w.alloc (.cells #[.string s, .string o] 23)) 21 (.int .i32 cn);rw [World.size_alloc] at this;exact (Below.heap_alloc _ _ _ (by simp)).trans this
 have bx2 : Boxed W0 (w.heap.size + 2) 4 (.bool false) := by
  rw [<- hW0];have := Boxed.new ((w.alloc (.cells #[.string s, .string o] 23)).alloc (.cells #[.int .i32 cn] 21)) 4 (.bool false);rwa [World.size_alloc, World.size_alloc] at this
 have hcn : cn < 65536 := (by omega);have FW := few8 s o W0 hs ho;have hx0 := za bx1 0 rfl;have hx1 := za bx1 1 rfl;have SC := fun W => zaw cn W;rw [hc] at SC;have HXO := fun W => hexo_any cn W hcn;have hh4 : (mk8 (hex4 cn)).size = 4 := zt _;have NW := fun W1 (hb : Below W0.heap.size W0 W1) => zdv (w := W1) s ⟨#[]⟩ (hE.below (zb hB0 hb)) (hk.below' (zb hB0 hb)) (by omega) (by decide)
 have N2 : Hid (∀ W1, Below W0.heap.size W0 W1 -> Calls Tryz.prog 9 #[.string s, .string (mk8 (hex4 cn))] W1 fun e w' => ∃ bp a n pr md sc B, e = .returned (.tuple #[.pointer (some ⟨bp, 0, none⟩), .int .i64 0]) /\ OutOk (rowsS (bs s)).1 [(cn : Int)] bp a n pr md sc B w' /\ zhv B /\ Below W1.heap.size W1 w') := by
  show ∀ W1, _;intro W1 hb;refine (zdv (w := W1) s (mk8 (hex4 cn)) (hE.below (zb hB0 hb)) (hk.below' (zb hB0 hb)) (by omega) (by omega)).mono ?_;intro e w' hP;rw [zah] at hP;rcases hP with ⟨hn, _⟩ | ⟨⟨_, _, hok⟩, hG⟩
  ·exact absurd (newC_out hcn hc hC) hn
  rw [zf3 hcn hc] at hok hG;exact zjx (zfm _) hok hG
 have HC := hz0q hC;refine callsIn_of_wp_marks Tryz.func4 rfl trivial ?_ hro;simp only [Tryz.ntmps4, List.size_toArray, List.length_cons, List.length_nil, Nat.reduceAdd, Nat.reduceSub, Array.replicate_succ, Array.replicate_zero, List.push_toArray, List.append_toArray, List.nil_append, List.cons_append];have hnf : ∀ (f : Fn) (a c : Array Value) (w : World), Sem.run Tryz.prog (binOp BinOp.eql 39 (Value.func f a c) Value.nilFunc) w = .ok (.bool false) w := fun f a c w => by kernel_rfl
 clear hs ho hc hC hh4
 gi_wp2
 clear hW0 hx0 hx1;refine ⟨trivial, (callsIn_wide.2 FW).mono ?_⟩;rintro e w1 ⟨rfl, hb1⟩;have hcc := (ze bxc hb1).cell;have hd0 := (za (zd bx1 hb1) 0 rfl);have N1 := NW w1 hb1;clear FW NW
 gi_wp2
 refine ⟨trivial, (callsIn_wide.2 (SC w1)).mono ?_⟩;rintro e w1' ⟨rfl, rfl⟩
 gi_wp2
 refine ⟨trivial, (callsIn_wide.2 N1).mono ?_⟩;rintro e w2 hP;rcases hP with ⟨hn, _⟩ | ⟨⟨_, _, hok⟩, hG⟩
 ·exact absurd HC.out hn
 rw [show bs (⟨#[]⟩ : ByteArray) = [] from rfl, zh6] at hok hG;obtain ⟨bp, a, n, pr, md, sc, B, rfl, hO, hbd, hb2⟩ := zjx (zfm _) hok hG;have hb02 := zb hb1 hb2;have hd0 := (za (zd (zd bx1 hb1) hb2) 0 rfl);have hcc := (ze (ze bxc hb1) hb2).cell;have HB02 := hz0q hb02;have HO := hz0q hO;have HBD := hz0q hbd;have HKK := hz0q (hk.below' hB0);have HEE := hz0q (hE.below hB0);have HB0 := hz0q hB0;have HBX := hz0q bx2;have HBC := hz0q bxc;have hs02 := hb02.size;have N3 : Hid (∀ W, Below w2.heap.size w2 W -> Calls Tryz.prog 9 #[.string s, .string (mk8 (hex4 cn))] W fun e w' => ∃ bp a n pr md sc B, e = .returned (.tuple #[.pointer (some ⟨bp, 0, none⟩), .int .i64 0]) /\ OutOk (rowsS (bs s)).1 [(cn : Int)] bp a n pr md sc B w' /\ zhv B /\ Below W.heap.size W w') := fun W h => N2.out W (zb hb02 h);clear N1 hok hG hO hbd hb02 hb1 hb2 SC N2 bx1 hB0 bx2 bxc hk hE
 gi_upto_region 6 with fail
 gi_cut [9, 10] from 59 (fun s9 s10 wx => ∃ bp2 W, W = wx /\ s9 = .pointer (some ⟨bp2, 0, none⟩) /\ s10 = .int .i64 0 /\ Hid (∃ a n pr md sc B, OutOk (rowsS (bs s)).1 [(cn : Int)] bp2 a n pr md sc B W /\ zhv B) /\ Hid (Below w2.heap.size w2 W))
 case first =>
  first | gi_region_with (first | (refine ⟨trivial, (callsIn_wide.2 (HXO w2.drew)).mono ?_⟩; rintro e w3 ⟨rfl, rfl⟩) | (refine ⟨trivial, (callsIn_wide.2 (N3.out _ (Drew.to ⟨1, rfl⟩ : Below w2.heap.size w2 w2.drew))).mono ?_⟩; rintro e w4 ⟨bp2, a2, n2, pr2, md2, sc2, B2, rfl, hO2, hbd2, hb4⟩)) | skip
  all_goals
   first | gi_meet | (gi_wp2; gi_meet)
   case rel => exact ⟨bp2, _, rfl, rfl, rfl, ⟨a2, n2, pr2, md2, sc2, B2, hO2, hbd2⟩, zb (Drew.to ⟨1, rfl⟩ : Below w2.heap.size w2 w2.drew) hb4⟩
 case rest =>
  obtain ⟨bp2, Wc, rfl, rfl, rfl, HO2, HBC2⟩ := hcut;have PA := zg3 (some ⟨bp, 0, none⟩) Wc;obtain ⟨qa, hqa⟩ : ∃ qa, Wc.heap.size = qa := ⟨_, rfl⟩
  gi_wp2
  refine ⟨trivial, (callsIn_wide.2 PA).mono ?_⟩;rintro e V0 ⟨rfl, hV0⟩;have hbA : V0.heap[qa]? = some (.cells #[.pointer (some ⟨bp, 0, none⟩)] 26 (0, 0)) := (by rw [hV0, <- hqa]; exact zp Wc _ _);have hb0 : Below Wc.heap.size Wc V0 := (by rw [hV0]; exact (Below.refl _ _).alloc (Nat.le_refl _) _);have hz0 : V0.heap.size = qa + 1 := (by rw [hV0, <- hqa]; simp);have PA2 := zg3 (some ⟨bp2, 0, none⟩) V0;rw [hz0] at PA2;clear hV0 PA;rw [hqa]
  gi_wp2
  refine ⟨trivial, (callsIn_wide.2 PA2).mono ?_⟩;rintro e V1 ⟨rfl, hV1⟩;have hbB : V1.heap[qa + 1]? = some (.cells #[.pointer (some ⟨bp2, 0, none⟩)] 26 (0, 0)) := (by rw [hV1, <- hz0]; exact zp V0 _ _);have hb1 : Below V0.heap.size V0 V1 := (by rw [hV1]; exact (Below.refl _ _).alloc (Nat.le_refl _) _);have hz1 : V1.heap.size = qa + 2 := (by rw [hV1, World.size_alloc, hz0]);have hbA := zd hbA hb1;obtain ⟨V2, hV2⟩ : ∃ V2, V1.alloc (.cells #[.slice none 0 0] 33) = V2 := ⟨_, rfl⟩;have bL : Boxed V2 (qa + 2) 33 (.slice none 0 0) := (by rw [<- hV2, <- hz1]; exact Boxed.new V1 _ _);have hb2 : Below V1.heap.size V1 V2 := (by rw [<- hV2]; exact (Below.refl _ _).alloc (Nat.le_refl _) _);have hz2 : V2.heap.size = qa + 3 := (by rw [<- hV2, World.size_alloc, hz1]);have hbA := zd hbA hb2;have hbB := zd hbB hb2;have hb02 : Below Wc.heap.size Wc V2 := zb hb0 (zb hb1 hb2);have HBV := hz0q hb02;have hqa3 : w.heap.size + 2 < qa := (by have := HBC2.out.size; omega);obtain ⟨a2, n2, pr2, md2, sc2, B2, hO2, _⟩ := HO2.out;have HO2b := hz0q hO2;have HOA := hz0q (HO.out.below (zb HBC2.out hb02));have HOB := hz0q (hO2.below hb02);have hABV : Below W0.heap.size W0 V2 := zb HB02.out (zb HBC2.out hb02);have HABV := hz0q hABV;have hcV : Hid (∀ W, Below (qa + 2) V2 W -> W.cell? ⟨w.heap.size + 1, 0, none⟩ = some (.int .i32 cn)) := fun W h => Boxed.cell (W := W) (t := 21) (((h.block (w.heap.size + 1) (by omega)).trans (ze HBC.out hABV)));have hBDl : n <= 100000 := HO.out.few
  have hne1 : qa + 2 ≠ bp /\ qa + 2 ≠ a.m3 := by
   have h1 := (Array.getElem?_eq_some_iff.1 HO.out.m.box).1;have h2 := HO.out.m.md.lt;have := HBC2.out.size;omega
  have hr0 : ∀ V, Below V2.heap.size V2 V -> rowAt V (qa + 2) = none := fun V h => by unfold rowAt; rw [(ze bL h).cell]; rfl
  have PS := zd8 (9 - 1) (by omega) (fun k => k = qa + 2) (KpR (fun k => k = qa + 2) (qa + 2)) (fun V => KpR.refl _ _ V) (fun _ _ _ h k => h.trans k) qa HOA.out.m (by omega) hbA (fun V V' hb h => h.kpS (hr0 V hb)) (fun k e => by rw [e]; exact ⟨by omega, hne1.1, hne1.2, by omega⟩);clear PA2 hV1 hb0 hb1 hb2 hb02 hO2 hABV hr0 hne1
  gi_wp2
  skip
  refine wpIn_rangeFunc_ownG hro h1 (gf := 41) (lb := #[.pointer (some ⟨qa, 0, none⟩)]) rfl trivial (enters_of Tryz.func41 (by kernel_rfl) rfl)
   PS (fun h k => h.trans k) (fun V l o o' hl h1 h2 h3 => KpR.put (B := V2.heap.size) (by omega) V l o o' hl h1 h2 h3) (Below.refl _ _) (fun _ => rfl)
   (fun pre V => (∃ v, Boxed V (qa + 2) 33 v /\ V.ownsRow (qa + 2) 21 1 v (outL cn pre).length (Rs (outL cn pre)) /\ True) /\ Below (qa + 2) V2 V) (fun _ (_ : List (Int × (Int × Int))) _ => False)
   (OwnFrom.and (Own.from (holdsRow_own (qa + 2) (qa + 2) 33 21 1 (fun pre => (outL cn pre).length) (fun pre => Rs (outL cn pre)) (fun _ _ => True)) _) (ownFrom_below (by omega) (by omega)))
   (fun _ _ _ _ _ hs _ _ => hs) ⟨⟨_, bL, World.ownsRow_nil _ _ _ _, trivial⟩, Below.refl _ _⟩ ?a1 ?assign ?body ?done ?stop
  case assign =>
   intro l x V K hK
   gi_wp2
   exact hK
  case stop =>
   rintro D c pre W _ _ h;exact h.elim
  case body =>
   rintro l pre ⟨y, u, v2⟩ W ⟨⟨v, hv, hrow, _⟩, hB⟩ hlt;obtain ⟨A3, c3, rfl, _, _, hrd⟩ := Rd.of_own hrow;have c4 := hcV.out W hB;have cL := hv.cell;have hsW : qa + 2 <= W.heap.size := by have := hB.size; omega
   by_cases hy : y = cn
   ·have hyb : ((y : Int) != (cn : Int)) = false := (by simp [hy]);have HE : Hid (outL cn (pre ++ [(y, (u, v2))]) = outL cn pre) := (by show _ = _; unfold outL; simp [hy]);clear hrd
    gi_wp2
    refine ⟨KeepsFrom.refl _ _, KpR.refl _ _ _, ?_, hB⟩;rw [HE.out];exact ⟨_, hv, hrow, trivial⟩
   ·have hyb : ((y : Int) != (cn : Int)) = true := (by simpa using hy);have HE : Hid (outL cn (pre ++ [(y, (u, v2))]) = outL cn pre ++ [y]) := (by show _ = _; unfold outL; simp [hy]);have hlen : (outL cn pre).length <= pre.length := (by unfold outL; exact Nat.le_trans (List.length_filter_le _ _) (by simp));have hl9 : (outL cn pre).length <= 100000 := (by omega);obtain ⟨m, hm⟩ : ∃ m, m = (outL cn pre).length := ⟨_, rfl⟩;rw [<- hm] at hrow hv hl9 cL;have HM := hz0q hm;have hrowA := hrow.alloc (.cells #[.int .i32 y] 21);have hszA : qa + 2 <= (W.alloc (.cells #[.int .i32 y] 21)).heap.size := (by simp; omega);clear hrd hlen hlt hm
    gi_wp2_with (gi_at_builtin; refine zbg za8 _ rfl _ _ rfl (qa + 2) rfl hrowA rfl (Rd.new1 _ _ _) (zg7 rfl) (by omega) (by decide) hszA ?_)
    intro A4 c5 w4 hown4 hg4 hat4;obtain ⟨hv1, hv3, hr2, hk2, hb3⟩ := hv.appended (by decide) hrow hsW (Nat.le_refl _) hown4 hg4;have hc1 := hv1.cell;have hf1 := hv1.frozen
    gi_wp2
    refine ⟨hk2.from _, KpR.app rfl hv hg4 hv3 hat4, ⟨_, hv3, ?_, trivial⟩, hB.trans hb3⟩
    rw [HE.out, List.length_append, <- HM.out];simpa [Rs] using hr2
  case done =>
   rintro D1 ys W hD ⟨ss, hAll, rfl⟩ ⟨⟨v, hv, hrow, _⟩, hB⟩ hK;have HAL := hz0q hAll;obtain ⟨L, hL⟩ : ∃ L, L = outL cn (withM md (srt ss)) := ⟨_, rfl⟩
   have HLs : Hid (L = (srt ss).filter fun x => decide (x ≠ (cn : Int))) := by
    show _ = _;rw [hL];unfold outL withM;rw [List.map_map];congr 1;exact List.map_id _
   rw [<- hL] at hrow;obtain ⟨A3, c3, rfl, _, _, hrd⟩ := Rd.of_own hrow;obtain ⟨qn, hqn⟩ : ∃ qn, W.heap.size = qn := ⟨_, rfl⟩;have hsW : qa + 3 <= qn := (by have := hB.size; omega);obtain ⟨V3, hV3⟩ : ∃ V3, W.alloc (.cells #[.int .i64 0] 3) = V3 := ⟨_, rfl⟩;have bN : Boxed V3 qn 3 (.int .i64 0) := (by rw [<- hV3, <- hqn]; exact Boxed.new W _ _);have hb3 : Below W.heap.size W V3 := (by rw [<- hV3]; exact (Below.refl _ _).alloc (Nat.le_refl _) _);have hz3 : V3.heap.size = qn + 1 := (by rw [<- hV3, World.size_alloc, hqn]);have hBV3 : Below (qa + 2) V2 V3 := hB.trans (hb3.mono (by omega));have HBV3 := hz0q hBV3;have bLV := hz0q (ze hv hb3);have HRD := hz0q (hrd.below hb3)
   have HNB : Hid (∀ a', A3 = some a' -> a'.block < qn) := by
    show ∀ a', _;intro a' ha;subst ha;rcases hrow.2 with ⟨h, _⟩ | ⟨g, cap, cur, h, _, hh, _⟩
    ·cases h
    ·injection h with h _ _;injection h with h;rw [h];have := (Array.getElem?_eq_some_iff.1 hh).1;show g < qn;omega
   have hKV3 := (hb3.block D1 (Array.getElem?_eq_some_iff.1 hK).1).trans hK;have HK1 := hz0q hKV3;have hD1 : D1 < qn := (by have := (Array.getElem?_eq_some_iff.1 hK).1; omega);have HV3 := hz0q hV3;have HALs := hz0q hAll;obtain ⟨nL, hnL⟩ : ∃ nL, nL = L.length := ⟨_, rfl⟩;rw [<- hnL] at bLV HRD;have HNL := hz0q hnL
   have KEY : Hid (∀ ss2, zar R32 md2 ss2 -> (withM md2 (srt ss2)).map (·.1) = L) := by
    show ∀ ss2, _;intro ss2 h2;have h := keys_out (c := (cn : Int)) hAll h2 (fun x => by rw [HOB.out.mdq, HOA.out.mdq, zdg]);rw [HLs.out, <- h];unfold withM;rw [List.map_map];exact List.map_id _
   have hBq : qa + 2 < V3.heap.size := (by omega);have hbB3 : V3.heap[qa + 1]? = some (.cells #[.pointer (some ⟨bp2, 0, none⟩)] 26 (0, 0)) := (hBV3.block (qa + 1) (by omega)).trans hbB;have hOB3 := HOB.out;have hm2 := hOB3.few;have hBelV : Below Wc.heap.size Wc V3 := (HBV.out.trans (hBV3.mono (by omega)));have HBelV := hz0q hBelV;have hOA3 : OutOk (rowsS (bs s)).1 [] bp a n pr md sc B V3 := (HO.out.below HBC2.out).below hBelV;have hOBc := HO2b.out.below hBelV;have HOA3 := hz0q hOA3;have HOB3 := hz0q hOBc
   have PS2 := zd8 (w := V3) (9 - 1) (by omega) (fun k => k = qn) (KpS (fun k => k = qn)) (fun V => KpS.refl _ V) (fun _ _ _ h k => h.trans k) (qa + 1) hOBc.m (by omega) hbB3 (fun V V' hb h => h) (fun k e => by
    rw [e];have h1 := (Array.getElem?_eq_some_iff.1 HO2b.out.m.box).1;have h2 := HO2b.out.m.md.lt
    exact ⟨by omega, by omega, by omega, by omega⟩)
   clear hrd hrow hv hB hK hL hb3 hKV3 hBV3 hV3 hnL hOB3 hBelV hOA3 hOBc
   gi_wp2
   rw [HV3.out]
   refine wpIn_rangeFunc_ownG hro h1 (gf := 41) (lb := #[.pointer (some ⟨qa + 1, 0, none⟩)]) rfl trivial (enters_of Tryz.func41 (by kernel_rfl) rfl)
    PS2 (fun h k => h.trans k) (fun V l o o' _ h1 h2 h3 => KpS.put V l o o' h1 h2 h3) (Below.refl _ _) (fun _ => rfl)
    (fun pre V => Boxed V qn 3 (.int .i64 (pre.length : Int)) /\ Wrote (fun k => k = qn) V3 V) (fun c (pre : List (Int × (Int × Int))) _ => c = .ret /\ ¬ (pre.map (·.1) <+: L))
    (fun s A B row ⟨h1, h2⟩ hg hr => ⟨h1.kept hg (fun e => by have := (hr qn e.symm).1; omega), zc9 h2 hg fun r e => (hr r e).1⟩)
    (fun _ _ _ _ _ hs _ _ => hs) ⟨bN, Wrote.refl _ _⟩ ?a2 ?assign2 ?body2 ?done2 ?stop2
   case assign2 =>
    intro l x V K hK
    gi_wp2
    exact hK
   case stop2 =>
    rintro D2 c pre V hD2 ⟨ss2, hAll2, hpf⟩ ⟨_, hno⟩ _;refine absurd ?_ hno;rw [<- KEY.out ss2 hAll2];exact hpf.map _
   case body2 =>
    rintro l pre ⟨y, u, v2⟩ V ⟨bNV, hW⟩ hlt;have cN := bNV.cell;have fN := bNV.frozen;have hsV : qn + 1 <= V.heap.size := (by have := hW.size; omega);have cL := Boxed.cell (show Boxed V (qa + 2) 33 (.slice A3 nL c3) from hW.blk bLV.out (by omega))
    have b6 : Boxed V (w.heap.size + 2) 4 (.bool false) := hW.blk ((HBV3.out.block (w.heap.size + 2) (by omega)).trans (ze HBX.out HABV.out)) (by omega);have c6 := b6.cell;have f6 := b6.frozen;have HW := hz0q hW;have HBN := hz0q bNV;have hl9 : pre.length <= 100000 := by have := HOB.out.few; omega
    by_cases hge : nL <= pre.length
    ·have hgi : (nL : Int) <= (pre.length : Int) := by omega
     have HNO : Hid (¬ ((pre ++ [(y, (u, v2))]).map (·.1) <+: L)) := by
      show ¬ _;intro h;have := h.length_le;rw [List.length_map, List.length_append, <- HNL.out] at this;simp at this;omega
     clear bNV hW hlt
     gi_wp2
     exact ⟨zao (Wrote.setCell (S := fun k => k = w.heap.size + 1 + 1) (p := ⟨w.heap.size + 1 + 1, 0, none⟩) (.inl rfl) _) (by intro k h1 h2 e; omega), rfl, HNO.out⟩
    ·obtain ⟨z, hz⟩ : ∃ z, L[pre.length]? = some z := ⟨_, List.getElem?_eq_getElem (by rw [<- HNL.out]; omega)⟩;obtain ⟨b, off, he, hbl, hcx⟩ := HRD.out.at_ (by omega);have hbq := HNB.out _ he;simp only [] at hbq;have c0 : V.cell? ⟨b, off + pre.length, none⟩ = some (.int .i32 z) := (hW.cell (p := ⟨b, off + pre.length, none⟩) hbl (by show ¬ b = qn; omega)).trans (hcx pre.length _ (by simp [Rs, hz]));have hgi : ¬ (nL : Int) <= (pre.length : Int) := (by omega);have hgi2 : (pre.length : Int) < (nL : Int) := (by omega);subst he
     by_cases hzy : z = y
     ·subst hzy;have hne : ((z : Int) != z) = false := (by simp);clear bNV hW hlt hz hcx
      gi_wp2
      have hWF : Wrote (fun k => k = qn) V (V.setCell ⟨qn, 0, none⟩ (.int .i64 ((pre.length : Int) + 1))) := Wrote.setCell (S := fun k => k = qn) (.inl rfl) _;refine ⟨zao hWF (by intro k h1 h2 e; omega), KpS.of_wrote hWF, ?_, HW.out.trans hWF⟩;have h9 := HBN.out.set (.int .i64 ((pre.length : Int) + 1));rw [List.length_append];exact h9
     ·have hne : ((z : Int) != y) = true := by simpa using hzy
      have HNO : Hid (¬ ((pre ++ [(y, (u, v2))]).map (·.1) <+: L)) := by
       show ¬ _;intro h;obtain ⟨t, ht⟩ := h;have h1 : L[pre.length]? = some y := (by rw [<- ht]; simp);rw [hz] at h1;injection h1 with h1;exact hzy h1
      clear bNV hW hlt hz hcx
      gi_wp2
      exact ⟨zao (Wrote.setCell (S := fun k => k = w.heap.size + 1 + 1) (p := ⟨w.heap.size + 1 + 1, 0, none⟩) (.inl rfl) _) (by intro k h1 h2 e; omega), rfl, HNO.out⟩
   case done2 =>
    rintro D2 ys V hD2 ⟨ss2, hAll2, hys⟩ ⟨bNV, hW⟩ hK2;have hyl : ys.length = nL := (by rw [hys, HNL.out, <- KEY.out ss2 hAll2, List.length_map]);rw [hyl] at bNV;have hbWV : Below Wc.heap.size Wc V := HBelV.out.trans (hW.below (B := Wc.heap.size) (by rintro k e; omega) (by have := HBelV.out.size; omega));have hKV := HKK.out.below' (zb HB02.out (zb HBC2.out hbWV));have HKV := hz0q hKV;have HEV := hz0q (HEE.out.below (zb HB02.out (zb HBC2.out hbWV)));have HIA := hz0q ((HO.out.below HBC2.out).is.below hbWV);have HIB := hz0q (HO2b.out.is.below hbWV);have DA := zdm HIA.out r hr HKV.out;have DB := fun V' (h : Below V.heap.size V V') => zdm (HIB.out.below h) r hr (HKV.out.below' h);have CA := fun V' (h : Below V.heap.size V V') => zgf (HIA.out.below h) r hr;have CB := fun V' (h : Below V.heap.size V V') => zgf (HIB.out.below h) r hr;rw [HO.out.dec] at DA;rw [HO2b.out.dec] at DB;rw [HO.out.cls] at CA;rw [HO2b.out.cls] at CB;obtain ⟨cl, hcl⟩ : ∃ cl, cl = clsL (rowsS (bs s)).1 r := ⟨_, rfl⟩;rw [<- hcl] at CA CB;have hdl : (decH (prtL (rowsS (bs s)).1) r).2.length <= 18 := zge (fun x q hq => ((zfm (bs s)).into x q hq).2.2.1) r;obtain ⟨kd, hkd⟩ : ∃ kd, kd = (decH (prtL (rowsS (bs s)).1) r).1 := ⟨_, rfl⟩;obtain ⟨il, hil⟩ : ∃ il, il = (decH (prtL (rowsS (bs s)).1) r).2 := ⟨_, rfl⟩;rw [<- hkd, <- hil] at DA DB;rw [<- hil] at hdl;have HDL := hz0q hdl;have HDA := hz0q DA;have HDB := hz0q DB;have HCA := hz0q CA;have HCB := hz0q CB;have HBWV := hz0q (zb HB02.out (zb HBC2.out hbWV));have bLW : Boxed V (qa + 2) 33 (.slice A3 nL c3) := hW.blk bLV.out (by omega)
    have HBL := hz0q bLW;have HBN := hz0q bNV;have b6 : Boxed V (w.heap.size + 2) 4 (.bool false) := hW.blk ((HBV3.out.block (w.heap.size + 2) (by omega)).trans (ze HBX.out HABV.out)) (by omega);have HB6 := hz0q b6;have hd1 : V.heap[D1]? = some (.deferred (some [])) := hW.blk HK1.out (by omega);have HD1 := hz0q hd1;have HD2 := hz0q hK2;have hdl1 := (Array.getElem?_eq_some_iff.1 hd1).1;have hdl2 := (Array.getElem?_eq_some_iff.1 hK2).1;have hneD : D1 ≠ D2 := (by omega);have hse : ((mk8 kd).toList == (mk8 kd).toList) = true := (by simp);have hce : ((cl : Int) == cl) = true := (by simp);have hqV : qn + 1 <= V.heap.size := (by have := hW.size; omega);clear hAll2 hys hyl bNV hW hK2 hbWV hKV DB CA CB hcl hkd hil hdl bLW b6 hd1 hV2 hqn hqa
    gi_wp2
    refine ⟨trivial, (callsIn_wide.2 DA).mono ?_⟩;rintro e v1 ⟨A5, cp, rfl, hown, hb1⟩;obtain ⟨A6, c6, hv1, _, _, hrd1⟩ := Rd.of_own hown;injection hv1 with e1 _ e3;subst e1 e3;have DB := HDB.out v1 hb1;clear DA hown
    gi_wp2
    refine ⟨trivial, (callsIn_wide.2 DB).mono ?_⟩;rintro e v2 ⟨A7, cp2, rfl, hown, hb2⟩;obtain ⟨A8, c8, hv2, _, _, hrd2⟩ := Rd.of_own hown;injection hv2 with e1 _ e3;subst e1 e3;have hr1 := hrd1.below hb2;have hb12 := zb hb1 hb2;have cN := (ze HBN.out hb12).cell;have cL := (ze HBL.out hb12).cell;have RN := zgt A5 A7 il.length il.length cp cp2 il il v2 hr1 hrd2 (by have := HDL.out; omega) (by have := HDL.out; omega);rw [decide_eq_true (rfl : il = il)] at RN;clear DB hown hrd1 hrd2 hr1 hb1 hb2
    gi_wp2
    refine ⟨trivial, (callsIn_wide.2 RN).mono ?_⟩;rintro e v3 ⟨rfl, hd⟩;have hb3 := zb hb12 (hd.below _);have CA := HCA.out v3 hb3;clear RN hd hb12
    gi_wp2
    refine ⟨trivial, (callsIn_wide.2 CA).mono ?_⟩;rintro e v4 ⟨rfl, hb4⟩;have hb4 := zb hb3 hb4;have CB := HCB.out v4 hb4;clear CA hb3
    gi_wp2
    refine ⟨trivial, (callsIn_wide.2 CB).mono ?_⟩;rintro e v5 ⟨rfl, hb5⟩;have hb5 := zb hb4 hb5;have AW := zaq v5 (HEV.out.below hb5) (HKV.out.below' hb5);clear CB hb4
    gi_wp2
    refine ⟨trivial, (callsIn_wide.2 AW).mono ?_⟩;rintro e v6 ⟨rfl, hb6⟩;have hb6 := zb hb5 hb6;have b6 := ze HB6.out hb6;have q6 := b6.cell;have f6 := b6.frozen;have HB6v := hz0q hb6;have hsv := hb6.size;clear AW hb5 hb6
    gi_wp2
    have z6 := b6.set (.bool true);have hWF : Wrote (fun k => k = w.heap.size + 2) v6 (v6.setCell ⟨w.heap.size + 2, 0, none⟩ (.bool true)) := Wrote.setCell (S := fun k => k = w.heap.size + 2) (.inl rfl) _;have hbF := (zb HB0.out (zb HBWV.out HB6v.out)).trans (hWF.below (B := w.heap.size) (by rintro k e; omega) (by omega));have e1 := hWF.blk ((HB6v.out.block D1 hdl1).trans HD1.out) (by omega);have e2 := hWF.blk ((HB6v.out.block D2 hdl2).trans HD2.out) (by omega);generalize v6.setCell ⟨w.heap.size + 2, 0, none⟩ (.bool true) = V9 at *;have k6 := ((z6.kept (grownBy_putObj' V9 D2 (.deferred none)) (by simp; omega)).kept (grownBy_putObj' _ D1 (.deferred none)) (by simp; omega)).cell;have hbG : Below w.heap.size w ((V9.putObj D2 (.deferred none)).putObj D1 (.deferred none)) := (hbF.trans (belowK_b (w := w) (Nat.le_refl _) _ D2 _ _ (by omega) e2 rfl rfl)).trans (belowK_b (w := w) (Nat.le_refl _) _ D1 _ _ (by omega) ((World.putObj_heap_other hneD).trans e1) rfl rfl);refine zih e1 e2 hneD ⟨.bool true, ?_, rfl, hbG⟩;simp [results, Tryz.f4, go_sem, k6]
theorem baseout_yes (s o : ByteArray) (c r : Int) (w : World) (hE : Env w) (hk : Kinds w) (hc1 : -2147483648 <= c) (hc2 : c < 2147483648) (hr1 : -2147483648 <= r) (hr2 : r < 2147483648) :
  Calls Tryz.prog 4 #[.agg #[.string s, .string o], .int .i32 c, .int .i32 r] w fun e w' => e = .returned (.bool true) /\ Below w.heap.size w w' := by
 by_cases hf : s.size <= 3000 /\ o.size <= 500
 ·by_cases h1 : c < 16
  ·exact baseout_low s o c r hE hk hf.1 hf.2 h1
  by_cases h2 : 65535 < c
  ·exact baseout_high s o c r hE hk hf.1 hf.2 h1 h2
  cases h3 : zy c with
  | false => exact baseout_none s o c r hE hk hf.1 hf.2 h1 h2 h3
  | true =>
   by_cases hC : NewC (bs s) []
   ·obtain ⟨cn, rfl⟩ := Int.eq_ofNat_of_zero_le (show 0 <= c by omega);exact baseout_main s o cn r hE hk ⟨hr1, hr2⟩ hf.1 hf.2 h1 h2 h3 hC
   ·exact baseout_bad s o c r hE hk hf.1 hf.2 h1 h2 h3 hC
 ·exact baseout_few s o c r hE hk hf
end
end
end Go.Proofs.YtfdelmodmadoaaaGreatDoor
