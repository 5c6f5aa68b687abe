/- Forms of texts, over any base: parted, ordered, joined. Plain laws; no program stands here. Forms of texts, over any base: joined, and joined again. Plain laws; no program stands here. Forms of texts, over any base: the four forms, what single characters tell, and where texts are cut. Plain laws; no program stands here. Forms of texts, over any base: what turning characters about leaves, and how the code and the document reckon. Plain laws; no program stands here. -/
set_option linter.unusedSimpArgs false
set_option linter.unusedVariables false
set_option maxRecDepth 20000
set_option maxHeartbeats 4000000
namespace Go.Proofs.YtfdelmodmadoaaaGreatDoor
section
structure BaseF where
 cls : Int -> Int
 dec : Int -> List UInt8 × List Int
 pair : Int -> Int -> Option Int
 sec : Int -> Bool
 cls0 : ∀ r, 0 <= cls r
 made : ∀ x y r, pair x y = some r -> dec r = ([], [x, y]) /\ cls r = 0 /\ sec y = true
 wf : WellFounded fun y x => y ∈ (dec x).2
variable (B : BaseF)
def BaseF.parts (c : Bool) (r : Int) : List Int := if (B.dec r).1 ≠ [] /\ c = false then [] else (B.dec r).2
theorem zer {B : BaseF} {c : Bool} {r x : Int} (h : x ∈ B.parts c r) : x ∈ (B.dec r).2 := by
 unfold BaseF.parts at h;split at h
 ·simp at h
 ·exact h
noncomputable def BaseF.one (c : Bool) : Int -> List Int :=
 B.wf.fix fun r ih => if B.parts c r = [] then [r] else (B.parts c r).attach.flatMap fun x => ih x.1 (zer x.2)
theorem flatMap_attach {α β : Type} (l : List α) (f : α -> List β) : (l.attach.flatMap fun x => f x.1) = l.flatMap f := by
 rw [show (fun x : {x // x ∈ l} => f x.1) = f ∘ Subtype.val from rfl, <- List.flatMap_map];simp
theorem BaseF.one_eq (c : Bool) (r : Int) : B.one c r = if B.parts c r = [] then [r] else (B.parts c r).flatMap (B.one c) := by
 unfold BaseF.one;rw [WellFounded.fix_eq];split
 ·rfl
 ·exact flatMap_attach _ _
theorem BaseF.one_none {c : Bool} {r : Int} (h : B.parts c r = []) : B.one c r = [r] := by rw [B.one_eq, if_pos h]
theorem BaseF.one_some {c : Bool} {r : Int} (h : B.parts c r ≠ []) : B.one c r = (B.parts c r).flatMap (B.one c) := by rw [B.one_eq, if_neg h]
theorem BaseF.one_ne (c : Bool) (r : Int) : B.one c r ≠ [] := by
 induction r using B.wf.induction with
 | _ r ih =>
  by_cases h : B.parts c r = []
  ·rw [B.one_none h]; simp
  ·rw [B.one_some h]
   obtain ⟨x, t, hx⟩ : ∃ x t, B.parts c r = x :: t := by
    cases hp : B.parts c r with
    | nil => exact absurd hp h
    | cons x t => exact ⟨x, t, rfl⟩
   rw [hx, List.flatMap_cons];have := ih x (zer (by rw [hx]; simp));simp [this]
noncomputable def BaseF.all (c : Bool) (l : List Int) : List Int := l.flatMap (B.one c)
def BaseF.ins : List Int -> Int -> List Int
 | [], r => [r]
 | x :: t, r => if B.cls r ≠ 0 /\ B.cls r < B.cls x then x :: BaseF.ins t r else r :: x :: t
def BaseF.ordR (l : List Int) : List Int := l.foldl B.ins []
def BaseF.ord (l : List Int) : List Int := (B.ordR l).reverse
variable {B}
def BaseF.srt (B : BaseF) : Int -> List Int -> Bool
 | _, [] => true
 | k, r :: t => (decide (B.cls r = 0) || decide (k <= B.cls r)) && BaseF.srt B (B.cls r) t
def BaseF.lastC (B : BaseF) (k : Int) (l : List Int) : Int := l.foldl (fun _ r => B.cls r) k
end
section
structure JS where
 pre : List Int
 hd : Option Int
 ms : List Int
def JS.out (s : JS) : List Int := s.pre ++ (s.hd.toList ++ s.ms)
variable {B : BaseF}
def BaseF.app (B : BaseF) (s : JS) (r : Int) : JS := if B.cls r = 0 then ⟨s.out, some r, []⟩ else ⟨s.pre, s.hd, s.ms ++ [r]⟩
def BaseF.step (B : BaseF) (s : JS) (r : Int) : JS :=
 match s.hd with
 | none => B.app s r
 | some h => if (s.ms.all fun m => decide (B.cls m < B.cls r)) = true then (match B.pair h r with | some c => ⟨s.pre, some c, s.ms⟩ | none => B.app s r) else B.app s r
def BaseF.run (B : BaseF) (s : JS) (l : List Int) : JS := l.foldl B.step s
def BaseF.join (B : BaseF) (l : List Int) : List Int := (B.run ⟨[], none, []⟩ l).out
def JS.behind (q : List Int) (s : JS) : JS := ⟨q ++ s.pre, s.hd, s.ms⟩
structure BaseF.JOk (B : BaseF) (s : JS) : Prop where
 ms : ∀ m ∈ s.ms, B.cls m ≠ 0
 hd : ∀ h, s.hd = some h -> B.cls h = 0
theorem app_out (s : JS) (r : Int) : (B.app s r).out = s.out ++ [r] := by
 unfold BaseF.app;split
 ·simp [JS.out]
 ·simp [JS.out]
def BaseF.Kept (B : BaseF) (c : Bool) (x : Int) : Prop := B.srt 0 (B.one c x) = true /\ B.join (B.one c x) = [x]
theorem kept_irr {c : Bool} {x : Int} (h : B.parts c x = []) : B.Kept c x := by
 unfold BaseF.Kept;rw [B.one_none h];refine ⟨?_, ?_⟩
 ·have := B.cls0 x;simp [BaseF.srt]; omega
 ·unfold BaseF.join BaseF.run;simp only [List.foldl_cons, List.foldl_nil, BaseF.step, app_out];rfl
structure BaseF.JInv (B : BaseF) (c : Bool) (p : List Int) (s : JS) : Prop where
 ok : B.JOk s
 pre : ∀ x ∈ s.pre, B.Kept c x
 irr : ∀ m ∈ s.ms, B.parts c m = []
 emp : s.hd = none -> s.pre = []
 top : ∀ m ∈ s.ms, B.cls m <= B.lastC 0 p
 srt : B.srt 0 s.out = true
 hd : ∀ h, s.hd = some h -> B.run ⟨[], none, []⟩ (B.one c h) = ⟨[], some h, []⟩ /\ B.srt 0 (B.one c h) = true /\ (B.lastC 0 (B.one c h) <= B.lastC 0 p)
theorem JInv.out {c : Bool} {p : List Int} {s : JS} (h : B.JInv c p s) : ∀ x ∈ s.out, B.Kept c x := by
 intro x hx;unfold JS.out at hx;rcases List.mem_append.1 hx with hx | hx
 ·exact h.pre x hx
 ·rcases List.mem_append.1 hx with hx | hx
  ·have hh : s.hd = some x := (by simpa using hx);obtain ⟨h1, h2, _⟩ := h.hd x hh;exact ⟨h2, by unfold BaseF.join; rw [h1]; rfl⟩
  ·exact kept_irr (h.irr x hx)
end
section
variable {B : BaseF}
noncomputable def BaseF.full (B : BaseF) (c : Bool) (l : List Int) : List Int := B.ord (B.all c l)
noncomputable def BaseF.form (B : BaseF) (c j : Bool) (l : List Int) : List Int := if j = true then B.join (B.full c l) else B.full c l
noncomputable def BaseF.kind (B : BaseF) (c j : Bool) (r : Int) : Int := if B.form c j [r] ≠ [r] then 2 else if j = true /\ B.sec ((B.full c [r]).headD 0) = true then 3 else 1
noncomputable def BaseF.safe (B : BaseF) (c j : Bool) (r : Int) : Bool := decide (B.cls ((B.full c [r]).headD 0) = 0) && !(j && B.sec ((B.full c [r]).headD 0))
noncomputable def BaseF.worst (B : BaseF) (c j : Bool) (l : List Int) : Int := if (∃ r ∈ l, B.kind c j r = 2) then 2 else if (∃ r ∈ l, B.kind c j r = 3) then 3 else 1
noncomputable def BaseF.check (B : BaseF) (c j : Bool) (l : List Int) : Int := if B.srt 0 l = true then B.worst c j l else 2
end
section
variable {B : BaseF}
def BaseF.inv (B : BaseF) : List Int -> Nat
 | [] => 0
 | x :: t => t.countP (fun y => decide (0 < B.cls y /\ B.cls y < B.cls x)) + BaseF.inv B t
def swp (l : List Int) (i : Nat) : List Int := match l[i]?, l[i + 1]? with | some x, some y => (l.set i y).set (i + 1) x | _, _ => l
def BaseF.top (B : BaseF) (ms : List Int) : Int := ms.foldl (fun a m => max a (B.cls m)) 0
def BaseF.tailM (B : BaseF) (l : List Int) : List Int := (l.reverse.takeWhile fun x => decide (B.cls x ≠ 0)).reverse
def BaseF.blk (B : BaseF) (l : List Int) (k : Int) : Bool := (l.all fun x => decide (B.cls x ≠ 0)) || (B.tailM l).any fun m => decide (k <= B.cls m)
noncomputable def BaseF.cut (B : BaseF) (c j : Bool) : List Int -> Nat
 | l => ((List.range l.length).filter fun i => decide (0 < i) && B.safe c j (l.getD i 0)).getLastD 0
end
end Go.Proofs.YtfdelmodmadoaaaGreatDoor
