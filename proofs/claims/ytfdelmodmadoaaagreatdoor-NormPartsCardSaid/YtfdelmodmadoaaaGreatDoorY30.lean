/- When New answers, and what a base parts, by reckoning: for the chapters' examples. Plain. New's answers as bases; the chapter's example. How many characters one is: the document's code. Lists of lists of characters in memory; how decomp.Runs cuts: plain. -/
import Derived.Test.YtfdelmodmadoaaaGreatDoorY29
set_option linter.unusedSimpArgs false
set_option linter.unusedVariables false
set_option maxRecDepth 20000
set_option maxHeartbeats 4000000
namespace Go.Proofs.YtfdelmodmadoaaaGreatDoor
section
open Go.RowKit
def endsN (D : Int -> List Int) : Nat -> Int -> Bool
 | 0, r => (D r).isEmpty
 | n + 1, r => (D r).all (endsN D n)
theorem ziw {D : Int -> List Int} : ∀ {n : Nat} {r : Int}, endsN D n r = true -> Ends D r
 | 0, r, h => by
  have : D r = [] := (by simpa [endsN] using h);exact Ends.of fun y hy => by rw [this] at hy; cases hy
 | n + 1, r, h => by
  unfold endsN at h;rw [List.all_eq_true] at h;exact Ends.of fun y hy => ziw (h y hy)
def lenN (D : Int -> List Int) : Nat -> Int -> Nat
 | 0, _ => 1
 | n + 1, r => if (D r).isEmpty = true then 1 else ((D r).map (lenN D n)).sum
theorem zne {D : Int -> List Int} (wf : WellFounded fun y x => y ∈ D x) : ∀ {n : Nat} {r : Int}, endsN D n r = true -> lenD D wf r = lenN D n r
 | 0, r, h => by
  have : D r = [] := (by simpa [endsN] using h);rw [zfp, if_pos this];rfl
 | n + 1, r, h => by
  unfold endsN at h;rw [List.all_eq_true] at h;rw [zfp];unfold lenN
  by_cases hd : D r = []
  ·rw [if_pos hd, if_pos (by rw [hd]; rfl)]
  ·rw [if_neg hd, if_neg (by simpa using hd), List.map_congr_left fun y hy => zne wf (h y hy)]
def keysL (rows : List RowS) : List Int := (rows.filter fun x => !x.il.isEmpty).map (·.fr)
theorem ze5 {rows : List RowS} {r : Int} (h : (prtL rows r).isSome = true) : r ∈ keysL rows := by
 obtain ⟨q, hq⟩ := Option.isSome_iff_exists.1 h;obtain ⟨x, hx, e, hne, _⟩ := zfm hq;exact List.mem_map.2 ⟨x, List.mem_filter.2 ⟨hx, by simpa using hne⟩, e⟩
def newB (rows : List RowS) (out : List Int) (n : Nat) : Bool :=
 !rows.any zao && !rows.any formB && (keysL rows).all (fun r => endsN (fun x => (decH (prtL rows) x).2) n r && decide (lenN (fun x => (decH (prtL rows) x).2) n r <= 18)) &&
  (keysL rows).all fun x => !madeQ (clsL rows) (prtL rows) out x || (!zdr (zap (prtL rows) x) && (keysL rows).all fun y => !madeQ (clsL rows) (prtL rows) out y || !decide (zap (prtL rows) x = zap (prtL rows) y) || decide (x = y))
theorem zlf {rows : List RowS} {out : List Int} {n : Nat} (h : newB rows out n = true) : NewOk rows out := by
 unfold newB at h;simp only [Bool.and_eq_true, Bool.not_eq_true', List.all_eq_true, decide_eq_true_eq, Bool.or_eq_true, decide_eq_false_iff_not] at h;obtain ⟨⟨⟨h1, h2⟩, h3⟩, h4⟩ := h;have hq : ∀ x, madeQ (clsL rows) (prtL rows) out x = true -> x ∈ keysL rows := fun x hx => ze5 (by rw [(zcv hx).1]; rfl);refine ⟨h1, h2, fun r hr => ziw (h3 r (ze5 hr)).1, fun wf r hr => ?_, fun x hx => ?_, fun x y hx hy e => ?_⟩
 ·rw [zne wf (h3 r (ze5 hr)).1];exact (h3 r (ze5 hr)).2
 ·rcases h4 x (hq x hx) with h | h
  ·rw [hx] at h; cases h
  ·exact h.1
 ·rcases h4 x (hq x hx) with h | h
  ·rw [hx] at h; cases h
  ·rcases h.2 y (hq y hy) with (h | h) | h
   ·rw [hy] at h; cases h
   ·exact absurd e h
   ·exact h
def oneN (dec : Int -> List UInt8 × List Int) (c : Bool) : Nat -> Int -> List Int
 | 0, r => [r]
 | n + 1, r => if (dec r).1.isEmpty = false /\ c = false \/ (dec r).2.isEmpty = true then [r] else (dec r).2.flatMap (oneN dec c n)
theorem zna {B : BaseF} {c : Bool} : ∀ {n : Nat} {r : Int}, endsN (fun x => (B.dec x).2) n r = true -> B.one c r = oneN B.dec c (n + 1) r
 | n, r, h => by
  unfold oneN
  by_cases h0 : (B.dec r).1.isEmpty = false /\ c = false \/ (B.dec r).2.isEmpty = true
  ·rw [if_pos h0];refine B.one_none ?_;unfold BaseF.parts;rcases h0 with ⟨h1, h2⟩ | h1
   ·rw [if_pos ⟨(by intro e; rw [e] at h1; cases h1), h2⟩]
   ·split
    ·rfl
    ·simpa using h1
  ·rw [if_neg h0]
   have hp : B.parts c r = (B.dec r).2 := by
    unfold BaseF.parts;rw [if_neg];rintro ⟨h1, h2⟩;refine h0 (.inl ⟨?_, h2⟩)
    cases hd : (B.dec r).1 with
    | nil => exact absurd hd h1
    | cons a t => rfl
   rw [B.one_some (by rw [hp]; intro e; exact h0 (.inr (by rw [e]; rfl))), hp];match n, h with
   | 0, h =>
    have : (B.dec r).2 = [] := (by simpa [endsN] using h);rw [this];rfl
   | n + 1, h =>
    unfold endsN at h;rw [List.all_eq_true] at h
    have key : ∀ l : List Int, (∀ y ∈ l, y ∈ (B.dec r).2) -> l.flatMap (B.one c) = l.flatMap (oneN B.dec c (n + 1)) := fun l => by
     induction l with
     | nil => intro _; rfl
     | cons y t ih =>
      intro hm;rw [List.flatMap_cons, List.flatMap_cons, zna (h y (hm y (by simp))), ih fun z hz => hm z (by simp [hz])]
    exact key _ fun y hy => hy
theorem znl {B : BaseF} {c : Bool} {n : Nat} {l : List Int} (h : ∀ r ∈ l, endsN (fun x => (B.dec x).2) n r = true) : B.full c l = B.ord (l.flatMap (oneN B.dec c (n + 1))) := by
 unfold BaseF.full BaseF.all;congr 1;induction l with
 | nil => rfl
 | cons y t ih => rw [List.flatMap_cons, List.flatMap_cons, zna (h y (by simp)), ih fun z hz => h z (by simp [hz])]
theorem aw8_none : setsS (bs ByteArray.empty) = ([], 0, 0) := by kernel_rfl
end
section
open Go.RowKit Go.Lib Go.Maps
def NewIs (B : BaseF) (w : World) (e : Ending) (w' : World) : Prop := ∃ bp, e = .returned (.tuple #[.pointer (some ⟨bp, 0, none⟩), .int .i64 0]) /\ zax w' (.pointer (some ⟨bp, 0, none⟩)) B /\ Below w.heap.size w w'
theorem znk {rows : List RowS} {out : List Int} (g : RowsG rows) (h : NewOk rows out) {w w' : World} {e : Ending} (hG : zlk rows out w e w') : NewIs (baseF g h) w e w' := by
 obtain ⟨bp, a, n, ss, pr, md, sc, rfl, hM, _, hA, hI, _, hb⟩ := hG
 have hall : ∀ x, madeQ (clsL rows) (prtL rows) out x = true -> x ∈ ss := fun x hx => by
  have h1 := (zcv hx).1;exact (hA.2 x).2 ⟨zb9 (g.into x _ h1).1, by rw [h1]; rfl⟩
 obtain ⟨h1, h2⟩ := mk_pair h hI hall;refine ⟨bp, rfl, .inr ⟨bp, a, n, _, _, pr, md, sc, rfl, hM, fun _ => rfl, fun _ => rfl, fun x y => ?_, fun r => ?_⟩, hb⟩
 ·show pairH (prL rows out) x y = pairH pr x y;unfold pairH;rw [h1]
 ·show secH (scL rows out) r = secH sc r;exact (h2 r).symm
theorem new_is {s o : ByteArray} {rows : List RowS} {out : List Int} (g : RowsG rows) (h : NewOk rows out) (hr : rowsS (bs s) = (rows, 0, 0)) (ho : setsS (bs o) = (out, 0, 0)) (w : World) (hE : Env w) (hk : Kinds w) (hs : s.size <= 1073741824) (ho1 : o.size <= 1073741824) :
  Calls Tryz.prog 9 #[.string s, .string o] w (NewIs (baseF g h) w) := (znb s o hE hk hs ho1).mono fun e w' hp => by
 rcases hp with ⟨hn, _⟩ | ⟨_, hg⟩
 ·refine absurd ?_ hn;unfold NewC;rw [hr, ho];exact ⟨rfl, rfl, h⟩
 ·rw [hr, ho] at hg;exact znk g h hg
end
section
open Go.RowKit
def zoi (w : World) (e : Ending) (w' : World) : Prop := (∃ v : Int, e = .returned (.int .i64 v) /\ 1 <= v /\ v <= 19) /\ Below w.heap.size w w'
section
variable {w0 : World} {rp : Nat} {os : List RA} {out : List Int} {A A2 : Option Addr} {c c2 : Nat}
theorem rmany_any (h : RefM w0 rp os out A A2 c c2) (g : RowsG (os.map (·.1))) (r : Int) (hE : Ends (fun x => (decH (prtL (os.map (·.1))) x).2) r) : ∀ (w : World), Below w0.heap.size w0 w -> R32 r ->
  Calls Tryz.prog 80 #[.pointer (some ⟨rp, 0, none⟩), .int .i32 r] w (zoi w) := by
 induction hE with
 | intro r hacc ih =>
  intro w hb hr;have D0 := zej h hb g r hr;have hR : ∀ y ∈ (decH (prtL (os.map (·.1))) r).2, R32 y := (zmo (prt := prtL (os.map (·.1))) (fun r q hq => by obtain ⟨_, h1, h2, _⟩ := g.into r q hq; exact ⟨fun y hy => zb9 (h1 y hy), h2⟩) r).1;have hL : (decH (prtL (os.map (·.1))) r).2.length <= 18 := (zmo (prt := prtL (os.map (·.1))) (fun r q hq => by obtain ⟨_, h1, h2, _⟩ := g.into r q hq; exact ⟨fun y hy => zb9 (h1 y hy), h2⟩) r).2;obtain ⟨il, hil⟩ : ∃ il, il = (decH (prtL (os.map (·.1))) r).2 := ⟨_, rfl⟩;obtain ⟨kd, hkd⟩ : ∃ kd, kd = (decH (prtL (os.map (·.1))) r).1 := ⟨_, rfl⟩;have HIH : Hid (∀ y ∈ il, ∀ W, Below w0.heap.size w0 W -> Calls Tryz.prog 80 #[.pointer (some ⟨rp, 0, none⟩), .int .i32 y] W (zoi W)) := fun y hy W hW => ih y (by rw [hil] at hy; exact hy) W hW (hR y (by rw [hil] at hy; exact hy));rw [<- hil, <- hkd] at D0;rw [<- hil] at hL;clear ih hR hacc hil hkd h g
  by_cases h0 : il = []
  ·subst h0;go_enter Tryz.func80, Tryz.ntmps80;go_wp2_with fail;refine D0.mono ?_;rintro e w1 ⟨Ad, cd, rfl, _, hb1, _⟩;clear D0;go_wp2;go_returns;exact ⟨⟨1, rfl, by omega, by omega⟩, hb1⟩
  ·have hpos : 0 < il.length := List.length_pos_iff.2 h0;have hne : ((il.length : Int) == 0) = false := (by simpa using h0);clear h0;go_enter Tryz.func80, Tryz.ntmps80;go_wp2_with fail;refine D0.mono ?_;rintro e w1 ⟨Ad, cd, rfl, hrd, hb1, _⟩;have HRD := hz0q hrd;have HB0 := hz0q (zb hb hb1);clear D0 hrd;go_wp2
   go_loopw [7, 8] (fun s7 s8 wr => ∃ (n : Int) (k : Nat), s7 = .int .i64 n /\ s8 = .int .i64 k /\ 0 <= n /\ n <= 37 /\ (0 < k -> 1 <= n) /\ k <= il.length /\ Below w1.heap.size w1 wr) (fun _ s8 _ => il.length - (intOf s8).toNat)
   case atStart => exact ⟨0, 0, rfl, rfl, by omega, by omega, fun h => absurd h (by omega), Nat.zero_le _, Below.refl _ _⟩
   case round =>
    obtain ⟨n, k, rfl, rfl, hn0, hn1, hn2, hk, hbw⟩ := hrel
    by_cases hlt : k < il.length
    ·have hi : (k : Int) < (il.length : Int) := by omega
     by_cases h19 : n < 19
     ·obtain ⟨y, hy⟩ : ∃ y, il[k]? = some y := ⟨_, List.getElem?_eq_getElem hlt⟩;obtain ⟨b, off, rfl, hbl, hc⟩ := HRD.out.at_ (by omega);have c0 : wr.cell? ⟨b, off + k, none⟩ = some (.int .i32 y) := (hbw.cell (p := ⟨b, off + k, none⟩) hbl).trans (hc k _ (by simp [Rs, hy]));have MY := HIH.out y (List.mem_of_getElem? hy) wr (zb HB0.out hbw);clear hy hc;go_wp2_with fail;refine MY.mono ?_;rintro e w2 ⟨⟨v, rfl, hv1, hv2⟩, hb2⟩;have hb3 := zb hbw hb2;clear MY c0;go_wp2;go_roundw
      case rel => exact ⟨n + v, k + 1, rfl, by go_num, by omega, by omega, fun _ => by omega, by omega, hb3⟩
      case measure => simp [intOf]; omega
     ·have h19' : ¬ n < 19 := h19;have hmin : min n 19 = 19 := (by omega);go_wp2;go_returns;exact ⟨⟨_, rfl, by first | omega | (rw [hmin]; omega), by first | omega | (rw [hmin]; omega)⟩, zb hb1 hbw⟩
    ·obtain rfl : k = il.length := (by omega);have hi : (il.length : Int) <= (il.length : Int) := Int.le_refl _;have hn3 := hn2 hpos;go_wp2;go_returns;exact ⟨⟨_, rfl, by omega, by omega⟩, zb hb1 hbw⟩
end
end
section
open Go.RowKit
abbrev LA := List Int × Option Addr × Nat
abbrev laV (x : LA) : Value := .slice x.2.1 x.1.length x.2.2
abbrev LLs (os : List LA) : List Value := os.map laV
section
variable {w w' : World} {B : Nat} {os : List LA} {A : Option Addr} {c : Nat}
end
section
variable {B : BaseF} {xs : List Int} {k fr : Nat} {out : List (List Int)}
end
end
end Go.Proofs.YtfdelmodmadoaaaGreatDoor
