/- Rows of a file: reading them, whether two are one, and the chapter's examples. slices.ContainsFunc of characters. wide.Cut. The writer, in memory; what is put to its queue, and taken from it: the code. -/
import Derived.Test.YtolcabjkbefjgaaGreatDoorZ15
import Derived.Test.YtolcabjkbefjgaaGreatDoorZ16
set_option linter.unusedSimpArgs false
set_option linter.unusedVariables false
set_option maxRecDepth 20000
set_option maxHeartbeats 4000000
section
section
namespace Go.Proofs.YtolcabjkbefjgaaGreatDoor
open Go.RowKit
structure zd5 (w : World) (A : Option Addr) (os : List RA) : Prop where
 cells : RdK w A os.length 7 (Vs os)
 into : ∀ x ∈ os, Rd w x.2.1 x.1.il.length (Rs x.1.il)
section
variable {w w' : World} {A : Option Addr} {os : List RA}
theorem zak.rd {T : TypeId} {B c : Nat} (h : zak T B w os A c) : zd5 w A os := by
 refine ⟨?_, fun x hx => ?_⟩
 ·obtain ⟨A', c', hv, _, _, hr⟩ := RdK.of_own h.own;injection hv with h1 _ _;subst h1;exact hr
 ·obtain ⟨A', c', hv, _, _, hr⟩ := Rd.of_own (h.into x hx);injection hv with h1 _ _;subst h1;exact hr
theorem zd5.below (h : zd5 w A os) (hb : Below w.heap.size w w') : zd5 w' A os := ⟨h.cells.below (by omega) hb, fun x hx => (h.into x hx).below hb⟩
theorem zd5.at_ (h : zd5 w A os) (hn : 0 < os.length) : ∃ b off, A = some ⟨b, off, none⟩ /\ b < w.heap.size /\ ∀ j u, (Vs os)[j]? = some u -> w.cell? ⟨b, off + j, none⟩ = some u := h.cells.at_ (by omega) hn
theorem ziu {os : List RA} {k : Nat} {x : RowS} {Ax : Option Addr} {cx : Nat} (hx : os[k]? = some (x, Ax, cx)) {b off : Nat} (hc : ∀ j u, (Vs os)[j]? = some u -> w.cell? ⟨b, off + j, none⟩ = some u) :
  w.cell? ⟨b, off + k * 7, none⟩ = some (.int .i32 x.fr) /\ w.cell? ⟨b, off + k * 7 + 1, none⟩ = some (.int .i32 x.up) /\ w.cell? ⟨b, off + k * 7 + 2, none⟩ = some (.string (mk8 x.nm)) /\ w.cell? ⟨b, off + k * 7 + 3, none⟩ = some (.string (mk8 x.ct)) /\ w.cell? ⟨b, off + k * 7 + 4, none⟩ = some (.int .i64 x.cl) /\ w.cell? ⟨b, off + k * 7 + 5, none⟩ = some (.string (mk8 x.kd)) /\ w.cell? ⟨b, off + k * 7 + 6, none⟩ = some (.slice Ax x.il.length cx) := by
 have hv := Vs_at os k _ hx
 have g : ∀ j u, (rowC (x, Ax, cx))[j]? = some u -> w.cell? ⟨b, off + k * 7 + j, none⟩ = some u := fun j u hu => by
  have := hc _ _ (hv j u hu);rwa [<- Nat.add_assoc] at this
 exact ⟨g 0 _ rfl, g 1 _ rfl, g 2 _ rfl, g 3 _ rfl, g 4 _ rfl, g 5 _ rfl, g 6 _ rfl⟩
end
end Go.Proofs.YtolcabjkbefjgaaGreatDoor
end
section
namespace Go.Proofs.YtolcabjkbefjgaaGreatDoor
open Go.RowKit
theorem indexf_any (g : FuncId) (cb : Array Value) (en : ∀ args w, (callFunc g args).run Tryz.prog w = .ok (.enter g args) w) (p : Int -> Bool) (A : Option Addr) (n c : Nat) (zs : List Int) (w : World) (hr : Rd w A n (Rs zs)) (hn : n <= 1099511627776)
  (hp : ∀ x W, Below w.heap.size w W -> Calls Tryz.prog g (#[.int .i32 x] ++ cb) W fun e W' => e = .returned (.bool (p x)) /\ Below W.heap.size W W') :
  Calls Tryz.prog 109 #[.slice A n c, .func (.func g) #[] cb] w fun e w' => (∃ k : Int, e = .returned (.int .i64 k) /\ decide (0 <= k) = zs.any p) /\ Below w.heap.size w w' := by
 have hzl : zs.length = n := (by have := hr.1; simpa [Rs] using this);have HZL := hz0q hzl;clear hzl;have HP := hz0q hp;clear hp;go_enter Tryz.func109, Tryz.ntmps109;go_wp2
 go_loopw [8] (fun i wr => ∃ k : Nat, k <= n /\ i = .int .i64 k /\ Hid ((zs.take k).any p = false) /\ Below w.heap.size w wr) (fun i _ => n - (intOf i).toNat)
 case atStart => exact ⟨0, Nat.zero_le _, rfl, by show _ = _; rfl, Below.refl _ _⟩
 case round =>
  obtain ⟨k, hk, rfl, HA, hb⟩ := hrel
  by_cases hlt : k < n
  ·obtain ⟨x, hx⟩ : ∃ x, zs[k]? = some x := ⟨_, List.getElem?_eq_getElem (by rw [HZL.out]; exact hlt)⟩;obtain ⟨b, off, rfl, hbl, hc⟩ := (hr.below hb).at_ (by omega);have cx : wr.cell? ⟨b, off + k, none⟩ = some (.int .i32 x) := hc k _ (by simp [Rs, hx]);have HC := HP.out x wr hb
   have HT : Hid ((zs.take (k + 1)).any p = p x) := by
    show _ = _;rw [List.take_add_one, hx, List.any_append, HA.out];simp
   have hi : (k : Int) < (n : Int) := (by omega);clear hc hr hx
   cases hpx : p x
   ·rw [hpx] at HC HT;clear hpx;go_wp2_with fail;refine HC.mono ?_;rintro e w1 ⟨rfl, hb1⟩;have hb2 := zb hb hb1;go_wp2;go_roundw
    case rel => exact ⟨k + 1, by omega, by go_num, HT, hb2⟩
    case measure => simp [intOf]; omega
   ·have HZ : Hid (zs.any p = true) := by
     show _ = _;rw [<- List.take_append_drop (k + 1) zs, List.any_append, HT.out, hpx];rfl
    rw [hpx] at HC;clear hpx HT;go_wp2_with fail;refine HC.mono ?_;rintro e w1 ⟨rfl, hb1⟩;have hb2 := zb hb hb1;go_wp2;go_returns;rw [HZ.out];exact ⟨⟨(k : Int), rfl, by simp⟩, hb2⟩
  ·have hi : (n : Int) <= (k : Int) := by omega
   have HZ : Hid (zs.any p = false) := by
    show _ = _;rw [<- HA.out, List.take_of_length_le (by rw [HZL.out]; omega)]
   go_wp2;go_returns;rw [HZ.out];exact ⟨⟨-1, rfl, by decide⟩, hb⟩
theorem containsf_any (g : FuncId) (cb : Array Value) (en : ∀ args w, (callFunc g args).run Tryz.prog w = .ok (.enter g args) w) (p : Int -> Bool) (A : Option Addr) (n c : Nat) (zs : List Int) (w : World) (hr : Rd w A n (Rs zs)) (hn : n <= 1099511627776)
  (hp : ∀ x W, Below w.heap.size w W -> Calls Tryz.prog g (#[.int .i32 x] ++ cb) W fun e W' => e = .returned (.bool (p x)) /\ Below W.heap.size W W') :
  Calls Tryz.prog 62 #[.slice A n c, .func (.func g) #[] cb] w fun e w' => e = .returned (.bool (zs.any p)) /\ Below w.heap.size w w' := by
 have HI := indexf_any g cb en p A n c zs w hr hn hp;clear hp hr;go_enter Tryz.func62, Tryz.ntmps62;go_wp2_with fail;refine HI.mono ?_;rintro e w1 ⟨⟨k, rfl, hk⟩, hb⟩;have HK := hz0q hk;clear hk HI;go_wp2;go_returns;refine ⟨?_, hb⟩;rw [<- HK.out];rfl
def betw (a b x : Int) : Bool := decide (a <= x) && decide (x <= b)
theorem sets1_any (x a b : Int) (p q : Nat) (w : World) (ha : w.cell? ⟨p, 0, none⟩ = some (.int .i32 a)) (hb : w.cell? ⟨q, 0, none⟩ = some (.int .i32 b)) :
  Calls Tryz.prog 63 #[.int .i32 x, .pointer (some ⟨p, 0, none⟩), .pointer (some ⟨q, 0, none⟩)] w fun e w' => e = .returned (.bool (betw a b x)) /\ w = w' := by
 by_cases h1 : a <= x
 ·by_cases h2 : x <= b
  ·go_enter Tryz.func63, Tryz.ntmps63;go_wp2;go_returns;exact ⟨zaw (by simp [betw, h1, h2]), rfl⟩
  ·have h3 : b < x := (by omega);go_enter Tryz.func63, Tryz.ntmps63;go_wp2;go_returns;exact ⟨zaw (by simp [betw, h2]; try omega), rfl⟩
 ·have h3 : x < a := (by omega);go_enter Tryz.func63, Tryz.ntmps63;go_wp2;go_returns;exact ⟨zaw (by simp [betw, h1]; try omega), rfl⟩
end Go.Proofs.YtolcabjkbefjgaaGreatDoor
end
end
namespace Go.Proofs.YtolcabjkbefjgaaGreatDoor
section
open Go.RowKit
section
variable {w : World}
theorem wcut_any (k : Int) (h1 : 1 <= k) (h4 : k <= 4) (s : ByteArray) (w : World) (hs : s.size <= 1073741824) :
  Calls Tryz.prog 128 #[.int .i64 k, .string s] w fun e w' => e = .returned (.tuple #[.int .i64 (cutW k (bs s)), .int .i64 0]) /\ Below w.heap.size w w' := by
 have hl := ze s;have HLN := hz0q hl;obtain ⟨big, hbig⟩ : ∃ big, big = bigW k := ⟨_, rfl⟩;have HBG := hz0q hbig;have OF := zca k h1 h4 w;clear hl hbig
 by_cases hk : k <= 2
 ·have HHK := hz0q hk;have hv : fvW k = .agg #[.int .i64 2, .bool big, .bool true] := (by unfold fvW; rw [za9 hk, <- HBG.out, decide_eq_true hk]; rfl);rw [hv] at OF;obtain ⟨q, hq⟩ : ∃ q, q = s.size / 2 := ⟨_, rfl⟩;obtain ⟨a, ha⟩ : ∃ a, a = q * 2 := ⟨_, rfl⟩;have hq1 : ((s.size : Int).tdiv 2) = (q : Int) := (by rw [hq]; rfl);have ha1 : (q : Int) * 2 = (a : Int) := (by rw [ha]; simp);have has : a <= s.size /\ s.size < a + 2 := by omega
  have HC : Hid (cutW k (bs s) = if k <= 2 /\ 0 < a /\ 55296 <= unitW k ((bs s).drop (a - 2)) /\ unitW k ((bs s).drop (a - 2)) < 56320 then a - 2 else a) := by
   show _ = _;unfold cutW;simp only [];rw [HLN.out, za9 hk, <- hq, <- ha]
  clear hv hq ha;go_enter Tryz.func128, Tryz.ntmps128;go_wp2_with fail;refine OF.mono ?_;rintro e wo ⟨rfl, hbo⟩;have hba : Below wo.heap.size wo (wo.alloc (.cells #[.int .i64 2, .bool big, .bool true] 301)) := (Below.refl _ _).alloc (Nat.le_refl _) _;have hx0 : (wo.alloc (.cells #[.int .i64 2, .bool big, .bool true] 301)).heap[wo.heap.size]? = some (.cells #[.int .i64 2, .bool big, .bool true] 301 (0, 0)) := zj _ _ _;have HB0 := hz0q (zb hbo hba);have c0 := za hx0 0 rfl;have c1 := za hx0 1 rfl;have c2 := za hx0 2 rfl;have HX0 := hz0q hx0;obtain ⟨bx, hbx⟩ : ∃ bx, wo.heap.size = bx := ⟨_, rfl⟩;rw [hbx] at c0 c1 c2 HX0;clear OF hbo hba hx0;go_upto_region 4 with fail;go_quiet (fail)
  obtain ⟨W5, hW5⟩ : ∃ W5, (wo.alloc (.cells #[.int .i64 2, .bool big, .bool true] 301)).drewN nq = W5 := ⟨_, rfl⟩;have HB5 : Hid (Below w.heap.size w W5) := (by rw [<- hW5]; exact zh HB0.out _);have HX5 : Hid (W5.heap[bx]? = some (.cells #[.int .i64 2, .bool big, .bool true] 301 (0, 0))) := (by rw [<- hW5]; exact HX0.out);rw [hW5];clear hW5 c0 c1 c2;have c0 := za HX5.out 0 rfl;have c1 := za HX5.out 1 rfl;have c2 := za HX5.out 2 rfl
  by_cases h0 : a = 0
  ·subst h0;have HR : Hid (cutW k (bs s) = 0) := (by show _ = _; rw [HC.out, if_neg (fun h => absurd h.2.1 (Nat.lt_irrefl _))]);clear HC hq1 ha1;go_wp2;go_returns;exact ⟨by rw [HR.out]; rfl, HB5.out⟩
  have ha0 : (0 : Int) < (a : Int) := (by omega);have hat : (s.size : Int) < (a : Int) + 2 := (by omega);obtain ⟨j, hj⟩ : ∃ j : Nat, (a : Int) - 2 = (j : Int) := ⟨a - 2, by omega⟩;have hja : a - 2 = j := (by omega);have hjw : IntKind.i64.wrap ((a : Int) - 2) = (j : Int) := (by rw [hj]; exact zeh _ (by omega) (by omega));have hj0 : (0 : Int) <= (j : Int) := (by omega);have hjw2 : IntKind.i64.wrap (j : Int) = (j : Int) := zeh _ (by omega) (by omega);have hjs : j + 2 <= s.size := (by omega);have hji : (j : Int) <= (s.size : Int) := (by omega);have hbe : bs (s.extract j s.size) = (bs s).drop j := by rw [z8, List.take_of_length_le (by rw [HLN.out]; exact Nat.le_refl _)]
  have G2 : Hid (∀ W, Calls Tryz.prog 174 #[.agg #[.int .i64 2, .bool big], .string (s.extract j s.size)] W fun e w' => e = .returned (.int .i64 (unitW k ((bs s).drop j))) /\ Below W.heap.size W w') := by
   show ∀ W, _;intro W;have h := zfy big 2 (by omega) (s.extract j s.size) (by simp; omega) W;rw [hbe] at h;unfold unitW;rw [za9 HHK.out, <- HBG.out];exact h
  obtain ⟨m, hm⟩ : ∃ m, m = unitW k ((bs s).drop j) := ⟨_, rfl⟩
  have HC2 : Hid (cutW k (bs s) = if 55296 <= m /\ m < 56320 then j else a) := by
   show _ = _;rw [HC.out, hja, <- hm]
   by_cases h : 55296 <= m /\ m < 56320
   ·rw [if_pos ⟨HHK.out, by omega, h⟩, if_pos h]
   ·rw [if_neg (fun e => h e.2.2), if_neg h]
  rw [<- hm] at G2;clear HC hbe hm hja hq1 ha1;go_upto_region 6 with fail
  go_cut [9] from 43 (fun s9 wx => s9 = .int .i64 m /\ ∃ W, W = wx /\ Hid (Below W5.heap.size W5 W))
  case first =>
   go_region_with (refine (G2.out _).mono ?_; rintro e w3 ⟨rfl, hb3⟩)
   all_goals
    first | go_meet | (go_wp2; go_meet)
    case rel => exact ⟨rfl, _, rfl, zb (Drew.to ⟨1, rfl⟩ : Below W5.heap.size W5 W5.drew) hb3⟩
  case rest =>
  obtain ⟨rfl, w3, rfl, HB3⟩ := hcut;have c0 := za (zd HX5.out HB3.out) 0 rfl;have HB6 := hz0q (zb HB5.out HB3.out);clear G2 c1 c2
  by_cases hm1 : 55296 <= m
  ·have p1 : (55296 : Int) <= (m : Int) := by omega
   by_cases hm2 : m < 56320
   ·have p2 : (m : Int) < 56320 := (by omega);have HR : Hid (cutW k (bs s) = j) := (by show _ = _; rw [HC2.out, if_pos ⟨hm1, hm2⟩]);clear HC2 hm1 hm2;go_wp2;go_returns;exact ⟨by rw [HR.out]; rfl, HB6.out⟩
   ·have p2 : decide ((m : Int) < 56320) = false := (by simp; omega);have HR : Hid (cutW k (bs s) = a) := (by show _ = _; rw [HC2.out, if_neg (fun h => hm2 h.2)]);clear HC2 hm1 hm2;go_wp2;go_returns;exact ⟨by rw [HR.out]; rfl, HB6.out⟩
  ·have p1 : decide ((55296 : Int) <= (m : Int)) = false := (by simp; omega);have HR : Hid (cutW k (bs s) = a) := (by show _ = _; rw [HC2.out, if_neg (fun h => hm1 h.1)]);clear HC2 hm1;go_wp2;go_returns;exact ⟨by rw [HR.out]; rfl, HB6.out⟩
 ·have HHK := hz0q hk;have hv : fvW k = .agg #[.int .i64 4, .bool big, .bool false] := (by unfold fvW; rw [zci hk, <- HBG.out, decide_eq_false hk]; rfl);rw [hv] at OF;obtain ⟨q, hq⟩ : ∃ q, q = s.size / 4 := ⟨_, rfl⟩;obtain ⟨a, ha⟩ : ∃ a, a = q * 4 := ⟨_, rfl⟩;have hq1 : ((s.size : Int).tdiv 4) = (q : Int) := (by rw [hq]; rfl);have ha1 : (q : Int) * 4 = (a : Int) := (by rw [ha]; simp);have has : a <= s.size /\ s.size < a + 4 := by omega
  have HC : Hid (cutW k (bs s) = if k <= 2 /\ 0 < a /\ 55296 <= unitW k ((bs s).drop (a - 4)) /\ unitW k ((bs s).drop (a - 4)) < 56320 then a - 4 else a) := by
   show _ = _;unfold cutW;simp only [];rw [HLN.out, zci hk, <- hq, <- ha]
  clear hv hq ha;go_enter Tryz.func128, Tryz.ntmps128;go_wp2_with fail;refine OF.mono ?_;rintro e wo ⟨rfl, hbo⟩;have hba : Below wo.heap.size wo (wo.alloc (.cells #[.int .i64 4, .bool big, .bool false] 301)) := (Below.refl _ _).alloc (Nat.le_refl _) _;have hx0 : (wo.alloc (.cells #[.int .i64 4, .bool big, .bool false] 301)).heap[wo.heap.size]? = some (.cells #[.int .i64 4, .bool big, .bool false] 301 (0, 0)) := zj _ _ _;have HB0 := hz0q (zb hbo hba);have c0 := za hx0 0 rfl;have c1 := za hx0 1 rfl;have c2 := za hx0 2 rfl;have HX0 := hz0q hx0;obtain ⟨bx, hbx⟩ : ∃ bx, wo.heap.size = bx := ⟨_, rfl⟩;rw [hbx] at c0 c1 c2 HX0;clear OF hbo hba hx0;go_upto_region 4 with fail;go_quiet (fail)
  obtain ⟨W5, hW5⟩ : ∃ W5, (wo.alloc (.cells #[.int .i64 4, .bool big, .bool false] 301)).drewN nq = W5 := ⟨_, rfl⟩;have HB5 : Hid (Below w.heap.size w W5) := (by rw [<- hW5]; exact zh HB0.out _);have HX5 : Hid (W5.heap[bx]? = some (.cells #[.int .i64 4, .bool big, .bool false] 301 (0, 0))) := (by rw [<- hW5]; exact HX0.out);rw [hW5];clear hW5 c0 c1 c2;have c0 := za HX5.out 0 rfl;have c1 := za HX5.out 1 rfl;have c2 := za HX5.out 2 rfl;have HR : Hid (cutW k (bs s) = a) := (by show _ = _; rw [HC.out, if_neg (fun h => by have := HHK.out; omega)]);clear HC hq1 ha1;go_wp2;go_returns;exact ⟨by rw [HR.out]; rfl, HB5.out⟩
end
end
section
open Go.RowKit
structure WrM (q : Nat) (w : World) (wp : Nat) (p : Option Addr) (f : Int) (ov : Bool) (G : Option Nat) (v : Value) (l : List Int) : Prop where
 box : w.heap[wp]? = some (.cells #[v, .pointer p, .int .i64 f, .bool ov] 97 (0, 0))
 own : OwnG q w G v l
 tb : q <= wp
theorem zb2 {W : World} {q : Nat} {cs : Array Value} {t : TypeId} {fr : Nat × Nat} (h : W.heap[q]? = some (.cells cs t fr)) (i : Nat) (v : Value) : (W.setCell ⟨q, i, none⟩ v).heap[q]? = some (.cells (cs.setIfInBounds i v) t fr) := by
 simp [World.setCell, Array.getElem?_modify, h]
theorem zeg : (97 : TypeId) ≠ 21 := by decide
section
variable {q wp : Nat} {w w' w2 : World} {p : Option Addr} {f : Int} {ov : Bool} {G G' : Option Nat} {v v' : Value} {l l' : List Int}
theorem WrM.below (h : WrM q w wp p f ov G v l) (hb : Below w.heap.size w w') : WrM q w' wp p f ov G v l := ⟨zd h.box hb, h.own.below hb, h.tb⟩
theorem WrM.lt (h : WrM q w wp p f ov G v l) : wp < w.heap.size := (Array.getElem?_eq_some_iff.1 h.box).1
theorem WrM.ne (h : WrM q w wp p f ov G v l) : ∀ g, G = some g -> g ≠ wp := fun g hg e => h.own.not (g := wp) (by rw [<- e]; exact hg) h.box zeg
theorem WrM.setQ (h : WrM q w wp p f ov G v l) (hbox : w2.heap[wp]? = w.heap[wp]?) (hown : OwnG q w2 G' v' l') : WrM q (w2.setCell ⟨wp, 0, none⟩ v') wp p f ov G' v' l' := by
 have hb2 := hbox.trans h.box;refine ⟨?_, hown.blk fun g hg => Below.heap_setCell w2 ⟨wp, 0, none⟩ v' g fun e => hown.not (g := wp) (by rw [<- show g = wp from e]; exact hg) hb2 zeg, h.tb⟩
 have := zb2 hb2 0 v';simpa using this
theorem WrM.over (h : WrM q w wp p f ov G v l) (b : Bool) : WrM q (w.setCell ⟨wp, 3, none⟩ (.bool b)) wp p f b G v l := by
 refine ⟨?_, h.own.blk fun g hg => Below.heap_setCell w ⟨wp, 3, none⟩ _ g (h.ne g hg), h.tb⟩;have := zb2 h.box 3 (.bool b);simpa using this
theorem WrM.wrote {S : Nat -> Prop} (h : WrM q w wp p f ov G v l) (hw : Wrote S w w') (h1 : ¬ S wp) (h2 : ∀ g, G = some g -> ¬ S g) : WrM q w' wp p f ov G v l :=
 ⟨hw.blk h.box h1, h.own.blk fun g hg => hw.block g (h.own.lt hg).2 (h2 g hg), h.tb⟩
end
theorem zdt (A : Option Addr) (n c : Nat) (xs : List Int) (w : World) (hrd : Rd w A n (Rs xs)) (hn : xs.length = n) (h2 : n <= 20000000) (hA : A = none -> n = 0 /\ c = 0) :
  Calls Tryz.prog 85 #[.slice A n c] w fun e w' => ∃ G v, e = .returned v /\ OwnG w.heap.size w' G v xs /\ Below w.heap.size w w' := by
 cases A with
 | none =>
  obtain ⟨rfl, rfl⟩ := hA rfl;obtain rfl : xs = [] := List.eq_nil_of_length_eq_zero hn;clear hrd hA hn;have hcmp := fun w => Lib.run_eql_slice_nil (P := Tryz.prog) w 42 21 none 0 0 0 0 Tryz.underlying42;simp only [Option.isNone] at hcmp;go_enter Tryz.func85, Tryz.ntmps85;go_wp2;go_returns;exact ⟨none, _, rfl, .nil _ _ none, Below.refl _ _⟩
 | some a =>
  have HB0 : Hid (Below w.heap.size w (w.alloc (.cells #[] 21))) := (Below.refl _ _).alloc (Nat.le_refl _) _;have HRD := hz0q (hrd.below HB0.out);have HN := hz0q hn;clear hrd hn hA;have hcmp := fun w => Lib.run_eql_slice_nil (P := Tryz.prog) w 42 21 (some a) n c 0 0 Tryz.underlying42;simp only [Option.isNone] at hcmp;go_enter Tryz.func85, Tryz.ntmps85;go_wp2_with (at_builtin; refine zb3 zz _ rfl _ _ rfl w.heap.size rfl (OwnG.nil _ _ _) (show ([] : List Int).length = 0 from rfl) rfl HRD.out HN.out (by omega) (by omega) HB0.out.size ?_)
  intro A' c' w' G' hown hg hat;have HO := hz0q hown;have HB : Hid (Below w.heap.size w w') := HB0.out.grown hg HB0.out.size (fun k hk => by cases hk);clear hown hg hat;go_wp2;go_returns;exact ⟨G', _, rfl, by simpa using HO.out, HB.out⟩
section
variable {q wp : Nat} {w : World} {p : Option Addr} {f : Int} {ov : Bool} {G : Option Nat} {v : Value} {l : List Int}
theorem Rd.takeV {w : World} {A : Option Addr} {n : Nat} {xs : List Int} (h : Rd w A n (Rs xs)) {k : Nat} (hk : k <= n) : Rd w A k (Rs (xs.take k)) := by
 have hl : xs.length = n := (by have := h.1; simpa using this);refine ⟨by simp; omega, fun h0 => ?_⟩;obtain ⟨b, off, rfl, _, hc⟩ := h.at_ (by omega);refine ⟨b, off, rfl, fun j u hu => hc j u ?_⟩;have hj := (List.getElem?_eq_some_iff.1 hu).1;rw [<- hu];simp at hj;simp [List.getElem?_take];intro h;omega
def PutQ (q : Nat) (w : World) (wp : Nat) (p : Option Addr) (f : Int) (ov : Bool) (G : Option Nat) (l : List Int) (w' : World) : Prop :=
 ∃ G' v', WrM q w' wp p f ov G' v' l /\ Wrote (fun k => k = wp \/ G = some k) w w' /\ ∀ g, G' = some g -> G = some g \/ w.heap.size <= g
theorem qput_any (h : WrM q w wp p f ov G v l) (hq : q <= w.heap.size) (A : Option Addr) (n c : Nat) (zs : List Int) (hrd : Rd w A n (Rs zs)) (hn : zs.length = n) (h2 : l.length + n <= 20000000) :
  Calls Tryz.prog 37 #[.pointer (some ⟨wp, 0, none⟩), .slice A n c] w fun e w' => (∃ u, e = .returned u) /\ PutQ q w wp p f ov G (l ++ zs) w' := by
 obtain ⟨A0, c0, rfl, hnc, hcm, _⟩ := h.own.shape;have HW := hz0q h;have HRD := hz0q hrd;have HN := hz0q hn;have b0 := za h.box 0 rfl;obtain ⟨L, hL⟩ : ∃ L, L = l.length := ⟨_, rfl⟩;rw [<- hL] at b0 h2;have HL := hz0q hL;have hown := h.own;rw [<- hL] at hown;clear h hrd hn hnc hcm hL;go_enter Tryz.func37, Tryz.ntmps37;go_wp2_with (at_builtin; refine zb3 zz _ rfl _ _ rfl q rfl hown HL.out.symm rfl HRD.out HN.out (by omega) (by omega) hq ?_)
 intro A' c' w' G' hown' hg hat;have hbx : w'.heap[wp]? = w.heap[wp]? := hg.block wp HW.out.lt fun e => HW.out.ne wp e.symm rfl;have bx := hbx.trans HW.out.box;have b0 := za bx 0 rfl;have f0 := zc bx 0;have HO := hz0q (HW.out.setQ hbx hown');have HWR : Hid (Wrote (fun k => k = wp \/ G = some k) w (w'.setCell ⟨wp, 0, none⟩ (.slice A' (L + n) c'))) := (Wrote.grown hg fun k hk => .inr hk).trans (Wrote.setCell (.inl (.inl rfl)) _);have HAT := hz0q hat;clear hown' hg hat hbx bx hown;go_wp2;first | go_returns | go_end0
 exact ⟨⟨_, rfl⟩, _, _, HO.out, HWR.out, HAT.out⟩
def TakeQ (q : Nat) (w : World) (wp : Nat) (p : Option Addr) (f : Int) (ov : Bool) (l : List Int) (n : Nat) (u : Value) (w' : World) : Prop :=
 ∃ G1 G' v', OwnG w.heap.size w' G1 u (l.take n) /\ WrM q w' wp p f ov G' v' (l.drop n) /\ Wrote (fun k => k = wp) w w' /\ ∀ g, G' = some g -> w.heap.size <= g
theorem OwnG.mono {q q' : Nat} {w : World} {G : Option Nat} {v : Value} {xs : List Int} (h : OwnG q w G v xs) (hq : q' <= q) : OwnG q' w G v xs := by
 rcases h with h | ⟨g, off, cap, h1, h2, h3, h4⟩
 ·exact .inl h
 ·exact .inr ⟨g, off, cap, h1, h2, Nat.le_trans hq h3, h4⟩
theorem ziy (h : WrM q w wp p f ov G v l) (hq : q <= w.heap.size) (n : Nat) (hn : n <= l.length) (h2 : l.length <= 20000000) :
  Calls Tryz.prog 39 #[.pointer (some ⟨wp, 0, none⟩), .int .i64 n] w fun e w' => ∃ u, e = .returned u /\ TakeQ q w wp p f ov l n u w' := by
 have HW := hz0q h;have HQ := hz0q hq;have hn1 : (n : Int) <= (l.length : Int) := (by omega);have hn0 : (0 : Int) <= (n : Int) := (by omega);obtain ⟨L, hL⟩ : ∃ L, L = l.length := ⟨_, rfl⟩;have HL := hz0q hL;rcases h.own with ⟨hG, hl, A1, hv⟩ | ⟨g, off, cap, hG, hv, hqg, hn2, hc2, hcur, hsm, hcx⟩
 ·subst hl;subst hv;obtain rfl : n = 0 := (by simpa using hn);have b0 := za h.box 0 rfl;have HE : Hid (([] : List Int).take 0 = [] /\ ([] : List Int).drop 0 = []) := ⟨rfl, rfl⟩;have CL : Hid (∀ W, Calls Tryz.prog 85 #[.slice A1 0 0] W fun e w' => ∃ G v, e = .returned v /\ OwnG W.heap.size w' G v [] /\ Below W.heap.size W w') := fun W => zdt A1 0 0 [] W (Rd.nil _ _) rfl (by omega) (fun _ => ⟨rfl, rfl⟩);clear h hq hG hn hn1 hn0 hL h2
  cases A1 with
  | none =>
   have C1 := CL.out w;go_enter Tryz.func39, Tryz.ntmps39;go_wp2_with fail;refine C1.mono ?_;rintro e w1 ⟨G1, u1, rfl, ho1, hb1⟩;have HO1 := hz0q ho1;have HB1 := hz0q hb1;have HW1 := hz0q (HW.out.below hb1);have b0 := za HW1.out.box 0 rfl;have C2 := CL.out w1;clear C1 ho1 hb1;go_wp2_with fail;refine C2.mono ?_;rintro e w2 ⟨G2, u2, rfl, ho2, hb2⟩;obtain ⟨A9, c9, hu2, _, _, _⟩ := ho2.shape;subst hu2;have HO2 := hz0q ho2;have HB2 := hz0q hb2;have HW2 := hz0q (HW1.out.below hb2);have b0 := za HW2.out.box 0 rfl;have f0 := zc HW2.out.box 0;have HF := hz0q (HW2.out.setQ rfl (ho2.mono (Nat.le_trans HQ.out HB1.out.size)));have HU : Hid (OwnG w.heap.size (w2.setCell ⟨wp, 0, none⟩ (.slice A9 ([] : List Int).length c9)) G1 u1 []) := (HO1.out.below hb2).blk fun g hg => Below.heap_setCell w2 ⟨wp, 0, none⟩ _ g (fun e => by have h1 := (HO1.out.lt hg).1; have h2 := HW.out.lt; have e : g = wp := e; omega);have HWR : Hid (Wrote (fun k => k = wp) w (w2.setCell ⟨wp, 0, none⟩ (.slice A9 ([] : List Int).length c9))) := ((Wrote.of_below HB1.out).then_below HB2.out).trans (Wrote.setCell (S := fun k => k = wp) (.inl rfl) _);have HAT : Hid (∀ g, G2 = some g -> w.heap.size <= g) := fun g hg => Nat.le_trans HB1.out.size (HO2.out.lt hg).1;clear C2 ho2 hb2;go_wp2;go_returns;exact ⟨_, rfl, G1, G2, _, HU.out, HF.out, HWR.out, HAT.out⟩
  | some a1 =>
   have C1 := CL.out w;go_enter Tryz.func39, Tryz.ntmps39;go_wp2_with fail;refine C1.mono ?_;rintro e w1 ⟨G1, u1, rfl, ho1, hb1⟩;have HO1 := hz0q ho1;have HB1 := hz0q hb1;have HW1 := hz0q (HW.out.below hb1);have b0 := za HW1.out.box 0 rfl;have C2 := CL.out w1;clear C1 ho1 hb1;go_wp2_with fail;refine C2.mono ?_;rintro e w2 ⟨G2, u2, rfl, ho2, hb2⟩;obtain ⟨A9, c9, hu2, _, _, _⟩ := ho2.shape;subst hu2;have HO2 := hz0q ho2;have HB2 := hz0q hb2;have HW2 := hz0q (HW1.out.below hb2);have b0 := za HW2.out.box 0 rfl;have f0 := zc HW2.out.box 0;have HF := hz0q (HW2.out.setQ rfl (ho2.mono (Nat.le_trans HQ.out HB1.out.size)));have HU : Hid (OwnG w.heap.size (w2.setCell ⟨wp, 0, none⟩ (.slice A9 ([] : List Int).length c9)) G1 u1 []) := (HO1.out.below hb2).blk fun g hg => Below.heap_setCell w2 ⟨wp, 0, none⟩ _ g (fun e => by have h1 := (HO1.out.lt hg).1; have h2 := HW.out.lt; have e : g = wp := e; omega);have HWR : Hid (Wrote (fun k => k = wp) w (w2.setCell ⟨wp, 0, none⟩ (.slice A9 ([] : List Int).length c9))) := ((Wrote.of_below HB1.out).then_below HB2.out).trans (Wrote.setCell (S := fun k => k = wp) (.inl rfl) _);have HAT : Hid (∀ g, G2 = some g -> w.heap.size <= g) := fun g hg => Nat.le_trans HB1.out.size (HO2.out.lt hg).1;clear C2 ho2 hb2;go_wp2;go_returns;exact ⟨_, rfl, G1, G2, _, HU.out, HF.out, HWR.out, HAT.out⟩
 ·have hown := h.own;rw [hv] at hown;obtain ⟨A7, c7, e7, _, _, hrd7⟩ := hown.shape;injection e7 with e7 _ e8;subst e7 e8;obtain ⟨A8, c8, e8, _, _, hrd8⟩ := (hown.drop (A := none) hn).shape;injection e8 with e8 _ e9;subst e8 e9;subst hv;have b0 := za h.box 0 rfl;rw [<- hL] at b0 hn1 hn2 hn h2;rw [List.length_drop, <- hL] at hrd8;have C1 := zdt (some ⟨g, off, none⟩) n cap (l.take n) w (Rd.takeV hrd7 (by omega)) (by rw [List.length_take, <- HL.out]; omega) (by omega) (fun e => by cases e)
  by_cases hnc : n = cap
  ·subst hnc;have hLn : L - n = 0 := (by omega);have hdn : l.drop n = [] := List.drop_eq_nil_of_le (by omega);have HR8 : Hid (Rd w (some ⟨g, off, none⟩) 0 (Rs (l.drop n))) := (by show Rd _ _ _ _; rw [hdn]; exact Rd.nil _ _);have HD0 : Hid ((l.drop n).length = 0) := (by show _ = _; rw [hdn]; rfl);clear hLn hdn;have hnn : (n : Int) <= (n : Int) := (by omega);have hLc : (L : Int) <= (n : Int) := (by omega);clear h hq hG hown hrd7 hrd8 hcur hsm hcx hqg hc2 hL;go_enter Tryz.func39, Tryz.ntmps39;go_wp2_with fail;refine C1.mono ?_;rintro e w1 ⟨G1, u1, rfl, ho1, hb1⟩;have HO1 := hz0q ho1;have HB1 := hz0q hb1;have HW1 := hz0q (HW.out.below hb1);have b0 := za HW1.out.box 0 rfl;rw [<- HL.out] at b0;have C2 := zdt (some ⟨g, off, none⟩) 0 0 (l.drop n) w1 (HR8.out.below hb1) HD0.out (by omega) (fun e => by cases e);clear C1 ho1 hb1;go_wp2_with fail;refine C2.mono ?_;rintro e w2 ⟨G2, u2, rfl, ho2, hb2⟩;obtain ⟨A9, c9, hu2, _, _, _⟩ := ho2.shape;obtain ⟨d9, hd9⟩ : ∃ d9, d9 = (l.drop n).length := ⟨_, rfl⟩;rw [<- hd9] at hu2;subst hu2;clear hd9;have HO2 := hz0q ho2;have HB2 := hz0q hb2;have HW2 := hz0q (HW1.out.below hb2);have b0 := za HW2.out.box 0 rfl;have f0 := zc HW2.out.box 0;rw [<- HL.out] at b0;have HF := hz0q (HW2.out.setQ rfl (ho2.mono (Nat.le_trans HQ.out HB1.out.size)));have HU : Hid (OwnG w.heap.size (w2.setCell ⟨wp, 0, none⟩ (.slice A9 d9 c9)) G1 u1 (l.take n)) := (HO1.out.below hb2).blk fun g hg => Below.heap_setCell w2 ⟨wp, 0, none⟩ _ g (fun e => by have h1 := (HO1.out.lt hg).1; have h2 := HW.out.lt; have e : g = wp := e; omega)
   have HWR : Hid (Wrote (fun k => k = wp) w (w2.setCell ⟨wp, 0, none⟩ (.slice A9 d9 c9))) := ((Wrote.of_below HB1.out).then_below HB2.out).trans (Wrote.setCell (S := fun k => k = wp) (.inl rfl) _);have HAT : Hid (∀ g, G2 = some g -> w.heap.size <= g) := fun g hg => Nat.le_trans HB1.out.size (HO2.out.lt hg).1;clear C2 ho2 hb2;go_wp2;go_returns;exact ⟨_, rfl, G1, G2, _, HU.out, HF.out, HWR.out, HAT.out⟩
  ·have HR8 := hz0q hrd8;have hcap : (n : Int) <= (cap : Int) := (by omega);have hLc : (L : Int) <= (cap : Int) := (by omega);clear h hq hG hown hrd7 hrd8 hcur hsm hcx hqg hc2 hL;go_enter Tryz.func39, Tryz.ntmps39;go_wp2_with fail;refine C1.mono ?_;rintro e w1 ⟨G1, u1, rfl, ho1, hb1⟩;have HO1 := hz0q ho1;have HB1 := hz0q hb1;have HW1 := hz0q (HW.out.below hb1);have b0 := za HW1.out.box 0 rfl;rw [<- HL.out] at b0;have C2 := zdt (some ⟨g, off + n, none⟩) (L - n) (cap - n) (l.drop n) w1 (HR8.out.below hb1) (by rw [List.length_drop, <- HL.out]) (by omega) (fun e => by cases e);clear C1 ho1 hb1;go_wp2_with fail;refine C2.mono ?_;rintro e w2 ⟨G2, u2, rfl, ho2, hb2⟩;obtain ⟨A9, c9, hu2, _, _, _⟩ := ho2.shape;obtain ⟨d9, hd9⟩ : ∃ d9, d9 = (l.drop n).length := ⟨_, rfl⟩;rw [<- hd9] at hu2;subst hu2;clear hd9;have HO2 := hz0q ho2;have HB2 := hz0q hb2;have HW2 := hz0q (HW1.out.below hb2);have b0 := za HW2.out.box 0 rfl;have f0 := zc HW2.out.box 0;rw [<- HL.out] at b0;have HF := hz0q (HW2.out.setQ rfl (ho2.mono (Nat.le_trans HQ.out HB1.out.size)));have HU : Hid (OwnG w.heap.size (w2.setCell ⟨wp, 0, none⟩ (.slice A9 d9 c9)) G1 u1 (l.take n)) := (HO1.out.below hb2).blk fun g hg => Below.heap_setCell w2 ⟨wp, 0, none⟩ _ g (fun e => by have h1 := (HO1.out.lt hg).1; have h2 := HW.out.lt; have e : g = wp := e; omega);have HWR : Hid (Wrote (fun k => k = wp) w (w2.setCell ⟨wp, 0, none⟩ (.slice A9 d9 c9))) := ((Wrote.of_below HB1.out).then_below HB2.out).trans (Wrote.setCell (S := fun k => k = wp) (.inl rfl) _)
   have HAT : Hid (∀ g, G2 = some g -> w.heap.size <= g) := fun g hg => Nat.le_trans HB1.out.size (HO2.out.lt hg).1;clear C2 ho2 hb2;go_wp2;go_returns;exact ⟨_, rfl, G1, G2, _, HU.out, HF.out, HWR.out, HAT.out⟩
end
end
end Go.Proofs.YtolcabjkbefjgaaGreatDoor
