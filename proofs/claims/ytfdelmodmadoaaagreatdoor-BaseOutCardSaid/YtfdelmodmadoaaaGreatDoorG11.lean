/- Keys that are characters, and pairs of them. An argument that is a list of characters, opened, with all that is known of it. A table of characters: New, Get. A table of characters: Set. -/
import Derived.Test.YtfdelmodmadoaaaGreatDoorCards
import Derived.Test.YtfdelmodmadoaaaGreatDoorTie
import Derived.Lib.SmallJoins
import Derived.Test.YtfdelmodmadoaaaGreatDoorG03
import Derived.Test.YtfdelmodmadoaaaGreatDoorG10
set_option linter.unusedSimpArgs false
set_option linter.unusedVariables false
set_option maxRecDepth 20000
set_option maxHeartbeats 4000000
namespace Go.Proofs.YtfdelmodmadoaaaGreatDoor
section
open Go.RowKit Go.Lib Go.Maps
abbrev runeV (x : Int) : Value := .int .i32 x
abbrev zj (x : Int) : Lit := .int .i32 x
def R32 (x : Int) : Prop := -2147483648 <= x /\ x < 2147483648
theorem R32.wf {x : Int} (h : R32 x) : (Lit.int .i32 x).wf = true := by
 obtain ⟨h1, h2⟩ := h;exact WalkArith.wf_i32 ⟨h1, by omega⟩
theorem R32.of_wf {x : Int} (h : (Lit.int .i32 x).wf = true) : R32 x := by
 have := bounds_i32 h;unfold R32;omega
theorem runeB {P : Program} {K : TypeId} (hk : P.underlying K = some (.int .i32)) : KeyB P K runeV zj R32 where
 keyed := int_keyed hk
 of := fun ha => keyOf_int_mk hk ha.wf
 inv := fun h => by
  obtain ⟨x, rfl, rfl, hw⟩ := Maps.keyOf_int_inv hk h;exact ⟨x, .of_wf hw, rfl, rfl⟩
 mkinj := fun h => by cases h; rfl
abbrev pairV (x : Int × Int) : Value := .agg #[.int .i32 x.1, .int .i32 x.2]
def zcb (x : Int × Int) : Lit := .string (keyBytes [.int .i32 x.1, .int .i32 x.2])
def R32P (x : Int × Int) : Prop := R32 x.1 /\ R32 x.2
theorem zfq {P : Program} {K e : TypeId} {m : Nat} (A : WideMaps.ArrKey P K e 2) (he : P.underlying e = some (.int .i32)) (hsz : P.types.size = m + 1) (x : Int × Int) (hx : R32P x) : keyOf P K (pairV x) = some (zcb x) := by
 obtain ⟨h1, h2⟩ := hx;have hkt : P.keyType K = true := A.keyType ⟨m, hsz⟩;have hf : (pairV x).formed P K = true := by simp [Value.formed, A.hu, A.size]
 have hk : P.keyLits (P.types.size + 1) K (pairV x).cells.toList = some [.int .i32 x.1, .int .i32 x.2] := by
  rw [hsz];simp [Program.keyLits, A.hu, A.size, A.one, he, Value.cells, List.range_succ, h1.wf, h2.wf]
 unfold keyOf;rw [A.hu];simp only [hkt, hf, Bool.and_self, if_true];rw [hk];rfl
theorem keyOf_pair_inv {P : Program} {K e : TypeId} {m : Nat} (A : WideMaps.ArrKey P K e 2) (he : P.underlying e = some (.int .i32)) (hsz : P.types.size = m + 1) {v : Value} {l : Lit} (h : keyOf P K v = some l) : ∃ x, R32P x /\ v = pairV x /\ l = zcb x := by
 have h0 := h;unfold keyOf at h;rw [A.hu] at h;simp only [] at h;split at h
 ·rename_i hc;simp only [Bool.and_eq_true] at hc
  cases v <;> simp [Value.formed, A.hu] at hc
  rename_i cs;have hs : cs.size = 2 := by rw [hc.2, A.size]
  obtain ⟨a, b, rfl⟩ : ∃ a b, cs = #[a, b] := by
   rcases cs with ⟨l⟩;match l, hs with
   | [a, b], _ => exact ⟨a, b, rfl⟩
  rw [hsz] at h;simp [Program.keyLits, A.hu, A.size, A.one, he, Value.cells, List.range_succ] at h;obtain ⟨q1, n1, rfl⟩ : ∃ q n, a = .int q n := by cases a <;> simp at h; exact ⟨_, _, rfl⟩
  obtain ⟨q2, n2, rfl⟩ : ∃ q n, b = .int q n := by
   cases b <;> first | exact ⟨_, _, rfl⟩ | (exfalso; by_cases c1 : q1 = .i32 /\ (Lit.int .i32 n1).wf = true <;> simp [c1] at h)
  simp only [] at h
  by_cases c1 : q1 = .i32 /\ (Lit.int .i32 n1).wf = true
  ·by_cases c2 : q2 = .i32 /\ (Lit.int .i32 n2).wf = true
   ·obtain ⟨rfl, w1⟩ := c1;obtain ⟨rfl, w2⟩ := c2;refine ⟨(n1, n2), ⟨.of_wf w1, .of_wf w2⟩, rfl, ?_⟩;have := zfq A he hsz (n1, n2) ⟨.of_wf w1, .of_wf w2⟩;rw [h0] at this;exact Option.some.inj this
   ·simp [c1, c2] at h
  ·simp [c1] at h
 ·cases h
theorem pairB {P : Program} {K e : TypeId} {m : Nat} (A : WideMaps.ArrKey P K e 2) (he : P.underlying e = some (.int .i32)) (hsz : P.types.size = m + 1) : KeyB P K pairV zcb R32P where
 keyed := Keyed.of_law A.law
 of := fun ha => zfq A he hsz _ ha
 inv := fun h => keyOf_pair_inv A he hsz h
 mkinj := fun {a b} h => by
  obtain ⟨a1, a2⟩ := a;obtain ⟨b1, b2⟩ := b;simp at h;simp [h]
end
section
open Go.ChangeShapes Go.WideShapes Go.ChangeAt Go.RowKit Go.Lib

/-- A list that came in. -/
structure ArgR (w : World) (A : Option Addr) (n c : Nat) (zs : List Int) : Prop where
  rd : Rd w A n (Rs zs)
  len : zs.length = n
  r : ∀ x ∈ zs, R32 x
  cap : n ≤ c
  mx : c ≤ maxLen
  nil : A = none → n = 0 ∧ c = 0
theorem ArgR.below {w w' : World} {A : Option Addr} {n c : Nat} {zs : List Int} (h : ArgR w A n c zs) (hb : Below w.heap.size w w') : ArgR w' A n c zs := ⟨h.rd.below hb, h.len, h.r, h.cap, h.mx, h.nil⟩
theorem open_list {H : Type} {enc : TypeId × Value → H} {W : World} {base : Nat} {sp : Nat → Bool} {held : Bool} {A : Option Addr} {n c : Nat} {d : DataW H} {p : List MemPlace}
    (h : DataW.Trod enc Tryz.prog W base sp held 33 (.slice A n c) d p) : ∃ zs, ArgR W A n c zs := by
  obtain ⟨fuel, hf⟩ := h
  rcases open_ints Tryz.underlying33 Tryz.underlying21 (by kernel_rfl) hf with ⟨hcs, _⟩ | ⟨x, l, cap, zs, hcs, _, hl, hm, hz, _, hcell, hwz⟩
  · simp [Value.cells] at hcs
    obtain ⟨rfl, rfl, rfl⟩ := hcs
    exact ⟨[], Rd.nil _ _, rfl, fun z hz => by simp at hz, Nat.le_refl _, by unfold maxLen; omega, fun _ => ⟨rfl, rfl⟩⟩
  · simp [Value.cells] at hcs
    obtain ⟨rfl, rfl, rfl⟩ := hcs
    have hlz : n ≤ zs.length := by rw [hz]; split <;> omega
    refine ⟨zs.take n, ⟨by simp; omega, fun hn => ?_⟩, by simp; omega, fun z hzm => ?_, hl, hm, fun e => by cases e⟩
    · obtain ⟨b, off, spot⟩ := x
      have hc := hcell 0 (by omega)
      have hspot : spot = none := by simpa [Addr.add] using World.cell?_spot hc
      subst hspot
      refine ⟨b, off, rfl, fun j u hu => ?_⟩
      rw [List.getElem?_map] at hu
      obtain ⟨y, hy, rfl⟩ := Option.map_eq_some_iff.1 hu
      rw [List.getElem?_take] at hy
      split at hy
      · have hjl : j < zs.length := (List.getElem?_eq_some_iff.1 hy).1
        have := hcell j hjl
        rw [Addr.add_lit] at this
        rw [this]
        simp [List.getD, hy]
      · cases hy
    · have := bounds_i32 (hwz z (List.mem_of_mem_take hzm))
      exact ⟨this.1, by omega⟩
end
section
open Go.RowKit Go.Lib Go.Maps
theorem zg : KeyB Tryz.prog 21 runeV zj R32 := runeB (by kernel_rfl)
theorem zb3 : Tryz.prog.underlying 128 = some (.map 21 142) := by kernel_rfl
theorem zbk : Tryz.prog.underlying 142 = some (.array 256 3) := by kernel_rfl
theorem zbm (w : World) : (zeroValue 142).run Tryz.prog w = .ok (zdp fun _ => 0) w := by kernel_rfl
def TabAt (w : World) (tb mb n : Nat) (T : Int -> Int) : Prop :=
 w.heap[tb]? = some (.cells #[.int .i64 0, .map (some mb)] 130 (0, 0)) /\
 ∃ f, MapF w Tryz.prog 21 zj R32 zdp mb n f /\ ∀ r, R32 r -> T r = if r < 0 then 0 else match f (r / 256) with | some g => g (r % 256).toNat | none => 0
theorem zeg (w : World) : Calls Tryz.prog 31 #[.int .i64 0] w fun e w' => e = .returned (.pointer (some ⟨w.heap.size + 1, 0, none⟩)) /\ TabAt w' (w.heap.size + 1) w.heap.size 0 (fun _ => 0) /\ Below w.heap.size w w' /\ w'.heap.size = w.heap.size + 2 := by
 have hmm := @run_makeMap Tryz.prog;go_enter Tryz.func31, Tryz.ntmps31;go_wp2;go_returns;have h1 : Below w.heap.size w (w.alloc (.map #[] 0)) := (Below.refl _ _).alloc (Nat.le_refl _) _;refine ⟨rfl, ⟨?_, fun _ => none, (MapF.made w _ _ _ _ _).alloc _, fun r _ => by simp⟩, h1.alloc (by simp) _, by simp⟩;have := heap_alloc_last (w.alloc (.map #[] 0)) (.cells #[.int .i64 0, .map (some w.heap.size)] 130);simpa using this
theorem zd0 : (Tryz.prog.info? 142).map (·.size) = some 256 := by kernel_rfl
theorem zero_size : Tryz.zeroCells142.size = 256 := by kernel_rfl
theorem zc2 (w : World) (g : Nat -> Int) : (storeCells ⟨w.heap.size, 0, none⟩ (zh g) 0).run Tryz.prog (w.alloc (.cells Tryz.zeroCells142 142)) = .ok () (w.alloc (.cells (zh g).toArray 142)) := by
 have := run_storeCells_new (P := Tryz.prog) w 142 Tryz.zeroCells142 (zh g).toArray (by rw [zd0]; simp [zaa]) (by rw [zero_size]; simp [zaa]) (by simp [zd2]; exact fun x hx => zd2 g x hx);simpa using this
theorem zhw {r : Int} (h : R32 r) : wrap32 (r.tdiv 256) = r.tdiv 256 /\ R32 (r.tdiv 256) := by
 obtain ⟨h1, h2⟩ := h
 have h3 : r.tdiv 256 = r / 256 \/ r.tdiv 256 = -((-r) / 256) := by
  rcases Int.le_total 0 r with h | h
  ·exact .inl (Int.tdiv_eq_ediv_of_nonneg h)
  ·right;rw [<- Int.tdiv_eq_ediv_of_nonneg (by omega), Int.neg_tdiv, Int.neg_neg]
 unfold R32 wrap32;omega
theorem trieGet_any {w : World} {tb mb n : Nat} {T : Int -> Int} (h : TabAt w tb mb n T) (r : Int) (hr : R32 r) : Calls Tryz.prog 43 #[.pointer (some ⟨tb, 0, none⟩), .int .i32 r] w fun e w' => e = .returned (.int .i64 (T r)) /\ Below w.heap.size w w' := by
 obtain ⟨hb, f, hm, hT⟩ := h;have c0 : w.cell? ⟨tb, 0, none⟩ = some (.int .i64 0) := (by simp [World.cell?, hb]);have c1 : w.cell? ⟨tb, 0 + 1, none⟩ = some (.map (some mb)) := (by simp [World.cell?, hb]);have htl : tb < w.heap.size := (Array.getElem?_eq_some_iff.1 hb).1;have hst := zc2 w;have hsz := zaa;have hTr := hT r hr;obtain ⟨hr1, hr2⟩ := hr;have hkk : R32 (wrap32 (r.tdiv 256)) := (by rw [(zhw ⟨hr1, hr2⟩).1]; exact (zhw ⟨hr1, hr2⟩).2);clear hT hb
 by_cases hn : r < 0
 ·have hT0 : T r = 0 := (by rw [hTr, if_pos hn]);clear hTr;rw [hT0];go_enter Tryz.func43, Tryz.ntmps43;go_wp2_with (first | (at_lookup; refine zk rfl _ _ rfl zg zb3 (zbm _) hm (k := wrap32 (r.tdiv 256)) hkk rfl rfl ?_) | go_in)
  go_returns;exact ⟨rfl, (Below.refl _ _).alloc (Nat.le_refl _) _⟩
 ·have hkd : wrap32 (r.tdiv 256) = r / 256 := (by rw [(zhw ⟨hr1, hr2⟩).1, Int.tdiv_eq_ediv_of_nonneg (by omega)]);rw [hkd] at hkk;rw [if_neg hn] at hTr;have hge : 0 <= r := by omega
  cases hf : f (r / 256) with
  | none =>
   rw [hf] at hTr;have hT0 : T r = 0 := hTr;rw [hT0];clear hTr;go_enter Tryz.func43, Tryz.ntmps43;go_wp2_with (first | (at_lookup; refine zk rfl _ _ rfl zg zb3 (zbm _) hm (k := r / 256) hkk rfl (by rw [<- hkd]; rfl) ?_; rw [hf]) | go_in)
   go_returns;exact ⟨rfl, (Below.refl _ _).alloc (Nat.le_refl _) _⟩
  | some g =>
   rw [hf] at hTr;have hT0 : T r = g (r % 256).toNat := hTr;rw [hT0];clear hTr;have hm1 : wrap32 (r.tmod 256) = r % 256 := (by rw [Int.tmod_eq_emod_of_nonneg hge]; unfold wrap32; omega);have hm2 : (0 : Int) <= r % 256 := (by omega);have hm3 : (r % 256).toNat < 256 := (by omega);have hm4 : r % 256 < 256 := by omega
   have hc : (w.alloc (.cells (zh g).toArray 142)).cell? ⟨w.heap.size, (r % 256).toNat, none⟩ = some (.int .i64 (g (r % 256).toNat)) := by
    rw [cell_of_row _ _ _ (zh g).toArray 142 (0, 0) (heap_alloc_last w _)];simpa using zbd g hm3
   go_enter Tryz.func43, Tryz.ntmps43;go_wp2_with (first | (at_lookup; refine zk rfl _ _ rfl zg zb3 (zbm _) hm (k := r / 256) hkk rfl (by rw [<- hkd]; rfl) ?_; rw [hf]) | go_in)
   go_returns;exact ⟨rfl, (Below.refl _ _).alloc (Nat.le_refl _) _⟩
end
section
open Go.RowKit Go.Lib Go.Maps
theorem blockC_set (g : Nat -> Int) (i : Nat) (v : Int) : (zh g).toArray.setIfInBounds i (.int .i64 v) = (zh fun k => if k = i then v else g k).toArray := by
 apply Array.ext_getElem?;intro k;rw [Array.getElem?_setIfInBounds];simp only [List.getElem?_toArray, List.size_toArray, zaa]
 by_cases hk : k < 256
 ·rw [zbd _ hk]
  by_cases h : i = k
  ·subst h;simp [hk, zbd]
  ·rw [if_neg h, zbd _ hk, if_neg (fun e => h e.symm)]
 ·have hn : ∀ g, (zh g)[k]? = none := fun g => List.getElem?_eq_none (by rw [zaa]; omega);rw [hn, hn];split
  ·split
   ·omega
   ·rfl
  ·rfl
theorem zd3 (g : Nat -> Int) : (zh g).toArray.all (·.oneCell') = true := by simp; exact fun x hx => zd2 g x hx
theorem zero_cells : Tryz.zeroCells142 = (zh fun _ => 0).toArray := by kernel_rfl
theorem zd1 {w : World} {b : Nat} {g : Nat -> Int} (h : w.heap[b]? = some (.cells (zh g).toArray 142 (0, 0))) {i : Nat} (hi : i < 256) : w.cell? ⟨b, i, none⟩ = some (.int .i64 (g i)) := by
 rw [cell_of_row _ _ _ (zh g).toArray 142 (0, 0) h];simpa using zbd g hi
theorem zch {w : World} {b : Nat} {g : Nat -> Int} (h : w.heap[b]? = some (.cells (zh g).toArray 142 (0, 0))) (i : Nat) : w.frozen? ⟨b, i, none⟩ = false := by simp [World.frozen?, h]
theorem ze8 {w : World} {b : Nat} {g : Nat -> Int} (h : w.heap[b]? = some (.cells (zh g).toArray 142 (0, 0))) {i : Nat} (hi : i < 256) (v : Int) :
  (w.setCell ⟨b, i, none⟩ (.int .i64 v)).heap[b]? = some (.cells (zh fun k => if k = i then v else g k).toArray 142 (0, 0)) := by
 have hb := (Array.getElem?_eq_some_iff.1 h).1;simp [World.setCell, Array.getElem?_modify, h, blockC_set g i v]
theorem plain_any {w : World} {tb : Nat} (c0 : w.cell? ⟨tb, 0, none⟩ = some (.int .i64 0)) : Calls Tryz.prog 109 #[.pointer (some ⟨tb, 0, none⟩)] w fun e w' => e = .returned (.agg (zh fun _ => 0).toArray) /\ Below w.heap.size w w' := by
 have hz := zero_cells;have htl : tb < w.heap.size := World.block_lt_of_cell? w _ c0;have hb0 : Below w.heap.size w (w.alloc (.cells Tryz.zeroCells142 142)) := (Below.refl _ _).alloc (Nat.le_refl _) _;have hh0 : (w.alloc (.cells Tryz.zeroCells142 142)).heap[w.heap.size]? = some (.cells (zh fun _ => 0).toArray 142 (0, 0)) := (by rw [<- hz]; exact heap_alloc_last w _);clear hz;go_enter Tryz.func109, Tryz.ntmps109;go_wp2
 go_loopw [4] (fun i wr => ∃ k : Nat, k <= 256 /\ i = .int .i64 k /\ wr.heap[w.heap.size]? = some (.cells (zh fun _ => 0).toArray 142 (0, 0)) /\ Below w.heap.size w wr) (fun i _ => 256 - (intOf i).toNat)
 case atStart => exact ⟨0, Nat.zero_le _, rfl, hh0, hb0⟩
 case round =>
  obtain ⟨k, hk, rfl, hh, hb⟩ := hrel
  by_cases hlt : k < 256
  ·have hki : (k : Int) < 256 := (by omega);have hki0 : (0 : Int) <= (k : Int) := (by omega);have d0 : wr.cell? ⟨tb, 0, none⟩ = some (.int .i64 0) := (hb.cell (p := ⟨tb, 0, none⟩) htl).trans c0;have e0 := zd1 hh hlt;have e1 := zch hh k;have hh2 := ze8 hh hlt 0;have hb2 : Below w.heap.size w (wr.setCell ⟨w.heap.size, k, none⟩ (.int .i64 0)) := hb.setCell (p := ⟨w.heap.size, k, none⟩) (Nat.le_refl _) _
   have hh3 : (wr.setCell ⟨w.heap.size, k, none⟩ (.int .i64 0)).heap[w.heap.size]? = some (.cells (zh fun _ => 0).toArray 142 (0, 0)) := by
    rw [hh2];congr 2;rw [zap (h := fun _ => 0)];intro i hi;simp
   clear hh hh2 hb;go_wp2;go_roundw
   case rel => exact ⟨k + 1, by omega, by go_num, hh3, hb2⟩
   case measure => simp [intOf]; omega
  ·have hki : (256 : Int) <= (k : Int) := (by omega);have hsz : (zh fun _ => 0).toArray.size = 256 := (by simp [zaa]);have hsz2 : (Tryz.prog.info? 142).map (·.size) = some (zh fun _ => 0).toArray.size := (by rw [hsz]; exact zd0);have hone : (zh fun _ => 0).toArray.all (·.oneCell') = true := zd3 _;have hb2 := setRow_below hb (b := w.heap.size) (Nat.le_refl _) (zh fun _ => 0).toArray;have hh2 := setRow_blk (c := (zh fun _ => 0).toArray) hh;go_wp2_with (first | (refine zab rfl rfl zbk hsz2 hh rfl ?_) | (refine zbu rfl rfl hsz2 rfl hone hh rfl rfl ?_) | go_in)
   have hrun := run_loadVar_row (P := Tryz.prog) _ w.heap.size 142 142 (zh fun _ => 0).toArray _ _ hh2 zbk rfl hsz2;refine bodyPost_ret (v := .agg (zh fun _ => 0).toArray) ?_ rfl ⟨rfl, hb2⟩;simp [results, Tryz.f109, Act.put, asAddr, Sem.run_pure, Result.andThen, hrun]
end
end Go.Proofs.YtfdelmodmadoaaaGreatDoor
