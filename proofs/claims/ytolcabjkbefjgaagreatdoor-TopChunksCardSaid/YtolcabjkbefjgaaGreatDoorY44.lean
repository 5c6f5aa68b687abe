/- Arguments of TopChunks, opened; Go's own tables of UTF-8 out of what lies there when the call begins. -/
import Derived.Lib.LaidU8T
import Derived.Test.YtolcabjkbefjgaaGreatDoorY31
set_option linter.unusedSimpArgs false
set_option linter.unusedVariables false
set_option maxRecDepth 20000
set_option maxHeartbeats 4000000
namespace Go.Proofs.YtolcabjkbefjgaaGreatDoor
section
open Go.ChangeShapes Go.WideShapes Go.ChangeAt Go.RowKit Go.Lib
theorem znu : Tryz.prog.cellsOf 197 = 3:=by kernel_rfl
theorem mcells_get {W : World} {base n : Nat} {a : Addr} {cs : List Value} (h : W.cells? base a n = some cs) : cs.length = n /\ ∀ j,j < n -> W.cell? (a.add j) = cs[j]? := by
 unfold World.cells? at h;split at h
 ·have hl:=mapM_some_length h;rw [List.length_range] at hl;refine ⟨hl,fun j hj => ?_⟩;exact mapM_some_get h j j (by rw [List.getElem?_range hj])
 ·cases h
abbrev mrL (r : MR) : List Value:=[.string r.cd,.string r.tx,.int .i64 r.fl]
theorem open_mr {H : Type} {enc : TypeId × Value -> H} {W : World} {base : Nat} {sp : Nat -> Bool} {held : Bool} {fuel : Nat} {cs : List Value} {x : DataW H × List MemPlace}
  (h : DataW.trod enc Tryz.prog W base sp held fuel 197 cs = some x) : ∃ r : MR,cs = mrL r:=by
 obtain ⟨y0,y1,y2,n,_,hl,h0,h1,h2⟩:=Go.Deep.trod_struct3 Tryz.underlying197 h;rw [znu] at hl;match cs,hl with
 | [c0,c1,c2],_ =>
  have g0 : DataW.trod enc Tryz.prog W base sp held n 9 (([c0,c1,c2].drop 0).take (Tryz.prog.cellsOf 9)) = some y0:=h0;have g1 : DataW.trod enc Tryz.prog W base sp held n 9 (([c0,c1,c2].drop 1).take (Tryz.prog.cellsOf 9)) = some y1:=h1;have g2 : DataW.trod enc Tryz.prog W base sp held n 3 (([c0,c1,c2].drop 2).take (Tryz.prog.cellsOf 3)) = some y2:=h2;rw [znl] at g0 g1;rw [zni] at g2;obtain ⟨a0,e0,_⟩:=DataW.trod_string Tryz.underlying9 g0;obtain ⟨a1,e1,_⟩:=DataW.trod_string Tryz.underlying9 g1;obtain ⟨a2,e2,_⟩:=DataW.trod_int Tryz.underlying3 g2;simp at e0 e1 e2;subst e0 e1 e2;exact ⟨⟨a0,a1,a2⟩,rfl⟩
theorem zkh : ∀ (os : List MR) (j : Nat) (u : Value),(MRs os)[j]? = some u -> ∃ x,os[j / 3]? = some x /\ (mrL x)[j % 3]? = some u
 | [],j,u,h => by simp [MRs] at h
 | y :: t,j,u,h => by
  have e : MRs (y :: t) = mrL y ++ MRs t:=rfl;have h3 : (mrL y).length = 3:=rfl;rw [e] at h
  by_cases hj : j < 3
  ·rw [List.getElem?_append_left (by omega)] at h;exact ⟨y,by rw [Nat.div_eq_of_lt hj]; rfl,by rw [Nat.mod_eq_of_lt hj]; exact h⟩
  ·rw [List.getElem?_append_right (by omega),h3] at h;obtain ⟨x,h1,h2⟩:=zkh t (j - 3) u h;refine ⟨x,?_,?_⟩
   ·rw [show j / 3 = (j - 3) / 3 + 1 by omega]; exact h1
   ·rw [show j % 3 = (j - 3) % 3 by omega]; exact h2
theorem znf : ∀ l : List MR,(MRs l).length = l.length * 3
 | [] => rfl
 | y :: t => by
  show (mrL y ++ MRs t).length = _;have h3 : (mrL y).length = 3:=rfl;rw [List.length_append,znf t,h3];show _ = (t.length + 1) * 3;omega
theorem open_mrs {H : Type} {enc : TypeId × Value -> H} {W : World} {base : Nat} {sp : Nat -> Bool} {held : Bool} {A : Option Addr} {n c : Nat} {d : DataW H} {p : List MemPlace}
  (h : DataW.Trod enc Tryz.prog W base sp held 53 (.slice A n c) d p) : ∃ rs : List MR,ArgMR W A n rs:=by
 obtain ⟨fuel,hf⟩:=h;rcases DataW.trod_slice Tryz.underlying53 hf with ⟨hcs,_⟩ | ⟨a,len,cap,elems,rest,m,_,hcs,_,hb,hl,hm,hlen,hel,_,_⟩
 ·simp [Value.cells] at hcs;obtain ⟨rfl,rfl,rfl⟩:=hcs;exact ⟨[],rfl,Nat.zero_le _,RdK.nil _ _⟩
 ·simp [Value.cells] at hcs;obtain ⟨rfl,rfl,rfl⟩:=hcs;rw [znu] at hel
  have each : ∀ i : Fin n,∃ r : MR,∀ j,j < 3 -> W.cell? ((a.add (i.1 * 3)).add j) = (mrL r)[j]? := by
   intro ⟨i,hi⟩;have h1:=hel i hi;rw [List.getElem?_eq_getElem (by omega),Option.bind_eq_some_iff] at h1;obtain ⟨cs,h2,h3⟩:=h1;obtain ⟨r,rfl⟩:=open_mr h3;exact ⟨r,(mcells_get h2).2⟩
  obtain ⟨os,hol,hos⟩ : ∃ os : List MR,os.length = n /\ ∀ i (hi : i < os.length),∀ j,j < 3 -> W.cell? ((a.add (i * 3)).add j) = (mrL os[i])[j]? := by
   refine ⟨List.ofFn fun i => Classical.choose (each i),List.length_ofFn,fun i hi => ?_⟩;rw [List.getElem_ofFn];exact Classical.choose_spec (each ⟨i,by rw [List.length_ofFn] at hi; exact hi⟩)
  refine ⟨os,hol,Nat.le_trans hl hm,by rw [znf,hol],fun hn => ?_⟩;obtain ⟨b,off,spot⟩:=a;have h0:=hos 0 (by omega) 0 (by omega);have hc : W.cell? ((Addr.add ⟨b,off,spot⟩ (0 * 3)).add 0) = some (.string os[0].cd):=h0;have hspot : spot = none:=(by simpa [Addr.add] using World.cell?_spot hc);subst hspot;refine ⟨b,off,rfl,fun j u hu => ?_⟩;obtain ⟨x,h1,h2⟩:=zkh os j u hu;obtain ⟨hk,he⟩:=List.getElem?_eq_some_iff.1 h1;have h3:=hos (j / 3) hk (j % 3) (Nat.mod_lt _ (by omega));rw [he,h2,Addr.add_lit,Addr.add_lit] at h3;rw [<- h3];congr 2;omega
theorem fst_eq : (Rows.laid_unicode_utf8_first : DataW Unit) = firstData:=by kernel_rfl
theorem acc_eq : (Rows.laid_unicode_utf8_acceptRanges : DataW Unit) = acceptData:=by kernel_rfl
theorem tabs_of_laid {W : World} {l : List (String × DataW Unit)} (h : laidMet Tryz.prog l W) (h1 : ("unicode/utf8.first",Rows.laid_unicode_utf8_first) ∈ l) (h2 : ("unicode/utf8.acceptRanges",Rows.laid_unicode_utf8_acceptRanges) ∈ l) : TabsU W :=
 utf8Tabs_of_readsT (U8Types.of196 Tryz.lays196) ⟨by kernel_rfl,by kernel_rfl,by kernel_rfl,by kernel_rfl,by kernel_rfl,by kernel_rfl,by kernel_rfl⟩ (Lib.laidMet.reads h (by rw [<- fst_eq]; exact h1)) (Lib.laidMet.reads h (by rw [<- acc_eq]; exact h2))
end
end Go.Proofs.YtolcabjkbefjgaaGreatDoor
