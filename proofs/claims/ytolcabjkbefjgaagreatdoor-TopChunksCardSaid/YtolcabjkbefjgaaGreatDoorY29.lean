/- Lists of lists of characters in memory; how decomp.Runs cuts: plain. stream: Feed, Close, Faults, Whole. New's answers as bases; the chapter's example. wide.Decode. -/
import Derived.Test.YtolcabjkbefjgaaGreatDoorY28
set_option linter.unusedSimpArgs false
set_option linter.unusedVariables false
set_option maxRecDepth 20000
set_option maxHeartbeats 4000000
namespace Go.Proofs.YtolcabjkbefjgaaGreatDoor
section
open Go.RowKit
abbrev LA:=List Int × Option Addr × Nat
abbrev laV (x : LA) : Value:=.slice x.2.1 x.1.length x.2.2
abbrev LLs (os : List LA) : List Value:=os.map laV
theorem zd0 : Elem Tryz.prog 204 42 (.slice none 0 0) 24:=⟨Tryz.underlying204,by kernel_rfl,rfl⟩
section
variable {w w' : World} {B : Nat} {os : List LA} {A : Option Addr} {c : Nat}
end
section
variable {B : BaseF} {xs : List Int} {k fr : Nat} {out : List (List Int)}
end
end
section
open Go.RowKit
theorem zoc (fs : List (Int × Int)) : ∀ u ∈ Fs fs,u.oneCell' = true:=by
 intro u hu;simp only [Fs,List.mem_flatMap,List.mem_cons,List.not_mem_nil,or_false] at hu;obtain ⟨f,_,rfl | rfl⟩:=hu <;> rfl
section
variable {w : World} {q base : Nat} {rest : ByteArray} {all k p : Int} {g ov : Bool} {nf c : Nat} {A : Option Addr} {fs : List (Int × Int)}
end
section
variable {w : World} {q base : Nat} {k0 p : Int} {g0 : Bool} {all : List UInt8} {out : List Int}
end
end
section
open Go.RowKit Go.Lib Go.Maps
def NewIs (B : BaseF) (w : World) (e : Ending) (w' : World) : Prop:=∃ bp,e = .returned (.tuple #[.pointer (some ⟨bp,0,none⟩),.int .i64 0]) /\ zac w' (.pointer (some ⟨bp,0,none⟩)) B /\ Below w.heap.size w w'
theorem zm1 {rows : List RowS} {out : List Int} (g : RowsG rows) (h : NewOk rows out) {w w' : World} {e : Ending} (hG : zk0 rows out w e w') : NewIs (baseF g h) w e w':=by
 obtain ⟨bp,a,n,ss,pr,md,sc,rfl,hM,_,hA,hI,_,hb⟩:=hG
 have hall : ∀ x,madeQ (clsL rows) (prtL rows) out x = true -> x ∈ ss:=fun x hx => by
  have h1:=(zci hx).1;exact (hA.2 x).2 ⟨zea (g.into x _ h1).1,by rw [h1]; rfl⟩
 obtain ⟨h1,h2⟩:=mk_pair h hI hall;refine ⟨bp,rfl,.inr ⟨bp,a,n,_,_,pr,md,sc,rfl,hM,fun _ => rfl,fun _ => rfl,fun x y => ?_,fun r => ?_⟩,hb⟩
 ·show pairH (prL rows out) x y = pairH pr x y;unfold pairH;rw [h1]
 ·show secH (scL rows out) r = secH sc r;exact (h2 r).symm
theorem new_is {s o : ByteArray} {rows : List RowS} {out : List Int} (g : RowsG rows) (h : NewOk rows out) (hr : rowsS (bs s) = (rows,0,0)) (ho : setsS (bs o) = (out,0,0)) (w : World) (hE : Env w) (hk : Kinds w) (hs : s.size <= 1073741824) (ho1 : o.size <= 1073741824) :
  Calls Tryz.prog 8 #[.string s,.string o] w (NewIs (baseF g h) w):=(zmv s o hE hk hs ho1).mono fun e w' hp => by
 rcases hp with ⟨hn,_⟩ | ⟨_,hg⟩
 ·refine absurd ?_ hn;unfold NewC;rw [hr,ho];exact ⟨rfl,rfl,h⟩
 ·rw [hr,ho] at hg;exact zm1 g h hg
end
section
open Go.RowKit
theorem zcz {w w' : World} {b base kk n : Nat} {cs : Array Value} {t e : TypeId} {v : Value} {xs : List Value} (hx : w.heap[b]? = some (.cells cs t (0,0))) (ho : w.ownsRow base e kk v n xs) (hg : w.grownBy w' v.ownBlock) (hne : t ≠ e) : w'.heap[b]? = some (.cells cs t (0,0)):=by
 refine (hg.block b (Array.getElem?_eq_some_iff.1 hx).1 ?_).trans hx;intro h;rcases ho.2 with ⟨rfl,_⟩ | ⟨g,cap,cur,rfl,_,hh,_⟩
 ·cases h
 ·injection h with h;subst h;rw [hx] at hh;injection hh with hh;injection hh with _ hh;exact hne hh
section
variable {w : World}
end
end
end Go.Proofs.YtolcabjkbefjgaaGreatDoor
