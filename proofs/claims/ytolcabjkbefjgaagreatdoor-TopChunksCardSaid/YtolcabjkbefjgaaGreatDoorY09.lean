/- The contracts of the document's answer for fields: blanks, and what stands between bytes. The contracts of the code's Split. Bytes that a text tells: the word, and the code's. What stands within a name, and what a character is parted into: the code. Lines of a text: the code's. Its inner function writes on a variable of the outer one. -/
import Derived.Test.YtolcabjkbefjgaaGreatDoorY08
set_option linter.unusedSimpArgs false
set_option linter.unusedVariables false
set_option maxRecDepth 20000
set_option maxHeartbeats 4000000
namespace Go.Proofs.YtolcabjkbefjgaaGreatDoor
section
open Go.RowKit
theorem take_snoc' {α : Type} {l : List α} {k : Nat} {z : α} (h : l[k]? = some z) : l.take (k + 1) = l.take k ++ [z]:=by
 rw [List.take_add_one,h]; rfl
end
section
open Go.RowKit
theorem own_new (w : World) (e : TypeId) (l : List Value) (hl : l.length <= maxLen) : (w.alloc (.cells l.toArray e)).ownsRow w.heap.size e 1 (.slice (some ⟨w.heap.size,0,none⟩) l.length l.length) l.length l:=by
 refine ⟨by omega,.inr ⟨w.heap.size,l.length,l.toArray,rfl,Nat.le_refl _,by simp only [World.alloc,Array.getElem?_push_size],Nat.le_refl _,hl,by simp,by simp⟩⟩
theorem Env.alloc {w : World} (h : Env w) (o : Obj) : Env (w.alloc o):=h.below ((Below.refl _ _).alloc (Nat.le_refl _) o)
theorem zh0 (s : ByteArray) (c : UInt8) (w : World) (hE : Env w) (hs : s.size <= 1073741824) :
  Calls Tryz.prog 100 #[.string s,.string ⟨#[c]⟩] w (zh7 w (cutL c (bs s))):=by
 obtain ⟨m,hm,_⟩:=hE;have hlen:=zl8 c (bs s);rw [zi] at hlen;refine (Tryz.strings_Split s ⟨#[c]⟩ m w (by omega) hm (Nat.le_refl 1)).mono ?_;rintro e w' ⟨rfl,rfl⟩;rw [zi3,split_len,List.map_map];refine ⟨some ⟨w.heap.size,0,none⟩,(cutL c (bs s)).length,rfl,?_,(Below.refl _ _).alloc (Nat.le_refl _) _⟩;have:=own_new w 9 (Ss (cutL c (bs s))) (by simp [maxLen]; omega);rw [show (Ss (cutL c (bs s))).length = (cutL c (bs s)).length from List.length_map _] at this;exact this
theorem zgk (s : ByteArray) (sep : UInt8) (w : World) (hE : Env w) (hs : s.size <= 1073741824) :
  Calls Tryz.prog 61 #[.string s,.int .u8 sep.toNat] w (zh7 w ((cutL sep (bs s)).map bareL)):=by
 have hlen:=zl8 sep (bs s);have hpart:=zdd sep (bs s);have HF:=zh0 s sep (w.alloc (.cells #[.int .u8 sep.toNat] 5)) (hE.alloc _) hs;rw [zi] at hlen hpart;obtain ⟨ls,hls⟩ : ∃ ls,ls = cutL sep (bs s):=⟨_,rfl⟩;rw [<- hls] at hlen hpart HF ⊢;have HPT:=hz0q hpart;clear hpart hls
 have hcv : (convert 114 9 (.slice (some ⟨w.heap.size,0,none⟩) 1 1)).run Tryz.prog (w.alloc (.cells #[.int .u8 sep.toNat] 5)) = .ok (.string ⟨#[sep]⟩) (w.alloc (.cells #[.int .u8 sep.toNat] 5)) :=
  run_convert_bytes_back (w.alloc (.cells #[.int .u8 sep.toNat] 5)) 114 9 5 ⟨w.heap.size,0,none⟩ 1 [sep] Tryz.underlying114 Tryz.underlying5 Tryz.underlying9 (by
   intro j hj;have : j = 0:=(by simp at hj; exact hj);subst this
   exact World.cell?_alloc_at _ _ _ _ (by simp))
 go_enter Tryz.func61,Tryz.ntmps61;go_wp2_with fail;refine HF.mono ?_;rintro e w1 ⟨A,c,rfl,hown,hb⟩;have hb:=((Below.refl w.heap.size w).alloc (Nat.le_refl _) (.cells #[.int .u8 sep.toNat] 5)).trans (hb.mono (by simp));have hown:=zax hown (show w.heap.size <= _ by simp);go_wp2
 go_loopw [14] (fun i wr => ∃ (k : Nat),k <= ls.length /\ i = .int .i64 k /\ wr.ownsRow w.heap.size 9 1 (.slice A ls.length c) ls.length (Ss ((ls.take k).map bareL ++ ls.drop k)) /\ Below w.heap.size w wr) (fun i _ => ls.length - (intOf i).toNat)
 case atStart => exact ⟨0,Nat.zero_le _,rfl,by simpa using hown,hb⟩
 case round =>
  obtain ⟨k,hk,rfl,hownr,hbr⟩:=hrel
  by_cases hlt : k < ls.length
  ·obtain ⟨l,hl⟩ : ∃ l,ls[k]? = some l:=⟨_,List.getElem?_eq_getElem hlt⟩;have hll:=HPT.out l (List.mem_of_getElem? hl);obtain ⟨g,cap,hform,hg0,hgl⟩:=hownr.form (by omega);injection hform with hA _ hc;subst hA hc
   have hget : ((ls.take k).map bareL ++ ls.drop k)[k]? = some l:=by
    rw [List.getElem?_append_right (by simp; omega)];simp [hl];rw [Nat.min_eq_left (by omega),Nat.sub_self,Nat.add_zero,hl]
   have hci : wr.cell? ⟨g,k,none⟩ = some (.string (mk8 l)):=by rw [hownr.cellAt k (by omega)]; exact znd hget
   have hset : (Ss ((ls.take k).map bareL ++ ls.drop k)).set k (.string (mk8 (bareL l))) = Ss ((ls.take (k + 1)).map bareL ++ ls.drop (k + 1)):=by
    rw [take_snoc' hl,List.drop_eq_getElem_cons hlt];simp only [Ss,List.map_append,List.map_cons,List.map_nil];rw [List.set_append_right _ _ (by simp; omega)];simp;rw [Nat.min_eq_left (by omega),Nat.sub_self];simp
   have HSET:=hz0q hset;have hsz : (mk8 l).size <= 1073741824:=(by rw [z6]; omega);have HL:=hz0q hl;clear hset hget hl hown hb;have hi : (k : Int) < (ls.length : Int):=(by omega);go_wp2_with fail;refine (bareM l _ hsz).mono ?_;rintro e w2 ⟨rfl,hb2⟩;have hown2:=zas hownr hb2;have hbr2:=zb hbr hb2;clear hownr hbr hci;have hfi : w2.frozen? ⟨g,k,none⟩ = false:=hown2.frozenAt k;have hci2 : ∃ u,w2.cell? ⟨g,k,none⟩ = some u:=⟨_,by rw [hown2.cellAt k (by omega)]; exact List.getElem?_eq_getElem (by simp; omega)⟩;obtain ⟨u,hci2⟩:=hci2;have hst:=hown2.stored k (.string (mk8 (bareL l)));rw [HSET.out] at hst;have HST:=hz0q hst.1;have hbs:=hbr2.setCell (p:=⟨g,k,none⟩) hg0 (.string (mk8 (bareL l)));have HBS:=hz0q hbs;clear hst hown2 hbs hb2;go_wp2;go_roundw
   case rel => exact ⟨k + 1,by omega,by go_num,HST.out,HBS.out⟩
   case measure => simp [intOf]; omega
  ·have hkn : k = ls.length:=(by omega);subst hkn;go_wp2;go_returns;refine ⟨A,c,by simp,?_,hbr⟩;simpa using hownr
end
section
open Go.RowKit
abbrev Bs (l : List UInt8) : List Value:=l.map (fun b => Value.int .u8 b.toNat)
theorem own_bytes {w : World} {base : Nat} {A : Option Addr} {c : Nat} {l : List UInt8} (h : w.ownsRow base 5 1 (.slice A l.length c) l.length (Bs l)) (hl : l ≠ []) :
  ∃ b off,A = some ⟨b,off,none⟩ /\ ∀ j u,(Bs l)[j]? = some u -> w.cell? ⟨b,off + j,none⟩ = some u:=by
 have hlen : 0 < l.length:=List.length_pos_iff.2 hl;obtain ⟨A',c',e,_,_,hr⟩:=Rd.of_own h;injection e with e1 _ e2;subst e1 e2;exact hr.2 hlen
theorem bytes_str {w : World} {base : Nat} {A : Option Addr} {c : Nat} {l : List UInt8} (h : w.ownsRow base 5 1 (.slice A l.length c) l.length (Bs l)) (hl : l ≠ []) :
  (convert 114 9 (.slice A l.length c)).run Tryz.prog w = .ok (.string (mk8 l)) w :=
 (own_bytes h hl).elim fun b h1 => h1.elim fun off h2 => by
  rw [h2.1];refine run_convert_bytes_back w 114 9 5 ⟨b,off,none⟩ c l Tryz.underlying114 Tryz.underlying5 Tryz.underlying9 (fun j hj => ?_);rw [Addr.add_lit];exact h2.2 j _ (by simp [hj])
theorem ze1 (s p : ByteArray) (w : World) :
  Calls Tryz.prog 104 #[.string s,.string p] w fun e w' => e = .returned (.tuple #[.string (mk8 (Lib.trimPrefix (bs s) (bs p))),.bool (Lib.hasPrefix (bs s) (bs p))]) /\ w = w':=by
 refine (Tryz.strings_CutPrefix s p w).mono ?_;rintro e w' ⟨rfl,rfl⟩;exact ⟨rfl,rfl⟩
end
section
open Go.RowKit
theorem zji (s : List UInt8) : Lib.trimPrefix s [60] = if Lib.hasPrefix s [60] = true then s.drop 1 else s:=by
 unfold Lib.trimPrefix; rfl
theorem cutsuffix_any (s p : ByteArray) (w : World) (hs : s.size <= 9223372036854775807) :
  Calls Tryz.prog 105 #[.string s,.string p] w fun e w' => e = .returned (.tuple #[.string (mk8 (Lib.trimSuffix (bs s) (bs p))),.bool (Lib.hasSuffix (bs s) (bs p))]) /\ w = w':=by
 refine (Tryz.strings_CutSuffix s p w (by omega)).mono ?_;rintro e w' ⟨rfl,rfl⟩;exact ⟨rfl,rfl⟩
theorem zjz (nm en : ByteArray) (w : World) (hs : nm.size <= 9223372036854775807) :
  Calls Tryz.prog 57 #[.string nm,.string en] w fun e w' => e = .returned (.tuple #[.string (mk8 (zbf (bs nm) (bs en)).1),.bool (zbf (bs nm) (bs en)).2]) /\ w = w':=by
 have CP:=fun w => ze1 nm ⟨#[60]⟩ w;rw [show bs ⟨#[60]⟩ = [60] from rfl,zji] at CP;unfold zbf
 by_cases hp : Lib.hasPrefix (bs nm) [60] = true
 ·rw [if_pos hp,hp] at CP;rw [if_pos hp];have hdl : ((bs nm).drop 1).length <= nm.size:=(by rw [List.length_drop,zi]; omega);obtain ⟨t,ht⟩ : ∃ t,t = (bs nm).drop 1:=⟨_,rfl⟩;rw [<- ht] at CP hdl;rw [<- ht];have CS:=fun w => cutsuffix_any (mk8 t) en w (by rw [z6]; omega);rw [za0] at CS;obtain ⟨a,ha⟩ : ∃ a,a = Lib.trimSuffix t (bs en):=⟨_,rfl⟩;obtain ⟨b,hb⟩ : ∃ b,b = Lib.hasSuffix t (bs en):=⟨_,rfl⟩;rw [<- ha,<- hb] at CS;rw [<- ha,<- hb];clear ha hb hp ht;go_enter Tryz.func57,Tryz.ntmps57;go_wp2_with fail;refine (CP _).mono ?_;rintro e w1 ⟨rfl,rfl⟩;go_wp2_with fail;refine (CS _).mono ?_;rintro e w1 ⟨rfl,rfl⟩;go_wp2;go_returns;exact ⟨rfl,rfl⟩
 ·have hp' : Lib.hasPrefix (bs nm) [60] = false:=(by simpa using hp);rw [if_neg hp,hp'] at CP;rw [if_neg hp];clear hp hp';go_enter Tryz.func57,Tryz.ntmps57;go_wp2_with fail;refine (CP _).mono ?_;rintro e w1 ⟨rfl,rfl⟩;go_wp2;go_returns;exact ⟨rfl,rfl⟩
theorem notlet_any (x : Nat) (w : World) : Calls Tryz.prog 152 #[.int .i32 x] w fun e w' => e = .returned (.bool (zd5 x)) /\ w = w':=by
 rcases (show x < 65 \/ (65 <= x /\ x <= 90) \/ (90 < x /\ x < 97) \/ (97 <= x /\ x <= 122) \/ 122 < x by omega) with h | ⟨h,h'⟩ | ⟨h,h'⟩ | ⟨h,h'⟩ | h
 all_goals
  go_enter Tryz.func152,Tryz.ntmps152;go_wp2;go_returns;exact ⟨zam (by unfold zd5; symm; first | (rw [decide_eq_true_iff]; omega) | (rw [decide_eq_false_iff_not]; omega) | (rw [Bool.eq_iff_iff]; simp; omega)),rfl⟩
theorem notlet_pred (w : World) : Go.Proofs.PredGrows Tryz.prog 152 #[] zd5 w:=by
 intro W x _ _;exact (notlet_any x W).mono fun e w' h => ⟨h.1,h.2 ▸ Below.refl _ _⟩
theorem letters_any (l : List UInt8) (w : World) :
  Calls Tryz.prog 151 #[.string (mk8 l),.func (.func 152) #[] #[]] w fun e w' => e = .returned (.bool (!zbp l)) /\ Below w.heap.size w w':=by
 have:=Tryz.strings_ContainsFunc_grows 152 #[] (enters_of Tryz.func152 (by kernel_rfl) rfl) zd5 (mk8 l) w (notlet_pred w);rw [idx_letters0] at this;exact this
def FreshKRE (w : World) (r : List UInt8 × List Int × Int) (e : Ending) (w' : World) : Prop :=
 ∃ A c,e = .returned (.tuple #[.string (mk8 r.1),.slice A r.2.1.length c,.int .i64 r.2.2]) /\ w'.ownsRow w.heap.size 21 1 (.slice A r.2.1.length c) r.2.1.length (Rs r.2.1) /\ Below w.heap.size w w'
theorem trim_any (l : List UInt8) (w : World) (hs : l.length <= 1073741824) :
  Calls Tryz.prog 147 #[.string (mk8 l),.string ⟨#[9,13,32]⟩] w fun e w' => e = .returned (.string (mk8 (bareL l))) /\ Below w.heap.size w w':=by
 refine (Any.strings_Trim_laid Tryz.lays160 (by kernel_rfl) (mk8 l) ⟨#[9,13,32]⟩ w (by rw [z6]; omega) (by decide) (ascii_of_all (by decide))).mono ?_;rintro e w' ⟨rfl,hb⟩;refine ⟨?_,hb⟩;show Ending.returned (.string (mk8 (Lib.trimS l [9,13,32]))) = _;rw [zn6]
theorem zjy (k s : List UInt8) (w : World) (hs : s.length <= 1073741824) : Calls Tryz.prog 153 #[.string (mk8 s)] w (zbo w (zc6 s)):=by
 have:=runes04_any (mk8 s) w (by rw [z6]; omega);rw [za0] at this;exact this
theorem into_any (s : ByteArray) (w : World) (hE : Env w) (hs : s.size <= 1073741824) :
  Calls Tryz.prog 108 #[.string s] w (FreshKRE w (intoS (bs s))):=by
 have CP:=fun w => ze1 s ⟨#[60]⟩ w;rw [show bs ⟨#[60]⟩ = [60] from rfl,zji] at CP;unfold intoS
 by_cases hp : Lib.hasPrefix (bs s) [60] = true
 ·rw [if_pos hp,hp] at CP;rw [if_pos hp];have hdl : ((bs s).drop 1).length <= s.size:=(by rw [List.length_drop,zi]; omega);obtain ⟨t,ht⟩ : ∃ t,t = (bs s).drop 1:=⟨_,rfl⟩;rw [<- ht] at CP hdl;rw [<- ht];have CU:=fun w h => zkw (mk8 t) ⟨#[62]⟩ w h (by rw [z6]; omega);rw [za0,show bs ⟨#[62]⟩ = [62] from rfl] at CU;have hcl:=zl6 t [62];obtain ⟨⟨wd,rs,is⟩,hc⟩ : ∃ z,z = Lib.cut t [62]:=⟨_,rfl⟩;rw [<- hc] at CU hcl;rw [<- hc];simp only [] at hcl CU ⊢;have LT:=fun w => letters_any wd w;have TR:=fun w => trim_any rs w (by omega);have RU:=fun w => zjy wd rs w (by omega);clear hp hc ht
  cases his : is
  ·rw [his] at CU;rw [if_pos (.inl rfl)];clear his LT TR hcl RU;go_enter Tryz.func108,Tryz.ntmps108;go_wp2_with fail;refine (CP _).mono ?_;rintro e w1 ⟨rfl,rfl⟩;go_wp2_with fail;refine (CU _ hE).mono ?_;rintro e w2 ⟨rfl,hb⟩;go_wp2;go_returns;exact ⟨none,0,rfl,World.ownsRow_nil _ _ _ _,hb⟩
  ·rw [his] at CU;clear his
   by_cases hw : wd = []
   ·rw [if_pos (.inr (.inl hw))];have hte : (mk8 wd).toList.isEmpty = true:=(by rw [hw,z7,za0]; rfl);clear hw LT TR hcl RU;go_enter Tryz.func108,Tryz.ntmps108;go_wp2_with fail;refine (CP _).mono ?_;rintro e w1 ⟨rfl,rfl⟩;go_wp2_with fail;refine (CU _ hE).mono ?_;rintro e w2 ⟨rfl,hb⟩;go_wp2;go_returns;exact ⟨none,0,rfl,World.ownsRow_nil _ _ _ _,hb⟩
   ·have hte : (mk8 wd).toList.isEmpty = false:=by
     rw [z7,za0]
     cases wd with
     | nil => exact absurd rfl hw
     | cons c r => rfl
    cases hl : zbp wd
    ·rw [if_pos (.inr (.inr (.inl rfl)))];rw [hl] at LT;clear hw hl TR hcl RU;go_enter Tryz.func108,Tryz.ntmps108;go_wp2_with fail;refine (CP _).mono ?_;rintro e w1 ⟨rfl,rfl⟩;go_wp2_with fail;refine (CU _ hE).mono ?_;rintro e w2 ⟨rfl,hb⟩;go_wp2_with fail;refine (LT _).mono ?_;rintro e w3 ⟨rfl,hb3⟩;go_wp2;go_returns;exact ⟨none,0,rfl,World.ownsRow_nil _ _ _ _,zb hb hb3⟩
    ·rw [hl] at LT
     by_cases hr : bareL rs = []
     ·rw [if_pos (.inr (.inr (.inr hr)))];have hre : (mk8 (bareL rs)).toList.isEmpty = true:=(by rw [hr,z7,za0]; rfl);clear hw hl hr hcl RU;go_enter Tryz.func108,Tryz.ntmps108;go_wp2_with fail;refine (CP _).mono ?_;rintro e w1 ⟨rfl,rfl⟩;go_wp2_with fail;refine (CU _ hE).mono ?_;rintro e w2 ⟨rfl,hb⟩;go_wp2_with fail;refine (LT _).mono ?_;rintro e w3 ⟨rfl,hb3⟩;replace hb:=zb hb hb3;go_wp2_with fail;refine (TR _).mono ?_;rintro e w4 ⟨rfl,hb4⟩;go_wp2;go_returns;exact ⟨none,0,rfl,World.ownsRow_nil _ _ _ _,zb hb hb4⟩
     ·rw [if_neg (fun hh => by
       rcases hh with h | h | h | h
       ·exact absurd h (by decide)
       ·exact hw h
       ·exact absurd h (by decide)
       ·exact hr h)]
      have hre : (mk8 (bareL rs)).toList.isEmpty = false:=by
       rw [z7,za0]
       cases hq : bareL rs with
       | nil => exact absurd hq hr
       | cons c r => rfl
      unfold intoR;obtain ⟨⟨l,e0⟩,hl2⟩ : ∃ z,z = zc6 rs:=⟨_,rfl⟩;rw [<- hl2] at RU;rw [<- hl2];simp only [];clear hw hl hr hcl hl2
      by_cases he : e0 = 0
      ·subst he;rw [if_neg (by simp)]
       by_cases h18 : 18 < l.length
       ·rw [if_pos h18];have h18i : (18 : Int) < (l.length : Int):=(by omega);clear h18;go_enter Tryz.func108,Tryz.ntmps108;go_wp2_with fail;refine (CP _).mono ?_;rintro e w1 ⟨rfl,rfl⟩;go_wp2_with fail;refine (CU _ hE).mono ?_;rintro e w2 ⟨rfl,hb⟩;go_wp2_with fail;refine (LT _).mono ?_;rintro e w3 ⟨rfl,hb3⟩;replace hb:=zb hb hb3;go_wp2_with fail;refine (TR _).mono ?_;rintro e w4 ⟨rfl,hb4⟩;replace hb:=zb hb hb4;have hz5:=hb.size;go_wp2_with fail;refine (RU _).mono ?_;intro e w5 hF;obtain ⟨A,c,rfl,hown,hb5⟩:=hF;go_wp2;go_returns;exact ⟨none,0,rfl,World.ownsRow_nil _ _ _ _,zb hb hb5⟩
       ·rw [if_neg h18];have h18i : (l.length : Int) <= 18:=(by omega);clear h18;go_enter Tryz.func108,Tryz.ntmps108;go_wp2_with fail;refine (CP _).mono ?_;rintro e w1 ⟨rfl,rfl⟩;go_wp2_with fail;refine (CU _ hE).mono ?_;rintro e w2 ⟨rfl,hb⟩;go_wp2_with fail;refine (LT _).mono ?_;rintro e w3 ⟨rfl,hb3⟩;replace hb:=zb hb hb3;go_wp2_with fail;refine (TR _).mono ?_;rintro e w4 ⟨rfl,hb4⟩;replace hb:=zb hb hb4;have hz5:=hb.size;go_wp2_with fail;refine (RU _).mono ?_;intro e w5 hF;obtain ⟨A,c,rfl,hown,hb5⟩:=hF;go_wp2;go_returns;exact ⟨A,c,rfl,zax hown hz5,zb hb hb5⟩
      ·rw [if_pos he];have hne : (e0 != 0) = true:=(by simpa using he);clear he;go_enter Tryz.func108,Tryz.ntmps108;go_wp2_with fail;refine (CP _).mono ?_;rintro e w1 ⟨rfl,rfl⟩;go_wp2_with fail;refine (CU _ hE).mono ?_;rintro e w2 ⟨rfl,hb⟩;go_wp2_with fail;refine (LT _).mono ?_;rintro e w3 ⟨rfl,hb3⟩;replace hb:=zb hb hb3;go_wp2_with fail;refine (TR _).mono ?_;rintro e w4 ⟨rfl,hb4⟩;replace hb:=zb hb hb4;have hz5:=hb.size;go_wp2_with fail;refine (RU _).mono ?_;intro e w5 hF;obtain ⟨A,c,rfl,hown,hb5⟩:=hF;go_wp2;go_returns;exact ⟨none,0,rfl,World.ownsRow_nil _ _ _ _,zb hb hb5⟩
 ·have hp' : Lib.hasPrefix (bs s) [60] = false:=(by simpa using hp);rw [if_neg hp,hp'] at CP;rw [if_neg hp];have RU:=fun w => zjy [] (bs s) w (by rw [zi]; omega);rw [zmw] at RU CP;unfold intoR;obtain ⟨⟨l,e0⟩,hl2⟩ : ∃ z,z = zc6 (bs s):=⟨_,rfl⟩;rw [<- hl2] at RU;rw [<- hl2];simp only [];clear hp hp' hl2
  by_cases he : e0 = 0
  ·subst he;rw [if_neg (by simp)]
   by_cases h18 : 18 < l.length
   ·rw [if_pos h18];have h18i : (18 : Int) < (l.length : Int):=(by omega);clear h18;go_enter Tryz.func108,Tryz.ntmps108;go_wp2_with fail;refine (CP _).mono ?_;rintro e w1 ⟨rfl,rfl⟩;go_wp2_with fail;refine (RU _).mono ?_;intro e w5 hF;obtain ⟨A,c,rfl,hown,hb5⟩:=hF;go_wp2;go_returns;exact ⟨none,0,rfl,World.ownsRow_nil _ _ _ _,hb5⟩
   ·rw [if_neg h18];have h18i : (l.length : Int) <= 18:=(by omega);clear h18;go_enter Tryz.func108,Tryz.ntmps108;go_wp2_with fail;refine (CP _).mono ?_;rintro e w1 ⟨rfl,rfl⟩;go_wp2_with fail;refine (RU _).mono ?_;intro e w5 hF;obtain ⟨A,c,rfl,hown,hb5⟩:=hF;go_wp2;go_returns;exact ⟨A,c,rfl,hown,hb5⟩
  ·rw [if_pos he];have hne : (e0 != 0) = true:=(by simpa using he);clear he;go_enter Tryz.func108,Tryz.ntmps108;go_wp2_with fail;refine (CP _).mono ?_;rintro e w1 ⟨rfl,rfl⟩;go_wp2_with fail;refine (RU _).mono ?_;intro e w5 hF;obtain ⟨A,c,rfl,hown,hb5⟩:=hF;go_wp2;go_returns;exact ⟨none,0,rfl,World.ownsRow_nil _ _ _ _,hb5⟩
end
section
open Go.RowKit
theorem own_other {w w' : World} {B k : Nat} {e : TypeId} {v : Value} {n : Nat} {xs : List Value} (h : w.ownsRow B e k v n xs) (hk : ∀ g,B <= g -> w'.heap[g]? = w.heap[g]?) : w'.ownsRow B e k v n xs:=by
 refine ⟨h.1,?_⟩;rcases h.2 with hn | ⟨g,cap,cur,hv,hg,hh,rest⟩
 ·exact .inl hn
 ·exact .inr ⟨g,cap,cur,hv,hg,(hk g hg).trans hh,rest⟩
theorem bareZ (l : List UInt8) (w : World) (hs : l.length <= 1073741824) :
  Calls Tryz.prog 103 #[.string (mk8 l)] w fun e w' => e = .returned (.string (mk8 (bareL l))) /\ Below w.heap.size w w':=bareM l w (by rw [z6]; exact hs)
structure zmf (p : Nat) (os : List (Int × List UInt8)) (w : World) : Prop where
 ex : ∃ A c,w.cell? ⟨p,0,none⟩ = some (.slice A os.length c) /\ w.ownsRow (p + 1) 151 2 (.slice A os.length c) os.length (Ls os)
 fz : w.frozen? ⟨p,0,none⟩ = false
theorem tell_any (no : Int) (l : List UInt8) (p : Nat) (os : List (Int × List UInt8)) (w : World) (hE : Env w) (hsz : l.length <= 512) (hol : os.length <= 100000) (hh : zmf p os w) :
  Calls Tryz.prog 101 #[.int .i64 no,.string (mk8 l),.pointer (some ⟨p,0,none⟩)] w fun e w' => e = .returned (.tuple #[]) /\ zmf p (if tellL l = [] then os else os ++ [(no,tellL l)]) w' /\ Below p w w':=by
 have HC:=zkw (mk8 l) ⟨#[35]⟩ w hE (by rw [z6]; omega);rw [za0,show bs ⟨#[35]⟩ = [35] from rfl] at HC;have hcl:=(zl6 l [35]).1;have htl : tellL l = bareL (Lib.cut l [35]).1:=rfl;obtain ⟨⟨a,b,is⟩,hx⟩ : ∃ x,x = Lib.cut l [35]:=⟨_,rfl⟩;rw [<- hx] at HC hcl htl;simp only [] at HC hcl htl;rw [htl];clear hx htl;obtain ⟨⟨A,c,hcell,hown⟩,hfz⟩:=hh;have hp : p < w.heap.size:=World.block_lt_of_cell? w _ hcell
 by_cases hte : bareL a = []
 ·rw [if_pos hte];go_enter Tryz.func101,Tryz.ntmps101;go_wp2_with fail;refine HC.mono ?_;rintro e w1 ⟨rfl,hb1⟩;go_wp2_with fail;refine (bareZ _ _ (by omega)).mono ?_;rw [hte,show mk8 [] = ⟨#[]⟩ from rfl];rintro e w2 ⟨rfl,hb2⟩;have hb:=zb hb1 hb2;go_wp2;go_returns;exact ⟨rfl,⟨⟨A,c,by rw [hb.cell hp]; exact hcell,zy hown hb⟩,by rw [hb.frozen hp]; exact hfz⟩,hb.mono (by omega)⟩
 ·rw [if_neg hte];have hne1 : ¬ (mk8 (bareL a)).size = 0:=(by rw [z6]; intro h0; exact hte (List.eq_nil_of_length_eq_zero h0));have hne2 : (mk8 (bareL a)).toList.isEmpty = false:=zk8 hne1;have hne3 : (!(mk8 (bareL a)).toList.isEmpty) = true:=(by rw [hne2]; rfl);clear hne1 hte;go_enter Tryz.func101,Tryz.ntmps101;go_wp2_with fail;refine HC.mono ?_;rintro e w1 ⟨rfl,hb1⟩;go_wp2_with fail;refine (bareZ _ _ (by omega)).mono ?_;rintro e w2 ⟨rfl,hb2⟩;have hb:=zb hb1 hb2;have hcell2 : w2.cell? ⟨p,0,none⟩ = some (.slice A os.length c):=(by rw [hb.cell hp]; exact hcell);have hown2:=zy hown hb;have hfz2 : w2.frozen? ⟨p,0,none⟩ = false:=(by rw [hb.frozen hp]; exact hfz);have hp2 : p < w2.heap.size:=World.block_lt_of_cell? w2 _ hcell2;have hb':=hb.mono (show p <= w.heap.size by omega);clear hcell hown hfz hb1 hb2 hb HC;go_wp2_with (at_builtin; refine zcp lineElem _ rfl _ _ rfl (p + 1) rfl (zy hown2 ((Below.refl _ _).alloc (Nat.le_refl _) _)) rfl (RdK.new _ _ 1 _ rfl) two_of (by omega) (by omega) (by simp; omega) ?_)
  intro A3 c3 w4 hown4 hg4 hat4;have hb4:=zcl (hb'.alloc (by omega) _) (by simp; omega) (Nat.le_succ p) (zy hown2 ((Below.refl _ _).alloc (Nat.le_refl _) _)) hg4;have hal:=(Below.refl w2.heap.size w2).alloc (Nat.le_refl _) (.cells #[.int .i64 no,.string (mk8 (bareL a))] 151);have hne : ∀ k,(Value.slice A os.length c).ownBlock = some k -> p + 1 <= k:=fun k hk => (hown2.lt k hk).1
  have hblk : w4.heap[p]? = w2.heap[p]? := by
   refine (hg4.block p (by simp; omega) (fun h => ?_)).trans (hal.block p hp2);have:=hne p h.symm;omega
  have hcell4 : w4.cell? ⟨p,0,none⟩ = some (.slice A os.length c):=(World.cell?_of_block (a:=⟨p,0,none⟩) hblk).trans hcell2;have hfz4 : w4.frozen? ⟨p,0,none⟩ = false:=(World.frozen?_of_block (a:=⟨p,0,none⟩) hblk).trans hfz2;clear hblk hne hal hown2 hat4 hg4;go_wp2;go_returns;refine ⟨rfl,⟨⟨A3,c3,?_,?_⟩,?_⟩,hb4.setCell (Nat.le_refl p) _⟩
  ·rw [World.cell?_setCell_same' w4 _ _ (by rw [hcell4]; rfl)]; simp
  ·rw [Ls_snoc];have:=own_other hown4 (w':=w4.setCell ⟨p,0,none⟩ (.slice A3 (os.length + 1) c3)) (fun g hg => Below.heap_setCell _ _ _ g (by show g ≠ p; omega));simpa using this
  ·rw [World.frozen?_setCell]; exact hfz4
theorem zjr (s : ByteArray) (w : World) (hE : Env w) (hs : s.size <= 1073741824) :
  Calls Tryz.prog 55 #[.string s] w (zk1 151 w (zbj (bs s))):=by
 have hpart:=zdd 10 (bs s);rw [zi] at hpart;have HC:=zh0 s 10 w hE hs;obtain ⟨ls,hls⟩ : ∃ ls,ls = cutL 10 (bs s):=⟨_,rfl⟩;have hS : zbj (bs s) = if 4096 < ls.length then ([],14) else za4 [] 0 ls:=(by rw [hls]; rfl);rw [<- hls] at HC hpart;clear hls;have HPT:=hz0q hpart;clear hpart
 by_cases hbig : 4096 < ls.length
 ·rw [if_pos hbig] at hS;rw [hS];have hbi : (4096 : Int) < (ls.length : Int):=(by omega);clear hS;go_enter Tryz.func55,Tryz.ntmps55;go_wp2_with fail;refine HC.mono ?_;rintro e w1 ⟨A,c,rfl,hown,hb⟩;go_wp2;go_returns;exact ⟨none,0,rfl,World.ownsRow_nil _ _ _ _,hb⟩
 ·rw [if_neg hbig] at hS;rw [hS];have hbi : (ls.length : Int) <= 4096:=(by omega);clear hS;have hmf : ∀ (fn : Fn) (first cap : Array Value) (w : World),(Instr.makeFunc fn first cap).run Tryz.prog w = .ok (.func fn first cap) w:=fun _ _ _ _ => rfl;go_enter Tryz.func55,Tryz.ntmps55;go_wp2_with fail;refine HC.mono ?_;intro e w1 hF;obtain ⟨A,c,rfl,hr,hb1⟩:=hF.rd;have hE1:=hE.below hb1;clear hF HC;have hH : zmf w1.heap.size [] (w1.alloc (.cells #[.slice none 0 0] 138)):=⟨⟨none,0,World.cell?_alloc_at _ _ _ _ rfl,World.ownsRow_nil _ _ _ _⟩,World.frozen?_alloc_at _ _ _ _ rfl⟩;have hB0:=(Below.refl w1.heap.size w1).alloc (Nat.le_refl _) (.cells #[.slice none 0 0] 138);go_wp2
  go_loopw [17] (fun i wr => ∃ (k : Nat) (os : List (Int × List UInt8)),k <= ls.length /\ i = .int .i64 k /\ os.length <= k /\ Hid (za4 [] 0 ls = za4 os k (ls.drop k)) /\ zmf w1.heap.size os wr /\ Below w1.heap.size w1 wr) (fun i _ => ls.length - (intOf i).toNat)
  case atStart => exact ⟨0,[],Nat.zero_le _,rfl,Nat.zero_le _,rfl,hH,hB0⟩
  case round =>
   obtain ⟨k,os,hk,rfl,hol,HR,hh,hb⟩:=hrel;clear hH hB0
   by_cases hin : k < ls.length
   ·have hi : (k : Int) < (ls.length : Int):=(by omega);obtain ⟨l,hl⟩ : ∃ l,ls[k]? = some l:=⟨_,List.getElem?_eq_getElem hin⟩;have hll:=HPT.out l (List.mem_of_getElem? hl);have hd:=zf3 hl;obtain ⟨b,off,rfl,hbl,hcx⟩:=(hr.below hb).at_ (by omega);have hc0:=hcx k _ (znd hl);clear hcx
    by_cases hlong : 512 < l.length
    ·have hres : za4 [] 0 ls = ([],10):=(by rw [HR.out,hd,zgw hlong]);have HRES:=hz0q hres;have hlo : (512 : Int) < ((mk8 l).size : Int):=(by rw [z6]; omega);clear hlong hd hres hl;go_wp2;go_returns;rw [HRES.out];exact ⟨none,0,rfl,World.ownsRow_nil _ _ _ _,zb hb1 hb⟩
    ·have hlo : ((mk8 l).size : Int) <= 512:=by rw [z6]; omega
     have hst : za4 os k (ls.drop k) = za4 (if tellL l = [] then os else os ++ [((k : Int) + 1,tellL l)]) (k + 1) (ls.drop (k + 1)):=by
      rw [hd]
      by_cases ht : tellL l = []
      ·rw [zgv hlong ht,if_pos ht]
      ·rw [zgt hlong ht,if_neg ht]
     have HT:=tell_any ((k : Int) + 1) l w1.heap.size os wr (hE1.below hb) (by omega) (by omega) hh
     have hol2 : (if tellL l = [] then os else os ++ [((k : Int) + 1,tellL l)]).length <= k + 1:=by
      split
      ·omega
      ·rw [List.length_append,List.length_singleton]; omega
     obtain ⟨os2,hos2⟩ : ∃ o,o = (if tellL l = [] then os else os ++ [((k : Int) + 1,tellL l)]):=⟨_,rfl⟩;rw [<- hos2] at hst HT hol2;have HR2 : Hid (za4 [] 0 ls = za4 os2 (k + 1) (ls.drop (k + 1))):=(by show _ = _; rw [HR.out,hst]);clear hst hos2 hd hlong hh hl;go_wp2_with fail;refine HT.mono ?_;rintro e w2 ⟨rfl,hh2,hb2⟩;have hb3:=hb.trans hb2;go_wp2;go_roundw
     case rel => exact ⟨k + 1,os2,by omega,by go_num,hol2,HR2,hh2,hb3⟩
     case measure => simp [intOf]; omega
   ·have hi : (ls.length : Int) <= (k : Int):=(by omega);have hres : za4 [] 0 ls = (os,0):=(by rw [HR.out,List.drop_of_length_le (by omega)]; rfl);have HRES:=hz0q hres;obtain ⟨⟨A',c',hcell,hown⟩,hfz⟩:=hh;clear hres hfz;go_wp2;go_returns;rw [HRES.out];have:=hb1.size;exact ⟨A',c',rfl,zcg hown (by omega),zb hb1 hb⟩
end
end Go.Proofs.YtolcabjkbefjgaaGreatDoor
