/- Bytes of strings as lists, and the numbers that digits tell. No program stands here. Plain functions for fields of files: blanks, what stands between bytes, lines, characters told by digits, bytes told by digits. No program stands here. Readers of bytes, and where bytes may be cut: plain. Bytes that are read strictly, one text behind the other: plain. A decoder of codes: plain. What Go calls valid UTF-8 is read strictly: plain. -/
import Derived.Handy
import Derived.Deep.Draws
import Derived.Lib.Hide
import Derived.Deep.RegionHeld
import Derived.Lib.ValidU
import Derived.Lib.MapLaws
set_option linter.unusedSimpArgs false
set_option linter.unusedVariables false
set_option maxRecDepth 20000
set_option maxHeartbeats 4000000
namespace Go.Proofs.YtolcabjkbefjgaaGreatDoor
section
open Go.RowKit
def bs (s : ByteArray) : List UInt8:=s.data.toList
theorem zi (s : ByteArray) : (bs s).length = s.size:=by simp [bs]
theorem bs_get (s : ByteArray) (i : Nat) (h : i < s.size) : (bs s)[i]? = some (s[i]'h):=by
 have hl : i < (bs s).length:=(by rw [zi]; exact h);rw [List.getElem?_eq_getElem hl];rfl
theorem zcy (s : ByteArray) (i : Nat) (h : i < s.size) : (bs s).drop i = s[i]'h :: (bs s).drop (i + 1):=by
 have hl : i < (bs s).length:=(by rw [zi]; exact h);rw [List.drop_eq_getElem_cons hl];rfl
theorem zbc (s : ByteArray) (i : Nat) (h : s.size <= i) : (bs s).drop i = []:=List.drop_eq_nil_of_le (by rw [zi]; exact h)
theorem zn5 {s t : ByteArray} (h : bs s = bs t) : s = t:=by
 cases s with | mk a => cases t with | mk b => cases a; cases b; simp [bs] at h; rw [h]
theorem mk_bs (s : ByteArray) : (⟨(bs s).toArray⟩ : ByteArray) = s:=by cases s; rfl
theorem zl9 {s : ByteArray} (h : s.size = 0) : bs s = []:=List.eq_nil_of_length_eq_zero (by rw [zi]; exact h)
theorem zck (s : ByteArray) (a b : Nat) : bs (s.extract a b) = ((bs s).take b).drop a:=by
 simp [bs,ByteArray.data_extract];rw [List.drop_take]
theorem z7 (s : ByteArray) : s.toList = bs s:=ByteArray.toList_eq s
def zt (c : Int) : Int :=
 if 48 <= c /\ c <= 57 then c - 48 else if 97 <= c /\ c <= 102 then c - 87 else if 65 <= c /\ c <= 70 then c - 55 else -1
theorem zg5 (c : Int) : -1 <= zt c:=by unfold zt; split <;> (try split) <;> (try split) <;> omega
theorem zeh (c : Int) : zt c <= 15:=by unfold zt; split <;> (try split) <;> (try split) <;> omega
theorem zby {c : Int} (h : 128 <= c) : zt c = -1:=by unfold zt; rw [if_neg (by omega),if_neg (by omega),if_neg (by omega)]
def zw (base : Int) : Int -> List UInt8 -> Int
 | n,[] => n
 | n,b :: t => if zt b.toNat < 0 \/ base <= zt b.toNat then -1 else zw base (n * base + zt b.toNat) t
def numS (base : Int) (most : Nat) (l : List UInt8) : Int:=if l.length = 0 \/ most < l.length then -1 else zw base 0 l
theorem zbl {base n : Int} {b : UInt8} {t : List UInt8} (h : zt b.toNat < 0 \/ base <= zt b.toNat) : zw base n (b :: t) = -1:=by
 simp only [zw];rw [if_pos h]
theorem zfs {base n : Int} {b : UInt8} {t : List UInt8} (h : 0 <= zt b.toNat) (h' : zt b.toNat < base) : zw base n (b :: t) = zw base (n * base + zt b.toNat) t:=by
 simp only [zw];rw [if_neg (by omega)]
end
section
open Go.RowKit
def mk8 (l : List UInt8) : ByteArray:=⟨l.toArray⟩
theorem za0 (l : List UInt8) : bs (mk8 l) = l:=rfl
theorem zmw (s : ByteArray) : mk8 (bs s) = s:=mk_bs s
theorem z6 (l : List UInt8) : (mk8 l).size = l.length:=by rw [<- zi,za0]
def zkb (b : Int) : Bool:=decide (b = 9 \/ b = 13 \/ b = 32)
def zao (b : UInt8) : Bool:=zkb b.toNat
def lstrip (l : List UInt8) : List UInt8:=l.dropWhile zao
def rstrip (l : List UInt8) : List UInt8:=(l.reverse.dropWhile zao).reverse
def bareL (l : List UInt8) : List UInt8:=rstrip (lstrip l)
theorem lstrip_yes {b : UInt8} {t : List UInt8} (h : zao b = true) : lstrip (b :: t) = lstrip t:=by simp [lstrip,List.dropWhile_cons,h]
theorem zgs {b : UInt8} {t : List UInt8} (h : zao b = false) : lstrip (b :: t) = b :: t:=by simp [lstrip,List.dropWhile_cons,h]
theorem zez {α : Type} (p : α -> Bool) (l : List α) : (l.dropWhile p).length <= l.length:=(List.dropWhile_sublist p).length_le
theorem zcm (l : List UInt8) : (bareL l).length <= l.length:=by
 have h1:=zez zao l;have h2:=zez zao (lstrip l).reverse;simp only [bareL,rstrip,List.length_reverse,lstrip] at h1 h2 ⊢;omega
def zba (sep : UInt8) (p : List (List UInt8) × List UInt8) (b : UInt8) : List (List UInt8) × List UInt8 :=
 if b = sep then (p.1 ++ [p.2],[]) else (p.1,p.2 ++ [b])
def cutF (sep : UInt8) (l : List UInt8) : List (List UInt8) × List UInt8:=l.foldl (zba sep) ([],[])
def cutL (sep : UInt8) (l : List UInt8) : List (List UInt8):=(cutF sep l).1 ++ [(cutF sep l).2]
theorem cutF_len (sep : UInt8) (l : List UInt8) : (cutF sep l).1.length + (cutF sep l).2.length <= l.length:=by
 suffices h : ∀ (l : List UInt8) (p : List (List UInt8) × List UInt8),(l.foldl (zba sep) p).1.length + (l.foldl (zba sep) p).2.length <= p.1.length + p.2.length + l.length by
  simpa [cutF] using h l ([],[])
 intro l;induction l with
 | nil => intro p; simp
 | cons b t ih =>
  intro p;have:=ih (zba sep p b);simp only [List.foldl_cons,List.length_cons]
  have h2 : (zba sep p b).1.length + (zba sep p b).2.length <= p.1.length + p.2.length + 1:=by
   unfold zba; split <;> simp <;> omega
  omega
theorem zl8 (sep : UInt8) (l : List UInt8) : (cutL sep l).length <= l.length + 1:=by
 have:=cutF_len sep l;simp only [cutL,List.length_append,List.length_singleton];omega
theorem cutF_part (sep : UInt8) (l : List UInt8) : (∀ x ∈ (cutF sep l).1,x.length <= l.length) /\ (cutF sep l).2.length <= l.length:=by
 suffices h : ∀ (l : List UInt8) (n : Nat) (p : List (List UInt8) × List UInt8),(∀ x ∈ p.1,x.length <= n) -> p.2.length <= n ->
   (∀ x ∈ (l.foldl (zba sep) p).1,x.length <= n + l.length) /\ (l.foldl (zba sep) p).2.length <= n + l.length by
  have:=h l 0 ([],[]) (by simp) (by simp);simpa [cutF] using this
 intro l;induction l with
 | nil => intro n p h1 h2; exact ⟨by simpa using h1,by simpa using h2⟩
 | cons b t ih =>
  intro n p h1 h2
  have:=ih (n + 1) (zba sep p b) (by
   unfold zba;split
   ·intro x hx;simp at hx;rcases hx with hx | rfl
    ·have:=h1 x hx; omega
    ·omega
   ·intro x hx;have:=h1 x hx
    omega) (by unfold zba; split <;> simp; omega)
  rw [show n + (b :: t).length = n + 1 + t.length by simp; omega];exact this
theorem zdd (sep : UInt8) (l : List UInt8) : ∀ x ∈ cutL sep l,x.length <= l.length:=by
 intro x hx;have:=cutF_part sep l;simp only [cutL,List.mem_append,List.mem_singleton] at hx;rcases hx with hx | rfl
 ·exact this.1 x hx
 ·exact this.2
def zp : List UInt8 -> List UInt8 -> List (List UInt8)
 | w,[] => if w = [] then [] else [w]
 | w,b :: t => if zao b = true then (if w = [] then zp [] t else w :: zp [] t) else zp (w ++ [b]) t
def zfn (l : List UInt8) : List (List UInt8):=zp [] l
theorem zed {b : UInt8} (w t : List UInt8) (h : zao b = true) : zp w (b :: t) = if w = [] then zp [] t else w :: zp [] t:=by
 simp only [zp];rw [if_pos h]
theorem zdj {b : UInt8} (w t : List UInt8) (h : zao b = false) : zp w (b :: t) = zp (w ++ [b]) t:=by
 simp only [zp];rw [if_neg (by rw [h]; simp)]
theorem ziy : ∀ (l w : List UInt8),(zp w l).length <= l.length + 1 /\ ∀ x ∈ zp w l,x.length <= w.length + l.length:=by
 intro l;induction l with
 | nil =>
  intro w;simp only [zp];split
  ·simp
  ·simp
 | cons b t ih =>
  intro w;simp only [zp];split
  ·have:=ih [];simp only [List.length_nil] at this;split
   ·exact ⟨by simp only [List.length_cons]; omega,fun x hx => by have:=this.2 x hx; simp only [List.length_cons]; omega⟩
   ·refine ⟨by simp only [List.length_cons]; omega,fun x hx => ?_⟩;simp only [List.mem_cons] at hx;rcases hx with rfl | hx
    ·simp
    ·have:=this.2 x hx; simp only [List.length_cons]; omega
  ·have:=ih (w ++ [b]);simp only [List.length_append,List.length_singleton] at this;exact ⟨by simp only [List.length_cons]; omega,fun x hx => by have:=this.2 x hx; simp only [List.length_cons]; omega⟩
end
section
abbrev Nx:=List UInt8 -> Int × Nat × Int
def NxOk (nx : Nx) : Prop:=∀ s,s ≠ [] -> 0 < (nx s).2.1 /\ (nx s).2.1 <= s.length
def putN (p : Int) (q : Int × Nat × Int) : List Int:=if q.2.2 = 0 then [q.1] else if p = 2 then [65533] else []
def rdF (nx : Nx) (p : Int) : Nat -> List UInt8 -> List Int × Bool
 | 0,_ => ([],true)
 | k + 1,s => if s = [] then ([],true) else if (nx s).2.2 ≠ 0 /\ p = 1 then ([],false) else
  (putN p (nx s) ++ (rdF nx p k (s.drop (nx s).2.1)).1,(rdF nx p k (s.drop (nx s).2.1)).2)
def rdN (nx : Nx) (p : Int) (s : List UInt8) : List Int × Bool:=rdF nx p s.length s
section
variable {nx : Nx} {p : Int}
theorem zlg (h : NxOk nx) : ∀ (k m : Nat) (s : List UInt8),s.length <= k -> s.length <= m -> rdF nx p k s = rdF nx p m s
 | 0,0,s,_,_ => rfl
 | 0,m + 1,s,hk,_ => by
  have : s = []:=List.length_eq_zero_iff.1 (by omega);subst this;rfl
 | k + 1,0,s,_,hm => by
  have : s = []:=List.length_eq_zero_iff.1 (by omega);subst this;rfl
 | k + 1,m + 1,s,hk,hm => by
  unfold rdF;split
  ·rfl
  ·rename_i hs;have:=h s hs;rw [zlg h k m (s.drop (nx s).2.1) (by rw [List.length_drop]; omega) (by rw [List.length_drop]; omega)]
theorem rd_nil : rdN nx p [] = ([],true):=rfl
theorem zgq (h : NxOk nx) {s : List UInt8} (hs : s ≠ []) : rdN nx p s = if (nx s).2.2 ≠ 0 /\ p = 1 then ([],false) else
  (putN p (nx s) ++ (rdN nx p (s.drop (nx s).2.1)).1,(rdN nx p (s.drop (nx s).2.1)).2):=by
 have h1:=h s hs;unfold rdN;obtain ⟨k,hk⟩ : ∃ k,s.length = k + 1:=⟨s.length - 1,by have:=List.length_pos_iff.2 hs; omega⟩;rw [hk];show (if s = [] then _ else _) = _;rw [if_neg hs,zlg h k (s.drop (nx s).2.1).length (s.drop (nx s).2.1) (by rw [List.length_drop]; omega) (Nat.le_refl _)]
theorem znp (h : NxOk nx) : ∀ (n : Nat) (s : List UInt8),s.length <= n -> (rdN nx p s).1.length <= s.length
 | 0,s,hn => by
  have : s = []:=List.length_eq_zero_iff.1 (by omega);subst this;exact Nat.le_refl _
 | n + 1,s,hn => by
  by_cases hs : s = []
  ·subst hs; exact Nat.le_refl _
  ·rw [zgq h hs];have h1:=h s hs;split
   ·exact Nat.zero_le _
   ·have h2:=znp h n (s.drop (nx s).2.1) (by rw [List.length_drop]; omega);rw [List.length_drop] at h2;show (putN p (nx s) ++ _).length <= _;rw [List.length_append]
    have h3 : (putN p (nx s)).length <= 1:=by
     unfold putN;split
     ·simp
     ·split <;> simp
    omega
end
def leadU (b : UInt8) : Nat × Int :=
 if b.toNat < 128 then (1,b.toNat) else if 192 <= b.toNat /\ b.toNat < 224 then (2,b.toNat - 192) else if 224 <= b.toNat /\ b.toNat < 240 then (3,b.toNat - 224) else if 240 <= b.toNat /\ b.toNat < 248 then (4,b.toNat - 240) else (0,0)
def za1 (b : UInt8) : Nat × Nat :=
 if b.toNat = 224 then (160,191) else if b.toNat = 237 then (128,159) else if b.toNat = 240 then (144,191) else if b.toNat = 244 then (128,143) else (128,191)
def tailU (many : Nat) : Nat -> Int -> Nat × Nat -> List UInt8 -> Int × Nat × Int
 | n,x,ft,[] => if many <= n then (x,many,0) else (0,n,18)
 | n,x,ft,c :: t => if many <= n then (x,many,0) else if c.toNat < ft.1 \/ ft.2 < c.toNat then (0,n,17) else tailU many (n + 1) (x * 64 + c.toNat % 64) (128,191) t
def nextU : Nx
 | [] => (0,0,18)
 | b :: t => if (leadU b).1 = 0 \/ (leadU b).1 = 2 /\ b.toNat < 194 \/ 244 < b.toNat then (0,1,17) else tailU (leadU b).1 1 (leadU b).2 (za1 b) t
theorem zbm (b : UInt8) (t : List UInt8) : nextU (b :: t) = if (leadU b).1 = 0 \/ (leadU b).1 = 2 /\ b.toNat < 194 \/ 244 < b.toNat then (0,1,17) else tailU (leadU b).1 1 (leadU b).2 (za1 b) t:=rfl
theorem lead_le (b : UInt8) : (leadU b).1 <= 4:=by
 unfold leadU;split
 ·simp
 split
 ·simp
 split
 ·simp
 split <;> simp
theorem zk6 (many : Nat) : ∀ (t : List UInt8) (n : Nat) (x : Int) (ft : Nat × Nat),1 <= n -> n <= many -> 0 < (tailU many n x ft t).2.1 /\ (tailU many n x ft t).2.1 <= n + t.length
 | [],n,x,ft,h1,h2 => by
  unfold tailU;split
  ·simp; omega
  ·simp; omega
 | c :: t,n,x,ft,h1,h2 => by
  unfold tailU;split
  ·simp; omega
  ·split
   ·simp; omega
   ·have:=zk6 many t (n + 1) (x * 64 + c.toNat % 64) (128,191) (by omega) (by omega);rw [List.length_cons];omega
theorem zcu : NxOk nextU
 | [],h => absurd rfl h
 | b :: t,_ => by
  rw [zbm];split
  ·simp
  ·rename_i h;have h0 : (leadU b).1 ≠ 0:=fun e => h (.inl e);have:=zk6 (leadU b).1 t 1 (leadU b).2 (za1 b) (by omega) (by omega);rw [List.length_cons];omega
theorem zk7 (many : Nat) : ∀ (t : List UInt8) (n : Nat) (x : Int) (ft : Nat × Nat) (u : List UInt8),(tailU many n x ft t).2.2 ≠ 18 -> tailU many n x ft (t ++ u) = tailU many n x ft t
 | [],n,x,ft,u,h => by
  unfold tailU at h;split at h
  ·rename_i hm
   cases u <;> simp [tailU,hm]
  ·exact absurd rfl h
 | c :: t,n,x,ft,u,h => by
  rw [List.cons_append];unfold tailU at h ⊢;split at h
  ·rename_i hm; rw [if_pos hm,if_pos hm]
  ·rename_i hm;rw [if_neg hm,if_neg hm];split at h
   ·rename_i hc; rw [if_pos hc,if_pos hc]
   ·rename_i hc; rw [if_neg hc,if_neg hc]; exact zk7 many t _ _ _ u h
theorem nextU_app {s : List UInt8} (hs : s ≠ []) (u : List UInt8) (h : (nextU s).2.2 ≠ 18) : nextU (s ++ u) = nextU s:=by
 cases s with
 | nil => exact absurd rfl hs
 | cons b t =>
  rw [List.cons_append,zbm,zbm];rw [zbm] at h;split at h
  ·rename_i hc; rw [if_pos hc,if_pos hc]
  ·rename_i hc; rw [if_neg hc,if_neg hc]; exact zk7 _ t _ _ _ u h
def marksL : List (Int × List UInt8):=[(5,[0xef,0xbb,0xbf]),(3,[0xff,0xfe,0,0]),(4,[0,0,0xfe,0xff]),(1,[0xff,0xfe]),(2,[0xfe,0xff])]
def OpenS (s : List UInt8) : Prop:=s.length < 4 /\ s ≠ [0xef,0xbb,0xbf] /\ ∃ x ∈ marksL,s <+: x.2
instance (s : List UInt8) : Decidable (OpenS s):=by unfold OpenS; infer_instance
section
variable {k0 p k : Int} {g0 g over : Bool} {all rest : List UInt8} {out : List Int}
end
end
section
theorem nextU_good {s : List UInt8} (hs : s ≠ []) (u : List UInt8) (h : (nextU s).2.2 = 0) : nextU (s ++ u) = nextU s:=nextU_app hs u (by rw [h]; decide)
def chU (s : List UInt8) : List Int:=(rdN nextU 1 s).1
def zai (s : List UInt8) : Bool:=(rdN nextU 1 s).2
theorem zkp : ∀ (n : Nat) (a b : List UInt8),a.length <= n -> zai a = true -> rdN nextU 1 (a ++ b) = (chU a ++ chU b,zai b)
 | 0,a,b,hn,_ => by
  have : a = []:=List.length_eq_zero_iff.1 (by omega);subst this;rfl
 | n + 1,a,b,hn,hv => by
  by_cases ha : a = []
  ·subst ha; rfl
  ·have h1:=zcu a ha;have hab : a ++ b ≠ []:=fun e => ha (List.append_eq_nil_iff.1 e).1;unfold zai at hv;unfold chU;rw [zgq zcu ha] at hv ⊢;split at hv
   ·cases hv
   ·rename_i hc;have h0 : (nextU a).2.2 = 0:=Classical.byContradiction fun e => hc ⟨e,rfl⟩;rw [if_neg hc,zgq zcu hab,nextU_good ha b h0,if_neg hc,List.drop_append_of_le_length h1.2,zkp n _ b (by rw [List.length_drop]; omega) hv];simp [chU]
theorem valid_app {a b : List UInt8} (ha : zai a = true) : zai (a ++ b) = zai b:=by
 have:=zkp a.length a b (Nat.le_refl _) ha;unfold zai at *;rw [this]
theorem ch_app {a b : List UInt8} (ha : zai a = true) : chU (a ++ b) = chU a ++ chU b:=by
 have:=zkp a.length a b (Nat.le_refl _) ha;unfold chU at *;rw [this]
theorem zkc : zai [239,191,189] = true:=by decide +kernel
theorem zeu : zai [] = true:=rfl
end
section
abbrev TxC:=ByteArray -> Option ByteArray
abbrev HdC:=ByteArray -> Option Bool
def findC (T : TxC) (s : ByteArray) : Nat -> Nat -> Option (Nat × ByteArray)
 | _,0 => none
 | i,n + 1 => match T (s.extract 0 (i + 1)) with
  | some t => some (i + 1,t)
  | none => findC T s (i + 1) n
def nextC (T : TxC) (H : HdC) (s : ByteArray) : Nat × ByteArray × Int :=
 match findC T s 0 s.size with
 | some (n,t) => (n,t,0)
 | none => if (H s).getD false = true then (0,.empty,18) else (0,.empty,17)
theorem zl3 {T : TxC} {s : ByteArray} : ∀ (n i : Nat) (r : Nat × ByteArray),findC T s i n = some r -> i < r.1 /\ r.1 <= i + n /\ T (s.extract 0 r.1) = some r.2
 | 0,i,r,h => by cases h
 | n + 1,i,r,h => by
  unfold findC at h;split at h
  ·rename_i t ht
   cases h
   exact ⟨by show i < i + 1; omega,by show i + 1 <= i + (n + 1); omega,ht⟩
  ·have:=zl3 n (i + 1) r h;exact ⟨by omega,by omega,this.2.2⟩
theorem zfz {T : TxC} {H : HdC} {s : ByteArray} (h : (nextC T H s).2.2 = 0) : 0 < (nextC T H s).1 /\ (nextC T H s).1 <= s.size /\ T (s.extract 0 (nextC T H s).1) = some (nextC T H s).2.1:=by
 unfold nextC at h ⊢
 cases hf : findC T s 0 s.size with
 | some r =>
  have:=zl3 _ _ _ hf;obtain ⟨n,t⟩:=r;exact ⟨this.1,by simpa using this.2.1,this.2.2⟩
 | none =>
  rw [hf] at h;simp only at h;split at h <;> cases h
theorem nextC_cases (T : TxC) (H : HdC) (s : ByteArray) : (nextC T H s).2.2 = 0 \/ (nextC T H s).2.2 = 18 \/ (nextC T H s).2.2 = 17:=by
 unfold nextC;split
 ·exact .inl rfl
 ·split
  ·exact .inr (.inl rfl)
  ·exact .inr (.inr rfl)
abbrev badB : List UInt8:=[239,191,189]
def stepC (T : TxC) (H : HdC) : Nat -> ByteArray -> List UInt8 × ByteArray
 | 0,s => ([],s)
 | k + 1,s => if s.size = 0 then ([],s) else if (nextC T H s).2.2 = 0 then
   (bs (nextC T H s).2.1 ++ (stepC T H k (s.extract (nextC T H s).1 s.size)).1,(stepC T H k (s.extract (nextC T H s).1 s.size)).2)
  else if (nextC T H s).2.2 = 18 then ([],s) else (badB ++ (stepC T H k (s.extract 1 s.size)).1,(stepC T H k (s.extract 1 s.size)).2)
theorem zb1 {T : TxC} {H : HdC} {k : Nat} {s : ByteArray} (h : s.size = 0) : stepC T H k s = ([],s):=by
 cases k with
 | zero => rfl
 | succ k => unfold stepC; rw [if_pos h]
theorem zbw (s : ByteArray) (n : Nat) : (s.extract n s.size).size = s.size - n:=by simp
theorem zdo {T : TxC} {H : HdC} : ∀ (k m : Nat) (s : ByteArray),s.size <= k -> s.size <= m -> stepC T H k s = stepC T H m s
 | 0,m,s,hk,_ => by rw [zb1 (by omega),zb1 (by omega)]
 | k + 1,0,s,_,hm => by rw [zb1 (by omega),zb1 (by omega)]
 | k + 1,m + 1,s,hk,hm => by
  by_cases h0 : s.size = 0
  ·rw [zb1 h0,zb1 h0]
  ·unfold stepC;rw [if_neg h0,if_neg h0]
   by_cases h1 : (nextC T H s).2.2 = 0
   ·have:=zfz h1;rw [if_pos h1,if_pos h1,zdo k m (s.extract (nextC T H s).1 s.size) (by rw [zbw]; omega) (by rw [zbw]; omega)]
   ·rw [if_neg h1,if_neg h1]
    by_cases h2 : (nextC T H s).2.2 = 18
    ·rw [if_pos h2,if_pos h2]
    ·rw [if_neg h2,if_neg h2,zdo k m (s.extract 1 s.size) (by rw [zbw]; omega) (by rw [zbw]; omega)]
def stpC (T : TxC) (H : HdC) (s : ByteArray) : List UInt8 × ByteArray:=stepC T H s.size s
section
variable {T : TxC} {H : HdC} {s : ByteArray}
theorem zkm (h : s.size = 0) : stpC T H s = ([],s):=zb1 h
theorem znm (h0 : s.size ≠ 0) (h : (nextC T H s).2.2 = 0) : stpC T H s = (bs (nextC T H s).2.1 ++ (stpC T H (s.extract (nextC T H s).1 s.size)).1,(stpC T H (s.extract (nextC T H s).1 s.size)).2):=by
 have hn:=zfz h;unfold stpC;obtain ⟨k,hk⟩ : ∃ k,s.size = k + 1:=⟨s.size - 1,by omega⟩;rw [hk];show (if s.size = 0 then _ else _) = _;rw [if_neg h0,if_pos h,<- hk,zdo k (s.extract (nextC T H s).1 s.size).size (s.extract (nextC T H s).1 s.size) (by rw [zbw]; omega) (Nat.le_refl _)]
theorem zk9 (h0 : s.size ≠ 0) (h : (nextC T H s).2.2 = 18) : stpC T H s = ([],s):=by
 unfold stpC;obtain ⟨k,hk⟩ : ∃ k,s.size = k + 1:=⟨s.size - 1,by omega⟩;rw [hk];show (if s.size = 0 then _ else _) = _;rw [if_neg h0,if_neg (by rw [h]; decide),if_pos h]
theorem zml (h0 : s.size ≠ 0) (h1 : (nextC T H s).2.2 ≠ 0) (h2 : (nextC T H s).2.2 ≠ 18) : stpC T H s = (badB ++ (stpC T H (s.extract 1 s.size)).1,(stpC T H (s.extract 1 s.size)).2):=by
 unfold stpC;obtain ⟨k,hk⟩ : ∃ k,s.size = k + 1:=⟨s.size - 1,by omega⟩;rw [hk];show (if s.size = 0 then _ else _) = _;rw [if_neg h0,if_neg h1,if_neg h2,<- hk,zdo k (s.extract 1 s.size).size (s.extract 1 s.size) (by rw [zbw]; omega) (Nat.le_refl _)]
end
def GoodT (T : TxC) : Prop:=∀ c t,T c = some t -> zai (bs t) = true /\ t.size <= 200
theorem ze6 {a b : List UInt8} (ha : zai a = true) (hb : zai b = true) : zai (a ++ b) = true:=by rw [valid_app ha]; exact hb
theorem zb6 {T : TxC} {H : HdC} (hT : GoodT T) : ∀ (n : Nat) (s : ByteArray),s.size <= n -> zai (stpC T H s).1 = true /\ (stpC T H s).1.length + 200 * (stpC T H s).2.size <= 200 * s.size
 | 0,s,hn => by
  rw [zkm (by omega)];exact ⟨zeu,by simp⟩
 | n + 1,s,hn => by
  by_cases h0 : s.size = 0
  ·rw [zkm h0];exact ⟨zeu,by simp⟩
  by_cases h1 : (nextC T H s).2.2 = 0
  ·have hk:=zfz h1;have hv:=hT _ _ hk.2.2;have ih:=zb6 (H:=H) hT n (s.extract (nextC T H s).1 s.size) (by rw [zbw]; omega);rw [znm h0 h1];refine ⟨ze6 hv.1 ih.1,?_⟩;have h2:=ih.2;rw [zbw] at h2;have h3 : (bs (nextC T H s).2.1).length = (nextC T H s).2.1.size:=zi _;rw [List.length_append,h3];have h5:=hv.2;have h6:=hk.1;dsimp only at h2 ⊢;omega
  by_cases h2 : (nextC T H s).2.2 = 18
  ·rw [zk9 h0 h2];exact ⟨zeu,by simp⟩
  ·have ih:=zb6 (H:=H) hT n (s.extract 1 s.size) (by rw [zbw]; omega);rw [zml h0 h1 h2];refine ⟨ze6 zkc ih.1,?_⟩;have h3:=ih.2;rw [zbw] at h3;rw [List.length_append];have h4 : badB.length = 3:=rfl;dsimp only at h3 ⊢;omega
def flsC (s : ByteArray) : List UInt8:=if s.size = 0 then [] else badB
theorem zj2 (s : ByteArray) : zai (flsC s) = true:=by
 unfold flsC;split
 ·exact zeu
 ·exact zkc
def runC (T : TxC) (H : HdC) : ByteArray -> List ByteArray -> List UInt8
 | h,[] => flsC h
 | h,s :: l => (stpC T H (h ++ s)).1 ++ runC T H (stpC T H (h ++ s)).2 l
end
section
theorem zdl {many n : Nat} (h : many <= n) (x : Int) (ft : Nat × Nat) (t : List UInt8) : tailU many n x ft t = (x,many,0):=by
 cases t <;> simp [tailU,h]
theorem zdm {many n : Nat} (h : ¬ many <= n) {c : UInt8} (x : Int) {ft : Nat × Nat} (hc : ft.1 <= c.toNat /\ c.toNat <= ft.2) (t : List UInt8) : tailU many n x ft (c :: t) = tailU many (n + 1) (x * 64 + c.toNat % 64) (128,191) t:=by
 show (if many <= n then _ else _) = _;rw [if_neg h,if_neg (by omega)]
theorem lead2 {b : UInt8} (h : 192 <= b.toNat /\ b.toNat < 224) : leadU b = (2,(b.toNat : Int) - 192):=by
 unfold leadU;rw [if_neg (by omega),if_pos h]
theorem lead3 {b : UInt8} (h : 224 <= b.toNat /\ b.toNat < 240) : leadU b = (3,(b.toNat : Int) - 224):=by
 unfold leadU;rw [if_neg (by omega),if_neg (by omega),if_pos h]
theorem lead4 {b : UInt8} (h : 240 <= b.toNat /\ b.toNat < 248) : leadU b = (4,(b.toNat : Int) - 240):=by
 unfold leadU;rw [if_neg (by omega),if_neg (by omega),if_neg (by omega),if_pos h]
theorem lead1 {b : UInt8} (h : b.toNat < 128) : leadU b = (1,(b.toNat : Int)):=by
 unfold leadU;rw [if_pos h]
theorem zi6 {b : UInt8} {x : Nat} (h1 : 128 <= x) (h2 : x <= 191) (ha : b.toNat = 224 -> 160 <= x) (hb : b.toNat = 237 -> x <= 159) (hc : b.toNat = 240 -> 144 <= x) (hd : b.toNat = 244 -> x <= 143) : (za1 b).1 <= x /\ x <= (za1 b).2:=by
 unfold za1;split
 ·exact ⟨ha (by assumption),h2⟩
 split
 ·exact ⟨h1,hb (by assumption)⟩
 split
 ·exact ⟨hc (by assumption),h2⟩
 split
 ·exact ⟨h1,hd (by assumption)⟩
 exact ⟨h1,h2⟩
theorem cons1 {t : List UInt8} (h : 1 < t.length + 1) : ∃ x u,t = x :: u:=by
 match t,h with
 | x :: u,_ => exact ⟨x,u,rfl⟩
theorem cons2 {t : List UInt8} (h : 2 < t.length + 1) : ∃ x y u,t = x :: y :: u:=by
 match t,h with
 | x :: y :: u,_ => exact ⟨x,y,u,rfl⟩
 | [x],h => simp at h
theorem cons3 {t : List UInt8} (h : 3 < t.length + 1) : ∃ x y z u,t = x :: y :: z :: u:=by
 match t,h with
 | x :: y :: z :: u,_ => exact ⟨x,y,z,u,rfl⟩
 | [x,y],h => simp at h
 | [x],h => simp at h
theorem next_of_decode (l : List UInt8) (hl : l ≠ []) (h : ¬ ((Lib.decodeL l).1 = 65533 /\ (Lib.decodeL l).2 = 1)) : (nextU l).2.2 = 0 /\ (nextU l).2.1 = (Lib.decodeL l).2:=by
 rw [Lib.decodeL_N] at h ⊢;match l,hl with
 | b :: t,_ =>
  simp only [List.getD_cons_zero,List.getD_cons_succ,List.length_cons] at h ⊢;have hb:=b.toNat_lt;rw [zbm];unfold Lib.decodeN at h ⊢
  by_cases c1 : b.toNat < 128
  ·rw [if_pos c1] at h ⊢;rw [lead1 c1,if_neg (by simp; omega),zdl (Nat.le_refl _)];exact ⟨rfl,rfl⟩
  rw [if_neg c1] at h ⊢
  by_cases c2 : b.toNat / 32 = 6 /\ (1 < t.length + 1 /\ (t.getD 0 0).toNat / 64 = 2)
  ·rw [if_pos c2] at h ⊢;obtain ⟨x,u,rfl⟩:=cons1 c2.2.1;simp only [List.getD_cons_zero] at h c2 ⊢
   by_cases d : b.toNat % 32 * 64 + x.toNat % 64 ≥ 128
   ·rw [if_pos d] at h ⊢
    have hs : za1 b = (128,191):=by
     unfold za1;rw [if_neg (by omega),if_neg (by omega),if_neg (by omega),if_neg (by omega)]
    rw [lead2 (by omega),if_neg (by simp; omega),zdm (by omega) _ (by rw [hs]; omega),zdl (by omega)];exact ⟨rfl,rfl⟩
   ·rw [if_neg d] at h;exact absurd ⟨rfl,rfl⟩ h
  rw [if_neg c2] at h ⊢
  by_cases c3 : b.toNat / 16 = 14 /\ (1 < t.length + 1 /\ (t.getD 0 0).toNat / 64 = 2) /\ (2 < t.length + 1 /\ (t.getD 1 0).toNat / 64 = 2)
  ·rw [if_pos c3] at h ⊢;obtain ⟨x,y,u,rfl⟩:=cons2 c3.2.2.1;simp only [List.getD_cons_zero,List.getD_cons_succ] at h c3 ⊢;split at h
   ·rename_i d;rw [if_pos d];have hx:=x.toNat_lt;have hy:=y.toNat_lt;rw [lead3 (by omega),if_neg (by simp; omega),zdm (by omega) _ (zi6 (by omega) (by omega) (by omega) (by omega) (by omega) (by omega)),zdm (by omega) _ (by show 128 <= _ /\ _ <= 191; omega),zdl (by omega)];exact ⟨rfl,rfl⟩
   ·exact absurd ⟨rfl,rfl⟩ h
  rw [if_neg c3] at h ⊢
  by_cases c4 : b.toNat / 8 = 30 /\ (1 < t.length + 1 /\ (t.getD 0 0).toNat / 64 = 2) /\ (2 < t.length + 1 /\ (t.getD 1 0).toNat / 64 = 2) /\ (3 < t.length + 1 /\ (t.getD 2 0).toNat / 64 = 2)
  ·rw [if_pos c4] at h ⊢;obtain ⟨x,y,z,u,rfl⟩:=cons3 c4.2.2.2.1;simp only [List.getD_cons_zero,List.getD_cons_succ] at h c4 ⊢;split at h
   ·rename_i d;rw [if_pos d];have hx:=x.toNat_lt;have hy:=y.toNat_lt;have hz:=z.toNat_lt;rw [lead4 (by omega),if_neg (by simp; omega),zdm (by omega) _ (zi6 (by omega) (by omega) (by omega) (by omega) (by omega) (by omega)),zdm (by omega) _ (by show 128 <= _ /\ _ <= 191; omega),zdm (by omega) _ (by show 128 <= _ /\ _ <= 191; omega),zdl (by omega)];exact ⟨rfl,rfl⟩
   ·exact absurd ⟨rfl,rfl⟩ h
  rw [if_neg c4] at h;exact absurd ⟨rfl,rfl⟩ h
theorem zf9 : ∀ (n : Nat) (l : List UInt8),l.length <= n -> Lib.validGoD n l = true -> zai l = true
 | 0,l,hn,_ => by
  have : l = []:=List.length_eq_zero_iff.1 (by omega);subst this;rfl
 | n + 1,l,hn,h => by
  unfold Lib.validGoD at h
  by_cases hl : l = []
  ·subst hl; rfl
  ·rw [if_neg hl] at h;split at h
   ·cases h
   ·rename_i hc;obtain ⟨h1,h2⟩:=next_of_decode l hl hc;have hp:=Lib.decodeL_width l;have hr:=zf9 n (l.drop (Lib.decodeL l).2) (by rw [List.length_drop]; omega) h;unfold zai at hr ⊢;rw [zgq zcu hl,if_neg (fun e => e.1 h1),h2];exact hr
theorem valid_of_D {l : List UInt8} (h : Lib.validD l = true) : zai l = true:=zf9 _ _ (Nat.le_refl _) h
end
end Go.Proofs.YtolcabjkbefjgaaGreatDoor
