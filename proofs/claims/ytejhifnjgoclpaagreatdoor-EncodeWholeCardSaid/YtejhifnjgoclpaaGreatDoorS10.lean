/- Parts of the proofs, put together by a program. -/
import Derived.Test.YtejhifnjgoclpaaGreatDoorS9
import Derived.PlainAid
set_option linter.unusedVariables false
set_option linter.unusedSimpArgs false
open List renaming drop_eq_getElem_cons->at2,length_drop->au4
namespace Go.Proofs.YtejhifnjgoclpaaGreatDoor
open Go.RowKit
def dE (l:List UInt8) (i:Nat):Nat:=(l.getD i 0).toNat
theorem wE (l:List UInt8) (i:Nat) (h:i<l.length):dE l i=(l[i]).toNat:=by grind[dE]
theorem apK (l:List UInt8) (n i:Nat) (h:i<n):dE (l.take n) i=dE l i:=by grind[dE]
theorem Sw (l:List UInt8) (a b:Nat):(ByteArray.mk l.toArray).extract a b=⟨((l.take b).drop a).toArray⟩:=by apply ByteArray.ext;rw[ByteArray.data_extract];apply Array.toList_inj.1;rw[Array.toList_extract,List.drop_take]
theorem abv (l:List UInt8) (a:Nat):(ByteArray.mk l.toArray).extract a l.length=⟨(l.drop a).toArray⟩:=by rw[Sw,List.take_length]
def ak (p:Nat->Bool) (l:List UInt8) (k:Nat):Nat:=k+((l.drop k).takeWhile fun c=> !p c.toNat).length
theorem FP (p:Nat->Bool) (l:List UInt8) (k:Nat):k<=ak p l k:=Nat.le_add_right _ _
theorem rV (p:Nat->Bool) (l:List UInt8) (k:Nat) (h:k<=l.length):ak p l k<=l.length:=by have:=List.Sublist.length_le (List.takeWhile_sublist (fun c:UInt8=> !p c.toNat) (l:=l.drop k));rw[au4] at this;unfold ak;omega
theorem Fu (p:Nat->Bool) (l:List UInt8) (k:Nat) (h:k<l.length) (hp:p (dE l k)=true):ak p l k=k:=by unfold ak;rw[at2 h,List.takeWhile_cons,<-wE l k h,hp];rfl
theorem EV (p:Nat->Bool) (l:List UInt8) (k:Nat) (h:k<l.length) (hp:p (dE l k)=false):ak p l k=ak p l (k+1):=by unfold ak;rw[at2 h,List.takeWhile_cons,<-wE l k h,hp];simp[if_true];omega
theorem RQ (p:Nat->Bool) (l:List UInt8) (k:Nat) (h:l.length<=k):ak p l k=k:=by unfold ak;rw[List.drop_eq_nil_of_le h];rfl
theorem Xg (p:Nat->Bool) (l:List UInt8) (n:Nat): ∀(k i:Nat),i - k=n->k<=i->i<ak p l k->p (dE l i)=false:=by
 induction n with
 |zero=>
  intro k i h0 h1 h2;obtain rfl:k=i:=by omega
  by_cases D:k<l.length
  · cases hp:p (dE l k)
    · rfl
    · rw[Fu p l k D hp] at h2;omega
  · rw[RQ p l k (by omega)] at h2;omega
 |succ n F=>
  intro k i h0 h1 h2;by_cases D:k<l.length
  · cases hp:p (dE l k)
    · rw[EV p l k D hp] at h2;exact F (k+1) i (by omega) (by omega) h2
    · rw[Fu p l k D hp] at h2;omega
  · rw[RQ p l k (by omega)] at h2;omega
theorem aa0 (p:Nat->Bool) (l:List UInt8) (n:Nat): ∀k,ak p l k - k=n->ak p l k<l.length->p (dE l (ak p l k))=true:=by
 induction n with
 |zero=>
  intro k h0 h2;have h1:=FP p l k;cases hp:p (dE l k)
  · have:=EV p l k (by omega) hp
    have:=FP p l (k+1);omega
  · grind
 |succ n D=>
  intro k h0 h2;have h1:=FP p l k;cases hp:p (dE l k)
  · have e:=EV p l k (by omega) hp
    grind
  · have:=Fu p l k (by omega) hp
    omega
def gA (c:UInt8) (x:Nat):Bool:=x==c.toNat
def bA (c:Nat):Bool:=c==32||c==9
def iO (c:Nat):Bool:=decide (c<33)||decide (126<c)
theorem Aa (t:List UInt8) (k:Nat) (h:k<t.length) (D:bA (dE t k)=false):k<ak bA t k:=by rw[EV _ _ _ h D];have:=FP bA t (k+1);omega
inductive NP where
 |bad (code col:Nat)
 |ok (ws:List (List UInt8)) (cs:List Nat)
def scan (t:List UInt8) (k:Nat) (ws:List (List UInt8)) (cs:List Nat):NP:=
 if h:k<t.length then
  if D:bA (dE t k)=true then scan t (k+1) ws cs
  else
   if ws.length=20\/80<ak bA t k - k then .bad 2 (k+1)
   else
    if ak iO (t.take (ak bA t k)) k<ak bA t k then .bad 1 (ak iO (t.take (ak bA t k)) k+1)
    else scan t (ak bA t k) (ws++[(t.take (ak bA t k)).drop k]) (cs++[k+1])
 else .ok ws cs
termination_by t.length - k
decreasing_by
 · omega
 · have:=Aa t k h (by simpa using D);omega
theorem v8 (t:List UInt8) (k:Nat) (ws:List (List UInt8)) (cs:List Nat) (h: ¬k<t.length):scan t k ws cs=.ok ws cs:=by rw[scan,dif_neg h]
theorem Ex (t:List UInt8) (k:Nat) (ws:List (List UInt8)) (cs:List Nat) (h:k<t.length) (D:bA (dE t k)=true):scan t k ws cs=scan t (k+1) ws cs:=by rw[scan,dif_pos h,dif_pos D]
theorem vW (t:List UInt8) (k:Nat) (ws:List (List UInt8)) (cs:List Nat) (h:k<t.length) (D:bA (dE t k)=false) (F:ws.length=20\/80<ak bA t k - k):scan t k ws cs=.bad 2 (k+1):=by rw[scan,dif_pos h,dif_neg (by simp [D]),if_pos F]
theorem Fy (t:List UInt8) (k:Nat) (ws:List (List UInt8)) (cs:List Nat) (h:k<t.length) (D:bA (dE t k)=false) (F: ¬(ws.length=20\/80<ak bA t k - k)) (J:ak iO (t.take (ak bA t k)) k<ak bA t k):
  scan t k ws cs=.bad 1 (ak iO (t.take (ak bA t k)) k+1):=by
 rw[scan,dif_pos h,dif_neg (by simp [D]),if_neg F,if_pos J]
theorem E1 (t:List UInt8) (k:Nat) (ws:List (List UInt8)) (cs:List Nat) (h:k<t.length) (D:bA (dE t k)=false) (F: ¬(ws.length=20\/80<ak bA t k - k)) (J: ¬ak iO (t.take (ak bA t k)) k<ak bA t k):
  scan t k ws cs=scan t (ak bA t k) (ws++[(t.take (ak bA t k)).drop k]) (cs++[k+1]):=by
 rw[scan,dif_pos h,dif_neg (by simp [D]),if_neg F,if_neg J]
def dw (c:Nat):Bool:=c==10
def me (c:Nat):Bool:=c==35
def bare (l:List UInt8):List UInt8:=l.take (ak me l 0)
def nW (l:List UInt8):NP:=scan (bare l) 0 [] []
structure po where
 no:Nat
 ws:List (List UInt8)
 cs:List Nat
inductive UK where
 |bad (code line col:Nat)
 |ok (ls:List po)
def gI (D:Nat) (rest:List UInt8) (no:Nat) (out:List po):UK:=
 if h:rest=[] then .ok out
 else if D<no then .bad 2 no 0
 else match nW (rest.take (ak dw rest 0)) with
  |.bad c F=>.bad c no F
  |.ok ws cs=>gI D (rest.drop (ak dw rest 0+1)) (no+1) (if ws.length=0 then out else out++[⟨no,ws,cs⟩])
termination_by rest.length
decreasing_by
 have:0<rest.length:=List.length_pos_iff.2 h;rw[au4];omega
theorem E2 (D no:Nat) (out:List po):gI D [] no out=.ok out:=by rw[gI,dif_pos rfl]
theorem KZ (D:Nat) (rest:List UInt8) (no:Nat) (out:List po) (h:rest≠[]) (hm:D<no):gI D rest no out=.bad 2 no 0:=by rw[gI,dif_neg h,if_pos hm]
theorem Li (F:Nat) (rest:List UInt8) (no:Nat) (out:List po) (h:rest≠[]) (hm: ¬F<no) {c D:Nat} (hs:nW (rest.take (ak dw rest 0))=.bad c D):gI F rest no out=.bad c no D:=by rw[gI,dif_neg h,if_neg hm,hs]
theorem LQ (D:Nat) (rest:List UInt8) (no:Nat) (out:List po) (h:rest≠[]) (hm: ¬D<no) {ws:List (List UInt8)} {cs:List Nat} (hs:nW (rest.take (ak dw rest 0))=.ok ws cs):
  gI D rest no out=gI D (rest.drop (ak dw rest 0+1)) (no+1) (if ws.length=0 then out else out++[⟨no,ws,cs⟩]):=by
 rw[gI,dif_neg h,if_neg hm,hs]
theorem aoz (t:List UInt8) (n:Nat): ∀(k:Nat) (ws:List (List UInt8)) (cs:List Nat),t.length - k<=n->ws.length=cs.length->ws.length<=20-> ∀D F,scan t k ws cs=.ok D F->D.length=F.length/\D.length<=20:=by
 induction n with
 |zero=>
  intro k ws cs Z M N D F h;rw[v8 t k ws cs (by omega)] at h
  injection h with h1 h2;subst h1;subst h2;exact⟨M,N⟩
 |succ n Y=>
  intro k ws cs Z M N D F h;by_cases hk:k<t.length
  · cases J:bA (dE t k)
    · by_cases O:ws.length=20\/80<ak bA t k - k
      · rw[vW t k ws cs hk J O] at h;cases h
      · by_cases U:ak iO (t.take (ak bA t k)) k<ak bA t k
        · rw[Fy t k ws cs hk J O U] at h;cases h
        · rw[E1 t k ws cs hk J O U] at h;have:=Aa t k hk J;exact Y _ _ _ (by omega) (by simp [M]) (by simp;omega) D F h
    · rw[Ex t k ws cs hk J] at h;exact Y _ _ _ (by omega) M N D F h
  · rw[v8 t k ws cs hk] at h;injection h with h1 h2;subst h1;subst h2;exact⟨M,N⟩
theorem amU {l:List UInt8} {ws:List (List UInt8)} {cs:List Nat} (h:nW l=.ok ws cs):ws.length=cs.length/\ws.length<=20:=
 aoz _ _ 0 [] [] (Nat.le_refl _) rfl (by simp) ws cs h
end Go.Proofs.YtejhifnjgoclpaaGreatDoor
namespace Go.Proofs.YtejhifnjgoclpaaGreatDoor.Fx
open Go.RowKit
set_option maxRecDepth 1000000
noncomputable section
def mW (l:List UInt8) (c:UInt8):List UInt8×List UInt8×Bool:=(l.take (ak (gA c) l 0),l.drop (ak (gA c) l 0+1),decide (ak (gA c) l 0<l.length))
def kV (l s:List UInt8):Option (List UInt8×List UInt8×Bool):=
 match s with
 |[c]=>if l.length<=9223372036854775807 then some (mW l c) else none
 |_=>none
abbrev hf (x:Int):Int:=IntKind.wrap .i64 ((IntKind.wrap .u64 x).fdiv (2 ^(min (1:Int).toNat (IntKind.bits .u64))))
def rZ (v:Value):Option (Int×Int×Int):=
 match v with
 |.iface t (.agg ⟨[.int .i64 c,.int .i64 l,.int .i64 k]⟩)=>if t=295 then some (c,l,k) else none
 |_=>none
def fa {α β:Type} (B:(α->Option β)->α->Option β):Nat->α->Option β
 |0=>fun _=>none
 |n+1=>B (fa B n)
noncomputable def ou {α β:Type} (B:(α->Option β)->α->Option β) (x:α):Option β:=
 open Classical in if h: ∃n r,fa B n x=some r then fa B h.choose x else none
theorem anT {α β:Type} {B:(α->Option β)->α->Option β} {x:α} {r:β} (h:ou B x=some r): ∃n,fa B n x=some r:=by
 unfold ou at h;split at h
 · grind
 · grind
theorem Tk {α β:Type} {B:(α->Option β)->α->Option β} (F: ∀f g:α->Option β,(∀x r,f x=some r->g x=some r)-> ∀x r,B f x=some r->B g x=some r) {x:α} {r:β} {n:Nat} (h:fa B n x=some r):ou B x=some r:=by
 have step: ∀n x r,fa B n x=some r->fa B (n+1) x=some r:=by
  intro n
  induction n with
  |zero=>intro x r h;cases h
  |succ n D=>intro x r h;exact F _ _ D x r h
 have up: ∀m n x r,fa B n x=some r->fa B (n+m) x=some r:=by
  intro m
  induction m with
  |zero=>grind
  |succ m D=>grind
 have hex: ∃n r,fa B n x=some r:=⟨n,r,h⟩;unfold ou;rw[dif_pos hex];obtain⟨M,J⟩:=hex.choose_spec;have h1:=up hex.choose _ _ _ h;grind
end
end Go.Proofs.YtejhifnjgoclpaaGreatDoor.Fx
