/- Parts of the proofs, put together by a program. -/
import Derived.Test.YtejhifnjgoclpaaGreatDoorE5
import Derived.PlainAid
import Derived.Test.YtejhifnjgoclpaaGreatDoorRows
import Derived.Outline
import Derived.Below
import Derived.Handy
import Derived.WalkLawsBesides
import Derived.WalkSpells
import Derived.Deep.QuietTactic
import Derived.BigQuiet
import Derived.Deep.RegionHeld3
import Derived.Laws.Externs
set_option linter.unusedVariables false
set_option linter.unusedSimpArgs false
open Nat renaming zero_le->ae3,le_trans->an4
open Int renaming toNat_natCast->ae9
open List renaming drop_eq_getElem_cons->ak7,length_drop->at6
open Option renaming bind_eq_some_iff->at8
namespace Go.Proofs.YtejhifnjgoclpaaGreatDoor
open Go.RowKit
def dE (l:List UInt8) (i:Nat):Nat:=(l.getD i 0).toNat
theorem wE (l:List UInt8) (i:Nat) (h:i<l.length):dE l i=(l[i]).toNat:=by grind[dE]
theorem apK (l:List UInt8) (n i:Nat) (h:i<n):dE (l.take n) i=dE l i:=by grind[dE]
theorem Sw (l:List UInt8) (a b:Nat):(ByteArray.mk l.toArray).extract a b=⟨((l.take b).drop a).toArray⟩:=by apply ByteArray.ext;rw[ByteArray.data_extract];apply Array.toList_inj.1;rw[Array.toList_extract,List.drop_take]
theorem abv (l:List UInt8) (a:Nat):(ByteArray.mk l.toArray).extract a l.length=⟨(l.drop a).toArray⟩:=by rw[Sw,List.take_length]
def ak (p:Nat->Bool) (l:List UInt8) (k:Nat):Nat:=k+((l.drop k).takeWhile λc=> !p c.toNat).length
theorem FP (p:Nat->Bool) (l:List UInt8) (k:Nat):k<=ak p l k:=Nat.le_add_right _ _
theorem rV (p:Nat->Bool) (l:List UInt8) (k:Nat) (h:k<=l.length):ak p l k<=l.length:=by have:=List.Sublist.length_le (List.takeWhile_sublist (λc:UInt8=> !p c.toNat) (l:=l.drop k));rw[at6] at this;unfold ak;omega
theorem Fu (p:Nat->Bool) (l:List UInt8) (k:Nat) (h:k<l.length) (hp:p (dE l k)=true):ak p l k=k:=by unfold ak;rw[ak7 h,List.takeWhile_cons,<-wE l k h,hp];rfl
theorem EV (p:Nat->Bool) (l:List UInt8) (k:Nat) (h:k<l.length) (hp:p (dE l k)=false):ak p l k=ak p l (k+1):=by unfold ak;rw[ak7 h,List.takeWhile_cons,<-wE l k h,hp];simp[if_true];omega
theorem RQ (p:Nat->Bool) (l:List UInt8) (k:Nat) (h:l.length<=k):ak p l k=k:=by unfold ak;rw[List.drop_eq_nil_of_le h];rfl
theorem Xg (p:Nat->Bool) (l:List UInt8) (n:Nat): ∀(k i:Nat),i - k=n->k<=i->i<ak p l k->p (dE l i)=false:=by
 induction n with
 |zero=>
  intro k i h0 h1 h2;obtain rfl:k=i:=by omega
  by_cases D:k<l.length
  · cases hp:p (dE l k)
    · rfl
    · rw[Fu p l k D hp] at h2;omega
  · rw[RQ p l k (by omega)] at h2;omega
 |succ n F=>
  intro k i h0 h1 h2;by_cases D:k<l.length
  · cases hp:p (dE l k)
    · rw[EV p l k D hp] at h2;exact F (k+1) i (by omega) (by omega) h2
    · rw[Fu p l k D hp] at h2;omega
  · rw[RQ p l k (by omega)] at h2;omega
theorem aa0 (p:Nat->Bool) (l:List UInt8) (n:Nat): ∀k,ak p l k - k=n->ak p l k<l.length->p (dE l (ak p l k))=true:=by
 induction n with
 |zero=>
  intro k h0 h2;have h1:=FP p l k;cases hp:p (dE l k)
  · have:=EV p l k (by omega) hp
    have:=FP p l (k+1);omega
  · grind
 |succ n D=>
  intro k h0 h2;have h1:=FP p l k;cases hp:p (dE l k)
  · have e:=EV p l k (by omega) hp
    grind
  · have:=Fu p l k (by omega) hp
    omega
def gA (c:UInt8) (x:Nat):Bool:=x==c.toNat
def bA (c:Nat):Bool:=c==32||c==9
def iO (c:Nat):Bool:=decide (c<33)||decide (126<c)
theorem Aa (t:List UInt8) (k:Nat) (h:k<t.length) (D:bA (dE t k)=false):k<ak bA t k:=by rw[EV _ _ _ h D];have:=FP bA t (k+1);omega
inductive NP where
 |bad (code col:Nat)
 |ok (ws:List (List UInt8)) (cs:List Nat)
def scan (t:List UInt8) (k:Nat) (ws:List (List UInt8)) (cs:List Nat):NP:=
 if h:k<t.length then
  if D:bA (dE t k)=true then scan t (k+1) ws cs
  else
   if ws.length=20\/80<ak bA t k - k then .bad 2 (k+1)
   else
    if ak iO (t.take (ak bA t k)) k<ak bA t k then .bad 1 (ak iO (t.take (ak bA t k)) k+1)
    else scan t (ak bA t k) (ws++[(t.take (ak bA t k)).drop k]) (cs++[k+1])
 else .ok ws cs
termination_by t.length - k
decreasing_by
 · omega
 · have:=Aa t k h (by simpa using D);omega
theorem v8 (t:List UInt8) (k:Nat) (ws:List (List UInt8)) (cs:List Nat) (h: ¬k<t.length):scan t k ws cs=.ok ws cs:=by rw[scan,dif_neg h]
theorem Ex (t:List UInt8) (k:Nat) (ws:List (List UInt8)) (cs:List Nat) (h:k<t.length) (D:bA (dE t k)=true):scan t k ws cs=scan t (k+1) ws cs:=by rw[scan,dif_pos h,dif_pos D]
theorem vW (t:List UInt8) (k:Nat) (ws:List (List UInt8)) (cs:List Nat) (h:k<t.length) (D:bA (dE t k)=false) (F:ws.length=20\/80<ak bA t k - k):scan t k ws cs=.bad 2 (k+1):=by rw[scan,dif_pos h,dif_neg (by simp [D]),if_pos F]
theorem Fy (t:List UInt8) (k:Nat) (ws:List (List UInt8)) (cs:List Nat) (h:k<t.length) (D:bA (dE t k)=false) (F: ¬(ws.length=20\/80<ak bA t k - k)) (J:ak iO (t.take (ak bA t k)) k<ak bA t k):
  scan t k ws cs=.bad 1 (ak iO (t.take (ak bA t k)) k+1):=by
 rw[scan,dif_pos h,dif_neg (by simp [D]),if_neg F,if_pos J]
theorem E1 (t:List UInt8) (k:Nat) (ws:List (List UInt8)) (cs:List Nat) (h:k<t.length) (D:bA (dE t k)=false) (F: ¬(ws.length=20\/80<ak bA t k - k)) (J: ¬ak iO (t.take (ak bA t k)) k<ak bA t k):
  scan t k ws cs=scan t (ak bA t k) (ws++[(t.take (ak bA t k)).drop k]) (cs++[k+1]):=by
 rw[scan,dif_pos h,dif_neg (by simp [D]),if_neg F,if_neg J]
def dw (c:Nat):Bool:=c==10
def me (c:Nat):Bool:=c==35
def bare (l:List UInt8):List UInt8:=l.take (ak me l 0)
def nW (l:List UInt8):NP:=scan (bare l) 0 [] []
structure po where
 no:Nat
 ws:List (List UInt8)
 cs:List Nat
inductive UK where
 |bad (code line col:Nat)
 |ok (ls:List po)
def gI (D:Nat) (rest:List UInt8) (no:Nat) (out:List po):UK:=
 if h:rest=[] then .ok out
 else if D<no then .bad 2 no 0
 else match nW (rest.take (ak dw rest 0)) with
  |.bad c F=>.bad c no F
  |.ok ws cs=>gI D (rest.drop (ak dw rest 0+1)) (no+1) (if ws.length=0 then out else out++[⟨no,ws,cs⟩])
termination_by rest.length
decreasing_by
 have:0<rest.length:=List.length_pos_iff.2 h;rw[at6];omega
theorem E2 (D no:Nat) (out:List po):gI D [] no out=.ok out:=by rw[gI,dif_pos rfl]
theorem KZ (D:Nat) (rest:List UInt8) (no:Nat) (out:List po) (h:rest≠[]) (hm:D<no):gI D rest no out=.bad 2 no 0:=by rw[gI,dif_neg h,if_pos hm]
theorem Li (F:Nat) (rest:List UInt8) (no:Nat) (out:List po) (h:rest≠[]) (hm: ¬F<no) {c D:Nat} (hs:nW (rest.take (ak dw rest 0))=.bad c D):gI F rest no out=.bad c no D:=by rw[gI,dif_neg h,if_neg hm,hs]
theorem LQ (D:Nat) (rest:List UInt8) (no:Nat) (out:List po) (h:rest≠[]) (hm: ¬D<no) {ws:List (List UInt8)} {cs:List Nat} (hs:nW (rest.take (ak dw rest 0))=.ok ws cs):
  gI D rest no out=gI D (rest.drop (ak dw rest 0+1)) (no+1) (if ws.length=0 then out else out++[⟨no,ws,cs⟩]):=by
 rw[gI,dif_neg h,if_neg hm,hs]
theorem aoz (t:List UInt8) (n:Nat): ∀(k:Nat) (ws:List (List UInt8)) (cs:List Nat),t.length - k<=n->ws.length=cs.length->ws.length<=20-> ∀D F,scan t k ws cs=.ok D F->D.length=F.length/\D.length<=20:=by
 induction n with
 |zero=>
  intro k ws cs Y L M D F h;rw[v8 t k ws cs (by omega)] at h
  injection h with h1 h2;subst h1;subst h2;exact⟨L,M⟩
 |succ n U=>
  intro k ws cs Y L M D F h;by_cases hk:k<t.length
  · cases J:bA (dE t k)
    · by_cases N:ws.length=20\/80<ak bA t k - k
      · rw[vW t k ws cs hk J N] at h;cases h
      · by_cases O:ak iO (t.take (ak bA t k)) k<ak bA t k
        · rw[Fy t k ws cs hk J N O] at h;cases h
        · rw[E1 t k ws cs hk J N O] at h;have:=Aa t k hk J;exact U _ _ _ (by omega) (by simp [L]) (by simp;omega) D F h
    · rw[Ex t k ws cs hk J] at h;exact U _ _ _ (by omega) L M D F h
  · rw[v8 t k ws cs hk] at h;injection h with h1 h2;subst h1;subst h2;exact⟨L,M⟩
theorem amU {l:List UInt8} {ws:List (List UInt8)} {cs:List Nat} (h:nW l=.ok ws cs):ws.length=cs.length/\ws.length<=20:=
 aoz _ _ 0 [] [] (Nat.le_refl _) rfl (by simp) ws cs h
end Go.Proofs.YtejhifnjgoclpaaGreatDoor
namespace Go.Proofs.YtejhifnjgoclpaaGreatDoor.Fx
open Go.RowKit
set_option maxRecDepth 1000000
noncomputable section
def mW (l:List UInt8) (c:UInt8):List UInt8×List UInt8×Bool:=(l.take (ak (gA c) l 0),l.drop (ak (gA c) l 0+1),decide (ak (gA c) l 0<l.length))
def kV (l s:List UInt8):Option (List UInt8×List UInt8×Bool):=
 match s with
 |[c]=>if l.length<=9223372036854775807 then some (mW l c) else none
 |_=>none
abbrev hf (x:Int):Int:=IntKind.wrap .i64 ((IntKind.wrap .u64 x).fdiv (2 ^(min (1:Int).toNat (IntKind.bits .u64))))
def rZ (v:Value):Option (Int×Int×Int):=
 match v with
 |.iface t (.agg ⟨[.int .i64 c,.int .i64 l,.int .i64 k]⟩)=>if t=295 then some (c,l,k) else none
 |_=>none
def fa {α β:Type} (B:(α->Option β)->α->Option β):Nat->α->Option β
 |0=>λ_=>none
 |n+1=>B (fa B n)
noncomputable def ou {α β:Type} (B:(α->Option β)->α->Option β) (x:α):Option β:=
 open Classical in if h: ∃n r,fa B n x=some r then fa B h.choose x else none
theorem anT {α β:Type} {B:(α->Option β)->α->Option β} {x:α} {r:β} (h:ou B x=some r): ∃n,fa B n x=some r:=by
 unfold ou at h;split at h
 · grind
 · grind
theorem Tk {α β:Type} {B:(α->Option β)->α->Option β} (F: ∀f g:α->Option β,(∀x r,f x=some r->g x=some r)-> ∀x r,B f x=some r->B g x=some r) {x:α} {r:β} {n:Nat} (h:fa B n x=some r):ou B x=some r:=by
 have step: ∀n x r,fa B n x=some r->fa B (n+1) x=some r:=by
  intro n
  induction n with
  |zero=>intro x r h;cases h
  |succ n D=>intro x r h;exact F _ _ D x r h
 have up: ∀m n x r,fa B n x=some r->fa B (n+m) x=some r:=by
  intro m
  induction m with
  |zero=>grind
  |succ m D=>grind
 have hex: ∃n r,fa B n x=some r:=⟨n,r,h⟩;unfold ou;rw[dif_pos hex];obtain⟨L,J⟩:=hex.choose_spec;have h1:=up hex.choose _ _ _ h;grind
end
end Go.Proofs.YtejhifnjgoclpaaGreatDoor.Fx
namespace Go.Proofs.YtejhifnjgoclpaaGreatDoor
open Go.RowKit
theorem mK {k:IntKind} {a b:Int} (h:a=b):Ending.returned (.int k a)=.returned (.int k b):=by rw[h]
theorem aoF {a b:Bool} (h:a=b):Ending.returned (.bool a)=.returned (.bool b):=by rw[h]
theorem Sn (l:List UInt8) (i:Nat) (h:i<l.length):(ByteArray.mk l.toArray)[i]! =l[i]:=by
 have hs:i<(ByteArray.mk l.toArray).size:=by simpa[ByteArray.size] using h
 rw[getElem!_pos (ByteArray.mk l.toArray) i hs,ByteArray.getElem_eq_getElem_data];simp
theorem TI (c d:UInt8):(d==c)=gA c d.toNat:=by unfold gA;rw[Bool.eq_iff_iff];simp only[beq_iff_eq];exact⟨λh=>by rw[h],λh=>UInt8.toNat_inj.1 h⟩
theorem akL (l:List UInt8) (c:UInt8):firstIdx ⟨l.toArray⟩ c=if ak (gA c) l 0<l.length then(ak (gA c) l 0:Int) else-1:=by
 have hs:(ByteArray.mk l.toArray).size=l.length:=by simp [ByteArray.size]
 unfold firstIdx;rw[hs];by_cases h:ak (gA c) l 0<l.length
 · rw[if_pos h]
   have:(List.range l.length).find? (λi=>(ByteArray.mk l.toArray)[i]! ==c)=some (ak (gA c) l 0):=by
    rw[List.find?_range_eq_some];refine⟨?_,List.mem_range.2 h,λj D=>?_⟩
    · rw[Sn l _ h,TI,<-wE l _ h,aa0 (gA c) l _ 0 rfl h]
    · rw[Sn l j (by omega),TI,<-wE l j (by omega),Xg (gA c) l _ 0 j rfl (ae3 _) D];rfl
   rw[this]
 · rw[if_neg h]
   have:(List.range l.length).find? (λi=>(ByteArray.mk l.toArray)[i]! ==c)=none:=by
    rw[List.find?_eq_none];intro j D;have D:=List.mem_range.1 D;rw[Sn l j D,TI,<-wE l j D,Xg (gA c) l _ 0 j rfl (ae3 _) (by have:=rV (gA c) l 0 (by omega);omega)]
    simp
   rw[this]
theorem WU (l:List UInt8) (c:UInt8) (w:World):(callFunc 446 #[.string ⟨l.toArray⟩,.int .u8 c.toNat]).run Tryz.prog w=.ok (.value (.int .i64 (if ak (gA c) l 0<l.length then(ak (gA c) l 0:Int) else-1))) w:=by
 have h:=run_callFunc_extern (P:=Tryz.prog) (f:=446) Tryz.func446 (by kernel_rfl) (by kernel_rfl) (by kernel_rfl) (e:=Extern.BytealgIndexByte.indexByte) (by kernel_rfl) #[.string ⟨l.toArray⟩,.int .u8 c.toNat] w
 rw[h,run_indexByte_string];show Result.ok (Next.value (Value.int .i64 (firstIdx ⟨l.toArray⟩ _))) w=_;have e:(c.toNat:Int).toNat.toUInt8=c:=by simp
 rw[e,akL]
theorem amG {a b c d:ByteArray} {x y:Bool} (h1:a=c) (h2:b=d) (D:x=y):Ending.returned (.tuple #[.string a,.string b,.bool x])=.returned (.tuple #[.string c,.string d,.bool y]):=by rw[h1,h2,D]
set_option maxHeartbeats 400000 in
theorem arQ (l:List UInt8) (c:UInt8) (w:World) (hl:l.length<=9223372036854775807) (h:Hid (¬ak (gA c) l 0<l.length)):
  Calls Tryz.prog 233 #[.string ⟨l.toArray⟩,.string ⟨#[c]⟩] w λe w'=>e=.returned (.tuple #[.string ⟨l.toArray⟩,.string ⟨#[]⟩,.bool false])/\w=w':=by
 have hne:([c]==l)=false:=by rw[beq_eq_false_iff_ne];rintro rfl;refine h.out ?_;rw[Fu _ _ _ (by simp) (by unfold gA dE;simp)];simp
 have hix: ∀w:World,(callFunc 446 #[.string ⟨l.toArray⟩,.int .u8 (((ByteArray.mk #[c])[0]'(by simp [ByteArray.size])).toNat:Int)]).run Tryz.prog w=_:=WU l c
 rw[if_neg h.out] at hix
 go_enter Tryz.func233,Tryz.ntmps233
 go_wp2
 go_ret3
 exact⟨rfl,rfl⟩
set_option maxHeartbeats 400000 in
theorem aqY (l:List UInt8) (c:UInt8) (k:Nat) (w:World) (hl:l.length<=9223372036854775807) (hk:Hid (ak (gA c) l 0=k)) (h:k<l.length):
  Calls Tryz.prog 233 #[.string ⟨l.toArray⟩,.string ⟨#[c]⟩] w λe w'=>e=.returned (.tuple #[.string ⟨(l.take k).toArray⟩,.string ⟨(l.drop (k+1)).toArray⟩,.bool true])/\ ∃m,w'=w.drewN m:=by
 have hix: ∀w:World,(callFunc 446 #[.string ⟨l.toArray⟩,.int .u8 (((ByteArray.mk #[c])[0]'(by simp [ByteArray.size])).toNat:Int)]).run Tryz.prog w=_:=WU l c
 rw[hk.out,if_pos h] at hix;have HX1:=Lib.hid (Sw l 0 k);have HX2:=Lib.hid (abv l (k+1));have f1:(0:Int)<=(k:Int):=by omega
 have f2:(k:Int)<=(l.length:Int):=by omega
 have f3:(k:Int)+1<=(l.length:Int):=by omega
 have f4:(0:Int)<=(k:Int)+1:=by omega
 have f5:((k:Int)+1).toNat=k+1:=by omega
 by_cases he:[c]=l
 · subst he;have hk0:k=0:=by simp at h;omega
   subst hk0
   go_enter Tryz.func233,Tryz.ntmps233
   go_wp2
   go_quiet (fail)
   go_wp2
   go_ret3
   exact⟨rfl,_,rfl⟩
 · have hne:([c]==l)=false:=beq_eq_false_iff_ne.2 he
   go_enter Tryz.func233,Tryz.ntmps233
   go_wp2
   go_quiet (fail)
   go_wp2
   go_ret3
   exact⟨amG HX1.out HX2.out rfl,_,rfl⟩
end Go.Proofs.YtejhifnjgoclpaaGreatDoor
namespace Go.Proofs.YtejhifnjgoclpaaGreatDoor.Fx
open Go.RowKit
set_option maxRecDepth 1000000
noncomputable section
def mkRec {P:Program} (G:List (dh P)) (F:List (Nat×bE)) (f:FuncId) (aF:Shape) (outs:List (Bool×Shape)) {A:Type} (g:JU outs->A) (h:A->JU outs) (L: ∀o,h (g o)=o) (B:(cv aF->Option A)->cv aF->Option A) (fm:pB aF outs=true)
  (J: ∀(rc:cv aF->Option A) (ok: ∀(R:Type) (x:cv aF) (k:JU outs->Option R) (y:R),((rc x).bind λr=>k (h r))=some y-> ∃o,k o=some y/\fo P f ((mkD aF x).sl.map (·.2)) (mkD aF x).hp (mQ outs o)) (x:cv aF),
   A7 P (⟨f,aF,outs,λR x k=>(rc x).bind λr=>k (h r),fm,ok⟩::G) F f aF outs g x=B rc x):dh P:=
 ⟨f,aF,outs,λR x k=>(ou B x).bind λr=>k (h r),fm,λR x k y D=>by
  have main: ∀n (x:cv aF) r,fa B n x=some r->fo P f ((mkD aF x).sl.map (·.2)) (mkD aF x).hp (mQ outs (h r)):=by
   intro n
   induction n with
   |zero=>intro x r h;cases h
   |succ n O=>
    intro x r N;have ok: ∀(R:Type) (x:cv aF) (k:JU outs->Option R) (y:R),((fa B n x).bind λr=>k (h r))=some y-> ∃o,k o=some y/\fo P f ((mkD aF x).sl.map (·.2)) (mkD aF x).hp (mQ outs o):=λR x k y D=>by obtain⟨r,h1,h2⟩:=at8.1 D;exact⟨h r,h2,O x r h1⟩
    exact aaQ fm L ((J (fa B n) ok x).trans N)
  obtain⟨r,h1,h2⟩:=at8.1 D;obtain⟨n,M⟩:=anT h1;exact⟨h r,h2,main n x r M⟩⟩
def mkB {P:Program} (f:FuncId) (aF:Shape) (outs:List (Bool×Shape)) {A:Type} (g:A->JU outs) (D:cv aF->Option A) (fm:pB aF outs=true) (h: ∀x r,D x=some r->fo P f ((mkD aF x).sl.map (·.2)) (mkD aF x).hp (mQ outs (g r))):dh P:=
 ⟨f,aF,outs,λR x k=>(D x).bind λr=>k (g r),fm,λR x k y F=>by obtain⟨r,h1,h2⟩:=at8.1 F;exact⟨g r,h2,h x r h1⟩⟩
theorem Conc.hand {E:cQ} {c:Cx} {h:Hp} {w:World} (hC:Conc E c h w):Conc (dW w c h) c h w:=
 ⟨hC.obj,hC.inj,hC.jX,hC.lt,dW.nE hC.inj hC.jX (λk b e=>⟨λq=>by subst q;exact hC.a3K e,hC.blt e⟩) hC.Oz,λ_ _ h=>h,λ_ _ h=>.inl h,λk b e=>dW.own e,Ext.refl _ _,λk o e=>by
  have e:(if 1000<=k/\k<3000 then h k else none)=some o:=e
  split at e<;>try (cases e;done)
  rename_i D;exact⟨D,o,e,(OL.refl false _ _).pl⟩⟩
theorem Conc.leave {E:cQ} {c c':Cx} {h h':Hp} {w w':World} (hC:Conc E c h w) (D:Conc (dW w c h) c' h' w'):Conc E c' h' w':=by
 have O: ∀b,(dW w c h).F b->E.F b\/E.w.heap.size<=b:=λb ⟨k,h1,hk⟩=>hC.fr h1 hk;refine⟨D.obj,D.inj,D.jX,D.lt,hC.nE,λb i h=>D.le b i (hC.le b i h),λb i h=>?_,λk b h1=>?_,hC.ext.trans D.ext λb h1 h2=>?_,λk o e=>?_⟩
 · rcases D.new b i h with h |h |h
   · exact hC.new b i h
   · exact .inr (.inl (an4 hC.ext.size h))
   · grind
 · rcases D.own k b h1 with⟨h,U,h2,J⟩ |⟨h,q |q⟩
   · rcases hC.own U b J with⟨_,q⟩ |⟨q,_⟩
     · exact .inl ⟨h,q⟩
     · grind
   · exact .inr ⟨h,O b q⟩
   · exact .inr ⟨h,.inr (an4 hC.ext.size q)⟩
 · grind
 · obtain⟨L,M,h1,h2⟩:=hC.fV k o e;obtain⟨_,Y,J,N⟩:=D.fV k M (by show(if 1000<=k/\k<3000 then h k else none)=some M;rw[if_pos L];exact h1)
   exact⟨L,Y,J,h2.trans N⟩
theorem Conc.df {E:cQ} {c:Cx} {h:Hp} {w:World} (d:List Deferred) (q:Conc E c h w):Conc {E with df:=d} c h w:=
 ⟨q.obj,q.inj,q.jX,q.lt,q.nE,q.le,q.new,q.own,q.ext,q.fV⟩
theorem fo.pure {P:Program} {f:FuncId} {args:List DS} {r:DS} (h: ∀(A:Nat->Nat->Prop) (w:World) (vals:List Value),(∀b i,A b i->b<w.heap.size)->TabOk w.heap[tabB]? ->ay (SR ⟨λ_=>undef,A⟩ eU w) vals args->
  Calls P f vals.toArray w λe w'=> ∃v D,e=.returned v/\iB w w'/\(∀b i,A b i->D b i)/\(∀b i,D b i->A b i\/(w.heap.size<=b/\b<w'.heap.size))/\SR ⟨λ_=>undef,D⟩ eU w' v r):fo P f args [] (.ret r []):=by
 intro c w vals hC M
 have F: ∀{c c':Cx} {w:World},c.A=c'.A-> ∀u x,CR c eU w u x->CR c' eU w u x:=λ{c c' w} e u x hu=>by
  cases x with
  |ow k g p=>obtain⟨_,_,e,_⟩:=hu;cases e
  |ptr k i=>obtain⟨_,_,e,_⟩:=hu;cases e
  |_=>unfold CR at hu⊢;rw[<-e];omega
 refine(h c.A w vals hC.lt hC.Oz (M.mono λu x q=>SR.imp (F (c:=c) (c':=⟨λ_=>undef,c.A⟩) rfl) q)).mono ?_;rintro e w' ⟨v,D,rfl,J,h1,h2,L⟩;obtain⟨N,_⟩:=hC.Gw J D h1 h2;exact⟨⟨c.m,D⟩,v,rfl,N,SR.imp (F (c:=⟨λ_=>undef,D⟩) (c':=⟨c.m,D⟩) rfl) L⟩
theorem fo.run {P:Program} {f:FuncId} {args:List DS} {r:DS} (hf:fo P f args [] (.ret r [])) {A:Nat->Nat->Prop} {w:World} {vals:List Value} (F: ∀b i,A b i->b<w.heap.size) (J:TabOk w.heap[tabB]?) (L:ay (SR ⟨λ_=>undef,A⟩ eU w) vals args):
  Calls P f vals.toArray w λe w'=> ∃v c',e=.returned v/\iB w w'/\SR c' eU w' v r:=by
 have D: ∀k b,¬Bl ⟨λ_=>undef,A⟩ eU k b:=λk b ⟨⟨o,e⟩,_⟩=>by cases e
 have hC:Conc (dW w ⟨λ_=>undef,A⟩ eU) ⟨λ_=>undef,A⟩ eU w:=⟨λk o e=>(by cases e),λk M b e=>(D _ _ e).elim,λk b i e=>(D _ _ e).elim,F,dW.nE (λk M b e=>(D _ _ e).elim) (λk b i e=>(D _ _ e).elim) (λk b e=>(D _ _ e).elim) J,λ_ _ q=>q,λ_ _ q=>.inl q,λk b e=>(D _ _ e).elim,Ext.refl _ _,λk o e=>by
  have e:(if 1000<=k/\k<3000 then none else none)=some o:=e
  split at e<;>cases e⟩
 refine(hf ⟨λ_=>undef,A⟩ w vals hC L).mono ?_;rintro e w' ⟨c',v,rfl,g1,g2⟩;exact⟨v,c',rfl,g1.ext.mono λb ⟨k,_,q⟩=>D _ _ q,g2⟩
theorem jH {c:Cx} {h:Hp} {w:World} (p:ByteArray):CR c h w (.string p) (.v .str p.data.toList):=⟨rfl,by show Value.string ⟨p.data.toList.toArray⟩=.string p;simp⟩
def OH:List (Sum DC (List DC))->Option (List Value)
 |[]=>some []
 |x::r=>match vl (VA x),OH r with|some v,some l=>some (v::l) |_,_=>none
def OI:DS->Option Value
 |.fk l=>match OH l with|some l=>some (.tuple l.toArray) |none=>none
 |x=>vl x
def H3:List DS->Option (List Value)
 |[]=>some []
 |x::r=>match vl x,H3 r with|some v,some l=>some (v::l) |_,_=>none
section
variable {c:Cx} {h:Hp} {w:World}
theorem aaA {x:DC} {v:Value} (e:sy x=some v):CR c h w v x:=by unfold sy at e;split at e<;>first |(cases e;done) |(cases e;first |exact rfl |exact⟨rfl,rfl⟩)
theorem Sx: ∀{l:List DC} {vs:List Value},fF l=some vs->ay (CR c h w) vs l
 |[],_,e=>by cases e;exact .nil
 |x::r,_,e=>by
  unfold fF at e;split at e<;>try (cases e;done)
  cases e;exact .cons (aaA (by omega)) (Sx (by omega))
theorem FZ {x:DS} {v:Value} (e:vl x=some v):SR c h w v x:=by
 unfold vl at e;split at e
 · exact aaA e
 · split at e<;>try (cases e;done)
   cases e;exact⟨_,rfl,Sx (by omega)⟩
 · grind
theorem aqS {x:DS} {v:Value} (e:OI x=some v):SR c h w v x:=by
 have key: ∀{l:List (Sum DC (List DC))} {vs:List Value},OH l=some vs->ay (UR c h w) vs l:=by
  intro l
  induction l with
  |nil=>intro vs e;cases e;exact .nil
  |cons x r J=>
   intro vs e;unfold OH at e;split at e<;>try (cases e;done)
   rename_i F D;cases e;have:=FZ (c:=c) (h:=h) (w:=w) F;exact .cons (by cases x<;>exact this) (J D)
 unfold OI at e;split at e
 · split at e<;>try (cases e;done)
   cases e;exact⟨_,rfl,key (by omega)⟩
 · exact FZ e
theorem TP: ∀{l:List DS} {vs us:List Value},H3 l=some vs->ay (SR c h w) us l->us=vs
 |[],_,_,e,.nil=>Option.some.inj e
 |x::r,_,_,e,.cons h1 h2=>by
  unfold H3 at e;split at e<;>try (cases e;done)
  rename_i F D;injection e with e;rw[<-e,sc h1 F,TP D h2]
end
theorem abq {P:Program} {f:FuncId} {args:List DS} {d:DS} (xs:List Value) (r:Value) (D:H3 args=some xs) (J:OI d=some r) (h: ∀w,TabOk w.heap[tabB]? ->Calls P f xs.toArray w λe w'=>e=.returned r/\Below w.heap.size w w'):fo P f args [] (.ret d []):=
 fo.pure λA w vals _ L M=>by obtain rfl:=TP D M;exact(h w L).mono (by rintro e w' ⟨rfl,F⟩;exact⟨_,A,rfl,iB.tO F,λ_ _ h=>h,λ_ _ h=>.inl h,aqS J⟩)
theorem wM {P:Program} {f:FuncId} {args:List DS} {d:DS} (xs:List Value) (r:Value) (D:H3 args=some xs) (F:OI d=some r) (h: ∀w,Calls P f xs.toArray w λe w'=>e=.returned r/\Below w.heap.size w w'):fo P f args [] (.ret d []):=abq xs r D F λw _=>h w
theorem QI {w w':World} (h:w=w'):Below w.heap.size w w':=by subst h;exact Below.refl _ _
theorem As {α β:Type} {R:α->β->Prop} {l:List α} {a:β} (h:ay R l [a]): ∃x,l=[x]/\R x a:=by
 cases h with
 |cons h t=>cases t;grind
theorem apV {α β:Type} {R:α->β->Prop} {l:List α} {a b:β} (h:ay R l [a,b]): ∃x y,l=[x,y]/\R x a/\R y b:=by
 cases h with
 |cons h t=>obtain⟨y,rfl,h2⟩:=As t;grind
end
end Go.Proofs.YtejhifnjgoclpaaGreatDoor.Fx
namespace Go.Proofs.YtejhifnjgoclpaaGreatDoor
open Go.RowKit
open Go.PlainAid (bt)
theorem aov {α:Type} {P:List α->Prop} (h0:P []) (hs: ∀l c,P l->P (l++[c])) (l:List α):P l:=by
 have h: ∀r:List α,P r.reverse:=by
  intro r
  induction r with
  |nil=>exact h0
  |cons c r D=>rw[List.reverse_cons];exact hs _ c D
 have:=h l.reverse
 rwa [List.reverse_reverse] at this
def dv (c:Nat):Nat:=if 48<=c/\c<=57 then c - 48 else if 97<=c/\c<=102 then c - 87 else 16
def nZ (l:List UInt8):Nat:=l.foldl (λn c=>n*16+dv c.toNat) 0
def mN (l:List UInt8):Bool:=l.all λc=>dv c.toNat<16
def ku (s:ByteArray):Bool:=s.size==16&&mN s.data.toList
def r9 (s:ByteArray):Nat:=if ku s then nZ s.data.toList else 0
def wL (d:Nat):UInt8:=if d<10 then UInt8.ofNat (48+d) else UInt8.ofNat (87+d)
def qR (n k:Nat):List UInt8:=(List.range k).map λi=>wL (n/16 ^(15 - i)%16)
def T9 (n:Nat):List UInt8:=qR n 16
theorem amK (s:ByteArray) (k:Nat) (h:k<s.size):s.data.toList.take (k+1)=s.data.toList.take k++[s[k]]:=by rw[List.take_succ_eq_append_getElem (by simpa using h)];rfl
theorem aci (s:ByteArray) (k:Nat) (h:k<s.size):bt s k=(s[k].toNat:Int):=by unfold bt;rw[dif_pos h]
theorem XB (l:List UInt8) (c:UInt8):nZ (l++[c])=nZ l*16+dv c.toNat:=by simp [nZ]
theorem XC (l:List UInt8) (c:UInt8):mN (l++[c])=(mN l&&decide (dv c.toNat<16)):=by simp [mN]
theorem al5 (n k:Nat):qR n (k+1)=qR n k++[wL (n/16 ^(15 - k)%16)]:=by simp [qR,List.range_succ]
theorem anK (l:List UInt8) (h:mN l=true):nZ l<16 ^l.length:=by
 revert h;refine aov (P:=λl=>mN l=true->nZ l<16 ^l.length) (by simp [nZ]) ?_ l
 intro l c D h;rw[XC] at h;simp at h;have:=D h.1;rw[XB];simp only[List.length_append,List.length_singleton,Nat.pow_succ];omega
theorem akJ (s:ByteArray) (k:Nat) (h:k<s.size) (F: ¬dv s[k].toNat<16):ku s=false:=by
 have:mN s.data.toList=false:=by
  rw[Bool.eq_false_iff];intro D;have:=(List.all_eq_true.1 D) s[k] (by simp [ByteArray.getElem_eq_getElem_data])
  simp at this;omega
 simp [ku,this]
theorem ajR (n k:Nat):(qR n k).length=k:=by simp [qR]
theorem aiD (s:ByteArray) (k:Nat) (hk:k<=15) (D:mN (s.data.toList.take k)=true):nZ (s.data.toList.take k)<1152921504606846976:=by
 have h1:=anK _ D;have h2:(s.data.toList.take k).length<=15:=an4 (List.length_take_le _ _) hk;have F:16 ^(s.data.toList.take k).length<=16 ^15:=Nat.pow_le_pow_right (by decide) h2
 have J:(16:Nat) ^15=1152921504606846976:=by decide
 omega
theorem aal (s:ByteArray) (k:Nat) (hk:k<s.size) (D:mN (s.data.toList.take k)=true) (h:dv (bt s k).toNat<16):
  mN (s.data.toList.take (k+1))=true/\nZ (s.data.toList.take (k+1))=nZ (s.data.toList.take k)*16+dv (bt s k).toNat:=by
 rw[aci s k hk,ae9] at h⊢;rw[amK s k hk,XC,XB,D];simp [h]
theorem apj (s:ByteArray) (k:Nat) (hk:k<s.size) (h: ¬dv (bt s k).toNat<16):r9 s=0/\ku s=false:=by rw[aci s k hk,ae9] at h;have:=akJ s k hk h;simp [r9,this]
theorem apk (s:ByteArray) (D:s.size=16) (F:mN (s.data.toList.take 16)=true):r9 s=nZ (s.data.toList.take 16)/\ku s=true:=by
 have J:s.data.toList.length=16:=D;rw[List.take_of_length_le (by omega)] at F⊢
 have:ku s=true:=by simp [ku,D,F]
 simp [r9,this]
theorem arL (c:Int) (h1:48<=c) (h2:c<=57):dv c.toNat=(c - 48).toNat:=by unfold dv;rw[if_pos (by omega)];omega
theorem arK (c:Int) (h1:97<=c) (h2:c<=102):dv c.toNat=(c - 87).toNat:=by unfold dv;rw[if_neg (by omega),if_pos (by omega)];omega
theorem aqW (c:Int) (h1:c<48\/57<c) (h2:c<97\/102<c):dv c.toNat=16:=by unfold dv;rw[if_neg (by omega),if_neg (by omega)]
theorem al6 (d:Nat) (h:d<10):48+UInt8.ofNat d=wL d:=by unfold wL;rw[if_pos h,UInt8.ofNat_add];rfl
theorem akK (d:Nat) (h: ¬d<10):87+UInt8.ofNat d=wL d:=by unfold wL;rw[if_neg h,UInt8.ofNat_add];rfl
end Go.Proofs.YtejhifnjgoclpaaGreatDoor
