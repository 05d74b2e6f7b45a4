/- Parts of the proofs, put together by a program. -/
import Derived.Test.YtejhifnjgoclpaaGreatDoorE2
import Derived.Laws.StructEq
set_option linter.unusedVariables false
set_option linter.unusedSimpArgs false
open Nat renaming le_refl->ab8,eq_of_beq_eq_true->al2
open Bool renaming and_eq_true->ad0,not_true->ae8,false_eq_true->af7
open List renaming mem_append->ae5,getElem?_eq_getElem->ae6,length_append->ae7,append_nil->ag5,drop_eq_getElem_cons->ak7,length_take->am9,take_append_drop->as0,append_assoc->as2,getElem?_eq_some_iff->as4,length_eq_zero_iff->au1,drop_eq_nil_of_le->au2,drop_zero->au3,getD_eq_getElem?_getD->av4,drop_drop->aw4
open Int renaming toNat_natCast->ae9,toNat_of_nonneg->av2
open Option renaming map_some->at5,isSome_iff_exists->au8
namespace Go.Proofs.YtejhifnjgoclpaaGreatDoor.Fx
open Go.RowKit
set_option maxRecDepth 1000000
noncomputable section
theorem as9 (s:ByteArray): ∀(k i:Nat) (r:List UInt8),s.size - i=k->ByteArray.toList.loop s i r=r.reverse++s.data.toList.drop i:=by
 intro k
 induction k with
 |zero=>
  intro i r h;unfold ByteArray.toList.loop;have:s.data.toList.length<=i:=by have:s.data.toList.length=s.size:=rfl;omega
  rw[if_neg (by omega),au2 this,ag5]
 |succ k J=>
  intro i r h;unfold ByteArray.toList.loop;have F:s.data.toList.length=s.size:=rfl;congr 1;have D:i<s.data.toList.length:=by omega
  rw[ak7 D];have:s.get! i=s.data.toList[i]:=by show s.data[i]! =_;grind
  grind
theorem ata (l:List UInt8):(⟨l.toArray⟩:ByteArray).toList=l:=by simp
theorem abI (a b:List UInt8):(a==b)=decide (a=b):=by grind
def Bn:Nat->Value->Bool
 |0,.int _ _=>true
 |1,.bool _=>true
 |2,.string _=>true
 |_,_=>false
def iu:List Nat->List Value->Bool
 |[],[]=>true
 |k::r,v::q=>Bn k v&&iu r q
 |_,_=>false
def sA:Value->Value->Bool
 |.int k a,.int D b=>decide (k=D)&&(a==b)
 |.bool a,.bool b=>a==b
 |.string a,.string b=>a.toList==b.toList
 |_,_=>false
def Gf:Value->Value->Bool
 |.int k _,.int D _=>decide (k=D)
 |.bool _,.bool _=>true
 |.string _,.string _=>true
 |_,_=>false
def k7:List Value->List Value->Bool
 |[],[]=>true
 |v::r,u::q=>Gf v u&&k7 r q
 |_,_=>false
def gN:List Value->List Value->Bool
 |v::r,u::q=>sA v u&&gN r q
 |_,_=>true
theorem L1: ∀{l:List Nat} {vs:List Value},iu l vs=true->vs.length=l.length:=by
 intro l
 induction l with
 |nil=>intro vs h;cases vs with|nil=>rfl |cons=>cases h
 |cons k r D=>
  intro vs h;cases vs with
  |nil=>cases h
  |cons v q=>simp_all[iu]
theorem Sr: ∀{l r:List Nat} {vs:List Value},iu (l++r) vs=true->iu l (vs.take l.length)=true/\iu r (vs.drop l.length)=true:=by
 intro l
 induction l with
 |nil=>intro r vs h;exact⟨rfl,h⟩
 |cons k t D=>
  intro r vs h;cases vs with
  |nil=>cases h
  |cons v q=>rw[List.cons_append] at h;unfold iu at h;rw[ad0] at h;obtain⟨h1,h2⟩:=D h.2;refine⟨?_,h2⟩;show(Bn k v&&iu t (q.take t.length))=true;grind
theorem KY: ∀(n:Nat) {vs us:List Value},k7 vs us=true->k7 (vs.take n) (us.take n)=true/\k7 (vs.drop n) (us.drop n)=true:=by
 intro n
 induction n with
 |zero=>intro vs us h;exact⟨rfl,h⟩
 |succ n D=>
  intro vs us h;cases vs with
  |nil=>cases us with
   |nil=>grind
   |cons=>cases h
  |cons v r=>cases us with
   |nil=>cases h
   |cons u q=>unfold k7 at h;rw[ad0] at h;obtain⟨h1,h2⟩:=D h.2;exact⟨by show(Gf v u&&k7 _ _)=true;rw[h.1,h1];rfl,h2⟩
theorem aaB: ∀(n:Nat) {vs us:List Value},k7 vs us=true->gN vs us=(gN (vs.take n) (us.take n)&&gN (vs.drop n) (us.drop n)):=by
 intro n
 induction n with
 |zero=>intro vs us h;rfl
 |succ n D=>
  intro vs us h;cases vs with
  |nil=>rfl
  |cons v r=>cases us with
   |nil=>cases h
   |cons u q=>unfold k7 at h;rw[ad0] at h;show(sA v u&&gN r q)=(sA v u&&gN (r.take n) (q.take n)&&gN (r.drop n) (q.drop n));grind
def jP (P:Program) (ty:TypeId) (vs:List Value):Value:=
 match P.underlying ty with
 |some (.struct _)=>.agg vs.toArray
 |some (.array _ _)=>.agg vs.toArray
 |_=>vs.headD undef
theorem ZS {P:Program} {ty:TypeId} {i:TypeInfo} (L:P.info? ty=some i) {d:TypeDesc} (hu:P.underlying ty=some d) (xs:List Value) (off:Nat) (h1:(∀D,d≠.struct D)->(∀n e,d≠.array n e)->i.size=1) (N:off+i.size<=xs.length) (w:World):
  (part ty xs.toArray off).run P w=.ok (jP P ty ((xs.drop off).take i.size)) w:=by
 unfold part jP;rw[hu];have hs:(sizeOf ty).run P w=.ok i.size w:=by simp [Go.sizeOf,typeInfo,L]
 have M:(∀D,d≠.struct D)->(∀n e,d≠.array n e)->xs.toArray[off]? =some (((xs.drop off).take i.size).headD undef):=λa b=>by
  have J:=h1 a b;have F:off<xs.length:=by omega
  rw[J,List.getElem?_toArray,ae6 F,ak7 F];rfl
 cases d with
 |struct D=>simp [Go.isAgg,run_underlying hu,hs]
 |array n e=>simp [Go.isAgg,run_underlying hu,hs]
 |_=>have:=M (λ_ e=>by cases e) (λ_ _ e=>by cases e);simp [Go.isAgg,run_underlying hu,this]
theorem acJ {v:Value} (h:Bn 0 v=true): ∃k n,v=.int k n:=by cases v<;>first |exact⟨_,_,rfl⟩ |cases h
theorem acI {v:Value} (h:Bn 1 v=true): ∃b,v=.bool b:=by cases v<;>first |exact⟨_,rfl⟩ |cases h
theorem acH {v:Value} (h:Bn 2 v=true): ∃s,v=.string s:=by cases v<;>first |exact⟨_,rfl⟩ |cases h
theorem AB {k:Nat} {vs:List Value} (h:iu [k] vs=true): ∃v,vs=[v]/\Bn k v=true:=by
 match vs with
 |[]=>cases h
 |[v]=>simp_all[iu]
 |v::u::r=>simp_all[iu]
theorem aah {P:Program} {f:Nat} {ty:TypeId} {l:List Nat} {d:TypeDesc} (h:jM P f ty=some l) (hu:P.underlying ty=some d) (h1: ∀D,d≠.struct D) (h2: ∀n e,d≠.array n e):l.length=1:=by
 cases f with
 |zero=>grind[jM]
 |succ f=>grind[jM]
theorem eq_arr {P:Program} {d:Nat} {e:TypeId} {n:Nat} (xs D:List Value) (w:World)
  (hp: ∀J:List Value,∀i,i*n+n<=J.length->(part e J.toArray (i*n)).run P w=.ok (jP P e ((J.drop (i*n)).take n)) w)
  (N: ∀i,i*n+n<=xs.length->(Op.equalIn d e (jP P e ((xs.drop (i*n)).take n)) (jP P e ((D.drop (i*n)).take n))).run P w=.ok (gN ((xs.drop (i*n)).take n) ((D.drop (i*n)).take n)) w)
  (hk:k7 xs D=true) (Y:xs.length=D.length): ∀(m s:Nat),(s+m)*n=xs.length->
  ((forIn (List.range' s m) ((none,()):Option Bool×Unit) λi U=>do
   let a<-part e xs.toArray (i*n)
   let b<-part e D.toArray (i*n)
   let q<-Op.equalIn d e a b
   if(!q)=true then pure (.done (some false,())) else pure (.yield (none,())):Sem (Option Bool×Unit)).run P w)=.ok (if gN (xs.drop (s*n)) (D.drop (s*n)) then(none,()) else(some false,())) w:=by
 intro m
 induction m with
 |zero=>
  intro s h;have L:xs.drop (s*n)=[]:=au2 (by grind)
  simp [L,gN]
 |succ m O=>
  intro s h;have hle:s*n+n<=xs.length:=by rw[<-Nat.succ_mul];grind
  rw[List.range'_succ,List.forIn_cons];have F:=aaB n (KY (s*n) hk).2;rw[aw4,aw4,<-Nat.succ_mul] at F;simp only[Sem.run_bind,hp xs s hle,hp D s (by omega),Result.andThen_ok,N s hle]
  cases M:gN ((xs.drop (s*n)).take n) ((D.drop (s*n)).take n) with
  |false=>simp_all
  |true=>rw[M] at F;rw[F];simp only[ae8];exact O (s+1) (by grind)
theorem abt {l:List Nat}: ∀{m:Nat} {vs:List Value},iu (List.replicate m l).flatten vs=true-> ∀i,i<m->iu l ((vs.drop (i*l.length)).take l.length)=true:=by
 intro m
 induction m with
 |zero=>omega
 |succ m F=>
  intro vs h i D;rw[List.replicate_succ] at h;obtain⟨h1,h2⟩:=Sr h;cases i with
  |zero=>grind
  |succ i=>grind[aw4]
theorem aqA (P:Program): ∀f:Nat,(∀ty l,jM P f ty=some l-> ∀d,f<=d-> ∀xs F:List Value,iu l xs=true->iu l F=true->k7 xs F=true-> ∀w,(Op.equalIn d ty (jP P ty xs) (jP P ty F)).run P w=.ok (gN xs F) w)/\
  (∀off U l,jM.A0 P f off U=some l-> ∀d,f<=d-> ∀pre xs F ar:List Value,pre.length=off->ar.length=off->iu l xs=true->iu l F=true->k7 xs F=true-> ∀w,(Op.eqFields d (pre++xs).toArray (ar++F).toArray U).run P w=.ok (gN xs F) w):=by
 intro f
 induction f with
 |zero=>exact⟨λty l h=>(by unfold jM at h;cases h),λoff U l h=>(by unfold jM.A0 at h;cases h)⟩
 |succ f ih=>
  constructor
  · intro ty l h d hd xs F M N hk w;obtain⟨d,rfl⟩: ∃e,d=e+1:=⟨d - 1,by omega⟩
    unfold jM at h;split at h
    · rename_i k hu;cases h;obtain⟨v,rfl,hv⟩:=AB M;obtain⟨u,rfl,an⟩:=AB N;obtain⟨k1,n1,rfl⟩:=acJ hv;obtain⟨k2,n2,rfl⟩:=acJ an;have az:k1=k2:=by simpa[k7,Gf] using hk
      subst az;simp [jP,hu,Op.equalIn,run_underlying hu,gN,sA]
    · rename_i hu;cases h;obtain⟨v,rfl,hv⟩:=AB M;obtain⟨u,rfl,an⟩:=AB N;obtain⟨b1,rfl⟩:=acI hv;obtain⟨b2,rfl⟩:=acI an;simp [jP,hu,Op.equalIn,run_underlying hu,gN,sA]
    · rename_i hu;cases h;obtain⟨v,rfl,hv⟩:=AB M;obtain⟨u,rfl,an⟩:=AB N;obtain⟨b1,rfl⟩:=acH hv;obtain⟨b2,rfl⟩:=acH an;simp [jP,hu,Op.equalIn,run_underlying hu,gN,sA,beq_toListBytes]
    · rename_i U hu;split at h
      · cases h
      · rename_i bp;have hF:P.fieldsOf ty=U:=by unfold Program.fieldsOf;rw[hu]
        have O: ∀L:List Value,jP P ty L=.agg L.toArray:=λL=>by unfold jP;rw[hu]
        rw[O,O,run_equalIn_struct w d ty _ _ (hF▸hu) bp,hF];have:=ih.2 0 U.toList l h d (by omega) [] xs F [] rfl rfl M N hk w
        grind
    · rename_i len e hu;split at h
      · rename_i D i J hi;split at h
        · rename_i Z;cases h;have Z:=al2 Z;have O: ∀L:List Value,jP P ty L=.agg L.toArray:=λL=>by unfold jP;rw[hu]
          have bb:(sizeOf e).run P w=.ok i.size w:=by simp [Go.sizeOf,typeInfo,hi]
          have ah:=L1 M;have a1:=L1 N;have aE:(List.replicate len D).flatten.length=len*D.length:=by simp
          have a8:=eq_arr (P:=P) (d:=d) (e:=e) (n:=D.length) xs F w (λL i' hle=>by
            cases Y:P.underlying e with
            |none=>exfalso;cases f with
             |zero=>unfold jM at J;cases J
             |succ f=>unfold jM at J;rw[Y] at J;cases J
            |some dd=>
             have:=ZS (P:=P) hi Y L (i'*D.length) (λa b=>by rw[Z];exact aah J Y a b) (Z▸hle) w
             rw[Z] at this;exact this)
           (λi' hle=>ih.1 e D J d (by omega) _ _ (by
            rw[ah,aE] at hle;by_cases h0:D.length=0
            · have:D=[]:=au1.1 h0;subst this;simp [iu]
            · refine abt M i' ?_;have:(i'+1)*D.length<=len*D.length:=by rw[Nat.succ_mul];exact hle
              exact Nat.le_of_mul_le_mul_right this (by omega)) (by
            rw[ah,aE] at hle;by_cases h0:D.length=0
            · have:D=[]:=au1.1 h0;subst this;simp [iu]
            · refine abt N i' ?_;have:(i'+1)*D.length<=len*D.length:=by rw[Nat.succ_mul];exact hle
              exact Nat.le_of_mul_le_mul_right this (by omega)) (KY _ (KY _ hk).2).1 w) hk (by omega) len 0 (by rw[ah,aE,Nat.zero_add])
          rw[O,O];simp only[Op.equalIn,Sem.run_bind,run_underlying hu,Result.andThen_ok,bb,Z];rw[Std.Legacy.Range.forIn_eq_forIn_range'];simp only[Std.Legacy.Range.size,Nat.sub_zero,Nat.add_sub_cancel,Nat.div_one];rw[a8,Nat.zero_mul,au3,au3];cases gN xs F<;>simp
        · cases h
      · cases h
    · cases h
  · intro off U l h d hd pre xs F ar hp a6 M N hk w;cases U with
    |nil=>
     unfold jM.A0 at h;cases h;cases xs with
     |nil=>simp [Op.eqFields,gN]
     |cons=>cases M
    |cons g r=>
     unfold jM.A0 at h;split at h
     · rename_i D i J hi;split at h
       · rename_i h1 h2 h3;split at h
         · rename_i q hq;cases h;have h1:=al2 h1;have h2:=al2 h2;have h3:g.name≠ "_" :=of_decide_eq_true h3;obtain⟨bx,b0⟩:=Sr M;obtain⟨b3,b4⟩:=Sr N;have ah:=L1 M;have a1:=L1 N;rw[ae7] at ah a1
           have a7: ∀(pr L:List Value),pr.length=off->D.length<=L.length->(part g.type (pr++L).toArray g.offset).run P w=.ok (jP P g.type (L.take D.length)) w:=λpr L O e2=>by
            cases Y:P.underlying g.type with
            |none=>exfalso;cases f with
             |zero=>unfold jM at J;cases J
             |succ f=>unfold jM at J;rw[Y] at J;cases J
            |some dd=>
             have:=ZS (P:=P) hi Y (pr++L) g.offset (λa b=>by rw[h2];exact aah J Y a b) (by rw[h2,h1,ae7];omega) w
             rw[h1,h2,<-O,List.drop_left] at this;rw[h1,<-O];exact this
           have av:=aaB D.length hk;have az:=KY D.length hk;unfold Op.eqFields;rw[if_pos h3];simp[Sem.run_bind,a7 pre xs hp (by omega),a7 ar F a6 (by omega),Result.andThen_ok,ih.1 g.type D J d (by omega) _ _ bx b3 az.1 w]
           cases hb:gN (xs.take D.length) (F.take D.length) with
           |false=>rw[hb,Bool.false_and] at av;simp [av]
           |true=>
            rw[hb,Bool.true_and] at av;rw[av];simp[ae8,af7,if_false];have:=ih.2 (off+D.length) r q hq d (by omega) (pre++xs.take D.length) (xs.drop D.length) (F.drop D.length) (ar++F.take D.length) (by rw[ae7,am9,hp];omega) (by rw[ae7,am9,a6];omega) b0 b4 az.2 w
            rw[as2,as0,as2,as0] at this;exact this
         · cases h
       · cases h
     · cases h
theorem aqU {c d:DC} {b:Bool} (h:Gx c d=some b): ∃v u,sy c=some v/\sy d=some u/\Gf v u=true/\sA v u=b:=by
 unfold Gx at h;split at h<;>first |(cases h;done) |skip
 · split at h
   · rename_i e;subst e;cases h;exact⟨_,_,rfl,rfl,by simp [Gf],by simp [sA];rfl⟩
   · grind
 all_goals (cases h;refine⟨_,_,rfl,rfl,rfl,?_⟩)
 · rfl
 · rfl
 · rfl
 · rfl
 · rename_i a b;simp[sA,abI]
theorem aqT: ∀{l q:List DC} {b:Bool},Bo l q=some b-> ∃vs us,fF l=some vs/\fF q=some us/\k7 vs us=true/\gN vs us=b:=by
 intro l
 induction l with
 |nil=>intro q b h;cases q with
  |nil=>cases h;exact⟨[],[],rfl,rfl,rfl,rfl⟩
  |cons=>cases h
 |cons c r J=>
  intro q b h;cases q with
  |nil=>cases r<;>cases h
  |cons d q=>
   have go: ∀{a D:Bool},Gx c d=some a->Bo r q=some D->(a&&D)=b-> ∃vs us,fF (c::r)=some vs/\fF (d::q)=some us/\k7 vs us=true/\gN vs us=b:=by intro a D h1 h2 F;obtain⟨v,u,g1,g2,g3,g4⟩:=aqU h1;obtain⟨vs,us,k1,k2,k3,L⟩:=J h2;refine⟨v::vs,u::us,by unfold fF;rw[g1,k1],by unfold fF;rw[g2,k2],by unfold k7;rw[g3,k3];rfl,by unfold gN;rw[g4,L];exact F⟩
   cases r with
   |nil=>grind[Bo]
   |cons e t=>grind[Bo]
theorem aav: ∀{l:List Nat} {q:List DC} {vs:List Value},Gl l q=true->fF q=some vs->iu l vs=true:=by
 intro l
 induction l with
 |nil=>intro q vs h D;cases q with
  |nil=>cases D;rfl
  |cons=>cases h
 |cons k r F=>
  intro q vs h D;cases q with
  |nil=>cases h
  |cons c q=>
   unfold Gl at h;rw[ad0] at h;unfold fF at D;split at D
   · rename_i v J h1 h2;cases D;unfold iu;rw[ad0];refine⟨?_,F h.2 h2⟩;have h0:=h.1;unfold ac9 at h0;split at h0<;>first |(cases h0;done) |(cases h1;rfl)
   · grind
section
variable {R:Type} {y:R}
theorem bL {b:Bool} {k:Option R} (h:only b k=some y):b=true/\k=some y:=by cases b with|true=>exact⟨rfl,h⟩ |false=>cases h
theorem iE {c:Prop} [Decidable c] {k:Option R} (h:J c k=some y):c/\k=some y:=by grind[J]
theorem eG {x:Option DS} {k:DS->Option R} (h:er x k=some y): ∃v,x=some v/\k v=some y:=by
 cases x with
 |none=>cases h
 |some v=>exact⟨v,rfl,h⟩
theorem Y3 {α:Type} {l:List α} {i:Int} {K:α->Option R} (h:(ag l i).bind K=some y): ∃(n:Nat) (x:α),i=n/\l[n]? =some x/\K x=some y:=by grind[ag]
theorem Kt {K:Nat->Option R}: ∀{n:Nat} {i:Int},AH n i K=some y-> ∃q,q<n/\i=(q:Int)/\K q=some y
 |n+1,i,h=>by
  unfold AH at h;split at h
  · grind
  · obtain⟨q,h1,h2⟩:=Kt h;grind
section
variable {P:Program} {ty:TypeId}
theorem rW {agg:Bool} {n:Nat} (h:nB P ty=some (agg,n)) (w:World):(isAgg ty).run P w=.ok agg w/\(sizeOf ty).run P w=.ok n w:=by
 unfold nB at h;split at h
 all_goals first |(cases h;done) |skip
 all_goals
  rename_i i hu D;simp[Prod.mk.injEq] at h;obtain⟨rfl,rfl⟩:=h;refine⟨?_,by simp [Go.sizeOf,typeInfo,D]⟩
 · simp [Go.isAgg,run_underlying hu]
 · simp [Go.isAgg,run_underlying hu]
 · rename_i d h1 h2 hu;cases d<;>first |(exact(h1 _ hu).elim) |(exact(h2 _ _ hu).elim) |simp [Go.isAgg,run_underlying hu]
theorem pd {e:TypeId} {n b:Nat} (h:fU P ty=some (e,n,b)): ∃inf z,P.underlying ty=some (.slice e)/\P.info? e=some inf/\inf.zero=some z/\inf.size=n/\inf.bytes=b/\z.cells.size=n/\0<n:=by grind[fU]
theorem Tw (h:(fU P ty).isSome=true): ∃e n b,fU P ty=some (e,n,b):=by obtain⟨⟨e,n,b⟩,h⟩:=au8.1 h;exact⟨e,n,b,h⟩
theorem ab9 {f off n:Nat} {agg:Bool} (h:HY P ty f=some (off,n,agg)): ∃D d,P.underlying ty=some (.struct D)/\D[f]? =some d/\d.offset=off/\nB P d.type=some (agg,n)/\0<n:=by grind[HY]
theorem add_plain (b i n:Nat):(⟨b,i,none⟩:Addr).add n=⟨b,i+n,none⟩:=by simp[Addr.add]
theorem Ku {f off n:Nat} {agg:Bool} (h:HY P ty f=some (off,n,agg)) (w:World) (b i:Nat):(Instr.fieldAt ty (.pointer (some ⟨b,i,none⟩)) f).run P w=.ok (.pointer (some ⟨b,i+off,none⟩)) w:=by
 obtain⟨J,d,hu,D,h1,h2,L⟩:=ab9 h;have F:n≠0:=by omega
 simp [Instr.fieldAt,run_underlying hu,D,Instr.sureAddr,fieldPlace,(rW h2 w).2,F,add_plain]
theorem Tr {l:List Value} (h:vf P ty=some l) (w:World): ∃z:Value,z.cells.toList=l/\(zeroValue ty).run P w=.ok z w/\ ∃i,P.info? ty=some i/\i.zero=some z:=by
 unfold vf at h;split at h<;>try (cases h;done)
 split at h<;>try (cases h;done)
 rename_i i D _ z F;injection h with h;exact⟨z,h,by simp [zeroValue,typeInfo,D,F],i,D,F⟩
theorem aaj (h:MH P ty=true): ∃e,P.underlying ty=some (.pointer e):=by grind[MH]
theorem FM (h:tY P ty=true):P.underlying ty=some .string:=by grind[tY]
theorem anF (h:Tf P ty=true):P.underlying ty=some .bool:=by grind[Tf]
end
section
variable {c:Cx} {h:Hp} {w:World} {u:Value}
theorem jG {H:aG} {k g:Nat} {o:aX} (e:rowAt H k g=some o):aj H k=some o/\cD o g=some (some (bc o))/\ ∃hs ty wd,cU o=some (hs,ty,wd)/\g=hs.length:=by
 unfold rowAt at e;split at e<;>try (cases e;done)
 all_goals
  split at e<;>try (cases e;done)
  rename_i D;obtain rfl:=al2 D;cases e;exact⟨by assumption,by simp [cD,cU],_,_,_,rfl,rfl⟩
theorem iJ {H:aG} (hs: ∀k o,aj H k=some o->h k=some o) {k g:Nat} {p:PK} {o:aX} (e:rowAt H k g=some o) (D:CR c h w u (.ow k g p)): ∃hs ty wd,cU o=some (hs,ty,wd)/\PV p (bc o) wd (c.m k) u:=by obtain⟨h1,h2,U,ty,wd,N,O⟩:=jG e;obtain⟨_,o',F,D⟩:=D;rw[hs k o h1] at F;cases F;obtain⟨n,J,Y,Z,ah,L,M⟩:=D;rw[h2] at J;cases J;exact⟨_,_,_,L,(M _ rfl).2 rfl⟩
theorem F5 {H:aG} (hs: ∀k o,aj H k=some o->h k=some o) {k i:Nat} {ty:TypeId} {l:List DC} (e:aj H k=some (.var ty l)) (D:CR c h w u (.ptr k i)): ∃b,c.m k=.pointer (some ⟨b,0,none⟩)/\u=.pointer (some ⟨b,i,none⟩):=by obtain⟨_,o',F,D⟩:=D;rw[hs k _ e] at F;cases F;exact D.2
theorem abc {H:aG} (hs: ∀k o,aj H k=some o->h k=some o) {x:DC} (F:Ni H x=true) (D:CR c h w u x): ∃a,u=.pointer (some a):=by
 unfold Ni at F;split at F
 · obtain⟨_,_,_,_,_,_,e⟩:=D;grind
 · obtain⟨b,o,e,_⟩:=D;grind
 · obtain⟨_,b,o,e,_⟩:=D;grind
 · obtain⟨o,e⟩:=au8.1 F;obtain⟨_,_,_,_,_,_,_,_,e⟩:=iJ hs e D;grind
 · obtain⟨o,e⟩:=au8.1 F;obtain⟨_,_,_,_,_,_,_,_,e⟩:=iJ hs e D;grind
 · grind
theorem Zl {x:DC} {b:Bool} (D:MP x=some b) (F:CR c h w u x):u=.bool b:=by
 unfold MP at D;split at D<;>first |(cases D;done) |(cases D)
 · exact F.2.symm
 · exact F
end
theorem arV {k:IntKind} {n:Int} {K:DS->Option R} (h:H7 k n K=some y):K (.c (.v (.int k) (k.wrap n)))=some y:=by
 unfold H7 at h;split at h
 · omega
 · obtain⟨h1,h2⟩:=iE h;rw[Zv h1];omega
def l9 (P:Program) (op:BinOp) (ty:TypeId) (U:Value->Value->Prop) (K:DS->Option R) (y:R):Prop:=
 ∃v,K v=some y/\ ∀u D,U u D-> ∃z,(∀X Y:Operand,∀w,(eqGuard op ty X Y u D).run P w=.ok () w)/\(∀w,(binOp op ty u D).run P w=.ok z w)/\ ∀c h w,SR c h w z v
abbrev Co (a b u D:Value):Prop:=u=a/\D=b
theorem l9.two {P:Program} {op:BinOp} {ty:TypeId} {a b z:Value} {v:DS} {K:DS->Option R} (h:K v=some y) (h1: ∀X Y:Operand,∀w,(eqGuard op ty X Y a b).run P w=.ok () w) (h2: ∀w,(binOp op ty a b).run P w=.ok z w) (F: ∀c h w,SR c h w z v):l9 P op ty (Co a b) K y:=
 ⟨v,h,λu J ⟨e,D⟩=>by subst e;subst D;exact⟨z,h1,h2,F⟩⟩
theorem l9.mono {P:Program} {op:BinOp} {ty:TypeId} {U F:Value->Value->Prop} {K:DS->Option R} (hu: ∀u D,F u D->U u D) (J:l9 P op ty U K y):l9 P op ty F K y:=by obtain⟨v,h1,h2⟩:=J;exact⟨v,h1,λu D q=>h2 u D (hu u D q)⟩
theorem aqF {P:Program} {op:BinOp} {ty:TypeId} {k:IntKind} {a b:Int} {K:DS->Option R} (h:Um op k a b K=some y):l9 P op ty (Co (.int k a) (.int k b)) K y:=by
 have D: ∀X Y:Operand,∀w,(eqGuard op ty X Y (.int k a) (.int k b)).run P w=.ok () w:=λX Y w=>by unfold eqGuard;simp
 cases op<;>simp[Um] at h<;>first |(cases h;done) |skip
 all_goals first
  |exact .two (z:=.int k _) (arV h) D (λw=>by simp [binOp,Op.intArith]) λ_ _ _=>⟨rfl,rfl⟩
  |(obtain⟨h1,h2⟩:=iE h;exact .two (z:=.int k _) h2 D (λw=>by simp [binOp,Op.intDiv,h1]) λ_ _ _=>⟨rfl,rfl⟩)
  |exact .two (z:=.int k _) h D (λw=>by simp [binOp,intBits_and,intBits_or,intBits_xor,intBits_andNot]) λ_ _ _=>⟨rfl,rfl⟩
  |exact .two (z:=.bool _) h D (λw=>by simp [binOp];rfl) λ_ _ _=>⟨rfl,rfl⟩
theorem am1 {P:Program} {op:BinOp} {ty:TypeId} {k D:IntKind} {a b:Int} {K:DS->Option R} (h:Tx op k a b K=some y):l9 P op ty (Co (.int k a) (.int D b)) K y:=by
 cases op<;>simp[Tx] at h<;>first |(cases h;done) |skip
 all_goals
  obtain⟨h1,h2⟩:=iE h;have h0: ¬b<0:=by omega
  exact .two (z:=.int k _) h2 (λX Y w=>by unfold eqGuard;simp) (λw=>by simp [binOp,Op.shift,h0]) λ_ _ _=>⟨rfl,rfl⟩
theorem aob (a b:List UInt8):(⟨a.toArray⟩++⟨b.toArray⟩:ByteArray)=⟨(a++b).toArray⟩:=rfl
theorem ap9 {P:Program} {op:BinOp} {ty:TypeId} {a b:List UInt8} {K:DS->Option R} (h:Ue op a b K=some y):l9 P op ty (Co (.string ⟨a.toArray⟩) (.string ⟨b.toArray⟩)) K y:=by
 have D: ∀X Y:Operand,∀w,(eqGuard op ty X Y (.string ⟨a.toArray⟩) (.string ⟨b.toArray⟩)).run P w=.ok () w:=λX Y w=>by unfold eqGuard;simp
 cases op<;>simp[Ue] at h<;>first |(cases h;done) |skip
 · obtain⟨h1,h2⟩:=iE h;refine .two (z:=.string ⟨(a++b).toArray⟩) h2 D (λw=>?_) λ_ _ _=>⟨rfl,rfl⟩;have hm: ¬((((⟨a.toArray⟩:ByteArray).size+(⟨b.toArray⟩:ByteArray).size:Nat):Int)>IntKind.i64.max):=by simp only[show∀l:List UInt8,(⟨l.toArray⟩:ByteArray).size=l.length from λl=>rfl];simp;omega
   grind[binOp,Op.stringOp,Sem.run_pure,aob]
 all_goals exact .two (z:=.bool _) h D (λw=>by simp [binOp,Op.stringOp,abI]) λ_ _ _=>⟨rfl,rfl⟩
theorem asn {P:Program} {op:BinOp} {ty:TypeId} {k:FloatKind} {a b:Nat} {r:Bool} {K:DS->Option R} (hf:fB op k a b=some r) (h:K (ik r)=some y):l9 P op ty (Co (.float k a) (.float k b)) K y:=by
 refine .two (z:=.bool r) h (λX Y w=>by unfold eqGuard;cases op<;>simp) (λw=>?_) λ_ _ _=>⟨rfl,rfl⟩
 cases op<;>simp[fB] at hf<;>first |(cases hf;done) |(cases hf)
 all_goals (simp [binOp,Op.floatCmp];done)
theorem AS {P:Program} {op:BinOp} {ty:TypeId} {U:Value->Value->Prop} {b:Bool} {C:Bool->DS} {K:DS->Option R} (hC: ∀b c h w,SR c h w (.bool b) (C b)) (he: ∀u D,U u D->(∀op X Y w,(eqGuard op ty X Y u D).run P w=.ok () w)/\(∀w,(Op.equalIn (9999+1) ty u D).run P w=.ok b w)/\
  ∀op,op=.eql\/op=.neq-> ∀w,(binOp op ty u D).run P w=(do let q<-Op.equal ty u D;pure (.bool (if op=.eql then q else !q)):Sem Value).run P w) (h:rB op (λb=>K (C b)) b=some y):l9 P op ty U K y:=by
 cases op<;>simp[rB] at h<;>first |(cases h;done) |skip
 · refine⟨_,h,λu D q=>?_⟩;obtain⟨h1,h2,F⟩:=he u D q;exact⟨.bool b,h1 _,λw=>by rw[F _ (.inl rfl)];simp [show(Op.equal ty u D).run P w=_ from h2 w],hC _⟩
 · refine⟨_,h,λu D q=>?_⟩;obtain⟨h1,h2,F⟩:=he u D q;exact⟨.bool (!b),h1 _,λw=>by rw[F _ (.inr rfl)];simp [show(Op.equal ty u D).run P w=_ from h2 w],hC _⟩
theorem SR.ik (b:Bool) (c:Cx) (h:Hp) (w:World):SR c h w (.bool b) (ik b):=⟨rfl,rfl⟩
theorem SR.oF (b:Bool) (c:Cx) (h:Hp) (w:World):SR c h w (.bool b) (oF b):=rfl
theorem abw {c:Cx} {h:Hp} {w:World} {u v:Value} {x:DC} (D:CR c h w u x) (he:sy x=some v):u=v:=by
 unfold sy at he;split at he<;>first |(cases he;done) |(cases he)
 all_goals first |exact D |exact D.2.symm
theorem AD {c:Cx} {h:Hp} {w:World} {us:List Value} {l:List DC} (F:ay (CR c h w) us l): ∀{vs:List Value},fF l=some vs->us=vs:=by
 induction F with
 |nil=>simp[fF]
 |cons h1 _ L=>
  intro vs he;unfold fF at he;split at he
  · rename_i J D;injection he with he;rw[<-he,abw h1 J,L D]
  · grind
theorem sc {c:Cx} {h:Hp} {w:World} {u v:Value} {x:DS} (D:SR c h w u x) (he:vl x=some v):u=v:=by
 cases x with
 |c x=>exact abw D he
 |agg l=>
  obtain⟨vs,rfl,h1⟩:=D;simp[vl] at he;split at he
  · rename_i J F;injection he with he;rw[<-he,AD h1 F]
  · grind
 |_=>cases he
theorem aq1 {P:Program} {H:aG} {op:BinOp} {ty:TypeId} {x x':DS} {K:DS->Option R} (hc:Ut P H op ty x x' K=some y):l9 P op ty (λu F=> ∃c h w,(∀k o,aj H k=some o->h k=some o)/\SR c h w u x/\SR c h w F x') K y:=by
 have fn: ∀{U:Value->Value->Prop},(∀u F,U u F-> ∃f vs us,u=.func (.func f) vs us/\F=.nilFunc)->M1 P ty=true->rB op (λb=>K (oF b)) false=some y->l9 P op ty U K y:=λhU h1 h2=>by
  unfold M1 at h1;split at h1
  · rename_i he;exact AS SR.oF (λu F q=>by obtain⟨f,vs,us,rfl,rfl⟩:=hU u F q;exact⟨λop X Y w=>by unfold eqGuard;cases op<;>simp,λw=>by unfold Op.equalIn;simp [run_underlying he],λop J w=>by rcases J with rfl |rfl<;>simp [binOp]⟩) h2
  · cases h1
 have M: ∀{t O:Ty} {a:den t} {b:den O} {A B:Value},(∀c h w u,SR c h w u (.c (.v t a))->u=A)->(∀c h w u,SR c h w u (.c (.v O b))->u=B)->l9 P op ty (Co A B) K y->l9 P op ty (λu F=> ∃c h w,(∀k o,aj H k=some o->h k=some o)/\SR c h w u (.c (.v t a))/\SR c h w F (.c (.v O b))) K y:=
  λh1 h2 L=>L.mono λu F ⟨c,h,w,_,e,D⟩=>⟨h1 _ _ _ _ e,h2 _ _ _ _ D⟩
 unfold Ut at hc;split at hc
 · split at hc
   · exact M (λ_ _ _ _ e=>e.2.symm) (λ_ _ _ _ e=>e.2.symm) (am1 hc)
   · split at hc
     · rename_i e;subst e;exact M (λ_ _ _ _ e=>e.2.symm) (λ_ _ _ _ e=>e.2.symm) (aqF hc)
     · cases hc
 · exact M (λ_ _ _ _ e=>e.2.symm) (λ_ _ _ _ e=>e.2.symm) (ap9 hc)
 · split at hc
   · rename_i e;subst e;split at hc
     · exact M (λ_ _ _ _ e=>e.2.symm) (λ_ _ _ _ e=>e.2.symm) (asn (by omega) hc)
     · cases hc
   · cases hc
 · split at hc<;>try (cases hc;done)
   split at hc<;>try (cases hc;done)
   rename_i b ls n L an hg N _ hf;rw[ad0] at hf;obtain⟨vs,us,h1,h2,h3,h4⟩:=aqT L
   have ah: ∀Z:List Value,jP P ty Z=.agg Z.toArray:=λZ=>by
    unfold nB at N;unfold jP;split at N<;>first |(cases N;done) |skip
    · rename_i hu _;rw[hu]
    · rename_i hu _;rw[hu]
   refine AS SR.ik (λu F ⟨c,h,w,_,hu,ar⟩=>?_) hc;obtain⟨aE,rfl,hv⟩:=hu;obtain⟨az,rfl,av⟩:=ar;obtain rfl:=AD hv h1;obtain rfl:=AD av h2;refine⟨λop X Y w=>by unfold eqGuard;cases op<;>simp [hg],λw=>?_,λop J w=>by rcases J with rfl |rfl<;>simp [binOp]⟩
   have:=(aqA P 20).1 ty ls an 10000 (by simp) aE az (aav hf.1 h1) (aav hf.2 h2) h3 w
   rw[ah,ah,h4] at this;exact this
 · obtain⟨h1,h2⟩:=bL hc;exact fn (λu F ⟨c,h,w,_,⟨vs,us,e,_⟩,D⟩=>⟨_,_,_,e,D⟩) h1 h2
 · obtain⟨h1,h2⟩:=bL hc;exact fn (λu F ⟨c,h,w,_,e,D⟩=>⟨_,_,_,e,D⟩) h1 h2
 · obtain⟨h1,h2⟩:=bL hc;obtain⟨e,n,b,h1⟩:=Tw h1;obtain⟨_,_,hu,_⟩:=pd h1;exact AS SR.oF (λu F ⟨c,h,w,_,e,D⟩=>by have e:u=_:=e;have D:F=_:=D;subst e;subst D;exact⟨λop X Y w=>by unfold eqGuard;cases op<;>simp,λw=>by unfold Op.equalIn;simp [run_underlying hu],λop J w=>by rcases J with rfl |rfl<;>simp [binOp]⟩) h2
 · obtain⟨h1,h2⟩:=bL hc;obtain⟨e,he⟩:=aaj h1;exact AS SR.oF (λu F ⟨c,h,w,_,e,D⟩=>by have e:u=_:=e;have D:F=_:=D;subst e;subst D;exact⟨λop X Y w=>by unfold eqGuard;cases op<;>simp,λw=>by unfold Op.equalIn;simp [run_underlying he],λop J w=>by rcases J with rfl |rfl<;>simp [binOp]⟩) h2
 · obtain⟨h1,h2⟩:=bL hc;rw[ad0] at h1;obtain⟨e,he⟩:=aaj h1.1;exact AS SR.oF (λu F ⟨c,h,w,hs,e,D⟩=>by obtain⟨ad,rfl⟩:=abc hs h1.2 e;have D:F=_:=D;subst D;exact⟨λop X Y w=>by unfold eqGuard;cases op<;>simp,λw=>by unfold Op.equalIn;simp [run_underlying he],λop J w=>by rcases J with rfl |rfl<;>simp [binOp]⟩) h2
 · split at hc<;>try (cases hc;done)
   rename_i a b ha L;obtain⟨h1,h2⟩:=bL hc;exact AS SR.ik (λu F ⟨c,h,w,hs,e,D⟩=>by obtain rfl:=Zl ha e;obtain rfl:=Zl L D;exact⟨λop X Y w=>by unfold eqGuard;cases op<;>simp,λw=>by unfold Op.equalIn;simp [run_underlying (anF h1)],λop J w=>by rcases J with rfl |rfl<;>simp [binOp]⟩) h2
 · cases hc
end
def bC (h H:Hp):Hp:=λk=>(H k).or (h k)
abbrev Sub (H:aG) (h:Hp):Prop:= ∀k o,aj H k=some o->h k=some o
theorem bC.self {H:aG} {h:Hp} (hs:Sub H h):bC h (aj H)=h:=by
 funext k;unfold bC;cases e:aj H k with
 |none=>rfl
 |some o=>grind
def St (P:Program) (o:Oper) (σ:cG) (H:aG) (v:DS) (H':aG):Prop:=
 ∀(E:cQ) (c:Cx) (h:Hp) (w:World) (a:Act) (N:Act->World->Prop) (Q:Exit->Act->World->Prop),Conc E c h w->Sub H h->(∀k,aj H k=none->aj H' k≠none->h k=none)->(∀x∈o.op.operands,∀d,bB σ x=some d->SR c h w (a.eval x) d)->
  (∀val w' c',Conc E c' (bC h (aj H')) w'->eN c h w c' (bC h (aj H')) w'->SR c' (bC h (aj H')) w' val v->N (a.put o.dst val) w')->o.wp P a w N Q
theorem St.val {P:Program} {o:Oper} {σ:cG} {H:aG} {v:DS} (F: ∀(E:cQ) (c:Cx) (h:Hp) (w:World) (a:Operand->Value),Conc E c h w->Sub H h->(∀x∈o.op.operands,∀d,bB σ x=some d->SR c h w (a x) d)-> ∃val,(execOp a o).run P w=.ok (.value val) w/\SR c h w val v):St P o σ H v H:=by intro E c h w a N Q hC hs _ J D;obtain⟨val,h1,h2⟩:=F E c h w a.eval hC hs J;unfold Oper.wp;rw[h1];rw[bC.self hs] at D;exact D val w c hC (eN.refl _ _ _) h2
section
variable {R:Type} {y:R} {P:Program} {ty:TypeId} {c:Cx} {h:Hp} {w:World} {E:cQ} {H:aG} {K:DS->Option R}
theorem cell_of {b:Nat} {cs:Array Value} {e:TypeId} {D:Nat×Nat} (h:w.heap[b]? =some (.cells cs e D)) (i:Nat):w.cell? ⟨b,i,none⟩=cs[i]? :=by simp [World.cell?,h]
theorem Conc.RP (hC:Conc E c h w) {k b:Nat} {l:List DC} (F:h k=some (.var ty l)) (hm:c.m k=.pointer (some ⟨b,0,none⟩)) (h0:Nat.beq ty a0i=false):CG c h w (λj v=>w.cell? ⟨b,j,none⟩=some v) l:=by obtain⟨J,cs,h1,h2,D⟩:=hC.obj k _ F;rw[a0G h0] at h2;rw[hm] at h1;injection h1 with h1;injection h1 with h1;cases h1;exact CG.of D λi v L=>by rw[cell_of h2];grind
theorem dZ.cell {e:TypeId} {n m:Nat} {v:Value} {xs:List Value} (L:dZ w e n v m xs) {b l cap:Nat} (D:v=.slice (some ⟨b,0,none⟩) l cap): ∀(i:Nat) u,xs[i]? =some u->w.cell? ⟨b,i,none⟩=some u:=by
 intro i u hu;rcases L with⟨a,_,_,rfl⟩ |⟨g,M,cur,F,h2,_,_,_,J⟩
 · grind
 · rw[F] at D;injection D with D;injection D with D;cases D;rw[cell_of h2];rw[<-J,List.getElem?_take] at hu;split at hu
   · grind
   · grind
theorem nz.row {k:Nat} {o:aX} (D:nz c h w k o) {hs:List (Option Nat)} {wd:Nat} (e:cU o=some (hs,ty,wd)):0<wd/\ ∃xs,dZ w ty wd (c.m k) (bc o) xs/\ay (CR c h w) xs (dM o):=by
 cases o with
 |var=>cases e
 |_=>obtain⟨_,_,_,xs,h1,h2,F,J⟩:=D;grind
theorem Conc.ZH (hC:Conc E c h w) {k b l cap:Nat} {o:aX} (D:h k=some o) {hs:List (Option Nat)} {wd:Nat} (e:cU o=some (hs,ty,wd)) (hm:c.m k=.slice (some ⟨b,0,none⟩) l cap):CG c h w (λj v=>w.cell? ⟨b,j,none⟩=some v) (dM o):=by obtain⟨_,xs,h1,h2⟩:=(hC.obj k o D).row e;exact CG.of h2 (h1.cell hm)
theorem aj8 {agg:Bool} {n:Nat} (hs:nB P ty=some (agg,n)) (J:(agg||n==1)=true) {b i:Nat} {cs:List Value} (D:cs.length=n) (hc: ∀(j:Nat) v,cs[j]? =some v->w.cell? ⟨b,i+j,none⟩=some v):
  (loadVar ty ⟨b,i,none⟩).run P w=.ok (if agg then .agg cs.toArray else cs.headD undef) w:=by
 unfold loadVar;simp[(rW hs w).1];cases agg with
 |true=>
  simp[(rW hs w).2];rw[<-D,run_loadCells_list w _ cs (λj v F=>by rw[add_plain];exact hc j v F)]
  simp
 |false=>
  have h1:n=1:=by grind
  subst h1;obtain⟨v,rfl⟩:=List.length_eq_one_iff.1 D;have h0:=hc 0 v rfl;grind
theorem ZB {agg:Bool} {n i:Nat} {l:List DC} (L:(agg||n==1)=true) (J:i+n<=l.length) {vs:List Value} (F:ay (CR c h w) vs l):SR c h w (if agg then .agg ((vs.drop i).take n).toArray else((vs.drop i).take n).headD undef) (pg agg n l i):=by
 have h1:=(F.drop i).take n;unfold pg;cases agg with
 |true=>exact⟨_,rfl,h1⟩
 |false=>
  have h2:n=1:=by grind
  subst h2
  have e:(l.drop i).take 1=[l.getD i .dead]:=by
   have D:i<l.length:=by omega
   rw[ak7 D,av4,ae6 D];rfl
  rw[e] at h1;generalize(vs.drop i).take 1=q at h1;cases h1 with
  |cons h1 t=>exact h1
theorem wi {agg:Bool} {n:Nat} (hs:nB P ty=some (agg,n)) {b o i:Nat} {l:List DC} (D:((agg||n==1)&&decide (i+n<=l.length))=true) {g:Nat->Value->Prop} (F: ∀j v,g j v->w.cell? ⟨b,o+j,none⟩=some v) (hc:CG c h w g l):
  ∃z,(Instr.loadAt ty (.pointer (some ⟨b,o+i,none⟩))).run P w=.ok z w/\SR c h w z (pg agg n l i):=by
 rw[ad0,decide_eq_true_eq] at D;obtain⟨vs,h1,h2⟩:=hc.list;refine⟨_,?_,ZB D.1 D.2 h1⟩;have hlen:=h1.len;have:=aj8 (w:=w) hs D.1 (b:=b) (i:=o+i) (cs:=(vs.drop i).take n) (by grind) λj v J=>by grind
 simp[Instr.loadAt,Instr.sureAddr,this]
theorem arn {o:aX} {t:Ty} {l:List (den t)} (J:(∃hs e,o=.row hs e t l)\/ ∃hs e q,o=.bI hs e t false l q) {i:Nat} {x:den t} (F:l[i]? =some x): ∃r,(dM o).drop (i*wid t)=cA t x++r:=by
 obtain⟨r,D⟩:=Fk F;rcases J with⟨hs,e,rfl⟩ |⟨hs,e,q,rfl⟩
 · exact⟨r,D⟩
 · have:i*wid t<=(aT t l).length:=by rw[hJ];exact Nat.mul_le_mul_right _ (Nat.le_of_lt (as4.1 F).1)
   exact⟨r++q,by show(aT t l++q).drop _=_;rw[List.drop_append_of_le_length this,D,as2]⟩
def Ij (P:Program) (H:aG) (x:DS) (f:Value->Sem Value) (v:DS):Prop:= ∀E c h w u,Conc E c h w->Sub H h->SR c h w u x-> ∃z,(f u).run P w=.ok z w/\SR c h w z v
theorem ao6 {x:DS} (D:T5 P H ty x K=some y): ∃v,K v=some y/\Ij P H x (Instr.loadAt ty) v:=by
 unfold T5 at D;split at D<;>try (cases D;done)
 · rename_i agg n k i hs;split at D<;>try (cases D;done)
   rename_i F;obtain⟨h1,h2⟩:=bL D;rw[ad0,Bool.not_eq_true'] at h1;obtain⟨h0,h1⟩:=h1;refine⟨_,h2,λE c h w u hC J hu=>?_⟩;obtain⟨b,hm,rfl⟩:=F5 (w:=w) J F hu;have:=wi (P:=P) hs h1 (b:=b) (o:=0) (λj v L=>by rw[Nat.zero_add];exact L) (hC.RP (J _ _ F) hm h0)
   grind
 · rename_i agg n t x i hs;obtain⟨h1,h2⟩:=bL D;refine⟨_,h2,λE c h w u hC J ⟨b,o,e,N⟩=>?_⟩;subst e;rw[<-iR t x] at h1;exact wi (P:=P) hs h1 (λj v L=>L.2) ((CG.tr t).2 N)
 · rename_i agg n t x hs;obtain⟨h1,h2⟩:=bL D;refine⟨_,h2,λE c h w u hC J ⟨_,b,o,e,N⟩=>?_⟩;subst e;rw[<-iR t x] at h1;exact wi (P:=P) hs h1 (λj v L=>L.2) ((CG.tr t).2 N)
 · rename_i agg n k g i j hs
   have key: ∀{o:aX} {t:Ty} {l:List (den t)} {x:den t},rowAt H k g=some o->((∃hs e,o=.row hs e t l)\/ ∃hs e q,o=.bI hs e t false l q)->l[i]? =some x->((agg||n==1)&&decide (j+n<=wid t))=true->Ij P H (.c (.ow k g (.el i j))) (Instr.loadAt ty) (pg agg n (cA t x) j):=by
    intro o t l x F N hx h1 E c h w u hC J hu;obtain⟨ah,e,wd,M,_,b,cap,hm,rfl⟩:=iJ (w:=w) J F hu;have an:wd=wid t:=by rcases N with⟨_,_,rfl⟩ |⟨_,_,_,rfl⟩<;>(injection M with M;simp[Prod.mk.injEq] at M;exact M.2.2.symm)
    subst an;rw[<-iR t x] at h1;obtain⟨r,O⟩:=arn N hx;exact wi (P:=P) hs h1 (λ_ _ L=>L) ((hC.ZH (J _ _ (jG F).1) M hm).part O)
   split at D<;>try (cases D;done)
   · rename_i F;obtain⟨h1,h2⟩:=bL D;grind
   · rename_i hq Z t' U l' q' F;obtain⟨h1,h2⟩:=bL D;obtain⟨h0,h2⟩:=bL h2;obtain⟨x,Y,h4⟩:=Option.bind_eq_some_iff.1 h2;obtain rfl:U=false:=by grind
     grind
 · rename_i agg n k g j hs;split at D<;>try (cases D;done)
   rename_i hq Z t U l last F;obtain⟨h1,h2⟩:=bL D;obtain⟨h0,Y⟩:=bL h2;rw[ad0] at h0;obtain rfl:U=false:=by grind
   refine⟨_,Y,λE c h w u hC J hu=>?_⟩;obtain⟨ah,e,wd,M,_,b,cap,hm,rfl⟩:=iJ (w:=w) J F hu;injection id M with O;simp[Prod.mk.injEq] at O;obtain⟨_,_,rfl⟩:=O;exact wi (P:=P) hs h1 (λ_ _ L=>L) ((hC.ZH (J _ _ (jG F).1) M hm).part (q:=last) (r:=[]) (by show(aT t l++last).drop ((l.length+1 - 1)*wid t)=_;rw[List.drop_append_of_le_length (by rw[hJ];exact ab8 _),au2 (by rw[hJ];exact ab8 _)];simp))
theorem AK {k g:Nat} {p:PK} {o:aX} {u:Value} (M:Sub H h) (L:rowAt H k g=some o) (h1:u.oneCell'=true) (hp: ∀hs e wd,cU o=some (hs,e,wd)->PV p (bc o) wd (c.m k) u):CR c h w u (.ow k g p):=by obtain⟨F,J,hs,e,wd,D,_⟩:=jG L;exact⟨h1,o,M _ _ F,_,J,_,_,_,D,λm hm=>by cases hm;exact⟨ab8 _,λ_=>hp _ _ _ D⟩⟩
theorem ajf {x:DS} {f:Nat} (D:Rb P H ty x f K=some y): ∃v,K v=some y/\Ij P H x (λu=>Instr.fieldAt ty u f) v:=by
 unfold Rb at D;split at D<;>try (cases D;done)
 · rename_i hf;refine⟨_,D,λE c h w u hC F hu=>?_⟩;obtain⟨_,o,N,O,b,hm,rfl⟩:=hu;exact⟨_,Ku hf w b _,rfl,o,N,O,b,hm,rfl⟩
 · rename_i hf;refine⟨_,D,λE c h w u hC F ⟨b,o,e,L⟩=>?_⟩;subst e;exact⟨_,Ku hf w b _,b,o,by rw[Nat.add_assoc],L⟩
 · rename_i hf;refine⟨_,D,λE c h w u hC F ⟨_,b,o,e,L⟩=>?_⟩;subst e;exact⟨_,Ku hf w b _,b,o,rfl,L⟩
 all_goals
  rename_i hf;obtain⟨h0,h1⟩:=bL D;obtain⟨o,M⟩:=au8.1 h0;refine⟨_,h1,λE c h w u hC F hu=>?_⟩;obtain⟨Z,e,wd,Y,U,b,cap,hm,rfl⟩:=iJ (w:=w) F M hu;exact⟨_,Ku hf w b _,AK (w:=w) F M rfl λhs e ah J=>by rw[Y] at J;simp[Prod.mk.injEq] at J;exact⟨U,b,cap,hm,by rw[<-J.2.2,Nat.add_assoc]⟩⟩
theorem int_eq {k:IntKind} {n:Int} {u:Value} (hu:SR c h w u (.c (.v (.int k) n))):u=.int k n:=hu.2.symm
theorem acq (A:Nat->Nat->Prop) (w:World) (b o k:Nat):(λj=>Fz A w b o (k+j))=Fz A w b (o+k):=by grind[Fz,Nat.add_assoc]
theorem aje {x ix:DS} (L:Q7 P H ty x ix K=some y): ∃v,K v=some y/\ ∀E c h w u N,Conc E c h w->Sub H h->SR c h w u x->SR c h w N ix-> ∃z,(Instr.indexAt ty u N).run P w=.ok z w/\SR c h w z v:=by
 have sl: ∀{e:TypeId} {n b':Nat},fU P ty=some (e,n,b')-> ∀{w:World} {b o len cap i:Nat} {kd:IntKind},i<len->(Instr.indexAt ty (.slice (some ⟨b,o,none⟩) len cap) (.int kd i)).run P w=.ok (.pointer (some ⟨b,o+i*n,none⟩)) w:=λhs=>by intro w b o len cap i kd hi;obtain⟨inf,z,hu,az,_,a6,_⟩:=pd hs;simp [Instr.indexAt,asIntOf,run_underlying hu,hi,Nat.not_le.2 hi,Go.sizeOf,typeInfo,az,a6,add_plain]
 have ar: ∀{len n:Nat},arr P ty=some (len,n)-> ∀{w:World} {b o i:Nat} {kd:IntKind},i<len->(Instr.indexAt ty (.pointer (some ⟨b,o,none⟩)) (.int kd i)).run P w=.ok (.pointer (some ⟨b,o+i*n,none⟩)) w:=λU=>by
  intro w b o i kd hi;unfold arr at U;split at U<;>try (cases U;done)
  split at U<;>try (cases U;done)
  rename_i l e hu _ inf az;injection U with U;simp[Prod.mk.injEq] at U;obtain⟨rfl,rfl⟩:=U;simp [Instr.indexAt,asIntOf,run_underlying hu,Instr.sureAddr,hi,Nat.not_le.2 hi,Go.sizeOf,typeInfo,az,add_plain]
 unfold Q7 at L;split at L<;>try (cases L;done)
 · rename_i e n b' t l k i hs;obtain⟨h1,h2⟩:=bL L;obtain⟨m,x,rfl,D,h4⟩:=Y3 h2;refine⟨_,h4,λE c h w u N hC J hu O=>?_⟩;obtain rfl:=int_eq O;obtain⟨_,a,cap,rfl,Y⟩:=hu;rcases Y with rfl |⟨_,_,b,o,rfl,Y⟩
   · cases D
   · have hw:wid t=n:=by grind
     exact⟨_,sl hs (as4.1 D).1,b,o+m*n,rfl,by rw[<-hw,<-acq];exact Y m x D⟩
 · rename_i e n b' k g k' i hs;split at L<;>try (cases L;done)
   · rename_i Z;obtain⟨h1,h2⟩:=bL L;obtain⟨D,h4⟩:=iE h2;refine⟨_,h4,λE c h w u N hC J hu O=>?_⟩;obtain rfl:=int_eq O;obtain⟨a1,e',wd,Y,hm⟩:=iJ (w:=w) J Z hu;obtain⟨_,xs,ah,_⟩:=(hC.obj k _ (J _ _ (jG Z).1)).row Y;obtain⟨i,rfl⟩: ∃j:Nat,i=j:=⟨Int.toNat i,(av2 D.1).symm⟩;have D:=Int.ofNat_lt.1 D.2;rcases ah with⟨_,_,h0,_⟩ |⟨b,cap,cur,F,_⟩
     · simp only[bc] at h0;omega
     · injection id Y with an;simp[Prod.mk.injEq] at an;have hw:=eq_of_beq h1;rw[show u=c.m k from hm,F]
       refine⟨_,sl hs (by simp[bc];omega),AK (w:=w) J Z rfl λhs e aE M=>?_⟩
       rw[Y] at M;simp[Option.some.injEq,Prod.mk.injEq] at M;exact⟨by simp[bc];omega,b,_,F,by simp [<-M.2.2,<-an.2.2,hw]⟩
   · rename_i hq e' t' e0 l q' Z;obtain⟨h1,h2⟩:=bL L;obtain⟨h0,D⟩:=bL h2;obtain⟨D,h4⟩:=iE D;obtain rfl:e0=false:=by grind
     have key: ∀E c h w (u N),Conc E c h w->Sub H h->SR c h w u (.c (.ow k g .all))->SR c h w N (.c (.v (.int k') i))-> ∃b cap,c.m k=.slice (some ⟨b,0,none⟩) (l.length+1) cap/\N=.int k' i.toNat/\(Instr.indexAt ty u N).run P w=.ok (.pointer (some ⟨b,0+i.toNat*wid t',none⟩)) w:=by
      intro E c h w u N hC J hu O;obtain rfl:=int_eq O;obtain⟨a1,e',wd,Y,hm⟩:=iJ (w:=w) J Z hu;obtain⟨_,xs,ah,_⟩:=(hC.obj k _ (J _ _ (jG Z).1)).row Y;obtain⟨i,rfl⟩: ∃j:Nat,i=j:=⟨Int.toNat i,(av2 D.1).symm⟩;have D:=Int.ofNat_le.1 D.2;rcases ah with⟨_,_,h0,_⟩ |⟨b,cap,cur,F,_⟩
      · cases h0
      · have hw:=eq_of_beq h1;rw[show u=c.m k from hm,F,hw]
        exact⟨b,_,rfl,rfl,sl hs (Nat.lt_succ_of_le D)⟩
     cases av:decide (i=l.length) with
     |true=>
      rw[av,cond_true] at h4;refine⟨_,h4,λE c h w u N hC J hu O=>?_⟩;obtain⟨b,cap,F,_,e3⟩:=key E c h w u N hC J hu O;refine⟨_,e3,AK (w:=w) J Z rfl λhs e aE M=>?_⟩;injection M with M;simp[Prod.mk.injEq] at M;have:Int.toNat i=l.length:=by rw[of_decide_eq_true av];exact ae9 _
      exact⟨Nat.succ_pos _,b,_,F,by rw[<-M.2.2,this];simp [bc]⟩
     |false=>rw[av,cond_false] at h4;refine⟨_,h4,λE c h w u N hC J hu O=>?_⟩;obtain⟨b,cap,F,_,e3⟩:=key E c h w u N hC J hu O;refine⟨_,e3,AK (w:=w) J Z rfl λhs e aE M=>?_⟩;injection M with M;simp[Prod.mk.injEq] at M;exact⟨Nat.lt_succ_of_le (Int.toNat_le.2 D.2),b,_,F,by simp [<-M.2.2]⟩
 · rename_i e n b' k g i k' q hs;split at L<;>try (cases L;done)
   rename_i Z;obtain⟨h1,h2⟩:=bL L;obtain⟨D,h4⟩:=iE h2;refine⟨_,h4,λE c h w u N hC J hu O=>?_⟩;obtain rfl:=int_eq O;obtain⟨a1,e',wd,Y,h5,h6,b,cap,hm,rfl⟩:=iJ (w:=w) J Z hu;obtain⟨q,rfl⟩: ∃j:Nat,q=j:=⟨Int.toNat q,(av2 D.1).symm⟩;have D:=Int.ofNat_lt.1 D.2;injection id Y with an;simp[Prod.mk.injEq] at an;have hw:=eq_of_beq h1;obtain⟨_,xs,ah,_⟩:=(hC.obj k _ (J _ _ (jG Z).1)).row Y
   have sx:cap≠i:=by
    rcases ah with⟨_,F,_⟩ |⟨b2,cp,cur,F,_,h7,_⟩
    · rw[hm] at F;injection F with _ F;simp only[bc] at F h6;omega
    · rw[hm] at F;injection F with _ F e2;simp[bc] at h7;omega
   rw[if_neg sx];refine⟨_,sl hs (by simp[bc];omega),AK (w:=w) J Z rfl λhs e aE M=>?_⟩
   rw[Y] at M;simp[Option.some.injEq,Prod.mk.injEq] at M;exact⟨by simp[bc];omega,b,_,hm,by rw[<-M.2.2,<-an.2.2,hw,ae9,Nat.add_mul];simp⟩
 · split at L<;>try (cases L;done)
   rename_i U;obtain⟨q,h1,h2,D⟩:=Kt L;refine⟨_,D,λE c h w u N hC J ⟨b,o,e,ht⟩ O=>?_⟩;subst e;obtain rfl:=int_eq O;rw[h2];exact⟨_,ar U h1,b,o,by rw[Nat.add_assoc],ht⟩
 · split at L<;>try (cases L;done)
   rename_i U;obtain⟨q,h1,h2,D⟩:=Kt L;refine⟨_,D,λE c h w u N hC J hu O=>?_⟩;obtain rfl:=int_eq O;rw[h2];obtain⟨_,o,F,e2,b,hm,rfl⟩:=hu;exact⟨_,ar U h1,rfl,o,F,e2,b,hm,rfl⟩
end
section
variable {R:Type} {y:R} {P:Program} {ty:TypeId} {c:Cx} {h:Hp} {w:World} {E:cQ} {H H':aG} {σ:cG} {K:DS->Option R} {dst:Option Tmp} {ty0:TypeId} {pos:String} {af:Array Edge} {g:Option (Nat×Bool)} {op:Op}
theorem st1 {x:Operand} {d v:DS} {f:Value->Sem Value} (J:bB σ x=some d) (hf:Ij P H d f v) (D:x∈op.operands) (he: ∀(a:Operand->Value) w z,(f (a x)).run P w=.ok z w->(execOp a ⟨dst,op,ty0,pos,af,g⟩).run P w=.ok (.value z) w):St P ⟨dst,op,ty0,pos,af,g⟩ σ H v H:=
 St.val λE c h w a hC hs F=>by obtain⟨z,h1,h2⟩:=hf E c h w _ hC hs (F x D d J);grind
theorem st2 {x x':Operand} {d D v:DS} {f:Value->Value->Sem Value} (N:bB σ x=some d) (O:bB σ x'=some D) (hf: ∀E c h w u J,Conc E c h w->Sub H h->SR c h w u d->SR c h w J D-> ∃z,(f u J).run P w=.ok z w/\SR c h w z v) (L:x∈op.operands) (M:x'∈op.operands)
  (he: ∀(a:Operand->Value) w z,(f (a x) (a x')).run P w=.ok z w->(execOp a ⟨dst,op,ty0,pos,af,g⟩).run P w=.ok (.value z) w):St P ⟨dst,op,ty0,pos,af,g⟩ σ H v H:=
 St.val λE c h w a hC hs F=>by obtain⟨z,h1,h2⟩:=hf E c h w _ _ hC hs (F x L d N) (F x' M D O);grind
theorem aqz {x:DS} (D:Ul P H ty x K=some y): ∃v,K v=some y/\Ij P H x (λu=>Builtin.len_ #[ty] ty0 #[u]) v:=by
 have sl:(fU P ty).isSome=true-> ∀{w:World} {a:Option Addr} {len cap:Nat},(Builtin.len_ #[ty] ty0 #[.slice a len cap]).run P w=.ok (.int .i64 len) w:=λhs=>by obtain⟨e,n,b,hs⟩:=Tw hs;obtain⟨_,_,hu,_⟩:=pd hs;intro w a len cap;simp [Builtin.len_,run_underlying hu,goInt]
 unfold Ul at D;split at D<;>try (cases D;done)
 · obtain⟨h1,h2⟩:=bL D;refine⟨_,h2,λE c h w u hC F hu=>?_⟩;obtain⟨_,a,cap,rfl,_⟩:=hu;exact⟨_,sl h1,rfl,rfl⟩
 · split at D<;>try (cases D;done)
   all_goals
    rename_i J;obtain⟨h1,h2⟩:=bL D;refine⟨_,h2,λE c h w u hC F hu=>?_⟩;obtain⟨Y,N,wd,M,hm⟩:=iJ (w:=w) F J hu;obtain⟨_,xs,U,_⟩:=(hC.obj _ _ (F _ _ (jG J).1)).row M;rw[show u=c.m _ from hm]
    rcases U with⟨a,L,O,_⟩ |⟨b,cap,cur,L,_⟩
    · rw[L];exact⟨_,sl h1,by have:=O;simp[bc] at this;rw[this];exact⟨rfl,rfl⟩⟩
    · rw[L];exact⟨_,sl h1,rfl,rfl⟩
 · split at D<;>try (cases D;done)
   rename_i J;obtain⟨h1,h2⟩:=bL D;refine⟨_,h2,λE c h w u hC F hu=>?_⟩;obtain⟨Y,N,wd,M,_,_,b,cap,_,rfl⟩:=iJ (w:=w) F J hu;exact⟨_,sl h1,rfl,rfl⟩
 · obtain⟨h1,h2⟩:=bL D;refine⟨_,h2,λE c h w u hC F hu=>?_⟩;have hu:=hu;subst hu;exact⟨_,sl h1,rfl,rfl⟩
 · obtain⟨h1,h2⟩:=bL D;refine⟨_,h2,λE c h w u hC F hu=>?_⟩;obtain⟨a,rfl⟩:=hu;exact⟨_,sl h1,rfl,rfl⟩
 · obtain⟨h1,h2⟩:=bL D;refine⟨_,h2,λE c h w u hC F hu=>?_⟩;have e:=hu.2;subst e;exact⟨_,by simp [Builtin.len_,run_underlying (FM h1)];rfl,rfl,rfl⟩
def w7 (a:Operand->Value) (o:Option Operand) (d l:Nat):Prop:=match o with|some y=> ∃D,a y=.int D l |none=>l=d
theorem vn {o:Option Operand} {q:Option DS} {d:Nat} {l:Int} (F:xP σ o=some q) (D:Bh q d=some l) (h0:0<=l) {a:Operand->Value} (J: ∀x∈o,∀d,bB σ x=some d->SR c h w (a x) d):w7 a o d l.toNat:=by
 cases o with
 |none=>cases F;cases D;rfl
 |some x=>
  unfold xP at F;split at F
  · grind
  · rename_i x M;cases M;split at F
    · rename_i v L;cases F;unfold Bh at D;split at D<;>try (cases D;done)
      · grind
      · rename_i he;cases he;cases D;exact⟨_,by rw[int_eq (J x rfl _ L),av2 h0]⟩
    · grind
theorem To {x:Operand} {Y N:Option Operand} {e:TypeId} {n b:Nat} (hs:fU P ty=some (e,n,b)) {a:Operand->Value} {ad:Option Addr} {len cap l k:Nat} (F:a x=.slice ad len cap) (L:w7 a Y 0 l) (J:w7 a N len k) (h1:l<=k) (h2:k<=cap):
  (execOp a ⟨dst,.slice ty x Y N none,ty0,pos,af,g⟩).run P w=.ok (.value (.slice (if cap=l then ad else ad.map (·.add (l*n))) (k - l) (cap - l))) w:=by
 obtain⟨inf,z,hu,an,_,ar,_⟩:=pd hs;have M:(sizeOf e).run P w=.ok n w:=by simp [Go.sizeOf,typeInfo,an,ar]
 have Z: ∀D,(Instr.sliceBound (.int D k) cap .sliceAcap).run P w=.ok k w:=λD=>by simp [Instr.sliceBound,asIntOf];omega
 have ah: ∀D,(Instr.sliceBound (.int D l) k .sliceB).run P w=.ok l w:=λD=>by simp [Instr.sliceBound,asIntOf];omega
 cases Y<;>cases N
 · subst L;subst J;simp[execOp,Instr.sliceAt,Sem.run_bind,run_underlying hu,Result.andThen_ok,F,Instr.slice,Instr.sliceBounds,Option.map_none,M,if_true]
 · subst L;obtain⟨D,O⟩:=J;simp[execOp,Instr.sliceAt,Sem.run_bind,run_underlying hu,Result.andThen_ok,F,Instr.slice,Instr.sliceBounds,Option.map_none,Sem.run_pure,M,O,Z]
 · obtain⟨kl,U⟩:=L;subst J;simp only[execOp,Instr.sliceAt,Sem.run_bind,run_underlying hu,Result.andThen_ok,F,Instr.slice,Instr.sliceBounds,Option.map_none,at5,Sem.run_pure,M,U,Option.isSome_none,af7,if_false,ah]
 · obtain⟨kl,U⟩:=L;obtain⟨D,O⟩:=J;simp only[execOp,Instr.sliceAt,Sem.run_bind,run_underlying hu,Result.andThen_ok,F,Instr.slice,Instr.sliceBounds,Option.map_none,at5,Sem.run_pure,M,if_true,O,U,Option.isSome_none,af7,if_false,Z,ah]
theorem LH (l:List UInt8) (i j:Nat):(⟨l.toArray⟩:ByteArray).extract i j=⟨((l.take j).drop i).toArray⟩:=by apply ByteArray.ext;apply Array.ext';simp [List.drop_take]
theorem aoy (hs:tY P ty=true) {x:Operand} {Y N:Option Operand} {a:Operand->Value} {s:List UInt8} {l k:Nat} (F:a x=.string ⟨s.toArray⟩) (L:w7 a Y 0 l) (J:w7 a N s.length k) (h1:l<=k) (h2:k<=s.length):
  (execOp a ⟨dst,.slice ty x Y N none,ty0,pos,af,g⟩).run P w=.ok (.value (.string ⟨((s.take k).drop l).toArray⟩)) w:=by
 have hu:=FM hs;have M:(⟨s.toArray⟩:ByteArray).size=s.length:=rfl;have Z: ∀D,(Instr.sliceBound (.int D k) s.length .sliceAlen).run P w=.ok k w:=λD=>by simp [Instr.sliceBound,asIntOf];omega
 have ah: ∀D,(Instr.sliceBound (.int D l) k .sliceB).run P w=.ok l w:=λD=>by simp [Instr.sliceBound,asIntOf];omega
 cases Y<;>cases N
 · subst L;subst J;simp[execOp,Instr.sliceAt,Sem.run_bind,run_underlying hu,F,Instr.slice,Instr.sliceBounds,Option.map_none,af7,LH,M]
 · subst L;obtain⟨D,O⟩:=J;simp[execOp,Instr.sliceAt,Sem.run_bind,run_underlying hu,F,O,Instr.slice,Instr.sliceBounds,at5,if_false,Sem.run_pure,LH,M,Z]
 · obtain⟨kl,U⟩:=L;subst J;simp[execOp,Instr.sliceAt,Sem.run_bind,run_underlying hu,F,U,Instr.slice,Instr.sliceBounds,at5,Option.isSome_none,if_false,Sem.run_pure,LH,M,ah]
 · obtain⟨kl,U⟩:=L;obtain⟨D,O⟩:=J;simp only[execOp,Instr.sliceAt,Sem.run_bind,run_underlying hu,Result.andThen_ok,F,O,U,Instr.slice,Instr.sliceBounds,Option.map_none,at5,Option.isSome_none,af7,if_false,Sem.run_pure,LH,M,Z,ah]
theorem aqZ {t:Ty} {rows:List (den t)} {x:Operand} {J D:Option Operand} {e:TypeId} {b l k:Nat} (hs:fU P ty=some (e,wid t,b)) {a:Operand->Value} (U:SR c h w (a x) (.c (.v (.sl t) rows))) (O:w7 a J 0 l) (N:w7 a D rows.length k) (h1:l<=k) (h2:k<=rows.length):
  ∃z,(execOp a ⟨dst,.slice ty x J D none,ty0,pos,af,g⟩).run P w=.ok (.value z) w/\SR c h w z (.c (.v (.sl t) ((rows.take k).drop l))):=by
 obtain⟨_,ad,cap,M,F⟩:=U;have hk:k<=cap:=by grind
 have hlen:((rows.take k).drop l).length=k - l:=by grind
 refine⟨_,To hs M.symm O N h1 hk,rfl,_,_,by rw[hlen],?_⟩
 rw[hlen];by_cases h0:k - l=0
 · grind
 · rcases F with rfl |⟨Y,Z,L,o,rfl,F⟩
   · grind
   · refine .inr ⟨by omega,by omega,L,o+l*wid t,by rw[if_neg (by omega)];simp [add_plain],λi q hq=>?_⟩
     grind[acq]
theorem anH {x U:DS} (D:TJ P ty x U K=some y): ∃v,K v=some y/\ ∀E c h w u J,Conc E c h w->Sub H h->SR c h w u x->SR c h w J U-> ∃z,(Instr.index ty u J).run P w=.ok z w/\SR c h w z v:=by
 unfold TJ at D;split at D<;>try (cases D;done)
 · rename_i s k i;obtain⟨h1,h2⟩:=bL D;obtain⟨m,b,rfl,L,M⟩:=Y3 h2;refine⟨_,M,λE c h w u J hC ah hu O=>?_⟩;obtain rfl:=int_eq O;have e:=hu.2;subst e;have hs:(⟨s.toArray⟩:ByteArray)[m]? =some b:=by obtain⟨N,F⟩:=as4.1 L;rw[getElem?_pos (⟨s.toArray⟩:ByteArray) m N,<-F];rfl
   exact⟨.int .u8 b.toNat,by simp [Instr.index,asIntOf,run_underlying (FM h1),hs],rfl,rfl⟩
 · rename_i l k i;split at D<;>try (cases D;done)
   rename_i len e an;split at D<;>try (cases D;done)
   rename_i hs;obtain⟨h1,h2⟩:=bL D;obtain⟨q,L,M,N⟩:=Kt h2;refine⟨_,N,λE c h w u J hC ah hu O=>?_⟩;obtain rfl:=int_eq O;obtain⟨vs,rfl,hr⟩:=hu;have hl:=al2 h1;have Z:l[q]? =some (l.getD q .dead):=by rw[av4,ae6 (by omega)];rfl
   obtain⟨v,F,Y⟩:=hr.get Z;have ar:=(as4.1 F).1;rw[M];refine⟨v,?_,Y⟩;simp [Instr.index,asIntOf,run_underlying an,(rW hs w).1,(rW hs w).2,part,L,F]
theorem uf {t:Ty} (hs:lE t=true) {x:DC} {d:den t} (he:rC t x=some d) {v:Value} (D:CR c h w v x):CR c h w v (.v t d):=by
 unfold rC at he;split at he
 · split at he
   · grind
   · split at he<;>try (cases he;done)
     split at he<;>try (cases he;done)
     rename_i e _;obtain⟨e⟩:=e;subst e;cases he;exact⟨rfl,D.2⟩
 · cases he;exact⟨rfl,(show v=_ from D).symm⟩
 · cases he;exact⟨rfl,none,0,(show v=_ from D).symm,.inl rfl⟩
 · cases he;obtain⟨a,rfl⟩:=D;exact⟨rfl,a,0,rfl,.inl rfl⟩
 · cases he;exact⟨rfl,(show v=_ from D).symm⟩
 · grind
theorem FL {f:(t:Ty)->DC->Option (den t)} {Q Q':Value->DC->Prop} (hf: ∀t x d v,lE t=true->f t x=some d->Q v x->Q' v (.v t d)):(t:Ty)-> ∀{l r:List DC} {x:den t},lV f t l=some (x,r)-> ∃D,l=D++r/\ ∀vs,ay Q vs D->ay Q' vs (cA t x):=by
 have one: ∀{t:Ty} {a:DC} {l r:List DC} {x:den t},lE t=true->qS (f t a) l=some (x,r)-> ∃D,a::l=D++r/\ ∀vs,ay Q vs D->ay Q' vs (cA t x):=λhs he=>by
  unfold qS at he;split at he<;>try (cases he;done)
  rename_i a l r x y O;injection he with he;injection he with h1 h2;subst h1;subst h2;refine⟨[_],rfl,λvs F=>?_⟩;rw[alm hs];cases F with
  |cons h1 t1=>cases t1;exact .cons (hf _ _ _ _ hs O h1) .nil
 intro t
 induction t with
 |pair a b U Y=>
  intro l r x he;unfold lV at he;split at he<;>try (cases he;done)
  rename_i x1 r1 h1;split at he<;>try (cases he;done)
  rename_i y1 q1 h2;injection he with he;injection he with M N;subst M;subst N;obtain⟨D,rfl,g1⟩:=U h1;obtain⟨Z,rfl,g2⟩:=Y h2;refine⟨D++Z,by rw[as2],λvs F=>?_⟩
  have e:=F.len;rw[ae7] at e;have J:=F.take D.length;have L:=F.drop D.length;rw[List.take_left] at J;rw[List.drop_left] at L;rw[<-as0 D.length vs];exact(g1 _ J).app (g2 _ L)
 |unit=>intro l r x he;unfold lV at he;injection he with he;injection he with h1 h2;subst h2;exact⟨[],rfl,λvs F=>by cases F;exact .nil⟩
 |_=>
  intro l r x he;cases l with
  |nil=>cases he
  |cons a l=>exact one rfl he
theorem Fl {α:Type} {o:Option (α×List DC)} {x:α} (he:pF o=some x):o=some (x,[]):=by
 unfold pF at he;split at he
 · grind
 · grind
theorem Am {t:Ty} {l:List DC} {x:den t} (he:qQ t l=some x) {vs:List Value} (D:ay (CR c h w) vs l):ay (CR c h w) vs (cA t x):=by obtain⟨J,e,h1⟩:=FL (Q:=CR c h w) (Q':=CR c h w) (λt x d v hs F D=>uf hs F D) t (Fl he);rw[ag5] at e;subst e;exact h1 vs D
theorem cells_one {v:Value} (h1:v.oneCell'=true):v.cells.toList=[v]:=by cases v<;>first |rfl |cases h1
theorem v7 {v:Value} {x:DS} {l:List DC} (F:SR c h w v x) (D:cellsD x=some l):ay (CR c h w) v.cells.toList l:=by
 unfold cellsD at D;split at D<;>try (cases D;done)
 · cases D;rw[cells_one (CR.one F)];exact .cons F .nil
 · cases D;obtain⟨vs,rfl,h1⟩:=F;exact h1
 · cases D;obtain⟨vs,us,rfl,h1,h2⟩:=F;cases h1;cases h2;exact .cons rfl .nil
def eo {α:Type} (l:List α) (i:Nat) (xs:List α):List α:=l.take i++xs++l.drop (i+xs.length)
theorem P6 {α:Type} {l:List α} {i:Nat} {xs:List α} (h:i+xs.length<=l.length):(eo l i xs).length=l.length:=by grind[eo]
theorem ay.eo {α β:Type} {Q:α->β->Prop} {l xs:List α} {q D:List β} (h1:ay Q l q) (h2:ay Q xs D) (i:Nat):ay Q (eo l i xs) (eo q i D):=by unfold Fx.eo;rw[h2.len];exact((h1.take i).app h2).app (h1.drop _)
theorem aol (off:Nat): ∀(l:List Value) (s:Nat) (cs:Array Value),off+s+l.length<=cs.size->((l.zipIdx s).foldl (λcs (x:Value×Nat)=>cs.setIfInBounds (off+x.2) x.1) cs).toList=eo cs.toList (off+s) l:=by
 intro l
 induction l with
 |nil=>intro s cs _;simp [eo]
 |cons x t F=>
  intro s cs h;simp[List.length_cons] at h;rw[List.zipIdx_cons,List.foldl_cons,F (s+1) _ (by grind)]
  have D:off+s<cs.toList.length:=by grind
  simp[eo];rw[show off+(s+1)=off+s+1 by omega,List.take_set,List.drop_set,if_pos (by omega)]
  rw[List.take_succ_eq_append_getElem D];simp [Nat.min_eq_left (Nat.le_of_lt (show off+s<cs.size by omega))]
  omega
def oe (pl:Nat->Option (Nat×Nat)) (cl:List DC):List (Nat×List DC)->Option (List DC)
 |[]=>some cl
 |(i,l)::r=>match pl i with
  |some (off,size)=>if l.length=size/\off+size<=cl.length then oe pl (eo cl off l) r else none
  |none=>none
theorem Su {Q:Value->DC->Prop} {pl:Nat->Option (Nat×Nat)} {ps:List (Nat×List DC)} {parts:List (Nat×Value)} (hp:ay (λp q=>p.1=q.1/\ay Q p.2.cells.toList q.2) parts ps): ∀{cells:Array Value} {cl r:List DC},ay Q cells.toList cl->oe pl cl ps=some r->
  ∃J,Instr.fill pl cells parts=some J/\ay Q J.toList r:=by
 induction hp with
 |nil=>intro cells cl r hc D;cases D;exact⟨cells,rfl,hc⟩
 | @cons p q _ _ h1 _ N=>
  obtain⟨i,v⟩:=p;obtain⟨j,l⟩:=q;obtain⟨e,h1⟩:=h1;have e:=e;subst e;intro cells cl r hc D;unfold oe at D;split at D<;>try (cases D;done)
  rename_i off size F;split at D<;>try (cases D;done)
  rename_i hs;have L:=h1.len;have M:=hc.len;simp[Array.length_toList] at L M;unfold Instr.fill;have F:=F;rw[F];simp only;rw[if_neg (by grind)]
  refine N (cl:=eo cl off l) ?_ D;rw[<-Array.foldl_toList,Array.toList_zipIdx,aol off v.cells.toList 0 cells (by grind)]
  exact hc.eo h1 off
theorem acu {v:Value} {x:DC} (D:vD v=some x):CR c h w v x:=by
 unfold vD at D;split at D<;>first |(cases D;done) |(cases D)
 all_goals first |rfl |exact⟨rfl,rfl⟩ |skip
theorem AG: ∀{vs:List Value} {l:List DC},xH vs=some l->ay (CR c h w) vs l
 |[],l,e=>by cases e;exact .nil
 |v::vs,l,e=>by
  unfold xH at e;split at e<;>try (cases e;done)
  cases e;exact .cons (acu (by omega)) (AG (by omega))
theorem M6:(t:Ty)->(d:den t)-> ∀x∈cA t d,∃J F,x=DC.v J F
 |.pair a b,d,x,D=>by
  rcases ae5.1 (show x∈cA a d.1++cA b d.2 from D) with D |D
  · exact M6 a _ x D
  · exact M6 b _ x D
 |.unit,d,x,D=>by cases D
 |.int _,d,x,D |.bool,d,x,D |.str,d,x,D |.gB _,d,x,D |.sl _,d,x,D |.ptr _,d,x,D |.opt _,d,x,D |.val,d,x,D=>⟨_,d,List.mem_singleton.1 D⟩
theorem uy {t:Ty}: ∀(l:List (den t)),∀x∈aT t l,∃J F,x=DC.v J F
 |y::l,x,D=>by
  rcases ae5.1 (show x∈cA t y++aT t l from D) with D |D
  · exact M6 t y x D
  · exact uy l x D
end
end
end Go.Proofs.YtejhifnjgoclpaaGreatDoor.Fx
