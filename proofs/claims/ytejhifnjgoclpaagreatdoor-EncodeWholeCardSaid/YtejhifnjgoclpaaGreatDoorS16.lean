/- Parts of the proofs, put together by a program. -/
import Derived.Test.YtejhifnjgoclpaaGreatDoorS15
import Derived.Lib.Bytealg
set_option linter.unusedVariables false
set_option linter.unusedSimpArgs false
namespace Go.Proofs.YtejhifnjgoclpaaGreatDoor.Fx
open Go.RowKit
set_option maxRecDepth 1000000
noncomputable section
theorem amj (a b:ByteArray) (w:World):(callFunc 441 #[.string a,.string b]).run Tryz.prog w=.ok (.value (.int .i64 (Lib.compareBytes a.data.toList b.data.toList))) w:=by
 have h:=run_callFunc_extern (P:=Tryz.prog) (f:=441) Tryz.func441 (by kernel_rfl) (by kernel_rfl) (by kernel_rfl) (e:=Extern.BytealgCompare.compare) (by kernel_rfl) #[.string a,.string b] w
 rw[h,Lib.run_compareString];rfl
theorem ajj (a b:ByteArray) (w:World):Calls Tryz.prog 416 #[.string a,.string b] w fun e w'=>e=.returned (.int .i64 (Lib.compareBytes a.data.toList b.data.toList))/\w=w':=by
 have hx:=amj a b
 go_enter Tryz.func416,Tryz.ntmps416
 go_wp2
 go_ret
 exact⟨rfl,rfl⟩
theorem alh (a b:ByteArray) (w:World):Calls Tryz.prog 372 #[.string a,.string b] w fun e w'=>e=.returned (.int .i64 (Lib.compareBytes a.data.toList b.data.toList))/\w=w':=by
 go_enter Tryz.func372,Tryz.ntmps372
 go_wp2_with fail
 refine(ajj a b w).mono ?_;rintro e w' ⟨rfl,rfl⟩
 go_wp2_with fail
 go_ret
 exact⟨rfl,rfl⟩
theorem Dk: ∀(a b:List UInt8),Lib.compareBytes a b=cC a b
 |[],[]=>rfl
 |[],y::t=>rfl
 |x::s,[]=>rfl
 |x::s,y::t=>by
  show(if x<y then(-1:Int) else if y<x then 1 else Lib.compareBytes s t)=(if Op.bytesLess (x::s) (y::t) then(-1:Int) else if x::s=y::t then 0 else 1)
  rw[Dk s t];unfold cC;have J:Op.bytesLess (x::s) (y::t)=(decide (x<y)||(x==y&&Op.bytesLess s t)):=rfl;rw[J];by_cases h1:x<y
  · rw[if_pos h1,decide_eq_true h1,Bool.true_or,if_pos rfl]
  · rw[if_neg h1,decide_eq_false h1,Bool.false_or];by_cases h2:y<x
    · have F: ¬x=y:=fun e=>by rw[<-e] at h2;exact h1 (by rw[<-e];exact h2)
      have M:(x==y)=false:=beq_eq_false_iff_ne.2 F;rw[if_pos h2,M,Bool.false_and,if_neg (by decide),if_neg (fun e=>F (List.cons.inj e).1)]
    · have he:x=y:=by
        apply UInt8.toNat_inj.1;rw[UInt8.lt_iff_toNat_lt] at h1 h2;omega
      subst he;rw[if_neg h2,beq_self_eq_true,Bool.true_and];by_cases D:s=t
      · subst D;rw[if_pos rfl,if_pos rfl]
      · rw[if_neg D,if_neg (fun e=>D (List.cons.inj e).2)]
noncomputable def ahs:dh Tryz.prog:=mkB 372 ⟨[(0,.c (.v .str)),(1,.c (.v .str))],[]⟩ [(false,⟨[(4,.c (.v (.int .i64)))],[]⟩)] (fun r=>(r,())) (fun x=>strings_Compare x.1 x.2.1) (by kernel_rfl) (fun x o h0=>by
 obtain⟨a,b,u⟩:=x;have h:strings_Compare a b=some o:=h0;clear h0;have D:o=Lib.compareBytes a b:=by rw[Dk];exact(Option.some.inj h).symm
 subst D;exact(wM [.string ⟨a.toArray⟩,.string ⟨b.toArray⟩] (.int .i64 (Lib.compareBytes a b)) rfl rfl fun w=>(alh ⟨a.toArray⟩ ⟨b.toArray⟩ w).mono fun e w' ⟨h1,h2⟩=>⟨h1,QI h2⟩))
end
end Go.Proofs.YtejhifnjgoclpaaGreatDoor.Fx
