import Derived.Test.YtejhifnjgoclpaaGreatDoorF8A
import Derived.Test.YtejhifnjgoclpaaGreatDoorF8B
import Derived.Test.YtejhifnjgoclpaaGreatDoorF8D
import Derived.JoinedOf
import GoSem.ClaimGoes
namespace Go.Proofs.YtejhifnjgoclpaaGreatDoor.explainChecks
theorem and2{a b:Bool}(h1:a=true)(h2:b=true):(a&&b)=true:=by rw[h1,h2];rfl
theorem unf:Tryz.prog.unfollowed 8=true:=by
 have h:=fact_unfollowed;have e:Rows.explainChecksRow.unfollowed=true:=rfl;rw[e]at h;cases hu:Tryz.prog.unfollowed 8 with
 |true=>rfl
 |false=>rw[hu]at h;cases h
theorem fact_recurses:(Rows.explainChecksRow.recurses==Tryz.prog.recurses 8)=true:=by
 have e:Tryz.prog.recurses 8=true:=by unfold Program.recurses;rw[unf];rfl
 rw[e];rfl
theorem none_goes:Tryz.prog.funcs.any Func.goes=false:=by kernel_rfl
theorem any_none{P:Program}(h:P.funcs.any Func.goes=false)(l:List FuncId):(l.any λg=>(P.funcs[g]?).any Func.goes)=false:=by
 rw[List.any_eq_false];intro g _;cases hg:P.funcs[g]? with
 |none=>simp
 |some fn=>obtain⟨hlt,e⟩:=Array.getElem?_eq_some_iff.1 hg;have:=Array.any_eq_false.1 h g hlt;rw[e]at this;simpa using this
theorem goes_none(f:FuncId):Tryz.prog.goes f=false:=by unfold Program.goes;rw[any_none none_goes,none_goes,Bool.and_false];rfl
theorem goes_from(f:String):Tryz.prog.goesFrom f=false:=by
 unfold Program.goesFrom;cases Tryz.prog.funcNamed f with
 |none=>rw[Option.any_none]
 |some f=>rw[Option.any_some];exact goes_none f
theorem fact_goes:false=Rows.explainChecksRow.goesBy Tryz.prog:=by have hs:Rows.explainChecksRow.start=.entering:=rfl;unfold OpenClaim.goesBy Program.goesAt;rw[goes_from,hs];rfl
theorem facts:joinedFacts Tryz.prog 8 Tryz.f8 Rows.explainChecksSpec Rows.explainChecksRow=true:=by
 unfold joinedFacts
 repeat' (with_reducible refine and2 ?_ ?_)
 all_goals first
  |(with_reducible exact fact_inPlace)
  |(with_reducible exact fact_unfollowed)
  |(with_reducible exact fact_recurses)
  |(with_reducible exact fact_named)
  |kernel_rfl
end Go.Proofs.YtejhifnjgoclpaaGreatDoor.explainChecks
