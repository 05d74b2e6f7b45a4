/- Parts of the proofs, put together by a program. -/
import Derived.Test.YtejhifnjgoclpaaGreatDoorS18
import Derived.Laws.CopyRow
import Derived.Deep.RegionLaw
set_option linter.unusedVariables false
set_option linter.unusedSimpArgs false
open Nat renaming le_refl->ae5
namespace Go.Proofs.YtejhifnjgoclpaaGreatDoor.Fx
open Go.RowKit
set_option maxRecDepth 1000000
noncomputable section
theorem heap_drew (w:World):w.drew.heap=w.heap:=rfl
theorem kh (w:World) (o:Obj) (k:Nat):(w.alloc o).heap[k]? =if k=w.heap.size then some o else w.heap[k]? :=by show(w.heap.push o)[k]? =_;rw[Array.getElem?_push]
theorem QK (w:World) (c cs:Array Value) (t:TypeId):((w.alloc (.cells c t)).drew).setRow w.heap.size cs=(w.alloc (.cells cs t)).drew:=by
 have D:((w.alloc (.cells c t)).drew).heap[w.heap.size]? =some (.cells c t (0,0)):=by rw[heap_drew,kh,if_pos rfl]
 have F:(((w.alloc (.cells c t)).drew).setRow w.heap.size cs).heap=((w.alloc (.cells cs t)).drew).heap:=by
  apply Array.ext_getElem?;intro k;by_cases h:k=w.heap.size
  · rw[h,setRow_heap _ _ _ _ _ _ D,heap_drew,kh,if_pos rfl]
  · rw[setRow_other _ _ _ _ h,heap_drew,heap_drew,kh,kh,if_neg h,if_neg h]
 have e:((w.alloc (.cells c t)).drew).setRow w.heap.size cs={(w.alloc (.cells c t)).drew with heap:=(((w.alloc (.cells c t)).drew).setRow w.heap.size cs).heap}:=rfl
 rw[e,F];rfl
set_option maxHeartbeats 1600000 in
theorem arx (a b c:Int) (s:ByteArray) (w:World) (h0:0<=a) (h1:a<9223372036854775807):
  Calls Tryz.prog 445 #[.agg #[.int .i64 a,.int .i64 b,.int .i64 c,.string s],.int .i64 0] w fun e w'=>e=.returned (.agg #[.int .i64 (a+1),.int .i64 0,.int .i64 0,.string ⟨#[]⟩])/\Below w.heap.size w w':=by
 have hw1:IntKind.i64.wrap 1=1:=by decide
 have hw3:IntKind.i64.wrap (a+1)=a+1:=wrap_i64 (by omega)
 have hcp:(Builtin.copy_ #[55,55] 3 #[.slice (some ⟨w.heap.size+1+1,0,none⟩) 3 3,.slice (some ⟨w.heap.size,0,none⟩) 1 3]).run Tryz.prog
   (((w.alloc (.cells #[.int .i64 a,.int .i64 b,.int .i64 c,.string s] 145)).alloc (.cells #[.int .i64 0,.int .i64 0,.int .i64 0,.string ⟨#[]⟩] 145)).alloc (.cells #[.int .i64 0,.int .i64 0,.int .i64 0,.string ⟨#[]⟩] 145)).drew=
   .ok (goInt 1) (((w.alloc (.cells #[.int .i64 a,.int .i64 b,.int .i64 c,.string s] 145)).alloc (.cells #[.int .i64 0,.int .i64 0,.int .i64 0,.string ⟨#[]⟩] 145)).alloc (.cells #[.int .i64 a,.int .i64 0,.int .i64 0,.string ⟨#[]⟩] 145)).drew:=by
  generalize hw2:(w.alloc (.cells #[.int .i64 a,.int .i64 b,.int .i64 c,.string s] 145)).alloc (.cells #[.int .i64 0,.int .i64 0,.int .i64 0,.string ⟨#[]⟩] 145)=w2;have hsz:w2.heap.size=w.heap.size+1+1:=by rw[<-hw2];simp
  have hat:w2.heap[w.heap.size]? =some (.cells #[.int .i64 a,.int .i64 b,.int .i64 c,.string s] 145 (0,0)):=by rw[<-hw2,kh,if_neg (by simp),kh,if_pos rfl]
  rw[<-hsz];refine(run_copy_row (P:=Tryz.prog) _ _ _ _ 3 w2.heap.size 0 3 3 ⟨w.heap.size,0,none⟩ 1 3 #[.int .i64 0,.int .i64 0,.int .i64 0,.string ⟨#[]⟩] 145 [.int .i64 a] (by kernel_rfl) (by kernel_rfl) (by rw[heap_drew,kh,if_pos rfl]) rfl (fun j v hj=>?_) (by simp) (fun v hv=>by rw[List.mem_singleton.1 hv];rfl)).trans ?_
  · have hx:((w2.alloc (.cells #[.int .i64 0,.int .i64 0,.int .i64 0,.string ⟨#[]⟩] 145)).drew).heap[w.heap.size]? =some (.cells #[.int .i64 a,.int .i64 b,.int .i64 c,.string s] 145 (0,0)):=by
      rw[heap_drew,kh,if_neg (by omega),hat]
    match j,hj with
    |0,hj=>have hv:v=.int .i64 a:=(Option.some.inj hj).symm;subst hv;show World.cell? _ ⟨w.heap.size,0+0,none⟩=_;unfold World.cell?;simp only[hx];rfl
    |(j+1),hj=>cases hj
  · rw[QK];rfl
 go_enter Tryz.func445,Tryz.ntmps445
 go_wp2_with fail
 go_region
 go_wp2_with fail
 refine bodyPost_ret (v:=.agg #[.int .i64 (a+1),.int .i64 0,.int .i64 0,.string ⟨#[]⟩]) (by simp [results,Tryz.results445,go_sem]) rfl ⟨rfl,?_⟩
 exact((((Below.refl _ w).alloc (ae5 _) _).alloc (by simp) _).alloc (by simp;omega) _).drew
set_option maxHeartbeats 1600000 in
theorem TE (a b c:Int) (s:ByteArray) (w:World) (h0:0<=b) (h1:b<9223372036854775807):
  Calls Tryz.prog 445 #[.agg #[.int .i64 a,.int .i64 b,.int .i64 c,.string s],.int .i64 1] w fun e w'=>e=.returned (.agg #[.int .i64 a,.int .i64 (b+1),.int .i64 0,.string ⟨#[]⟩])/\Below w.heap.size w w':=by
 have hw1:IntKind.i64.wrap 2=2:=by decide
 have hw3:IntKind.i64.wrap (b+1)=b+1:=wrap_i64 (by omega)
 have hcp:(Builtin.copy_ #[55,55] 3 #[.slice (some ⟨w.heap.size+1+1,0,none⟩) 3 3,.slice (some ⟨w.heap.size,0,none⟩) 2 3]).run Tryz.prog
   (((w.alloc (.cells #[.int .i64 a,.int .i64 b,.int .i64 c,.string s] 145)).alloc (.cells #[.int .i64 0,.int .i64 0,.int .i64 0,.string ⟨#[]⟩] 145)).alloc (.cells #[.int .i64 0,.int .i64 0,.int .i64 0,.string ⟨#[]⟩] 145)).drew=
   .ok (goInt 2) (((w.alloc (.cells #[.int .i64 a,.int .i64 b,.int .i64 c,.string s] 145)).alloc (.cells #[.int .i64 0,.int .i64 0,.int .i64 0,.string ⟨#[]⟩] 145)).alloc (.cells #[.int .i64 a,.int .i64 b,.int .i64 0,.string ⟨#[]⟩] 145)).drew:=by
  generalize hw2:(w.alloc (.cells #[.int .i64 a,.int .i64 b,.int .i64 c,.string s] 145)).alloc (.cells #[.int .i64 0,.int .i64 0,.int .i64 0,.string ⟨#[]⟩] 145)=w2;have hsz:w2.heap.size=w.heap.size+1+1:=by rw[<-hw2];simp
  have hat:w2.heap[w.heap.size]? =some (.cells #[.int .i64 a,.int .i64 b,.int .i64 c,.string s] 145 (0,0)):=by rw[<-hw2,kh,if_neg (by simp),kh,if_pos rfl]
  rw[<-hsz];refine(run_copy_row (P:=Tryz.prog) _ _ _ _ 3 w2.heap.size 0 3 3 ⟨w.heap.size,0,none⟩ 2 3 #[.int .i64 0,.int .i64 0,.int .i64 0,.string ⟨#[]⟩] 145 [.int .i64 a,.int .i64 b] (by kernel_rfl) (by kernel_rfl) (by rw[heap_drew,kh,if_pos rfl]) rfl (fun j v hj=>?_) (by simp) (fun v hv=>by simp at hv;rcases hv with rfl |rfl<;>rfl)).trans ?_
  · have hx:((w2.alloc (.cells #[.int .i64 0,.int .i64 0,.int .i64 0,.string ⟨#[]⟩] 145)).drew).heap[w.heap.size]? =some (.cells #[.int .i64 a,.int .i64 b,.int .i64 c,.string s] 145 (0,0)):=by
      rw[heap_drew,kh,if_neg (by omega),hat]
    match j,hj with
    |0,hj=>have hv:v=.int .i64 a:=(Option.some.inj hj).symm;subst hv;show World.cell? _ ⟨w.heap.size,0+0,none⟩=_;unfold World.cell?;simp only[hx];rfl
    |1,hj=>have hv:v=.int .i64 b:=(Option.some.inj hj).symm;subst hv;show World.cell? _ ⟨w.heap.size,0+1,none⟩=_;unfold World.cell?;simp only[hx];rfl
    |(j+2),hj=>cases hj
  · rw[QK];rfl
 go_enter Tryz.func445,Tryz.ntmps445
 go_wp2_with fail
 go_region
 go_wp2_with fail
 refine bodyPost_ret (v:=.agg #[.int .i64 a,.int .i64 (b+1),.int .i64 0,.string ⟨#[]⟩]) (by simp [results,Tryz.results445,go_sem]) rfl ⟨rfl,?_⟩
 exact((((Below.refl _ w).alloc (ae5 _) _).alloc (by simp) _).alloc (by simp;omega) _).drew
set_option maxHeartbeats 1600000 in
theorem TD (a b c:Int) (s:ByteArray) (w:World) (h0:0<=c) (h1:c<9223372036854775807):
  Calls Tryz.prog 445 #[.agg #[.int .i64 a,.int .i64 b,.int .i64 c,.string s],.int .i64 2] w fun e w'=>e=.returned (.agg #[.int .i64 a,.int .i64 b,.int .i64 (c+1),.string ⟨#[]⟩])/\Below w.heap.size w w':=by
 have hw1:IntKind.i64.wrap 3=3:=by decide
 have hw3:IntKind.i64.wrap (c+1)=c+1:=wrap_i64 (by omega)
 have hcp:(Builtin.copy_ #[55,55] 3 #[.slice (some ⟨w.heap.size+1+1,0,none⟩) 3 3,.slice (some ⟨w.heap.size,0,none⟩) 3 3]).run Tryz.prog
   (((w.alloc (.cells #[.int .i64 a,.int .i64 b,.int .i64 c,.string s] 145)).alloc (.cells #[.int .i64 0,.int .i64 0,.int .i64 0,.string ⟨#[]⟩] 145)).alloc (.cells #[.int .i64 0,.int .i64 0,.int .i64 0,.string ⟨#[]⟩] 145)).drew=
   .ok (goInt 3) (((w.alloc (.cells #[.int .i64 a,.int .i64 b,.int .i64 c,.string s] 145)).alloc (.cells #[.int .i64 0,.int .i64 0,.int .i64 0,.string ⟨#[]⟩] 145)).alloc (.cells #[.int .i64 a,.int .i64 b,.int .i64 c,.string ⟨#[]⟩] 145)).drew:=by
  generalize hw2:(w.alloc (.cells #[.int .i64 a,.int .i64 b,.int .i64 c,.string s] 145)).alloc (.cells #[.int .i64 0,.int .i64 0,.int .i64 0,.string ⟨#[]⟩] 145)=w2;have hsz:w2.heap.size=w.heap.size+1+1:=by rw[<-hw2];simp
  have hat:w2.heap[w.heap.size]? =some (.cells #[.int .i64 a,.int .i64 b,.int .i64 c,.string s] 145 (0,0)):=by rw[<-hw2,kh,if_neg (by simp),kh,if_pos rfl]
  rw[<-hsz];refine(run_copy_row (P:=Tryz.prog) _ _ _ _ 3 w2.heap.size 0 3 3 ⟨w.heap.size,0,none⟩ 3 3 #[.int .i64 0,.int .i64 0,.int .i64 0,.string ⟨#[]⟩] 145 [.int .i64 a,.int .i64 b,.int .i64 c] (by kernel_rfl) (by kernel_rfl) (by rw[heap_drew,kh,if_pos rfl]) rfl (fun j v hj=>?_) (by simp) (fun v hv=>by simp at hv;rcases hv with rfl |rfl |rfl<;>rfl)).trans ?_
  · have hx:((w2.alloc (.cells #[.int .i64 0,.int .i64 0,.int .i64 0,.string ⟨#[]⟩] 145)).drew).heap[w.heap.size]? =some (.cells #[.int .i64 a,.int .i64 b,.int .i64 c,.string s] 145 (0,0)):=by
      rw[heap_drew,kh,if_neg (by omega),hat]
    match j,hj with
    |0,hj=>have hv:v=.int .i64 a:=(Option.some.inj hj).symm;subst hv;show World.cell? _ ⟨w.heap.size,0+0,none⟩=_;unfold World.cell?;simp only[hx];rfl
    |1,hj=>have hv:v=.int .i64 b:=(Option.some.inj hj).symm;subst hv;show World.cell? _ ⟨w.heap.size,0+1,none⟩=_;unfold World.cell?;simp only[hx];rfl
    |2,hj=>have hv:v=.int .i64 c:=(Option.some.inj hj).symm;subst hv;show World.cell? _ ⟨w.heap.size,0+2,none⟩=_;unfold World.cell?;simp only[hx];rfl
    |(j+3),hj=>cases hj
  · rw[QK];rfl
 go_enter Tryz.func445,Tryz.ntmps445
 go_wp2_with fail
 go_region
 go_wp2_with fail
 refine bodyPost_ret (v:=.agg #[.int .i64 a,.int .i64 b,.int .i64 (c+1),.string ⟨#[]⟩]) (by simp [results,Tryz.results445,go_sem]) rfl ⟨rfl,?_⟩
 exact((((Below.refl _ w).alloc (ae5 _) _).alloc (by simp) _).alloc (by simp;omega) _).drew
theorem aoX (a b c:Int) (s:ByteArray) (p:Int) (h:p<0\/2<p) (w:World):
  Calls Tryz.prog 445 #[.agg #[.int .i64 a,.int .i64 b,.int .i64 c,.string s],.int .i64 p] w fun e w'=>e=.returned (.agg #[.int .i64 0,.int .i64 0,.int .i64 0,.string ⟨#[]⟩])/\Below w.heap.size w w':=by
 rcases h with h |h
 · have h1:=decide_eq_true h
   go_enter Tryz.func445,Tryz.ntmps445
   go_wp2_with fail
   refine bodyPost_ret (v:=.agg #[.int .i64 0,.int .i64 0,.int .i64 0,.string ⟨#[]⟩]) (by simp [results,Tryz.results445,go_sem]) rfl ⟨rfl,?_⟩
   exact((Below.refl _ w).alloc (ae5 _) _).alloc (by simp) _
 · have h1: ¬p<0:=by omega
   go_enter Tryz.func445,Tryz.ntmps445
   go_wp2_with fail
   refine bodyPost_ret (v:=.agg #[.int .i64 0,.int .i64 0,.int .i64 0,.string ⟨#[]⟩]) (by simp [results,Tryz.results445,go_sem]) rfl ⟨rfl,?_⟩
   exact((Below.refl _ w).alloc (ae5 _) _).alloc (by simp) _
def Gt (v:cP):List Value:=[.int .i64 v.1.1,.int .i64 v.1.2.1,.int .i64 v.1.2.2,.string ⟨v.2.toArray⟩]
noncomputable def age:dh Tryz.prog:=mkB 445 ⟨[(0,.st (.pair (.pair (.int .i64) (.pair (.int .i64) (.int .i64))) .str)),(1,.c (.v (.int .i64)))],[]⟩ [(false,⟨[(3000004,.st (.pair (.pair (.int .i64) (.pair (.int .i64) (.int .i64))) .str))],[]⟩)] (fun r=>(r,())) (fun x=>mw x.1 x.2.1) (by kernel_rfl) (fun x o h0=>by
 obtain⟨v,p,u⟩:=x;have h:mw v p=some o:=h0;clear h0;refine wM [.agg (Gt v).toArray,.int .i64 p] (.agg (Gt o).toArray) rfl rfl fun w=>?_;unfold mw at h;split at h
 · rename_i e;subst e;split at h
   · rename_i q;have D:=(Option.some.inj h).symm;subst D;exact arx _ _ _ _ w q.1 q.2
   · cases h
 · rename_i F;split at h
   · rename_i e;subst e;split at h
     · rename_i q;have D:=(Option.some.inj h).symm;subst D;exact TE _ _ _ _ w q.1 q.2
     · cases h
   · rename_i J;split at h
     · rename_i e;subst e;split at h
       · rename_i q;have D:=(Option.some.inj h).symm;subst D;exact TD _ _ _ _ w q.1 q.2
       · cases h
     · rename_i M;have D:=(Option.some.inj h).symm;subst D;have F: ¬(p:Int)=0:=F;have J: ¬(p:Int)=1:=J;have M: ¬(p:Int)=2:=M;exact aoX _ _ _ _ p (by omega) w)
end
end Go.Proofs.YtejhifnjgoclpaaGreatDoor.Fx
