/- Parts of the proofs, put together by a program. -/
import Derived.Test.YtejhifnjgoclpaaGreatDoorS11
import Derived.Laws.ShiftsVar
import Derived.Laws.BytesArg
set_option linter.unusedVariables false
set_option linter.unusedSimpArgs false
namespace Go.Proofs.YtejhifnjgoclpaaGreatDoor
open Go.RowKit
open Go.PlainAid (bt get_bt bt_nonneg bt_le)
theorem ass (D:World) (n:Int):(convert 472 9 (.slice (some ⟨D.heap.size,0,none⟩) 1 1)).run Tryz.prog (D.alloc (.cells #[.int .u8 n] 5))=.ok (.string ⟨#[UInt8.ofNat n.toNat]⟩) (D.alloc (.cells #[.int .u8 n] 5)):=by
 refine run_convert_bytes_arg _ 472 5 Tryz.underlying472 Tryz.underlying5 _ 0 1 1 [n] rfl (fun i F=>?_) 9 Tryz.underlying9;obtain rfl:i=0:=by omega
 simp [go_sem]
theorem anJ (n k:Nat) (F:n<18446744073709551616) (hk:k<16): ∃d:Nat,bits .and .u64 ((n:Int)/2 ^(60 - 4*k)) 15=(d:Int)/\d<16/\Hid (qR n (k+1)=qR n k++[wL d]):=by
 have e:(2:Nat) ^(60 - 4*k)=16 ^(15 - k):=by rw[show(16:Nat)=2 ^4 from rfl,<-Nat.pow_mul];congr 1;omega
 refine⟨n/16 ^(15 - k)%16,?_,Nat.mod_lt _ (by decide),al5 n k⟩
 have D:((n:Int)/2 ^(60 - 4*k))=((n/16 ^(15 - k):Nat):Int):=by rw[<-e];simp
 have hle:n/16 ^(15 - k)<=n:=Nat.div_le_self _ _;rw[D];generalize n/16 ^(15 - k)=m at*;rw[u64_and _ _ (by omega) (by omega) (by omega) (by omega),Int.toNat_natCast]
 exact congrArg _ (Nat.and_two_pow_sub_one_eq_mod m 4)
theorem ZF (l:List UInt8) (c d:UInt8) (r:List UInt8) (h:r=l++[d]) (hc:c=d):Value.string (⟨l.toArray⟩++⟨#[c]⟩)=Value.string ⟨r.toArray⟩:=by subst hc h;congr 1
theorem aqI (n:Nat) (w:World) (hn:n<18446744073709551616):
  Calls Tryz.prog 402 #[.int .u64 n] w fun e w'=>e=.returned (.string ⟨(T9 n).toArray⟩)/\Below w.heap.size w w':=by
 have kc:=ass
 go_enter Tryz.func402,Tryz.ntmps402
 go_wp2
 go_loopw [3,4] (fun s i wr=> ∃k:Nat,k<=16/\i=.int .i64 (60 - 4*k)/\s=.string ⟨(qR n k).toArray⟩/\Below w.heap.size w wr) (fun _ i _=>(64+intOf i).toNat)
 case atStart=>exact⟨0,Nat.zero_le _,rfl,rfl,Below.refl _ _⟩
 case round=>
  obtain⟨k,hk,rfl,rfl,hb⟩:=hrel;have hl:(qR n k).length<=16:=by rw[ajR];exact hk
  by_cases hlt:k<16
  · obtain⟨d,hd,hd16,HD⟩:=anJ n k hn hlt
    go_wp2
    · go_roundw
      case rel=>exact⟨k+1,by omega,by go_num,ZF _ _ _ _ HD (al6 d (by omega)),hb.alloc hb.size _⟩
      case measure=>simp [intOf];omega
    · go_roundw
      case rel=>exact⟨k+1,by omega,by go_num,ZF _ _ _ _ HD (akK d (by omega)),hb.alloc hb.size _⟩
      case measure=>simp [intOf];omega
  · go_wp2
    go_ret
    obtain rfl:k=16:=by omega
    exact⟨rfl,hb⟩
end Go.Proofs.YtejhifnjgoclpaaGreatDoor
