/-
  Amounts posted to several accounts of a ledger, in the program and in the reference.
-/
import Derived.Test.YtccnjccabllcaaaGreatDoorPostX
import Derived.Test.YtccnjccabllcaaaGreatDoorPerf
namespace Go.Proofs.YtccnjccabllcaaaGreatDoor
open Sx
set_option maxRecDepth 100000
open Classical in
open Classical in
theorem ledger_mk {V:Know} {s0 s1 s3:SlV} {c2:ByteArray} {x:DLedger} {f0 f1 f3:List Nat} (h0:LR rAcct V s0 x.1 f0) (h1:LR rRest V s1 x.2.1 f1) (hc:c2=x.2.2.1) (z:c2.size≤9223372036854775807) (h3:LR rRate V s3 x.2.2.2.1 f3) :
  rLedger.R V (s0,s1,c2,s3,()) x (f0++(f1++f3)):=by
 refine rSl.mk (r:=rSl rRest (rStr (rSl rRate rNil))) h0 (rSl.mk (r:=rStr (rSl rRate rNil)) h1 ⟨⟨hc,hc ▸ z⟩,f3,[],by simp,h3,rfl⟩)
end Go.Proofs.YtccnjccabllcaaaGreatDoor
