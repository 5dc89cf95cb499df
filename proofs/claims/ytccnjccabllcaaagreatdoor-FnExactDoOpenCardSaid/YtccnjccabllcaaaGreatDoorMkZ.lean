/-
  The laws' marks, told alike for all types.
-/
import Derived.Test.YtccnjccabllcaaaGreatDoorHeldB
namespace Go.Proofs.YtccnjccabllcaaaGreatDoor
open Sx
set_option maxRecDepth 100000
def MkC {sh:List Sc} {α:Type} (P:Program) (g:Nat) (r:Rp sh α):Prop:=∀ (V:Know) (c:Scs sh) (x:α) (f:List Nat) (k:Int),r.R V c x f→f.Nodup→Wr V f→r.tot x≤1048576→0≤k→k≤1152921504606846976 →
 CallX P V g [Sh1.val (.g sh) c,.int .i64 k] (fun V' v=>LeBut f V V'∧∃ n:Int,v=.int .i64 (k+n)∧0≤n∧n≤67108864)
def MkH {sh:List Sc} {α:Type} (P:Program) (g gh:Nat) (r:Rp sh α):Prop:=∀ (V:Know) (c:Scs sh) (x:α) (f:List Nat) (k:Int),r.R V c x f→f.Nodup→Wr V f→r.tot x≤1048576→0≤k→k≤1152921504606846976 →
 CallX P V g [Sh1.val (.g sh) c,.int .i64 k] (fun V' v=>LeBut f V V'∧Wr V' f∧∃ n:Int,v=.int .i64 (k+n)∧0≤n∧n≤67108864 ∧
  ∀ V2,(∀ b∈f,V2 b=V' b)→CallX P V2 gh [Sh1.val (.g sh) c,.int .i64 k] (fun V3 v=>V2.le V3∧v=.int .i64 (k+n)))
theorem Wr.but {V V':Know} {f g:List Nat} (h:Wr V f) (d:∀ b∈f,b ∉ g) (B:LeBut g V V'):Wr V' f:=fun b hb=>by obtain⟨q1,q2,q3⟩:=h b hb; exact⟨q1,q2,B b _ (d b hb) q3⟩
theorem ke_le {V V1 V':Know} {f:List Nat} (W:Wr V1 f) (ke:∀ b∈f,V b=V1 b) (le:V.le V'):∀ b∈f,V' b=V1 b:=fun b hb=>by obtain⟨q1,q2,q3⟩:=W b hb; rw [le _ _ ((ke b hb).trans q3),q3]
theorem cntE_le {sh:List Sc} {α:Type} {r:Rp sh α} {m:Mk α} {K:Nat} (hK:∀ x,m.cnt x≤K*(1+r.tot x)):∀ l,cntE m l≤K*(l.length+totE r l)
 | []=>by simp [cntE]
 | x :: l=>by
  have ih:=cntE_le hK l
  have h1:=hK x
  simp only [cntE,totE,List.length_cons]
  have e:K*(l.length+1+(r.tot x+totE r l))=K*(1+r.tot x)+K*(l.length+totE r l):=by rw [← Nat.mul_add]; congr 1; omega
  omega
theorem cnt_Acct (x:DAcct):mAcct.cnt x≤6*(1+rAcct.tot x):=by
 have e:mAcct.cnt x=(1+(1+(1+(cntE mI x.2.2.2.1+0)))):=rfl
 have e2:rAcct.tot x=(x.1.size+(x.2.1.size+(x.2.2.2.1.length+totE rI x.2.2.2.1+0))):=rfl
 rw [e,e2]
 have q3:=cntE_int x.2.2.2.1
 omega
theorem cnt_Rest (x:DRest):mRest.cnt x≤6*(1+rRest.tot x):=by
 have e:mRest.cnt x=(1+(1+(cntE mI x.2.2.1+(cntE mI x.2.2.2.1+0)))):=rfl
 have e2:rRest.tot x=(x.1.size+(x.2.2.1.length+totE rI x.2.2.1+(x.2.2.2.1.length+totE rI x.2.2.2.1+0))):=rfl
 rw [e,e2]
 have q2:=cntE_int x.2.2.1
 have q3:=cntE_int x.2.2.2.1
 omega
theorem cnt_Rate (x:DRate):mRate.cnt x≤6*(1+rRate.tot x):=by
 have e:mRate.cnt x=(1+(1+(1+(cntE mI x.2.2.2.1+(1+0))))):=rfl
 have e2:rRate.tot x=(x.1.size+(x.2.1.size+(x.2.2.2.1.length+totE rI x.2.2.2.1+0))):=rfl
 rw [e,e2]
 have q3:=cntE_int x.2.2.2.1
 omega
theorem mkC_Ledger:MkC Tryz.prog gL_markLedger rLedger:=by
 rintro V ⟨c0,c1,c2,c3,cu⟩ ⟨x0,x1,x2,x3,xu⟩ f k hx nd hw ht k0 k1
 obtain⟨w0,z0,rfl,s0,hx⟩:=hx
 replace s0:LR rAcct V c0 x0 w0:=s0
 obtain⟨w1,z1,rfl,s1,hx⟩:=hx
 replace s1:LR rRest V c1 x1 w1:=s1
 obtain⟨⟨e2,_⟩,hx⟩:=hx
 replace e2:c2=x2:=e2
 subst e2
 obtain⟨w3,z3,rfl,s3,hx⟩:=hx
 replace s3:LR rRate V c3 x3 w3:=s3
 replace hx:_=[]:=hx
 subst hx
 have et:rLedger.tot (x0,x1,c2,x3,xu)=(x0.length+totE rAcct x0+(x1.length+totE rRest x1+(c2.size+(x3.length+totE rRate x3+0)))):=rfl
 rw [et] at ht
 have q0:=cntE_le cnt_Acct x0
 have q1:=cntE_le cnt_Rest x1
 have q3:=cntE_le cnt_Rate x3
 have n0:=List.nodup_append.1 nd
 have n1:=List.nodup_append.1 n0.2.1
 have n3:=List.nodup_append.1 n1.2.1
 refine(cL_markLedger V c0 c1 c2 c3 x0 x1 x3 w0 w1 w3 k s0 s1 s3 n0.1 (fun y hy=>hw y (by simp [hy])) n1.1 (fun y hy=>hw y (by simp [hy])) n3.1 (fun y hy=>hw y (by simp [hy])) (fun y hy hm=>n0.2.2 y hy y (by simp [hm]) rfl) (fun y hy hm=>n0.2.2 y hy y (by simp [hm]) rfl) (fun y hy hm=>n1.2.2 y hy y (by simp [hm]) rfl) k0 (by omega)).mono ?_
 rintro V1 _ ⟨hb,rfl,y0,y1,y3,⟨M0,W0,k0k,n0n⟩,⟨M1,W1,k1k,n1n⟩,⟨M3,W3,k3k,n3n⟩⟩
 exact⟨hb,((cntE mAcct x0:Nat):Int)+((cntE mRest x1:Nat):Int)+((cntE mRate x3:Nat):Int),congrArg (Value.int .i64) (by omega),by omega,by omega⟩
theorem mkH_Ledger:MkH Tryz.prog gL_markLedger gL_heldLedger rLedger:=by
 rintro V ⟨c0,c1,c2,c3,cu⟩ ⟨x0,x1,x2,x3,xu⟩ f k hx nd hw ht k0 k1
 obtain⟨w0,z0,rfl,s0,hx⟩:=hx
 replace s0:LR rAcct V c0 x0 w0:=s0
 obtain⟨w1,z1,rfl,s1,hx⟩:=hx
 replace s1:LR rRest V c1 x1 w1:=s1
 obtain⟨⟨e2,_⟩,hx⟩:=hx
 replace e2:c2=x2:=e2
 subst e2
 obtain⟨w3,z3,rfl,s3,hx⟩:=hx
 replace s3:LR rRate V c3 x3 w3:=s3
 replace hx:_=[]:=hx
 subst hx
 have et:rLedger.tot (x0,x1,c2,x3,xu)=(x0.length+totE rAcct x0+(x1.length+totE rRest x1+(c2.size+(x3.length+totE rRate x3+0)))):=rfl
 rw [et] at ht
 have q0:=cntE_le cnt_Acct x0
 have q1:=cntE_le cnt_Rest x1
 have q3:=cntE_le cnt_Rate x3
 have n0:=List.nodup_append.1 nd
 have n1:=List.nodup_append.1 n0.2.1
 have n3:=List.nodup_append.1 n1.2.1
 refine(cL_markLedger V c0 c1 c2 c3 x0 x1 x3 w0 w1 w3 k s0 s1 s3 n0.1 (fun y hy=>hw y (by simp [hy])) n1.1 (fun y hy=>hw y (by simp [hy])) n3.1 (fun y hy=>hw y (by simp [hy])) (fun y hy hm=>n0.2.2 y hy y (by simp [hm]) rfl) (fun y hy hm=>n0.2.2 y hy y (by simp [hm]) rfl) (fun y hy hm=>n1.2.2 y hy y (by simp [hm]) rfl) k0 (by omega)).mono ?_
 rintro V1 _ ⟨hb,rfl,y0,y1,y3,⟨M0,W0,k0k,n0n⟩,⟨M1,W1,k1k,n1n⟩,⟨M3,W3,k3k,n3n⟩⟩
 refine⟨hb,fun y hy=>?_,((cntE mAcct x0:Nat):Int)+((cntE mRest x1:Nat):Int)+((cntE mRate x3:Nat):Int),congrArg (Value.int .i64) (by omega),by omega,by omega,fun V2 he=>?_⟩
 ·simp only [List.mem_append,List.not_mem_nil,or_false] at hy
  rcases hy with hy | hy
  ·exact W0 y hy
  rcases hy with hy | hy
  ·exact W1 y hy
  exact W3 y hy
 rw [← n0n] at k1k
 rw [← n0n,← n1n] at k3k
 have key:=cL_heldLedger V2 c0 c1 c2 c3 y0 y1 y3 w0 w1 w3 k (M0.loc fun y hy=>he y (by simp [hy])) (M1.loc fun y hy=>he y (by simp [hy])) (M3.loc fun y hy=>he y (by simp [hy])) k0 (by rw [n0n,n1n,n3n]; omega) k0k k1k k3k
 rw [n0n,n1n,n3n] at key
 refine key.mono ?_
 rintro V3 _ ⟨le3,rfl⟩
 exact⟨le3,congrArg (Value.int .i64) (by omega)⟩
end Go.Proofs.YtccnjccabllcaaaGreatDoor
