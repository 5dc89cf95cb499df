/-
  The order of texts; a valid ledger is small.
-/
import Derived.Test.YtmogkainbglpnaaGreatDoorSumM
import Derived.WalkKit
import Derived.LaidEql
import Derived.Stop.Asserts
import Derived.RowKitTokens
import Derived.OneCell
import Derived.Below
import Derived.Test.YtmogkainbglpnaaGreatDoorTotA
namespace Go.Proofs.YtmogkainbglpnaaGreatDoor
open Sx
set_option maxRecDepth 100000
def TabD (l:List DRate):Prop:=∀ r∈l,valN r.2.2.2.1≤3000∧r.2.2.2.2.1≤4
theorem step_small {l:List DRate} (h:RatesG l) (k:TabD l) (a b:ByteArray):stepS l a b≤10000∧stepD l a b≤10000:=by
 have key:∀ r:DRate,(∃ i,∃ hi:i<l.length,l[i]=r)→sval r.2.2.1 r.2.2.2.1≤10000∧ten r.2.2.2.2.1.toNat≤10000:=by
  rintro r ⟨i,hi,rfl⟩
  obtain⟨_,hr⟩:=h i hi
  obtain⟨n1,_⟩:=rate_num hr
  obtain⟨k1,k2⟩:=k _ (List.getElem_mem hi)
  have ht:=ten_mono (show l[i].2.2.2.2.1.toNat≤4 by omega)
  have e4:ten 4=10000:=by decide
  have e2:sval l[i].2.2.1 l[i].2.2.2.1=valN l[i].2.2.2.1:=by rw [n1]; unfold sval; simp
  rw [e2]
  exact⟨by omega,by omega⟩
 unfold stepS stepD
 cases h1:lkR l a b with
 | some r=>exact key r (lkR_mem h1)
 | none =>
  cases h2:lkR l b a with
  | some r =>
   have:=key r (lkR_mem h2)
   exact⟨this.2,this.1⟩
  | none=>exact⟨by decide,by decide⟩
theorem unit_small {l:List DRate} (h:RatesG l) (k:TabD l) (p a b:ByteArray):unitS p l a b≤1000000000000∧unitD p l a b≤1000000000000:=by
 obtain⟨a1,_,a3,_⟩:=step_bd h a b
 obtain⟨b1,_,b3,_⟩:=step_bd h a p
 obtain⟨c1,_,c3,_⟩:=step_bd h p b
 obtain⟨a2,a4⟩:=step_small h k a b
 obtain⟨b2,b4⟩:=step_small h k a p
 obtain⟨c2,c4⟩:=step_small h k p b
 have m1:=mulP_bd ⟨b1,b2⟩ ⟨c1,c2⟩
 have m2:=mulP_bd ⟨b3,b4⟩ ⟨c3,c4⟩
 have r1:0<rateS p l a b∧rateS p l a b≤100000000:=by
  unfold rateS
  split
  ·exact⟨by decide,by decide⟩
  ·split
   ·exact⟨m1.1,by omega⟩
   ·exact⟨a1,by omega⟩
 have r2:0<rateD p l a b∧rateD p l a b≤100000000:=by
  unfold rateD
  split
  ·exact⟨by decide,by decide⟩
  ·split
   ·exact⟨m2.1,by omega⟩
   ·exact⟨a3,by omega⟩
 have u1:=mulP_bd r1 (unit_bd b)
 have u2:=mulP_bd r2 (unit_bd a)
 unfold unitS unitD
 exact⟨by omega,by omega⟩
theorem rnd_near {m:Int} {neg:Bool} {n d:Int} (hd:0<d):-d<n-rndN m neg n d*d∧n-rndN m neg n d*d<d:=by
 have e:=Int.mul_ediv_add_emod n d
 have h0:=Int.emod_nonneg n (show d≠0 by omega)
 have h1:=Int.emod_lt_of_pos n hd
 have e2:n / d*d=d*(n / d):=Int.mul_comm _ _
 rcases rnd_cases m neg n d with ⟨q,_⟩ | q
 ·rw [q,Int.add_mul,Int.one_mul,e2]; omega
 ·rw [q,e2]; omega
theorem left_near {m:Int} {x y:DRat} {e:Bool} {q:List Lim} (hx:RatOkP x.1 x.2.1 x.2.2.1) (h:RndP m x e q) (hl:LeftP x e q y):((sval y.1 y.2.1).natAbs:Int)<valN y.2.2.1:=by
 have hd:=den_pos hx
 obtain⟨v,p,_⟩:=redS_val hd hl
 obtain⟨h1,h2⟩:=rnd_near (m:=m) (neg:=x.1) (n:=valN x.2.1) hd
 rw [← h.2.1] at h1 h2
 have h3:(sval x.1 x.2.1-sval e q*valN x.2.2.1).natAbs<valN x.2.2.1:=by
  rw [(rnd_len hx h).2.2]
  unfold sval
  split
  ·rw [Int.neg_mul]; omega
  ·omega
 have h4:=congrArg Int.natAbs v
 rw [Int.natAbs_mul,Int.natAbs_mul] at h4
 have h5:=congrArg (Nat.cast (R:=Int)) h4
 rw [Int.natCast_mul,Int.natCast_mul,Int.natAbs_of_nonneg (show 0≤valN x.2.2.1 by omega),Int.natAbs_of_nonneg (show 0≤valN y.2.2.1 by omega)] at h5
 refine Int.lt_of_mul_lt_mul_right (a:=valN x.2.2.1) ?_ (by omega)
 rw [h5,Int.mul_comm (valN y.2.2.1)]
 exact Int.mul_lt_mul_of_pos_right h3 p
theorem left_sum {S D:Int} {x w y ra:DRat} {e g:Bool} {q:List Lim} (hD:0<D) (hx:RedS S D x true) (hl:LeftP x e q ra) (hw:RedS (sval e q) 1 w true)
  (hy:RedS (sval w.1 w.2.1*valN ra.2.2.1+sval ra.1 ra.2.1*valN w.2.2.1) (valN w.2.2.1*valN ra.2.2.1) y g):y=x∧g=true:=by
 obtain⟨v,p,_⟩:=redS_val hD hx
 have k:=redS_sum (by decide) p hw hl hy
 rw [Int.mul_one,Int.one_mul,show sval e q*valN x.2.2.1+(sval x.1 x.2.1-sval e q*valN x.2.2.1)=sval x.1 x.2.1 by omega] at k
 exact redS_inj hD (redS_cross p hD v k) hx
def SwapP (p:ByteArray) (l:List DRate) (m:DMoney) (to:ByteArray) (mo:DMoney) (ra:DRat) (c:Int):Prop :=
 (c=1∧known m.1=false)∨(c=2∧known m.1=true∧how p l m.1 to=0) ∨
 (c=0∧known m.1=true∧how p l m.1 to≠0∧MoneyOkP mo.1 mo.2.1 mo.2.2.1∧mo.1=to∧RatOkP ra.1 ra.2.1 ra.2.2.1∧((sval ra.1 ra.2.1).natAbs:Int)<valN ra.2.2.1∧∃ x,RedS (exS p l m to) (exD p l m to) x true ∧
  ∀ w y g,RedS (sval mo.2.1 mo.2.2.1) 1 w true→RedS (sval w.1 w.2.1*valN ra.2.2.1+sval ra.1 ra.2.1*valN w.2.2.1) (valN w.2.2.1*valN ra.2.2.1) y g→y=x∧g=true)
theorem conv_swap {p:ByteArray} {l:List DRate} {to:ByteArray} {m:DMoney} {md:Int} (ok:RatesOkP p l) (td:TabD l) (kt:known to=true) (hmd:RmP md) (hm:known m.1=true→MoneyOkP m.1 m.2.1 m.2.2.1) (s0:0≤sval m.2.1 m.2.2.1) (s1:sval m.2.1 m.2.2.1≤60000)
  {mo:DMoney} {ra:DRat} {c:Int} (k:ConvP p l [m] to md mo ra c):SwapP p l m to mo ra c:=by
 have G:=ratesG ok
 obtain⟨u0,_⟩:=unitS_bd G p m.1 to
 obtain⟨d0,_⟩:=unitD_bd G p m.1 to
 obtain⟨u1,d1⟩:=unit_small G td p m.1 to
 have hD:exD p l m to=unitD p l m.1 to:=rfl
 have b0:0≤exS p l m to:=Int.mul_nonneg s0 (by omega)
 have b1:exS p l m to≤60000*1000000000000:=Int.mul_le_mul s1 u1 (by omega) (by omega)
 have e4:(1000000000:Int) ^ 4=1000000000000000000000000000000000000:=by decide
 unfold ConvP at k
 rw [mons_1m,hows_1m] at k
 have run:∀ {x g},Run p l to [m] nought x g→g=true∧RedS (exS p l m to) (exD p l m to) x true∧x.2.1.length≤4:=by
  rintro x g ⟨z,e,t,h⟩
  have r1:=step_red G (by decide) nought_red t
  rw [Int.zero_mul,Int.zero_add,Int.mul_one,Int.one_mul] at r1
  obtain⟨rfl,n1,_⟩:=redS_len (by omega) r1 4 (by omega) (by omega) (by omega) (by omega)
  rcases h with ⟨_,rfl,rfl⟩ | ⟨c,_⟩
  ·exact⟨rfl,r1,n1⟩
  ·cases c
 rcases k with ⟨f,_,_,d⟩ | ⟨f,w,_,_,d⟩ | ⟨f,w,x,r,okk,o,d⟩ | ⟨f,w,⟨x,r⟩,a,b,d⟩
 ·refine .inl ⟨d,?_⟩
  cases h:known m.1 with
  | false=>rfl
  | true=>exact absurd ⟨⟨ok,kt,hmd⟩,hm h⟩ f
 ·exact .inr (.inl ⟨d,f.2.1,Decidable.not_not.1 w⟩)
 ·obtain⟨_,hx,n1⟩:=run r
  have okx:=run_ok G nought_ok r
  obtain⟨e,q,hq,hc⟩:=o
  have hle:=rnd_le (m:=md) (neg:=x.1) (valN_nonneg okx.1.1.1.1) (den_pos okx)
  have nq:=can_len okx.1.1.1 hq.1 (by rw [hq.2.1]; exact hle)
  rcases hc with ⟨hl,rfl,rfl,hL⟩ | ⟨c,_⟩
  ·refine .inr (.inr ⟨d,f.2.1,w,⟨kt,(rnd_len okx hq).2.1,hl⟩,rfl,redS_ok (den_pos okx) hL rfl,left_near okx hq hL,x,hx,fun w y g hw hy=>left_sum (by omega) hx hL hw hy⟩)
  ·exact absurd (show q.length≤4 by omega) c
 ·have:=(run r).1
  cases this
end Go.Proofs.YtmogkainbglpnaaGreatDoor
namespace Go.Proofs.YtmogkainbglpnaaGreatDoor
open Sx Go.RowKit Go.Extern.Stop Go.Stop Go.Extern
set_option maxRecDepth 100000
abbrev eT:Nat:=120
abbrev eP:Nat:=124
abbrev rT:Nat:=194
abbrev eE:Nat:=78
abbrev eV:Nat:=167
abbrev hB:Nat:=2
def hasErr (V:Know):Prop:=∃ t,V 0=some ([.iface rT (.agg #[.pointer (some ⟨hB,eE,none⟩)])],t)
theorem hasErr.le {V V':Know} (h:hasErr V) (hle:V.le V'):hasErr V':=let ⟨t,ht⟩:=h; ⟨t,hle _ _ ht⟩
theorem as_nil (t:Value) (w:World) :
  Calls Tryz.prog 74 #[.nilIface,t] w fun e w'=>e=.returned (.bool false)∧w'=w:=by
 go_enter Tryz.func74,Tryz.ntmps74
 go_wp2
 go_ret
 exact⟨rfl,rfl⟩
theorem re.valueOfP (t:Addr) (w:World):(ReflectliteValue.unpack (.iface eP (.pointer (some t)))).run Tryz.prog w
  = .ok (.agg #[.pointer (some ⟨hB,eP,none⟩),.pointer (some ⟨w.heap.size,0,none⟩),.int .u64 150]) (w.alloc (.cells #[.pointer (some t)] eP)):=by kernel_rfl
theorem re.typeP (a : Addr) (w : World) : (ReflectliteValue.methodAny (ReflectliteValue.valueError "reflectlite.Value.Type" 0) (fun t _ _ _ => ReflectliteType.toType t) #[.agg #[.pointer (some ⟨hB, eP, none⟩), .pointer (some a), .int .u64 150]]).run Tryz.prog w
  = .ok (.iface rT (.agg #[.pointer (some ⟨hB,eP,none⟩)])) w:=by kernel_rfl
theorem re.methodKind (h : Value) (w : World) : (Go.method 352 rT (.agg #[h]) "Kind").run Tryz.prog w = .ok (197, h) w := by kernel_rfl
theorem re.kindP (w:World):((ReflectliteType.abiMethod fun t=>(fun a:Nat=>Value.int IntKind.u8 (a:Int)) <$> Rtype.kind t) #[.pointer (some ⟨hB,eP,none⟩)]).run Tryz.prog w=.ok (.int .u8 22) w:=by kernel_rfl
theorem re.kindT (w:World):((ReflectliteType.abiMethod fun t=>(fun a:Nat=>Value.int IntKind.u8 (a:Int)) <$> Rtype.kind t) #[.pointer (some ⟨hB,eT,none⟩)]).run Tryz.prog w=.ok (.int .u8 25) w:=by kernel_rfl
theorem rlm (z:Sem Value) (f:TypeId→Addr→Nat→Nat→Sem Value) (v:Value) :
  ReflectliteValue.method z f #[v]=(do match ← ReflectliteValue.parts v with | none=>z | some (t,a,fl)=>f t a fl (fl % 32)):=rfl
theorem re.partsP (a:Addr) (w:World):(ReflectliteValue.parts (.agg #[.pointer (some ⟨hB,eP,none⟩),.pointer (some a),.int .u64 150])).run Tryz.prog w=.ok (some (eP,a,150)) w:=by kernel_rfl
theorem re.isNilP (a p:Addr) (W:World) (ha:W.cell? a=some (.pointer (some p))) :
  (ReflectliteValue.method (ReflectliteValue.valueError "reflectlite.Value.IsNil" 0) ReflectliteValue.isNil #[.agg #[.pointer (some ⟨hB, eP, none⟩), .pointer (some a), .int .u64 150]]).run Tryz.prog W = .ok (.bool false) W := by
 rw [rlm]
 simp only [Sem.run_bind,re.partsP,Result.andThen]
 simp [ReflectliteValue.isNil,loadVar,isAgg,underlying,Tryz.underlying124,ha,Result.andThen]
theorem re.methodElem (h : Value) (w : World) : (Go.method 352 rT (.agg #[h]) "Elem").run Tryz.prog w = .ok (207, .agg #[h]) w := by kernel_rfl
theorem re.methodImplements (h : Value) (w : World) : (Go.method 352 rT (.agg #[h]) "Implements").run Tryz.prog w = .ok (208, .agg #[h]) w := by kernel_rfl
theorem re.methodAssignableTo (h : Value) (w : World) : (Go.method 352 rT (.agg #[h]) "AssignableTo").run Tryz.prog w = .ok (205, .agg #[h]) w := by kernel_rfl
theorem re.elemP (w:World):(ReflectliteType.method ReflectliteType.elem #[.agg #[.pointer (some ⟨hB,eP,none⟩)]]).run Tryz.prog w=.ok (.iface rT (.agg #[.pointer (some ⟨hB,eT,none⟩)])) w:=by kernel_rfl
theorem re.implementsT (w : World) : (ReflectliteType.relation "Implements" ReflectliteType.implements_ #[.agg #[.pointer (some ⟨hB, eT, none⟩)], .iface rT (.agg #[.pointer (some ⟨hB, eE, none⟩)])]).run Tryz.prog w = .ok (.bool true) w := by kernel_rfl
theorem re.typeOfT (v:Value) (w:World):(ReflectliteType.typeOf #[.iface eT v]).run Tryz.prog w=.ok (.iface rT (.agg #[.pointer (some ⟨hB,eT,none⟩)])) w:=by kernel_rfl
theorem re.assignableT (w : World) : (ReflectliteType.relation "AssignableTo" ReflectliteType.assignableTo #[.agg #[.pointer (some ⟨hB, eT, none⟩)], .iface rT (.agg #[.pointer (some ⟨hB, eT, none⟩)])]).run Tryz.prog w = .ok (.bool true) w := by kernel_rfl
theorem re.valueOfT (c:Int) (w:World):(ReflectliteValue.unpack (.iface eT (.agg #[.int .i64 c]))).run Tryz.prog w
  = .ok (.agg #[.pointer (some ⟨hB,eT,none⟩),.pointer (some ⟨w.heap.size,0,none⟩),.int .u64 153]) (w.alloc (.cells #[.int .i64 c] eT)):=by kernel_rfl
theorem re.elemOfP (w:World):(Rtype.elem? eP).run Tryz.prog w=.ok (some eT) w:=by kernel_rfl
theorem re.mkT (p:Addr) (w:World):(ReflectliteValue.mk eT p ReflectliteValue.flagAddr).run Tryz.prog w=.ok (.agg #[.pointer (some ⟨hB,eT,none⟩),.pointer (some p),.int .u64 409]) w:=by kernel_rfl
theorem re.elemV (a p:Addr) (W:World) (ha:W.cell? a=some (.pointer (some p))) :
  (ReflectliteValue.method (ReflectliteValue.valueError "reflectlite.Value.Elem" 0) ReflectliteValue.elem #[.agg #[.pointer (some ⟨hB, eP, none⟩), .pointer (some a), .int .u64 150]]).run Tryz.prog W
   = .ok (.agg #[.pointer (some ⟨hB,eT,none⟩),.pointer (some p),.int .u64 409]) W:=by
 rw [rlm]
 simp only [Sem.run_bind,re.partsP,Result.andThen]
 simp [ReflectliteValue.elem,loadVar,isAgg,underlying,Tryz.underlying124,ha,Result.andThen,re.elemOfP,re.mkT]
theorem rls (v x:Value):ReflectliteValue.set #[v,x]=(do
  let (some (dst,a,fl),some (src,b,_)):=(← ReflectliteValue.parts v,← ReflectliteValue.parts x)
   | unsupported (.noEntry "extern/(internal/reflectlite.Value).Set.zeroValue")
  if fl / ReflectliteValue.flagAddr % 2 == 0 then unsupported (.noEntry "extern/(internal/reflectlite.Value).Set.unaddressable")
  let val ← loadVar src b
  if ← Rtype.directlyAssignable dst src then storeVar dst a val
  else if ← Rtype.implements dst src then
   if (← Rtype.kind src) == 20 then
    match val with
    | .nilIface => unsupported (.noEntry "extern/reflectlite: a nil value of one interface type handed on as a value of another")
    | _=>storeVar dst a val
   else storeVar dst a (.iface src val)
  else panicString ("reflectlite.Set: value of type " ++ (← Rtype.spelt src) ++ " is not assignable to type " ++ (← Rtype.spelt dst))
  pure (.tuple #[])):=rfl
theorem re.partsTa (a:Addr) (w:World):(ReflectliteValue.parts (.agg #[.pointer (some ⟨hB,eT,none⟩),.pointer (some a),.int .u64 409])).run Tryz.prog w=.ok (some (eT,a,409)) w:=by kernel_rfl
theorem re.partsT (a:Addr) (w:World):(ReflectliteValue.parts (.agg #[.pointer (some ⟨hB,eT,none⟩),.pointer (some a),.int .u64 153])).run Tryz.prog w=.ok (some (eT,a,153)) w:=by kernel_rfl
theorem re.direct (w:World):(Rtype.directlyAssignable eT eT).run Tryz.prog w=.ok true w:=by kernel_rfl
theorem re.loadT (b:Addr) (c:Int) (W:World) (hb:W.cell? b=some (.int .i64 c)):(loadVar eT b).run Tryz.prog W=.ok (.agg #[.int .i64 c]) W :=
 run_loadVar (P:=Tryz.prog) W eT 1 b [.int .i64 c] true (by kernel_rfl) (by kernel_rfl) rfl (fun h=>by cases h) (fun j x hx=>by
  cases j with
  | zero=>simp at hx; subst hx; exact hb
  | succ j=>simp at hx)
theorem re.set (ta b:Addr) (c:Int) (old:Value) (W:World) (hb:W.cell? b=some (.int .i64 c)) (ht:W.cell? ta=some old) (hf:W.frozen? ta=false) :
  (ReflectliteValue.set #[.agg #[.pointer (some ⟨hB,eT,none⟩),.pointer (some ta),.int .u64 409],.agg #[.pointer (some ⟨hB,eT,none⟩),.pointer (some b),.int .u64 153]]).run Tryz.prog W
   = .ok (.tuple #[]) (W.setCell ta (.int .i64 c)):=by
 rw [rls]
 simp only [Sem.run_bind,re.partsTa,re.partsT,Result.andThen]
 simp [ReflectliteValue.flagAddr,re.loadT b c W hb,Result.andThen,re.direct,storeVar,Value.cells,storeCells,Addr.add]
 rw [run_store Tryz.prog W ta _ _ (by rfl)]
 simp [ht,hf]
abbrev wA (t:Addr) (c:Int) (w:World):World:=(((w.alloc (.cells #[.pointer (some t)] eP)).alloc (.cells #[.pointer (some ⟨hB,eP,none⟩),.pointer (some ⟨w.heap.size,0,none⟩),.int .u64 150] eV)).alloc (.cells #[.pointer (some ⟨hB,eP,none⟩),.pointer (some ⟨w.heap.size,0,none⟩),.int .u64 150] eV)).alloc (.cells #[.int .i64 c] eT)
set_option maxHeartbeats 4000000 in
theorem as_hit (c:Int) (t:Addr) (old:Value) (w:World) (hg:w.cell? ⟨0,0,none⟩=some (.iface rT (.agg #[.pointer (some ⟨hB,eE,none⟩)]))) (ht0:w.cell? t=some old) (hf0:w.frozen? t=false) :
  Calls Tryz.prog 74 #[.iface eT (.agg #[.int .i64 c]),.iface eP (.pointer (some t))] w fun ev w'=>ev=.returned (.bool true)∧w'=(wA t c w).setCell t (.int .i64 c):=by
 have h6:=@run_callFunc_extern Tryz.prog 114 _ (fun args=>ReflectliteValue.unpack (args.getD 0 (.tuple #[]))) Tryz.func114 (by kernel_rfl) (by kernel_rfl) (by kernel_rfl) (by kernel_rfl)
 have h7 := @run_callFunc_extern Tryz.prog 115 _ (ReflectliteValue.methodAny (ReflectliteValue.valueError "reflectlite.Value.Type" 0) (fun t _ _ _ => ReflectliteType.toType t)) Tryz.func115 (by kernel_rfl) (by kernel_rfl) (by kernel_rfl) (by kernel_rfl)
 have h8 := @run_callFunc_extern Tryz.prog 116 _ (ReflectliteValue.method (ReflectliteValue.valueError "reflectlite.Value.IsNil" 0) ReflectliteValue.isNil) Tryz.func116 (by kernel_rfl) (by kernel_rfl) (by kernel_rfl) (by kernel_rfl)
 have h27:=@run_callFunc_extern Tryz.prog 197 _ (ReflectliteType.abiMethod fun t=>do pure (.int .u8 (← Rtype.kind t))) Tryz.func197 (by kernel_rfl) (by kernel_rfl) (by kernel_rfl) (by kernel_rfl)
 have h37:=@run_callFunc_extern Tryz.prog 207 _ (ReflectliteType.method ReflectliteType.elem) Tryz.func207 (by kernel_rfl) (by kernel_rfl) (by kernel_rfl) (by kernel_rfl)
 have h38 := @run_callFunc_extern Tryz.prog 208 _ (ReflectliteType.relation "Implements" ReflectliteType.implements_) Tryz.func208 (by kernel_rfl) (by kernel_rfl) (by kernel_rfl) (by kernel_rfl)
 have h10:=@run_callFunc_extern Tryz.prog 143 _ ReflectliteType.typeOf Tryz.func143 (by kernel_rfl) (by kernel_rfl) (by kernel_rfl) (by kernel_rfl)
 have h35 := @run_callFunc_extern Tryz.prog 205 _ (ReflectliteType.relation "AssignableTo" ReflectliteType.assignableTo) Tryz.func205 (by kernel_rfl) (by kernel_rfl) (by kernel_rfl) (by kernel_rfl)
 have h11 := @run_callFunc_extern Tryz.prog 144 _ (ReflectliteValue.method (ReflectliteValue.valueError "reflectlite.Value.Elem" 0) ReflectliteValue.elem) Tryz.func144 (by kernel_rfl) (by kernel_rfl) (by kernel_rfl) (by kernel_rfl)
 have h12:=@run_callFunc_extern Tryz.prog 145 _ ReflectliteValue.set Tryz.func145 (by kernel_rfl) (by kernel_rfl) (by kernel_rfl) (by kernel_rfl)
 have tO:=re.typeOfT
 have mA:=re.methodAssignableTo
 have a25:=re.assignableT
 have v25:=re.valueOfT c
 have f6:=re.valueOfP
 have f7:=re.typeP
 have mK:=re.methodKind
 have mE:=re.methodElem
 have mI:=re.methodImplements
 have k27:=re.kindP
 have k25:=re.kindT
 have e27:=re.elemP
 have i25:=re.implementsT
 have n8:=re.isNilP ⟨w.heap.size,0,none⟩ t ((w.alloc (.cells #[.pointer (some t)] eP)).alloc (.cells #[.pointer (some ⟨hB,eP,none⟩),.pointer (some ⟨w.heap.size,0,none⟩),.int .u64 150] eV)) (by simp)
 have hlt:0<w.heap.size:=by
  rcases Nat.lt_or_ge 0 w.heap.size with h | h0
  ·exact h
  ·simp [World.cell?,Array.getElem?_eq_none h0] at hg
 have hg2:((w.alloc (.cells #[.pointer (some t)] eP)).alloc (.cells #[.pointer (some ⟨hB,eP,none⟩),.pointer (some ⟨w.heap.size,0,none⟩),.int .u64 150] eV)).cell? ⟨0,0,none⟩=some (.iface rT (.agg #[.pointer (some ⟨hB,eE,none⟩)])):=by
  rw [World.cell?_alloc_lt _ _ ⟨0,0,none⟩ (by simp),World.cell?_alloc_lt _ _ ⟨0,0,none⟩ hlt]; exact hg
 have htl:t.block<w.heap.size:=by
  rcases Nat.lt_or_ge t.block w.heap.size with h | h
  ·exact h
  ·simp [World.cell?,Array.getElem?_eq_none h] at ht0
 have el:=re.elemV ⟨w.heap.size,0,none⟩ t (((w.alloc (.cells #[.pointer (some t)] eP)).alloc (.cells #[.pointer (some ⟨hB,eP,none⟩),.pointer (some ⟨w.heap.size,0,none⟩),.int .u64 150] eV)).alloc (.cells #[.pointer (some ⟨hB,eP,none⟩),.pointer (some ⟨w.heap.size,0,none⟩),.int .u64 150] eV)) (by rw [World.cell?_alloc_lt _ _ ⟨w.heap.size,0,none⟩ (by simp; omega),World.cell?_alloc_lt _ _ ⟨w.heap.size,0,none⟩ (by simp)]; simp)
 have st:=re.set t ⟨w.heap.size+1+1+1,0,none⟩ c old (wA t c w)
  (by rw [World.cell?_alloc_at _ _ _ _ (by simp)]; rfl)
  (by rw [World.cell?_alloc_lt _ _ t (by simp; omega),World.cell?_alloc_lt _ _ t (by simp; omega),World.cell?_alloc_lt _ _ t (by simp; omega),World.cell?_alloc_lt _ _ t htl]; exact ht0)
  (by rw [World.frozen?_alloc_old _ _ t (by simp; omega),World.frozen?_alloc_old _ _ t (by simp; omega),World.frozen?_alloc_old _ _ t (by simp; omega),World.frozen?_alloc_old _ _ t (Nat.ne_of_lt htl)]; exact hf0)
 go_enter Tryz.func74,Tryz.ntmps74
 go_wp2
 refine wp_loop_rounds 1 ?_
 rw [rounds_succ]
 go_wp2
 go_ret
 exact⟨rfl,rfl⟩
end Go.Proofs.YtmogkainbglpnaaGreatDoor
namespace Go.Proofs.YtmogkainbglpnaaGreatDoor
open Sx Go.RowKit
set_option maxRecDepth 100000
theorem wA_old (t:Addr) (c:Int) (w:World) (k:Nat) (h:k<w.heap.size):(wA t c w).heap[k]?=w.heap[k]?:=by
 rw [Below.heap_alloc _ _ _ (by simp; omega),Below.heap_alloc _ _ _ (by simp; omega),Below.heap_alloc _ _ _ (by simp; omega),Below.heap_alloc _ _ _ h]
theorem cX_As (V:Know) (c:Int) (b:Nat) (old:Value) (hE:hasErr V) (hb:V b=some ([old],(eT,(0,0)))) :
  CallX Tryz.prog V 74 [.iface eT (.agg #[.int .i64 c]),.iface eP (.pointer (some ⟨b,0,none⟩))] (fun V' r=>V'=kset V b ([.int .i64 c],(eT,(0,0)))∧r=.bool true):=by
 refine⟨⟨_,Tryz.func74,by kernel_rfl,by kernel_rfl⟩,fun w hw=>?_⟩
 obtain⟨te,hte⟩:=hE
 have hg:=hw.cell hte 0 (fun es e=>by simp at e) (by simp)
 have hrow:w.heap[b]?=some (.cells #[old] eT (0,0)):=hw.row hb
 have hlt:b<w.heap.size:=(Array.getElem?_eq_some_iff.1 hrow).1
 have ht0:w.cell? ⟨b,0,none⟩=some old:=by rw [cell_of_row w _ _ _ _ _ hrow]; rfl
 have hf:w.frozen? ⟨b,0,none⟩=false:=by simp [World.frozen?,hrow]
 refine(as_hit c ⟨b,0,none⟩ old w (by rw [hg]; rfl) ht0 hf).mono ?_
 rintro e w' ⟨rfl,rfl⟩
 have hb2:(wA ⟨b,0,none⟩ c w).heap[b]?=some (.cells #[old] eT (0,0)):=by rw [wA_old _ _ _ _ hlt]; exact hrow
 have oth:∀ k,k<w.heap.size→k≠b→((wA ⟨b,0,none⟩ c w).setCell ⟨b,0,none⟩ (.int .i64 c)).heap[k]?=w.heap[k]?:=fun k hk hkb=>by
  rw [Below.heap_setCell _ _ _ _ hkb,wA_old _ _ _ _ hk]
 refine⟨kset V b ([.int .i64 c],(eT,(0,0))),_,rfl,⟨?_,?_,?_,?_,fun k hk hn=>?_,fun k hk hn=>?_⟩,fun k cs t hk=>?_,rfl,rfl⟩
 ·rfl
 ·rfl
 ·rfl
 ·have:(wA ⟨b,0,none⟩ c w).heap.size=w.heap.size+4:=by simp only [World.alloc,Array.size_push]
  have e:((wA ⟨b,0,none⟩ c w).setCell ⟨b,0,none⟩ (.int .i64 c)).heap.size=(wA ⟨b,0,none⟩ c w).heap.size:=by simp only [World.setCell,Array.size_modify]
  omega
 ·exact oth k hk (fun e=>by rw [e,hb] at hn; cases hn)
 ·rw [kset_other (fun e=>by rw [e,hb] at hn; cases hn)]; exact hn
 ·by_cases e:k=b
  ·subst e
   rw [kset_same] at hk
   simp only [Option.some.injEq,Prod.mk.injEq] at hk
   obtain⟨rfl,rfl⟩:=hk
   rw [one_setCell hb2,objOf_rw]
  ·rw [kset_other e] at hk
   have h1:=hw k cs t hk
   rw [oth k (Array.getElem?_eq_some_iff.1 h1).1 e]; exact h1
theorem cX_As0 (V:Know) (t:Value):CallX Tryz.prog V 74 [.nilIface,t] (fun V' r=>V'=V∧r=.bool false):=by
 refine⟨⟨_,Tryz.func74,by kernel_rfl,by kernel_rfl⟩,fun w hw=>(as_nil t w).mono ?_⟩
 rintro e w' ⟨rfl,rfl⟩
 exact⟨V,_,rfl,Fr.refl _ _,hw,rfl,rfl⟩
theorem cI_codeOf (V:Know) (hE:hasErr V) (y:Option (Nat × Int)) (code:Int) (hy:(y=none∧code=0)∨y=some (errT,code)):CallX Tryz.prog V 34 [Sc.val .e y] (fun V' r=>V.le V'∧r=.int .i64 code):=by
 refine CallX.of_fits Tryz.mix (fI_codeOf _) fun _=>?_
 simp only [tI_codeOf,T.wp]
 intro b hb
 have le1:=kset_le (x:=([Value.int .i64 0],(eT,((0,0):Nat × Nat)))) hb
 rcases hy with ⟨rfl,rfl⟩ | rfl
 ·refine(cX_As0 _ _).mono ?_
  rintro V2 _ ⟨rfl,rfl⟩
  exact⟨nofun,false,rfl,nofun,fun _=>⟨le1,rfl⟩⟩
 ·refine(cX_As _ code b (.int .i64 0) (hE.le le1) kset_same).mono ?_
  rintro V2 _ ⟨rfl,rfl⟩
  refine⟨nofun,true,rfl,fun _=>⟨code,?_,?_,rfl⟩,nofun⟩
  ·simp only [loadV,addr_add_eq,Bool.false_eq_true,if_false,kset_same]
   rfl
  ·intro k x hk
   have e:k≠b:=fun e=>by rw [e,hb] at hk; cases hk
   rw [kset_other e,kset_other e]; exact hk
end Go.Proofs.YtmogkainbglpnaaGreatDoor
namespace Go.Proofs.YtmogkainbglpnaaGreatDoor
open Sx
theorem bless_trans:∀ {x y z:List UInt8},Op.bytesLess x y=true→Op.bytesLess y z=true→Op.bytesLess x z=true
 | _,[],_,h,_=>by simp [Op.bytesLess] at h
 | _,_ :: _,[],_,h=>by simp [Op.bytesLess] at h
 | [],_ :: _,_ :: _,_,_=>rfl
 | a :: x,b :: y,c :: z,h,k=>by
  simp only [Op.bytesLess,Bool.or_eq_true,decide_eq_true_eq,Bool.and_eq_true,beq_iff_eq] at h k ⊢
  rcases h with h | ⟨rfl,h⟩
  ·rcases k with k | ⟨rfl,k⟩
   ·exact .inl (UInt8.lt_trans h k)
   ·exact .inl h
  ·rcases k with k | ⟨rfl,k⟩
   ·exact .inl k
   ·exact .inr ⟨rfl,bless_trans h k⟩
theorem bless_tot:∀ (x y:List UInt8),Op.bytesLess x y=true∨x=y∨Op.bytesLess y x=true
 | [],[]=>.inr (.inl rfl)
 | [],_ :: _=>.inl rfl
 | _ :: _,[]=>.inr (.inr rfl)
 | a :: x,b :: y=>by
  simp only [Op.bytesLess,Bool.or_eq_true,decide_eq_true_eq,Bool.and_eq_true,beq_iff_eq,List.cons.injEq]
  rcases UInt8.lt_or_le a b with h | h
  ·exact .inl (.inl h)
  by_cases e:a=b
  ·subst e
   rcases bless_tot x y with k | k | k
   ·exact .inl (.inr ⟨rfl,k⟩)
   ·exact .inr (.inl ⟨rfl,k⟩)
   ·exact .inr (.inr (.inr ⟨rfl,k⟩))
  ·exact .inr (.inr (.inl (UInt8.lt_of_le_of_ne h (fun q=>e q.symm))))
theorem LessP.trans {a b c:ByteArray} (h:LessP a b) (k:LessP b c):LessP a c:=bless_trans h k
theorem LessP.tot {a b:ByteArray} (h:¬ LessP a b) (k:a≠b):LessP b a:=by
 rcases bless_tot a.toList b.toList with q | q | q
 ·exact absurd q h
 ·exact absurd (toList_inj.1 q) k
 ·exact q
theorem known_mem {x:ByteArray} (h:known x=true):x∈curI.map (·.1):=by
 unfold known curFrom at h
 cases hf:(curI.drop 0).find? (curHas x) with
 | none=>rw [hf] at h; cases h
 | some r =>
  have h1:=List.find?_some hf
  have e:r.1=x:=text_eq.1 h1
  rw [← e]
  exact List.mem_map_of_mem (List.mem_of_find?_eq_some hf)
theorem known_sz3 {x:ByteArray} (h:known x=true):x.size≤3:=by
 have:∀ y∈curI.map (·.1),y.size≤3:=by decide +kernel
 exact this x (known_mem h)
def Sorted {α:Type} (key:α→ByteArray) (l:List α):Prop:=∀ (i:Nat) (h:i<l.length),0<i→LessP (key (l[i-1]'(by omega))) (key l[i])
theorem Sorted.lt {α:Type} {key:α→ByteArray} {l:List α} (h:Sorted key l):∀ {i j:Nat} (hj:j<l.length) (hij:i<j),LessP (key (l[i]'(by omega))) (key l[j])
 | i,j+1,hj,hij=>by
  have h1:=h (j+1) hj (by omega)
  by_cases e:i=j
  ·subst e; exact h1
  ·exact(Sorted.lt h (i:=i) (j:=j) (by omega) (by omega)).trans h1
theorem totE_bound {sh:List Sc} {α:Type} {r:Rp sh α} {n:Nat}:∀ {l:List α},(∀ i (h:i<l.length),r.tot l[i]≤n)→totE r l≤l.length*n
 | [],_=>Nat.zero_le _
 | x :: l,h=>by
  have h0:r.tot x≤n:=h 0 (by simp)
  have ih:=totE_bound (r:=r) (l:=l) (n:=n) fun i hi=>by
   have:=h (i+1) (by simpa using hi)
   simpa using this
  rw [totE,List.length_cons,Nat.add_mul]
  omega
theorem int0:∀ l:List Lim,totE rI l=0
 | []=>rfl
 | _ :: l=>by rw [totE,int0 l]; rfl
theorem rate_tot {x:DRate} (h:RateOkP x):rRate.tot x≤8:=by
 have e:rRate.tot x=x.1.size+(x.2.1.size+(x.2.2.2.1.length+totE rI x.2.2.2.1+0)):=rfl
 rw [e,int0]
 have:=known_sz3 h.1
 have:=known_sz3 h.2.1
 have:=h.2.2.2.2.2
 omega
theorem rates_tot {x:DRates} (h:RatesOkP x.1 x.2.1):rRates.tot x≤111:=by
 have e:rRates.tot x=x.1.size+(x.2.1.length+totE rRate x.2.1+0):=rfl
 have b:=totE_bound (r:=rRate) (n:=8) (l:=x.2.1) fun i hi=>rate_tot (h.2.2 i hi).2.1
 have:=known_sz3 h.1
 have:=h.2.1
 rw [e]
 omega
end Go.Proofs.YtmogkainbglpnaaGreatDoor
