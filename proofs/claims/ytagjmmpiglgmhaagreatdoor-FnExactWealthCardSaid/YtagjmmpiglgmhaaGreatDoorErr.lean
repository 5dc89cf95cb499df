/-
  errors.As at an error of a conversion, and the code of an error (turned from the kit's worked proof of errors.As).
-/
import Derived.Test.YtagjmmpiglgmhaaGreatDoorCvC
import Derived.WalkKit
import Derived.LaidEql
import Derived.Stop.Asserts
import Derived.RowKitTokens
import Derived.OneCell
import Derived.Below
namespace Go.Proofs.YtagjmmpiglgmhaaGreatDoor
open Sx Go.RowKit Go.Extern.Stop Go.Stop Go.Extern
set_option maxRecDepth 100000
abbrev eT:Nat:=142
abbrev eP:Nat:=144
abbrev rT:Nat:=224
abbrev eE:Nat:=97
abbrev eV:Nat:=183
abbrev hB:Nat:=2
def hasErr (V:Know):Prop:=∃ t,V 0=some ([.iface rT (.agg #[.pointer (some ⟨hB,eE,none⟩)])],t)
theorem hasErr.le {V V':Know} (h:hasErr V) (hle:V.le V'):hasErr V':=let ⟨t,ht⟩:=h; ⟨t,hle _ _ ht⟩
theorem as_nil (t:Value) (w:World) :
  Calls Tryz.prog 89 #[.nilIface,t] w fun e w'=>e=.returned (.bool false)∧w'=w:=by
 go_enter Tryz.func89,Tryz.ntmps89
 go_wp2
 go_ret
 exact⟨rfl,rfl⟩
theorem re.valueOfP (t:Addr) (w:World):(ReflectliteValue.unpack (.iface eP (.pointer (some t)))).run Tryz.prog w
  = .ok (.agg #[.pointer (some ⟨hB,eP,none⟩),.pointer (some ⟨w.heap.size,0,none⟩),.int .u64 150]) (w.alloc (.cells #[.pointer (some t)] eP)):=by kernel_rfl
theorem re.typeP (a : Addr) (w : World) : (ReflectliteValue.methodAny (ReflectliteValue.valueError "reflectlite.Value.Type" 0) (fun t _ _ _ => ReflectliteType.toType t) #[.agg #[.pointer (some ⟨hB, eP, none⟩), .pointer (some a), .int .u64 150]]).run Tryz.prog w
  = .ok (.iface rT (.agg #[.pointer (some ⟨hB,eP,none⟩)])) w:=by kernel_rfl
theorem re.methodKind (h : Value) (w : World) : (Go.method 387 rT (.agg #[h]) "Kind").run Tryz.prog w = .ok (240, h) w := by kernel_rfl
theorem re.kindP (w:World):((ReflectliteType.abiMethod fun t=>(fun a:Nat=>Value.int IntKind.u8 (a:Int)) <$> Rtype.kind t) #[.pointer (some ⟨hB,eP,none⟩)]).run Tryz.prog w=.ok (.int .u8 22) w:=by kernel_rfl
theorem re.kindT (w:World):((ReflectliteType.abiMethod fun t=>(fun a:Nat=>Value.int IntKind.u8 (a:Int)) <$> Rtype.kind t) #[.pointer (some ⟨hB,eT,none⟩)]).run Tryz.prog w=.ok (.int .u8 25) w:=by kernel_rfl
theorem rlm (z:Sem Value) (f:TypeId→Addr→Nat→Nat→Sem Value) (v:Value) :
  ReflectliteValue.method z f #[v]=(do match ← ReflectliteValue.parts v with | none=>z | some (t,a,fl)=>f t a fl (fl % 32)):=rfl
theorem re.partsP (a:Addr) (w:World):(ReflectliteValue.parts (.agg #[.pointer (some ⟨hB,eP,none⟩),.pointer (some a),.int .u64 150])).run Tryz.prog w=.ok (some (eP,a,150)) w:=by kernel_rfl
theorem re.isNilP (a p:Addr) (W:World) (ha:W.cell? a=some (.pointer (some p))) :
  (ReflectliteValue.method (ReflectliteValue.valueError "reflectlite.Value.IsNil" 0) ReflectliteValue.isNil #[.agg #[.pointer (some ⟨hB, eP, none⟩), .pointer (some a), .int .u64 150]]).run Tryz.prog W = .ok (.bool false) W := by
 rw [rlm]
 simp only [Sem.run_bind,re.partsP,Result.andThen]
 simp [ReflectliteValue.isNil,loadVar,isAgg,underlying,Tryz.underlying144,ha,Result.andThen]
theorem re.methodElem (h : Value) (w : World) : (Go.method 387 rT (.agg #[h]) "Elem").run Tryz.prog w = .ok (250, .agg #[h]) w := by kernel_rfl
theorem re.methodImplements (h : Value) (w : World) : (Go.method 387 rT (.agg #[h]) "Implements").run Tryz.prog w = .ok (251, .agg #[h]) w := by kernel_rfl
theorem re.methodAssignableTo (h : Value) (w : World) : (Go.method 387 rT (.agg #[h]) "AssignableTo").run Tryz.prog w = .ok (248, .agg #[h]) w := by kernel_rfl
theorem re.elemP (w:World):(ReflectliteType.method ReflectliteType.elem #[.agg #[.pointer (some ⟨hB,eP,none⟩)]]).run Tryz.prog w=.ok (.iface rT (.agg #[.pointer (some ⟨hB,eT,none⟩)])) w:=by kernel_rfl
theorem re.implementsT (w : World) : (ReflectliteType.relation "Implements" ReflectliteType.implements_ #[.agg #[.pointer (some ⟨hB, eT, none⟩)], .iface rT (.agg #[.pointer (some ⟨hB, eE, none⟩)])]).run Tryz.prog w = .ok (.bool true) w := by kernel_rfl
theorem re.typeOfT (v:Value) (w:World):(ReflectliteType.typeOf #[.iface eT v]).run Tryz.prog w=.ok (.iface rT (.agg #[.pointer (some ⟨hB,eT,none⟩)])) w:=by kernel_rfl
theorem re.assignableT (w : World) : (ReflectliteType.relation "AssignableTo" ReflectliteType.assignableTo #[.agg #[.pointer (some ⟨hB, eT, none⟩)], .iface rT (.agg #[.pointer (some ⟨hB, eT, none⟩)])]).run Tryz.prog w = .ok (.bool true) w := by kernel_rfl
theorem re.valueOfT (c:Int) (w:World):(ReflectliteValue.unpack (.iface eT (.agg #[.int .i64 c]))).run Tryz.prog w
  = .ok (.agg #[.pointer (some ⟨hB,eT,none⟩),.pointer (some ⟨w.heap.size,0,none⟩),.int .u64 153]) (w.alloc (.cells #[.int .i64 c] eT)):=by kernel_rfl
theorem re.elemOfP (w:World):(Rtype.elem? eP).run Tryz.prog w=.ok (some eT) w:=by kernel_rfl
theorem re.mkT (p:Addr) (w:World):(ReflectliteValue.mk eT p ReflectliteValue.flagAddr).run Tryz.prog w=.ok (.agg #[.pointer (some ⟨hB,eT,none⟩),.pointer (some p),.int .u64 409]) w:=by kernel_rfl
theorem re.elemV (a p:Addr) (W:World) (ha:W.cell? a=some (.pointer (some p))) :
  (ReflectliteValue.method (ReflectliteValue.valueError "reflectlite.Value.Elem" 0) ReflectliteValue.elem #[.agg #[.pointer (some ⟨hB, eP, none⟩), .pointer (some a), .int .u64 150]]).run Tryz.prog W
   = .ok (.agg #[.pointer (some ⟨hB,eT,none⟩),.pointer (some p),.int .u64 409]) W:=by
 rw [rlm]
 simp only [Sem.run_bind,re.partsP,Result.andThen]
 simp [ReflectliteValue.elem,loadVar,isAgg,underlying,Tryz.underlying144,ha,Result.andThen,re.elemOfP,re.mkT]
theorem rls (v x:Value):ReflectliteValue.set #[v,x]=(do
  let (some (dst,a,fl),some (src,b,_)):=(← ReflectliteValue.parts v,← ReflectliteValue.parts x)
   | unsupported (.noEntry "extern/(internal/reflectlite.Value).Set.zeroValue")
  if fl / ReflectliteValue.flagAddr % 2 == 0 then unsupported (.noEntry "extern/(internal/reflectlite.Value).Set.unaddressable")
  let val ← loadVar src b
  if ← Rtype.directlyAssignable dst src then storeVar dst a val
  else if ← Rtype.implements dst src then
   if (← Rtype.kind src) == 20 then
    match val with
    | .nilIface => unsupported (.noEntry "extern/reflectlite: a nil value of one interface type handed on as a value of another")
    | _=>storeVar dst a val
   else storeVar dst a (.iface src val)
  else panicString ("reflectlite.Set: value of type " ++ (← Rtype.spelt src) ++ " is not assignable to type " ++ (← Rtype.spelt dst))
  pure (.tuple #[])):=rfl
theorem re.partsTa (a:Addr) (w:World):(ReflectliteValue.parts (.agg #[.pointer (some ⟨hB,eT,none⟩),.pointer (some a),.int .u64 409])).run Tryz.prog w=.ok (some (eT,a,409)) w:=by kernel_rfl
theorem re.partsT (a:Addr) (w:World):(ReflectliteValue.parts (.agg #[.pointer (some ⟨hB,eT,none⟩),.pointer (some a),.int .u64 153])).run Tryz.prog w=.ok (some (eT,a,153)) w:=by kernel_rfl
theorem re.direct (w:World):(Rtype.directlyAssignable eT eT).run Tryz.prog w=.ok true w:=by kernel_rfl
theorem re.loadT (b:Addr) (c:Int) (W:World) (hb:W.cell? b=some (.int .i64 c)):(loadVar eT b).run Tryz.prog W=.ok (.agg #[.int .i64 c]) W :=
 run_loadVar (P:=Tryz.prog) W eT 1 b [.int .i64 c] true (by kernel_rfl) (by kernel_rfl) rfl (fun h=>by cases h) (fun j x hx=>by
  cases j with
  | zero=>simp at hx; subst hx; exact hb
  | succ j=>simp at hx)
theorem re.set (ta b:Addr) (c:Int) (old:Value) (W:World) (hb:W.cell? b=some (.int .i64 c)) (ht:W.cell? ta=some old) (hf:W.frozen? ta=false) :
  (ReflectliteValue.set #[.agg #[.pointer (some ⟨hB,eT,none⟩),.pointer (some ta),.int .u64 409],.agg #[.pointer (some ⟨hB,eT,none⟩),.pointer (some b),.int .u64 153]]).run Tryz.prog W
   = .ok (.tuple #[]) (W.setCell ta (.int .i64 c)):=by
 rw [rls]
 simp only [Sem.run_bind,re.partsTa,re.partsT,Result.andThen]
 simp [ReflectliteValue.flagAddr,re.loadT b c W hb,Result.andThen,re.direct,storeVar,Value.cells,storeCells,Addr.add]
 rw [run_store Tryz.prog W ta _ _ (by rfl)]
 simp [ht,hf]
abbrev wA (t:Addr) (c:Int) (w:World):World:=(((w.alloc (.cells #[.pointer (some t)] eP)).alloc (.cells #[.pointer (some ⟨hB,eP,none⟩),.pointer (some ⟨w.heap.size,0,none⟩),.int .u64 150] eV)).alloc (.cells #[.pointer (some ⟨hB,eP,none⟩),.pointer (some ⟨w.heap.size,0,none⟩),.int .u64 150] eV)).alloc (.cells #[.int .i64 c] eT)
set_option maxHeartbeats 4000000 in
theorem as_hit (c:Int) (t:Addr) (old:Value) (w:World) (hg:w.cell? ⟨0,0,none⟩=some (.iface rT (.agg #[.pointer (some ⟨hB,eE,none⟩)]))) (ht0:w.cell? t=some old) (hf0:w.frozen? t=false) :
  Calls Tryz.prog 89 #[.iface eT (.agg #[.int .i64 c]),.iface eP (.pointer (some t))] w fun ev w'=>ev=.returned (.bool true)∧w'=(wA t c w).setCell t (.int .i64 c):=by
 have h6:=@run_callFunc_extern Tryz.prog 138 _ (fun args=>ReflectliteValue.unpack (args.getD 0 (.tuple #[]))) Tryz.func138 (by kernel_rfl) (by kernel_rfl) (by kernel_rfl) (by kernel_rfl)
 have h7 := @run_callFunc_extern Tryz.prog 139 _ (ReflectliteValue.methodAny (ReflectliteValue.valueError "reflectlite.Value.Type" 0) (fun t _ _ _ => ReflectliteType.toType t)) Tryz.func139 (by kernel_rfl) (by kernel_rfl) (by kernel_rfl) (by kernel_rfl)
 have h8 := @run_callFunc_extern Tryz.prog 140 _ (ReflectliteValue.method (ReflectliteValue.valueError "reflectlite.Value.IsNil" 0) ReflectliteValue.isNil) Tryz.func140 (by kernel_rfl) (by kernel_rfl) (by kernel_rfl) (by kernel_rfl)
 have h27:=@run_callFunc_extern Tryz.prog 240 _ (ReflectliteType.abiMethod fun t=>do pure (.int .u8 (← Rtype.kind t))) Tryz.func240 (by kernel_rfl) (by kernel_rfl) (by kernel_rfl) (by kernel_rfl)
 have h37:=@run_callFunc_extern Tryz.prog 250 _ (ReflectliteType.method ReflectliteType.elem) Tryz.func250 (by kernel_rfl) (by kernel_rfl) (by kernel_rfl) (by kernel_rfl)
 have h38 := @run_callFunc_extern Tryz.prog 251 _ (ReflectliteType.relation "Implements" ReflectliteType.implements_) Tryz.func251 (by kernel_rfl) (by kernel_rfl) (by kernel_rfl) (by kernel_rfl)
 have h10:=@run_callFunc_extern Tryz.prog 184 _ ReflectliteType.typeOf Tryz.func184 (by kernel_rfl) (by kernel_rfl) (by kernel_rfl) (by kernel_rfl)
 have h35 := @run_callFunc_extern Tryz.prog 248 _ (ReflectliteType.relation "AssignableTo" ReflectliteType.assignableTo) Tryz.func248 (by kernel_rfl) (by kernel_rfl) (by kernel_rfl) (by kernel_rfl)
 have h11 := @run_callFunc_extern Tryz.prog 185 _ (ReflectliteValue.method (ReflectliteValue.valueError "reflectlite.Value.Elem" 0) ReflectliteValue.elem) Tryz.func185 (by kernel_rfl) (by kernel_rfl) (by kernel_rfl) (by kernel_rfl)
 have h12:=@run_callFunc_extern Tryz.prog 186 _ ReflectliteValue.set Tryz.func186 (by kernel_rfl) (by kernel_rfl) (by kernel_rfl) (by kernel_rfl)
 have tO:=re.typeOfT
 have mA:=re.methodAssignableTo
 have a25:=re.assignableT
 have v25:=re.valueOfT c
 have f6:=re.valueOfP
 have f7:=re.typeP
 have mK:=re.methodKind
 have mE:=re.methodElem
 have mI:=re.methodImplements
 have k27:=re.kindP
 have k25:=re.kindT
 have e27:=re.elemP
 have i25:=re.implementsT
 have n8:=re.isNilP ⟨w.heap.size,0,none⟩ t ((w.alloc (.cells #[.pointer (some t)] eP)).alloc (.cells #[.pointer (some ⟨hB,eP,none⟩),.pointer (some ⟨w.heap.size,0,none⟩),.int .u64 150] eV)) (by simp)
 have hlt:0<w.heap.size:=by
  rcases Nat.lt_or_ge 0 w.heap.size with h | h0
  ·exact h
  ·simp [World.cell?,Array.getElem?_eq_none h0] at hg
 have hg2:((w.alloc (.cells #[.pointer (some t)] eP)).alloc (.cells #[.pointer (some ⟨hB,eP,none⟩),.pointer (some ⟨w.heap.size,0,none⟩),.int .u64 150] eV)).cell? ⟨0,0,none⟩=some (.iface rT (.agg #[.pointer (some ⟨hB,eE,none⟩)])):=by
  rw [World.cell?_alloc_lt _ _ ⟨0,0,none⟩ (by simp),World.cell?_alloc_lt _ _ ⟨0,0,none⟩ hlt]; exact hg
 have htl:t.block<w.heap.size:=by
  rcases Nat.lt_or_ge t.block w.heap.size with h | h
  ·exact h
  ·simp [World.cell?,Array.getElem?_eq_none h] at ht0
 have el:=re.elemV ⟨w.heap.size,0,none⟩ t (((w.alloc (.cells #[.pointer (some t)] eP)).alloc (.cells #[.pointer (some ⟨hB,eP,none⟩),.pointer (some ⟨w.heap.size,0,none⟩),.int .u64 150] eV)).alloc (.cells #[.pointer (some ⟨hB,eP,none⟩),.pointer (some ⟨w.heap.size,0,none⟩),.int .u64 150] eV)) (by rw [World.cell?_alloc_lt _ _ ⟨w.heap.size,0,none⟩ (by simp; omega),World.cell?_alloc_lt _ _ ⟨w.heap.size,0,none⟩ (by simp)]; simp)
 have st:=re.set t ⟨w.heap.size+1+1+1,0,none⟩ c old (wA t c w)
  (by rw [World.cell?_alloc_at _ _ _ _ (by simp)]; rfl)
  (by rw [World.cell?_alloc_lt _ _ t (by simp; omega),World.cell?_alloc_lt _ _ t (by simp; omega),World.cell?_alloc_lt _ _ t (by simp; omega),World.cell?_alloc_lt _ _ t htl]; exact ht0)
  (by rw [World.frozen?_alloc_old _ _ t (by simp; omega),World.frozen?_alloc_old _ _ t (by simp; omega),World.frozen?_alloc_old _ _ t (by simp; omega),World.frozen?_alloc_old _ _ t (Nat.ne_of_lt htl)]; exact hf0)
 go_enter Tryz.func89,Tryz.ntmps89
 go_wp2
 refine wp_loop_rounds 1 ?_
 rw [rounds_succ]
 go_wp2
 go_ret
 exact⟨rfl,rfl⟩
end Go.Proofs.YtagjmmpiglgmhaaGreatDoor
