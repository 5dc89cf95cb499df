/-
  Conversions of one amount, of several, of all accounts of a ledger: in the program and in the reference. The reference's conversion of one amount, and of all accounts of a ledger. The conversions as the laws call them; the sizes of what they hand out.
-/
import Derived.Test.YtmppmpceccpdlaaGreatDoorSwapM
import Derived.WalkKit
import Derived.LaidEql
import Derived.Stop.Asserts
import Derived.RowKitTokens
import Derived.OneCell
import Derived.Below
import Derived.Test.YtmppmpceccpdlaaGreatDoorTotA
namespace Go.Proofs.YtmppmpceccpdlaaGreatDoor
open Sx Go.RowKit Go.Extern.Stop Go.Stop Go.Extern
set_option maxRecDepth 100000
abbrev eT:Nat:=143
abbrev eP:Nat:=147
abbrev rT:Nat:=196
abbrev eE:Nat:=96
abbrev eV:Nat:=172
abbrev hB:Nat:=2
def hasErr (V:Know):Prop:=∃ t,V 1=some ([.iface rT (.agg #[.pointer (some ⟨hB,eE,none⟩)])],t)
theorem hasErr.le {V V':Know} (h:hasErr V) (hle:V.le V'):hasErr V':=let ⟨t,ht⟩:=h; ⟨t,hle _ _ ht⟩
theorem as_nil (t:Value) (w:World) :
  Calls Tryz.prog 96 #[.nilIface,t] w fun e w'=>e=.returned (.bool false)∧w'=w:=by
 go_enter Tryz.func96,Tryz.ntmps96
 go_wp2
 go_ret
 exact⟨rfl,rfl⟩
theorem re.valueOfP (t:Addr) (w:World):(ReflectliteValue.unpack (.iface eP (.pointer (some t)))).run Tryz.prog w
  = .ok (.agg #[.pointer (some ⟨hB,eP,none⟩),.pointer (some ⟨w.heap.size,0,none⟩),.int .u64 150]) (w.alloc (.cells #[.pointer (some t)] eP)):=by kernel_rfl
theorem re.typeP (a : Addr) (w : World) : (ReflectliteValue.methodAny (ReflectliteValue.valueError "reflectlite.Value.Type" 0) (fun t _ _ _ => ReflectliteType.toType t) #[.agg #[.pointer (some ⟨hB, eP, none⟩), .pointer (some a), .int .u64 150]]).run Tryz.prog w
  = .ok (.iface rT (.agg #[.pointer (some ⟨hB,eP,none⟩)])) w:=by kernel_rfl
theorem re.methodKind (h : Value) (w : World) : (Go.method 352 rT (.agg #[h]) "Kind").run Tryz.prog w = .ok (197, h) w := by kernel_rfl
theorem re.kindP (w:World):((ReflectliteType.abiMethod fun t=>(fun a:Nat=>Value.int IntKind.u8 (a:Int)) <$> Rtype.kind t) #[.pointer (some ⟨hB,eP,none⟩)]).run Tryz.prog w=.ok (.int .u8 22) w:=by kernel_rfl
theorem re.kindT (w:World):((ReflectliteType.abiMethod fun t=>(fun a:Nat=>Value.int IntKind.u8 (a:Int)) <$> Rtype.kind t) #[.pointer (some ⟨hB,eT,none⟩)]).run Tryz.prog w=.ok (.int .u8 25) w:=by kernel_rfl
theorem rlm (z:Sem Value) (f:TypeId→Addr→Nat→Nat→Sem Value) (v:Value) :
  ReflectliteValue.method z f #[v]=(do match ← ReflectliteValue.parts v with | none=>z | some (t,a,fl)=>f t a fl (fl % 32)):=rfl
theorem re.partsP (a:Addr) (w:World):(ReflectliteValue.parts (.agg #[.pointer (some ⟨hB,eP,none⟩),.pointer (some a),.int .u64 150])).run Tryz.prog w=.ok (some (eP,a,150)) w:=by kernel_rfl
theorem re.isNilP (a p:Addr) (W:World) (ha:W.cell? a=some (.pointer (some p))) :
  (ReflectliteValue.method (ReflectliteValue.valueError "reflectlite.Value.IsNil" 0) ReflectliteValue.isNil #[.agg #[.pointer (some ⟨hB, eP, none⟩), .pointer (some a), .int .u64 150]]).run Tryz.prog W = .ok (.bool false) W := by
 rw [rlm]
 simp only [Sem.run_bind,re.partsP,Result.andThen]
 simp [ReflectliteValue.isNil,loadVar,isAgg,underlying,Tryz.underlying147,ha,Result.andThen]
theorem re.methodElem (h : Value) (w : World) : (Go.method 352 rT (.agg #[h]) "Elem").run Tryz.prog w = .ok (207, .agg #[h]) w := by kernel_rfl
theorem re.methodImplements (h : Value) (w : World) : (Go.method 352 rT (.agg #[h]) "Implements").run Tryz.prog w = .ok (208, .agg #[h]) w := by kernel_rfl
theorem re.methodAssignableTo (h : Value) (w : World) : (Go.method 352 rT (.agg #[h]) "AssignableTo").run Tryz.prog w = .ok (205, .agg #[h]) w := by kernel_rfl
theorem re.elemP (w:World):(ReflectliteType.method ReflectliteType.elem #[.agg #[.pointer (some ⟨hB,eP,none⟩)]]).run Tryz.prog w=.ok (.iface rT (.agg #[.pointer (some ⟨hB,eT,none⟩)])) w:=by kernel_rfl
theorem re.implementsT (w : World) : (ReflectliteType.relation "Implements" ReflectliteType.implements_ #[.agg #[.pointer (some ⟨hB, eT, none⟩)], .iface rT (.agg #[.pointer (some ⟨hB, eE, none⟩)])]).run Tryz.prog w = .ok (.bool true) w := by kernel_rfl
theorem re.typeOfT (v:Value) (w:World):(ReflectliteType.typeOf #[.iface eT v]).run Tryz.prog w=.ok (.iface rT (.agg #[.pointer (some ⟨hB,eT,none⟩)])) w:=by kernel_rfl
theorem re.assignableT (w : World) : (ReflectliteType.relation "AssignableTo" ReflectliteType.assignableTo #[.agg #[.pointer (some ⟨hB, eT, none⟩)], .iface rT (.agg #[.pointer (some ⟨hB, eT, none⟩)])]).run Tryz.prog w = .ok (.bool true) w := by kernel_rfl
theorem re.valueOfT (c:Int) (w:World):(ReflectliteValue.unpack (.iface eT (.agg #[.int .i64 c]))).run Tryz.prog w
  = .ok (.agg #[.pointer (some ⟨hB,eT,none⟩),.pointer (some ⟨w.heap.size,0,none⟩),.int .u64 153]) (w.alloc (.cells #[.int .i64 c] eT)):=by kernel_rfl
theorem re.elemOfP (w:World):(Rtype.elem? eP).run Tryz.prog w=.ok (some eT) w:=by kernel_rfl
theorem re.mkT (p:Addr) (w:World):(ReflectliteValue.mk eT p ReflectliteValue.flagAddr).run Tryz.prog w=.ok (.agg #[.pointer (some ⟨hB,eT,none⟩),.pointer (some p),.int .u64 409]) w:=by kernel_rfl
theorem re.elemV (a p:Addr) (W:World) (ha:W.cell? a=some (.pointer (some p))) :
  (ReflectliteValue.method (ReflectliteValue.valueError "reflectlite.Value.Elem" 0) ReflectliteValue.elem #[.agg #[.pointer (some ⟨hB, eP, none⟩), .pointer (some a), .int .u64 150]]).run Tryz.prog W
   = .ok (.agg #[.pointer (some ⟨hB,eT,none⟩),.pointer (some p),.int .u64 409]) W:=by
 rw [rlm]
 simp only [Sem.run_bind,re.partsP,Result.andThen]
 simp [ReflectliteValue.elem,loadVar,isAgg,underlying,Tryz.underlying147,ha,Result.andThen,re.elemOfP,re.mkT]
theorem rls (v x:Value):ReflectliteValue.set #[v,x]=(do
  let (some (dst,a,fl),some (src,b,_)):=(← ReflectliteValue.parts v,← ReflectliteValue.parts x)
   | unsupported (.noEntry "extern/(internal/reflectlite.Value).Set.zeroValue")
  if fl / ReflectliteValue.flagAddr % 2 == 0 then unsupported (.noEntry "extern/(internal/reflectlite.Value).Set.unaddressable")
  let val ← loadVar src b
  if ← Rtype.directlyAssignable dst src then storeVar dst a val
  else if ← Rtype.implements dst src then
   if (← Rtype.kind src) == 20 then
    match val with
    | .nilIface => unsupported (.noEntry "extern/reflectlite: a nil value of one interface type handed on as a value of another")
    | _=>storeVar dst a val
   else storeVar dst a (.iface src val)
  else panicString ("reflectlite.Set: value of type " ++ (← Rtype.spelt src) ++ " is not assignable to type " ++ (← Rtype.spelt dst))
  pure (.tuple #[])):=rfl
theorem re.partsTa (a:Addr) (w:World):(ReflectliteValue.parts (.agg #[.pointer (some ⟨hB,eT,none⟩),.pointer (some a),.int .u64 409])).run Tryz.prog w=.ok (some (eT,a,409)) w:=by kernel_rfl
theorem re.partsT (a:Addr) (w:World):(ReflectliteValue.parts (.agg #[.pointer (some ⟨hB,eT,none⟩),.pointer (some a),.int .u64 153])).run Tryz.prog w=.ok (some (eT,a,153)) w:=by kernel_rfl
theorem re.direct (w:World):(Rtype.directlyAssignable eT eT).run Tryz.prog w=.ok true w:=by kernel_rfl
theorem re.loadT (b:Addr) (c:Int) (W:World) (hb:W.cell? b=some (.int .i64 c)):(loadVar eT b).run Tryz.prog W=.ok (.agg #[.int .i64 c]) W :=
 run_loadVar (P:=Tryz.prog) W eT 1 b [.int .i64 c] true (by kernel_rfl) (by kernel_rfl) rfl (fun h=>by cases h) (fun j x hx=>by
  cases j with
  | zero=>simp at hx; subst hx; exact hb
  | succ j=>simp at hx)
theorem re.set (ta b:Addr) (c:Int) (old:Value) (W:World) (hb:W.cell? b=some (.int .i64 c)) (ht:W.cell? ta=some old) (hf:W.frozen? ta=false) :
  (ReflectliteValue.set #[.agg #[.pointer (some ⟨hB,eT,none⟩),.pointer (some ta),.int .u64 409],.agg #[.pointer (some ⟨hB,eT,none⟩),.pointer (some b),.int .u64 153]]).run Tryz.prog W
   = .ok (.tuple #[]) (W.setCell ta (.int .i64 c)):=by
 rw [rls]
 simp only [Sem.run_bind,re.partsTa,re.partsT,Result.andThen]
 simp [ReflectliteValue.flagAddr,re.loadT b c W hb,Result.andThen,re.direct,storeVar,Value.cells,storeCells,Addr.add]
 rw [run_store Tryz.prog W ta _ _ (by rfl)]
 simp [ht,hf]
abbrev wA (t:Addr) (c:Int) (w:World):World:=(((w.alloc (.cells #[.pointer (some t)] eP)).alloc (.cells #[.pointer (some ⟨hB,eP,none⟩),.pointer (some ⟨w.heap.size,0,none⟩),.int .u64 150] eV)).alloc (.cells #[.pointer (some ⟨hB,eP,none⟩),.pointer (some ⟨w.heap.size,0,none⟩),.int .u64 150] eV)).alloc (.cells #[.int .i64 c] eT)
set_option maxHeartbeats 4000000 in
theorem as_hit (c:Int) (t:Addr) (old:Value) (w:World) (hg:w.cell? ⟨1,0,none⟩=some (.iface rT (.agg #[.pointer (some ⟨hB,eE,none⟩)]))) (ht0:w.cell? t=some old) (hf0:w.frozen? t=false) :
  Calls Tryz.prog 96 #[.iface eT (.agg #[.int .i64 c]),.iface eP (.pointer (some t))] w fun ev w'=>ev=.returned (.bool true)∧w'=(wA t c w).setCell t (.int .i64 c):=by
 have h6:=@run_callFunc_extern Tryz.prog 122 _ (fun args=>ReflectliteValue.unpack (args.getD 0 (.tuple #[]))) Tryz.func122 (by kernel_rfl) (by kernel_rfl) (by kernel_rfl) (by kernel_rfl)
 have h7 := @run_callFunc_extern Tryz.prog 123 _ (ReflectliteValue.methodAny (ReflectliteValue.valueError "reflectlite.Value.Type" 0) (fun t _ _ _ => ReflectliteType.toType t)) Tryz.func123 (by kernel_rfl) (by kernel_rfl) (by kernel_rfl) (by kernel_rfl)
 have h8 := @run_callFunc_extern Tryz.prog 124 _ (ReflectliteValue.method (ReflectliteValue.valueError "reflectlite.Value.IsNil" 0) ReflectliteValue.isNil) Tryz.func124 (by kernel_rfl) (by kernel_rfl) (by kernel_rfl) (by kernel_rfl)
 have h27:=@run_callFunc_extern Tryz.prog 197 _ (ReflectliteType.abiMethod fun t=>do pure (.int .u8 (← Rtype.kind t))) Tryz.func197 (by kernel_rfl) (by kernel_rfl) (by kernel_rfl) (by kernel_rfl)
 have h37:=@run_callFunc_extern Tryz.prog 207 _ (ReflectliteType.method ReflectliteType.elem) Tryz.func207 (by kernel_rfl) (by kernel_rfl) (by kernel_rfl) (by kernel_rfl)
 have h38 := @run_callFunc_extern Tryz.prog 208 _ (ReflectliteType.relation "Implements" ReflectliteType.implements_) Tryz.func208 (by kernel_rfl) (by kernel_rfl) (by kernel_rfl) (by kernel_rfl)
 have h10:=@run_callFunc_extern Tryz.prog 150 _ ReflectliteType.typeOf Tryz.func150 (by kernel_rfl) (by kernel_rfl) (by kernel_rfl) (by kernel_rfl)
 have h35 := @run_callFunc_extern Tryz.prog 205 _ (ReflectliteType.relation "AssignableTo" ReflectliteType.assignableTo) Tryz.func205 (by kernel_rfl) (by kernel_rfl) (by kernel_rfl) (by kernel_rfl)
 have h11 := @run_callFunc_extern Tryz.prog 151 _ (ReflectliteValue.method (ReflectliteValue.valueError "reflectlite.Value.Elem" 0) ReflectliteValue.elem) Tryz.func151 (by kernel_rfl) (by kernel_rfl) (by kernel_rfl) (by kernel_rfl)
 have h12:=@run_callFunc_extern Tryz.prog 152 _ ReflectliteValue.set Tryz.func152 (by kernel_rfl) (by kernel_rfl) (by kernel_rfl) (by kernel_rfl)
 have tO:=re.typeOfT
 have mA:=re.methodAssignableTo
 have a25:=re.assignableT
 have v25:=re.valueOfT c
 have f6:=re.valueOfP
 have f7:=re.typeP
 have mK:=re.methodKind
 have mE:=re.methodElem
 have mI:=re.methodImplements
 have k27:=re.kindP
 have k25:=re.kindT
 have e27:=re.elemP
 have i25:=re.implementsT
 have n8:=re.isNilP ⟨w.heap.size,0,none⟩ t ((w.alloc (.cells #[.pointer (some t)] eP)).alloc (.cells #[.pointer (some ⟨hB,eP,none⟩),.pointer (some ⟨w.heap.size,0,none⟩),.int .u64 150] eV)) (by simp)
 have hlt:1<w.heap.size:=by
  rcases Nat.lt_or_ge 1 w.heap.size with h | h0
  ·exact h
  ·simp [World.cell?,Array.getElem?_eq_none h0] at hg
 have hg2:((w.alloc (.cells #[.pointer (some t)] eP)).alloc (.cells #[.pointer (some ⟨hB,eP,none⟩),.pointer (some ⟨w.heap.size,0,none⟩),.int .u64 150] eV)).cell? ⟨1,0,none⟩=some (.iface rT (.agg #[.pointer (some ⟨hB,eE,none⟩)])):=by
  rw [World.cell?_alloc_lt _ _ ⟨1,0,none⟩ (by simp <;> omega),World.cell?_alloc_lt _ _ ⟨1,0,none⟩ hlt]; exact hg
 have htl:t.block<w.heap.size:=by
  rcases Nat.lt_or_ge t.block w.heap.size with h | h
  ·exact h
  ·simp [World.cell?,Array.getElem?_eq_none h] at ht0
 have el:=re.elemV ⟨w.heap.size,0,none⟩ t (((w.alloc (.cells #[.pointer (some t)] eP)).alloc (.cells #[.pointer (some ⟨hB,eP,none⟩),.pointer (some ⟨w.heap.size,0,none⟩),.int .u64 150] eV)).alloc (.cells #[.pointer (some ⟨hB,eP,none⟩),.pointer (some ⟨w.heap.size,0,none⟩),.int .u64 150] eV)) (by rw [World.cell?_alloc_lt _ _ ⟨w.heap.size,0,none⟩ (by simp; omega),World.cell?_alloc_lt _ _ ⟨w.heap.size,0,none⟩ (by simp)]; simp)
 have st:=re.set t ⟨w.heap.size+1+1+1,0,none⟩ c old (wA t c w)
  (by rw [World.cell?_alloc_at _ _ _ _ (by simp)]; rfl)
  (by rw [World.cell?_alloc_lt _ _ t (by simp; omega),World.cell?_alloc_lt _ _ t (by simp; omega),World.cell?_alloc_lt _ _ t (by simp; omega),World.cell?_alloc_lt _ _ t htl]; exact ht0)
  (by rw [World.frozen?_alloc_old _ _ t (by simp; omega),World.frozen?_alloc_old _ _ t (by simp; omega),World.frozen?_alloc_old _ _ t (by simp; omega),World.frozen?_alloc_old _ _ t (Nat.ne_of_lt htl)]; exact hf0)
 go_enter Tryz.func96,Tryz.ntmps96
 go_wp2
 refine wp_loop_rounds 1 ?_
 rw [rounds_succ]
 go_wp2
 go_ret
 exact⟨rfl,rfl⟩
end Go.Proofs.YtmppmpceccpdlaaGreatDoor
namespace Go.Proofs.YtmppmpceccpdlaaGreatDoor
open Sx Go.RowKit
set_option maxRecDepth 100000
theorem wA_old (t:Addr) (c:Int) (w:World) (k:Nat) (h:k<w.heap.size):(wA t c w).heap[k]?=w.heap[k]?:=by
 rw [Below.heap_alloc _ _ _ (by simp; omega),Below.heap_alloc _ _ _ (by simp; omega),Below.heap_alloc _ _ _ (by simp; omega),Below.heap_alloc _ _ _ h]
theorem cX_As (V:Know) (c:Int) (b:Nat) (old:Value) (hE:hasErr V) (hb:V b=some ([old],(eT,(0,0)))) :
  CallX Tryz.prog V 96 [.iface eT (.agg #[.int .i64 c]),.iface eP (.pointer (some ⟨b,0,none⟩))] (fun V' r=>V'=kset V b ([.int .i64 c],(eT,(0,0)))∧r=.bool true):=by
 refine⟨⟨_,Tryz.func96,by kernel_rfl,by kernel_rfl⟩,fun w hw=>?_⟩
 obtain⟨te,hte⟩:=hE
 have hg:=hw.cell hte 0 (fun es e=>by simp at e) (by simp)
 have hrow:w.heap[b]?=some (.cells #[old] eT (0,0)):=hw.row hb
 have hlt:b<w.heap.size:=(Array.getElem?_eq_some_iff.1 hrow).1
 have ht0:w.cell? ⟨b,0,none⟩=some old:=by rw [cell_of_row w _ _ _ _ _ hrow]; rfl
 have hf:w.frozen? ⟨b,0,none⟩=false:=by simp [World.frozen?,hrow]
 refine(as_hit c ⟨b,0,none⟩ old w (by rw [hg]; rfl) ht0 hf).mono ?_
 rintro e w' ⟨rfl,rfl⟩
 have hb2:(wA ⟨b,0,none⟩ c w).heap[b]?=some (.cells #[old] eT (0,0)):=by rw [wA_old _ _ _ _ hlt]; exact hrow
 have oth:∀ k,k<w.heap.size→k≠b→((wA ⟨b,0,none⟩ c w).setCell ⟨b,0,none⟩ (.int .i64 c)).heap[k]?=w.heap[k]?:=fun k hk hkb=>by
  rw [Below.heap_setCell _ _ _ _ hkb,wA_old _ _ _ _ hk]
 refine⟨kset V b ([.int .i64 c],(eT,(0,0))),_,rfl,⟨?_,?_,?_,?_,fun k hk hn=>?_,fun k hk hn=>?_⟩,fun k cs t hk=>?_,rfl,rfl⟩
 ·rfl
 ·rfl
 ·rfl
 ·have:(wA ⟨b,0,none⟩ c w).heap.size=w.heap.size+4:=by simp only [World.alloc,Array.size_push]
  have e:((wA ⟨b,0,none⟩ c w).setCell ⟨b,0,none⟩ (.int .i64 c)).heap.size=(wA ⟨b,0,none⟩ c w).heap.size:=by simp only [World.setCell,Array.size_modify]
  omega
 ·exact oth k hk (fun e=>by rw [e,hb] at hn; cases hn)
 ·rw [kset_other (fun e=>by rw [e,hb] at hn; cases hn)]; exact hn
 ·by_cases e:k=b
  ·subst e
   rw [kset_same] at hk
   simp only [Option.some.injEq,Prod.mk.injEq] at hk
   obtain⟨rfl,rfl⟩:=hk
   rw [one_setCell hb2,objOf_rw]
  ·rw [kset_other e] at hk
   have h1:=hw k cs t hk
   rw [oth k (Array.getElem?_eq_some_iff.1 h1).1 e]; exact h1
theorem cX_As0 (V:Know) (t:Value):CallX Tryz.prog V 96 [.nilIface,t] (fun V' r=>V'=V∧r=.bool false):=by
 refine⟨⟨_,Tryz.func96,by kernel_rfl,by kernel_rfl⟩,fun w hw=>(as_nil t w).mono ?_⟩
 rintro e w' ⟨rfl,rfl⟩
 exact⟨V,_,rfl,Fr.refl _ _,hw,rfl,rfl⟩
theorem cI_codeOf (V:Know) (hE:hasErr V) (y:Option (Nat × Int)) (code:Int) (hy:(y=none∧code=0)∨y=some (errT,code)):CallX Tryz.prog V 55 [Sc.val .e y] (fun V' r=>V.le V'∧r=.int .i64 code):=by
 refine CallX.of_fits Tryz.mix (fI_codeOf _) fun _=>?_
 simp only [tI_codeOf,T.wp]
 intro b hb
 have le1:=kset_le (x:=([Value.int .i64 0],(eT,((0,0):Nat × Nat)))) hb
 rcases hy with ⟨rfl,rfl⟩ | rfl
 ·refine(cX_As0 _ _).mono ?_
  rintro V2 _ ⟨rfl,rfl⟩
  exact⟨nofun,false,rfl,nofun,fun _=>⟨le1,rfl⟩⟩
 ·refine(cX_As _ code b (.int .i64 0) (hE.le le1) kset_same).mono ?_
  rintro V2 _ ⟨rfl,rfl⟩
  refine⟨nofun,true,rfl,fun _=>⟨code,?_,?_,rfl⟩,nofun⟩
  ·simp only [loadV,addr_add_eq,Bool.false_eq_true,if_false,kset_same]
   rfl
  ·intro k x hk
   have e:k≠b:=fun e=>by rw [e,hb] at hk; cases hk
   rw [kset_other e,kset_other e]; exact hk
end Go.Proofs.YtmppmpceccpdlaaGreatDoor
namespace Go.Proofs.YtmppmpceccpdlaaGreatDoor
open Sx
theorem bless_irr:∀ x:List UInt8,Op.bytesLess x x=false
 | []=>rfl
 | a :: x=>by rw [Op.bytesLess,bless_irr x]; simp
theorem bless_trans:∀ {x y z:List UInt8},Op.bytesLess x y=true→Op.bytesLess y z=true→Op.bytesLess x z=true
 | _,[],_,h,_=>by simp [Op.bytesLess] at h
 | _,_ :: _,[],_,h=>by simp [Op.bytesLess] at h
 | [],_ :: _,_ :: _,_,_=>rfl
 | a :: x,b :: y,c :: z,h,k=>by
  simp only [Op.bytesLess,Bool.or_eq_true,decide_eq_true_eq,Bool.and_eq_true,beq_iff_eq] at h k ⊢
  rcases h with h | ⟨rfl,h⟩
  ·rcases k with k | ⟨rfl,k⟩
   ·exact .inl (UInt8.lt_trans h k)
   ·exact .inl h
  ·rcases k with k | ⟨rfl,k⟩
   ·exact .inl k
   ·exact .inr ⟨rfl,bless_trans h k⟩
theorem bless_tot:∀ (x y:List UInt8),Op.bytesLess x y=true∨x=y∨Op.bytesLess y x=true
 | [],[]=>.inr (.inl rfl)
 | [],_ :: _=>.inl rfl
 | _ :: _,[]=>.inr (.inr rfl)
 | a :: x,b :: y=>by
  simp only [Op.bytesLess,Bool.or_eq_true,decide_eq_true_eq,Bool.and_eq_true,beq_iff_eq,List.cons.injEq]
  rcases UInt8.lt_or_le a b with h | h
  ·exact .inl (.inl h)
  by_cases e:a=b
  ·subst e
   rcases bless_tot x y with k | k | k
   ·exact .inl (.inr ⟨rfl,k⟩)
   ·exact .inr (.inl ⟨rfl,k⟩)
   ·exact .inr (.inr (.inr ⟨rfl,k⟩))
  ·exact .inr (.inr (.inl (UInt8.lt_of_le_of_ne h (fun q=>e q.symm))))
theorem LessP.irr {a:ByteArray}:¬ LessP a a:=fun h=>by
 unfold LessP at h
 rw [bless_irr] at h; cases h
theorem LessP.trans {a b c:ByteArray} (h:LessP a b) (k:LessP b c):LessP a c:=bless_trans h k
theorem LessP.tot {a b:ByteArray} (h:¬ LessP a b) (k:a≠b):LessP b a:=by
 rcases bless_tot a.toList b.toList with q | q | q
 ·exact absurd q h
 ·exact absurd (toList_inj.1 q) k
 ·exact q
theorem known_mem {x:ByteArray} (h:known x=true):x∈curI.map (·.1):=by
 unfold known curFrom at h
 cases hf:(curI.drop 0).find? (curHas x) with
 | none=>rw [hf] at h; cases h
 | some r =>
  have h1:=List.find?_some hf
  have e:r.1=x:=text_eq.1 h1
  rw [← e]
  exact List.mem_map_of_mem (List.mem_of_find?_eq_some hf)
theorem known_sz3 {x:ByteArray} (h:known x=true):x.size≤3:=by
 have:∀ y∈curI.map (·.1),y.size≤3:=by decide +kernel
 exact this x (known_mem h)
theorem nodup_le {β:Type} [DecidableEq β]:∀ {l m:List β},l.Nodup→(∀ x∈l,x∈m)→l.length≤m.length
 | [],_,_,_=>Nat.zero_le _
 | a :: l,m,nd,h=>by
  obtain⟨n1,n2⟩:=List.nodup_cons.1 nd
  have ha:=h a (by simp)
  have ih:=nodup_le (l:=l) (m:=m.erase a) n2 fun x hx=>(List.mem_erase_of_ne (fun e=>n1 (by rw [← e]; exact hx))).2 (h x (by simp [hx]))
  have:=List.length_erase_of_mem ha
  have hp:=List.length_pos_of_mem ha
  simp only [List.length_cons]
  omega
def Sorted {α:Type} (key:α→ByteArray) (l:List α):Prop:=∀ (i:Nat) (h:i<l.length),0<i→LessP (key (l[i-1]'(by omega))) (key l[i])
theorem Sorted.lt {α:Type} {key:α→ByteArray} {l:List α} (h:Sorted key l):∀ {i j:Nat} (hj:j<l.length) (hij:i<j),LessP (key (l[i]'(by omega))) (key l[j])
 | i,j+1,hj,hij=>by
  have h1:=h (j+1) hj (by omega)
  by_cases e:i=j
  ·subst e; exact h1
  ·exact(Sorted.lt h (i:=i) (j:=j) (by omega) (by omega)).trans h1
theorem Sorted.nodup {α:Type} {key:α→ByteArray} {l:List α} (h:Sorted key l):(l.map key).Nodup:=by
 rw [List.nodup_iff_pairwise_ne]
 rw [List.pairwise_iff_getElem]
 intro i j hi hj hij e
 simp only [List.getElem_map] at e
 have:=h.lt (i:=i) (j:=j) (by simpa using hj) hij
 rw [e] at this
 exact LessP.irr this
theorem rests_sorted {l:List DRest} (h:RestsOkP l):Sorted (·.1) l:=fun i hi h0=>by
 obtain⟨_,_,_,_,q⟩:=h i hi
 exact q h0
theorem rests_len {l:List DRest} (h:RestsOkP l):l.length≤20:=by
 have:=nodup_le (rests_sorted h).nodup (m:=curI.map (·.1)) fun x hx=>by
  obtain⟨i,hi,rfl⟩:=List.mem_iff_getElem.1 hx
  obtain⟨h1,h2,_⟩:=h i (by simpa using hi)
  simp only [List.getElem_map]
  exact known_mem h2
 have e:(curI.map (·.1)).length=20:=rfl
 simpa [e] using this
theorem totE_bound {sh:List Sc} {α:Type} {r:Rp sh α} {n:Nat}:∀ {l:List α},(∀ i (h:i<l.length),r.tot l[i]≤n)→totE r l≤l.length*n
 | [],_=>Nat.zero_le _
 | x :: l,h=>by
  have h0:r.tot x≤n:=h 0 (by simp)
  have ih:=totE_bound (r:=r) (l:=l) (n:=n) fun i hi=>by
   have:=h (i+1) (by simpa using hi)
   simpa using this
  rw [totE,List.length_cons,Nat.add_mul]
  omega
theorem int0:∀ l:List Lim,totE rI l=0
 | []=>rfl
 | _ :: l=>by rw [totE,int0 l]; rfl
theorem money_tot {x:DMoney} (h:MoneyOkP x.1 x.2.1 x.2.2.1):rMoney.tot x≤7:=by
 have e:rMoney.tot x=x.1.size+(x.2.2.1.length+totE rI x.2.2.1+0):=rfl
 rw [e,int0]
 have:=known_sz3 h.1
 have:=h.2.2
 omega
theorem rat_tot {x:DRat} (h:RatOkP x.1 x.2.1 x.2.2.1):rRat.tot x≤36:=by
 have e:rRat.tot x=x.2.1.length+totE rI x.2.1+(x.2.2.1.length+totE rI x.2.2.1+0):=rfl
 rw [e,int0,int0]
 have:=h.2.2.2.1
 have:=h.2.2.2.2.1
 omega
theorem rate_tot {x:DRate} (h:RateOkP x):rRate.tot x≤8:=by
 have e:rRate.tot x=x.1.size+(x.2.1.size+(x.2.2.2.1.length+totE rI x.2.2.2.1+0)):=rfl
 rw [e,int0]
 have:=known_sz3 h.1
 have:=known_sz3 h.2.1
 have:=h.2.2.2.2.2
 omega
theorem rates_tot {x:DRates} (h:RatesOkP x.1 x.2.1):rRates.tot x≤111:=by
 have e:rRates.tot x=x.1.size+(x.2.1.length+totE rRate x.2.1+0):=rfl
 have b:=totE_bound (r:=rRate) (n:=8) (l:=x.2.1) fun i hi=>rate_tot (h.2.2 i hi).2.1
 have:=known_sz3 h.1
 have:=h.2.1
 rw [e]
 omega
theorem book_tot {l:List DAcct} (h:BookOkP l):l.length+totE rAcct l≤240:=by
 have b:=totE_bound (r:=rAcct) (n:=19) (l:=l) fun i hi=>by
  obtain⟨_,q1,q2,_⟩:=h.2 i hi
  have e:rAcct.tot l[i]=l[i].1.size+rMoney.tot l[i].2:=rfl
  have:=money_tot (x:=l[i].2) q2
  have:=q1.2.1
  omega
 have:=h.1
 omega
theorem rests_tot {l:List DRest} (h:RestsOkP l):l.length+totE rRest l≤800:=by
 have b:=totE_bound (r:=rRest) (n:=39) (l:=l) fun i hi=>by
  obtain⟨_,q1,q2,_⟩:=h i hi
  have e:rRest.tot l[i]=l[i].1.size+rRat.tot l[i].2:=rfl
  have:=rat_tot (x:=l[i].2) q2
  have:=known_sz3 q1
  omega
 have:=rests_len h
 omega
theorem ledger_elim {V:Know} {c:Scs [.l,.l,.s,.l]} {x:DLedger} {f:List Nat} (h:rLedger.R V c x f):∃ s0 s1 s3 f0 f1 f3,c=(s0,s1,x.2.2.1,s3,())∧LR rAcct V s0 x.1 f0∧LR rRest V s1 x.2.1 f1∧LR rRate V s3 x.2.2.2.1 f3:=by
 obtain⟨c0,c1,c2,c3,cu⟩:=c
 obtain⟨f0,g0,rfl,h0,f1,g1,rfl,h1,⟨e2,_⟩,f3,g3,rfl,h3,_⟩:=h
 replace e2:c2=x.2.2.1:=e2
 subst e2
 exact⟨c0,c1,c3,f0,f1,f3,rfl,h0,h1,h3⟩
end Go.Proofs.YtmppmpceccpdlaaGreatDoor
namespace Go.Proofs.YtmppmpceccpdlaaGreatDoor
open Sx
set_option maxRecDepth 100000
def HeI (V:Know):Prop:=HcI V∧hasErr V
theorem HeI.le {V V':Know} (h:HeI V) (k:V.le V'):HeI V':=⟨HcI.le h.1 k,hasErr.le h.2 k⟩
abbrev ConvPost (V:Know) (p:ByteArray) (l:List DRate) (ms:List DMoney) (to:ByteArray) (m:Int):Know→Value→Prop:=fun V' r=>V.le V'∧∃ c mo f c' ra g code,r=.tuple #[qv2 c,qv0 c',.int .i64 code] ∧
 rMoney.R V' c mo f∧rRat.R V' c' ra g∧Own V V' (f++g)∧ConvP p l ms to m mo ra code
theorem cI_ConvertSum {V:Know} (hV:HeI V) (p:ByteArray) (s:SlV) (l:List DRate) (f:List Nat) (h:LR rRate V s l f) (t:SlV) (ms:List DMoney) (g:List Nat) (hm:LR rMoney V t ms g) (to:ByteArray) (m:Int) :
  CallX Tryz.prog V 19 [qv3 (p,s,()),Sc.val .l t,.string to,.int .i64 m] (ConvPost V p l ms to m):=by
 refine CallX.of_fits Tryz.mix (fI_ConvertSum _ _ _ _) fun _=>?_
 simp only [tI_ConvertSum,T.wp]
 refine(cI_convert hV.1 p s l f h t ms g hm to m).mono ?_
 rintro V1 _ ⟨le1,c,mo,f1,c',ra,g1,y,code,rfl,R,R',O,hc,hy⟩
 refine⟨nofun,(c,c',y,()),rfl,fun ey=>?_,fun z ez=>?_⟩
 ·have ey:y=none:=ey
  subst ey
  refine(cI_codeOf V1 (hV.le le1).2 none code hy).mono ?_
  rintro V2 _ ⟨le2,rfl⟩
  exact⟨fun _=>le2,code,rfl,le1.trans le2,c,mo,f1,c',ra,g1,code,rfl,rMoney.le R le2,rRat.le R' le2,O.post le2,hc⟩
 ·have ez:y=some z:=ez
  subst ez
  refine(cI_codeOf V1 (hV.le le1).2 (some z) code hy).mono ?_
  rintro V2 _ ⟨le2,rfl⟩
  exact⟨fun _=>le2,code,rfl,le1.trans le2,c,mo,f1,c',ra,g1,code,rfl,rMoney.le R le2,rRat.le R' le2,O.post le2,hc⟩
def monOf (a:DAcct):DMoney:=(a.2.1,a.2.2.1,a.2.2.2.1,())
theorem mon_part {V:Know} {c:Scs [.s,.s,.b,.l]} {a:DAcct} {f:List Nat} (h:rAcct.R V c a f):rMoney.R V c.2 (monOf a) f:=h.2
theorem vals_3 (c:Scs [.s,.b,.l]):Scs.vals [.s,.b,.l] c=[.string c.1,.bool c.2.1,.slice c.2.2.1.a c.2.2.1.n c.2.2.1.c]:=rfl
theorem flat_snoc {c:Scs [.s,.b,.l]} {cs:List (Scs [.s,.b,.l])}:(cs++[c]).flatMap (Scs.vals [.s,.b,.l])=cs.flatMap (Scs.vals [.s,.b,.l])++[.string c.1,.bool c.2.1,.slice c.2.2.1.a c.2.2.1.n c.2.2.1.c]:=by
 rw [List.flatMap_append,List.flatMap_singleton,vals_3]
abbrev WlP (x:DLedger) (to:ByteArray) (m:Int) (mo:DMoney) (ra:DRat) (code:Int):Prop :=
 (¬ LedgerOkP x∧mo=zeroM∧ra=zeroR∧code=1)∨(LedgerOkP x∧ConvP x.2.2.1 x.2.2.2.1 (x.1.map monOf) to m mo ra code)
abbrev WlPost (V:Know) (x:DLedger) (to:ByteArray) (m:Int):Know→Value→Prop:=fun V' r=>V.le V'∧∃ c mo f c' ra g code,r=.tuple #[qv2 c,qv0 c',.int .i64 code] ∧
 rMoney.R V' c mo f∧rRat.R V' c' ra g∧Own V V' (f++g)∧WlP x to m mo ra code
theorem map_take_succ {α β:Type} (f:α→β) {l:List α} {i:Nat} (h:i<l.length):(l.take (i+1)).map f=(l.take i).map f++[f l[i]]:=by
 rw [List.take_succ_eq_append_getElem h,List.map_append]; rfl
theorem cI_Wealth {V:Know} (hV:HeI V) (c:Scs [.l,.l,.s,.l]) (x:DLedger) (f:List Nat) (h:rLedger.R V c x f) (to:ByteArray) (m:Int) :
  CallX Tryz.prog V 24 [qv7 c,.string to,.int .i64 m] (WlPost V x to m):=by
 refine CallX.of_fits Tryz.mix (fI_Wealth _ _ _) fun _=>?_
 simp only [tI_Wealth,T.wp]
 refine(cI_LedgerOk hV.1 c x f h).mono ?_
 rintro V1 _ ⟨le1,e,rfl,he⟩
 refine⟨nofun,e,rfl,fun hf=>⟨le1,_,_,_,_,_,_,1,rfl,money_0,rat_0,Own.nil,.inl ⟨fun k=>?_,rfl,rfl,rfl⟩⟩,fun ht=>?_⟩
 ·rw [he.2 k] at hf; cases hf
 have ok:=he.1 (by simpa using ht)
 obtain⟨s0,s1,s3,f0,f1,f3,rfl,h0,h1,h3⟩:=ledger_elim h
 have hn:=h0.1
 have h12:=ok.1.1
 refine⟨fun y V'=>V'=V1∧∃ (k:Nat) (cs:List (Scs [.s,.b,.l])) (fp:List Nat),y.2.1=(k:Int)∧k≤x.1.length∧y.1.1=k∧y.1.2=cs.flatMap (Scs.vals [.s,.b,.l])∧Els rMoney V1 cs ((x.1.take k).map monOf) fp,fun y=>((x.1.length:Int)-(y.2.1:Int)).toNat,
  ⟨((0,[]),(0:Int),()),rfl,rfl,0,[],[],rfl,by omega,rfl,rfl,rfl⟩,?_⟩
 rintro⟨⟨n1,ys⟩,(i:Int),u⟩ V' ⟨rfl,k,cs,fp,hk,hkle,hn1,hys,hE⟩
 replace hk:i=(k:Int):=hk
 replace hn1:n1=k:=hn1
 replace hys:ys=cs.flatMap (Scs.vals [.s,.b,.l]):=hys
 subst hk hn1 hys
 refine⟨fun hlt=>?_,fun hge=>?_⟩
 ·have hkl:n1<x.1.length:=by
   have:(n1:Int)<(s0.n:Int):=of_decide_eq_true hlt
   omega
  obtain⟨b1,o1,c1,fc,a1,l1,hR,_⟩:=(h0.le le1).at hkl
  refine⟨_,a1,(by omega:(0:Int)≤(n1:Int)),(by omega:(n1:Int)<(s0.n:Int)),c1,l1,rfl,⟨rfl,(by omega:(n1+1)*48≤140737488355328),(by omega:n1+1≤9223372036854775807)⟩,_,rfl,((n1+1,(cs++[c1.2]).flatMap (Scs.vals [.s,.b,.l])),((n1+1:Nat):Int),()),?_,⟨rfl,n1+1,cs++[c1.2],fp++fc,rfl,hkl,rfl,rfl,?_⟩,?_⟩
  ·rw [nxt hkl (by omega),flat_snoc]; rfl
  ·rw [map_take_succ monOf hkl]
   exact hE.snoc (mon_part hR)
  ·show((x.1.length:Int)-((n1+1:Nat):Int)).toNat<((x.1.length:Int)-(n1:Int)).toNat
   omega
 ·have hkl:n1=x.1.length:=by
   have:¬ (n1:Int)<(s0.n:Int):=of_decide_eq_false hge
   omega
  subst hkl
  rw [List.take_length] at hE
  intro b cp sp hb hcp _
  have hcp':x.1.length≤cp:=hcp
  have le2:=kset_le (x:=(cs.flatMap (Scs.vals [.s,.b,.l])++sp,((32:TypeId),((0,0):Nat × Nat)))) hb
  have L:LR rMoney (kset V' b (cs.flatMap (Scs.vals [.s,.b,.l])++sp,(32,(0,0)))) ⟨some ⟨b,0,none⟩,x.1.length,cp⟩ (x.1.map monOf) (b :: fp) :=
   ⟨(List.length_map ..).symm,hcp,(by omega:x.1.length≤9223372036854775807),.inr ⟨b,[],sp,(32,(0,0)),fp,cs,rfl,by rw [kset_same]; rfl,hE.le le2,rfl⟩⟩
  refine(cI_ConvertSum (hV.le (le1.trans le2)) x.2.2.1 s3 x.2.2.2.1 f3 (h3.le (le1.trans le2)) _ _ _ L to m).mono ?_
  rintro V3 _ ⟨le3,c3,mo,g3,c3',ra,g3',code,rfl,R,R',O,hc⟩
  have l2:=le1.trans le2
  exact⟨nofun,(c3,c3',code,()),rfl,l2.trans le3,c3,mo,g3,c3',ra,g3',code,rfl,R,R',O.pre l2,.inr ⟨ok,hc⟩⟩
end Go.Proofs.YtmppmpceccpdlaaGreatDoor
