/-
  The reader of code: it turns the code of a function into a tree; single steps are sound.
-/
import Derived.Test.YtpdfdkccgkieoaaGreatDoorEngB
namespace Sx
open Go
inductive Sc where
 | i (k:IntKind)
 | b
 | s
 | l
 | x
 | p
 | f
 | c
 | e
 deriving DecidableEq
structure SlV where
 a:Option Addr
 n:Nat
 c:Nat
abbrev Sc.ty:Sc→Type
 | .i _=>Int
 | .b=>Bool
 | .s=>ByteArray
 | .l=>SlV
 | .x=>{ y:Value // one [y]=true }
 | .p=>Addr
 | .f=>Nat
 | .c=>Nat × Addr
 | .e=>Option (Nat × Int)
def Sc.val:(q:Sc)→q.ty→Value
 | .i k,y=>.int k y
 | .b,y=>.bool y
 | .s,y=>.string y
 | .l,y=>.slice y.a y.n y.c
 | .x,y=>y.1
 | .p,y=>.pointer (some y)
 | .f,y=>.func (.func y) #[] #[]
 | .c,y=>.func (.func y.1) #[] #[.pointer (some y.2)]
 | .e,y=>match y with | none=>.nilIface | some z=>.iface z.1 (match z.2 with | .ofNat n=>.agg #[.int .i64 n] | .negSucc n=>.pointer (some ⟨n,0,none⟩))
abbrev Scs:List Sc→Type
 | []=>Unit
 | q :: r=>q.ty × Scs r
def Scs.vals:(l:List Sc)→Scs l→List Value
 | [],_=>[]
 | q :: r,x=>q.val x.1 :: Scs.vals r x.2
inductive Sh1 where
 | o (q:Sc)
 | g (l:List Sc)
abbrev Sh1.ty:Sh1→Type
 | .o q=>q.ty
 | .g l=>Scs l
def Sh1.val:(s:Sh1)→s.ty→Value
 | .o q,y=>q.val y
 | .g l,y=>.agg (Scs.vals l y).toArray
def Sh1.cells:(s:Sh1)→s.ty→List Value
 | .o q,y=>[q.val y]
 | .g l,y=>Scs.vals l y
def Sh1.len:Sh1→Nat
 | .o _=>1
 | .g l=>l.length
abbrev Sh1s:List Sh1→Type
 | []=>Unit
 | s :: r=>s.ty × Sh1s r
def Sh1s.vals:(l:List Sh1)→Sh1s l→List Value
 | [],_=>[]
 | s :: r,x=>s.val x.1 :: Sh1s.vals r x.2
inductive Sh where
 | v (s:Sh1)
 | t (l:List Sh1)
abbrev Sh.ty:Sh→Type
 | .v s=>s.ty
 | .t l=>Sh1s l
def Sh.val:(s:Sh)→s.ty→Value
 | .v s,y=>s.val y
 | .t l,y=>.tuple (Sh1s.vals l y).toArray
inductive LV where
 | v (x:Value)
 | a (e:TypeId) (n:Nat) (ys:List Value)
inductive LSh where
 | o (s:Sh1)
 | a (e:TypeId)
abbrev LSh.ty:LSh→Type
 | .o s=>s.ty
 | .a _=>Nat × List Value
def LSh.lv:(s:LSh)→s.ty→LV
 | .o s,y=>.v (s.val y)
 | .a e,y=>.a e y.1 y.2
abbrev LShs:List LSh→Type
 | []=>Unit
 | s :: r=>s.ty × LShs r
def LShs.lvs:(l:List LSh)→LShs l→List LV
 | [],_=>[]
 | s :: r,y=>s.lv y.1 :: LShs.lvs r y.2
inductive T:Type where
 | ret (vs:List Value)
 | nx (l:Nat) (st:List LV)
 | call (dr:Bool) (g:Nat) (args:List Value) (sh:Sh) (k:sh.ty→T)
 | cf (g:Nat) (args:List Value) (sh:Sh) (k:sh.ty→T)
 | rf (k:T)
 | br (b:Bool) (x y:T)
 | rq (p:Prop) (k:T)
 | el (a:Option Addr) (n:Nat) (i:Int) (k:Addr→T)
 | ld (dr:Bool) (a:Addr) (sh:Sh1) (k:sh.ty→T)
 | xs (l:List Value) (off:Nat) (sh:Sh1) (k:sh.ty→T)
 | st (a:Addr) (vs:List Value) (k:T)
 | fz (n:Nat) (xs:List Value) (t:Nat) (k:Nat→Nat→T)
 | es (xs:List Value) (t:Nat) (k:Nat→T)
 | rd (s:SlV) (sz:Nat) (k:List Value→T)
 | ra (s:SlV) (sz:Nat) (k:List Value→T)
 | ap (s:SlV) (sz bytes:Nat) (ys:List Value) (m:Nat) (t:Nat) (k:SlV→T)
 | lp (sh:List LSh) (init:List LV) (body:LShs sh→T)
 | jn (sh:List LSh) (body:LShs sh→T) (before:T)
 | mo (m:MOp) (sh:Sh) (k:sh.ty→T)
 | rg (k:T)
 | spl (y:Option (Nat × Int)) (x:T) (k:Nat × Int→T)
 | no
instance coeMeasure:Coe Nat (Know→Nat):=⟨fun n _=>n⟩
instance numMeasure {n:Nat}:OfNat (Know→Nat) n:=⟨fun _=>n⟩
def T.wp (P:Program) (K:Know→List Value→Prop):T→Know→Know→List (List LV→Know→Prop)→Prop
 | .ret vs,V,_,_=>K V vs
 | .nx l s,V,_,Ns=>∃ N,Ns[l]?=some N∧N s V
 | .call dr g args sh k,V,V0,Ns=>CallX P V g args (fun V' r=>(dr=true→V.le V')∧∃ y,r=sh.val y∧(k y).wp P K V' V0 Ns)
 | .cf g args sh k,V,V0,Ns=>CallX P V g args (fun V' r=>V0.le V'∧∃ y,r=sh.val y∧(k y).wp P K V' V0 Ns)
 | .rf k,V,_,Ns=>∃ U:Know,U.le V∧k.wp P K V U Ns
 | .br b x y,V,V0,Ns=>(b=true→x.wp P K V V0 Ns)∧(b=false→y.wp P K V V0 Ns)
 | .rq p k,V,V0,Ns=>p∧k.wp P K V V0 Ns
 | .el a n i k,V,V0,Ns=>∃ ad,a=some ad∧0≤i∧i<(n:Int)∧(k ad).wp P K V V0 Ns
 | .ld dr a sh k,V,V0,Ns=>∃ y,loadV (if dr then V0 else V) a sh.len=some (sh.cells y)∧(k y).wp P K V V0 Ns
 | .xs l off sh k,V,V0,Ns=>∃ y,cutv l off sh.len=some (sh.cells y)∧(k y).wp P K V V0 Ns
 | .st a vs k,V,V0,Ns=>∃ cs u,a.spot=none∧V a.block=some (cs,(u,(0,0)))∧a.off+vs.length≤cs.length∧k.wp P K (kset V a.block (setl cs a.off vs,(u,(0,0)))) V0 Ns
 | .fz n ys t k,V,V0,Ns=>∀ b cap spare,V b=none→n≤cap→spare.length=(cap-n)*P.cellsOf t→(k b cap).wp P K (kset V b (ys++spare,(t,(0,0)))) V0 Ns
 | .ap s sz by' ys m t k,V,V0,Ns=>s.n≤s.c∧(s.a=none→s.c=0)∧(m=0→(k s).wp P K V V0 Ns) ∧
   (0<m→s.n+m≤s.c→∃ b cs,s.a=some ⟨b,0,none⟩∧V b=some (cs,(t,(0,0)))∧(s.n+m)*sz≤cs.length∧(k ⟨s.a,s.n+m,s.c⟩).wp P K (kset V b (setl cs (s.n*sz) ys,(t,(0,0)))) V0 Ns) ∧
   (0<m→s.c<s.n+m→(s.n+m)*by'≤140737488355328∧s.n+m≤9223372036854775807∧∃ old,((s.a=none∧s.n=0∧s.c=0∧old=[])∨∃ ad,s.a=some ad∧loadV V ad (s.n*sz)=some old)∧noTup old=true ∧
    ∀ b cap spare,V b=none→s.n+m≤cap→spare.length=(cap-(s.n+m))*P.cellsOf t→(k ⟨some ⟨b,0,none⟩,s.n+m,cap⟩).wp P K (kset V b ((old++ys)++spare,(t,(0,0)))) V0 Ns)
 | .es ys t k,V,V0,Ns=>∀ b,V b=none→(k b).wp P K (kset V b (ys,(t,(0,0)))) V0 Ns
 | .rd s sz k,V,V0,Ns=>∃ ys,((s.n=0∧(s.a=none→s.c=0)∧ys=[])∨∃ ad,s.a=some ad∧loadV V ad (s.n*sz)=some ys)∧one ys=true∧(k ys).wp P K V V0 Ns
 | .ra s sz k,V,V0,Ns=>∃ ys,((s.n=0∧ys=[])∨∃ ad,s.a=some ad∧loadV V0 ad (s.n*sz)=some ys)∧(k ys).wp P K V V0 Ns
 | .lp sh init body,V,_,Ns=>∃ (inv:LShs sh→Know→Prop) (μ:LShs sh→Know→Nat),(∃ y,init=LShs.lvs sh y∧inv y V) ∧
   ∀ y V,inv y V→(body y).wp P K V V (Ns++[fun vs V'=>∃ y',vs=LShs.lvs sh y'∧inv y' V'∧μ y' V'<μ y V])
 | .jn sh body before,V,V0,Ns=>∃ inv:LShs sh→Know→Prop,
   before.wp P K V V0 (Ns++[fun vs V'=>∃ y',vs=LShs.lvs sh y'∧inv y' V'])∧(∀ (y:LShs sh) (V1:Know),inv y V1→(body y).wp P K V1 V1 (Ns++[fun(_:List LV) (_:Know)=>False]))
 | .mo m sh k,V,V0,Ns=>SemX P V m.sem (fun V' r=>∃ y,r=sh.val y∧(k y).wp P K V' V0 Ns)
 | .rg k,V,_,Ns=>k.wp P K V V Ns
 | .spl y x k,V,V0,Ns=>(y=none→x.wp P K V V0 Ns)∧∀ p,y=some p→(k p).wp P K V V0 Ns
 | .no,_,_,_=>False
def splL:(l:List Sh1)→Sh1s l→(Sh1s l→T)→T
 | [],y,k=>k y
 | .o .e :: r,y,k=>.spl y.1 (splL r y.2 fun z=>k (none,z)) (fun p=>splL r y.2 fun z=>k (some p,z))
 | .o (.i _) :: r,y,k=>splL r y.2 fun z=>k (y.1,z)
 | .o .b :: r,y,k=>splL r y.2 fun z=>k (y.1,z)
 | .o .s :: r,y,k=>splL r y.2 fun z=>k (y.1,z)
 | .o .l :: r,y,k=>splL r y.2 fun z=>k (y.1,z)
 | .o .x :: r,y,k=>splL r y.2 fun z=>k (y.1,z)
 | .o .p :: r,y,k=>splL r y.2 fun z=>k (y.1,z)
 | .o .f :: r,y,k=>splL r y.2 fun z=>k (y.1,z)
 | .o .c :: r,y,k=>splL r y.2 fun z=>k (y.1,z)
 | .g _ :: r,y,k=>splL r y.2 fun z=>k (y.1,z)
def hasE:List Sh1→Bool
 | []=>false
 | .o .e :: _=>true
 | _ :: r=>hasE r
def splT:(sh:Sh)→sh.ty→(sh.ty→T)→T
 | .v (.o .e),y,k=>.spl y (k none) (fun p=>k (some p))
 | .t l,y,k=>match hasE l with | true=>splL l y k | false=>k y
 | .v (.o (.i _)),y,k=>k y
 | .v (.o .b),y,k=>k y
 | .v (.o .s),y,k=>k y
 | .v (.o .l),y,k=>k y
 | .v (.o .x),y,k=>k y
 | .v (.o .p),y,k=>k y
 | .v (.o .f),y,k=>k y
 | .v (.o .c),y,k=>k y
 | .v (.g _),y,k=>k y
theorem spl_wp {P:Program} {K:Know→List Value→Prop} {V V0:Know} {Ns:List (List LV→Know→Prop)} {y:Option (Nat × Int)} {k:Option (Nat × Int)→T} (h:(T.spl y (k none) (fun p=>k (some p))).wp P K V V0 Ns):(k y).wp P K V V0 Ns:=by
 cases y with
 | none=>exact h.1 rfl
 | some p=>exact h.2 p rfl
theorem splL_wp {P:Program} {K:Know→List Value→Prop} {V V0:Know} {Ns:List (List LV→Know→Prop)}:∀ (l:List Sh1) (y:Sh1s l) (k:Sh1s l→T),(splL l y k).wp P K V V0 Ns→(k y).wp P K V V0 Ns
 | [],_,_,h=>h
 | .o .e :: r,y,k,h=>by
  have h1:=spl_wp (k:=fun q=>splL r y.2 fun z=>k (q,z)) h
  exact splL_wp r y.2 (fun z=>k (y.1,z)) h1
 | .o (.i _) :: r,y,k,h=>splL_wp r y.2 (fun z=>k (y.1,z)) h
 | .o .b :: r,y,k,h=>splL_wp r y.2 (fun z=>k (y.1,z)) h
 | .o .s :: r,y,k,h=>splL_wp r y.2 (fun z=>k (y.1,z)) h
 | .o .l :: r,y,k,h=>splL_wp r y.2 (fun z=>k (y.1,z)) h
 | .o .x :: r,y,k,h=>splL_wp r y.2 (fun z=>k (y.1,z)) h
 | .o .p :: r,y,k,h=>splL_wp r y.2 (fun z=>k (y.1,z)) h
 | .o .f :: r,y,k,h=>splL_wp r y.2 (fun z=>k (y.1,z)) h
 | .o .c :: r,y,k,h=>splL_wp r y.2 (fun z=>k (y.1,z)) h
 | .g _ :: r,y,k,h=>splL_wp r y.2 (fun z=>k (y.1,z)) h
theorem splT_wp {P:Program} {K:Know→List Value→Prop} {V V0:Know} {Ns:List (List LV→Know→Prop)}:∀ {sh:Sh} {y:sh.ty} {k:sh.ty→T},(splT sh y k).wp P K V V0 Ns→(k y).wp P K V V0 Ns
 | .v (.o .e),_,k,h=>spl_wp (k:=k) h
 | .t l,y,k,h=>by
  have h1:splT (.t l) y k=(match hasE l with | true=>splL l y k | false=>k y):=rfl
  rw [h1] at h
  cases hb:hasE l <;> rw [hb] at h
  ·exact h
  ·exact splL_wp l y k h
 | .v (.o (.i _)),_,_,h=>h
 | .v (.o .b),_,_,h=>h
 | .v (.o .s),_,_,h=>h
 | .v (.o .l),_,_,h=>h
 | .v (.o .x),_,_,h=>h
 | .v (.o .p),_,_,h=>h
 | .v (.o .f),_,_,h=>h
 | .v (.o .c),_,_,h=>h
 | .v (.g _),_,_,h=>h
structure St where
 F:Fm
 H:List Box
 D:List Nat
 c:Nat
def evT (H:List Box) (F:Fm):Operand→Option SV
 | .const v=>match v with | .bool b=>some (.k b) | v=>some (.v v)
 | x=>ev H F x
def pvT:SV→Option Value
 | .v x=>some x
 | .k b=>some (.bool b)
 | _=>none
def unk:SV→SV
 | .k b=>.v (.bool b)
 | s=>s
def unkF (F:Fm):Fm:=fun t=>match F t with | some s=>some (unk s) | none=>none
def scOf (P:Program) (t:TypeId):Sc:=match P.underlying t with
 | some (.int k)=>.i k
 | some .bool=>.b
 | some .string=>.s
 | some (.slice _)=>.l
 | some (.pointer _)=>.p
 | some (.func ..)=>.f
 | some (.interface ms) => if (ms.getD 0 ("", 0)).1 == "Error" then .e else .x
 | _=>.x
def scsOf (P:Program):Nat→TypeId→List Sc
 | 0,_=>[]
 | n+1,t=>match P.underlying t with
  | some (.struct fs)=>fs.toList.flatMap fun f=>scsOf P n f.type
  | some (.array k e)=>(List.replicate k (scsOf P n e)).flatten
  | _=>[scOf P t]
def sh1 (P:Program) (t:TypeId):Option Sh1:=match isAg P t with
 | some true=>some (.g (scsOf P 8 t))
 | some false=>some (.o (scOf P t))
 | none=>none
def shs (P:Program):List TypeId→Option (List Sh1)
 | []=>some []
 | t :: r=>match sh1 P t,shs P r with | some s,some l=>some (s :: l) | _,_=>none
def shOf (P:Program) (g:FuncId):Option Sh:=match P.funcs[g]? with
 | some fn=>match shs P fn.resultTypes.toList with
  | some [.o .f]=>some (.v (.o .c))
  | some [s]=>some (.v s)
  | some l=>some (.t l)
  | none=>none
 | none=>none
def shCall (P:Program) (f:Operand) (g:FuncId) (t:TypeId):Option Sh:=match f with
 | .const _=>shOf P g
 | .func _=>shOf P g
 | _=>match sh1 P t with
  | some s=>some (.v s)
  | none=>shOf P g
def envT (H:List Box) (F:Fm) (x:Operand):Value:=match evT H F x with | some s=>(match pvT s with | some y=>y | none=>undef) | none=>undef
def allPlainT (H:List Box) (F:Fm):List Operand→Bool
 | []=>true
 | x :: r=>match evT H F x with | some (.v _)=>allPlainT H F r | some (.k _)=>allPlainT H F r | _=>false
def genT (P:Program) (H:List Box) (F:Fm) (o:Oper) (k:SV→T):T :=
 match allPlainT H F o.op.operands.toList with
 | true=>match prun P (execOp (envT H F) o) with | some (.value r)=>k (.v r) | _=>.no
 | false=>.no
def viaT (s:Option SV) (k:SV→T):T:=match s with | some s=>k s | none=>.no
def viaB (s:Option SV) (k:SV→T):T:=match s with | some (.k _)=>.no | some s=>k s | none=>.no
def at0 (s:ByteArray) (n:Nat):Int:=(s.data.toList.getD n 0).toNat
def strField (P : Program) (f : Field) : Bool := match f.name != "_", P.underlying f.type with
 | true,some .string=>true
 | _,_=>false
def strPair (P:Program) (t:TypeId):Bool:=match P.underlying t with
 | some (.struct fs)=>match fs.toList with
  | [f,g]=>match strField P f,strField P g,f.offset,g.offset,P.stoodInHeld t,P.eqGuardType P.depth t with
   | true,true,0,1,false,false=>true
   | _,_,_,_,_,_=>false
  | _=>false
 | _=>false
def binT (P:Program) (H:List Box) (F:Fm) (o:Oper) (op:BinOp) (x y:Operand) (k:SV→T):T :=
 match evT H F x,evT H F y with
 | some (.v (.int k1 a)),some (.v (.int k2 b))=>match op with
  | .quo=>if k1=k2 then .rq (b≠0) (k (.v (.int k1 (k1.wrap (a.tdiv b))))) else .no
  | .rem=>if k1=k2 then .rq (b≠0) (k (.v (.int k1 (a.tmod b)))) else .no
  | _=>genT P H F o k
 | some (.v (.string a)),some (.v (.string b))=>match op with
  | .add=>.rq (a.size+b.size≤9223372036854775807) (k (.v (.string (a++b))))
  | _=>genT P H F o k
 | some (.v (.agg xs)),some (.v (.agg ys))=>match o.op,xs.toList,ys.toList with
  | .binOp .eql t _ _ _,[.string a,.string b],[.string c,.string d]=>match strPair P t with
   | true=>k (.v (.bool (a == c && b == d)))
   | false=>.no
  | _,_,_=>.no
 | _,_=>genT P H F o k
def optInt (H:List Box) (F:Fm) (d:Int):Option Operand→Option Int
 | none=>some d
 | some x=>match evT H F x with | some (.v (.int _ n))=>some n | _=>none
def slc (a:Option Addr) (l h m sz:Nat):Value:=.slice (if m=l then a else a.map (·.add (l*sz))) (h-l) (m-l)
def sliceT (P:Program) (H:List Box) (F:Fm) (t:TypeId) (x:Operand) (lo hi mx:Option Operand) (k:SV→T):T :=
 match evT H F x,P.underlying t with
 | some (.v (.string s)),some .string=>match mx,optInt H F 0 lo,optInt H F s.size hi with
  | none,some l,some h=>.rq (0≤l∧l≤h∧h≤s.size) (k (.v (.string (s.extract l.toNat h.toNat))))
  | _,_,_=>.no
 | some (.v (.slice a n c)),some (.slice e)=>match sizeOf? P e,optInt H F 0 lo,optInt H F n hi,optInt H F c mx with
  | some sz,some l,some h,some m=>match hi,mx with
   | none,some _=>.no
   | _,_=>.rq (0≤l∧l≤h∧h≤m∧m≤c) (k (.v (slc a l.toNat h.toNat m.toNat sz)))
  | _,_,_,_=>.no
 | _,_=>.no
def idxT (P:Program) (H:List Box) (t:TypeId) (k:SV→T):SV→SV→T
 | .o j,.v (.int _ n)=>match H[j]?,elemOf P t with
  | some (.a len _ _),some sz=>.rq (0≤n∧n<(len:Int)) (k (.p j (n.toNat*sz)))
  | _,_=>.no
 | .v (.slice a len _),.v (.int _ n)=>match elemOf P t with
  | some sz=>.el a len n fun ad=>k (.v (.pointer (some (ad.add (n.toNat*sz)))))
  | none=>.no
 | .v (.pointer (some a)),.v (.int _ n)=>match P.underlying t with
  | some (.array len e)=>match sizeOf? P e with
   | some sz=>.rq (0≤n∧n<(len:Int)) (k (.v (.pointer (some (a.add (n.toNat*sz))))))
   | none=>.no
  | _=>.no
 | _,_=>.no
def loadT (P:Program) (dr:Bool) (H:List Box) (t:TypeId) (k:SV→T):SV→T
 | .p i off=>match sizeOf? P t with
  | some n=>match H[i]? with
   | some (.c ..)=>match loadB H i off n with | some l=>viaB (join P t l) k | none=>.no
   | some (.a _ xs _)=>match sh1 P t with
    | some sh=>if n=sh.len then .xs xs off sh fun y=>k (.v (sh.val y)) else .no
    | none=>.no
   | _=>.no
  | none=>.no
 | .v (.pointer (some a))=>match sizeOf? P t,sh1 P t with
  | some n,some sh=>if n=sh.len then .ld dr a sh fun y=>k (.v (sh.val y)) else .no
  | _,_=>.no
 | _=>.no
def indexT (P:Program) (H:List Box) (F:Fm) (t:TypeId) (x i:Operand) (k:SV→T):T :=
 match evT H F x,evT H F i,P.underlying t with
 | some (.v (.string s)),some (.v (.int _ n)),some .string=>.rq (0≤n∧n<s.size) (k (.v (.int .u8 (at0 s n.toNat))))
 | some (.v (.agg cs)),some (.v (.int _ n)),some (.array len e)=>match sh1 P e,sizeOf? P e with
  | some sh,some sz=>if sh.len=sz then .rq (0≤n∧n<(len:Int)) (.xs cs.toList (n.toNat*sz) sh fun y=>k (.v (sh.val y))) else .no
  | _,_=>.no
 | _,_,_=>.no
def bytesD (l:List Value):ByteArray:=match bytesOf l with | some s=>s | none=>.empty
def stT (P:Program) (dr:Bool) (H:List Box) (F:Fm) (o:Oper) (k:SV→T):T :=
 match o.op with
 | .move x=>viaT (evT H F x) k
 | .assign x=>viaT (evT H F x) k
 | .pick c a b=>match evT H F c with
  | some (.k true)=>viaT (evT H F a) k
  | some (.k false)=>viaT (evT H F b) k
  | some (.v (.bool c))=>.br c (viaT (evT H F a) k) (viaT (evT H F b) k)
  | _=>.no
 | .fieldAddr t x i=>match evT H F x,fld P t i with
  | some (.p j off),some (d,_+1)=>match liveAt H j with | true=>k (.p j (off+d)) | false=>.no
  | some (.v (.pointer (some a))),some (d,_+1)=>k (.v (.pointer (some (a.add d))))
  | _,_=>.no
 | .indexAddr t x i=>match evT H F x,evT H F i with
  | some s,some n=>idxT P H t k s n
  | _,_=>.no
 | .load t x=>match evT H F x with
  | some s=>loadT P dr H t k s
  | none=>.no
 | .binOp op _ x y _=>binT P H F o op x y k
 | .unOp op _ x=>match op,evT H F x with
  | .not,some (.k b)=>k (.k (!b))
  | _,_=>genT P H F o k
 | .slice t x lo hi mx=>sliceT P H F t x lo hi mx k
 | .index t x i=>indexT P H F t x i k
 | .call c=>match isLen c,c.args.toList,c.argTypes.toList with
  | true,[x],[t]=>match evT H F x,P.underlying t with
   | some (.o j),some (.slice _)=>match H[j]? with | some (.a n _ _)=>k (.v (.int .i64 n)) | _=>.no
   | some (.v _),_=>genT P H F o k
   | _,_=>.no
  | _,_,_=>genT P H F o k
 | .convert src dst x=>match isBs P src dst,evT H F x with
  | true,some (.v (.slice a n c))=>match dr with
   | true=>.no
   | false=>.rd ⟨a,n,c⟩ 1 fun ys=>.rq (bytesOf ys≠none) (k (.v (.string (bytesD ys))))
  | _,_=>genT P H F o k
 | _=>genT P H F o k
def fzS:List SV→St→(St→T)→T
 | [],st,k=>k st
 | .o i :: r,st,k=>match st.H[i]? with
  | some (.a n xs t)=>.fz n xs t fun b cap=>fzS r { st with H:=st.H.set i (.f (.slice (some ⟨b,0,none⟩) n cap)),D:=st.D.set i st.c } k
  | some (.f _)=>fzS r st k
  | _=>.no
 | .p i _ :: r,st,k=>match st.H[i]? with
  | some (.c cs t)=>match plains (cs.map (res st.H)) with
   | some l=>.es l t fun b=>fzS r { st with H:=st.H.set i (.e b),D:=st.D.set i st.c } k
   | none=>.no
  | some (.e _)=>fzS r st k
  | _=>.no
 | _ :: r,st,k=>fzS r st k
def svsOf (H:List Box) (F:Fm):List Operand→List SV
 | []=>[]
 | x :: r=>match evT H F x with | some s=>s :: svsOf H F r | none=>svsOf H F r
def plainT (H:List Box) (F:Fm):List Operand→Option (List Value)
 | []=>some []
 | x :: r=>match evT H F x,plainT H F r with
  | some (.v y),some l=>some (y :: l)
  | some (.k b),some l=>some (.bool b :: l)
  | _,_=>none
def partsT (H:List Box) (F:Fm):List (Nat × Operand)→Option (List (Nat × Value))
 | []=>some []
 | (i,x) :: r=>match evT H F x,partsT H F r with
  | some (.v y),some l=>some ((i,y) :: l)
  | some (.k b),some l=>some ((i,.bool b) :: l)
  | _,_=>none
def newBox (st:St) (dst:Option Tmp) (s:SV) (b:Box):St:={ st with F:=putF st.F dst s,H:=st.H++[b],D:=st.D++[st.c] }
def preT (dr:Bool) (l:List SV) (st:St) (k:St→T):T:=match dr with | true=>k st | false=>fzS l st k
def isCo:Operand→Bool | .const _=>true | _=>false
def appT (P:Program) (dr nl:Bool) (o:Oper) (c:Call) (st:St) (k:St→T):T :=
 match c.args.toList,c.argTypes.toList with
 | [s,x],[t,t']=>if t=t' then match P.underlying t with
  | some (.slice e)=>match P.info? e,P.cellsOf e with
   | some i,sz=>match i.zero with
    | some z=>if z.cells.size=i.size∧0<i.size∧sz=i.size then
      let src (fin:Nat→List Value→T):T:=match evT st.H st.F x with
       | some (.o j)=>match st.H[j]? with
        | some (.a m ys _)=>.rq (ys.length=m*sz) (fin m ys)
        | _=>.no
       | some (.v (.slice a m cp))=>.rd ⟨a,m,cp⟩ sz fun ys=>fin m ys
       | _=>.no
      match evT st.H st.F s with
      | some (.o j)=>match st.H[j]? with
       | some (.a n xs u)=>if u=e then src fun m ys =>
         .rq (one ys=true∧(n+m)*i.bytes≤140737488355328∧n+m≤9223372036854775807)
          (k { st with F:=putF st.F o.dst (.o st.H.length),H:=st.H.set j .x++[.a (n+m) (xs++ys) e],D:=st.D.set j st.c++[st.c] }) else .no
       | _=>.no
      | some (.v (.slice sa n cp))=>match dr && !(nl && !isCo s) with
       | true=>.rq (Value.slice sa n cp=.slice none 0 0) (src fun m ys=>.br (decide (m=0)) (k { st with F:=putF st.F o.dst (.v (.slice none 0 0)) })
        (.rq (m*i.bytes≤140737488355328∧m≤9223372036854775807)
         (k { st with F:=putF st.F o.dst (.o st.H.length),H:=st.H++[.a m ys e],D:=st.D++[st.c] })))
       | false=>src fun m ys=>.rq (one ys=true) (.ap ⟨sa,n,cp⟩ i.size i.bytes ys m e fun s=>k { st with F:=putF st.F o.dst (.v (.slice s.a s.n s.c)) })
      | _=>.no
     else .no
    | none=>.no
   | none,_=>.no
  | _=>.no
  else .no
 | _,_=>.no
def copyT (P:Program) (o:Oper) (c:Call) (st:St) (k:St→T):T :=
 match c.args.toList,c.argTypes.toList with
 | [d,x],[t,_]=>match P.underlying t with
  | some (.slice e)=>match P.info? e with
   | some i=>if i.size=1 then
     let src (fin:Nat→List Value→T):T:=match evT st.H st.F x with
      | some (.o j)=>match st.H[j]? with
       | some (.a m ys _)=>.rq (ys.length=m*1) (fin m ys)
       | _=>.no
      | some (.v (.slice a m cp))=>.rd ⟨a,m,cp⟩ 1 fun ys=>fin m ys
      | _=>.no
     match evT st.H st.F d with
     | some (.o j)=>match st.H[j]? with
      | some (.a n xs u)=>if u=e then src fun m ys=>.rq (one ys=true)
        (k { st with F:=putF st.F o.dst (.v (.int .i64 (Nat.min m n:Nat))),H:=st.H.set j (.a n (setl xs 0 (ys.take (Nat.min m n))) e),D:=st.D.set j st.c }) else .no
      | _=>.no
     | _=>.no
    else .no
   | none=>.no
  | _=>.no
 | _,_=>.no
def storeT (P:Program) (o:Oper) (t:TypeId) (ad x:Operand) (st:St) (k:St→T):T :=
 let F':=putF st.F o.dst (.v undef)
 match evT st.H st.F ad,evT st.H st.F x with
 | some (.p i off),some s=>match st.H[i]? with
  | some (.c cs u)=>match cellsOf st.H (unk s) with
   | some l=>if sizeOf? P t=some l.length∧off+l.length≤cs.length then k { st with F:=F',H:=st.H.set i (.c (setl cs off l) u),D:=st.D.set i st.c } else .no
   | none=>.no
  | some (.a n xs u)=>match pvT s with
   | some y=>if one y.cells.toList=true∧sizeOf? P t=some y.cells.size then
     .rq (off+y.cells.size≤xs.length) (k { st with F:=F',H:=st.H.set i (.a n (setl xs off y.cells.toList) u),D:=st.D.set i st.c }) else .no
   | none=>.no
  | _=>.no
 | some (.v (.pointer (some a))),some s=>match pvT s with
  | some y=>if one y.cells.toList=true∧sizeOf? P t=some y.cells.size then .st a y.cells.toList (k { st with F:=F' }) else .no
  | none=>.no
 | _,_=>.no
def buildT (P:Program) (o:Oper) (t:TypeId) (n:Nat) (parts:List (Nat × Operand)) (st:St) (k:St→T):T :=
 match P.underlying t,partsT st.H st.F parts with
 | some (.slice e),some vals=>match P.info? e with
  | some i=>match i.zero with
   | some z=>if n*i.size≤16777216∧n≤16777216 then
     match Instr.fill (fun j=>some (j*i.size,i.size)) ((Array.range (n*i.size)).map ((if n*i.size=0 then #[] else z.cells)[· % (if n*i.size=0 then #[] else z.cells).size]!)) vals with
     | some cells=>if cells.size=n*i.size then k (newBox st o.dst (.o st.H.length) (.a n cells.toList e)) else .no
     | none=>.no
    else .no
   | none=>.no
  | none=>.no
 | _,_=>.no
def makeT (P:Program) (o:Oper) (t:TypeId) (l c:Operand) (st:St) (k:St→T):T :=
 match P.underlying t,evT st.H st.F l,evT st.H st.F c with
 | some (.slice e),some (.v (.int _ L)),some (.v (.int _ C))=>match P.info? e with
  | some i=>match i.zero with
   | some z=>.rq (0≤L∧L≤C∧(i.bytes:Int)*C≤281474976710656∧C≤9223372036854775807)
     (k (newBox st o.dst (.o st.H.length) (.a L.toNat ((madeCells z.cells (L.toNat*i.size)).toList) e)))
   | none=>.no
  | none=>.no
 | _,_,_=>.no
def ownIn (P:Program) (t:TypeId) (H:List Box):SV→List SV
 | .p i off=>match isAg P t,sizeOf? P t with
  | some true,some n=>match loadB H i off n with | some l=>l | none=>[]
  | _,_=>[]
 | _=>[]
def pvE (H:List Box) (F:Fm) (x:Operand):Option Value:=match evT H F x with | some s=>pvT s | none=>none
def mopT (H:List Box) (F:Fm) (o:Oper):Option MOp:=match o.op with
 | .makeMap t none=>some (.mk t)
 | .lookup t x k ok=>match pvE H F x,pvE H F k with
  | some a,some b=>some (.lk t a b ok)
  | _,_=>none
 | .mapUpdate t m k x=>match pvE H F m,pvE H F k,pvE H F x with
  | some a,some b,some c=>some (.up t a b c)
  | _,_,_=>none
 | .insert t m k x=>match pvE H F m,pvE H F k,pvE H F x with
  | some a,some b,some c=>some (.up t a b c)
  | _,_,_=>none
 | .call c=>match c.callee,c.args.toList with
  | .builtin .delete,[m,k]=>match pvE H F m,pvE H F k with
   | some a,some b=>some (.del c.argTypes o.type a b)
   | _,_=>none
  | _,_=>none
 | .convert src dst x=>match pvE H F x with
  | some a=>some (.cv src dst a)
  | none=>none
 | .typeAssert x xt t ok=>match pvE H F x with
  | some a=>some (.as a xt t ok)
  | none=>none
 | _=>none
def mopSh (P:Program):MOp→Option Sh
 | .mk _=>some (.v (.o .x))
 | .up ..=>some (.t [])
 | .del ..=>some (.t [])
 | .cv ..=>some (.v (.o .l))
 | .as _ _ t ok=>match sh1 P t,ok with
  | some s,false=>some (.v s)
  | some s,true=>some (.t [s,.o .b])
  | none,_=>none
 | .lk t _ _ ok=>match P.underlying t with
  | some (.map _ e)=>match sh1 P e,ok with
   | some s,false=>some (.v s)
   | some s,true=>some (.t [s,.o .b])
   | none,_=>none
  | _=>none
def mapT (P:Program) (dr nl:Bool) (o:Oper) (st:St) (k:St→T):T :=
 preT dr (svsOf st.H st.F o.op.operands.toList) st fun st=>match dr && !(nl && isUp o) with
  | true=>.no
  | false=>match mopT st.H st.F o with
   | some m=>match mopSh P m with
    | some sh=>.mo m sh fun y=>k { st with F:=putF st.F o.dst (.v (sh.val y)) }
    | none=>.no
   | none=>.no
def isPtr:Value→Bool
 | .pointer (some _)=>true
 | _=>false
def opT (P:Program) (dr nl nc:Bool) (o:Oper) (st:St) (k:St→T):T :=
 let plain:T:=stT P dr st.H st.F o fun s=>k { st with F:=putF st.F o.dst s }
 match o.op with
 | .call c=>match c.callee with
  | .value f=>preT dr (svsOf st.H st.F c.args.toList) st fun st=>match evT st.H st.F f,plainT st.H st.F c.args.toList with
   | some (.v (.func (.func g) fs cs)),some l=>match shCall P f g o.type with
    | some sh=>match dr && !nc && l.any isPtr with
     | true=>.cf g (fs.toList++l++cs.toList) sh fun y=>splT sh y fun y=>k { st with F:=putF st.F o.dst (.v (sh.val y)) }
     | false=>.call (dr && !nc) g (fs.toList++l++cs.toList) sh fun y=>splT sh y fun y=>k { st with F:=putF st.F o.dst (.v (sh.val y)) }
    | none=>.no
   | _,_=>.no
  | .invoke r _=>preT dr (svsOf st.H st.F c.args.toList) st fun st=>match evT st.H st.F r,plainT st.H st.F c.args.toList with
   | some (.v x),some l=>match calV P c x with
    | some (g,fs,cs)=>match shOf P g with
     | some sh=>.call (dr && !nc) g (fs.toList++l++cs.toList) sh fun y=>splT sh y fun y=>k { st with F:=putF st.F o.dst (.v (sh.val y)) }
     | none=>.no
    | none=>.no
   | _,_=>.no
  | .builtin .append=>appT P dr nl o c st k
  | .builtin .copy=>copyT P o c st k
  | .builtin .len=>plain
  | .builtin .min=>plain
  | .builtin .max=>plain
  | .builtin .delete=>mapT P dr nl o st k
  | _=>.no
 | .box t x=>preT dr (svsOf st.H st.F [x]) st fun st=>match evT st.H st.F x with
  | some s=>match pvT s with
   | some y=>k (newBox st o.dst (.p st.H.length 0) (.c (y.cells.toList.map .v) t))
   | none=>.no
  | none=>.no
 | .alloc t=>match zeroOf P t with
  | some z=>match dr with
   | true=>match o.dst with
    | some d=>match rsv d st.H with
     | some j=>k { st with F:=putF st.F o.dst (.p j 0),H:=st.H.set j (.c (z.map .v) t),D:=st.D.set j st.c }
     | none=>.no
    | none=>.no
   | false=>k (newBox st o.dst (.p st.H.length 0) (.c (z.map .v) t))
  | none=>.no
 | .store t ad x=>storeT P o t ad x st k
 | .buildSlice t n parts=>preT dr (svsOf st.H st.F (parts.toList.map (·.2))) st fun st=>buildT P o t n parts.toList st k
 | .makeSlice t l c=>makeT P o t l c st k
 | .move _=>plain
 | .assign _=>plain
 | .pick ..=>plain
 | .fieldAddr ..=>plain
 | .indexAddr ..=>plain
 | .load t x=>match evT st.H st.F x with
  | some s=>preT dr (ownIn P t st.H s) st fun st=>stT P dr st.H st.F o fun s=>k { st with F:=putF st.F o.dst s }
  | none=>.no
 | .select ..=>.no
 | .makeMap ..=>mapT P dr nl o st k
 | .lookup ..=>mapT P dr nl o st k
 | .mapUpdate ..=>mapT P dr nl o st k
 | .insert ..=>mapT P dr nl o st k
 | .typeAssert ..=>mapT P dr nl o st k
 | .convert src dst x=>match isSb P src dst with
  | true=>mapT P dr nl o st k
  | false=>preT dr (svsOf st.H st.F [x]) st fun st=>stT P dr st.H st.F o fun s=>k { st with F:=putF st.F o.dst s }
 | op=>preT dr (svsOf st.H st.F op.operands.toList) st fun st=>stT P dr st.H st.F o fun s=>k { st with F:=putF st.F o.dst s }
def alT (P:Program) (o:Oper) (st:St) (k:St→T):T :=
 match o.op with
 | .buildSlice t n parts=>match P.underlying t with
  | some (.slice e)=>match P.info? e with
   | some i=>match i.zero,n,parts.toList with
    | some _,0,[]=>.es [] e fun b=>k { st with F:=putF st.F o.dst (.v (.slice (some ⟨b,0,none⟩) 0 0)) }
    | some z,n+1,ps=>match partsT st.H st.F ps with
     | some vals=>if (n+1)*i.size≤16777216∧n+1≤16777216 then match Instr.fill (fun j=>some (j*i.size,i.size)) ((Array.range ((n+1)*i.size)).map ((if (n+1)*i.size=0 then #[] else z.cells)[· % (if (n+1)*i.size=0 then #[] else z.cells).size]!)) vals with
      | some cells=>if cells.size=(n+1)*i.size then .es cells.toList e fun b=>k { st with F:=putF st.F o.dst (.v (.slice (some ⟨b,0,none⟩) (n+1) (n+1))) } else .no
      | none=>.no
      else .no
     | none=>.no
    | _,_,_=>.no
   | none=>.no
  | _=>.no
 | .call c=>match c.callee,c.args.toList,c.argTypes.toList with
  | .builtin .append,[s,x],[t,t']=>if t=t' then match P.underlying t,evT st.H st.F s,evT st.H st.F x with
   | some (.slice e),some (.v (.slice (some sb) 0 0)),some (.v (.slice xa m cx))=>match P.info? e with
    | some i=>match i.zero with
     | some z=>if z.cells.size=i.size then .ra ⟨xa,m,cx⟩ i.size fun ys=>.rq (one ys=true∧m*i.bytes≤140737488355328∧m≤9223372036854775807)
       (.br (decide (m=0)) (k { st with F:=putF st.F o.dst (.v (.slice (some sb) 0 0)) })
        (.fz m ys e fun b cap=>k { st with F:=putF st.F o.dst (.v (.slice (some ⟨b,0,none⟩) m cap)) })) else .no
     | none=>.no
    | none=>.no
   | _,_,_=>.no
   else .no
  | _,_,_=>.no
 | _=>.no
def pickT (c b:Bool) (x y:T):T:=match c,b with | true,true=>x | false,false=>x | _,_=>y
def opsT (P:Program) (dr:Bool) (all:Array Oper):List Oper→St→(St→T)→T
 | [],st,k=>k st
 | o :: r,st,k =>
  let run (st:St):T:=match dr && isX all o with | true=>alT P o st (fun st=>opsT P dr all r st k) | false=>opT P dr (r.all fun o=>!isLoad o) (nlAt all (all.size-(r.length+1))) o st (fun st=>opsT P dr all r st k)
  let skip (st:St):T:=opsT P dr all r { st with F:=putF st.F o.dst (.v undef) } k
  match o.guard with
  | none=>run st
  | some (j,b)=>match (all[j]?).bind (·.dst) with
   | some d=>match st.F d with
    | some (.k c)=>pickT c b (run st) (skip st)
    | some (.v (.bool c))=>.br c (pickT true b (run { st with F:=upd st.F d (.k true) }) (skip { st with F:=upd st.F d (.k true) }))
      (pickT false b (run { st with F:=upd st.F d (.k false) }) (skip { st with F:=upd st.F d (.k false) }))
    | some (.v (.tuple _))=>skip st
    | _=>.no
   | none=>.no
inductive Pl where
 | s (t:Nat)
 | c (i j:Nat)
inductive PlN where
 | s (t:Nat)
 | c (t j:Nat)
structure An where
 lp:List (Nat × List PlN × List LSh)
 jn:List (Nat × List PlN × List LSh)
 fz:List (Nat × List PlN):=[]
def Code.rid:Code→Nat
 | .region id _ _=>id
 | .seq a _=>Code.rid a
 | .cond _ a _=>Code.rid a+1000000
 | .block _ c=>Code.rid c
 | .loop c=>Code.rid c
 | _=>0
def look:List (Nat × List PlN × List LSh)→Nat→Option (List PlN × List LSh)
 | [],_=>none
 | (j,x) :: r,i=>if i=j then some x else look r i
def slots:List Pl→List Nat
 | []=>[]
 | .s t :: r=>t :: slots r
 | _ :: r=>slots r
def lookF:List (Nat × List PlN)→Nat→List PlN
 | [],_=>[]
 | (j,x) :: r,i=>if i=j then x else lookF r i
def svsPl (st:St):List PlN→List SV
 | []=>[]
 | .s t :: r=>(match st.F t with | some s=>[s] | none=>[])++svsPl st r
 | .c t j :: r=>(match st.F t with
  | some (.p i _)=>(match st.H[i]? with | some (.c cs _)=>(match cs[j]? with | some s=>[s] | none=>[]) | _=>[])
  | _=>[])++svsPl st r
def slotsN:List PlN→List Nat
 | []=>[]
 | .s t :: r=>t :: slotsN r
 | _ :: r=>slotsN r
def named (F:Fm):List PlN→Option (List Pl)
 | []=>some []
 | .s t :: r=>match named F r with | some l=>some (.s t :: l) | none=>none
 | .c t j :: r=>match F t,named F r with | some (.p i _),some l=>some (.c i j :: l) | _,_=>none
def writes (an:An):Code→List Nat
 | .region _ ops _=>ops.toList.filterMap (·.dst)
 | .seq a b=>writes an a++writes an b++(match look an.jn (Code.rid b) with | some (pls,_)=>slotsN pls | none=>[])
 | .cond _ a b=>writes an a++writes an b
 | .block _ c=>writes an c
 | .loop c=>writes an c++(match look an.lp (Code.rid c) with | some (pls,_)=>slotsN pls | none=>[])
 | _=>[]
def killT:List Pl→List LSh→St→Option St
 | [],[],st=>some st
 | .s t :: r,sh :: l,st=>killT r l (match sh,st.F t with
  | .a _,some (.o i)=>{ st with H:=st.H.set i .x,D:=st.D.set i st.c }
  | _,_=>st)
 | .c i j :: r,sh :: l,st=>match st.H[i]? with
  | some (.c cs u)=>killT r l (match sh,cs[j]? with
   | .a _,some (.o m)=>if m=i then { st with H:=st.H.set i (.c (cs.set j (.o i)) u),D:=st.D.set i st.c } else
     { st with H:=(st.H.set i (.c (cs.set j (.o i)) u)).set m .x,D:=(st.D.set i st.c).set m st.c }
   | _,_=>{ st with H:=st.H.set i (.c (cs.set j (.o i)) u),D:=st.D.set i st.c })
  | _=>none
 | _,_,_=>none
def baseT (W:List Nat) (pls:List Pl) (shs:List LSh) (st:St):Option St :=
 match killT pls shs { st with c:=st.c+1 } with
 | some b=>some { b with F:=fun t=>match W.contains t with | true=>none | false=>b.F t }
 | none=>none
def putL:List Pl→List LV→St→Option St
 | [],[],st=>some st
 | .s t :: r,.v x :: l,st=>putL r l { st with F:=upd st.F t (.v x) }
 | .s t :: r,.a e n ys :: l,st=>putL r l { st with F:=upd st.F t (.o st.H.length),H:=st.H++[.a n ys e],D:=st.D++[st.c] }
 | .c i j :: r,.v x :: l,st=>match st.H[i]? with
  | some (.c cs u)=>putL r l { st with H:=st.H.set i (.c (cs.set j (.v x)) u),D:=st.D.set i st.c }
  | _=>none
 | .c i j :: r,.a e n ys :: l,st=>match st.H[i]? with
  | some (.c cs u)=>putL r l { st with H:=st.H.set i (.c (cs.set j (.o st.H.length)) u)++[.a n ys e],D:=st.D.set i st.c++[st.c] }
  | _=>none
 | _,_,_=>none
def getV (H:List Box):LSh→SV→Option (LV × List Nat)
 | .o _,s=>match pvT (res H s) with | some x=>some (.v x,[]) | none=>none
 | .a e,.o i=>match H[i]? with | some (.a n ys u)=>if u=e then some (.a e n ys,[i]) else none | _=>none
 | .a _,_=>none
def getL (st:St):List Pl→List LSh→Option (List LV × List Nat)
 | [],[]=>some ([],[])
 | .s t :: r,sh :: l=>match st.F t with
  | some s=>match getV st.H sh s,getL st r l with | some (x,is),some (xs,js)=>some (x :: xs,is++js) | _,_=>none
  | none=>none
 | .c i j :: r,sh :: l=>match st.H[i]? with
  | some (.c cs _)=>match cs[j]? with
   | some s=>match getV st.H sh s,getL st r l with | some (x,is),some (xs,js)=>some (x :: xs,is++js) | _,_=>none
   | none=>none
  | _=>none
 | _,_=>none
def ownsL (st:St):List Pl→List LSh→List SV
 | .s t :: r,.o _ :: l=>(match st.F t with | some s=>[s] | none=>[])++ownsL st r l
 | .c i j :: r,.o _ :: l=>(match st.H[i]? with | some (.c cs _)=>(match cs[j]? with | some s=>[s] | none=>[]) | _=>[])++ownsL st r l
 | _ :: r,_ :: l=>ownsL st r l
 | _,_=>[]
def deadAll (i:Nat):List SV→Bool
 | []=>true
 | .o j :: r=>Nat.beq i j && deadAll i r
 | _=>false
def sameAll (c:Nat):List Box→Nat→List Box→List Nat→Bool
 | [],_,_,_=>true
 | b :: r,i,H',D' =>
  (match b with
   | .x=>true
   | .c cs t=>(match D'[i]? with | some d=>Nat.blt d c | none=>false) || (match H'[i]? with
    | some (.c cs' t')=>Nat.beq t t' && Nat.beq cs.length cs'.length && deadAll i cs
    | _=>false)
   | _=>match D'[i]? with | some d=>Nat.blt d c | none=>false) && sameAll c r (i+1) H' D'
def freshAll (base:List Box):List Nat→Bool
 | []=>true
 | i :: r=>(match base[i]? with | some b=>!b.live | none=>true) && !r.contains i && freshAll base r
def nxT (pls:List Pl) (shs:List LSh) (base:St) (lbl:Nat) (st:St):T :=
 fzS (ownsL st pls shs) st fun st=>match getL st pls shs with
  | some (xs,is)=>match sameAll base.c base.H 0 st.H st.D && freshAll base.H is with
   | true=>.nx lbl xs
   | false=>.no
  | none=>.no
def headT (pls:List Pl) (base:St) (lvs:List LV) (k:St→T):T:=match putL pls lvs base with | some st=>k st | none=>.no
def subset (l W:List Nat):Bool:=l.all (W.contains ·)
def condT (c:Operand) (st:St) (x y:St→T):T :=
 match c with
 | .tmp t=>match st.F t with
  | some (.k true)=>x st
  | some (.k false)=>y st
  | some (.v (.bool b))=>.br b (x { st with F:=upd st.F t (.k true) }) (y { st with F:=upd st.F t (.k false) })
  | _=>.no
 | .const (.bool true)=>x st
 | .const (.bool false)=>y st
 | _=>.no
def padT (ops:Array Oper) (st:St):St:={ st with H:=st.H++pads ops,D:=st.D++(pads ops).map fun _=>st.c }
def ptrOp (F:Fm) (H:List Box) (o:Oper):Bool:=o.op.operands.any fun x=>match ev H F x with | some (.v (.pointer (some _)))=>true | _=>false
def callOp (o:Oper):Bool:=match o.op with | .call c=>(match c.callee with | .value _=>true | _=>false) | _=>false
def rfOps (F:Fm) (H:List Box) (ops:Array Oper):Bool:=ops.toList.any callOp && !ops.toList.any isUp && ops.toList.any (ptrOp F H)
def codeT (P:Program) (an:An):Code→St→(St→T)→(Nat→St→T)→(St→T)→T
 | .skip,st,kn,_,_=>kn st
 | .region id ops dr,st,kn,_,_=>match dr with
  | true=>fzS (svsPl st (lookF an.fz id)) st fun st=>match drawOk (unkF st.F) st.H ops with
   | true=>match rfOps (unkF st.F) st.H ops with
    | true=>.rf (opsT P true ops ops.toList (padT ops st) kn)
    | false=>.rg (opsT P true ops ops.toList (padT ops st) kn)
   | false=>.no
  | false=>opsT P false ops ops.toList st kn
 | .seq a b,st,kn,kx,kr=>match look an.jn (Code.rid b) with
  | none=>codeT P an a st (fun st=>codeT P an b st kn kx kr) kx kr
  | some (pns,shs)=>match named st.F pns with
   | none=>.no
   | some pls=>match baseT (slots pls++writes an a) pls shs st with
   | none=>.no
   | some base=>.jn shs (fun y=>headT pls base (LShs.lvs shs y) fun st=>codeT P an b st kn kx kr)
     (codeT P an a { st with c:=st.c+1,D:=base.D } (nxT pls shs base st.c) kx kr)
 | .cond c a b,st,kn,kx,kr=>condT c st (fun st=>codeT P an a st kn kx kr) (fun st=>codeT P an b st kn kx kr)
 | .block id c,st,kn,kx,kr=>codeT P an c st kn (fun e st=>match Nat.beq e id with | true=>kn st | false=>kx e st) kr
 | .loop c,st,_,kx,kr=>fzS (svsPl st (lookF an.fz (Code.rid c+2000000))) st fun st=>match look an.lp (Code.rid c) with
  | none=>.no
  | some (pns,shs)=>match named st.F pns with
   | none=>.no
   | some pls=>fzS (ownsL st pls shs) st fun st=>match baseT (slots pls++writes an c) pls shs st,getL st pls shs with
   | some base,some (xs,is)=>match sameAll base.c base.H 0 st.H base.D && freshAll base.H is with
    | true=>.lp shs xs fun y=>headT pls base (LShs.lvs shs y) fun st1=>codeT P an c st1 (nxT pls shs base st.c) kx kr
    | false=>.no
   | _,_=>.no
 | .exit id,st,_,kx,_=>kx id st
 | .ret,st,_,_,kr=>kr st
 | _,_,_,_,_=>.no
def resOwns (P:Program) (st:St):List ResultVar→List SV
 | []=>[]
 | .tmp t :: r=>(match st.F t with | some s=>[s] | none=>[])++resOwns P st r
 | .cell a t :: r=>(match st.F a,sizeOf? P t with
  | some (.p i off),some n=>(match loadB st.H i off n with | some l=>l | none=>[])
  | _,_=>[])++resOwns P st r
def resVals (P:Program) (st:St):List ResultVar→Option (List Value)
 | []=>some []
 | .tmp t :: r=>match st.F t,resVals P st r with
  | some s,some l=>match pvT (res st.H s) with | some x=>some (x :: l) | none=>none
  | _,_=>none
 | .cell a t :: r=>match st.F a,sizeOf? P t,resVals P st r with
  | some (.p i off),some n,some l=>match loadB st.H i off n with
   | some l'=>match join P t l' with | some (.v x)=>some (x :: l) | _=>none
   | none=>none
  | _,_,_=>none
def retT (P:Program) (fn:Func) (st:St):T:=fzS (resOwns P st fn.results.toList) st fun st=>match resVals P st fn.results.toList with | some vs=>.ret vs | none=>.no
def argF (args:List Value) (n:Nat):Fm:=fun t=>match args[t]? with | some x=>some (.v x) | none=>if t<n then some (.v undef) else none
def dec (P:Program) (an:An) (fn:Func) (c:Code) (args:List Value):T :=
 codeT P an c ⟨argF args fn.ntmps,[],[],0⟩ (retT P fn) (fun _ _=>.no) (retT P fn)
end Sx
namespace Sx
open Go
end Sx
namespace Sx
open Go
variable {P:Program}
theorem prun_bind {α β:Type} (s:Sem α) (f:α→Sem β):prun P (s >>= f)=(prun P s).bind (fun x=>prun P (f x)):=by
 show prun P (s.bind f)=_
 induction s with
 | pure a=>rfl
 | program k ih=>exact ih P
 | mark m k ih=>exact ih
 | _=>rfl
theorem prun_pure {α:Type} (x:α):prun P (pure x:Sem α)=some x:=rfl
theorem prun_program:prun P program=some P:=rfl
theorem prun_underlying {t:TypeId} {d:TypeDesc} (h:P.underlying t=some d):prun P (underlying t)=some d:=by
 simp [underlying,prun_bind,prun_program,h,prun_pure]
theorem prun_sizeOf {t n:Nat} (h:sizeOf? P t=some n):prun P (Go.sizeOf t)=some n:=by
 unfold sizeOf? at h
 split at h
 ·rename_i i hi
  simp at h; subst h
  simp [Go.sizeOf,Go.typeInfo,prun_bind,prun_program,hi,prun_pure]
 ·cases h
theorem prun_quo {k:IntKind} {a b:Int} (hb:b≠0) (t:TypeId):prun P (binOp .quo t (.int k a) (.int k b))=some (.int k (k.wrap (a.tdiv b))):=by
 simp [binOp,Op.intDiv,hb,prun_pure]
theorem prun_rem {k:IntKind} {a b:Int} (hb:b≠0) (t:TypeId):prun P (binOp .rem t (.int k a) (.int k b))=some (.int k (a.tmod b)):=by
 simp [binOp,Op.intDiv,hb,prun_pure]
theorem prun_sadd {a b:ByteArray} (h:a.size+b.size≤9223372036854775807) (t:TypeId):prun P (binOp .add t (.string a) (.string b))=some (.string (a++b)):=by
 have:¬ (((a.size+b.size:Nat):Int) > IntKind.i64.max):=by
  have:IntKind.i64.max=9223372036854775807:=by decide
  omega
 simp only [binOp,Op.stringOp,this,if_false,prun_pure]
theorem prun_bound (k:IntKind) (i:Int) (y:Nat) (c:BoundsCode) (h:0≤i∧i≤y):prun P (Instr.sliceBound (.int k i) y c)=some i.toNat:=by
 simp [Instr.sliceBound,asIntOf,prun_pure,h]
theorem unk_res (H:List Box) (s:SV):unk (res H s)=res H (unk s):=by
 cases s with
 | v x=>rfl
 | k b=>rfl
 | p i off=>cases hH:H[i]? with
  | none=>simp [res,unk,hH]
  | some b=>cases b <;> simp [res,unk,hH]
 | o i=>cases hH:H[i]? with
  | none=>simp [res,unk,hH]
  | some b=>cases b <;> simp [res,unk,hH]
theorem ev_unk (H:List Box) (F:Fm) (x:Operand):ev H (unkF F) x=match evT H F x with | some s=>some (unk s) | none=>none:=by
 cases x with
 | tmp t =>
  simp only [ev,evT,unkF]
  cases F t with
  | none=>rfl
  | some s=>simp [unk_res]
 | const v=>cases v <;> rfl
 | global g=>rfl
 | func f=>rfl
theorem ev_of {H:List Box} {F:Fm} {x:Operand} {s:SV} (h:evT H F x=some s):ev H (unkF F) x=some (unk s):=by
 rw [ev_unk,h]
theorem pv_unk {s:SV} {y:Value} (h:pvT s=some y):unk s=.v y:=by
 cases s <;> simp [pvT] at h <;> subst h <;> rfl
theorem allPlain_unk {H:List Box} {F:Fm}:∀ (l:List Operand),allPlain H (unkF F) l=allPlainT H F l
 | []=>rfl
 | x :: r=>by
  simp only [allPlain,allPlainT,ev_unk]
  cases evT H F x with
  | none=>rfl
  | some s=>cases s <;> simp [unk,allPlain_unk r]
theorem env_unk (H:List Box) (F:Fm):envOf H (unkF F)=envT H F:=by
 funext x
 simp only [envOf,envT,ev_unk]
 cases evT H F x with
 | none=>rfl
 | some s=>cases s <;> simp [unk,pvT]
section
variable {K:Know→List Value→Prop} {V V0:Know} {Ns:List (List LV→Know→Prop)} {H:List Box} {F:Fm} {o:Oper} {k:SV→T} {dr:Bool}
def Stt (P:Program) (K:Know→List Value→Prop) (V V0:Know) (Ns:List (List LV→Know→Prop)) (x:Option SV) (k:SV→T):Prop :=
 ∃ s,x=some (unk s)∧(k s).wp P K V V0 Ns
theorem genT_sound (h:(genT P H F o k).wp P K V V0 Ns):Stt P K V V0 Ns (stabPlain P H (unkF F) o) k:=by
 unfold genT at h
 unfold stabPlain
 rw [allPlain_unk,env_unk]
 split at h
 ·rename_i hp
  rw [hp]
  simp only
  split at h
  ·rename_i r hr
   rw [hr]
   exact⟨.v r,rfl,h⟩
  ·exact h.elim
 ·exact h.elim
theorem viaT_sound {x:Operand} (h:(viaT (evT H F x) k).wp P K V V0 Ns):Stt P K V V0 Ns (ev H (unkF F) x) k:=by
 unfold viaT at h
 split at h
 ·rename_i s hs
  exact⟨s,ev_of hs,h⟩
 ·exact h.elim
theorem plain_bin {op:BinOp} {t:TypeId} {x y:Operand} {p} {a b r:Value} (ho:o.op=.binOp op t x y p) (hop:op≠.eql∧op≠.neq)
  (hx:ev H F x=some (.v a)) (hy:ev H F y=some (.v b)) (hr:prun P (binOp op t a b)=some r):stabPlain P H F o=some (.v r):=by
 unfold stabPlain
 have h1:allPlain H F o.op.operands.toList=true:=by simp [ho,Op.operands,allPlain,hx,hy]
 rw [h1]
 simp only
 have h2:prun P (execOp (envOf H F) o)=some (.value r):=by
  have hg:prun P (eqGuard op t x y a b)=some ():=by
   unfold eqGuard
   cases op <;> simp_all [prun_pure]
  simp only [execOp,ho,prun_bind,envOf,hx,hy,hg,hr,Option.bind_some,prun_pure]
 rw [h2]
theorem prun_part_str {t:TypeId} {xs:List Value} {off:Nat} {v:Value} (h:P.underlying t=some .string) (hv:xs[off]?=some v):prun P (part t xs.toArray off)=some v:=by
 have hu:prun P (isAgg t)=some false:=by simp [isAgg,prun_bind,prun_underlying h,prun_pure]
 have:xs.toArray[off]?=some v:=by simpa using hv
 simp [part,prun_bind,hu,this,prun_pure]
theorem strField_out {f : Field} (h : strField P f = true) : f.name ≠ "_" ∧ P.underlying f.type = some .string := by
 unfold strField at h
 split at h
 ·rename_i h1 h2; exact⟨by simpa using h1,h2⟩
 ·cases h
theorem prun_equalIn_str {d:Nat} {t:TypeId} {a b:ByteArray} (h:P.underlying t=some .string):prun P (Op.equalIn (d+1) t (.string a) (.string b))=some (a == b):=by
 simp [Op.equalIn,prun_bind,prun_underlying h,prun_pure]
theorem prun_strPair {t:TypeId} {x y:Operand} {a b c d:ByteArray} (h:strPair P t=true) :
  prun P (do eqGuard .eql t x y (.agg [.string a,.string b].toArray) (.agg [.string c,.string d].toArray); binOp .eql t (.agg [.string a,.string b].toArray) (.agg [.string c,.string d].toArray))=some (.bool (a == c && b == d)):=by
 unfold strPair at h
 split at h
 ·rename_i fs hu
  split at h
  ·rename_i f g hfs
   split at h
   ·rename_i h1 h2 h3 h4 h5 h6
    obtain⟨n1,u1⟩:=strField_out h1
    obtain⟨n2,u2⟩:=strField_out h2
    have efs:fs=#[f,g]:=by
     rw [← Array.toList_inj]; exact hfs
    subst efs
    have e1:prun P (eqGuard .eql t x y (.agg [.string a,.string b].toArray) (.agg [.string c,.string d].toArray))=some ():=by
     simp [eqGuard,prun_bind,prun_program,h6,prun_pure]
    have p1:prun P (part f.type [Value.string a,.string b].toArray f.offset)=some (.string a):=by rw [h3]; exact prun_part_str u1 rfl
    have p2:prun P (part f.type [Value.string c,.string d].toArray f.offset)=some (.string c):=by rw [h3]; exact prun_part_str u1 rfl
    have p3:prun P (part g.type [Value.string a,.string b].toArray g.offset)=some (.string b):=by rw [h4]; exact prun_part_str u2 rfl
    have p4:prun P (part g.type [Value.string c,.string d].toArray g.offset)=some (.string d):=by rw [h4]; exact prun_part_str u2 rfl
    have e2:∀ n,prun P (Op.equalIn (n+2) t (.agg [.string a,.string b].toArray) (.agg [.string c,.string d].toArray))=some (a == c && b == d):=by
     intro n
     have q1:prun P (Op.equalIn (n+1) f.type (.string a) (.string c))=some (a == c):=prun_equalIn_str u1
     have q2:prun P (Op.equalIn (n+1) g.type (.string b) (.string d))=some (b == d):=prun_equalIn_str u2
     rw [Op.equalIn]
     simp only [prun_bind,prun_underlying hu,Option.bind_some,prun_program,h5,Bool.false_eq_true,if_false]
     rw [← Array.forIn_toList]
     simp only [List.forIn_cons,List.forIn_nil,ne_eq,n1,n2,not_false_eq_true,if_true,prun_bind,p1,p2,Option.bind_some,q1]
     cases h7:(a == c)
     ·simp [prun_pure]
     ·simp only [Bool.not_true,Bool.false_eq_true,if_false,prun_pure,prun_bind,Option.bind_some,p3,p4,q2]
      cases h8:(b == d) <;> simp [prun_pure]
    have e4:prun P (Op.equal t (.agg [.string a,.string b].toArray) (.agg [.string c,.string d].toArray))=some (a == c && b == d):=e2 9998
    have e3:prun P (binOp .eql t (.agg [.string a,.string b].toArray) (.agg [.string c,.string d].toArray))=some (.bool (a == c && b == d)):=by
     show prun P (Op.equal t (.agg [.string a,.string b].toArray) (.agg [.string c,.string d].toArray) >>= fun r=>pure (Value.bool r))=_
     rw [prun_bind,e4]; rfl
    simp only [prun_bind,e1,e3,Option.bind_some]
   ·cases h
  ·cases h
 ·cases h
theorem plain_eql {t:TypeId} {x y:Operand} {p} {a b r:Value} (ho:o.op=.binOp .eql t x y p)
  (hx:ev H F x=some (.v a)) (hy:ev H F y=some (.v b)) (hr:prun P (do eqGuard .eql t x y a b; binOp .eql t a b)=some r):stabPlain P H F o=some (.v r):=by
 unfold stabPlain
 have h1:allPlain H F o.op.operands.toList=true:=by simp [ho,Op.operands,allPlain,hx,hy]
 rw [h1]
 simp only
 have h2:prun P (execOp (envOf H F) o)=some (.value r):=by
  rw [prun_bind] at hr
  simp only [execOp,ho,prun_bind,envOf,hx,hy,prun_pure]
  revert hr
  cases prun P (eqGuard .eql t x y a b) with
  | none=>intro hr; cases hr
  | some u=>intro hr; simp only [Option.bind_some] at hr ⊢; rw [hr]; rfl
 rw [h2]
theorem binT_sound {op:BinOp} {t:TypeId} {x y:Operand} {p} (ho:o.op=.binOp op t x y p) (h:(binT P H F o op x y k).wp P K V V0 Ns) :
  Stt P K V V0 Ns (stabPlain P H (unkF F) o) k:=by
 unfold binT at h
 split at h
 ·rename_i k1 a k2 b hx hy
  split at h
  ·split at h
   ·rename_i hk; subst hk
    exact⟨.v _,plain_bin ho (by simp) (ev_of hx) (ev_of hy) (prun_quo h.1 t),h.2⟩
   ·exact h.elim
  ·split at h
   ·rename_i hk; subst hk
    exact⟨.v _,plain_bin ho (by simp) (ev_of hx) (ev_of hy) (prun_rem h.1 t),h.2⟩
   ·exact h.elim
  ·exact genT_sound h
 ·rename_i a b hx hy
  split at h
  ·exact⟨.v _,plain_bin ho (by simp) (ev_of hx) (ev_of hy) (prun_sadd h.1 t),h.2⟩
  ·exact genT_sound h
 ·rename_i xs ys hx hy
  split at h
  ·rename_i t' _ _ _ a b c d ho' hxs hys
   rw [ho] at ho'
   injection ho' with e1 e2 e3 e4 e5
   subst e1 e2 e3 e4
   split at h
   ·rename_i hp
    have ex:xs=[Value.string a,.string b].toArray:=by rw [← Array.toList_inj]; exact hxs
    have ey:ys=[Value.string c,.string d].toArray:=by rw [← Array.toList_inj]; exact hys
    subst ex ey
    exact⟨.v _,plain_eql ho (ev_of hx) (ev_of hy) (prun_strPair hp),h⟩
   ·exact h.elim
  ·exact h.elim
 ·exact genT_sound h
theorem optInt_spec {d:Int} {x:Option Operand} {n:Int} (h:optInt H F d x=some n) :
  (x=none∧n=d)∨∃ y k,x=some y∧ev H (unkF F) y=some (.v (.int k n)):=by
 cases x with
 | none=>simp [optInt] at h; exact .inl ⟨rfl,h.symm⟩
 | some y =>
  simp only [optInt] at h
  split at h
  ·rename_i k n' hy
   simp at h; subst h
   exact .inr ⟨y,k,rfl,ev_of hy⟩
  ·cases h
theorem plain_slice {t:TypeId} {x:Operand} {lo hi mx:Option Operand} {a r:Value} (ho:o.op=.slice t x lo hi mx)
  (hx:ev H F x=some (.v a)) (hlo:∀ y,lo=some y→∃ z,ev H F y=some (.v z)) (hhi:∀ y,hi=some y→∃ z,ev H F y=some (.v z)) (hmx:∀ y,mx=some y→∃ z,ev H F y=some (.v z))
  (hr:prun P (Instr.sliceAt t a (lo.map (envOf H F)) (hi.map (envOf H F)) (mx.map (envOf H F)))=some r):stabPlain P H F o=some (.v r):=by
 unfold stabPlain
 have h1:allPlain H F o.op.operands.toList=true:=by
  cases lo <;> cases hi <;> cases mx <;> simp_all [Op.operands,allPlain] <;> (first | (obtain⟨z,hz⟩:=hlo; obtain⟨z1,hz1⟩:=hhi; obtain⟨z2,hz2⟩:=hmx; simp [*]) | (obtain⟨z,hz⟩:=hlo; obtain⟨z1,hz1⟩:=hhi; simp [*]) | (obtain⟨z,hz⟩:=hhi; obtain⟨z1,hz1⟩:=hmx; simp [*]) | (obtain⟨z,hz⟩:=hlo; obtain⟨z1,hz1⟩:=hmx; simp [*]) | (obtain⟨z,hz⟩:=hlo; simp [*]) | (obtain⟨z,hz⟩:=hhi; simp [*]) | (obtain⟨z,hz⟩:=hmx; simp [*]))
 rw [h1]
 simp only
 have h2:prun P (execOp (envOf H F) o)=some (.value r):=by
  have hx':envOf H F x=a:=by simp [envOf,hx]
  simp only [execOp,ho,prun_bind,hx',hr,Option.bind_some,prun_pure]
 rw [h2]
end
end Sx
namespace Sx
open Go
variable {P:Program} {K:Know→List Value→Prop} {V V0:Know} {Ns:List (List LV→Know→Prop)} {H:List Box} {F:Fm} {o:Oper} {k:SV→T} {dr:Bool}
theorem prun_map {α β:Type} (f:α→β) (s:Sem α):prun P (f <$> s)=(prun P s).map f:=by
 show prun P (s >>= fun x=>pure (f x))=_
 rw [prun_bind]
 cases prun P s <;> rfl
theorem envOf_of {x:Operand} {y:Value} (h:ev H F x=some (.v y)):envOf H F x=y:=by simp [envOf,h]
theorem bound_opt {d:Int} {x:Option Operand} {n:Int} (h:optInt H F d x=some n) :
  (∀ y,x=some y→∃ z,ev H (unkF F) y=some (.v z))∧((x=none∧n=d)∨∃ k,x.map (envOf H (unkF F))=some (.int k n)):=by
 rcases optInt_spec h with ⟨h1,h2⟩ | ⟨y,k,h1,h2⟩
 ·subst h1; exact⟨fun y hy=>(by cases hy),.inl ⟨rfl,h2⟩⟩
 ·subst h1
  exact⟨fun z hz=>(by simp at hz; subst hz; exact⟨_,h2⟩),.inr ⟨k,by simp [envOf_of h2]⟩⟩
theorem prun_bounds_str {n:Nat} {lo hi:Option Value} {l h:Int} (hl:(lo=none∧l=0)∨∃ k,lo=some (.int k l)) (hh:(hi=none∧h=n)∨∃ k,hi=some (.int k h))
  (hb:0≤l∧l≤h∧h≤n):prun P (Instr.sliceBounds false n n lo hi none)=some (l.toNat,h.toNat,n):=by
 have h3:(h.toNat:Int)=h:=Int.toNat_of_nonneg (by omega)
 have e1:∀ (k:IntKind) (c:BoundsCode),prun P (Instr.sliceBound (.int k h) n c)=some h.toNat:=fun k c=>prun_bound k h n c (by omega)
 have e2:∀ (k:IntKind) (c:BoundsCode),prun P (Instr.sliceBound (.int k l) h.toNat c)=some l.toNat:=fun k c=>prun_bound k l h.toNat c (by omega)
 have e3:∀ (k:IntKind) (c:BoundsCode),h=n→prun P (Instr.sliceBound (.int k l) n c)=some l.toNat:=fun k c e=>prun_bound k l n c (by omega)
 rcases hl with ⟨rfl,rfl⟩ | ⟨kl,rfl⟩ <;> rcases hh with ⟨rfl,rfl⟩ | ⟨kh,rfl⟩ <;> simp [Instr.sliceBounds,prun_bind,prun_map,prun_pure,e1,e2,e3]
theorem prun_bounds_sl {n c:Nat} {lo hi mx:Option Value} {l h m:Int} (hl:(lo=none∧l=0)∨∃ k,lo=some (.int k l)) (hh:(hi=none∧h=n)∨∃ k,hi=some (.int k h))
  (hm:(mx=none∧m=c)∨∃ k,mx=some (.int k m)) (hx:¬ (hi=none∧mx≠none))
  (hb:0≤l∧l≤h∧h≤m∧m≤c):prun P (Instr.sliceBounds true n c lo hi mx)=some (l.toNat,h.toNat,m.toNat):=by
 have h3:(h.toNat:Int)=h:=Int.toNat_of_nonneg (by omega)
 have h4:(m.toNat:Int)=m:=Int.toNat_of_nonneg (by omega)
 have e0:∀ (k:IntKind) (cd:BoundsCode),prun P (Instr.sliceBound (.int k m) c cd)=some m.toNat:=fun k cd=>prun_bound k m c cd (by omega)
 have e1:∀ (k:IntKind) (cd:BoundsCode),prun P (Instr.sliceBound (.int k h) m.toNat cd)=some h.toNat:=fun k cd=>prun_bound k h m.toNat cd (by omega)
 have e1':∀ (k:IntKind) (cd:BoundsCode),m=c→prun P (Instr.sliceBound (.int k h) c cd)=some h.toNat:=fun k cd e=>prun_bound k h c cd (by omega)
 have e2:∀ (k:IntKind) (cd:BoundsCode),prun P (Instr.sliceBound (.int k l) h.toNat cd)=some l.toNat:=fun k cd=>prun_bound k l h.toNat cd (by omega)
 have e3:∀ (k:IntKind) (cd:BoundsCode),h=n→prun P (Instr.sliceBound (.int k l) n cd)=some l.toNat:=fun k cd e=>prun_bound k l n cd (by omega)
 rcases hl with ⟨rfl,rfl⟩ | ⟨kl,rfl⟩ <;> rcases hh with ⟨rfl,rfl⟩ | ⟨kh,rfl⟩ <;> rcases hm with ⟨rfl,rfl⟩ | ⟨km,rfl⟩ <;>
  first | (simp at hx; done) | simp [Instr.sliceBounds,prun_bind,prun_map,prun_pure,e0,e1,e1',e2,e3]
theorem sliceT_sound {t:TypeId} {x:Operand} {lo hi mx:Option Operand} (ho:o.op=.slice t x lo hi mx) (h:(sliceT P H F t x lo hi mx k).wp P K V V0 Ns) :
  Stt P K V V0 Ns (stabPlain P H (unkF F) o) k:=by
 unfold sliceT at h
 split at h
 ·rename_i s hx hu
  split at h
  ·rename_i l hh hl hhi
   obtain⟨hb,hk⟩:=h
   obtain⟨a1,a2⟩:=bound_opt hl
   obtain⟨b1,b2⟩:=bound_opt hhi
   refine⟨.v _,plain_slice ho (ev_of hx) a1 b1 (fun y hy=>by cases hy) ?_,hk⟩
   have a3:(lo.map (envOf H (unkF F))=none∧l=0)∨∃ k,lo.map (envOf H (unkF F))=some (.int k l):=by
    rcases a2 with ⟨e,e'⟩ | e
    ·exact .inl ⟨by rw [e]; rfl,e'⟩
    ·exact .inr e
   have b3:(hi.map (envOf H (unkF F))=none∧hh=s.size)∨∃ k,hi.map (envOf H (unkF F))=some (.int k hh):=by
    rcases b2 with ⟨e,e'⟩ | e
    ·exact .inl ⟨by rw [e]; rfl,e'⟩
    ·exact .inr e
   have:=prun_bounds_str (P:=P) a3 b3 hb
   have hf:¬ (false=true):=by simp
   simp only [Instr.sliceAt,prun_bind,prun_underlying hu,Option.bind_some,Instr.slice,Option.map_none,Option.isSome_none,if_neg hf,this,prun_pure]
  ·exact h.elim
 ·rename_i a n c e hx hu
  split at h
  ·rename_i sz l hh m hsz hl hhi hmx
   split at h
   ·exact h.elim
   ·rename_i hne
    obtain⟨hb,hk⟩:=h
    obtain⟨a1,a2⟩:=bound_opt hl
    obtain⟨b1,b2⟩:=bound_opt hhi
    obtain⟨c1,c2⟩:=bound_opt hmx
    refine⟨.v _,plain_slice ho (ev_of hx) a1 b1 c1 ?_,hk⟩
    have a3:(lo.map (envOf H (unkF F))=none∧l=0)∨∃ k,lo.map (envOf H (unkF F))=some (.int k l):=by
     rcases a2 with ⟨e,e'⟩ | e
     ·exact .inl ⟨by rw [e]; rfl,e'⟩
     ·exact .inr e
    have b3:(hi.map (envOf H (unkF F))=none∧hh=n)∨∃ k,hi.map (envOf H (unkF F))=some (.int k hh):=by
     rcases b2 with ⟨e,e'⟩ | e
     ·exact .inl ⟨by rw [e]; rfl,e'⟩
     ·exact .inr e
    have c3:(mx.map (envOf H (unkF F))=none∧m=c)∨∃ k,mx.map (envOf H (unkF F))=some (.int k m):=by
     rcases c2 with ⟨e,e'⟩ | e
     ·exact .inl ⟨by rw [e]; rfl,e'⟩
     ·exact .inr e
    have hx2:¬ (hi.map (envOf H (unkF F))=none∧mx.map (envOf H (unkF F))≠none):=by
     rintro⟨h1,h2⟩
     cases hi with
     | some _=>simp at h1
     | none=>cases mx with
      | none=>simp at h2
      | some y=>exact hne y rfl rfl
    have:=prun_bounds_sl (P:=P) a3 b3 c3 hx2 hb
    simp only [Instr.sliceAt,prun_bind,prun_underlying hu,Option.bind_some,Instr.slice,this,prun_pure,prun_sizeOf hsz]
    rfl
  ·exact h.elim
 ·exact h.elim
theorem idxT_sound {t:TypeId}:∀ {s n:SV},(idxT P H t k s n).wp P K V V0 Ns→Stt P K V V0 Ns (idx P H t (unk s) (unk n)) k:=by
 intro s n h
 unfold idxT at h
 split at h
 ·rename_i j kd n'
  split at h
  ·rename_i len xs u sz hj he
   exact⟨.p j _,by simp [idx,unk,hj,he,h.1],h.2⟩
  ·exact h.elim
 ·rename_i a len c kd n'
  split at h
  ·rename_i sz he
   obtain⟨ad,rfl,h1,h2,h3⟩:=h
   exact⟨.v _,by simp [idx,unk,he,h1,h2],h3⟩
  ·exact h.elim
 ·rename_i a kd n'
  split at h
  ·rename_i len e hu
   split at h
   ·rename_i sz hs
    exact⟨.v _,by simp [idx,unk,hu,hs,h.1],h.2⟩
   ·exact h.elim
  ·exact h.elim
 ·exact h.elim
theorem plains_map (l:List Value):plains (l.map .v)=some l:=by
 induction l with
 | nil=>rfl
 | cons x r ih=>simp [plains,ih]
theorem join_sh {t:TypeId} {sh:Sh1} (h:sh1 P t=some sh) (y:sh.ty):join P t ((sh.cells y).map .v)=some (.v (sh.val y)):=by
 unfold sh1 at h
 unfold join
 split at h
 ·rename_i ha
  simp at h; subst h
  simp only [ha,Sh1.cells,plains_map,Sh1.val]
 ·rename_i ha
  simp at h; subst h
  simp [ha,Sh1.cells,Sh1.val]
 ·cases h
theorem vals_noTup:∀ (l:List Sc) (y:Scs l),noTup (Scs.vals l y)=true
 | [],_=>rfl
 | q :: r,y=>by
  have ih:=vals_noTup r y.2
  have h:noTup [q.val y.1]=true:=by
   cases q with
   | x=>exact one_noTup y.1.2
   | e =>
    obtain⟨y1,y2⟩:=y
    cases y1 <;> rfl
   | _=>rfl
  unfold noTup at ih h ⊢
  simp only [List.all_cons,List.all_nil,Bool.and_true] at h
  rw [Scs.vals,List.all_cons,ih,h]; rfl
theorem cells_noTup (s:Sh1) (y:s.ty):noTup (s.cells y)=true:=by
 cases s with
 | o q =>
  cases q with
  | x=>exact one_noTup y.2
  | e=>cases y <;> rfl
  | _=>rfl
 | g l=>exact vals_noTup l y
theorem loadT_sound {t:TypeId} {x:Operand} {s:SV} (hx:evT H F x=some s) (ho:o.op=.load t x) (h:(loadT P dr H t k s).wp P K V V0 Ns) :
  Stt P K V V0 Ns (stab P (if dr then V0 else V) H (unkF F) o) k:=by
 unfold loadT at h
 have hx':=ev_of hx
 split at h
 ·rename_i i off
  split at h
  ·rename_i n hn
   split at h
   ·rename_i cs u hi
    split at h
    ·rename_i l hl
     unfold viaB at h
     split at h
     ·exact h.elim
     ·rename_i s' hne hs
      refine⟨s',?_,h⟩
      have e:unk s'=s':=by cases s' <;> first | rfl | exact(hne _ rfl).elim
      simp only [stab,ho,hx',unk,hn,hl,hs]
     ·exact h.elim
    ·exact h.elim
   ·rename_i n' xs u hi
    split at h
    ·rename_i sh hsh
     split at h
     ·rename_i hlen
      obtain⟨y,hy,hk⟩:=h
      refine⟨.v _,?_,hk⟩
      have hb:loadB H i off n=some ((sh.cells y).map .v):=by simp [loadB,hi,hlen,hy]
      simp only [stab,ho,hx',unk,hn,hb,join_sh hsh]
     ·exact h.elim
    ·exact h.elim
   ·exact h.elim
  ·exact h.elim
 ·rename_i a
  split at h
  ·rename_i n sh hn hsh
   split at h
   ·rename_i hlen
    obtain⟨y,hy,hk⟩:=h
    refine⟨.v _,?_,hk⟩
    simp only [stab,ho,hx',unk,hn,hlen,hy,join_sh hsh,cells_noTup]
   ·exact h.elim
  ·exact h.elim
 ·exact h.elim
theorem prun_part {e:TypeId} {sh:Sh1} {sz:Nat} {cs:Array Value} {off:Nat} {y:sh.ty} (hsh:sh1 P e=some sh) (hsz:sizeOf? P e=some sz) (hlen:sh.len=sz) (hy:cutv cs.toList off sh.len=some (sh.cells y)) :
  prun P (part e cs off)=some (sh.val y):=by
 unfold sh1 isAg at hsh
 have hc:=cutv_spec hy
 subst hlen
 split at hsh
 ·rename_i ha
  simp at hsh; subst hsh
  have hg:prun P (isAgg e)=some true:=by
   split at ha <;> simp_all [isAgg,prun_bind,prun_underlying,prun_pure]
  simp only [part,prun_bind,hg,Option.bind_some,if_true,prun_sizeOf hsz,prun_pure,Sh1.val]
  have:(Scs.vals _ y).toArray=cs.extract off (off+Sh1.len (.g (scsOf P 8 e))):=by
   apply Array.ext'
   unfold cutv at hy
   split at hy
   ·simp only [Option.some.injEq,Sh1.cells] at hy
    simp only [Array.toList_extract,List.extract_eq_take_drop]
    rw [← hy]
    congr 1
    omega
   ·cases hy
  rw [this]
 ·rename_i ha
  simp at hsh; subst hsh
  have hg:prun P (isAgg e)=some false:=by
   split at ha <;> simp_all [isAgg,prun_bind,prun_underlying,prun_pure]
  have h0:=hc.2 0 _ (by simp [Sh1.cells]; rfl)
  simp only [Nat.add_zero,Array.getElem?_toList] at h0
  simp only [part,prun_bind,hg,Option.bind_some,Bool.false_eq_true,if_false,h0,prun_pure,Sh1.val]
 ·cases hsh
theorem indexT_sound {t:TypeId} {x i:Operand} (ho:o.op=.index t x i) (h:(indexT P H F t x i k).wp P K V V0 Ns) :
  Stt P K V V0 Ns (stabPlain P H (unkF F) o) k:=by
 unfold indexT at h
 split at h
 ·rename_i s kd n hx hi hu
  obtain⟨⟨h1,h2⟩,hk⟩:=h
  refine⟨.v _,?_,hk⟩
  have hx':=ev_of hx
  have hi':=ev_of hi
  have hn:n.toNat<s.size:=by omega
  simp only [unk] at hx' hi'
  unfold stabPlain
  have hp:allPlain H (unkF F) o.op.operands.toList=true:=by simp [ho,Op.operands,allPlain,hx',hi']
  rw [hp]
  have hg:s[n.toNat]?=some s[n.toNat]:=by simp [hn]
  have h2':prun P (execOp (envOf H (unkF F)) o)=some (.value (.int .u8 (at0 s n.toNat))):=by
   simp only [execOp,ho,prun_bind,envOf_of hx',envOf_of hi',Instr.index,asIntOf,prun_pure,Option.bind_some,prun_underlying hu,h1,if_true,hg]
   have:at0 s n.toNat=(s[n.toNat].toNat:Int):=by
    have hl:n.toNat<s.data.toList.length:=by simpa using hn
    have hl':n.toNat<s.data.size:=by simpa using hl
    have e1:s.data[n.toNat]?=some s.data[n.toNat]:=Array.getElem?_eq_getElem hl'
    simp only [at0,List.getD_eq_getElem?_getD,Array.getElem?_toList,e1,Option.getD_some]
    rfl
   rw [this]
  simp only [h2']
  rfl
 ·rename_i cs kd n len e hx hi hu
  split at h
  ·rename_i sh sz hsh hsz
   split at h
   ·rename_i hlen
    obtain⟨⟨h1,h2⟩,y,hy,hk⟩:=h
    refine⟨.v _,?_,hk⟩
    have hx':=ev_of hx
    have hi':=ev_of hi
    simp only [unk] at hx' hi'
    unfold stabPlain
    have hp:allPlain H (unkF F) o.op.operands.toList=true:=by simp [ho,Op.operands,allPlain,hx',hi']
    rw [hp]
    have h2':prun P (execOp (envOf H (unkF F)) o)=some (.value (sh.val y)):=by
     simp only [execOp,ho,prun_bind,envOf_of hx',envOf_of hi',Instr.index,asIntOf,prun_pure,Option.bind_some,prun_underlying hu,prun_sizeOf hsz,h1,h2,and_self,if_true,prun_part hsh hsz hlen hy]
    simp only [h2']
    rfl
   ·exact h.elim
  ·exact h.elim
 ·exact h.elim
theorem br_sound {c:Bool} {x y:T} (h:(T.br c x y).wp P K V V0 Ns):(if c then x else y).wp P K V V0 Ns:=by
 cases c
 ·exact h.2 rfl
 ·exact h.1 rfl
theorem bytesD_of {l:List Value} (h:bytesOf l≠none):bytesOf l=some (bytesD l):=by
 unfold bytesD
 cases hb:bytesOf l with
 | none=>exact(h hb).elim
 | some s=>rfl
theorem cutv_len0 {V:Know} {ad:Addr} {k:Nat} {ys:List Value} (h:loadV V ad (0*k)=some ys):ys=[]:=by
 unfold loadV at h
 split at h
 ·obtain⟨h1,_⟩:=cutv_spec h
  rw [Nat.zero_mul] at h1
  exact List.eq_nil_of_length_eq_zero h1
 ·cases h
theorem cvT_sound {src dst:TypeId} {x:Operand} {a:Option Addr} {n c:Nat} (ho:o.op=.convert src dst x) (hb:isBs P src dst=true) (hx:evT H F x=some (.v (.slice a n c)))
  (h:(T.rd ⟨a,n,c⟩ 1 fun ys=>.rq (bytesOf ys≠none) (k (.v (.string (bytesD ys))))).wp P K V V0 Ns):Stt P K V V0 Ns (stab P V H (unkF F) o) k:=by
 obtain⟨ys,hys,_,hne,hk⟩:=h
 have hx':=ev_of hx
 simp only [unk] at hx'
 refine⟨.v (.string (bytesD ys)),?_,hk⟩
 cases a with
 | none =>
  have hys':ys=[]:=by
   rcases hys with ⟨_,_,h⟩ | ⟨ad,h,_⟩
   ·exact h
   ·cases h
  subst hys'
  simp only [stab,ho,hb,hx']
  unfold stabPlain
  have hp:allPlain H (unkF F) o.op.operands.toList=true:=by simp [ho,Op.operands,allPlain,hx']
  rw [hp]
  have h2:prun P (execOp (envOf H (unkF F)) o)=some (.value (.string .empty)):=by
   unfold isBs at hb
   split at hb
   ·rename_i e hs1 hs2
    split at hb
    ·rename_i hs3
     simp only [execOp,ho,prun_bind,envOf_of hx',convert,prun_underlying hs1,prun_underlying hs2,prun_underlying hs3,Option.bind_some,Conv.bytesToString,prun_pure]
    ·cases hb
   ·cases hb
  simp only [h2]
  rfl
 | some ad =>
  by_cases hn:n=0
  ·have hys':ys=[]:=by
    rcases hys with ⟨_,_,h⟩ | ⟨ad',h,hl⟩
    ·exact h
    ·simp only at h hl
     rw [hn] at hl
     have:=(cutv_len0 hl)
     exact this
   subst hys'
   simp only [stab,ho,hb,hx',if_pos hn,unk]
   rfl
  ·rcases hys with ⟨h,_,_⟩ | ⟨ad',h,hl⟩
   ·exact(hn h).elim
   ·simp only [Option.some.injEq] at h
    subst h
    simp only [Nat.mul_one] at hl
    simp only [stab,ho,hb,hx',if_neg hn,hl,bytesD_of hne,unk]
theorem stT_sound (_:isSel o.op=false) (h:(stT P dr H F o k).wp P K V V0 Ns):Stt P K V V0 Ns (stab P (if dr then V0 else V) H (unkF F) o) k:=by
 unfold stT at h
 split at h
 ·rename_i x ho; simp only [stab,ho]; exact viaT_sound h
 ·rename_i x ho; simp only [stab,ho]; exact viaT_sound h
 ·rename_i c a b ho
  simp only [stab,ho]
  split at h
  ·rename_i hc; rw [ev_of hc]; exact viaT_sound h
  ·rename_i hc; rw [ev_of hc]; exact viaT_sound h
  ·rename_i c' hc
   rw [ev_of hc]
   have h':=br_sound h
   cases c'
   ·exact viaT_sound h'
   ·exact viaT_sound h'
  ·exact h.elim
 ·rename_i t x i ho
  simp only [stab,ho]
  split at h
  ·rename_i j off d n hx hf
   rw [ev_of hx,hf]
   split at h
   ·rename_i hl
    exact⟨.p j (off+d),by simp [unk,hl],h⟩
   ·exact h.elim
  ·rename_i a d n hx hf
   rw [ev_of hx,hf]
   exact⟨.v _,rfl,h⟩
  ·exact h.elim
 ·rename_i t x i ho
  simp only [stab,ho]
  split at h
  ·rename_i s n hs hn
   rw [ev_of hs,ev_of hn]
   exact idxT_sound h
  ·exact h.elim
 ·rename_i t x ho
  split at h
  ·rename_i s hs; exact loadT_sound hs ho h
  ·exact h.elim
 ·rename_i op t x y p ho
  have:stab P (if dr then V0 else V) H (unkF F) o=stabPlain P H (unkF F) o:=by simp only [stab,ho]
  rw [this]; exact binT_sound ho h
 ·rename_i op t x ho
  have e:stab P (if dr then V0 else V) H (unkF F) o=stabPlain P H (unkF F) o:=by simp only [stab,ho]
  rw [e]
  split at h
  ·rename_i b hx
   refine⟨.k (!b),?_,h⟩
   unfold stabPlain
   have hx':=ev_of hx
   simp only [unk] at hx'
   have hp:allPlain H (unkF F) o.op.operands.toList=true:=by simp [ho,Op.operands,allPlain,hx']
   have h2:prun P (execOp (envOf H (unkF F)) o)=some (.value (.bool (!b))):=by
    simp only [execOp,ho,prun_bind,envOf_of hx']
    rfl
   rw [hp]
   simp only [h2,unk]
  ·exact genT_sound h
 ·rename_i t x lo hi mx ho
  have e:stab P (if dr then V0 else V) H (unkF F) o=stabPlain P H (unkF F) o:=by simp only [stab,ho]
  rw [e]; exact sliceT_sound ho h
 ·rename_i t x i ho
  have e:stab P (if dr then V0 else V) H (unkF F) o=stabPlain P H (unkF F) o:=by simp only [stab,ho]
  rw [e]; exact indexT_sound ho h
 ·rename_i c ho
  simp only [stab,ho]
  split at h
  ·rename_i x t hl ha ht
   rw [hl,ha,ht]
   simp only
   split at h
   ·rename_i j e hx hu
    rw [ev_of hx,hu]
    split at h
    ·rename_i n xs u hj
     exact⟨.v _,by simp [unk,hj],h⟩
    ·exact h.elim
   ·rename_i v hx
    rw [ev_of hx]
    simp only [unk]
    exact genT_sound h
   ·exact h.elim
  ·rename_i hne
   split
   ·rename_i x t hl ha ht; exact(hne x t hl ha ht).elim
   ·exact genT_sound h
 ·rename_i src dst x ho
  split at h
  ·rename_i a n c hb hx
   cases dr
   ·exact cvT_sound ho hb hx h
   ·exact h.elim
  ·rename_i hne
   have e:stab P (if dr then V0 else V) H (unkF F) o=stabPlain P H (unkF F) o:=by
    simp only [stab,ho]
    split
    ·rename_i ad n c hb hx
     rw [ev_unk] at hx
     exfalso
     split at hx
     ·rename_i s hs
      cases s with
      | v x=>simp [unk] at hx; subst hx; exact hne _ _ _ hb hs
      | k b=>simp [unk] at hx
      | p i off=>simp [unk] at hx
      | o i=>simp [unk] at hx
     ·cases hx
    ·rfl
   rw [e]; exact genT_sound h
 ·rename_i h1 h2 h3 h4 h5 h6 h7 h8 h9 h10 h11 h12
  have e:stab P (if dr then V0 else V) H (unkF F) o=stabPlain P H (unkF F) o:=by
   unfold stab
   split <;> first | rfl | (exfalso; simp_all; done)
  rw [e]; exact genT_sound h
end Sx
namespace Sx
open Go
variable {P:Program} {N:Nat} {w0:World} {Vs V V0:Know} {ρ:Nat→Nat × Nat} {a:Act} {w:World}
 {K:Know→List Value→Prop} {Ns:List (List LV→Know→Prop)} {W:List Nat} {st st1 st2:St}
structure Pres (W:List Nat) (st st':St):Prop where
 slot:∀ t,W.contains t=false→unkF st'.F t=unkF st.F t
 wf:st.D.length=st.H.length→st'.D.length=st'.H.length
 len:st.H.length≤st'.H.length
 cnt:st.c≤st'.c
 box:∀ (i d:Nat),i<st.H.length→st'.D[i]?=some d→d<st.c→st'.H[i]?=st.H[i]?∧st.D[i]?=some d
 kind:∀ (i:Nat),i<st.H.length→st'.D[i]?=none→st.D[i]?=none
theorem Pres.refl:Pres W st st:=⟨fun _ _=>rfl,id,Nat.le_refl _,Nat.le_refl _,fun _ _ _ h _=>⟨rfl,h⟩,fun _ _ h=>h⟩
theorem Pres.trans (h:Pres W st st1) (k:Pres W st1 st2):Pres W st st2 :=
 ⟨fun t ht=>(k.slot t ht).trans (h.slot t ht),fun e=>k.wf (h.wf e),Nat.le_trans h.len k.len,Nat.le_trans h.cnt k.cnt,
  fun i d hi hd hc=>by
   obtain⟨h1,h2⟩:=k.box i d (Nat.lt_of_lt_of_le hi h.len) hd (Nat.lt_of_lt_of_le hc h.cnt)
   obtain⟨h3,h4⟩:=h.box i d hi h2 hc
   exact⟨h1.trans h3,h4⟩,
  fun i hi hn=>h.kind i hi (k.kind i (Nat.lt_of_lt_of_le hi h.len) hn)⟩
theorem unkF_upd (F:Fm) (d:Nat) (s:SV):unkF (upd F d s)=upd (unkF F) d (unk s):=by
 funext t
 by_cases e:t=d <;> simp [unkF,upd,e]
theorem unkF_put (F:Fm) (d:Option Tmp) (s:SV):unkF (putF F d s)=putF (unkF F) d (unk s):=by
 cases d with
 | none=>rfl
 | some d=>exact unkF_upd F d s
theorem Pres.upd {d:Nat} {s:SV} (hd:W.contains d=true):Pres W st { st with F:=Sx.upd st.F d s }:=by
 refine⟨fun t ht=>?_,id,Nat.le_refl _,Nat.le_refl _,fun _ _ _ h _=>⟨rfl,h⟩,fun _ _ h=>h⟩
 have:t≠d:=by rintro rfl; rw [hd] at ht; cases ht
 simp only [unkF,Sx.upd,if_neg this]
theorem Pres.putF {d:Option Tmp} {s:SV} (hd:∀ x,d=some x→W.contains x=true):Pres W st { st with F:=Sx.putF st.F d s }:=by
 cases d with
 | none=>exact Pres.refl
 | some d=>exact Pres.upd (hd d rfl)
theorem Pres.set {i:Nat} {b:Box}:Pres W st { st with H:=st.H.set i b,D:=st.D.set i st.c }:=by
 refine⟨fun _ _=>rfl,fun h=>by simpa using h,by simp,Nat.le_refl _,fun j d hj hd hc=>?_,fun j hj hn=>?_⟩
 ·simp only [List.getElem?_set] at hd ⊢
  by_cases e:i=j
  ·subst e
   simp only [if_true] at hd
   split at hd
   ·simp at hd; omega
   ·cases hd
  ·simp only [e,if_false] at hd ⊢
   exact⟨trivial,hd⟩
 ·simpa using hn
theorem Pres.app {b:Box}:Pres W st { st with H:=st.H++[b],D:=st.D++[st.c] }:=by
 refine⟨fun _ _=>rfl,fun h=>by simpa using h,by simp,Nat.le_refl _,fun j d hj hd hc=>?_,fun j hj hn=>?_⟩
 ·have hH:(st.H++[b])[j]?=st.H[j]?:=List.getElem?_append_left hj
  refine⟨hH,?_⟩
  simp only [List.getElem?_append] at hd
  split at hd
  ·exact hd
  ·rename_i hge
   have:(List.cons st.c [])[j-st.D.length]?=some d:=hd
   cases hq:j-st.D.length with
   | zero=>rw [hq] at this; simp at this; omega
   | succ m=>rw [hq] at this; simp at this
 ·simp only [List.getElem?_append] at hn
  split at hn
  ·exact hn
  ·rename_i hge; exact List.getElem?_eq_none (by omega)
theorem Pres.same {F:Fm} (h:F=st.F):Pres W st { st with F:=F }:=by subst h; exact Pres.refl
theorem fzS_sat {k:St→T}:∀ (l:List SV) {st:St} {V:Know},Sat P N w0.heap.size (unkF st.F) st.H V ρ a w→Fr Vs V w0 w→(fzS l st k).wp P K V V0 Ns →
  ∃ st' V',Pres W st st'∧st'.F=st.F∧st'.c=st.c∧Sat P N w0.heap.size (unkF st'.F) st'.H V' ρ a w∧Fr Vs V' w0 w∧(k st').wp P K V' V0 Ns
 | [],st,V,hS,hF,h=>⟨st,V,Pres.refl,rfl,rfl,hS,hF,h⟩
 | .o i :: r,st,V,hS,hF,h=>by
  unfold fzS at h
  split at h
  ·rename_i n xs t hi
   obtain⟨b,cap,spare,hb,hn,hsp,hS',hF'⟩:=hS.frz hF hi
   obtain⟨st',V',h1,h2,h2',h3,h4,h5⟩:=fzS_sat r (st:={ st with H:=st.H.set i (.f (.slice (some ⟨b,0,none⟩) n cap)),D:=st.D.set i st.c }) hS' hF' (h b cap spare hb hn hsp)
   exact⟨st',V',Pres.set.trans h1,h2,h2',h3,h4,h5⟩
  ·exact fzS_sat r hS hF h
  ·exact h.elim
 | .p i off :: r,st,V,hS,hF,h=>by
  unfold fzS at h
  split at h
  ·rename_i cs t hi
   split at h
   ·rename_i l hl
    obtain⟨b,hb,hS',hF'⟩:=hS.esc hF hi hl
    obtain⟨st',V',h1,h2,h2',h3,h4,h5⟩:=fzS_sat r (st:={ st with H:=st.H.set i (.e b),D:=st.D.set i st.c }) hS' hF' (h b hb)
    exact⟨st',V',Pres.set.trans h1,h2,h2',h3,h4,h5⟩
   ·exact h.elim
  ·exact fzS_sat r hS hF h
  ·exact h.elim
 | .v x :: r,st,V,hS,hF,h=>fzS_sat r hS hF h
 | .k x :: r,st,V,hS,hF,h=>fzS_sat r hS hF h
section
variable {ops:Array Oper} {Kf:Kt} {L:List Nat}
theorem fzS_R {k:St→T}:∀ (l:List SV) {st:St} {V:Know},(fzS l st k).wp P K V V0 Ns →
  (∀ st' V',Pres W st st'→st'.F=st.F→st'.c=st.c→(k st').wp P K V' V0 Ns→R P ops false V0 Kf L (unkF st'.F) st'.H V')→R P ops false V0 Kf L (unkF st.F) st.H V
 | [],st,V,h,hk=>hk st V Pres.refl rfl rfl h
 | .o i :: r,st,V,h,hk=>by
  unfold fzS at h
  split at h
  ·rename_i n xs t hi
   refine R.frz rfl hi fun b cap spare hb hn hsp=>?_
   exact fzS_R r (st:={ st with H:=st.H.set i (.f (.slice (some ⟨b,0,none⟩) n cap)),D:=st.D.set i st.c }) (h b cap spare hb hn hsp)
    fun st' V' h1 h2 h3 h4=>hk st' V' (Pres.set.trans h1) h2 h3 h4
  ·exact fzS_R r h hk
  ·exact h.elim
 | .p i off :: r,st,V,h,hk=>by
  unfold fzS at h
  split at h
  ·rename_i cs t hi
   split at h
   ·rename_i l hl
    refine R.esc rfl hi hl fun b hb=>?_
    exact fzS_R r (st:={ st with H:=st.H.set i (.e b),D:=st.D.set i st.c }) (h b hb)
     fun st' V' h1 h2 h3 h4=>hk st' V' (Pres.set.trans h1) h2 h3 h4
   ·exact h.elim
  ·exact fzS_R r h hk
  ·exact h.elim
 | .v x :: r,st,V,h,hk=>fzS_R r h hk
 | .k x :: r,st,V,h,hk=>fzS_R r h hk
variable {dr:Bool}
theorem preT_R {k:St→T} {l:List SV} {st:St} {V:Know} (h:(preT dr l st k).wp P K V V0 Ns)
  (hk:∀ st' V',Pres W st st'→st'.F=st.F→st'.c=st.c→(k st').wp P K V' V0 Ns→R P ops dr V0 Kf L (unkF st'.F) st'.H V'):R P ops dr V0 Kf L (unkF st.F) st.H V:=by
 unfold preT at h
 cases dr with
 | true=>exact hk st V Pres.refl rfl rfl h
 | false=>exact fzS_R l h hk
theorem plainT_spec {H:List Box} {F:Fm}:∀ {l:List Operand} {l':List Value},plainT H F l=some l'→plainOps H (unkF F) l=some l'
 | [],l',h=>h
 | x :: r,l',h=>by
  simp only [plainT] at h
  simp only [plainOps]
  split at h
  ·rename_i y l'' hx hr
   rw [ev_of hx,plainT_spec hr]; simpa [unk] using h
  ·rename_i b l'' hx hr
   rw [ev_of hx,plainT_spec hr]; simpa [unk] using h
  ·cases h
theorem partsT_spec {H:List Box} {F:Fm}:∀ {l:List (Nat × Operand)} {l':List (Nat × Value)},partsT H F l=some l'→partVals H (unkF F) l=some l'
 | [],l',h=>h
 | (i,x) :: r,l',h=>by
  simp only [partsT] at h
  simp only [partVals]
  split at h
  ·rename_i y l'' hx hr
   rw [ev_of hx,partsT_spec hr]; simpa [unk] using h
  ·rename_i b l'' hx hr
   rw [ev_of hx,partsT_spec hr]; simpa [unk] using h
  ·cases h
theorem ev_pv {H:List Box} {F:Fm} {x:Operand} {s:SV} {y:Value} (h:evT H F x=some s) (hy:pvT s=some y):ev H (unkF F) x=some (.v y):=by
 rw [ev_of h,pv_unk hy]
end
end Sx
namespace Sx
open Go
variable {P:Program} {N:Nat} {w0:World} {Vs V V0:Know}
 {K:Know→List Value→Prop} {Ns:List (List LV→Know→Prop)} {W:List Nat} {st st1 st2:St}
 {ops:Array Oper} {Kf:Kt} {r:List Nat} {dr:Bool} {i:Nat} {o:Oper} {k:St→T}
def Then (P:Program) (K:Know→List Value→Prop) (V0:Know) (Ns:List (List LV→Know→Prop)) (ops:Array Oper) (dr:Bool) (Kf:Kt) (W:List Nat) (st:St) (r:List Nat) (k:St→T):Prop :=
 ∀ st' V',Pres W st st'→st'.c=st.c→(k st').wp P K V' V0 Ns→R P ops dr V0 Kf r (unkF st'.F) st'.H V'
theorem plain_R (hX:dr=true→isX ops o=false) (hi:ops[i]?=some o) (hw:want ops (unkF st.F) o.guard=some true) (hW:∀ d,o.dst=some d→W.contains d=true)
  (hsel:isSel o.op=false) (h:(stT P dr st.H st.F o fun s=>k { st with F:=putF st.F o.dst s }).wp P K V V0 Ns) (hk:Then P K V0 Ns ops dr Kf W st r k) :
  R P ops dr V0 Kf (i :: r) (unkF st.F) st.H V:=by
 obtain⟨s,hs,h'⟩:=stT_sound hsel h
 refine R.stab hi hw hsel hX hs ?_
 rw [← unkF_put]
 exact hk { st with F:=putF st.F o.dst s } V (Pres.putF hW) rfl h'
theorem Then.pre {l:List SV} {f:St→T} (h:(preT dr l st f).wp P K V V0 Ns) (hk:Then P K V0 Ns ops dr Kf W st r k)
  (hf:∀ st' V',st'.F=st.F→(f st').wp P K V' V0 Ns→Then P K V0 Ns ops dr Kf W st' r k→R P ops dr V0 Kf (i :: r) (unkF st'.F) st'.H V') :
  R P ops dr V0 Kf (i :: r) (unkF st.F) st.H V :=
 preT_R (W:=W) h fun st' V' h1 h2 h3 h4=>hf st' V' h2 h4 fun st2 V2 g1 g2 g3=>hk st2 V2 (h1.trans g1) (g2.trans h3) g3
theorem newBox_pres {s:SV} {b:Box} (hW:∀ d,o.dst=some d→W.contains d=true):Pres W st (newBox st o.dst s b) :=
 (Pres.app (b:=b)).trans (Pres.putF (st:={ st with H:=st.H++[b],D:=st.D++[st.c] }) hW)
theorem storeT_R {t:TypeId} {ad x:Operand} (hi:ops[i]?=some o) (hw:want ops (unkF st.F) o.guard=some true) (hW:∀ d,o.dst=some d→W.contains d=true)
  (ho:o.op=.store t ad x) (h:(storeT P o t ad x st k).wp P K V V0 Ns) (hk:Then P K V0 Ns ops dr Kf W st r k):R P ops dr V0 Kf (i :: r) (unkF st.F) st.H V:=by
 unfold storeT at h
 simp only at h
 have hu:unkF (putF st.F o.dst (.v undef))=putF (unkF st.F) o.dst (.v undef):=unkF_put _ _ _
 split at h
 ·rename_i j off s ha hs
  split at h
  ·rename_i cs u hj
   split at h
   ·rename_i l hl
    split at h
    ·rename_i hc
     refine R.eff hi hw (.stC ho (ev_of ha) hj (ev_of hs) hl hc.1 hc.2) (fun _=>by simp [isAl,ho]) ?_
     rw [← hu]
     exact hk _ V (Pres.trans Pres.set (Pres.putF (st:={ st with H:=st.H.set j _,D:=st.D.set j st.c }) hW)) rfl h
    ·exact h.elim
   ·exact h.elim
  ·rename_i n xs u hj
   split at h
   ·rename_i y hy
    split at h
    ·rename_i hc
     obtain⟨h1,h2⟩:=h
     refine R.eff hi hw (.stA ho (ev_of ha) hj (ev_pv hs hy) hc.1 hc.2 h1) (fun _=>by simp [isAl,ho]) ?_
     rw [← hu]
     exact hk _ V (Pres.trans Pres.set (Pres.putF (st:={ st with H:=st.H.set j _,D:=st.D.set j st.c }) hW)) rfl h2
    ·exact h.elim
   ·exact h.elim
  ·exact h.elim
 ·rename_i ad' s ha hs
  split at h
  ·rename_i y hy
   split at h
   ·rename_i hc
    obtain⟨cs,u,h1,h2,h3,h4⟩:=h
    have h5:y.cells.size=y.cells.toList.length:=by simp
    refine R.eff hi hw (.stV ho (ev_of ha) h1 h2 (ev_pv hs hy) hc.1 hc.2 (by rw [h5]; exact h3)) (fun _=>by simp [isAl,ho]) ?_
    rw [← hu]
    exact hk _ _ (Pres.putF hW) rfl h4
   ·exact h.elim
  ·exact h.elim
 ·exact h.elim
theorem buildT_R {t:TypeId} {n:Nat} {parts:Array (Nat × Operand)} (hX:dr=true→isX ops o=false) (hi:ops[i]?=some o) (hw:want ops (unkF st.F) o.guard=some true) (hW:∀ d,o.dst=some d→W.contains d=true)
  (ho:o.op=.buildSlice t n parts) (h:(buildT P o t n parts.toList st k).wp P K V V0 Ns) (hk:Then P K V0 Ns ops dr Kf W st r k):R P ops dr V0 Kf (i :: r) (unkF st.F) st.H V:=by
 unfold buildT at h
 split at h
 ·rename_i e vals hu hv
  split at h
  ·rename_i info hinfo
   split at h
   ·rename_i z hz
    split at h
    ·rename_i hc
     split at h
     ·rename_i cells hcells
      split at h
      ·rename_i hsz
       refine R.mk hi hw hX (.bs ho hu hinfo rfl hc.1 hc.2 (partsT_spec hv) (by rw [hz]; exact hcells) hsz (by rw [hz]; rfl)) ?_
       have:=hk _ V (newBox_pres (o:=o) (s:=.o st.H.length) (b:=.a n cells.toList e) hW) rfl h
       simp only [newBox,unkF_put,unk] at this
       exact this
      ·exact h.elim
     ·exact h.elim
    ·exact h.elim
   ·exact h.elim
  ·exact h.elim
 ·exact h.elim
theorem makeT_R {t:TypeId} {l c:Operand} (hX:dr=true→isX ops o=false) (hi:ops[i]?=some o) (hw:want ops (unkF st.F) o.guard=some true) (hW:∀ d,o.dst=some d→W.contains d=true)
  (ho:o.op=.makeSlice t l c) (h:(makeT P o t l c st k).wp P K V V0 Ns) (hk:Then P K V0 Ns ops dr Kf W st r k):R P ops dr V0 Kf (i :: r) (unkF st.F) st.H V:=by
 unfold makeT at h
 split at h
 ·rename_i e k1 L1 k2 C1 hu hl hc
  split at h
  ·rename_i info hinfo
   split at h
   ·rename_i z hz
    obtain⟨⟨h1,h2,h3,h4⟩,h5⟩:=h
    refine R.mk hi hw hX (.mk ho hu hinfo hz (ev_of hl) (ev_of hc) h1 h2 h3 h4) ?_
    have:=hk _ V (newBox_pres (o:=o) (s:=.o st.H.length) (b:=.a L1.toNat ((madeCells z.cells (L1.toNat*info.size)).toList) e) hW) rfl h5
    simp only [newBox,unkF_put,unk] at this
    exact this
   ·exact h.elim
  ·exact h.elim
 ·exact h.elim
theorem rd_spec {s:SlV} {sz:Nat} {kk:List Value→T} {H:List Box} (h:(T.rd s sz kk).wp P K V V0 Ns) :
  ∃ ys,Src H V sz (.v (.slice s.a s.n s.c)) ys s.n∧one ys=true∧(kk ys).wp P K V V0 Ns:=by
 obtain⟨ys,h1,h2,h3⟩:=h
 refine⟨ys,?_,h2,h3⟩
 obtain⟨sa,sn,sc⟩:=s
 rcases h1 with ⟨a2,a3,a4⟩ | ⟨ad,a1,a2⟩
 ·simp only at a2 a3
  subst a2; subst a4
  cases sa with
  | none=>have:=a3 rfl; subst this; exact .nil
  | some ad=>exact .zero
 ·simp only at a1 a2
  subst a1
  exact .known a2 (one_noTup h2)
theorem src_spec {x:Operand} {sz sz':Nat} {fin:Nat→List Value→T} (hsz:sz=sz')
  (h:(match evT st.H st.F x with
   | some (.o j)=>match st.H[j]? with
    | some (.a m ys _)=>T.rq (ys.length=m*sz) (fin m ys)
    | _=>.no
   | some (.v (.slice a m cp))=>.rd ⟨a,m,cp⟩ sz fun ys=>fin m ys
   | _=>.no).wp P K V V0 Ns):∃ sx ys m,evT st.H st.F x=some sx∧Src st.H V sz' (unk sx) ys m∧(fin m ys).wp P K V V0 Ns:=by
 subst hsz
 split at h
 ·rename_i j2 hx
  split at h
  ·rename_i m ys u2 hj2
   exact⟨.o j2,ys,m,hx,.own hj2 h.1,h.2⟩
  ·exact h.elim
 ·rename_i ad m cp hx
  obtain⟨ys,g1,g2,g3⟩:=rd_spec (H:=st.H) h
  exact⟨.v (.slice ad m cp),ys,m,hx,g1,g3⟩
 ·exact h.elim
theorem appT_R {c:Call} {nl:Bool} (hnl:nl=true→∀ k∈r,∀ ok,ops[k]?=some ok→isLoad ok=false) (hX:dr=true→isX ops o=false) (hi:ops[i]?=some o) (hw:want ops (unkF st.F) o.guard=some true) (hW:∀ d,o.dst=some d→W.contains d=true)
  (ho:o.op=.call c) (hc:c.callee=.builtin .append) (h:(appT P dr nl o c st k).wp P K V V0 Ns) (hk:Then P K V0 Ns ops dr Kf W st r k):R P ops dr V0 Kf (i :: r) (unkF st.F) st.H V:=by
 unfold appT at h
 split at h
 ·rename_i s x t t' ha ht
  split at h
  ·rename_i htt
   subst htt
   split at h
   ·rename_i e hu
    split at h
    ·rename_i sz info hinfo
     split at h
     ·rename_i z hz
      split at h
      ·rename_i hcond
       obtain⟨hc1,hc2,hc3⟩:=hcond
       simp only at h
       split at h
       ·rename_i j hs
        split at h
        ·rename_i n xs u hj
         split at h
         ·rename_i hue
          subst hue
          obtain⟨sx,ys,m,hx,hsrc,⟨g1,g2,g3⟩,g4⟩:=src_spec hc3 h
          refine R.mk hi hw hX (.ap ho hc ha ht hu hinfo hz hc1 hc2 (ev_of hs) hj (ev_of hx) hsrc g1 g2 g3) ?_
          have:=hk _ V (((Pres.set (i:=j) (b:=.x)).trans (Pres.app (b:=.a (n+m) (xs++ys) u))).trans (Pres.putF (s:=.o st.H.length) hW)) rfl g4
          simp only [unkF_put,unk] at this
          exact this
         ·exact h.elim
        ·exact h.elim
       ·rename_i sa n cp hs
        cases hb:(dr && !(nl && !isCo s)) with
        | true =>
         rw [hb] at h
         simp only [Bool.and_eq_true] at hb
         obtain⟨rfl,_⟩:=hb
         obtain⟨hy,h⟩:=h
         rw [hy] at hs
         obtain⟨sx,ys,m,hx,hsrc,h⟩:=src_spec hc3 h
         have h':=br_sound h
         by_cases hm:m=0
         ·subst hm
          refine R.mk hi hw hX (.apzero ho hc ha ht hu hinfo (ev_of hs) (ev_of hx) hsrc (Nat.le_refl _) (fun _=>rfl)) ?_
          have:=hk { st with F:=putF st.F o.dst (.v (.slice none 0 0)) } V (Pres.putF hW) rfl h'
          simp only [unkF_put,unk] at this
          exact this
         ·rw [decide_eq_false hm] at h'
          obtain⟨⟨g2,g3⟩,g4⟩:=h'
          refine R.mk hi hw hX (.apnil ho hc ha ht hu hinfo hz hc1 hc2 (ev_of hs) (ev_of hx) hsrc (by omega) g2 g3) ?_
          have:=hk _ V ((Pres.app (b:=.a m ys e)).trans (Pres.putF (s:=.o st.H.length) hW)) rfl g4
          simp only [unkF_put,unk] at this
          exact this
        | false =>
         rw [hb] at h
         have hnl':dr=true→nl=true:=by
          rintro rfl
          simp at hb
          exact hb.1
         obtain⟨sx,ys,m,hx,hsrc,h1,hncp,hsa,k0,k1,k2⟩:=src_spec hc3 h
         by_cases hm:m=0
         ·subst hm
          refine R.mk hi hw hX (.apzero ho hc ha ht hu hinfo (ev_of hs) (ev_of hx) hsrc hncp hsa) ?_
          have:=hk { st with F:=putF st.F o.dst (.v (.slice sa n cp)) } V (Pres.putF hW) rfl (k0 rfl)
          simp only [unkF_put,unk] at this
          exact this
         ·by_cases hr:n+m≤cp
          ·obtain⟨b,cs,q1,q2,q3,q4⟩:=k1 (Nat.pos_of_ne_zero hm) hr
           simp only at q1
           subst q1
           refine R.aki (fun e=>⟨hX e,hnl (hnl' e)⟩) hi hw ho hc ha ht hu hinfo (ev_of hs) (ev_of hx) hsrc h1 (Nat.pos_of_ne_zero hm) hr q2 q3 ?_
           have:=hk { st with F:=putF st.F o.dst (.v (.slice (some ⟨b,0,none⟩) (n+m) cp)) } _ (Pres.putF hW) rfl q4
           simp only [unkF_put,unk] at this
           exact this
          ·obtain⟨g2,g3,old,hold,hnt,q⟩:=k2 (Nat.pos_of_ne_zero hm) (Nat.lt_of_not_le hr)
           refine R.akg hX hi hw ho hc ha ht hu hinfo hz hc1 (ev_of hs) (ev_of hx) hsrc (Nat.pos_of_ne_zero hm) (Nat.lt_of_not_le hr) g2 g3 hold hnt fun b cap spare hb hcap hsp=>?_
           have:=hk { st with F:=putF st.F o.dst (.v (.slice (some ⟨b,0,none⟩) (n+m) cap)) } _ (Pres.putF hW) rfl (q b cap spare hb hcap hsp)
           simp only [unkF_put,unk] at this
           exact this
       ·exact h.elim
      ·exact h.elim
     ·exact h.elim
    ·exact h.elim
   ·exact h.elim
  ·exact h.elim
 ·exact h.elim
theorem copyT_R {c:Call} (hX:dr=true→isX ops o=false) (hi:ops[i]?=some o) (hw:want ops (unkF st.F) o.guard=some true) (hW:∀ d,o.dst=some d→W.contains d=true)
  (ho:o.op=.call c) (hc:c.callee=.builtin .copy) (h:(copyT P o c st k).wp P K V V0 Ns) (hk:Then P K V0 Ns ops dr Kf W st r k):R P ops dr V0 Kf (i :: r) (unkF st.F) st.H V:=by
 unfold copyT at h
 split at h
 ·rename_i d x t t' ha ht
  split at h
  ·rename_i e hu
   split at h
   ·rename_i info hinfo
    split at h
    ·rename_i hsz
     simp only at h
     split at h
     ·rename_i j hd
      split at h
      ·rename_i n xs u hj
       split at h
       ·rename_i hue
        subst hue
        obtain⟨sx,ys,m,hx,hsrc,g1,g4⟩:=src_spec rfl h
        refine R.mk hi hw hX (.cp ho hc ha ht hu hinfo hsz (ev_of hd) hj (ev_of hx) hsrc g1) ?_
        have:=hk _ V ((Pres.set (i:=j) (b:=.a n (setl xs 0 (ys.take (Nat.min m n))) u)).trans (Pres.putF (s:=.v (.int .i64 (Nat.min m n:Nat))) hW)) rfl g4
        simp only [unkF_put,unk] at this
        exact this
       ·exact h.elim
      ·exact h.elim
     ·exact h.elim
    ·exact h.elim
   ·exact h.elim
  ·exact h.elim
 ·exact h.elim
theorem pvE_spec {H:List Box} {F:Fm} {x:Operand} {y:Value} (h:pvE H F x=some y):ev H (unkF F) x=some (.v y):=by
 unfold pvE at h
 split at h
 ·rename_i s hs
  exact ev_pv hs h
 ·cases h
theorem mopT_spec {H:List Box} {F:Fm} {m:MOp} (h:mopT H F o=some m):mopOf H (unkF F) o=some m:=by
 unfold mopT at h
 split at h
 ·rename_i t ho
  simp only [mopOf,ho]; exact h
 ·rename_i t x k ok ho
  split at h
  ·rename_i a b ha hb
   simp only [mopOf,ho,pvE_spec ha,pvE_spec hb]; exact h
  ·cases h
 ·rename_i t x k y ho
  split at h
  ·rename_i a b c ha hb hc
   simp only [mopOf,ho,pvE_spec ha,pvE_spec hb,pvE_spec hc]; exact h
  ·cases h
 ·rename_i t x k y ho
  split at h
  ·rename_i a b c ha hb hc
   simp only [mopOf,ho,pvE_spec ha,pvE_spec hb,pvE_spec hc]; exact h
  ·cases h
 ·rename_i c ho
  split at h
  ·rename_i x k hc ha
   split at h
   ·rename_i a b ha' hb
    simp only [mopOf,ho,hc,ha,pvE_spec ha',pvE_spec hb]; exact h
   ·cases h
  ·cases h
 ·rename_i src dst x ho
  split at h
  ·rename_i a ha
   simp only [mopOf,ho,pvE_spec ha]; exact h
  ·cases h
 ·rename_i x xt t ok ho
  split at h
  ·rename_i a ha
   simp only [mopOf,ho,pvE_spec ha]; exact h
  ·cases h
 ·cases h
theorem mapT_R {nl:Bool} (hnl:nl=true→∀ k∈r,∀ ok,ops[k]?=some ok→isLoad ok=false) (hi:ops[i]?=some o) (hw:want ops (unkF st.F) o.guard=some true) (hW:∀ d,o.dst=some d→W.contains d=true)
  (h:(mapT P dr nl o st k).wp P K V V0 Ns) (hk:Then P K V0 Ns ops dr Kf W st r k):R P ops dr V0 Kf (i :: r) (unkF st.F) st.H V:=by
 unfold mapT at h
 refine Then.pre h hk fun st' V' hF h hk=>?_
 rw [← hF] at hw
 have hd:(dr && !(nl && isUp o))=false:=by
  cases hq:(dr && !(nl && isUp o)) with
  | false=>rfl
  | true=>rw [hq] at h; exact h.elim
 rw [hd] at h
 simp only at h
 split at h
 ·rename_i m hm
  split at h
  ·rename_i sh hsh
   refine R.mo _ (fun e=>?_) hi hw (mopT_spec hm) h (fun V2 y hq _=>?_)
   ·subst e
    have hd2:nl=true∧isUp o=true:=by simpa using hd
    exact⟨hd2.2,hnl hd2.1⟩
   ·obtain⟨z,rfl,hz⟩:=hq
    have:=hk { st' with F:=putF st'.F o.dst (.v (sh.val z)) } V2 (Pres.putF hW) rfl hz
    simp only [unkF_put,unk] at this
    exact this
  ·exact h.elim
 ·exact h.elim
theorem opT_R {nl nc:Bool} (hnc:nc=true→nlAt ops i=true) (hnl:nl=true→∀ k∈r,∀ ok,ops[k]?=some ok→isLoad ok=false) (hX:dr=true→isX ops o=false) (hi:ops[i]?=some o) (hw:want ops (unkF st.F) o.guard=some true) (hW:∀ d,o.dst=some d→W.contains d=true)
  (h:(opT P dr nl nc o st k).wp P K V V0 Ns) (hk:Then P K V0 Ns ops dr Kf W st r k):R P ops dr V0 Kf (i :: r) (unkF st.F) st.H V:=by
 unfold opT at h
 simp only at h
 split at h
 ·rename_i c ho
  split at h
  ·rename_i f hc
   refine Then.pre h hk fun st' V' hF h hk=>?_
   rw [← hF] at hw
   split at h
   ·rename_i g fs cs l hf hl
    split at h
    ·rename_i sh hsh
     split at h
     ·refine R.call _ hi hw ho ⟨_,_,by simp [calOp,hc],ev_of hf,by simp [calV,hc]⟩ (plainT_spec hl) h (fun V2 y hq hd=>.inl (.inr hq.1)) (fun V2 y hq _=>?_)
      obtain⟨_,z,rfl,hz⟩:=hq
      have:=hk { st' with F:=putF st'.F o.dst (.v (sh.val z)) } V2 (Pres.putF hW) rfl (splT_wp (k:=fun z=>k { st' with F:=putF st'.F o.dst (.v (sh.val z)) }) hz)
      simp only [unkF_put,unk] at this
      exact this
     ·refine R.call _ hi hw ho ⟨_,_,by simp [calOp,hc],ev_of hf,by simp [calV,hc]⟩ (plainT_spec hl) h (fun V2 y hq hd=>by
       cases nc with
       | false=>exact .inl (.inl (hq.1 (by rw [hd]; rfl)))
       | true=>exact .inr (hnc rfl)) (fun V2 y hq _=>?_)
      obtain⟨_,z,rfl,hz⟩:=hq
      have:=hk { st' with F:=putF st'.F o.dst (.v (sh.val z)) } V2 (Pres.putF hW) rfl (splT_wp (k:=fun z=>k { st' with F:=putF st'.F o.dst (.v (sh.val z)) }) hz)
      simp only [unkF_put,unk] at this
      exact this
    ·exact h.elim
   ·exact h.elim
  ·rename_i r m hc
   refine Then.pre h hk fun st' V' hF h hk=>?_
   rw [← hF] at hw
   split at h
   ·rename_i x l hf hl
    split at h
    ·rename_i g fs cs hcv
     split at h
     ·rename_i sh hsh
      refine R.call _ hi hw ho ⟨_,_,by simp [calOp,hc],ev_of hf,hcv⟩ (plainT_spec hl) h (fun V2 y hq hd=>by
      cases nc with
      | false=>exact .inl (.inl (hq.1 (by rw [hd]; rfl)))
      | true=>exact .inr (hnc rfl)) (fun V2 y hq _=>?_)
      obtain⟨_,z,rfl,hz⟩:=hq
      have:=hk { st' with F:=putF st'.F o.dst (.v (sh.val z)) } V2 (Pres.putF hW) rfl (splT_wp (k:=fun z=>k { st' with F:=putF st'.F o.dst (.v (sh.val z)) }) hz)
      simp only [unkF_put,unk] at this
      exact this
     ·exact h.elim
    ·exact h.elim
   ·exact h.elim
  ·rename_i hc; exact appT_R hnl hX hi hw hW ho hc h hk
  ·rename_i hc; exact copyT_R hX hi hw hW ho hc h hk
  ·exact plain_R hX hi hw hW (by rw [ho]; rfl) h hk
  ·exact plain_R hX hi hw hW (by rw [ho]; rfl) h hk
  ·exact plain_R hX hi hw hW (by rw [ho]; rfl) h hk
  ·exact mapT_R hnl hi hw hW h hk
  ·exact h.elim
 ·rename_i t x ho
  refine Then.pre h hk fun st' V' hF h hk=>?_
  rw [← hF] at hw
  split at h
  ·rename_i s hs
   split at h
   ·rename_i y hy
    refine R.eff hi hw (.box ho (ev_pv hs hy)) (fun _=>by simp [isAl,ho]) ?_
    have:=hk _ V' (newBox_pres (o:=o) (s:=.p st'.H.length 0) (b:=.c (y.cells.toList.map .v) t) hW) rfl h
    simp only [newBox,unkF_put,unk] at this
    exact this
   ·exact h.elim
  ·exact h.elim
 ·rename_i t ho
  split at h
  ·rename_i z hz
   split at h
   ·split at h
    ·rename_i d hdst
     split at h
     ·rename_i j hj
      refine R.alx rfl hi hw ho hz hdst hj ?_
      have:=hk _ V (Pres.trans (Pres.set (i:=j) (b:=.c (z.map .v) t)) (Pres.putF (st:={ st with H:=st.H.set j _,D:=st.D.set j st.c }) (s:=.p j 0) hW)) rfl h
      simp only [unkF_put,unk] at this
      exact this
     ·exact h.elim
    ·exact h.elim
   ·refine R.eff hi hw (.alloc ho hz) (fun h=>by cases h) ?_
    have:=hk _ V (newBox_pres (o:=o) (s:=.p st.H.length 0) (b:=.c (z.map .v) t) hW) rfl h
    simp only [newBox,unkF_put,unk] at this
    exact this
  ·exact h.elim
 ·rename_i t ad x ho
  exact storeT_R hi hw hW ho h hk
 ·rename_i t n parts ho
  refine Then.pre h hk fun st' V' hF h hk=>?_
  rw [← hF] at hw
  exact buildT_R hX hi hw hW ho h hk
 ·rename_i t l c ho
  exact makeT_R hX hi hw hW ho h hk
 ·rename_i ho; exact plain_R hX hi hw hW (by rw [ho]; rfl) h hk
 ·rename_i ho; exact plain_R hX hi hw hW (by rw [ho]; rfl) h hk
 ·rename_i ho; exact plain_R hX hi hw hW (by rw [ho]; rfl) h hk
 ·rename_i ho; exact plain_R hX hi hw hW (by rw [ho]; rfl) h hk
 ·rename_i ho; exact plain_R hX hi hw hW (by rw [ho]; rfl) h hk
 ·rename_i t x ho
  split at h
  ·rename_i s hs
   refine Then.pre h hk fun st' V' hF h hk=>?_
   rw [← hF] at hw
   exact plain_R hX hi hw hW (by rw [ho]; rfl) h hk
  ·exact h.elim
 ·exact h.elim
 ·exact mapT_R hnl hi hw hW h hk
 ·exact mapT_R hnl hi hw hW h hk
 ·exact mapT_R hnl hi hw hW h hk
 ·exact mapT_R hnl hi hw hW h hk
 ·exact mapT_R hnl hi hw hW h hk
 ·rename_i src dst x ho
  split at h
  ·exact mapT_R hnl hi hw hW h hk
  ·refine Then.pre h hk fun st' V' hF h hk=>?_
   rw [← hF] at hw
   exact plain_R hX hi hw hW (by rw [ho]; rfl) h hk
 ·rename_i hsel _ _ _ _ _
  refine Then.pre h hk fun st' V' hF h hk=>?_
  rw [← hF] at hw
  refine plain_R hX hi hw hW ?_ h hk
  cases ho:o.op <;> first | rfl | (exfalso; simp_all; done)
theorem alT_R (hi:ops[i]?=some o) (hw:want ops (unkF st.F) o.guard=some true) (hW:∀ d,o.dst=some d→W.contains d=true) (hX:isX ops o=true)
  (h:(alT P o st k).wp P K V V0 Ns) (hk:Then P K V0 Ns ops true Kf W st r k):R P ops true V0 Kf (i :: r) (unkF st.F) st.H V:=by
 unfold alT at h
 split at h
 ·rename_i t n parts ho
  split at h
  ·rename_i e hu
   split at h
   ·rename_i info hinfo
    split at h
    ·rename_i z hz hp
     refine R.al ⟨none,0,[],e,true⟩ rfl hi hw hX ?_ (fun y hy=>by cases hy) (fun _ b cap spare hb hc he hon=>?_)
     ·unfold alOf
      rw [ho]
      simp only [hu,hinfo,hp,hz]
      simp
     ·obtain⟨rfl,rfl⟩:=he.1 rfl
      have:=hk { st with F:=putF st.F o.dst (.v (.slice (some ⟨b,0,none⟩) 0 0)) } _ (Pres.putF hW) rfl (h b hb)
      simp only [unkF_put,unk] at this
      exact this
    ·rename_i z n hz
     split at h
     ·rename_i vals hv
      split at h
      ·rename_i hc
       split at h
       ·rename_i cells hf
        split at h
        ·rename_i hcs
         refine R.al ⟨none,n+1,cells.toList,e,true⟩ rfl hi hw hX ?_ (fun y hy=>by cases hy) (fun _ b cap spare hb hcap he hon=>?_)
         ·unfold alOf
          rw [ho]
          simp only [hu,hinfo]
          rw [if_neg (by simp)]
          unfold litOf
          simp only [hz,partsT_spec hv]
          rw [if_pos hc,hf]
          simp only
          rw [if_pos hcs]
         ·obtain⟨rfl,rfl⟩:=he.1 rfl
          have:=hk { st with F:=putF st.F o.dst (.v (.slice (some ⟨b,0,none⟩) (n+1) (n+1))) } _ (Pres.putF hW) rfl (h b hb)
          simp only [unkF_put,unk] at this
          rw [List.append_nil]
          exact this
        ·exact h.elim
       ·exact h.elim
      ·exact h.elim
     ·exact h.elim
    ·exact h.elim
   ·exact h.elim
  ·exact h.elim
 ·rename_i c ho
  split at h
  ·rename_i s x t t' hcal ha ht
   split at h
   ·rename_i htt
    subst htt
    split at h
    ·rename_i e sb xa m cx hu hs hx
     split at h
     ·rename_i info hinfo
      split at h
      ·rename_i z hz
       split at h
       rotate_left
       ·exact h.elim
       rename_i hzs
       obtain⟨ys,hys,⟨g1,g2,g3⟩,h⟩:=h
       have h':=br_sound h
       by_cases hm:m=0
       ·subst hm
        refine R.al ⟨some (.slice (some sb) 0 0),0,[],e,false⟩ rfl hi hw hX ?_ (fun y hy=>?_) (fun hz=>by cases hz)
        ·unfold alOf
         rw [ho]
         simp only [hcal,ha,ht,if_true]
         unfold alApp
         simp only [hu,ev_of hs,ev_of hx,unk,hinfo,hz,hzs,if_true]
        ·cases hy
         have:=hk { st with F:=putF st.F o.dst (.v (.slice (some sb) 0 0)) } V (Pres.putF hW) rfl h'
         simp only [unkF_put,unk] at this
         exact this
       ·rw [decide_eq_false hm] at h'
        rcases hys with ⟨h0,_⟩ | ⟨ad,h1,h2⟩
        ·exact(hm h0).elim
        ·simp only at h1 h2
         subst h1
         refine R.al ⟨none,m,ys,e,false⟩ rfl hi hw hX ?_ (fun y hy=>by cases hy) (fun _ b cap spare hb hc he hon=>?_)
         ·unfold alOf
          rw [ho]
          simp only [hcal,ha,ht,if_true]
          unfold alApp
          simp only [hu,ev_of hs,ev_of hx,unk,hinfo,hz,hzs,if_neg hm,h2,g1,g2,g3,and_self,if_true]
         ·have:=hk { st with F:=putF st.F o.dst (.v (.slice (some ⟨b,0,none⟩) m cap)) } _ (Pres.putF hW) rfl (h' b cap spare hb hc he.2)
          simp only [unkF_put,unk] at this
          exact this
      ·exact h.elim
     ·exact h.elim
    ·exact h.elim
   ·exact h.elim
  ·exact h.elim
 ·exact h.elim
end Sx
