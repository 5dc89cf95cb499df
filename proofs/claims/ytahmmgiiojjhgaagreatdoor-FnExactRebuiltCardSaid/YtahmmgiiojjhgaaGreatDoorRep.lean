/-
  What a row of cells stands for.
-/
import Derived.Test.YtahmmgiiojjhgaaGreatDoorEngB
import Derived.KernelRfl
namespace Sx
open Go.IntKind
open Go
inductive Sc where
 | i (k:IntKind)
 | b
 | s
 | l
 | x
 | p
 | f
 | c
 | e
 deriving DecidableEq
structure ar where
 a:Option Addr
 n:Nat
 c:Nat
abbrev Sc.ty:Sc->Type
 | .i _=>Int
 | .b=>Bool
 | .s=>ByteArray
 | .l=>ar
 | .x=>{ y:Value // one [y]=true }
 | .p=>Addr
 | .f=>Nat
 | .c=>Nat × Addr
 | .e=>Option (Nat × Int)
def Sc.val:(q:Sc)->q.ty->Value
 | .i k,y=>.int k y
 | .b,y=>.bool y
 | .s,y=>.string y
 | .l,y=>.slice y.a y.n y.c
 | .x,y=>y.1
 | .p,y=>.pointer (some y)
 | .f,y=>.func (.func y) #[] #[]
 | .c,y=>.func (.func y.1) #[] #[.pointer (some y.2)]
 | .e,y=>match y with | none=>.nilIface | some z=>.iface z.1 (match z.2 with | .ofNat n=>.agg #[.int .i64 n] | .negSucc n=>.pointer (some ⟨n,0,none⟩))
abbrev aH:List Sc->Type
 | []=>Unit
 | q :: r=>q.ty × aH r
def aH.aD:(l:List Sc)->aH l->List Value
 | [],_=>[]
 | q :: r,x=>q.val x.1 :: aH.aD r x.2
inductive dx where
 | o (q:Sc)
 | g (l:List Sc)
abbrev dx.ty:dx->Type
 | .o q=>q.ty
 | .g l=>aH l
def dx.val:(s:dx)->s.ty->Value
 | .o q,y=>q.val y
 | .g l,y=>.agg (aH.aD l y).toArray
def dx.cells:(s:dx)->s.ty->List Value
 | .o q,y=>[q.val y]
 | .g l,y=>aH.aD l y
def dx.len:dx->Nat
 | .o _=>1
 | .g l=>l.length
abbrev Cc:List dx->Type
 | []=>Unit
 | s :: r=>s.ty × Cc r
def Cc.aD:(l:List dx)->Cc l->List Value
 | [],_=>[]
 | s :: r,x=>s.val x.1 :: Cc.aD r x.2
inductive Sh where
 | v (s:dx)
 | t (l:List dx)
abbrev Sh.ty:Sh->Type
 | .v s=>s.ty
 | .t l=>Cc l
def Sh.val:(s:Sh)->s.ty->Value
 | .v s,y=>s.val y
 | .t l,y=>.tuple (Cc.aD l y).toArray
inductive LV where
 | v (x:Value)
 | a (e:TypeId) (n:Nat) (ys:List Value)
inductive mP where
 | o (s:dx)
 | a (e:TypeId)
abbrev mP.ty:mP->Type
 | .o s=>s.ty
 | .a _=>Nat × List Value
def mP.lv:(s:mP)->s.ty->LV
 | .o s,y=>.v (s.val y)
 | .a e,y=>.a e y.1 y.2
abbrev cH:List mP->Type
 | []=>Unit
 | s :: r=>s.ty × cH r
def cH.nf:(l:List mP)->cH l->List LV
 | [],_=>[]
 | s :: r,y=>s.lv y.1 :: cH.nf r y.2
inductive T:Type where
 | ret (vs:List Value)
 | nx (l:Nat) (st:List LV)
 | call (dr:Bool) (g:Nat) (args:List Value) (sh:Sh) (k:sh.ty->T)
 | cf (g:Nat) (args:List Value) (sh:Sh) (k:sh.ty->T)
 | rf (k:T)
 | br (b:Bool) (x y:T)
 | rq (p:Prop) (k:T)
 | el (a:Option Addr) (n:Nat) (i:Int) (k:Addr->T)
 | ld (dr:Bool) (a:Addr) (sh:dx) (k:sh.ty->T)
 | xs (l:List Value) (off:Nat) (sh:dx) (k:sh.ty->T)
 | st (a:Addr) (vs:List Value) (k:T)
 | fz (n:Nat) (xs:List Value) (t:Nat) (k:Nat->Nat->T)
 | es (xs:List Value) (t:Nat) (k:Nat->T)
 | rd (s:ar) (sz:Nat) (k:List Value->T)
 | ra (s:ar) (sz:Nat) (k:List Value->T)
 | ap (s:ar) (sz bytes:Nat) (ys:List Value) (m:Nat) (t:Nat) (k:ar->T)
 | lp (sh:List mP) (init:List LV) (body:cH sh->T)
 | jn (sh:List mP) (body:cH sh->T) (before:T)
 | mo (m:sU) (sh:Sh) (k:sh.ty->T)
 | rg (k:T)
 | spl (y:Option (Nat × Int)) (x:T) (k:Nat × Int->T)
 | no
instance coeMeasure:Coe Nat (aa->Nat):=⟨fun n _=>n⟩
instance numMeasure {n:Nat}:OfNat (aa->Nat) n:=⟨fun _=>n⟩
def T.wp (P:Program) (K:aa->List Value->Prop):T->aa->aa->List (List LV->aa->Prop)->Prop
 | .ret vs,V,_,_=>K V vs
 | .nx l s,V,_,Ns=>∃ N,Ns[l]?=some N/\N s V
 | .call dr g args sh k,V,V0,Ns=>ae P V g args (fun V' r=>(dr=true->V.le V')/\∃ y,r=sh.val y/\(k y).wp P K V' V0 Ns)
 | .cf g args sh k,V,V0,Ns=>ae P V g args (fun V' r=>V0.le V'/\∃ y,r=sh.val y/\(k y).wp P K V' V0 Ns)
 | .rf k,V,_,Ns=>∃ U:aa,U.le V/\k.wp P K V U Ns
 | .br b x y,V,V0,Ns=>(b=true->x.wp P K V V0 Ns)/\(b=false->y.wp P K V V0 Ns)
 | .rq p k,V,V0,Ns=>p/\k.wp P K V V0 Ns
 | .el a n i k,V,V0,Ns=>∃ ad,a=some ad/\0<=i/\i<(n:Int)/\(k ad).wp P K V V0 Ns
 | .ld dr a sh k,V,V0,Ns=>∃ y,aQ (if dr then V0 else V) a sh.len=some (sh.cells y)/\(k y).wp P K V V0 Ns
 | .xs l off sh k,V,V0,Ns=>∃ y,fj l off sh.len=some (sh.cells y)/\(k y).wp P K V V0 Ns
 | .st a vs k,V,V0,Ns=>∃ cs u,a.spot=none/\V a.block=some (cs,(u,(0,0)))/\a.off+vs.length<=cs.length/\k.wp P K (aB V a.block (aX cs a.off vs,(u,(0,0)))) V0 Ns
 | .fz n ys t k,V,V0,Ns=>∀ b cap spare,V b=none->n<=cap->spare.length=(cap-n)*P.cellsOf t->(k b cap).wp P K (aB V b (ys++spare,(t,(0,0)))) V0 Ns
 | .ap s sz by' ys m t k,V,V0,Ns=>s.n<=s.c/\(s.a=none->s.c=0)/\(m=0->(k s).wp P K V V0 Ns) /\
   (0<m->s.n+m<=s.c->∃ b cs,s.a=some ⟨b,0,none⟩/\V b=some (cs,(t,(0,0)))/\(s.n+m)*sz<=cs.length/\(k ⟨s.a,s.n+m,s.c⟩).wp P K (aB V b (aX cs (s.n*sz) ys,(t,(0,0)))) V0 Ns) /\
   (0<m->s.c<s.n+m->(s.n+m)*by'<=140737488355328/\s.n+m<=9223372036854775807/\∃ old,((s.a=none/\s.n=0/\s.c=0/\old=[])\/∃ ad,s.a=some ad/\aQ V ad (s.n*sz)=some old)/\fA old=true /\
    ∀ b cap spare,V b=none->s.n+m<=cap->spare.length=(cap-(s.n+m))*P.cellsOf t->(k ⟨some ⟨b,0,none⟩,s.n+m,cap⟩).wp P K (aB V b ((old++ys)++spare,(t,(0,0)))) V0 Ns)
 | .es ys t k,V,V0,Ns=>∀ b,V b=none->(k b).wp P K (aB V b (ys,(t,(0,0)))) V0 Ns
 | .rd s sz k,V,V0,Ns=>∃ ys,((s.n=0/\(s.a=none->s.c=0)/\ys=[])\/∃ ad,s.a=some ad/\aQ V ad (s.n*sz)=some ys)/\one ys=true/\(k ys).wp P K V V0 Ns
 | .ra s sz k,V,V0,Ns=>∃ ys,((s.n=0/\ys=[])\/∃ ad,s.a=some ad/\aQ V0 ad (s.n*sz)=some ys)/\(k ys).wp P K V V0 Ns
 | .lp sh init body,V,_,Ns=>∃ (inv:cH sh->aa->Prop) (μ:cH sh->aa->Nat),(∃ y,init=cH.nf sh y/\inv y V) /\
   ∀ y V,inv y V->(body y).wp P K V V (Ns++[fun vs V'=>∃ y',vs=cH.nf sh y'/\inv y' V'/\μ y' V'<μ y V])
 | .jn sh body before,V,V0,Ns=>∃ inv:cH sh->aa->Prop,
   before.wp P K V V0 (Ns++[fun vs V'=>∃ y',vs=cH.nf sh y'/\inv y' V'])/\(∀ (y:cH sh) (V1:aa),inv y V1->(body y).wp P K V1 V1 (Ns++[fun(_:List LV) (_:aa)=>False]))
 | .mo m sh k,V,V0,Ns=>sV P V m.ye (fun V' r=>∃ y,r=sh.val y/\(k y).wp P K V' V0 Ns)
 | .rg k,V,_,Ns=>k.wp P K V V Ns
 | .spl y x k,V,V0,Ns=>(y=none->x.wp P K V V0 Ns)/\∀ p,y=some p->(k p).wp P K V V0 Ns
 | .no,_,_,_=>False
def rE:(l:List dx)->Cc l->(Cc l->T)->T
 | [],y,k=>k y
 | .o .e :: r,y,k=>.spl y.1 (rE r y.2 fun z=>k (none,z)) (fun p=>rE r y.2 fun z=>k (some p,z))
 | .o (.i _) :: r,y,k=>rE r y.2 fun z=>k (y.1,z)
 | .o .b :: r,y,k=>rE r y.2 fun z=>k (y.1,z)
 | .o .s :: r,y,k=>rE r y.2 fun z=>k (y.1,z)
 | .o .l :: r,y,k=>rE r y.2 fun z=>k (y.1,z)
 | .o .x :: r,y,k=>rE r y.2 fun z=>k (y.1,z)
 | .o .p :: r,y,k=>rE r y.2 fun z=>k (y.1,z)
 | .o .f :: r,y,k=>rE r y.2 fun z=>k (y.1,z)
 | .o .c :: r,y,k=>rE r y.2 fun z=>k (y.1,z)
 | .g _ :: r,y,k=>rE r y.2 fun z=>k (y.1,z)
def hasE:List dx->Bool
 | []=>false
 | .o .e :: _=>true
 | _ :: r=>hasE r
def Xs:(sh:Sh)->sh.ty->(sh.ty->T)->T
 | .v (.o .e),y,k=>.spl y (k none) (fun p=>k (some p))
 | .t l,y,k=>match hasE l with | true=>rE l y k | false=>k y
 | .v (.o (.i _)),y,k=>k y
 | .v (.o .b),y,k=>k y
 | .v (.o .s),y,k=>k y
 | .v (.o .l),y,k=>k y
 | .v (.o .x),y,k=>k y
 | .v (.o .p),y,k=>k y
 | .v (.o .f),y,k=>k y
 | .v (.o .c),y,k=>k y
 | .v (.g _),y,k=>k y
theorem Xt {P:Program} {K:aa->List Value->Prop} {V V0:aa} {Ns:List (List LV->aa->Prop)} {y:Option (Nat × Int)} {k:Option (Nat × Int)->T} (h:(T.spl y (k none) (fun p=>k (some p))).wp P K V V0 Ns):(k y).wp P K V V0 Ns:=by
 cases y with
 | none=>exact h.1 rfl
 | some p=>exact h.2 p rfl
theorem iH {P:Program} {K:aa->List Value->Prop} {V V0:aa} {Ns:List (List LV->aa->Prop)}:∀ (l:List dx) (y:Cc l) (k:Cc l->T),(rE l y k).wp P K V V0 Ns->(k y).wp P K V V0 Ns
 | [],_,_,h=>h
 | .o .e :: r,y,k,h=>by
  have h1:=Xt (k:=fun q=>rE r y.2 fun z=>k (q,z)) h;exact iH r y.2 (fun z=>k (y.1,z)) h1
 | .o (.i _) :: r,y,k,h=>iH r y.2 (fun z=>k (y.1,z)) h
 | .o .b :: r,y,k,h=>iH r y.2 (fun z=>k (y.1,z)) h
 | .o .s :: r,y,k,h=>iH r y.2 (fun z=>k (y.1,z)) h
 | .o .l :: r,y,k,h=>iH r y.2 (fun z=>k (y.1,z)) h
 | .o .x :: r,y,k,h=>iH r y.2 (fun z=>k (y.1,z)) h
 | .o .p :: r,y,k,h=>iH r y.2 (fun z=>k (y.1,z)) h
 | .o .f :: r,y,k,h=>iH r y.2 (fun z=>k (y.1,z)) h
 | .o .c :: r,y,k,h=>iH r y.2 (fun z=>k (y.1,z)) h
 | .g _ :: r,y,k,h=>iH r y.2 (fun z=>k (y.1,z)) h
theorem EO {P:Program} {K:aa->List Value->Prop} {V V0:aa} {Ns:List (List LV->aa->Prop)}:∀ {sh:Sh} {y:sh.ty} {k:sh.ty->T},(Xs sh y k).wp P K V V0 Ns->(k y).wp P K V V0 Ns
 | .v (.o .e),_,k,h=>Xt (k:=k) h
 | .t l,y,k,h=>by
  have h1:Xs (.t l) y k=(match hasE l with | true=>rE l y k | false=>k y):=rfl;rw [h1] at h;cases hb:hasE l <;> rw [hb] at h
  ·exact h
  exact iH l y k h
 | .v (.o (.i _)),_,_,h=>h
 | .v (.o .b),_,_,h=>h
 | .v (.o .s),_,_,h=>h
 | .v (.o .l),_,_,h=>h
 | .v (.o .x),_,_,h=>h
 | .v (.o .p),_,_,h=>h
 | .v (.o .f),_,_,h=>h
 | .v (.o .c),_,_,h=>h
 | .v (.g _),_,_,h=>h
structure St where
 F:Fm
 H:List aT
 D:List Nat
 c:Nat
def kf (H:List aT) (F:Fm):Operand->Option SV
 | .const v=>match v with | .bool b=>some (.k b) | v=>some (.v v)
 | x=>ev H F x
def MJ:SV->Option Value
 | .v x=>some x
 | .k b=>some (.bool b)
 | _=>none
def eT:SV->SV
 | .k b=>.v (.bool b)
 | s=>s
def aK (F:Fm):Fm:=fun t=>match F t with | some s=>some (eT s) | none=>none
def scOf (P:Program) (t:TypeId):Sc:=match P.underlying t with
 | some (.int k)=>.i k
 | some .bool=>.b
 | some .string=>.s
 | some (.slice _)=>.l
 | some (.pointer _)=>.p
 | some (.func ..)=>.f
 | some (.interface ms) => if (ms.getD 0 ("", 0)).1 == "Error" then .e else .x
 | _=>.x
def Q6 (P:Program):Nat->TypeId->List Sc
 | 0,_=>[]
 | n+1,t=>match P.underlying t with
  | some (.struct fs)=>fs.toList.flatMap fun f=>Q6 P n f.type
  | some (.array k e)=>(List.replicate k (Q6 P n e)).flatten
  | _=>[scOf P t]
def Xu (P:Program) (t:TypeId):Option dx:=match Sl P t with
 | some true=>some (.g (Q6 P 8 t))
 | some false=>some (.o (scOf P t))
 | none=>none
def mj (P:Program):List TypeId->Option (List dx)
 | []=>some []
 | t :: r=>match Xu P t,mj P r with | some s,some l=>some (s :: l) | _,_=>none
def shOf (P:Program) (g:FuncId):Option Sh:=match P.funcs[g]? with
 | some fn=>match mj P fn.resultTypes.toList with
  | some [.o .f]=>some (.v (.o .c))
  | some [s]=>some (.v s)
  | some l=>some (.t l)
  | none=>none
 | none=>none
def shCall (P:Program) (f:Operand) (g:FuncId) (t:TypeId):Option Sh:=match f with
 | .const _=>shOf P g
 | .func _=>shOf P g
 | _=>match Xu P t with
  | some s=>some (.v s)
  | none=>shOf P g
def envT (H:List aT) (F:Fm) (x:Operand):Value:=match kf H F x with | some s=>(match MJ s with | some y=>y | none=>undef) | none=>undef
def ng (H:List aT) (F:Fm):List Operand->Bool
 | []=>true
 | x :: r=>match kf H F x with | some (.v _)=>ng H F r | some (.k _)=>ng H F r | _=>false
def Cd (P:Program) (H:List aT) (F:Fm) (o:Oper) (k:SV->T):T :=
 match ng H F o.op.operands.toList with
 | true=>match prun P (execOp (envT H F) o) with | some (.value r)=>k (.v r) | _=>.no
 | false=>.no
def HN (s:Option SV) (k:SV->T):T:=match s with | some s=>k s | none=>.no
def viaB (s:Option SV) (k:SV->T):T:=match s with | some (.k _)=>.no | some s=>k s | none=>.no
def de (s:ByteArray) (n:Nat):Int:=(s.data.toList.getD n 0).toNat
def tg (P : Program) (f : Field) : Bool := match f.name != "_", P.underlying f.type with
 | true,some .string=>true
 | _,_=>false
def EP (P:Program) (t:TypeId):Bool:=match P.underlying t with
 | some (.struct fs)=>match fs.toList with
  | [f,g]=>match tg P f,tg P g,f.offset,g.offset,P.stoodInHeld t,P.eqGuardType P.depth t with
   | true,true,0,1,false,false=>true
   | _,_,_,_,_,_=>false
  | _=>false
 | _=>false
def binT (P:Program) (H:List aT) (F:Fm) (o:Oper) (op:BinOp) (x y:Operand) (k:SV->T):T :=
 match kf H F x,kf H F y with
 | some (.v (.int k1 a)),some (.v (.int k2 b))=>match op with
  | .quo=>if k1=k2 then .rq (b≠0) (k (.v (.int k1 (k1.wrap (a.tdiv b))))) else .no
  | .rem=>if k1=k2 then .rq (b≠0) (k (.v (.int k1 (a.tmod b)))) else .no
  | _=>Cd P H F o k
 | some (.v (.string a)),some (.v (.string b))=>match op with
  | .add=>.rq (a.size+b.size<=9223372036854775807) (k (.v (.string (a++b))))
  | _=>Cd P H F o k
 | some (.v (.agg xs)),some (.v (.agg ys))=>match o.op,xs.toList,ys.toList with
  | .binOp .eql t _ _ _,[.string a,.string b],[.string c,.string d]=>match EP P t with
   | true=>k (.v (.bool (a == c && b == d)))
   | false=>.no
  | _,_,_=>.no
 | _,_=>Cd P H F o k
def oa (H:List aT) (F:Fm) (d:Int):Option Operand->Option Int
 | none=>some d
 | some x=>match kf H F x with | some (.v (.int _ n))=>some n | _=>none
def slc (a:Option Addr) (l h m sz:Nat):Value:=.slice (if m=l then a else a.map (·.add (l*sz))) (h-l) (m-l)
def MK (P:Program) (H:List aT) (F:Fm) (t:TypeId) (x:Operand) (lo hi mx:Option Operand) (k:SV->T):T :=
 match kf H F x,P.underlying t with
 | some (.v (.string s)),some .string=>match mx,oa H F 0 lo,oa H F s.size hi with
  | none,some l,some h=>.rq (0<=l/\l<=h/\h<=s.size) (k (.v (.string (s.extract l.toNat h.toNat))))
  | _,_,_=>.no
 | some (.v (.slice a n c)),some (.slice e)=>match bo P e,oa H F 0 lo,oa H F n hi,oa H F c mx with
  | some sz,some l,some h,some m=>match hi,mx with
   | none,some _=>.no
   | _,_=>.rq (0<=l/\l<=h/\h<=m/\m<=c) (k (.v (slc a l.toNat h.toNat m.toNat sz)))
  | _,_,_,_=>.no
 | _,_=>.no
def idxT (P:Program) (H:List aT) (t:TypeId) (k:SV->T):SV->SV->T
 | .o j,.v (.int _ n)=>match H[j]?,elemOf P t with
  | some (.a len _ _),some sz=>.rq (0<=n/\n<(len:Int)) (k (.p j (n.toNat*sz)))
  | _,_=>.no
 | .v (.slice a len _),.v (.int _ n)=>match elemOf P t with
  | some sz=>.el a len n fun ad=>k (.v (.pointer (some (ad.add (n.toNat*sz)))))
  | none=>.no
 | .v (.pointer (some a)),.v (.int _ n)=>match P.underlying t with
  | some (.array len e)=>match bo P e with
   | some sz=>.rq (0<=n/\n<(len:Int)) (k (.v (.pointer (some (a.add (n.toNat*sz))))))
   | none=>.no
  | _=>.no
 | _,_=>.no
def loadT (P:Program) (dr:Bool) (H:List aT) (t:TypeId) (k:SV->T):SV->T
 | .p i off=>match bo P t with
  | some n=>match H[i]? with
   | some (.c ..)=>match gF H i off n with | some l=>viaB (join P t l) k | none=>.no
   | some (.a _ xs _)=>match Xu P t with
    | some sh=>if n=sh.len then .xs xs off sh fun y=>k (.v (sh.val y)) else .no
    | none=>.no
   | _=>.no
  | none=>.no
 | .v (.pointer (some a))=>match bo P t,Xu P t with
  | some n,some sh=>if n=sh.len then .ld dr a sh fun y=>k (.v (sh.val y)) else .no
  | _,_=>.no
 | _=>.no
def ML (P:Program) (H:List aT) (F:Fm) (t:TypeId) (x i:Operand) (k:SV->T):T :=
 match kf H F x,kf H F i,P.underlying t with
 | some (.v (.string s)),some (.v (.int _ n)),some .string=>.rq (0<=n/\n<s.size) (k (.v (.int .u8 (de s n.toNat))))
 | some (.v (.agg cs)),some (.v (.int _ n)),some (.array len e)=>match Xu P e,bo P e with
  | some sh,some sz=>if sh.len=sz then .rq (0<=n/\n<(len:Int)) (.xs cs.toList (n.toNat*sz) sh fun y=>k (.v (sh.val y))) else .no
  | _,_=>.no
 | _,_,_=>.no
def hJ (l:List Value):ByteArray:=match bytesOf l with | some s=>s | none=>.empty
def stT (P:Program) (dr:Bool) (H:List aT) (F:Fm) (o:Oper) (k:SV->T):T :=
 match o.op with
 | .move x=>HN (kf H F x) k
 | .assign x=>HN (kf H F x) k
 | .pick c a b=>match kf H F c with
  | some (.k true)=>HN (kf H F a) k
  | some (.k false)=>HN (kf H F b) k
  | some (.v (.bool c))=>.br c (HN (kf H F a) k) (HN (kf H F b) k)
  | _=>.no
 | .fieldAddr t x i=>match kf H F x,Ml P t i with
  | some (.p j off),some (d,_+1)=>match kZ H j with | true=>k (.p j (off+d)) | false=>.no
  | some (.v (.pointer (some a))),some (d,_+1)=>k (.v (.pointer (some (a.add d))))
  | _,_=>.no
 | .indexAddr t x i=>match kf H F x,kf H F i with
  | some s,some n=>idxT P H t k s n
  | _,_=>.no
 | .load t x=>match kf H F x with
  | some s=>loadT P dr H t k s
  | none=>.no
 | .binOp op _ x y _=>binT P H F o op x y k
 | .unOp op _ x=>match op,kf H F x with
  | .not,some (.k b)=>k (.k (!b))
  | _,_=>Cd P H F o k
 | .slice t x lo hi mx=>MK P H F t x lo hi mx k
 | .index t x i=>ML P H F t x i k
 | .call c=>match isLen c,c.args.toList,c.argTypes.toList with
  | true,[x],[t]=>match kf H F x,P.underlying t with
   | some (.o j),some (.slice _)=>match H[j]? with | some (.a n _ _)=>k (.v (.int .i64 n)) | _=>.no
   | some (.v _),_=>Cd P H F o k
   | _,_=>.no
  | _,_,_=>Cd P H F o k
 | .convert src dst x=>match Sm P src dst,kf H F x with
  | true,some (.v (.slice a n c))=>match dr with
   | true=>.no
   | false=>.rd ⟨a,n,c⟩ 1 fun ys=>.rq (bytesOf ys≠none) (k (.v (.string (hJ ys))))
  | _,_=>Cd P H F o k
 | _=>Cd P H F o k
def HO:List SV->St->(St->T)->T
 | [],st,k=>k st
 | .o i :: r,st,k=>match st.H[i]? with
  | some (.a n xs t)=>.fz n xs t fun b cap=>HO r { st with H:=st.H.set i (.f (.slice (some ⟨b,0,none⟩) n cap)),D:=st.D.set i st.c } k
  | some (.f _)=>HO r st k
  | _=>.no
 | .p i _ :: r,st,k=>match st.H[i]? with
  | some (.c cs t)=>match iB (cs.map (res st.H)) with
   | some l=>.es l t fun b=>HO r { st with H:=st.H.set i (.e b),D:=st.D.set i st.c } k
   | none=>.no
  | some (.e _)=>HO r st k
  | _=>.no
 | _ :: r,st,k=>HO r st k
def th (H:List aT) (F:Fm):List Operand->List SV
 | []=>[]
 | x :: r=>match kf H F x with | some s=>s :: th H F r | none=>th H F r
def zh (H:List aT) (F:Fm):List Operand->Option (List Value)
 | []=>some []
 | x :: r=>match kf H F x,zh H F r with
  | some (.v y),some l=>some (y :: l)
  | some (.k b),some l=>some (.bool b :: l)
  | _,_=>none
def zi (H:List aT) (F:Fm):List (Nat × Operand)->Option (List (Nat × Value))
 | []=>some []
 | (i,x) :: r=>match kf H F x,zi H F r with
  | some (.v y),some l=>some ((i,y) :: l)
  | some (.k b),some l=>some ((i,.bool b) :: l)
  | _,_=>none
def ob (st:St) (dst:Option Tmp) (s:SV) (b:aT):St:={ st with F:=au st.F dst s,H:=st.H++[b],D:=st.D++[st.c] }
def zj (dr:Bool) (l:List SV) (st:St) (k:St->T):T:=match dr with | true=>k st | false=>HO l st k
def isCo:Operand->Bool | .const _=>true | _=>false
def appT (P:Program) (dr nl:Bool) (o:Oper) (c:Call) (st:St) (k:St->T):T :=
 match c.args.toList,c.argTypes.toList with
 | [s,x],[t,t']=>if t=t' then match P.underlying t with
  | some (.slice e)=>match P.info? e,P.cellsOf e with
   | some i,sz=>match i.zero with
    | some z=>if z.cells.size=i.size/\0<i.size/\sz=i.size then
      let src (fin:Nat->List Value->T):T:=match kf st.H st.F x with
       | some (.o j)=>match st.H[j]? with
        | some (.a m ys _)=>.rq (ys.length=m*sz) (fin m ys)
        | _=>.no
       | some (.v (.slice a m cp))=>.rd ⟨a,m,cp⟩ sz fun ys=>fin m ys
       | _=>.no
      match kf st.H st.F s with
      | some (.o j)=>match st.H[j]? with
       | some (.a n xs u)=>if u=e then src fun m ys =>
         .rq (one ys=true/\(n+m)*i.bytes<=140737488355328/\n+m<=9223372036854775807)
          (k { st with F:=au st.F o.dst (.o st.H.length),H:=st.H.set j .x++[.a (n+m) (xs++ys) e],D:=st.D.set j st.c++[st.c] }) else .no
       | _=>.no
      | some (.v (.slice sa n cp))=>match dr && !(nl && !isCo s) with
       | true=>.rq (Value.slice sa n cp=.slice none 0 0) (src fun m ys=>.br (decide (m=0)) (k { st with F:=au st.F o.dst (.v (.slice none 0 0)) })
        (.rq (m*i.bytes<=140737488355328/\m<=9223372036854775807)
         (k { st with F:=au st.F o.dst (.o st.H.length),H:=st.H++[.a m ys e],D:=st.D++[st.c] })))
       | false=>src fun m ys=>.rq (one ys=true) (.ap ⟨sa,n,cp⟩ i.size i.bytes ys m e fun s=>k { st with F:=au st.F o.dst (.v (.slice s.a s.n s.c)) })
      | _=>.no
     else .no
    | none=>.no
   | none,_=>.no
  | _=>.no
  else .no
 | _,_=>.no
def Xv (P:Program) (o:Oper) (c:Call) (st:St) (k:St->T):T :=
 match c.args.toList,c.argTypes.toList with
 | [d,x],[t,_]=>match P.underlying t with
  | some (.slice e)=>match P.info? e with
   | some i=>if i.size=1 then
     let src (fin:Nat->List Value->T):T:=match kf st.H st.F x with
      | some (.o j)=>match st.H[j]? with
       | some (.a m ys _)=>.rq (ys.length=m*1) (fin m ys)
       | _=>.no
      | some (.v (.slice a m cp))=>.rd ⟨a,m,cp⟩ 1 fun ys=>fin m ys
      | _=>.no
     match kf st.H st.F d with
     | some (.o j)=>match st.H[j]? with
      | some (.a n xs u)=>if u=e then src fun m ys=>.rq (one ys=true)
        (k { st with F:=au st.F o.dst (.v (.int .i64 (Nat.min m n:Nat))),H:=st.H.set j (.a n (aX xs 0 (ys.take (Nat.min m n))) e),D:=st.D.set j st.c }) else .no
      | _=>.no
     | _=>.no
    else .no
   | none=>.no
  | _=>.no
 | _,_=>.no
def storeT (P:Program) (o:Oper) (t:TypeId) (ad x:Operand) (st:St) (k:St->T):T :=
 let F':=au st.F o.dst (.v undef)
 match kf st.H st.F ad,kf st.H st.F x with
 | some (.p i off),some s=>match st.H[i]? with
  | some (.c cs u)=>match cellsOf st.H (eT s) with
   | some l=>if bo P t=some l.length/\off+l.length<=cs.length then k { st with F:=F',H:=st.H.set i (.c (aX cs off l) u),D:=st.D.set i st.c } else .no
   | none=>.no
  | some (.a n xs u)=>match MJ s with
   | some y=>if one y.cells.toList=true/\bo P t=some y.cells.size then
     .rq (off+y.cells.size<=xs.length) (k { st with F:=F',H:=st.H.set i (.a n (aX xs off y.cells.toList) u),D:=st.D.set i st.c }) else .no
   | none=>.no
  | _=>.no
 | some (.v (.pointer (some a))),some s=>match MJ s with
  | some y=>if one y.cells.toList=true/\bo P t=some y.cells.size then .st a y.cells.toList (k { st with F:=F' }) else .no
  | none=>.no
 | _,_=>.no
def MM (P:Program) (o:Oper) (t:TypeId) (n:Nat) (parts:List (Nat × Operand)) (st:St) (k:St->T):T :=
 match P.underlying t,zi st.H st.F parts with
 | some (.slice e),some aD=>match P.info? e with
  | some i=>match i.zero with
   | some z=>if n*i.size<=16777216/\n<=16777216 then
     match Instr.fill (fun j=>some (j*i.size,i.size)) ((Array.range (n*i.size)).map ((if n*i.size=0 then #[] else z.cells)[· % (if n*i.size=0 then #[] else z.cells).size]!)) aD with
     | some cells=>if cells.size=n*i.size then k (ob st o.dst (.o st.H.length) (.a n cells.toList e)) else .no
     | none=>.no
    else .no
   | none=>.no
  | none=>.no
 | _,_=>.no
def Xw (P:Program) (o:Oper) (t:TypeId) (l c:Operand) (st:St) (k:St->T):T :=
 match P.underlying t,kf st.H st.F l,kf st.H st.F c with
 | some (.slice e),some (.v (.int _ L)),some (.v (.int _ C))=>match P.info? e with
  | some i=>match i.zero with
   | some z=>.rq (0<=L/\L<=C/\(i.bytes:Int)*C<=281474976710656/\C<=9223372036854775807)
     (k (ob st o.dst (.o st.H.length) (.a L.toNat ((madeCells z.cells (L.toNat*i.size)).toList) e)))
   | none=>.no
  | none=>.no
 | _,_,_=>.no
def ownIn (P:Program) (t:TypeId) (H:List aT):SV->List SV
 | .p i off=>match Sl P t,bo P t with
  | some true,some n=>match gF H i off n with | some l=>l | none=>[]
  | _,_=>[]
 | _=>[]
def Q7 (H:List aT) (F:Fm) (x:Operand):Option Value:=match kf H F x with | some s=>MJ s | none=>none
def mopT (H:List aT) (F:Fm) (o:Oper):Option sU:=match o.op with
 | .makeMap t none=>some (.mk t)
 | .lookup t x k ok=>match Q7 H F x,Q7 H F k with
  | some a,some b=>some (.lk t a b ok)
  | _,_=>none
 | .mapUpdate t m k x=>match Q7 H F m,Q7 H F k,Q7 H F x with
  | some a,some b,some c=>some (.up t a b c)
  | _,_,_=>none
 | .insert t m k x=>match Q7 H F m,Q7 H F k,Q7 H F x with
  | some a,some b,some c=>some (.up t a b c)
  | _,_,_=>none
 | .call c=>match c.callee,c.args.toList with
  | .builtin .delete,[m,k]=>match Q7 H F m,Q7 H F k with
   | some a,some b=>some (.del c.argTypes o.type a b)
   | _,_=>none
  | _,_=>none
 | .convert src dst x=>match Q7 H F x with
  | some a=>some (.cv src dst a)
  | none=>none
 | .typeAssert x xt t ok=>match Q7 H F x with
  | some a=>some (.as a xt t ok)
  | none=>none
 | _=>none
def mopSh (P:Program):sU->Option Sh
 | .mk _=>some (.v (.o .x))
 | .up ..=>some (.t [])
 | .del ..=>some (.t [])
 | .cv ..=>some (.v (.o .l))
 | .as _ _ t ok=>match Xu P t,ok with
  | some s,false=>some (.v s)
  | some s,true=>some (.t [s,.o .b])
  | none,_=>none
 | .lk t _ _ ok=>match P.underlying t with
  | some (.map _ e)=>match Xu P e,ok with
   | some s,false=>some (.v s)
   | some s,true=>some (.t [s,.o .b])
   | none,_=>none
  | _=>none
def ER (P:Program) (dr nl:Bool) (o:Oper) (st:St) (k:St->T):T :=
 zj dr (th st.H st.F o.op.operands.toList) st fun st=>match dr && !(nl && o6 o) with
  | true=>.no
  | false=>match mopT st.H st.F o with
   | some m=>match mopSh P m with
    | some sh=>.mo m sh fun y=>k { st with F:=au st.F o.dst (.v (sh.val y)) }
    | none=>.no
   | none=>.no
def isPtr:Value->Bool
 | .pointer (some _)=>true
 | _=>false
def qV (P:Program) (dr nl nc:Bool) (o:Oper) (st:St) (k:St->T):T :=
 let plain:T:=stT P dr st.H st.F o fun s=>k { st with F:=au st.F o.dst s }
 match o.op with
 | .call c=>match c.callee with
  | .value f=>zj dr (th st.H st.F c.args.toList) st fun st=>match kf st.H st.F f,zh st.H st.F c.args.toList with
   | some (.v (.func (.func g) fs cs)),some l=>match shCall P f g o.type with
    | some sh=>match dr && !nc && l.any isPtr with
     | true=>.cf g (fs.toList++l++cs.toList) sh fun y=>Xs sh y fun y=>k { st with F:=au st.F o.dst (.v (sh.val y)) }
     | false=>.call (dr && !nc) g (fs.toList++l++cs.toList) sh fun y=>Xs sh y fun y=>k { st with F:=au st.F o.dst (.v (sh.val y)) }
    | none=>.no
   | _,_=>.no
  | .invoke r _=>zj dr (th st.H st.F c.args.toList) st fun st=>match kf st.H st.F r,zh st.H st.F c.args.toList with
   | some (.v x),some l=>match WZ P c x with
    | some (g,fs,cs)=>match shOf P g with
     | some sh=>.call (dr && !nc) g (fs.toList++l++cs.toList) sh fun y=>Xs sh y fun y=>k { st with F:=au st.F o.dst (.v (sh.val y)) }
     | none=>.no
    | none=>.no
   | _,_=>.no
  | .builtin .append=>appT P dr nl o c st k
  | .builtin .copy=>Xv P o c st k
  | .builtin .len=>plain
  | .builtin .min=>plain
  | .builtin .max=>plain
  | .builtin .delete=>ER P dr nl o st k
  | _=>.no
 | .box t x=>zj dr (th st.H st.F [x]) st fun st=>match kf st.H st.F x with
  | some s=>match MJ s with
   | some y=>k (ob st o.dst (.p st.H.length 0) (.c (y.cells.toList.map .v) t))
   | none=>.no
  | none=>.no
 | .alloc t=>match zeroOf P t with
  | some z=>match dr with
   | true=>match o.dst with
    | some d=>match QU d st.H with
     | some j=>k { st with F:=au st.F o.dst (.p j 0),H:=st.H.set j (.c (z.map .v) t),D:=st.D.set j st.c }
     | none=>.no
    | none=>.no
   | false=>k (ob st o.dst (.p st.H.length 0) (.c (z.map .v) t))
  | none=>.no
 | .store t ad x=>storeT P o t ad x st k
 | .buildSlice t n parts=>zj dr (th st.H st.F (parts.toList.map (·.2))) st fun st=>MM P o t n parts.toList st k
 | .makeSlice t l c=>Xw P o t l c st k
 | .move _=>plain
 | .assign _=>plain
 | .pick ..=>plain
 | .fieldAddr ..=>plain
 | .indexAddr ..=>plain
 | .load t x=>match kf st.H st.F x with
  | some s=>zj dr (ownIn P t st.H s) st fun st=>stT P dr st.H st.F o fun s=>k { st with F:=au st.F o.dst s }
  | none=>.no
 | .select ..=>.no
 | .makeMap ..=>ER P dr nl o st k
 | .lookup ..=>ER P dr nl o st k
 | .mapUpdate ..=>ER P dr nl o st k
 | .insert ..=>ER P dr nl o st k
 | .typeAssert ..=>ER P dr nl o st k
 | .convert src dst x=>match isSb P src dst with
  | true=>ER P dr nl o st k
  | false=>zj dr (th st.H st.F [x]) st fun st=>stT P dr st.H st.F o fun s=>k { st with F:=au st.F o.dst s }
 | op=>zj dr (th st.H st.F op.operands.toList) st fun st=>stT P dr st.H st.F o fun s=>k { st with F:=au st.F o.dst s }
def alT (P:Program) (o:Oper) (st:St) (k:St->T):T :=
 match o.op with
 | .buildSlice t n parts=>match P.underlying t with
  | some (.slice e)=>match P.info? e with
   | some i=>match i.zero,n,parts.toList with
    | some _,0,[]=>.es [] e fun b=>k { st with F:=au st.F o.dst (.v (.slice (some ⟨b,0,none⟩) 0 0)) }
    | some z,n+1,ps=>match zi st.H st.F ps with
     | some aD=>if (n+1)*i.size<=16777216/\n+1<=16777216 then match Instr.fill (fun j=>some (j*i.size,i.size)) ((Array.range ((n+1)*i.size)).map ((if (n+1)*i.size=0 then #[] else z.cells)[· % (if (n+1)*i.size=0 then #[] else z.cells).size]!)) aD with
      | some cells=>if cells.size=(n+1)*i.size then .es cells.toList e fun b=>k { st with F:=au st.F o.dst (.v (.slice (some ⟨b,0,none⟩) (n+1) (n+1))) } else .no
      | none=>.no
      else .no
     | none=>.no
    | _,_,_=>.no
   | none=>.no
  | _=>.no
 | .call c=>match c.callee,c.args.toList,c.argTypes.toList with
  | .builtin .append,[s,x],[t,t']=>if t=t' then match P.underlying t,kf st.H st.F s,kf st.H st.F x with
   | some (.slice e),some (.v (.slice (some sb) 0 0)),some (.v (.slice xa m cx))=>match P.info? e with
    | some i=>match i.zero with
     | some z=>if z.cells.size=i.size then .ra ⟨xa,m,cx⟩ i.size fun ys=>.rq (one ys=true/\m*i.bytes<=140737488355328/\m<=9223372036854775807)
       (.br (decide (m=0)) (k { st with F:=au st.F o.dst (.v (.slice (some sb) 0 0)) })
        (.fz m ys e fun b cap=>k { st with F:=au st.F o.dst (.v (.slice (some ⟨b,0,none⟩) m cap)) })) else .no
     | none=>.no
    | none=>.no
   | _,_,_=>.no
   else .no
  | _,_,_=>.no
 | _=>.no
def HP (c b:Bool) (x y:T):T:=match c,b with | true,true=>x | false,false=>x | _,_=>y
def rG (P:Program) (dr:Bool) (all:Array Oper):List Oper->St->(St->T)->T
 | [],st,k=>k st
 | o :: r,st,k =>
  let run (st:St):T:=match dr && kP all o with | true=>alT P o st (fun st=>rG P dr all r st k) | false=>qV P dr (r.all fun o=>!cn o) (HE all (all.size-(r.length+1))) o st (fun st=>rG P dr all r st k)
  let skip (st:St):T:=rG P dr all r { st with F:=au st.F o.dst (.v undef) } k
  match o.guard with
  | none=>run st
  | some (j,b)=>match (all[j]?).bind (·.dst) with
   | some d=>match st.F d with
    | some (.k c)=>HP c b (run st) (skip st)
    | some (.v (.bool c))=>.br c (HP true b (run { st with F:=nX st.F d (.k true) }) (skip { st with F:=nX st.F d (.k true) }))
      (HP false b (run { st with F:=nX st.F d (.k false) }) (skip { st with F:=nX st.F d (.k false) }))
    | some (.v (.tuple _))=>skip st
    | _=>.no
   | none=>.no
inductive Pl where
 | s (t:Nat)
 | c (i j:Nat)
inductive PlN where
 | s (t:Nat)
 | c (t j:Nat)
structure An where
 lp:List (Nat × List PlN × List mP)
 jn:List (Nat × List PlN × List mP)
 fz:List (Nat × List PlN):=[]
def Code.rid:Code->Nat
 | .region id _ _=>id
 | .seq a _=>Code.rid a
 | .cond _ a _=>Code.rid a+1000000
 | .block _ c=>Code.rid c
 | .loop c=>Code.rid c
 | _=>0
def look:List (Nat × List PlN × List mP)->Nat->Option (List PlN × List mP)
 | [],_=>none
 | (j,x) :: r,i=>if i=j then some x else look r i
def iG:List Pl->List Nat
 | []=>[]
 | .s t :: r=>t :: iG r
 | _ :: r=>iG r
def Xx:List (Nat × List PlN)->Nat->List PlN
 | [],_=>[]
 | (j,x) :: r,i=>if i=j then x else Xx r i
def Q8 (st:St):List PlN->List SV
 | []=>[]
 | .s t :: r=>(match st.F t with | some s=>[s] | none=>[])++Q8 st r
 | .c t j :: r=>(match st.F t with
  | some (.p i _)=>(match st.H[i]? with | some (.c cs _)=>(match cs[j]? with | some s=>[s] | none=>[]) | _=>[])
  | _=>[])++Q8 st r
def rH:List PlN->List Nat
 | []=>[]
 | .s t :: r=>t :: rH r
 | _ :: r=>rH r
def named (F:Fm):List PlN->Option (List Pl)
 | []=>some []
 | .s t :: r=>match named F r with | some l=>some (.s t :: l) | none=>none
 | .c t j :: r=>match F t,named F r with | some (.p i _),some l=>some (.c i j :: l) | _,_=>none
def writes (an:An):Code->List Nat
 | .region _ ops _=>ops.toList.filterMap (·.dst)
 | .seq a b=>writes an a++writes an b++(match look an.jn (Code.rid b) with | some (pls,_)=>rH pls | none=>[])
 | .cond _ a b=>writes an a++writes an b
 | .block _ c=>writes an c
 | .loop c=>writes an c++(match look an.lp (Code.rid c) with | some (pls,_)=>rH pls | none=>[])
 | _=>[]
def kp:List Pl->List mP->St->Option St
 | [],[],st=>some st
 | .s t :: r,sh :: l,st=>kp r l (match sh,st.F t with
  | .a _,some (.o i)=>{ st with H:=st.H.set i .x,D:=st.D.set i st.c }
  | _,_=>st)
 | .c i j :: r,sh :: l,st=>match st.H[i]? with
  | some (.c cs u)=>kp r l (match sh,cs[j]? with
   | .a _,some (.o m)=>if m=i then { st with H:=st.H.set i (.c (cs.set j (.o i)) u),D:=st.D.set i st.c } else
     { st with H:=(st.H.set i (.c (cs.set j (.o i)) u)).set m .x,D:=(st.D.set i st.c).set m st.c }
   | _,_=>{ st with H:=st.H.set i (.c (cs.set j (.o i)) u),D:=st.D.set i st.c })
  | _=>none
 | _,_,_=>none
def Q9 (W:List Nat) (pls:List Pl) (mj:List mP) (st:St):Option St :=
 match kp pls mj { st with c:=st.c+1 } with
 | some b=>some { b with F:=fun t=>match W.contains t with | true=>none | false=>b.F t }
 | none=>none
def kz:List Pl->List LV->St->Option St
 | [],[],st=>some st
 | .s t :: r,.v x :: l,st=>kz r l { st with F:=nX st.F t (.v x) }
 | .s t :: r,.a e n ys :: l,st=>kz r l { st with F:=nX st.F t (.o st.H.length),H:=st.H++[.a n ys e],D:=st.D++[st.c] }
 | .c i j :: r,.v x :: l,st=>match st.H[i]? with
  | some (.c cs u)=>kz r l { st with H:=st.H.set i (.c (cs.set j (.v x)) u),D:=st.D.set i st.c }
  | _=>none
 | .c i j :: r,.a e n ys :: l,st=>match st.H[i]? with
  | some (.c cs u)=>kz r l { st with H:=st.H.set i (.c (cs.set j (.o st.H.length)) u)++[.a n ys e],D:=st.D.set i st.c++[st.c] }
  | _=>none
 | _,_,_=>none
def getV (H:List aT):mP->SV->Option (LV × List Nat)
 | .o _,s=>match MJ (res H s) with | some x=>some (.v x,[]) | none=>none
 | .a e,.o i=>match H[i]? with | some (.a n ys u)=>if u=e then some (.a e n ys,[i]) else none | _=>none
 | .a _,_=>none
def qN (st:St):List Pl->List mP->Option (List LV × List Nat)
 | [],[]=>some ([],[])
 | .s t :: r,sh :: l=>match st.F t with
  | some s=>match getV st.H sh s,qN st r l with | some (x,is),some (xs,js)=>some (x :: xs,is++js) | _,_=>none
  | none=>none
 | .c i j :: r,sh :: l=>match st.H[i]? with
  | some (.c cs _)=>match cs[j]? with
   | some s=>match getV st.H sh s,qN st r l with | some (x,is),some (xs,js)=>some (x :: xs,is++js) | _,_=>none
   | none=>none
  | _=>none
 | _,_=>none
def HQ (st:St):List Pl->List mP->List SV
 | .s t :: r,.o _ :: l=>(match st.F t with | some s=>[s] | none=>[])++HQ st r l
 | .c i j :: r,.o _ :: l=>(match st.H[i]? with | some (.c cs _)=>(match cs[j]? with | some s=>[s] | none=>[]) | _=>[])++HQ st r l
 | _ :: r,_ :: l=>HQ st r l
 | _,_=>[]
def qo (i:Nat):List SV->Bool
 | []=>true
 | .o j :: r=>Nat.beq i j && qo i r
 | _=>false
def oc (c:Nat):List aT->Nat->List aT->List Nat->Bool
 | [],_,_,_=>true
 | b :: r,i,H',D' =>
  (match b with
   | .x=>true
   | .c cs t=>(match D'[i]? with | some d=>Nat.blt d c | none=>false) || (match H'[i]? with
    | some (.c iw t')=>Nat.beq t t' && Nat.beq cs.length iw.length && qo i cs
    | _=>false)
   | _=>match D'[i]? with | some d=>Nat.blt d c | none=>false) && oc c r (i+1) H' D'
def nh (base:List aT):List Nat->Bool
 | []=>true
 | i :: r=>(match base[i]? with | some b=>!b.live | none=>true) && !r.contains i && nh base r
def nxT (pls:List Pl) (mj:List mP) (base:St) (lbl:Nat) (st:St):T :=
 HO (HQ st pls mj) st fun st=>match qN st pls mj with
  | some (xs,is)=>match oc base.c base.H 0 st.H st.D && nh base.H is with
   | true=>.nx lbl xs
   | false=>.no
  | none=>.no
def Ra (pls:List Pl) (base:St) (nf:List LV) (k:St->T):T:=match kz pls nf base with | some st=>k st | none=>.no
def subset (l W:List Nat):Bool:=l.all (W.contains ·)
def condT (c:Operand) (st:St) (x y:St->T):T :=
 match c with
 | .tmp t=>match st.F t with
  | some (.k true)=>x st
  | some (.k false)=>y st
  | some (.v (.bool b))=>.br b (x { st with F:=nX st.F t (.k true) }) (y { st with F:=nX st.F t (.k false) })
  | _=>.no
 | .const (.bool true)=>x st
 | .const (.bool false)=>y st
 | _=>.no
def ES (ops:Array Oper) (st:St):St:={ st with H:=st.H++My ops,D:=st.D++(My ops).map fun _=>st.c }
def ptrOp (F:Fm) (H:List aT) (o:Oper):Bool:=o.op.operands.any fun x=>match ev H F x with | some (.v (.pointer (some _)))=>true | _=>false
def callOp (o:Oper):Bool:=match o.op with | .call c=>(match c.callee with | .value _=>true | _=>false) | _=>false
def rfOps (F:Fm) (H:List aT) (ops:Array Oper):Bool:=ops.toList.any callOp && !ops.toList.any o6 && ops.toList.any (ptrOp F H)
def jV (P:Program) (an:An):Code->St->(St->T)->(Nat->St->T)->(St->T)->T
 | .skip,st,kn,_,_=>kn st
 | .region id ops dr,st,kn,_,_=>match dr with
  | true=>HO (Q8 st (Xx an.fz id)) st fun st=>match MD (aK st.F) st.H ops with
   | true=>match rfOps (aK st.F) st.H ops with
    | true=>.rf (rG P true ops ops.toList (ES ops st) kn)
    | false=>.rg (rG P true ops ops.toList (ES ops st) kn)
   | false=>.no
  | false=>rG P false ops ops.toList st kn
 | .seq a b,st,kn,kx,kr=>match look an.jn (Code.rid b) with
  | none=>jV P an a st (fun st=>jV P an b st kn kx kr) kx kr
  | some (pns,mj)=>match named st.F pns with
   | none=>.no
   | some pls=>match Q9 (iG pls++writes an a) pls mj st with
   | none=>.no
   | some base=>.jn mj (fun y=>Ra pls base (cH.nf mj y) fun st=>jV P an b st kn kx kr)
     (jV P an a { st with c:=st.c+1,D:=base.D } (nxT pls mj base st.c) kx kr)
 | .cond c a b,st,kn,kx,kr=>condT c st (fun st=>jV P an a st kn kx kr) (fun st=>jV P an b st kn kx kr)
 | .block id c,st,kn,kx,kr=>jV P an c st kn (fun e st=>match Nat.beq e id with | true=>kn st | false=>kx e st) kr
 | .loop c,st,_,kx,kr=>HO (Q8 st (Xx an.fz (Code.rid c+2000000))) st fun st=>match look an.lp (Code.rid c) with
  | none=>.no
  | some (pns,mj)=>match named st.F pns with
   | none=>.no
   | some pls=>HO (HQ st pls mj) st fun st=>match Q9 (iG pls++writes an c) pls mj st,qN st pls mj with
   | some base,some (xs,is)=>match oc base.c base.H 0 st.H base.D && nh base.H is with
    | true=>.lp mj xs fun y=>Ra pls base (cH.nf mj y) fun Hn=>jV P an c Hn (nxT pls mj base st.c) kx kr
    | false=>.no
   | _,_=>.no
 | .exit id,st,_,kx,_=>kx id st
 | .ret,st,_,_,kr=>kr st
 | _,_,_,_,_=>.no
def ET (P:Program) (st:St):List ResultVar->List SV
 | []=>[]
 | .tmp t :: r=>(match st.F t with | some s=>[s] | none=>[])++ET P st r
 | .cell a t :: r=>(match st.F a,bo P t with
  | some (.p i off),some n=>(match gF st.H i off n with | some l=>l | none=>[])
  | _,_=>[])++ET P st r
def ml (P:Program) (st:St):List ResultVar->Option (List Value)
 | []=>some []
 | .tmp t :: r=>match st.F t,ml P st r with
  | some s,some l=>match MJ (res st.H s) with | some x=>some (x :: l) | none=>none
  | _,_=>none
 | .cell a t :: r=>match st.F a,bo P t,ml P st r with
  | some (.p i off),some n,some l=>match gF st.H i off n with
   | some l'=>match join P t l' with | some (.v x)=>some (x :: l) | _=>none
   | none=>none
  | _,_,_=>none
def Xy (P:Program) (fn:Func) (st:St):T:=HO (ET P st fn.results.toList) st fun st=>match ml P st fn.results.toList with | some vs=>.ret vs | none=>.no
def Xz (args:List Value) (n:Nat):Fm:=fun t=>match args[t]? with | some x=>some (.v x) | none=>if t<n then some (.v undef) else none
def dec (P:Program) (an:An) (fn:Func) (c:Code) (args:List Value):T :=
 jV P an c ⟨Xz args fn.ntmps,[],[],0⟩ (Xy P fn) (fun _ _=>.no) (Xy P fn)
variable {P:Program}
theorem prun_bind {α β:Type} (s:Sem α) (f:α->Sem β):prun P (s >>= f)=(prun P s).bind (fun x=>prun P (f x)):=by
 show prun P (s.bind f)=_
 induction s with
 | pure a=>rfl
 | program k ih=>exact ih P
 | mark m k ih=>exact ih
 | _=>rfl
theorem prun_pure {α:Type} (x:α):prun P (pure x:Sem α)=some x:=rfl
theorem kC:prun P program=some P:=rfl
theorem bT {t:TypeId} {d:TypeDesc} (h:P.underlying t=some d):prun P (underlying t)=some d:=by
 simp [underlying,prun_bind,kC,h,prun_pure]
theorem py {t n:Nat} (h:bo P t=some n):prun P (Go.sizeOf t)=some n:=by
 unfold bo at h;split at h
 ·rename_i i hi
  simp at h; subst h
  simp [Go.sizeOf,Go.typeInfo,prun_bind,kC,hi,prun_pure]
 cases h
theorem XA {k:IntKind} {a b:Int} (hb:b≠0) (t:TypeId):prun P (binOp .quo t (.int k a) (.int k b))=some (.int k (k.wrap (a.tdiv b))):=by
 simp [binOp,Op.intDiv,hb,prun_pure]
theorem XB {k:IntKind} {a b:Int} (hb:b≠0) (t:TypeId):prun P (binOp .rem t (.int k a) (.int k b))=some (.int k (a.tmod b)):=by
 simp [binOp,Op.intDiv,hb,prun_pure]
theorem SG {a b:ByteArray} (h:a.size+b.size<=9223372036854775807) (t:TypeId):prun P (binOp .add t (.string a) (.string b))=some (.string (a++b)):=by
 have:¬ (((a.size+b.size:Nat):Int) > IntKind.i64.max):=by
  have:IntKind.i64.max=9223372036854775807:=by decide
  omega
 simp only [binOp,Op.stringOp,this,if_false,prun_pure]
theorem gj (k:IntKind) (i:Int) (y:Nat) (c:BoundsCode) (h:0<=i/\i<=y):prun P (Instr.sliceBound (.int k i) y c)=some i.toNat:=by
 simp [Instr.sliceBound,asIntOf,prun_pure,h]
theorem unk_res (H:List aT) (s:SV):eT (res H s)=res H (eT s):=by
 cases s with
 | v x=>rfl
 | k b=>rfl
 | p i off=>cases hH:H[i]? with
  | none=>simp [res,eT,hH]
  | some b=>cases b <;> simp [res,eT,hH]
 | o i=>cases hH:H[i]? with
  | none=>simp [res,eT,hH]
  | some b=>cases b <;> simp [res,eT,hH]
theorem EU (H:List aT) (F:Fm) (x:Operand):ev H (aK F) x=match kf H F x with | some s=>some (eT s) | none=>none:=by
 cases x with
 | tmp t =>
  simp only [ev,kf,aK];cases F t with
  | none=>rfl
  | some s=>simp [unk_res]
 | const v=>cases v <;> rfl
 | global g=>rfl
 | func f=>rfl
theorem bM {H:List aT} {F:Fm} {x:Operand} {s:SV} (h:kf H F x=some s):ev H (aK F) x=some (eT s):=by
 rw [EU,h]
theorem XC {s:SV} {y:Value} (h:MJ s=some y):eT s=.v y:=by
 cases s <;> simp [MJ] at h <;> subst h <;> rfl
theorem ti {H:List aT} {F:Fm}:∀ (l:List Operand),bA H (aK F) l=ng H F l
 | []=>rfl
 | x :: r=>by
  simp only [bA,ng,EU];cases kf H F x with
  | none=>rfl
  | some s=>cases s <;> simp [eT,ti r]
theorem env_unk (H:List aT) (F:Fm):cD H (aK F)=envT H F:=by
 funext x
 simp only [cD,envT,EU];cases kf H F x with
 | none=>rfl
 | some s=>cases s <;> simp [eT,MJ]
section
variable {K:aa->List Value->Prop} {V V0:aa} {Ns:List (List LV->aa->Prop)} {H:List aT} {F:Fm} {o:Oper} {k:SV->T} {dr:Bool}
def Stt (P:Program) (K:aa->List Value->Prop) (V V0:aa) (Ns:List (List LV->aa->Prop)) (x:Option SV) (k:SV->T):Prop :=
 ∃ s,x=some (eT s)/\(k s).wp P K V V0 Ns
theorem gk (h:(Cd P H F o k).wp P K V V0 Ns):Stt P K V V0 Ns (aJ P H (aK F) o) k:=by
 unfold Cd at h;unfold aJ;rw [ti,env_unk];split at h
 ·rename_i hp
  rw [hp];simp only;split at h
  ·rename_i r hr
   rw [hr];exact⟨.v r,rfl,h⟩
  exact h.elim
 exact h.elim
theorem jr {x:Operand} (h:(HN (kf H F x) k).wp P K V V0 Ns):Stt P K V V0 Ns (ev H (aK F) x) k:=by
 unfold HN at h;split at h
 ·rename_i s hs
  exact⟨s,bM hs,h⟩
 exact h.elim
theorem vJ {op:BinOp} {t:TypeId} {x y:Operand} {p} {a b r:Value} (ho:o.op=.binOp op t x y p) (dm:op≠.eql/\op≠.neq)
  (hx:ev H F x=some (.v a)) (hy:ev H F y=some (.v b)) (hr:prun P (binOp op t a b)=some r):aJ P H F o=some (.v r):=by
 unfold aJ;have h1:bA H F o.op.operands.toList=true:=by simp [ho,Op.operands,bA,hx,hy]
 rw [h1];simp only;have h2:prun P (execOp (cD H F) o)=some (.value r):=by
  have hg:prun P (eqGuard op t x y a b)=some ():=by
   unfold eqGuard;cases op <;> simp_all [prun_pure]
  simp only [execOp,ho,prun_bind,cD,hx,hy,hg,hr,Option.bind_some,prun_pure]
 rw [h2]
theorem jN {t:TypeId} {xs:List Value} {off:Nat} {v:Value} (h:P.underlying t=some .string) (hv:xs[off]?=some v):prun P (part t xs.toArray off)=some v:=by
 have hu:prun P (isAgg t)=some false:=by simp [isAgg,prun_bind,bT h,prun_pure]
 have:xs.toArray[off]?=some v:=by simpa using hv
 simp [part,prun_bind,hu,this,prun_pure]
theorem tj {f : Field} (h : tg P f = true) : f.name ≠ "_" ∧ P.underlying f.type = some .string := by
 unfold tg at h;split at h
 ·rename_i h1 h2; exact⟨by simpa using h1,h2⟩
 cases h
theorem ni {d:Nat} {t:TypeId} {a b:ByteArray} (h:P.underlying t=some .string):prun P (Op.equalIn (d+1) t (.string a) (.string b))=some (a == b):=by
 simp [Op.equalIn,prun_bind,bT h,prun_pure]
theorem EV {t:TypeId} {x y:Operand} {a b c d:ByteArray} (h:EP P t=true) :
  prun P (do eqGuard .eql t x y (.agg [.string a,.string b].toArray) (.agg [.string c,.string d].toArray); binOp .eql t (.agg [.string a,.string b].toArray) (.agg [.string c,.string d].toArray))=some (.bool (a == c && b == d)):=by
 unfold EP at h;split at h
 ·rename_i fs hu
  split at h
  ·rename_i f g hfs
   split at h
   ·rename_i h1 h2 h3 h4 h5 h6
    obtain⟨n1,u1⟩:=tj h1;obtain⟨n2,u2⟩:=tj h2;have efs:fs=#[f,g]:=by
     rw [<- Array.toList_inj]; exact hfs
    subst efs;have e1:prun P (eqGuard .eql t x y (.agg [.string a,.string b].toArray) (.agg [.string c,.string d].toArray))=some ():=by
     simp [eqGuard,prun_bind,kC,h6,prun_pure]
    have p1:prun P (part f.type [Value.string a,.string b].toArray f.offset)=some (.string a):=by rw [h3]; exact jN u1 rfl
    have p2:prun P (part f.type [Value.string c,.string d].toArray f.offset)=some (.string c):=by rw [h3]; exact jN u1 rfl
    have p3:prun P (part g.type [Value.string a,.string b].toArray g.offset)=some (.string b):=by rw [h4]; exact jN u2 rfl
    have p4:prun P (part g.type [Value.string c,.string d].toArray g.offset)=some (.string d):=by rw [h4]; exact jN u2 rfl
    have e2:∀ n,prun P (Op.equalIn (n+2) t (.agg [.string a,.string b].toArray) (.agg [.string c,.string d].toArray))=some (a == c && b == d):=by
     intro n;have q1:prun P (Op.equalIn (n+1) f.type (.string a) (.string c))=some (a == c):=ni u1;have q2:prun P (Op.equalIn (n+1) g.type (.string b) (.string d))=some (b == d):=ni u2;rw [Op.equalIn];simp only [prun_bind,bT hu,Option.bind_some,kC,h5,Bool.false_eq_true,if_false];rw [<- Array.forIn_toList];simp only [List.forIn_cons,List.forIn_nil,ne_eq,n1,n2,not_false_eq_true,if_true,prun_bind,p1,p2,Option.bind_some,q1];cases h7:(a == c)
     ·simp [prun_pure]
     simp only [Bool.not_true,Bool.false_eq_true,if_false,prun_pure,prun_bind,Option.bind_some,p3,p4,q2];cases h8:(b == d) <;> simp [prun_pure]
    have e4:prun P (Op.equal t (.agg [.string a,.string b].toArray) (.agg [.string c,.string d].toArray))=some (a == c && b == d):=e2 9998;have e3:prun P (binOp .eql t (.agg [.string a,.string b].toArray) (.agg [.string c,.string d].toArray))=some (.bool (a == c && b == d)):=by
     show prun P (Op.equal t (.agg [.string a,.string b].toArray) (.agg [.string c,.string d].toArray) >>= fun r=>pure (Value.bool r))=_
     rw [prun_bind,e4]; rfl
    simp only [prun_bind,e1,e3,Option.bind_some]
   cases h
  cases h
 cases h
theorem SH {t:TypeId} {x y:Operand} {p} {a b r:Value} (ho:o.op=.binOp .eql t x y p)
  (hx:ev H F x=some (.v a)) (hy:ev H F y=some (.v b)) (hr:prun P (do eqGuard .eql t x y a b; binOp .eql t a b)=some r):aJ P H F o=some (.v r):=by
 unfold aJ;have h1:bA H F o.op.operands.toList=true:=by simp [ho,Op.operands,bA,hx,hy]
 rw [h1];simp only;have h2:prun P (execOp (cD H F) o)=some (.value r):=by
  rw [prun_bind] at hr;simp only [execOp,ho,prun_bind,cD,hx,hy,prun_pure]
  revert hr
  cases prun P (eqGuard .eql t x y a b) with
  | none=>intro hr; cases hr
  | some u=>intro hr; simp only [Option.bind_some] at hr ⊢; rw [hr]; rfl
 rw [h2]
theorem MN {op:BinOp} {t:TypeId} {x y:Operand} {p} (ho:o.op=.binOp op t x y p) (h:(binT P H F o op x y k).wp P K V V0 Ns) :
  Stt P K V V0 Ns (aJ P H (aK F) o) k:=by
 unfold binT at h;split at h
 ·rename_i k1 a k2 b hx hy
  split at h
  ·split at h
   ·rename_i hk; subst hk
    exact⟨.v _,vJ ho (by simp) (bM hx) (bM hy) (XA h.1 t),h.2⟩
   exact h.elim
  ·split at h
   ·rename_i hk; subst hk
    exact⟨.v _,vJ ho (by simp) (bM hx) (bM hy) (XB h.1 t),h.2⟩
   exact h.elim
  exact gk h
 ·rename_i a b hx hy
  split at h
  ·exact⟨.v _,vJ ho (by simp) (bM hx) (bM hy) (SG h.1 t),h.2⟩
  exact gk h
 ·rename_i xs ys hx hy
  split at h
  ·rename_i t' _ _ _ a b c d pc Su dZ
   rw [ho] at pc
   injection pc with e1 e2 e3 e4 e5
   subst e1 e2 e3 e4;split at h
   ·rename_i hp
    have ex:xs=[Value.string a,.string b].toArray:=by rw [<- Array.toList_inj]; exact Su
    have ey:ys=[Value.string c,.string d].toArray:=by rw [<- Array.toList_inj]; exact dZ
    subst ex ey;exact⟨.v _,SH ho (bM hx) (bM hy) (EV hp),h⟩
   exact h.elim
  exact h.elim
 exact gk h
theorem HS {d:Int} {x:Option Operand} {n:Int} (h:oa H F d x=some n) :
  (x=none/\n=d)\/∃ y k,x=some y/\ev H (aK F) y=some (.v (.int k n)):=by
 cases x with
 | none=>simp [oa] at h; exact .inl ⟨rfl,h.symm⟩
 | some y =>
  simp only [oa] at h;split at h
  ·rename_i k n' hy
   simp at h; subst h
   exact .inr ⟨y,k,rfl,bM hy⟩
  cases h
theorem w8 {t:TypeId} {x:Operand} {lo hi mx:Option Operand} {a r:Value} (ho:o.op=.slice t x lo hi mx)
  (hx:ev H F x=some (.v a)) (jh:∀ y,lo=some y->∃ z,ev H F y=some (.v z)) (hhi:∀ y,hi=some y->∃ z,ev H F y=some (.v z)) (hmx:∀ y,mx=some y->∃ z,ev H F y=some (.v z))
  (hr:prun P (Instr.sliceAt t a (lo.map (cD H F)) (hi.map (cD H F)) (mx.map (cD H F)))=some r):aJ P H F o=some (.v r):=by
 unfold aJ;have h1:bA H F o.op.operands.toList=true:=by
  cases lo <;> cases hi <;> cases mx <;> simp_all [Op.operands,bA] <;> (first | (obtain⟨z,hz⟩:=jh; obtain⟨z1,SI⟩:=hhi; obtain⟨z2,SJ⟩:=hmx; simp [*]) | (obtain⟨z,hz⟩:=jh; obtain⟨z1,SI⟩:=hhi; simp [*]) | (obtain⟨z,hz⟩:=hhi; obtain⟨z1,SI⟩:=hmx; simp [*]) | (obtain⟨z,hz⟩:=jh; obtain⟨z1,SI⟩:=hmx; simp [*]) | (obtain⟨z,hz⟩:=jh; simp [*]) | (obtain⟨z,hz⟩:=hhi; simp [*]) | (obtain⟨z,hz⟩:=hmx; simp [*]))
 rw [h1];simp only;have h2:prun P (execOp (cD H F) o)=some (.value r):=by
  have mK:cD H F x=a:=by simp [cD,hx]
  simp only [execOp,ho,prun_bind,mK,hr,Option.bind_some,prun_pure]
 rw [h2]
end
variable {P:Program} {K:aa->List Value->Prop} {V V0:aa} {Ns:List (List LV->aa->Prop)} {H:List aT} {F:Fm} {o:Oper} {k:SV->T} {dr:Bool}
theorem HT {α β:Type} (f:α->β) (s:Sem α):prun P (f <$> s)=(prun P s).map f:=by
 show prun P (s >>= fun x=>pure (f x))=_
 rw [prun_bind];cases prun P s <;> rfl
theorem lA {x:Operand} {y:Value} (h:ev H F x=some (.v y)):cD H F x=y:=by simp [cD,h]
theorem nj {d:Int} {x:Option Operand} {n:Int} (h:oa H F d x=some n) :
  (∀ y,x=some y->∃ z,ev H (aK F) y=some (.v z))/\((x=none/\n=d)\/∃ k,x.map (cD H (aK F))=some (.int k n)):=by
 rcases HS h with ⟨h1,h2⟩ | ⟨y,k,h1,h2⟩
 ·subst h1; exact⟨fun y hy=>(by cases hy),.inl ⟨rfl,h2⟩⟩
 subst h1;exact⟨fun z hz=>(by simp at hz; subst hz; exact⟨_,h2⟩),.inr ⟨k,by simp [lA h2]⟩⟩
theorem yh {n:Nat} {lo hi:Option Value} {l h:Int} (hl:(lo=none/\l=0)\/∃ k,lo=some (.int k l)) (hh:(hi=none/\h=n)\/∃ k,hi=some (.int k h))
  (hb:0<=l/\l<=h/\h<=n):prun P (Instr.sliceBounds false n n lo hi none)=some (l.toNat,h.toNat,n):=by
 have h3:(h.toNat:Int)=h:=Int.toNat_of_nonneg (by omega);have e1:∀ (k:IntKind) (c:BoundsCode),prun P (Instr.sliceBound (.int k h) n c)=some h.toNat:=fun k c=>gj k h n c (by omega)
 have e2:∀ (k:IntKind) (c:BoundsCode),prun P (Instr.sliceBound (.int k l) h.toNat c)=some l.toNat:=fun k c=>gj k l h.toNat c (by omega)
 have e3:∀ (k:IntKind) (c:BoundsCode),h=n->prun P (Instr.sliceBound (.int k l) n c)=some l.toNat:=fun k c e=>gj k l n c (by omega)
 rcases hl with ⟨rfl,rfl⟩ | ⟨kl,rfl⟩ <;> rcases hh with ⟨rfl,rfl⟩ | ⟨kh,rfl⟩ <;> simp [Instr.sliceBounds,prun_bind,HT,prun_pure,e1,e2,e3]
theorem zk {n c:Nat} {lo hi mx:Option Value} {l h m:Int} (hl:(lo=none/\l=0)\/∃ k,lo=some (.int k l)) (hh:(hi=none/\h=n)\/∃ k,hi=some (.int k h))
  (hm:(mx=none/\m=c)\/∃ k,mx=some (.int k m)) (hx:¬ (hi=none/\mx≠none))
  (hb:0<=l/\l<=h/\h<=m/\m<=c):prun P (Instr.sliceBounds true n c lo hi mx)=some (l.toNat,h.toNat,m.toNat):=by
 have h3:(h.toNat:Int)=h:=Int.toNat_of_nonneg (by omega);have h4:(m.toNat:Int)=m:=Int.toNat_of_nonneg (by omega);have e0:∀ (k:IntKind) (cd:BoundsCode),prun P (Instr.sliceBound (.int k m) c cd)=some m.toNat:=fun k cd=>gj k m c cd (by omega)
 have e1:∀ (k:IntKind) (cd:BoundsCode),prun P (Instr.sliceBound (.int k h) m.toNat cd)=some h.toNat:=fun k cd=>gj k h m.toNat cd (by omega)
 have e1':∀ (k:IntKind) (cd:BoundsCode),m=c->prun P (Instr.sliceBound (.int k h) c cd)=some h.toNat:=fun k cd e=>gj k h c cd (by omega)
 have e2:∀ (k:IntKind) (cd:BoundsCode),prun P (Instr.sliceBound (.int k l) h.toNat cd)=some l.toNat:=fun k cd=>gj k l h.toNat cd (by omega)
 have e3:∀ (k:IntKind) (cd:BoundsCode),h=n->prun P (Instr.sliceBound (.int k l) n cd)=some l.toNat:=fun k cd e=>gj k l n cd (by omega)
 rcases hl with ⟨rfl,rfl⟩ | ⟨kl,rfl⟩ <;> rcases hh with ⟨rfl,rfl⟩ | ⟨kh,rfl⟩ <;> rcases hm with ⟨rfl,rfl⟩ | ⟨km,rfl⟩ <;>
  first | (simp at hx; done) | simp [Instr.sliceBounds,prun_bind,HT,prun_pure,e0,e1,e1',e2,e3]
theorem EW {t:TypeId} {x:Operand} {lo hi mx:Option Operand} (ho:o.op=.slice t x lo hi mx) (h:(MK P H F t x lo hi mx k).wp P K V V0 Ns) :
  Stt P K V V0 Ns (aJ P H (aK F) o) k:=by
 unfold MK at h;split at h
 ·rename_i s hx hu
  split at h
  ·rename_i l hh hl hhi
   obtain⟨hb,hk⟩:=h;obtain⟨a1,a2⟩:=nj hl;obtain⟨b1,b2⟩:=nj hhi;refine⟨.v _,w8 ho (bM hx) a1 b1 (fun y hy=>by cases hy) ?_,hk⟩
   have a3:(lo.map (cD H (aK F))=none/\l=0)\/∃ k,lo.map (cD H (aK F))=some (.int k l):=by
    rcases a2 with ⟨e,e'⟩ | e
    ·exact .inl ⟨by rw [e]; rfl,e'⟩
    exact .inr e
   have b3:(hi.map (cD H (aK F))=none/\hh=s.size)\/∃ k,hi.map (cD H (aK F))=some (.int k hh):=by
    rcases b2 with ⟨e,e'⟩ | e
    ·exact .inl ⟨by rw [e]; rfl,e'⟩
    exact .inr e
   have:=yh (P:=P) a3 b3 hb;have hf:¬ (false=true):=by simp
   simp only [Instr.sliceAt,prun_bind,bT hu,Option.bind_some,Instr.slice,Option.map_none,Option.isSome_none,if_neg hf,this,prun_pure]
  exact h.elim
 ·rename_i a n c e hx hu
  split at h
  ·rename_i sz l hh m gv hl hhi hmx
   split at h
   ·exact h.elim
   rename_i bR;obtain⟨hb,hk⟩:=h;obtain⟨a1,a2⟩:=nj hl;obtain⟨b1,b2⟩:=nj hhi;obtain⟨c1,c2⟩:=nj hmx;refine⟨.v _,w8 ho (bM hx) a1 b1 c1 ?_,hk⟩
   have a3:(lo.map (cD H (aK F))=none/\l=0)\/∃ k,lo.map (cD H (aK F))=some (.int k l):=by
    rcases a2 with ⟨e,e'⟩ | e
    ·exact .inl ⟨by rw [e]; rfl,e'⟩
    exact .inr e
   have b3:(hi.map (cD H (aK F))=none/\hh=n)\/∃ k,hi.map (cD H (aK F))=some (.int k hh):=by
    rcases b2 with ⟨e,e'⟩ | e
    ·exact .inl ⟨by rw [e]; rfl,e'⟩
    exact .inr e
   have c3:(mx.map (cD H (aK F))=none/\m=c)\/∃ k,mx.map (cD H (aK F))=some (.int k m):=by
    rcases c2 with ⟨e,e'⟩ | e
    ·exact .inl ⟨by rw [e]; rfl,e'⟩
    exact .inr e
   have hx2:¬ (hi.map (cD H (aK F))=none/\mx.map (cD H (aK F))≠none):=by
    rintro⟨h1,h2⟩;cases hi with
    | some _=>simp at h1
    | none=>cases mx with
     | none=>simp at h2
     | some y=>exact bR y rfl rfl
   have:=zk (P:=P) a3 b3 c3 hx2 hb;simp only [Instr.sliceAt,prun_bind,bT hu,Option.bind_some,Instr.slice,this,prun_pure,py gv]
   rfl
  exact h.elim
 exact h.elim
theorem MO {t:TypeId}:∀ {s n:SV},(idxT P H t k s n).wp P K V V0 Ns->Stt P K V V0 Ns (idx P H t (eT s) (eT n)) k:=by
 intro s n h;unfold idxT at h;split at h
 ·rename_i j kd n'
  split at h
  ·rename_i len xs u sz hj he
   exact⟨.p j _,by simp [idx,eT,hj,he,h.1],h.2⟩
  exact h.elim
 ·rename_i a len c kd n'
  split at h
  ·rename_i sz he
   obtain⟨ad,rfl,h1,h2,h3⟩:=h;exact⟨.v _,by simp [idx,eT,he,h1,h2],h3⟩
  exact h.elim
 ·rename_i a kd n'
  split at h
  ·rename_i len e hu
   split at h
   ·rename_i sz hs
    exact⟨.v _,by simp [idx,eT,hu,hs,h.1],h.2⟩
   exact h.elim
  exact h.elim
 exact h.elim
theorem MP (l:List Value):iB (l.map .v)=some l:=by
 induction l with
 | nil=>rfl
 | cons x r ih=>simp [iB,ih]
theorem Rb {t:TypeId} {sh:dx} (h:Xu P t=some sh) (y:sh.ty):join P t ((sh.cells y).map .v)=some (.v (sh.val y)):=by
 unfold Xu at h;unfold join;split at h
 ·rename_i ha
  simp at h; subst h
  simp only [ha,dx.cells,MP,dx.val]
 ·rename_i ha
  simp at h; subst h
  simp [ha,dx.cells,dx.val]
 cases h
theorem od:∀ (l:List Sc) (y:aH l),fA (aH.aD l y)=true
 | [],_=>rfl
 | q :: r,y=>by
  have ih:=od r y.2;have h:fA [q.val y.1]=true:=by
   cases q with
   | x=>exact ql y.1.2
   | e =>
    obtain⟨y1,y2⟩:=y;cases y1 <;> rfl
   | _=>rfl
  unfold fA at ih h ⊢;simp only [List.all_cons,List.all_nil,Bool.and_true] at h;rw [aH.aD,List.all_cons,ih,h]; rfl
theorem HU (s:dx) (y:s.ty):fA (s.cells y)=true:=by
 cases s with
 | o q =>
  cases q with
  | x=>exact ql y.2
  | e=>cases y <;> rfl
  | _=>rfl
 | g l=>exact od l y
theorem HV {t:TypeId} {x:Operand} {s:SV} (hx:kf H F x=some s) (ho:o.op=.load t x) (h:(loadT P dr H t k s).wp P K V V0 Ns) :
  Stt P K V V0 Ns (bP P (if dr then V0 else V) H (aK F) o) k:=by
 unfold loadT at h;have mK:=bM hx;split at h
 ·rename_i i off
  split at h
  ·rename_i n hn
   split at h
   ·rename_i cs u hi
    split at h
    ·rename_i l hl
     unfold viaB at h;split at h
     ·exact h.elim
     ·rename_i s' bR hs
      refine⟨s',?_,h⟩
      have e:eT s'=s':=by cases s' <;> first | rfl | exact(bR _ rfl).elim
      simp only [bP,ho,mK,eT,hn,hl,hs]
     exact h.elim
    exact h.elim
   ·rename_i n' xs u hi
    split at h
    ·rename_i sh zl
     split at h
     ·rename_i hlen
      obtain⟨y,hy,hk⟩:=h;refine⟨.v _,?_,hk⟩
      have hb:gF H i off n=some ((sh.cells y).map .v):=by simp [gF,hi,hlen,hy]
      simp only [bP,ho,mK,eT,hn,hb,Rb zl]
     exact h.elim
    exact h.elim
   exact h.elim
  exact h.elim
 ·rename_i a
  split at h
  ·rename_i n sh hn zl
   split at h
   ·rename_i hlen
    obtain⟨y,hy,hk⟩:=h;refine⟨.v _,?_,hk⟩
    simp only [bP,ho,mK,eT,hn,hlen,hy,Rb zl,HU]
   exact h.elim
  exact h.elim
 exact h.elim
theorem SK {e:TypeId} {sh:dx} {sz:Nat} {cs:Array Value} {off:Nat} {y:sh.ty} (zl:Xu P e=some sh) (gv:bo P e=some sz) (hlen:sh.len=sz) (hy:fj cs.toList off sh.len=some (sh.cells y)) :
  prun P (part e cs off)=some (sh.val y):=by
 unfold Xu Sl at zl;have hc:=jq hy;subst hlen;split at zl
 ·rename_i ha
  simp at zl; subst zl
  have hg:prun P (isAgg e)=some true:=by
   split at ha <;> simp_all [isAgg,prun_bind,bT,prun_pure]
  simp only [part,prun_bind,hg,Option.bind_some,if_true,py gv,prun_pure,dx.val];have:(aH.aD _ y).toArray=cs.extract off (off+dx.len (.g (Q6 P 8 e))):=by
   apply Array.ext'
   unfold fj at hy;split at hy
   ·simp only [Option.some.injEq,dx.cells] at hy
    simp only [Array.toList_extract,List.extract_eq_take_drop];rw [<- hy]
    congr 1
    omega
   cases hy
  rw [this]
 ·rename_i ha
  simp at zl; subst zl
  have hg:prun P (isAgg e)=some false:=by
   split at ha <;> simp_all [isAgg,prun_bind,bT,prun_pure]
  have h0:=hc.2 0 _ (by simp [dx.cells]; rfl)
  simp only [Nat.add_zero,Array.getElem?_toList] at h0;simp only [part,prun_bind,hg,Option.bind_some,Bool.false_eq_true,if_false,h0,prun_pure,dx.val]
 cases zl
theorem EX {t:TypeId} {x i:Operand} (ho:o.op=.index t x i) (h:(ML P H F t x i k).wp P K V V0 Ns) :
  Stt P K V V0 Ns (aJ P H (aK F) o) k:=by
 unfold ML at h;split at h
 ·rename_i s kd n hx hi hu
  obtain⟨⟨h1,h2⟩,hk⟩:=h;refine⟨.v _,?_,hk⟩
  have mK:=bM hx;have qp:=bM hi;have hn:n.toNat<s.size:=by omega
  simp only [eT] at mK qp;unfold aJ;have hp:bA H (aK F) o.op.operands.toList=true:=by simp [ho,Op.operands,bA,mK,qp]
  rw [hp];have hg:s[n.toNat]?=some s[n.toNat]:=by simp [hn]
  have B7:prun P (execOp (cD H (aK F)) o)=some (.value (.int .u8 (de s n.toNat))):=by
   simp only [execOp,ho,prun_bind,lA mK,lA qp,Instr.index,asIntOf,prun_pure,Option.bind_some,bT hu,h1,if_true,hg];have:de s n.toNat=(s[n.toNat].toNat:Int):=by
    have hl:n.toNat<s.data.toList.length:=by simpa using hn
    have BZ:n.toNat<s.data.size:=by simpa using hl
    have e1:s.data[n.toNat]?=some s.data[n.toNat]:=Array.getElem?_eq_getElem BZ;simp only [de,List.getD_eq_getElem?_getD,Array.getElem?_toList,e1,Option.getD_some]
    rfl
   rw [this]
  simp only [B7]
  rfl
 ·rename_i cs kd n len e hx hi hu
  split at h
  ·rename_i sh sz zl gv
   split at h
   ·rename_i hlen
    obtain⟨⟨h1,h2⟩,y,hy,hk⟩:=h;refine⟨.v _,?_,hk⟩
    have mK:=bM hx;have qp:=bM hi;simp only [eT] at mK qp;unfold aJ;have hp:bA H (aK F) o.op.operands.toList=true:=by simp [ho,Op.operands,bA,mK,qp]
    rw [hp];have B7:prun P (execOp (cD H (aK F)) o)=some (.value (sh.val y)):=by
     simp only [execOp,ho,prun_bind,lA mK,lA qp,Instr.index,asIntOf,prun_pure,Option.bind_some,bT hu,py gv,h1,h2,and_self,if_true,SK zl gv hlen hy]
    simp only [B7]
    rfl
   exact h.elim
  exact h.elim
 exact h.elim
theorem pz {c:Bool} {x y:T} (h:(T.br c x y).wp P K V V0 Ns):(if c then x else y).wp P K V V0 Ns:=by
 cases c
 ·exact h.2 rfl
 exact h.1 rfl
theorem SL {l:List Value} (h:bytesOf l≠none):bytesOf l=some (hJ l):=by
 unfold hJ;cases hb:bytesOf l with
 | none=>exact(h hb).elim
 | some s=>rfl
theorem SM {V:aa} {ad:Addr} {k:Nat} {ys:List Value} (h:aQ V ad (0*k)=some ys):ys=[]:=by
 unfold aQ at h;split at h
 ·obtain⟨h1,_⟩:=jq h
  rw [Nat.zero_mul] at h1;exact List.eq_nil_of_length_eq_zero h1
 cases h
theorem SN {src dst:TypeId} {x:Operand} {a:Option Addr} {n c:Nat} (ho:o.op=.convert src dst x) (hb:Sm P src dst=true) (hx:kf H F x=some (.v (.slice a n c)))
  (h:(T.rd ⟨a,n,c⟩ 1 fun ys=>.rq (bytesOf ys≠none) (k (.v (.string (hJ ys))))).wp P K V V0 Ns):Stt P K V V0 Ns (bP P V H (aK F) o) k:=by
 obtain⟨ys,dZ,_,bR,hk⟩:=h;have mK:=bM hx;simp only [eT] at mK;refine⟨.v (.string (hJ ys)),?_,hk⟩
 cases a with
 | none =>
  have hys':ys=[]:=by
   rcases dZ with ⟨_,_,h⟩ | ⟨ad,h,_⟩
   ·exact h
   cases h
  subst hys';simp only [bP,ho,hb,mK];unfold aJ;have hp:bA H (aK F) o.op.operands.toList=true:=by simp [ho,Op.operands,bA,mK]
  rw [hp];have h2:prun P (execOp (cD H (aK F)) o)=some (.value (.string .empty)):=by
   unfold Sm at hb;split at hb
   ·rename_i e BW Hl
    split at hb
    ·rename_i hs3
     simp only [execOp,ho,prun_bind,lA mK,convert,bT BW,bT Hl,bT hs3,Option.bind_some,Conv.bytesToString,prun_pure]
    cases hb
   cases hb
  simp only [h2]
  rfl
 | some ad =>
  by_cases hn:n=0
  ·have hys':ys=[]:=by
    rcases dZ with ⟨_,_,h⟩ | ⟨ad',h,hl⟩
    ·exact h
    simp only at h hl;rw [hn] at hl;have:=(SM hl);exact this
   subst hys';simp only [bP,ho,hb,mK,if_pos hn,eT]
   rfl
  rcases dZ with ⟨h,_,_⟩ | ⟨ad',h,hl⟩
  ·exact(hn h).elim
  simp only [Option.some.injEq] at h;subst h;simp only [Nat.mul_one] at hl;simp only [bP,ho,hb,mK,if_neg hn,hl,SL bR,eT]
theorem SO (_:ph o.op=false) (h:(stT P dr H F o k).wp P K V V0 Ns):Stt P K V V0 Ns (bP P (if dr then V0 else V) H (aK F) o) k:=by
 unfold stT at h;split at h
 ·rename_i x ho; simp only [bP,ho]; exact jr h
 ·rename_i x ho; simp only [bP,ho]; exact jr h
 ·rename_i c a b ho
  simp only [bP,ho];split at h
  ·rename_i hc; rw [bM hc]; exact jr h
  ·rename_i hc; rw [bM hc]; exact jr h
  ·rename_i c' hc
   rw [bM hc];have h':=pz h;cases c'
   ·exact jr h'
   exact jr h'
  exact h.elim
 ·rename_i t x i ho
  simp only [bP,ho];split at h
  ·rename_i j off d n hx hf
   rw [bM hx,hf];split at h
   ·rename_i hl
    exact⟨.p j (off+d),by simp [eT,hl],h⟩
   exact h.elim
  ·rename_i a d n hx hf
   rw [bM hx,hf];exact⟨.v _,rfl,h⟩
  exact h.elim
 ·rename_i t x i ho
  simp only [bP,ho];split at h
  ·rename_i s n hs hn
   rw [bM hs,bM hn];exact MO h
  exact h.elim
 ·rename_i t x ho
  split at h
  ·rename_i s hs; exact HV hs ho h
  exact h.elim
 ·rename_i op t x y p ho
  have:bP P (if dr then V0 else V) H (aK F) o=aJ P H (aK F) o:=by simp only [bP,ho]
  rw [this]; exact MN ho h
 ·rename_i op t x ho
  have e:bP P (if dr then V0 else V) H (aK F) o=aJ P H (aK F) o:=by simp only [bP,ho]
  rw [e];split at h
  ·rename_i b hx
   refine⟨.k (!b),?_,h⟩
   unfold aJ;have mK:=bM hx;simp only [eT] at mK;have hp:bA H (aK F) o.op.operands.toList=true:=by simp [ho,Op.operands,bA,mK]
   have h2:prun P (execOp (cD H (aK F)) o)=some (.value (.bool (!b))):=by
    simp only [execOp,ho,prun_bind,lA mK]
    rfl
   rw [hp];simp only [h2,eT]
  exact gk h
 ·rename_i t x lo hi mx ho
  have e:bP P (if dr then V0 else V) H (aK F) o=aJ P H (aK F) o:=by simp only [bP,ho]
  rw [e]; exact EW ho h
 ·rename_i t x i ho
  have e:bP P (if dr then V0 else V) H (aK F) o=aJ P H (aK F) o:=by simp only [bP,ho]
  rw [e]; exact EX ho h
 ·rename_i c ho
  simp only [bP,ho];split at h
  ·rename_i x t hl ha ht
   rw [hl,ha,ht];simp only;split at h
   ·rename_i j e hx hu
    rw [bM hx,hu];split at h
    ·rename_i n xs u hj
     exact⟨.v _,by simp [eT,hj],h⟩
    exact h.elim
   ·rename_i v hx
    rw [bM hx];simp only [eT];exact gk h
   exact h.elim
  rename_i bR;split
  ·rename_i x t hl ha ht; exact(bR x t hl ha ht).elim
  exact gk h
 ·rename_i src dst x ho
  split at h
  ·rename_i a n c hb hx
   cases dr
   ·exact SN ho hb hx h
   exact h.elim
  rename_i bR;have e:bP P (if dr then V0 else V) H (aK F) o=aJ P H (aK F) o:=by
   simp only [bP,ho];split
   ·rename_i ad n c hb hx
    rw [EU] at hx
    exfalso
    split at hx
    ·rename_i s hs
     cases s with
     | v x=>simp [eT] at hx; subst hx; exact bR _ _ _ hb hs
     | k b=>simp [eT] at hx
     | p i off=>simp [eT] at hx
     | o i=>simp [eT] at hx
    cases hx
   rfl
  rw [e]; exact gk h
 rename_i h1 h2 h3 h4 h5 h6 h7 h8 h9 yg SC qK;have e:bP P (if dr then V0 else V) H (aK F) o=aJ P H (aK F) o:=by
  unfold bP;split <;> first | rfl | (exfalso; simp_all; done)
 rw [e]; exact gk h
variable {P:Program} {N:Nat} {w0:World} {Vs V V0:aa} {ρ:Nat->Nat × Nat} {a:Act} {w:World}
 {K:aa->List Value->Prop} {Ns:List (List LV->aa->Prop)} {W:List Nat} {st Hn HW:St}
structure bj (W:List Nat) (st st':St):Prop where
 slot:∀ t,W.contains t=false->aK st'.F t=aK st.F t
 wf:st.D.length=st.H.length->st'.D.length=st'.H.length
 len:st.H.length<=st'.H.length
 cnt:st.c<=st'.c
 box:∀ (i d:Nat),i<st.H.length->st'.D[i]?=some d->d<st.c->st'.H[i]?=st.H[i]?/\st.D[i]?=some d
 kind:∀ (i:Nat),i<st.H.length->st'.D[i]?=none->st.D[i]?=none
theorem bj.refl:bj W st st:=⟨fun _ _=>rfl,id,Nat.le_refl _,Nat.le_refl _,fun _ _ _ h _=>⟨rfl,h⟩,fun _ _ h=>h⟩
theorem bj.trans (h:bj W st Hn) (k:bj W Hn HW):bj W st HW :=
 ⟨fun t ht=>(k.slot t ht).trans (h.slot t ht),fun e=>k.wf (h.wf e),Nat.le_trans h.len k.len,Nat.le_trans h.cnt k.cnt,
  fun i d hi hd hc=>by
   obtain⟨h1,h2⟩:=k.box i d (Nat.lt_of_lt_of_le hi h.len) hd (Nat.lt_of_lt_of_le hc h.cnt);obtain⟨h3,h4⟩:=h.box i d hi h2 hc;exact⟨h1.trans h3,h4⟩,
  fun i hi hn=>h.kind i hi (k.kind i (Nat.lt_of_lt_of_le hi h.len) hn)⟩
theorem zm (F:Fm) (d:Nat) (s:SV):aK (nX F d s)=nX (aK F) d (eT s):=by
 funext t
 by_cases e:t=d <;> simp [aK,nX,e]
theorem cE (F:Fm) (d:Option Tmp) (s:SV):aK (au F d s)=au (aK F) d (eT s):=by
 cases d with
 | none=>rfl
 | some d=>exact zm F d s
theorem bj.nX {d:Nat} {s:SV} (hd:W.contains d=true):bj W st { st with F:=Sx.nX st.F d s }:=by
 refine⟨fun t ht=>?_,id,Nat.le_refl _,Nat.le_refl _,fun _ _ _ h _=>⟨rfl,h⟩,fun _ _ h=>h⟩
 have:t≠d:=by rintro rfl; rw [hd] at ht; cases ht
 simp only [aK,Sx.nX,if_neg this]
theorem bj.au {d:Option Tmp} {s:SV} (hd:∀ x,d=some x->W.contains x=true):bj W st { st with F:=Sx.au st.F d s }:=by
 cases d with
 | none=>exact bj.refl
 | some d=>exact bj.nX (hd d rfl)
theorem bj.set {i:Nat} {b:aT}:bj W st { st with H:=st.H.set i b,D:=st.D.set i st.c }:=by
 refine⟨fun _ _=>rfl,fun h=>by simpa using h,by simp,Nat.le_refl _,fun j d hj hd hc=>?_,fun j hj hn=>?_⟩
 ·simp only [List.getElem?_set] at hd ⊢
  by_cases e:i=j
  ·subst e
   simp only [if_true] at hd;split at hd
   ·simp at hd; omega
   cases hd
  simp only [e,if_false] at hd ⊢;exact⟨trivial,hd⟩
 simpa using hn
theorem bj.app {b:aT}:bj W st { st with H:=st.H++[b],D:=st.D++[st.c] }:=by
 refine⟨fun _ _=>rfl,fun h=>by simpa using h,by simp,Nat.le_refl _,fun j d hj hd hc=>?_,fun j hj hn=>?_⟩
 ·have hH:(st.H++[b])[j]?=st.H[j]?:=List.getElem?_append_left hj
  refine⟨hH,?_⟩
  simp only [List.getElem?_append] at hd;split at hd
  ·exact hd
  rename_i cg;have:(List.cons st.c [])[j-st.D.length]?=some d:=hd;cases hq:j-st.D.length with
  | zero=>rw [hq] at this; simp at this; omega
  | succ m=>rw [hq] at this; simp at this
 simp only [List.getElem?_append] at hn;split at hn
 ·exact hn
 rename_i cg; exact List.getElem?_eq_none (by omega)
theorem iI {k:St->T}:∀ (l:List SV) {st:St} {V:aa},Sat P N w0.heap.size (aK st.F) st.H V ρ a w->Fr Vs V w0 w->(HO l st k).wp P K V V0 Ns ->
  ∃ st' V',bj W st st'/\st'.F=st.F/\st'.c=st.c/\Sat P N w0.heap.size (aK st'.F) st'.H V' ρ a w/\Fr Vs V' w0 w/\(k st').wp P K V' V0 Ns
 | [],st,V,hS,hF,h=>⟨st,V,bj.refl,rfl,rfl,hS,hF,h⟩
 | .o i :: r,st,V,hS,hF,h=>by
  unfold HO at h;split at h
  ·rename_i n xs t hi
   obtain⟨b,cap,spare,hb,hn,oV,Cb,sL⟩:=hS.LZ hF hi;obtain⟨st',V',h1,h2,B7,h3,h4,h5⟩:=iI r (st:={ st with H:=st.H.set i (.f (.slice (some ⟨b,0,none⟩) n cap)),D:=st.D.set i st.c }) Cb sL (h b cap spare hb hn oV);exact⟨st',V',bj.set.trans h1,h2,B7,h3,h4,h5⟩
  ·exact iI r hS hF h
  exact h.elim
 | .p i off :: r,st,V,hS,hF,h=>by
  unfold HO at h;split at h
  ·rename_i cs t hi
   split at h
   ·rename_i l hl
    obtain⟨b,hb,Cb,sL⟩:=hS.L9 hF hi hl;obtain⟨st',V',h1,h2,B7,h3,h4,h5⟩:=iI r (st:={ st with H:=st.H.set i (.e b),D:=st.D.set i st.c }) Cb sL (h b hb);exact⟨st',V',bj.set.trans h1,h2,B7,h3,h4,h5⟩
   exact h.elim
  ·exact iI r hS hF h
  exact h.elim
 | .v x :: r,st,V,hS,hF,h=>iI r hS hF h
 | .k x :: r,st,V,hS,hF,h=>iI r hS hF h
section
variable {ops:Array Oper} {Kf:Kt} {L:List Nat}
theorem zo {k:St->T}:∀ (l:List SV) {st:St} {V:aa},(HO l st k).wp P K V V0 Ns ->
  (∀ st' V',bj W st st'->st'.F=st.F->st'.c=st.c->(k st').wp P K V' V0 Ns->R P ops false V0 Kf L (aK st'.F) st'.H V')->R P ops false V0 Kf L (aK st.F) st.H V
 | [],st,V,h,hk=>hk st V bj.refl rfl rfl h
 | .o i :: r,st,V,h,hk=>by
  unfold HO at h;split at h
  ·rename_i n xs t hi
   refine R.LZ rfl hi fun b cap spare hb hn oV=>?_
   exact zo r (st:={ st with H:=st.H.set i (.f (.slice (some ⟨b,0,none⟩) n cap)),D:=st.D.set i st.c }) (h b cap spare hb hn oV)
    fun st' V' h1 h2 h3 h4=>hk st' V' (bj.set.trans h1) h2 h3 h4
  ·exact zo r h hk
  exact h.elim
 | .p i off :: r,st,V,h,hk=>by
  unfold HO at h;split at h
  ·rename_i cs t hi
   split at h
   ·rename_i l hl
    refine R.L9 rfl hi hl fun b hb=>?_
    exact zo r (st:={ st with H:=st.H.set i (.e b),D:=st.D.set i st.c }) (h b hb)
     fun st' V' h1 h2 h3 h4=>hk st' V' (bj.set.trans h1) h2 h3 h4
   exact h.elim
  ·exact zo r h hk
  exact h.elim
 | .v x :: r,st,V,h,hk=>zo r h hk
 | .k x :: r,st,V,h,hk=>zo r h hk
variable {dr:Bool}
theorem preT_R {k:St->T} {l:List SV} {st:St} {V:aa} (h:(zj dr l st k).wp P K V V0 Ns)
  (hk:∀ st' V',bj W st st'->st'.F=st.F->st'.c=st.c->(k st').wp P K V' V0 Ns->R P ops dr V0 Kf L (aK st'.F) st'.H V'):R P ops dr V0 Kf L (aK st.F) st.H V:=by
 unfold zj at h;cases dr with
 | true=>exact hk st V bj.refl rfl rfl h
 | false=>exact zo l h hk
theorem jW {H:List aT} {F:Fm}:∀ {l:List Operand} {l':List Value},zh H F l=some l'->eJ H (aK F) l=some l'
 | [],l',h=>h
 | x :: r,l',h=>by
  simp only [zh] at h;simp only [eJ];split at h
  ·rename_i y l'' hx hr
   rw [bM hx,jW hr]; simpa [eT] using h
  ·rename_i b l'' hx hr
   rw [bM hx,jW hr]; simpa [eT] using h
  cases h
theorem mn {H:List aT} {F:Fm}:∀ {l:List (Nat × Operand)} {l':List (Nat × Value)},zi H F l=some l'->dR H (aK F) l=some l'
 | [],l',h=>h
 | (i,x) :: r,l',h=>by
  simp only [zi] at h;simp only [dR];split at h
  ·rename_i y l'' hx hr
   rw [bM hx,mn hr]; simpa [eT] using h
  ·rename_i b l'' hx hr
   rw [bM hx,mn hr]; simpa [eT] using h
  cases h
theorem Rc {H:List aT} {F:Fm} {x:Operand} {s:SV} {y:Value} (h:kf H F x=some s) (hy:MJ s=some y):ev H (aK F) x=some (.v y):=by
 rw [bM h,XC hy]
end
variable {P:Program} {N:Nat} {w0:World} {Vs V V0:aa}
 {K:aa->List Value->Prop} {Ns:List (List LV->aa->Prop)} {W:List Nat} {st Hn HW:St}
 {ops:Array Oper} {Kf:Kt} {r:List Nat} {dr:Bool} {i:Nat} {o:Oper} {k:St->T}
def nk (P:Program) (K:aa->List Value->Prop) (V0:aa) (Ns:List (List LV->aa->Prop)) (ops:Array Oper) (dr:Bool) (Kf:Kt) (W:List Nat) (st:St) (r:List Nat) (k:St->T):Prop :=
 ∀ st' V',bj W st st'->st'.c=st.c->(k st').wp P K V' V0 Ns->R P ops dr V0 Kf r (aK st'.F) st'.H V'
theorem iJ (hX:dr=true->kP ops o=false) (hi:ops[i]?=some o) (hw:want ops (aK st.F) o.guard=some true) (hW:∀ d,o.dst=some d->W.contains d=true)
  (bY:ph o.op=false) (h:(stT P dr st.H st.F o fun s=>k { st with F:=au st.F o.dst s }).wp P K V V0 Ns) (hk:nk P K V0 Ns ops dr Kf W st r k) :
  R P ops dr V0 Kf (i :: r) (aK st.F) st.H V:=by
 obtain⟨s,hs,h'⟩:=SO bY h;refine R.bP hi hw bY hX hs ?_
 rw [<- cE];exact hk { st with F:=au st.F o.dst s } V (bj.au hW) rfl h'
theorem nk.pre {l:List SV} {f:St->T} (h:(zj dr l st f).wp P K V V0 Ns) (hk:nk P K V0 Ns ops dr Kf W st r k)
  (hf:∀ st' V',st'.F=st.F->(f st').wp P K V' V0 Ns->nk P K V0 Ns ops dr Kf W st' r k->R P ops dr V0 Kf (i :: r) (aK st'.F) st'.H V') :
  R P ops dr V0 Kf (i :: r) (aK st.F) st.H V :=
 preT_R (W:=W) h fun st' V' h1 h2 h3 h4=>hf st' V' h2 h4 fun HW V2 g1 g2 g3=>hk HW V2 (h1.trans g1) (g2.trans h3) g3
theorem mq {s:SV} {b:aT} (hW:∀ d,o.dst=some d->W.contains d=true):bj W st (ob st o.dst s b) :=
 (bj.app (b:=b)).trans (bj.au (st:={ st with H:=st.H++[b],D:=st.D++[st.c] }) hW)
theorem XD {t:TypeId} {ad x:Operand} (hi:ops[i]?=some o) (hw:want ops (aK st.F) o.guard=some true) (hW:∀ d,o.dst=some d->W.contains d=true)
  (ho:o.op=.store t ad x) (h:(storeT P o t ad x st k).wp P K V V0 Ns) (hk:nk P K V0 Ns ops dr Kf W st r k):R P ops dr V0 Kf (i :: r) (aK st.F) st.H V:=by
 unfold storeT at h;simp only at h;have hu:aK (au st.F o.dst (.v undef))=au (aK st.F) o.dst (.v undef):=cE _ _ _;split at h
 ·rename_i j off s ha hs
  split at h
  ·rename_i cs u hj
   split at h
   ·rename_i l hl
    split at h
    ·rename_i hc
     refine R.B6 hi hw (.stC ho (bM ha) hj (bM hs) hl hc.1 hc.2) (fun _=>by simp [kt,ho]) ?_
     rw [<- hu];exact hk _ V (bj.trans bj.set (bj.au (st:={ st with H:=st.H.set j _,D:=st.D.set j st.c }) hW)) rfl h
    exact h.elim
   exact h.elim
  ·rename_i n xs u hj
   split at h
   ·rename_i y hy
    split at h
    ·rename_i hc
     obtain⟨h1,h2⟩:=h;refine R.B6 hi hw (.stA ho (bM ha) hj (Rc hs hy) hc.1 hc.2 h1) (fun _=>by simp [kt,ho]) ?_
     rw [<- hu];exact hk _ V (bj.trans bj.set (bj.au (st:={ st with H:=st.H.set j _,D:=st.D.set j st.c }) hW)) rfl h2
    exact h.elim
   exact h.elim
  exact h.elim
 ·rename_i ad' s ha hs
  split at h
  ·rename_i y hy
   split at h
   ·rename_i hc
    obtain⟨cs,u,h1,h2,h3,h4⟩:=h;have h5:y.cells.size=y.cells.toList.length:=by simp
    refine R.B6 hi hw (.stV ho (bM ha) h1 h2 (Rc hs hy) hc.1 hc.2 (by rw [h5]; exact h3)) (fun _=>by simp [kt,ho]) ?_
    rw [<- hu];exact hk _ _ (bj.au hW) rfl h4
   exact h.elim
  exact h.elim
 exact h.elim
theorem XE {t:TypeId} {n:Nat} {parts:Array (Nat × Operand)} (hX:dr=true->kP ops o=false) (hi:ops[i]?=some o) (hw:want ops (aK st.F) o.guard=some true) (hW:∀ d,o.dst=some d->W.contains d=true)
  (ho:o.op=.buildSlice t n parts) (h:(MM P o t n parts.toList st k).wp P K V V0 Ns) (hk:nk P K V0 Ns ops dr Kf W st r k):R P ops dr V0 Kf (i :: r) (aK st.F) st.H V:=by
 unfold MM at h;split at h
 ·rename_i e aD hu hv
  split at h
  ·rename_i info jj
   split at h
   ·rename_i z hz
    split at h
    ·rename_i hc
     split at h
     ·rename_i cells zq
      split at h
      ·rename_i gv
       refine R.mk hi hw hX (.bs ho hu jj rfl hc.1 hc.2 (mn hv) (by rw [hz]; exact zq) gv (by rw [hz]; rfl)) ?_
       have:=hk _ V (mq (o:=o) (s:=.o st.H.length) (b:=.a n cells.toList e) hW) rfl h;simp only [ob,cE,eT] at this;exact this
      exact h.elim
     exact h.elim
    exact h.elim
   exact h.elim
  exact h.elim
 exact h.elim
theorem makeT_R {t:TypeId} {l c:Operand} (hX:dr=true->kP ops o=false) (hi:ops[i]?=some o) (hw:want ops (aK st.F) o.guard=some true) (hW:∀ d,o.dst=some d->W.contains d=true)
  (ho:o.op=.makeSlice t l c) (h:(Xw P o t l c st k).wp P K V V0 Ns) (hk:nk P K V0 Ns ops dr Kf W st r k):R P ops dr V0 Kf (i :: r) (aK st.F) st.H V:=by
 unfold Xw at h;split at h
 ·rename_i e k1 L1 k2 C1 hu hl hc
  split at h
  ·rename_i info jj
   split at h
   ·rename_i z hz
    obtain⟨⟨h1,h2,h3,h4⟩,h5⟩:=h;refine R.mk hi hw hX (.mk ho hu jj hz (bM hl) (bM hc) h1 h2 h3 h4) ?_
    have:=hk _ V (mq (o:=o) (s:=.o st.H.length) (b:=.a L1.toNat ((madeCells z.cells (L1.toNat*info.size)).toList) e) hW) rfl h5;simp only [ob,cE,eT] at this;exact this
   exact h.elim
  exact h.elim
 exact h.elim
theorem rd_spec {s:ar} {sz:Nat} {kk:List Value->T} {H:List aT} (h:(T.rd s sz kk).wp P K V V0 Ns) :
  ∃ ys,Src H V sz (.v (.slice s.a s.n s.c)) ys s.n/\one ys=true/\(kk ys).wp P K V V0 Ns:=by
 obtain⟨ys,h1,h2,h3⟩:=h;refine⟨ys,?_,h2,h3⟩
 obtain⟨sa,sn,sc⟩:=s;rcases h1 with ⟨a2,a3,a4⟩ | ⟨ad,a1,a2⟩
 ·simp only at a2 a3
  subst a2; subst a4
  cases sa with
  | none=>have:=a3 rfl; subst this; exact .nil
  | some ad=>exact .zero
 simp only at a1 a2;subst a1;exact .known a2 (ql h2)
theorem tk {x:Operand} {sz sz':Nat} {fin:Nat->List Value->T} (gv:sz=sz')
  (h:(match kf st.H st.F x with
   | some (.o j)=>match st.H[j]? with
    | some (.a m ys _)=>T.rq (ys.length=m*sz) (fin m ys)
    | _=>.no
   | some (.v (.slice a m cp))=>.rd ⟨a,m,cp⟩ sz fun ys=>fin m ys
   | _=>.no).wp P K V V0 Ns):∃ sx ys m,kf st.H st.F x=some sx/\Src st.H V sz' (eT sx) ys m/\(fin m ys).wp P K V V0 Ns:=by
 subst gv;split at h
 ·rename_i j2 hx
  split at h
  ·rename_i m ys u2 hj2
   exact⟨.o j2,ys,m,hx,.own hj2 h.1,h.2⟩
  exact h.elim
 ·rename_i ad m cp hx
  obtain⟨ys,g1,g2,g3⟩:=rd_spec (H:=st.H) h;exact⟨.v (.slice ad m cp),ys,m,hx,g1,g3⟩
 exact h.elim
theorem appT_R {c:Call} {nl:Bool} (yq:nl=true->∀ k∈r,∀ ok,ops[k]?=some ok->cn ok=false) (hX:dr=true->kP ops o=false) (hi:ops[i]?=some o) (hw:want ops (aK st.F) o.guard=some true) (hW:∀ d,o.dst=some d->W.contains d=true)
  (ho:o.op=.call c) (hc:c.callee=.builtin .append) (h:(appT P dr nl o c st k).wp P K V V0 Ns) (hk:nk P K V0 Ns ops dr Kf W st r k):R P ops dr V0 Kf (i :: r) (aK st.F) st.H V:=by
 unfold appT at h;split at h
 ·rename_i s x t t' ha ht
  split at h
  ·rename_i htt
   subst htt;split at h
   ·rename_i e hu
    split at h
    ·rename_i sz info jj
     split at h
     ·rename_i z hz
      split at h
      ·rename_i hcond
       obtain⟨nT,wZ,yi⟩:=hcond;simp only at h;split at h
       ·rename_i j hs
        split at h
        ·rename_i n xs u hj
         split at h
         ·rename_i hue
          subst hue;obtain⟨sx,ys,m,hx,eI,⟨g1,g2,g3⟩,g4⟩:=tk yi h;refine R.mk hi hw hX (.ap ho hc ha ht hu jj hz nT wZ (bM hs) hj (bM hx) eI g1 g2 g3) ?_
          have:=hk _ V (((bj.set (i:=j) (b:=.x)).trans (bj.app (b:=.a (n+m) (xs++ys) u))).trans (bj.au (s:=.o st.H.length) hW)) rfl g4;simp only [cE,eT] at this;exact this
         exact h.elim
        exact h.elim
       ·rename_i sa n cp hs
        cases hb:(dr && !(nl && !isCo s)) with
        | true =>
         rw [hb] at h;simp only [Bool.and_eq_true] at hb;obtain⟨rfl,_⟩:=hb;obtain⟨hy,h⟩:=h;rw [hy] at hs;obtain⟨sx,ys,m,hx,eI,h⟩:=tk yi h;have h':=pz h
         by_cases hm:m=0
         ·subst hm
          refine R.mk hi hw hX (.apzero ho hc ha ht hu jj (bM hs) (bM hx) eI (Nat.le_refl _) (fun _=>rfl)) ?_
          have:=hk { st with F:=au st.F o.dst (.v (.slice none 0 0)) } V (bj.au hW) rfl h';simp only [cE,eT] at this;exact this
         rw [decide_eq_false hm] at h';obtain⟨⟨g2,g3⟩,g4⟩:=h';refine R.mk hi hw hX (.apnil ho hc ha ht hu jj hz nT wZ (bM hs) (bM hx) eI (by omega) g2 g3) ?_
         have:=hk _ V ((bj.app (b:=.a m ys e)).trans (bj.au (s:=.o st.H.length) hW)) rfl g4;simp only [cE,eT] at this;exact this
        | false =>
         rw [hb] at h;have hnl':dr=true->nl=true:=by
          rintro rfl;simp at hb;exact hb.1
         obtain⟨sx,ys,m,hx,eI,h1,hncp,Sq,k0,k1,k2⟩:=tk yi h
         by_cases hm:m=0
         ·subst hm
          refine R.mk hi hw hX (.apzero ho hc ha ht hu jj (bM hs) (bM hx) eI hncp Sq) ?_
          have:=hk { st with F:=au st.F o.dst (.v (.slice sa n cp)) } V (bj.au hW) rfl (k0 rfl);simp only [cE,eT] at this;exact this
         by_cases hr:n+m<=cp
         ·obtain⟨b,cs,q1,q2,q3,q4⟩:=k1 (Nat.pos_of_ne_zero hm) hr
          simp only at q1;subst q1;refine R.aki (fun e=>⟨hX e,yq (hnl' e)⟩) hi hw ho hc ha ht hu jj (bM hs) (bM hx) eI h1 (Nat.pos_of_ne_zero hm) hr q2 q3 ?_
          have:=hk { st with F:=au st.F o.dst (.v (.slice (some ⟨b,0,none⟩) (n+m) cp)) } _ (bj.au hW) rfl q4;simp only [cE,eT] at this;exact this
         obtain⟨g2,g3,old,hold,Hw,q⟩:=k2 (Nat.pos_of_ne_zero hm) (Nat.lt_of_not_le hr);refine R.akg hX hi hw ho hc ha ht hu jj hz nT (bM hs) (bM hx) eI (Nat.pos_of_ne_zero hm) (Nat.lt_of_not_le hr) g2 g3 hold Hw fun b cap spare hb dd oV=>?_
         have:=hk { st with F:=au st.F o.dst (.v (.slice (some ⟨b,0,none⟩) (n+m) cap)) } _ (bj.au hW) rfl (q b cap spare hb dd oV);simp only [cE,eT] at this;exact this
       exact h.elim
      exact h.elim
     exact h.elim
    exact h.elim
   exact h.elim
  exact h.elim
 exact h.elim
theorem copyT_R {c:Call} (hX:dr=true->kP ops o=false) (hi:ops[i]?=some o) (hw:want ops (aK st.F) o.guard=some true) (hW:∀ d,o.dst=some d->W.contains d=true)
  (ho:o.op=.call c) (hc:c.callee=.builtin .copy) (h:(Xv P o c st k).wp P K V V0 Ns) (hk:nk P K V0 Ns ops dr Kf W st r k):R P ops dr V0 Kf (i :: r) (aK st.F) st.H V:=by
 unfold Xv at h;split at h
 ·rename_i d x t t' ha ht
  split at h
  ·rename_i e hu
   split at h
   ·rename_i info jj
    split at h
    ·rename_i gv
     simp only at h;split at h
     ·rename_i j hd
      split at h
      ·rename_i n xs u hj
       split at h
       ·rename_i hue
        subst hue;obtain⟨sx,ys,m,hx,eI,g1,g4⟩:=tk rfl h;refine R.mk hi hw hX (.cp ho hc ha ht hu jj gv (bM hd) hj (bM hx) eI g1) ?_
        have:=hk _ V ((bj.set (i:=j) (b:=.a n (aX xs 0 (ys.take (Nat.min m n))) u)).trans (bj.au (s:=.v (.int .i64 (Nat.min m n:Nat))) hW)) rfl g4;simp only [cE,eT] at this;exact this
       exact h.elim
      exact h.elim
     exact h.elim
    exact h.elim
   exact h.elim
  exact h.elim
 exact h.elim
theorem fC {H:List aT} {F:Fm} {x:Operand} {y:Value} (h:Q7 H F x=some y):ev H (aK F) x=some (.v y):=by
 unfold Q7 at h;split at h
 ·rename_i s hs
  exact Rc hs h
 cases h
theorem SP {H:List aT} {F:Fm} {m:sU} (h:mopT H F o=some m):oW H (aK F) o=some m:=by
 unfold mopT at h;split at h
 ·rename_i t ho
  simp only [oW,ho]; exact h
 ·rename_i t x k ok ho
  split at h
  ·rename_i a b ha hb
   simp only [oW,ho,fC ha,fC hb]; exact h
  cases h
 ·rename_i t x k y ho
  split at h
  ·rename_i a b c ha hb hc
   simp only [oW,ho,fC ha,fC hb,fC hc]; exact h
  cases h
 ·rename_i t x k y ho
  split at h
  ·rename_i a b c ha hb hc
   simp only [oW,ho,fC ha,fC hb,fC hc]; exact h
  cases h
 ·rename_i c ho
  split at h
  ·rename_i x k hc ha
   split at h
   ·rename_i a b sW hb
    simp only [oW,ho,hc,ha,fC sW,fC hb]; exact h
   cases h
  cases h
 ·rename_i src dst x ho
  split at h
  ·rename_i a ha
   simp only [oW,ho,fC ha]; exact h
  cases h
 ·rename_i x xt t ok ho
  split at h
  ·rename_i a ha
   simp only [oW,ho,fC ha]; exact h
  cases h
 cases h
theorem rJ {nl:Bool} (yq:nl=true->∀ k∈r,∀ ok,ops[k]?=some ok->cn ok=false) (hi:ops[i]?=some o) (hw:want ops (aK st.F) o.guard=some true) (hW:∀ d,o.dst=some d->W.contains d=true)
  (h:(ER P dr nl o st k).wp P K V V0 Ns) (hk:nk P K V0 Ns ops dr Kf W st r k):R P ops dr V0 Kf (i :: r) (aK st.F) st.H V:=by
 unfold ER at h;refine nk.pre h hk fun st' V' hF h hk=>?_
 rw [<- hF] at hw;have hd:(dr && !(nl && o6 o))=false:=by
  cases hq:(dr && !(nl && o6 o)) with
  | false=>rfl
  | true=>rw [hq] at h; exact h.elim
 rw [hd] at h;simp only at h;split at h
 ·rename_i m hm
  split at h
  ·rename_i sh zl
   refine R.mo _ (fun e=>?_) hi hw (SP hm) h (fun V2 y hq _=>?_)
   ·subst e
    have Re:nl=true/\o6 o=true:=by simpa using hd
    exact⟨Re.2,yq Re.1⟩
   obtain⟨z,rfl,hz⟩:=hq;have:=hk { st' with F:=au st'.F o.dst (.v (sh.val z)) } V2 (bj.au hW) rfl hz;simp only [cE,eT] at this;exact this
  exact h.elim
 exact h.elim
theorem opT_R {nl nc:Bool} (WI:nc=true->HE ops i=true) (yq:nl=true->∀ k∈r,∀ ok,ops[k]?=some ok->cn ok=false) (hX:dr=true->kP ops o=false) (hi:ops[i]?=some o) (hw:want ops (aK st.F) o.guard=some true) (hW:∀ d,o.dst=some d->W.contains d=true)
  (h:(qV P dr nl nc o st k).wp P K V V0 Ns) (hk:nk P K V0 Ns ops dr Kf W st r k):R P ops dr V0 Kf (i :: r) (aK st.F) st.H V:=by
 unfold qV at h;simp only at h;split at h
 ·rename_i c ho
  split at h
  ·rename_i f hc
   refine nk.pre h hk fun st' V' hF h hk=>?_
   rw [<- hF] at hw;split at h
   ·rename_i g fs cs l hf hl
    split at h
    ·rename_i sh zl
     split at h
     ·refine R.call _ hi hw ho ⟨_,_,by simp [pv,hc],bM hf,by simp [WZ,hc]⟩ (jW hl) h (fun V2 y hq hd=>.inl (.inr hq.1)) (fun V2 y hq _=>?_)
      obtain⟨_,z,rfl,hz⟩:=hq;have:=hk { st' with F:=au st'.F o.dst (.v (sh.val z)) } V2 (bj.au hW) rfl (EO (k:=fun z=>k { st' with F:=au st'.F o.dst (.v (sh.val z)) }) hz);simp only [cE,eT] at this;exact this
     refine R.call _ hi hw ho ⟨_,_,by simp [pv,hc],bM hf,by simp [WZ,hc]⟩ (jW hl) h (fun V2 y hq hd=>by
      cases nc with
      | false=>exact .inl (.inl (hq.1 (by rw [hd]; rfl)))
      | true=>exact .inr (WI rfl)) (fun V2 y hq _=>?_)
     obtain⟨_,z,rfl,hz⟩:=hq;have:=hk { st' with F:=au st'.F o.dst (.v (sh.val z)) } V2 (bj.au hW) rfl (EO (k:=fun z=>k { st' with F:=au st'.F o.dst (.v (sh.val z)) }) hz);simp only [cE,eT] at this;exact this
    exact h.elim
   exact h.elim
  ·rename_i r m hc
   refine nk.pre h hk fun st' V' hF h hk=>?_
   rw [<- hF] at hw;split at h
   ·rename_i x l hf hl
    split at h
    ·rename_i g fs cs rz
     split at h
     ·rename_i sh zl
      refine R.call _ hi hw ho ⟨_,_,by simp [pv,hc],bM hf,rz⟩ (jW hl) h (fun V2 y hq hd=>by
      cases nc with
      | false=>exact .inl (.inl (hq.1 (by rw [hd]; rfl)))
      | true=>exact .inr (WI rfl)) (fun V2 y hq _=>?_)
      obtain⟨_,z,rfl,hz⟩:=hq;have:=hk { st' with F:=au st'.F o.dst (.v (sh.val z)) } V2 (bj.au hW) rfl (EO (k:=fun z=>k { st' with F:=au st'.F o.dst (.v (sh.val z)) }) hz);simp only [cE,eT] at this;exact this
     exact h.elim
    exact h.elim
   exact h.elim
  ·rename_i hc; exact appT_R yq hX hi hw hW ho hc h hk
  ·rename_i hc; exact copyT_R hX hi hw hW ho hc h hk
  ·exact iJ hX hi hw hW (by rw [ho]; rfl) h hk
  ·exact iJ hX hi hw hW (by rw [ho]; rfl) h hk
  ·exact iJ hX hi hw hW (by rw [ho]; rfl) h hk
  ·exact rJ yq hi hw hW h hk
  exact h.elim
 ·rename_i t x ho
  refine nk.pre h hk fun st' V' hF h hk=>?_
  rw [<- hF] at hw;split at h
  ·rename_i s hs
   split at h
   ·rename_i y hy
    refine R.B6 hi hw (.box ho (Rc hs hy)) (fun _=>by simp [kt,ho]) ?_
    have:=hk _ V' (mq (o:=o) (s:=.p st'.H.length 0) (b:=.c (y.cells.toList.map .v) t) hW) rfl h;simp only [ob,cE,eT] at this;exact this
   exact h.elim
  exact h.elim
 ·rename_i t ho
  split at h
  ·rename_i z hz
   split at h
   ·split at h
    ·rename_i d hdst
     split at h
     ·rename_i j hj
      refine R.LY rfl hi hw ho hz hdst hj ?_
      have:=hk _ V (bj.trans (bj.set (i:=j) (b:=.c (z.map .v) t)) (bj.au (st:={ st with H:=st.H.set j _,D:=st.D.set j st.c }) (s:=.p j 0) hW)) rfl h;simp only [cE,eT] at this;exact this
     exact h.elim
    exact h.elim
   refine R.B6 hi hw (.alloc ho hz) (fun h=>by cases h) ?_
   have:=hk _ V (mq (o:=o) (s:=.p st.H.length 0) (b:=.c (z.map .v) t) hW) rfl h;simp only [ob,cE,eT] at this;exact this
  exact h.elim
 ·rename_i t ad x ho
  exact XD hi hw hW ho h hk
 ·rename_i t n parts ho
  refine nk.pre h hk fun st' V' hF h hk=>?_
  rw [<- hF] at hw;exact XE hX hi hw hW ho h hk
 ·rename_i t l c ho
  exact makeT_R hX hi hw hW ho h hk
 ·rename_i ho; exact iJ hX hi hw hW (by rw [ho]; rfl) h hk
 ·rename_i ho; exact iJ hX hi hw hW (by rw [ho]; rfl) h hk
 ·rename_i ho; exact iJ hX hi hw hW (by rw [ho]; rfl) h hk
 ·rename_i ho; exact iJ hX hi hw hW (by rw [ho]; rfl) h hk
 ·rename_i ho; exact iJ hX hi hw hW (by rw [ho]; rfl) h hk
 ·rename_i t x ho
  split at h
  ·rename_i s hs
   refine nk.pre h hk fun st' V' hF h hk=>?_
   rw [<- hF] at hw;exact iJ hX hi hw hW (by rw [ho]; rfl) h hk
  exact h.elim
 ·exact h.elim
 ·exact rJ yq hi hw hW h hk
 ·exact rJ yq hi hw hW h hk
 ·exact rJ yq hi hw hW h hk
 ·exact rJ yq hi hw hW h hk
 ·exact rJ yq hi hw hW h hk
 ·rename_i src dst x ho
  split at h
  ·exact rJ yq hi hw hW h hk
  refine nk.pre h hk fun st' V' hF h hk=>?_
  rw [<- hF] at hw;exact iJ hX hi hw hW (by rw [ho]; rfl) h hk
 rename_i bY _ _ _ _ _;refine nk.pre h hk fun st' V' hF h hk=>?_
 rw [<- hF] at hw;refine iJ hX hi hw hW ?_ h hk
 cases ho:o.op <;> first | rfl | (exfalso; simp_all; done)
theorem alT_R (hi:ops[i]?=some o) (hw:want ops (aK st.F) o.guard=some true) (hW:∀ d,o.dst=some d->W.contains d=true) (hX:kP ops o=true)
  (h:(alT P o st k).wp P K V V0 Ns) (hk:nk P K V0 Ns ops true Kf W st r k):R P ops true V0 Kf (i :: r) (aK st.F) st.H V:=by
 unfold alT at h;split at h
 ·rename_i t n parts ho
  split at h
  ·rename_i e hu
   split at h
   ·rename_i info jj
    split at h
    ·rename_i z hz hp
     refine R.al ⟨none,0,[],e,true⟩ rfl hi hw hX ?_ (fun y hy=>by cases hy) (fun _ b cap spare hb hc he sM=>?_)
     ·unfold lX
      rw [ho];simp only [hu,jj,hp,hz];simp
     obtain⟨rfl,rfl⟩:=he.1 rfl;have:=hk { st with F:=au st.F o.dst (.v (.slice (some ⟨b,0,none⟩) 0 0)) } _ (bj.au hW) rfl (h b hb);simp only [cE,eT] at this;exact this
    ·rename_i z n hz
     split at h
     ·rename_i aD hv
      split at h
      ·rename_i hc
       split at h
       ·rename_i cells hf
        split at h
        ·rename_i sJ
         refine R.al ⟨none,n+1,cells.toList,e,true⟩ rfl hi hw hX ?_ (fun y hy=>by cases hy) (fun _ b cap spare hb dd he sM=>?_)
         ·unfold lX
          rw [ho];simp only [hu,jj];rw [if_neg (by simp)];unfold WY;simp only [hz,mn hv];rw [if_pos hc,hf];simp only;rw [if_pos sJ]
         obtain⟨rfl,rfl⟩:=he.1 rfl;have:=hk { st with F:=au st.F o.dst (.v (.slice (some ⟨b,0,none⟩) (n+1) (n+1))) } _ (bj.au hW) rfl (h b hb);simp only [cE,eT] at this;rw [List.append_nil];exact this
        exact h.elim
       exact h.elim
      exact h.elim
     exact h.elim
    exact h.elim
   exact h.elim
  exact h.elim
 ·rename_i c ho
  split at h
  ·rename_i s x t t' bZ ha ht
   split at h
   ·rename_i htt
    subst htt;split at h
    ·rename_i e sb xa m cx hu hs hx
     split at h
     ·rename_i info jj
      split at h
      ·rename_i z hz
       split at h
       rotate_left
       ·exact h.elim
       rename_i B5;obtain⟨ys,dZ,⟨g1,g2,g3⟩,h⟩:=h;have h':=pz h
       by_cases hm:m=0
       ·subst hm
        refine R.al ⟨some (.slice (some sb) 0 0),0,[],e,false⟩ rfl hi hw hX ?_ (fun y hy=>?_) (fun hz=>by cases hz)
        ·unfold lX
         rw [ho];simp only [bZ,ha,ht,if_true];unfold QS;simp only [hu,bM hs,bM hx,eT,jj,hz,B5,if_true]
        cases hy
        have:=hk { st with F:=au st.F o.dst (.v (.slice (some sb) 0 0)) } V (bj.au hW) rfl h';simp only [cE,eT] at this;exact this
       rw [decide_eq_false hm] at h';rcases dZ with ⟨h0,_⟩ | ⟨ad,h1,h2⟩
       ·exact(hm h0).elim
       simp only at h1 h2;subst h1;refine R.al ⟨none,m,ys,e,false⟩ rfl hi hw hX ?_ (fun y hy=>by cases hy) (fun _ b cap spare hb hc he sM=>?_)
       ·unfold lX
        rw [ho];simp only [bZ,ha,ht,if_true];unfold QS;simp only [hu,bM hs,bM hx,eT,jj,hz,B5,if_neg hm,h2,g1,g2,g3,and_self,if_true]
       have:=hk { st with F:=au st.F o.dst (.v (.slice (some ⟨b,0,none⟩) m cap)) } _ (bj.au hW) rfl (h' b cap spare hb hc he.2);simp only [cE,eT] at this;exact this
      exact h.elim
     exact h.elim
    exact h.elim
   exact h.elim
  exact h.elim
 exact h.elim
variable {P:Program} {N:Nat} {w0:World} {Vs V V0:aa} {ρ:Nat->Nat × Nat} {a:Act} {w:World}
 {K:aa->List Value->Prop} {Ns:List (List LV->aa->Prop)} {W:List Nat} {st Hn HW:St}
 {ops:Array Oper} {Kf:Kt} {dr:Bool} {k:St->T}
theorem HX (c b:Bool) (x y:T):HP c b x y=if (c == b)=true then x else y:=by cases c <;> cases b <;> rfl
theorem tm {F:Fm} {t:Nat} {s:SV} (h:F t=some s):aK F t=some (eT s):=by simp [aK,h]
theorem zr {F:Fm} {d:Nat} {c:Bool} (h:F d=some (.v (.bool c))):aK (nX F d (.k c))=aK F:=by
 funext t
 by_cases e:t=d
 ·subst e; simp [aK,nX,h,eT]
 simp [aK,nX,e]
theorem XF (hW:∀ (i:Nat) (o:Oper) (d:Nat),ops[i]?=some o->o.dst=some d->W.contains d=true):∀ (l:List Oper) (i:Nat),ops.toList.drop i=l->∀ (st:St) (V:aa),
  (rG P dr ops l st k).wp P K V V0 Ns->(∀ st' V',bj W st st'->st'.c=st.c->(k st').wp P K V' V0 Ns->Kf (aK st'.F) st'.H V') ->
  R P ops dr V0 Kf (List.range' i l.length) (aK st.F) st.H V:=by
 intro l
 induction l with
 | nil=>intro i _ st V h hk; exact R.nil (hk st V bj.refl rfl h)
 | cons o r ih =>
  intro i hd st V h hk;have aN:i<ops.toList.length:=by
   rcases Nat.lt_or_ge i ops.toList.length with h | h
   ·exact h
   rw [List.drop_eq_nil_of_le h] at hd; cases hd
  rw [List.drop_eq_getElem_cons aN] at hd;have ho:ops[i]?=some o:=by
   have:=(List.cons.inj hd).1;rw [<- this]; simp
  have hr:ops.toList.drop (i+1)=r:=(List.cons.inj hd).2;rw [List.length_cons,List.range'_succ];have cJ:∀ (s:St),bj W st s->s.c=st.c->want ops (aK s.F) o.guard=some true->(match dr && kP ops o with | true=>alT P o s (fun st=>rG P dr ops r st k) | false=>qV P dr (r.all fun o=>!cn o) (HE ops (ops.size-(r.length+1))) o s (fun st=>rG P dr ops r st k)).wp P K V V0 Ns ->
    R P ops dr V0 Kf (i :: List.range' (i+1) r.length) (aK s.F) s.H V:=by
   intro s hp hc hw h;cases hX:dr && kP ops o with
   | true =>
    rw [hX] at h;simp only [Bool.and_eq_true] at hX;obtain⟨rfl,hX⟩:=hX;exact alT_R (W:=W) ho hw (fun d e=>hW i o d ho e) hX h fun st' V' h1 h2 h3=>ih (i+1) hr st' V' h3 fun HW V2 g1 g2 g3=>hk HW V2 ((hp.trans h1).trans g1) (g2.trans (h2.trans hc)) g3
   | false =>
   rw [hX] at h;have hX':dr=true->kP ops o=false:=by
    intro e;rw [e] at hX;simpa using hX
   have yq:(r.all fun o=>!cn o)=true->∀ k∈List.range' (i+1) r.length,∀ ok,ops[k]?=some ok->cn ok=false:=by
    intro bC k hk ok eg;rw [List.mem_range'] at hk;obtain⟨j,hj,rfl⟩:=hk;have h1:r[j]?=some ok:=by
     rw [<- hr,List.getElem?_drop];simpa using eg
    have:=List.all_eq_true.1 bC ok (List.mem_of_getElem? h1);simpa using this
   have hix:ops.size-(r.length+1)=i:=by
    have h1:=congrArg List.length hr;simp only [List.length_drop,Array.length_toList] at h1 aN;omega
   exact opT_R (W:=W) (nc:=HE ops (ops.size-(r.length+1))) (fun e=>by rw [hix] at e; exact e) yq hX' ho hw (fun d e=>hW i o d ho e) h fun st' V' h1 h2 h3=>ih (i+1) hr st' V' h3 fun HW V2 g1 g2 g3=>hk HW V2 ((hp.trans h1).trans g1) (g2.trans (h2.trans hc)) g3
  have XG:∀ (s:St),bj W st s->s.c=st.c->want ops (aK s.F) o.guard=some false->(rG P dr ops r { s with F:=au s.F o.dst (.v undef) } k).wp P K V V0 Ns ->
    R P ops dr V0 Kf (i :: List.range' (i+1) r.length) (aK s.F) s.H V:=by
   intro s hp hc hw h;refine R.skip ho hw ?_
   have:=ih (i+1) hr { s with F:=au s.F o.dst (.v undef) } V h fun HW V2 g1 g2 g3=>hk HW V2 ((hp.trans (bj.au (fun d e=>hW i o d ho e))).trans g1) (g2.trans hc) g3
   rw [<- show aK (au s.F o.dst (.v undef))=au (aK s.F) o.dst (.v undef) from cE _ _ _];exact this
  unfold rG at h;simp only at h;split at h
  ·rename_i hg
   exact cJ st bj.refl rfl (by rw [hg]; rfl) h
  rename_i j b hg;split at h
  ·rename_i d Re
   have hWd:W.contains d=true:=by
    cases hj:ops[j]? with
    | none=>rw [hj] at Re; cases Re
    | some oj=>rw [hj] at Re; exact hW j oj d hj Re
   split at h
   ·rename_i c hF
    have hw:want ops (aK st.F) o.guard=some (c == b):=by simp only [want,hg,Re,tm hF,eT]
    rw [HX] at h
    by_cases e:(c == b)=true
    ·rw [if_pos e] at h; exact cJ st bj.refl rfl (by rw [hw,e]) h
    rw [if_neg e] at h; exact XG st bj.refl rfl (by rw [hw]; simpa using e) h
   ·rename_i c hF
    have hw:want ops (aK st.F) o.guard=some (c == b):=by simp only [want,hg,Re,tm hF,eT]
    have h':=pz h;have hp:bj W st { st with F:=nX st.F d (.k c) }:=bj.nX hWd;have hu:=zr hF;have h2:(HP c b (match dr && kP ops o with | true=>alT P o { st with F:=nX st.F d (.k c) } (fun st=>rG P dr ops r st k) | false=>qV P dr (r.all fun o=>!cn o) (HE ops (ops.size-(r.length+1))) o { st with F:=nX st.F d (.k c) } (fun st=>rG P dr ops r st k)) (rG P dr ops r { st with F:=au (nX st.F d (.k c)) o.dst (.v undef) } k)).wp P K V V0 Ns:=by
     cases c
     ·exact h'
     exact h'
    rw [HX] at h2;rw [<- hu] at hw;rw [<- hu]
    by_cases e:(c == b)=true
    ·rw [if_pos e] at h2; exact cJ _ hp rfl (by rw [hw,e]) h2
    rw [if_neg e] at h2; exact XG _ hp rfl (by rw [hw]; simpa using e) h2
   ·rename_i vs hF
    have hw:want ops (aK st.F) o.guard=some false:=by simp only [want,hg,Re,tm hF,eT]
    exact XG st bj.refl rfl hw h
   exact h.elim
  exact h.elim
def XH (σ:Nat->Nat) (H1 H':List aT) (i:Nat):aT->Prop
 | .c cs t=>∃ iw,H'[σ i]?=some (.c iw t)/\iw.length=cs.length /\
   ∀ (j:Nat) s,cs[j]?=some s->lW H1.length s/\∀ s',iw[j]?=some s'->∀ (ρ:Nat->Nat × Nat) x,cv (fun m=>ρ (σ m)) H1 s=some x->cv ρ H' s'=some x
 | .a n xs t=>H'[σ i]?=some (.a n xs t)
 | _=>True
structure HR (σ:Nat->Nat) (F':Fm) (H':List aT) (F1:Fm) (H1:List aT):Prop where
 fm:∀ t s,F1 t=some s->lW H1.length s/\∃ s',F' t=some s'/\∀ (ρ:Nat->Nat × Nat) x,cv (fun m=>ρ (σ m)) H1 s=some x->cv ρ H' s'=some x
 bx:∀ i b,H1[i]?=some b->XH σ H1 H' i b
 inj:∀ i j b c,H1[i]?=some b->H1[j]?=some c->b.live=true->c.live=true->σ i=σ j->i=j
theorem XH.live {σ:Nat->Nat} {H1 H':List aT} {i:Nat} {b:aT} (h:XH σ H1 H' i b) (hl:b.live=true):∃ b',H'[σ i]?=some b'/\b'.live=true:=by
 cases b with
 | c cs t=>obtain⟨iw,h1,_⟩:=h; exact⟨_,h1,rfl⟩
 | a n xs t=>exact⟨_,h,rfl⟩
 | _=>cases hl
theorem Sat.rename {σ:Nat->Nat} {F' F1:Fm} {H' H1:List aT} (h:Sat P N w0.heap.size F' H' V ρ a w) (r:HR σ F' H' F1 H1):Sat P N w0.heap.size F1 H1 V (fun m=>ρ (σ m)) a w:=by
 refine⟨h.defers,h.size,fun t s x hs hx=>?_,fun i b hb=>?_,fun i j b c hb hc vp eG he=>?_,fun i b hb hl=>?_,fun i b hb hl=>?_,h.know,fun t s hs=>(r.fm t s hs).1,fun i cs t hi s hs=>?_⟩
 ·obtain⟨_,s',h1,h2⟩:=r.fm t s hs
  exact h.slot t s' x h1 (h2 ρ x hx)
 ·have hs:=r.bx i b hb
  cases b with
  | c cs t =>
   obtain⟨iw,h1,h2,h3⟩:=hs;obtain⟨cells,g1,g2,g3⟩:=h.box _ _ h1;refine⟨cells,g1,g2.trans h2,fun j s x hj hx=>?_⟩
   have aN:j<iw.length:=by rw [h2]; exact(List.getElem?_eq_some_iff.1 hj).1
   exact g3 j iw[j] x (by simp [aN]) ((h3 j s hj).2 iw[j] (by simp [aN]) ρ x hx)
  | a n xs t=>exact h.box _ _ hs
  | _=>trivial
 ·obtain⟨b',h1,h2⟩:=(r.bx i b hb).live vp
  obtain⟨c',h3,h4⟩:=(r.bx j c hc).live eG;exact r.inj i j b c hb hc vp eG (h.inj _ _ _ _ h1 h3 h2 h4 he)
 ·obtain⟨b',h1,h2⟩:=(r.bx i b hb).live hl
  exact h.base _ _ h1 h2
 ·obtain⟨b',h1,h2⟩:=(r.bx i b hb).live hl
  exact h.priv _ _ h1 h2
 have hb:=r.bx i _ hi;obtain⟨iw,h1,h2,h3⟩:=hb;obtain⟨j,hj,rfl⟩:=List.mem_iff_getElem.1 hs;exact(h3 j cs[j] (by simp [hj])).1
theorem XI {H:List aT} {b:aT} {s:SV} (hs:lW H.length s) (ρ:Nat->Nat × Nat):cv ρ (H++[b]) s=cv ρ H s:=mY (fun _ _=>rfl) hs
theorem HR.slot {σ:Nat->Nat} {F' F1:Fm} {H' H1:List aT} (r:HR σ F' H' F1 H1) {t:Nat} {s s':SV} (hs:F' t=some s') (hi:lW H1.length s)
  (hc:∀ (ρ:Nat->Nat × Nat) x,cv (fun m=>ρ (σ m)) H1 s=some x->cv ρ H' s'=some x):HR σ F' H' (nX F1 t s) H1:=by
 refine⟨fun u s1 hu=>?_,r.bx,r.inj⟩
 simp only [nX] at hu;split at hu
 ·rename_i e; subst e; simp at hu; subst hu; exact⟨hi,s',hs,hc⟩
 exact r.fm u s1 hu
theorem HR.arr {σ:Nat->Nat} {F' F1:Fm} {H' H1:List aT} (r:HR σ F' H' F1 H1) {m n:Nat} {xs:List Value} {e:TypeId} (hm:σ H1.length=m) (hH:H'[m]?=some (.a n xs e))
  (hf:∀ i b,H1[i]?=some b->b.live=true->σ i≠m):HR σ F' H' F1 (H1++[.a n xs e]):=by
 refine⟨fun t s hs=>?_,fun i b hb=>?_,fun i j b c hb hc vp eG he=>?_⟩
 ·obtain⟨h1,s',h2,h3⟩:=r.fm t s hs
  exact⟨lg (by simp) h1,s',h2,fun ρ x hx=>h3 ρ x (by rw [XI h1] at hx; exact hx)⟩
 ·rw [List.getElem?_append] at hb
  split at hb
  ·have:=r.bx i b hb
   cases b with
   | c cs t =>
    obtain⟨iw,h1,h2,h3⟩:=this;exact⟨iw,h1,h2,fun j s hj=>⟨lg (by simp) (h3 j s hj).1,fun s' CB ρ x hx=>(h3 j s hj).2 s' CB ρ x (by rw [XI (h3 j s hj).1] at hx; exact hx)⟩⟩
   | a n xs t=>exact this
   | _=>trivial
  rename_i cg;cases hq:i-H1.length with
  | zero =>
   rw [hq] at hb; simp at hb; subst hb
   have:i=H1.length:=by omega
   subst this;show H'[σ H1.length]?=_
   rw [hm]; exact hH
  | succ q=>rw [hq] at hb; simp at hb
 have key:∀ i b,(H1++[aT.a n xs e])[i]?=some b->(H1[i]?=some b/\i<H1.length)\/(i=H1.length):=by
  intro i b hb;rw [List.getElem?_append] at hb;split at hb
  ·exact .inl ⟨hb,by assumption⟩
  cases hq:i-H1.length with
  | zero=>exact .inr (by omega)
  | succ q=>rw [hq] at hb; simp at hb
 rcases key i b hb with ⟨h1,h2⟩ | h1 <;> rcases key j c hc with ⟨g1,g2⟩ | g1
 ·exact r.inj i j b c h1 g1 vp eG he
 ·subst g1; rw [hm] at he; exact(hf i b h1 vp he).elim
 ·subst h1; rw [hm] at he; exact(hf j c g1 eG he.symm).elim
 rw [h1,g1]
theorem yt {H:List aT} {i:Nat} {cs cs2:List SV} {t:TypeId} (hi:H[i]?=some (.c cs t)) (ρ:Nat->Nat × Nat):cv ρ (H.set i (.c cs2 t))=cv ρ H :=
 Mm hi (.inl ⟨_,_,_,_,rfl,rfl⟩)
theorem HR.cell {σ:Nat->Nat} {F' F1:Fm} {H' H1:List aT} (r:HR σ F' H' F1 H1) {i j:Nat} {cs iw:List SV} {t:TypeId} {s s':SV} (hi:H1[i]?=some (.c cs t))
  (qp:H'[σ i]?=some (.c iw t)) (hj:iw[j]?=some s') (hs:lW H1.length s)
  (hc:∀ (ρ:Nat->Nat × Nat) x,cv (fun m=>ρ (σ m)) H1 s=some x->cv ρ H' s'=some x):HR σ F' H' F1 (H1.set i (.c (cs.set j s) t)):=by
 have aN:=(List.getElem?_eq_some_iff.1 hi).1;have hlen:(H1.set i (.c (cs.set j s) t)).length=H1.length:=by simp
 refine⟨fun u s1 hu=>?_,fun m b hb=>?_,fun m q b c hb wZ vp eG he=>?_⟩
 ·obtain⟨h1,s2,h2,h3⟩:=r.fm u s1 hu
  exact⟨by rw [hlen]; exact h1,s2,h2,fun ρ x hx=>h3 ρ x (by rw [yt hi] at hx; exact hx)⟩
 ·rw [List.getElem?_set] at hb
  split at hb
  ·rename_i e; subst e
   simp only [Option.some.injEq] at hb;subst hb;obtain⟨cs2,h1,h2,h3⟩:=r.bx i _ hi;rw [qp] at h1; simp at h1; subst h1
   refine⟨iw,qp,by simp [h2],fun q s1 hq=>?_⟩
   rw [List.getElem?_set] at hq;split at hq
   ·rename_i e; subst e
    split at hq
    ·simp at hq; subst hq
     refine⟨by rw [hlen]; exact hs,fun s2 Hl ρ x hx=>?_⟩
     rw [hj] at Hl; simp at Hl; subst Hl
     exact hc ρ x (by rw [yt hi] at hx; exact hx)
    cases hq
   exact⟨by rw [hlen]; exact(h3 q s1 hq).1,fun s2 Hl ρ x hx=>(h3 q s1 hq).2 s2 Hl ρ x (by rw [yt hi] at hx; exact hx)⟩
  have:=r.bx m b hb;cases b with
  | c cs2 t2 =>
   obtain⟨cs3,h1,h2,h3⟩:=this;exact⟨cs3,h1,h2,fun q s1 hq=>⟨by rw [hlen]; exact(h3 q s1 hq).1,fun s2 Hl ρ x hx=>(h3 q s1 hq).2 s2 Hl ρ x (by rw [yt hi] at hx; exact hx)⟩⟩
  | a n xs t=>exact this
  | _=>trivial
 have key:∀ (m:Nat) (b:aT),(H1.set i (.c (cs.set j s) t))[m]?=some b->b.live=true->∃ b':aT,H1[m]?=some b'/\b'.live=true:=by
  intro m b hb hl;rw [List.getElem?_set] at hb;split at hb
  ·rename_i e; subst e; exact⟨_,hi,rfl⟩
  exact⟨b,hb,hl⟩
 obtain⟨b',h1,h2⟩:=key m b hb vp;obtain⟨c',h3,h4⟩:=key q c wZ eG;exact r.inj m q b' c' h1 h3 h2 h4 he
variable {P:Program} {N:Nat} {w0:World} {Vs V V0:aa} {ρ:Nat->Nat × Nat} {a:Act} {w:World}
 {K:aa->List Value->Prop} {Ns:List (List LV->aa->Prop)} {W:List Nat} {st Hn HW:St}
def XJ (H:List aT):Prop:=∀ (i:Nat) cs t,H[i]?=some (.c cs t)->∀ s∈cs,lW H.length s
structure tn (st st':St):Prop where
 c:st'.c=st.c
 F:st'.F=st.F
 len:st'.H.length=st.H.length
 pres:bj [] st st'
 wf:XJ st.H->XJ st'.H
theorem tn.refl:tn st st:=⟨rfl,rfl,rfl,bj.refl,id⟩
theorem tn.trans (h:tn st Hn) (k:tn Hn HW):tn st HW :=
 ⟨k.c.trans h.c,k.F.trans h.F,k.len.trans h.len,h.pres.trans k.pres,fun e=>k.wf (h.wf e)⟩
theorem XJ.set {H:List aT} (h:XJ H) {i:Nat} {b:aT} (hb:∀ cs t,b=.c cs t->∀ s∈cs,lW H.length s):XJ (H.set i b):=by
 intro j cs t hj s hs;simp only [List.length_set];rw [List.getElem?_set] at hj;split at hj
 ·split at hj
  ·simp at hj; exact hb cs t hj s hs
  cases hj
 exact h j cs t hj s hs
theorem tn.set {i:Nat} {b:aT} (hb:XJ st.H->∀ cs t,b=.c cs t->∀ s∈cs,lW st.H.length s):tn st { st with H:=st.H.set i b,D:=st.D.set i st.c } :=
 ⟨rfl,rfl,by simp,bj.set,fun h=>h.set (hb h)⟩
theorem jt:∀ (pls:List Pl) (mj:List mP) {st base:St},kp pls mj st=some base->tn st base
 | [],[],st,base,h=>by simp [kp] at h; subst h; exact tn.refl
 | [],_ :: _,st,base,h=>by simp [kp] at h
 | .s t :: r,[],st,base,h=>by simp [kp] at h
 | .c i j :: r,[],st,base,h=>by simp [kp] at h
 | .s t :: r,sh :: l,st,base,h=>by
  simp only [kp] at h;split at h
  ·exact(tn.set fun _ cs t e=>by cases e).trans (jt r l h)
  exact jt r l h
 | .c i j :: r,sh :: l,st,base,h=>by
  simp only [kp] at h;split at h
  ·rename_i cs u hi
   have aN:=(List.getElem?_eq_some_iff.1 hi).1;have hk:tn st { st with H:=st.H.set i (.c (cs.set j (.o i)) u),D:=st.D.set i st.c }:=by
    refine tn.set fun hw iw t e s hs=>?_
    cases e
    rcases List.mem_or_eq_of_mem_set hs with h1 | h1
    ·exact hw i cs u hi s h1
    subst h1; exact aN
   split at h
   ·rename_i m hm
    split at h
    ·exact hk.trans (jt r l h)
    exact(hk.trans (tn.set (i:=m) (b:=.x) fun _ cs t e=>by cases e)).trans (jt r l h)
   exact hk.trans (jt r l h)
  cases h
theorem tp {c:Nat} {H':List aT} {D':List Nat}:∀ (l:List aT) (i:Nat),oc c l i H' D'=true->∀ (j:Nat) b,l[j]?=some b ->
  (b=.x)\/(∃ d,D'[i+j]?=some d/\d<c)\/(∃ cs t iw,b=.c cs t/\H'[i+j]?=some (.c iw t)/\iw.length=cs.length/\qo (i+j) cs=true)
 | [],i,h,j,b,hb=>by simp at hb
 | b0 :: r,i,h,j,b,hb=>by
  simp only [oc,Bool.and_eq_true] at h;cases j with
  | zero =>
   simp at hb; subst hb
   have h1:=h.1;have key:(match D'[i]? with | some d=>Nat.blt d c | none=>false)=true->∃ d,D'[i+0]?=some d/\d<c:=by
    intro hh;split at hh
    ·rename_i d hd; exact⟨d,hd,by simpa [Nat.blt_eq] using hh⟩
    cases hh
   split at h1
   ·exact .inl rfl
   ·rename_i cs t
    simp only [Bool.or_eq_true] at h1;rcases h1 with h1 | h1
    ·exact .inr (.inl (key h1))
    split at h1
    ·rename_i iw t' hH
     simp only [Bool.and_eq_true,Nat.beq_eq] at h1;obtain⟨⟨e1,e2⟩,e3⟩:=h1;subst e1;exact .inr (.inr ⟨cs,t,iw,rfl,hH,e2.symm,e3⟩)
    cases h1
   exact .inr (.inl (key h1))
  | succ j =>
   have:=tp r (i+1) h.2 j b (by simpa using hb);simpa [Nat.add_assoc,Nat.add_comm 1 j] using this
theorem tu {i:Nat}:∀ {l:List SV},qo i l=true->∀ s∈l,s=.o i
 | [],_,s,hs=>by cases hs
 | .o j :: r,h,s,hs=>by
  simp only [qo,Bool.and_eq_true,Nat.beq_eq] at h;cases hs with
  | head=>rw [h.1]
  | tail _ hs=>exact tu h.2 s hs
 | .v _ :: r,h,s,hs=>by cases h
 | .k _ :: r,h,s,hs=>by cases h
 | .p _ _ :: r,h,s,hs=>by cases h
theorem qW {base:List aT}:∀ {l:List Nat},nh base l=true->l.Nodup/\∀ i∈l,∀ b,base[i]?=some b->b.live=false
 | [],_=>⟨List.nodup_nil,fun i hi=>by cases hi⟩
 | i :: r,h=>by
  simp only [nh,Bool.and_eq_true] at h;obtain⟨⟨h1,h2⟩,h3⟩:=h;obtain⟨g1,g2⟩:=qW h3;refine⟨List.nodup_cons.2 ⟨by simpa using h2,g1⟩,fun j hj b hb=>?_⟩
  cases hj with
  | head=>rw [hb] at h1; simpa using h1
  | tail _ hj=>exact g2 j hj b hb
def shift (L:Nat) (is:List Nat) (i:Nat):Nat:=if i<L then i else is.getD (i-L) 0
theorem base_HR {F':Fm} {H':List aT} {D' is:List Nat} {base:St}
  (hslot:∀ t s,aK base.F t=some s->F' t=some s) (hinb:∀ t s,aK base.F t=some s->lW base.H.length s) (hwf:XJ base.H)
  (hbox:∀ (i d:Nat),i<base.H.length->D'[i]?=some d->d<base.c->H'[i]?=base.H[i]?) (XK:oc base.c base.H 0 H' D'=true) :
  HR (shift base.H.length is) F' H' (aK base.F) base.H:=by
 have zl:∀ i,i<base.H.length->shift base.H.length is i=i:=fun i hi=>by simp [shift,hi]
 have px:∀ (i:Nat) b,base.H[i]?=some b->(b=.x)\/(H'[i]?=some b)\/(∃ cs t iw,b=.c cs t/\H'[i]?=some (.c iw t)/\iw.length=cs.length/\qo i cs=true):=by
  intro i b hb;have aN:=(List.getElem?_eq_some_iff.1 hb).1;have:=tp base.H 0 XK i b hb;simp only [Nat.zero_add] at this;rcases this with h | ⟨d,h1,h2⟩ | h
  ·exact .inl h
  ·exact .inr (.inl (by rw [hbox i d aN h1 h2,hb]))
  exact .inr (.inr h)
 have rz:∀ s,lW base.H.length s->∀ (ρ:Nat->Nat × Nat) x,cv (fun m=>ρ (shift base.H.length is m)) base.H s=some x->cv ρ H' s=some x:=by
  intro s hs ρ x hx;cases s with
  | v y=>exact hx
  | k b=>exact hx
  | p i off =>
   have hi:i<base.H.length:=hs;simp only [cv] at hx ⊢;cases hb:base.H[i]? with
   | none=>rw [hb] at hx; cases hx
   | some b =>
    rw [hb] at hx;rcases px i b hb with h | h | ⟨cs,t,iw,h1,h2,_⟩
    ·subst h; cases hx
    ·rw [h]; cases b <;> simp_all
    subst h1; rw [h2]; simp_all
  | o i =>
   have hi:i<base.H.length:=hs;simp only [cv] at hx ⊢;cases hb:base.H[i]? with
   | none=>rw [hb] at hx; cases hx
   | some b =>
    rw [hb] at hx;rcases px i b hb with h | h | ⟨cs,t,iw,h1,h2,_⟩
    ·subst h; cases hx
    ·rw [h]; cases b <;> simp_all
    subst h1; cases hx
 refine⟨fun t s hs=>⟨hinb t s hs,s,hslot t s hs,rz s (hinb t s hs)⟩,fun i b hb=>?_,fun i j b c hb hc vp eG he=>?_⟩
 ·have aN:=(List.getElem?_eq_some_iff.1 hb).1
  have hcvc:∀ cs t,base.H[i]?=some (.c cs t)->∀ (j:Nat) s,cs[j]?=some s->lW base.H.length s/\∀ (ρ:Nat->Nat × Nat) x,cv (fun m=>ρ (shift base.H.length is m)) base.H s=some x->cv ρ H' s=some x:=by
   intro cs t hi j s hj;have gM:=hwf i cs t hi s (List.mem_of_getElem? hj);exact⟨gM,rz s gM⟩
  rcases px i b hb with h | h | ⟨cs,t,iw,h1,h2,h3,h4⟩
  ·subst h; trivial
  ·cases b with
   | c cs t =>
    refine⟨cs,by rw [zl i aN]; exact h,rfl,fun j s hj=>?_⟩
    obtain⟨g1,g2⟩:=hcvc cs t hb j s hj;exact⟨g1,fun s' CB=>by rw [hj] at CB; simp at CB; subst CB; exact g2⟩
   | a n xs t=>show H'[shift _ _ i]?=_; rw [zl i aN]; exact h
   | _=>trivial
  subst h1;refine⟨iw,by rw [zl i aN]; exact h2,h3,fun j s hj=>?_⟩
  have:=tu h4 s (List.mem_of_getElem? hj);subst this;refine⟨aN,fun s' _ ρ x hx=>?_⟩
  simp only [cv,hb] at hx;cases hx
 have h1:=(List.getElem?_eq_some_iff.1 hb).1;have h2:=(List.getElem?_eq_some_iff.1 hc).1;rw [zl i h1,zl j h2] at he;exact he
theorem CI {H:List aT} {sh:mP} {s:SV} {x:LV} {is:List Nat} (h:getV H sh s=some (x,is)) :
  (∃ y,x=.v y/\is=[]/\∀ ρ,cv ρ H s=some y\/cv ρ H s=none\/cv ρ H (res H s)=some y)/\(∃ y,x=.v y/\is=[]/\MJ (res H s)=some y) \/
  (∃ e n ys i,x=.a e n ys/\is=[i]/\s=.o i/\H[i]?=some (.a n ys e)):=by
 unfold getV at h;split at h
 ·split at h
  ·rename_i y hy
   simp at h;obtain⟨rfl,rfl⟩:=h;refine .inl ⟨⟨y,rfl,rfl,fun ρ=>.inr (.inr ?_)⟩,y,rfl,rfl,hy⟩
   have:=XC hy;cases hr:res H s <;> rw [hr] at hy <;> simp [MJ] at hy <;> subst hy <;> rfl
  cases h
 ·split at h
  ·rename_i n ys u hi
   split at h
   ·rename_i hu
    simp at h;obtain⟨rfl,rfl⟩:=h;subst hu;exact .inr ⟨_,_,_,_,rfl,rfl,rfl,hi⟩
   cases h
  cases h
 cases h
theorem XL {H:List aT} {s:SV} {y:Value} (h:MJ (res H s)=some y) (ρ:Nat->Nat × Nat):cv ρ H s=some y:=by
 apply EG
 cases hr:res H s <;> rw [hr] at h <;> simp [MJ] at h <;> subst h <;> rfl
theorem XM {ρ:Nat->Nat × Nat} {H:List aT} {s:SV}:cv ρ H (eT s)=cv ρ H s:=by cases s <;> rfl
theorem XN {F:Fm} {t:Nat} {s:SV} (h:F t=some s):aK F t=some (eT s):=tm h
theorem tz {σ:Nat->Nat} {st':St}:∀ (pls:List Pl) (mj:List mP) (xs:List LV) (is:List Nat) (cur hd:St),qN st' pls mj=some (xs,is)->kz pls xs cur=some hd ->
  HR σ (aK st'.F) st'.H (aK cur.F) cur.H->(∀ k,k<is.length->σ (cur.H.length+k)=is.getD k 0)->is.Nodup->(∀ (i:Nat) b,cur.H[i]?=some b->b.live=true->σ i ∉ is) ->
  (∀ i j,Pl.c i j∈pls->σ i=i)->HR σ (aK st'.F) st'.H (aK hd.F) hd.H
 | [],[],xs,is,cur,hd,hg,hp,r,_,_,_,_=>by
  simp [qN] at hg;obtain⟨rfl,rfl⟩:=hg;simp [kz] at hp;subst hp;exact r
 | [],_ :: _,xs,is,cur,hd,hg,hp,r,_,_,_,_=>by simp [qN] at hg
 | .s t :: pr,[],xs,is,cur,hd,hg,hp,r,_,_,_,_=>by simp [qN] at hg
 | .c i j :: pr,[],xs,is,cur,hd,hg,hp,r,_,_,_,_=>by simp [qN] at hg
 | .s t :: pr,sh :: l,xs,is,cur,hd,hg,hp,r,hf,hn,MQ,hid=>by
  simp only [qN] at hg;split at hg
  ·rename_i s hs
   split at hg
   ·rename_i x is1 xs1 js hv pA
    simp at hg;obtain⟨rfl,rfl⟩:=hg;rcases CI hv with ⟨_,y,rfl,rfl,hy⟩ | ⟨e,n,ys,i,rfl,rfl,rfl,hi⟩
    ·simp only [kz] at hp
     refine tz pr l xs1 js _ hd pA hp ?_ (by simpa using hf) (by simpa using hn) (by simpa using MQ) (fun i j hm=>hid i j (List.mem_cons_of_mem _ hm))
     rw [zm];refine r.slot (XN hs) trivial fun ρ x hx=>?_
     rw [XM,XL hy];simpa [cv,eT] using hx
    simp only [kz] at hp;have hl:σ cur.H.length=i:=by have:=hf 0 (by simp); simpa using this
    have r2:HR σ (aK st'.F) st'.H (aK cur.F) (cur.H++[.a n ys e]):=r.arr hl hi fun m b hb vp he=>MQ m b hb vp (by rw [he]; simp)
    refine tz pr l xs1 js _ hd pA hp ?_ ?_ ?_ ?_ (fun i j hm=>hid i j (List.mem_cons_of_mem _ hm))
    ·rw [zm]
     refine r2.slot (XN hs) (by simp [eT,lW]) fun ρ x hx=>?_
     simp only [eT,cv,List.getElem?_append_right (Nat.le_refl _),Nat.sub_self,List.getElem?_cons_zero,hl] at hx;simp only [eT,cv,hi];exact hx
    ·intro k hk
     have:=hf (k+1) (by simpa using hk);simp only [List.length_append,List.length_cons,List.length_nil];simpa [Nat.add_assoc,Nat.add_comm 1 k] using this
    ·simp at hn; exact hn.2
    intro m b hb vp lY;rw [List.getElem?_append] at hb;split at hb
    ·exact MQ m b hb vp (by simp [lY])
    cases hq:m-cur.H.length with
    | zero =>
     have:m=cur.H.length:=by omega
     subst this;rw [hl] at lY;simp at hn;exact hn.1 lY
    | succ q=>rw [hq] at hb; simp at hb
   cases hg
  cases hg
 | .c i j :: pr,sh :: l,xs,is,cur,hd,hg,hp,r,hf,hn,MQ,hid=>by
  have hii:=hid i j (List.mem_cons_self ..);simp only [qN] at hg;split at hg
  ·rename_i iw u' hci
   split at hg
   ·rename_i s hs
    split at hg
    ·rename_i x is1 xs1 js hv pA
     simp at hg;obtain⟨rfl,rfl⟩:=hg;rcases CI hv with ⟨_,y,rfl,rfl,hy⟩ | ⟨e,n,ys,m,rfl,rfl,rfl,hi⟩
     ·simp only [kz] at hp
      split at hp
      ·rename_i cs u pq
       have eG:st'.H[σ i]?=some (.c iw u'):=by rw [hii]; exact hci
       have hu:u'=u:=by
        obtain⟨c2,g1,_⟩:=r.bx i _ pq;rw [eG] at g1; simp at g1; exact g1.2
       subst hu;refine tz pr l xs1 js _ hd pA hp ?_ (by simpa using hf) (by simpa using hn) ?_ (fun i j hm=>hid i j (List.mem_cons_of_mem _ hm))
       ·refine r.cell pq eG hs trivial fun ρ x hx=>?_
        rw [XL hy];simpa [cv] using hx
       intro m b hb vp;rw [List.getElem?_set] at hb;split at hb
       ·rename_i e; subst e
        exact(by simpa using MQ i _ pq rfl)
       simpa using MQ m b hb vp
      cases hp
     simp only [kz] at hp;split at hp
     ·rename_i cs u pq
      have eG:st'.H[σ i]?=some (.c iw u'):=by rw [hii]; exact hci
      have hu:u'=u:=by
       obtain⟨c2,g1,_⟩:=r.bx i _ pq;rw [eG] at g1; simp at g1; exact g1.2
      subst hu;have hl:σ cur.H.length=m:=by have:=hf 0 (by simp); simpa using this
      have r2:HR σ (aK st'.F) st'.H (aK cur.F) (cur.H++[.a n ys e]):=r.arr hl hi fun q b hb vp he=>MQ q b hb vp (by rw [he]; simp)
      have aN:=(List.getElem?_eq_some_iff.1 pq).1;have hcur2:(cur.H++[aT.a n ys e])[i]?=some (.c cs u'):=by rw [List.getElem?_append_left aN]; exact pq
      have r3:=r2.cell (j:=j) (s:=.o cur.H.length) hcur2 eG hs (by simp [lW]) (fun ρ x hx=>by
       simp only [cv,List.getElem?_append_right (Nat.le_refl _),Nat.sub_self,List.getElem?_cons_zero,hl] at hx;simp only [cv,hi];exact hx)
      have e3:(cur.H++[aT.a n ys e]).set i (.c (cs.set j (.o cur.H.length)) u')=cur.H.set i (.c (cs.set j (.o cur.H.length)) u')++[aT.a n ys e]:=by
       rw [List.set_append_left _ _ aN]
      rw [e3] at r3;refine tz pr l xs1 js _ hd pA hp r3 ?_ ?_ ?_ (fun i j hm=>hid i j (List.mem_cons_of_mem _ hm))
      ·intro k hk
       have:=hf (k+1) (by simpa using hk);simp only [List.length_append,List.length_cons,List.length_nil,List.length_set];simpa [Nat.add_assoc,Nat.add_comm 1 k] using this
      ·simp at hn; exact hn.2
      intro q b hb vp lY;rw [List.getElem?_append] at hb;split at hb
      ·rw [List.getElem?_set] at hb
       split at hb
       ·rename_i e; subst e
        exact MQ i _ pq rfl (by simp [lY])
       exact MQ q b hb vp (by simp [lY])
      rename_i cg;simp only [List.length_set] at cg hb;cases hq:q-cur.H.length with
      | zero =>
       have:q=cur.H.length:=by omega
       subst this;rw [hl] at lY;simp at hn;exact hn.1 lY
      | succ p=>rw [hq] at hb; simp at hb
     cases hp
    cases hg
   cases hg
  cases hg
variable {P:Program} {N:Nat} {w0:World} {Vs V V0:aa} {ρ:Nat->Nat × Nat} {a:Act} {w:World}
 {K:aa->List Value->Prop} {Ns Ns0:List (List LV->aa->Prop)} {W:List Nat} {st st0 Hn HW base hd:St}
 {pls:List Pl} {mj:List mP} {an:An}
theorem bj.wide {W':List Nat} (h:bj W st Hn) (hw:∀ t,W.contains t=true->W'.contains t=true):bj W' st Hn :=
 ⟨fun t ht=>h.slot t (by cases e:W.contains t with | false=>rfl | true=>rw [hw t e] at ht; cases ht),h.wf,h.len,h.cnt,h.box,h.kind⟩
structure oe (W:List Nat) (pls:List Pl) (st base:St):Prop where
 c:base.c=st.c+1
 F:∀ t,base.F t=match W.contains t with | true=>none | false=>st.F t
 len:base.H.length=st.H.length
 pres:bj [] { st with c:=st.c+1 } { base with F:=st.F }
 wf:XJ st.H->XJ base.H
 lt:∀ i j,Pl.c i j∈pls->i<base.H.length
theorem tC:∀ (pls:List Pl) (mj:List mP) {st base:St},kp pls mj st=some base->∀ i j,Pl.c i j∈pls->i<st.H.length
 | [],_,st,base,h,i,j,hm=>by cases hm
 | .s t :: r,[],st,base,h,i,j,hm=>by simp [kp] at h
 | .c i j :: r,[],st,base,h,i',j',hm=>by simp [kp] at h
 | .s t :: r,sh :: l,st,base,h,i,j,hm=>by
  have hm:Pl.c i j∈r:=by cases hm; assumption
  simp only [kp] at h;split at h
  ·have:=tC r l h i j hm; simpa using this
  exact tC r l h i j hm
 | .c i j :: r,sh :: l,st,base,h,i',j',hm=>by
  simp only [kp] at h;split at h
  ·rename_i cs u hi
   have aN:=(List.getElem?_eq_some_iff.1 hi).1;have rest:∀ {s':St},s'.H.length=st.H.length->kp r l s'=some base->i'<st.H.length:=by
    intro s' hl h;cases hm with
    | head=>exact aN
    | tail _ hm=>rw [<- hl]; exact tC r l h i' j' hm
   split at h
   ·split at h
    ·exact rest (by simp) h
    exact rest (by simp) h
   exact rest (by simp) h
  cases h
theorem zt (h:Q9 W pls mj st=some base):oe W pls st base:=by
 unfold Q9 at h;split at h
 ·rename_i b hb
  have h:=Option.some.inj h;subst h;have k:=jt pls mj hb;refine⟨k.c,fun t=>?_,k.len,?_,k.wf,fun i j hm=>?_⟩
  ·simp only
   rw [k.F]
   all_goals (cases W.contains t <;> rfl)
  ·have:=k.pres
   have e:({ b with F:=st.F }:St)=b:=by
    have hF:=k.F;simp only at hF;cases b; simp_all
   rw [<- e] at this;exact this
  have:=tC pls mj hb i j hm;rw [k.len];exact this
 cases h
structure Hb (W:List Nat) (base st':St):Prop where
 slot:∀ t,W.contains t=false->aK st'.F t=aK base.F t
 box:∀ (i d:Nat),i<base.H.length->st'.D[i]?=some d->d<base.c->st'.H[i]?=base.H[i]?
 len:base.H.length<=st'.H.length
 cnt:base.c<=st'.c
theorem Hb.step (h:Hb W base st) (p:bj W st Hn):Hb W base Hn :=
 ⟨fun t ht=>(p.slot t ht).trans (h.slot t ht),fun i d hi hd hc=>by
  obtain⟨h1,h2⟩:=p.box i d (Nat.lt_of_lt_of_le hi h.len) hd (Nat.lt_of_lt_of_le hc h.cnt);exact h1.trans (h.box i d hi h2 hc),Nat.le_trans h.len p.len,Nat.le_trans h.cnt p.cnt⟩
theorem Hb.of (p:bj W base st):Hb W base st:=⟨p.slot,fun i d hi hd hc=>(p.box i d hi hd hc).1,p.len,p.cnt⟩
theorem EY {F G:Fm} {t:Nat} (h:F t=G t):aK F t=aK G t:=by simp [aK,h]
theorem oe.hb (b:oe W pls st base):Hb W base { st with c:=st.c+1,D:=base.D }:=by
 refine⟨fun t ht=>?_,fun i d hi hd hc=>?_,by rw [b.len]; exact Nat.le_refl _,by rw [b.c]; exact Nat.le_refl _⟩
 ·apply EY
  rw [b.F,ht]
 rw [b.c] at hc;have:=b.pres.box i d (by rw [<- b.len]; exact hi) hd hc
 exact this.1.symm
theorem HY {xs:List LV} {is:List Nat} {st':St} (b:oe W pls st base) (hb:Hb W base st')
  (hF:∀ t s,aK st.F t=some s->lW st.H.length s) (hH:XJ st.H)
  (hS:Sat P N w0.heap.size (aK st'.F) st'.H V ρ a w) (hg:qN st' pls mj=some (xs,is)) (hp:kz pls xs base=some hd)
  (eg:(oc base.c base.H 0 st'.H st'.D && nh base.H is)=true):∃ ρ1,Sat P N w0.heap.size (aK hd.F) hd.H V ρ1 a w:=by
 simp only [Bool.and_eq_true] at eg;obtain⟨f1,f2⟩:=qW eg.2;have QR:∀ t s,aK base.F t=some s->W.contains t=false/\aK st.F t=some s:=by
  intro t s hs;have:=b.F t;cases e:W.contains t with
  | true=>rw [e] at this; simp [aK,this] at hs
  | false =>
   rw [e] at this;refine⟨rfl,?_⟩
   rw [<- hs];exact EY this.symm
 have r:=base_HR (is:=is) (F':=aK st'.F) (H':=st'.H) (D':=st'.D) (base:=base)
  (fun t s hs=>by rw [hb.slot t (QR t s hs).1]; exact hs)
  (fun t s hs=>by rw [b.len]; exact hF t s (QR t s hs).2) (b.wf hH) hb.box eg.1
 refine⟨_,hS.rename (tz pls mj xs is base hd hg hp r (fun k hk=>?_) f1 (fun i bx hi hl hm=>?_) (fun i j hm=>?_))⟩
 ·have hnk:¬ (base.H.length+k<base.H.length):=by omega
  simp only [shift,if_neg hnk,Nat.add_sub_cancel_left]
 ·have aN:=(List.getElem?_eq_some_iff.1 hi).1
  simp only [shift,aN,if_true] at hm;rw [f2 i hm bx hi] at hl;cases hl
 simp [shift,b.lt i j hm]
theorem kR:∀ (pls:List Pl) (xs:List LV) {st hd:St},kz pls xs st=some hd->(∀ t∈iG pls,W.contains t=true)->bj W st hd/\hd.c=st.c
 | [],[],st,hd,h,_=>by simp [kz] at h; subst h; exact⟨bj.refl,rfl⟩
 | [],_ :: _,st,hd,h,_=>by simp [kz] at h
 | .s t :: r,[],st,hd,h,_=>by simp [kz] at h
 | .c i j :: r,[],st,hd,h,_=>by simp [kz] at h
 | .s t :: r,.v x :: l,st,hd,h,hw=>by
  simp only [kz] at h;obtain⟨h1,h2⟩:=kR r l h (fun t ht=>hw t (List.mem_cons_of_mem _ ht));exact⟨(bj.nX (hw t (List.mem_cons_self ..))).trans h1,h2⟩
 | .s t :: r,.a e n ys :: l,st,hd,h,hw=>by
  simp only [kz] at h;obtain⟨h1,h2⟩:=kR r l h (fun t ht=>hw t (List.mem_cons_of_mem _ ht));exact⟨((bj.app (b:=.a n ys e)).trans (bj.nX (s:=.o st.H.length) (hw t (List.mem_cons_self ..)))).trans h1,h2⟩
 | .c i j :: r,.v x :: l,st,hd,h,hw=>by
  simp only [kz] at h;split at h
  ·obtain⟨h1,h2⟩:=kR r l h hw
   exact⟨bj.set.trans h1,h2⟩
  cases h
 | .c i j :: r,.a e n ys :: l,st,hd,h,hw=>by
  simp only [kz] at h;split at h
  ·rename_i cs u _
   obtain⟨h1,h2⟩:=kR r l h hw;exact⟨((bj.set (i:=i) (b:=.c (cs.set j (.o st.H.length)) u)).trans (bj.app (b:=.a n ys e))).trans h1,h2⟩
  cases h
theorem oe.pres' (b:oe W pls st base):bj W st base:=by
 have p:=b.pres;refine⟨fun t ht=>?_,fun h=>?_,by rw [b.len]; exact Nat.le_refl _,by rw [b.c]; omega,fun i d hi hd hc=>?_,fun i hi hn=>?_⟩
 ·apply EY; rw [b.F,ht]
 ·exact p.wf h
 ·exact p.box i d hi hd (by show d<st.c+1; omega)
 exact p.kind i hi hn
theorem oe.before (b:oe W pls st base):bj W st { st with c:=st.c+1,D:=base.D }:=by
 have p:=b.pres;refine⟨fun t ht=>rfl,fun h=>?_,Nat.le_refl _,by show st.c<=st.c+1; omega,fun i d hi hd hc=>⟨rfl,?_⟩,fun i hi hn=>?_⟩
 ·have:=p.wf h
  show base.D.length=st.H.length
  rw [<- b.len]; exact this
 ·exact(p.box i d hi hd (by show d<st.c+1; omega)).2
 exact p.kind i hi hn
structure At (P:Program) (N:Nat) (w0:World) (Vs:aa) (K:aa->List Value->Prop) (W:List Nat) (st0:St) (Ns0:List (List LV->aa->Prop)) (k:St->T) (a:Act) (w:World):Prop where
 ex:∃ st V V0 Ns ρ,bj W st0 st/\st.D.length=st.H.length/\(∃ e,Ns=Ns0++e)/\Ns.length=st.c/\Sat P N w0.heap.size (aK st.F) st.H V ρ a w/\Fr Vs V w0 w/\(k st).wp P K V V0 Ns
theorem At.trans {k:St->T} {W':List Nat} {Ns1} (h:At P N w0 Vs K W' Hn Ns1 k a w) (p:bj W st0 Hn) (hw:∀ t,W'.contains t=true->W.contains t=true) (he:∃ e,Ns1=Ns0++e) :
  At P N w0 Vs K W st0 Ns0 k a w:=by
 obtain⟨st,V,V0,Ns,ρ,h1,h2,⟨e,h3⟩,h4,h5,h6,h7⟩:=h.ex;obtain⟨e',he⟩:=he;exact⟨st,V,V0,Ns,ρ,p.trans (h1.wide hw),h2,⟨e'++e,by rw [h3,he,List.append_assoc]⟩,h4,h5,h6,h7⟩
def XO (N:Nat) (ops:Array Oper):Bool:=ops.toList.all fun o=>match o.dst with | some d=>Nat.blt d N | none=>true
def codeOk (N:Nat):Code->Bool
 | .region _ ops _=>XO N ops
 | .seq a b=>codeOk N a && codeOk N b
 | .cond _ a b=>codeOk N a && codeOk N b
 | .block _ c=>codeOk N c
 | .loop c=>codeOk N c
 | _=>true
theorem least (p:Nat->Prop) (h:∃ n,p n):∃ n,p n/\∀ m,p m->n<=m:=by
 obtain⟨n,hn⟩:=h
 induction n using Nat.strongRecOn with
 | _ n ih =>
  by_cases hm:∃ m,m<n/\p m
  ·obtain⟨m,h1,h2⟩:=hm
   exact ih m h1 h2
  exact⟨n,hn,fun m hp=>Nat.le_of_not_lt fun aN=>hm ⟨m,aN,hp⟩⟩
theorem XP {Q:Exit->Act->World->Prop} {c:Code} (I:Nat->Act->World->Prop) (n0:Nat) (h₀:I n0 a w)
  (round:∀ n a w,I n a w->c.wp P (Exit.then (fun a' w'=>∃ m,m<n/\I m a' w') Q) a w):(Code.loop c).wp P Q a w:=by
 classical
 let μ:Act->World->Nat:=fun a w=>if h:∃ n,I n a w then (least (fun n=>I n a w) h).choose else 0
 have hμ:∀ a w n,I n a w->I (μ a w) a w/\μ a w<=n:=by
  intro a w n hn;have hex:∃ n,I n a w:=⟨n,hn⟩;have hs:=(least (fun n=>I n a w) hex).choose_spec;have e:μ a w=(least (fun n=>I n a w) hex).choose:=dif_pos hex;rw [e];exact⟨hs.1,hs.2 n hn⟩
 refine wp_loop (fun a w=>∃ n,I n a w) μ ⟨n0,h₀⟩ fun a w ⟨n,hn⟩=>?_
 refine wp_mono (round (μ a w) a w (hμ a w n hn).1) fun e a' w' hq=>?_
 cases e with
 | normal =>
  obtain⟨m,h1,h2⟩:=hq;exact⟨⟨m,h2⟩,Nat.lt_of_le_of_lt (hμ a' w' m h2).2 h1⟩
 | _=>exact hq
theorem HZ {lbl:Nat} {Nn:List LV->aa->Prop} (b:oe W pls st base) (hb:Hb W base Hn)
  (hF:∀ t s,aK st.F t=some s->lW st.H.length s) (hH:XJ st.H)
  (h:At P N w0 Vs K W Hn Ns0 (nxT pls mj base lbl) a w) (hN:Ns0[lbl]?=some Nn) :
  ∃ xs V,Nn xs V/\Fr Vs V w0 w/\∀ hd,kz pls xs base=some hd->∃ ρ1,Sat P N w0.heap.size (aK hd.F) hd.H V ρ1 a w:=by
 obtain⟨HW,V,V0,Ns,ρ,h1,h2,⟨e,h3⟩,h4,h5,h6,h7⟩:=h.ex;obtain⟨st3,V',g1,g2,_,g3,g4,g5⟩:=iI (W:=W) _ h5 h6 h7;split at g5
 ·rename_i xs is hg
  split at g5
  ·rename_i eg
   obtain⟨Nx,e1,e2⟩:=g5;have aN:=(List.getElem?_eq_some_iff.1 hN).1;rw [h3,List.getElem?_append_left aN,hN] at e1;simp at e1;subst e1;exact⟨xs,V',e2,g4,fun hd hp=>HY b ((hb.step h1).step g1) hF hH g3 hg hp eg⟩
  exact g5.elim
 exact g5.elim
theorem zv {nf:List LV} {k:St->T} (h:(Ra pls base nf k).wp P K V V0 Ns):∃ hd,kz pls nf base=some hd/\(k hd).wp P K V V0 Ns:=by
 unfold Ra at h;split at h
 ·rename_i hd hp; exact⟨hd,hp,h⟩
 exact h.elim
variable {P:Program} {N:Nat} {w0:World} {Vs:aa} {a:Act} {w:World}
 {K:aa->List Value->Prop} {an:An}
theorem MR {ops:Array Oper} (h:XO N ops=true):∀ (i:Nat) (o:Oper) (d:Nat),ops[i]?=some o->o.dst=some d->d<N:=by
 intro i o d ho hd;simp only [XO,List.all_eq_true] at h;have hm:o∈ops.toList:=by simpa using Array.mem_of_getElem? ho
 have:=h o hm;rw [hd] at this;simpa [Nat.blt_eq] using this
theorem Ce {id:Nat} {ops:Array Oper} {Q:Exit->Act->World->Prop} {F:Fm} {H:List aT} {V V0:aa} {ρ:Nat->Nat × Nat} {Kf:Kt}
  (hr:R P ops false V0 Kf (List.range ops.size) F H V) (hN:∀ (i:Nat) (o:Oper) (d:Nat),ops[i]?=some o->o.dst=some d->d<N)
  (hQ:∀ F H V ρ a w,Sat P N w0.heap.size F H V ρ a w->Fr Vs V w0 w->Kf F H V->Q .normal a w)
  (hS:Sat P N w0.heap.size F H V ρ a w) (hF:Fr Vs V w0 w):(Code.region id ops false).wp P Q a w :=
 wp_region (R.sound hr hN hQ ρ a w hS hF)
theorem rK {st:St} {D:List Nat} {c:Nat}:∀ (pls:List Pl) (mj:List mP),qN { st with D:=D,c:=c } pls mj=qN st pls mj
 | [],[]=>rfl
 | [],_ :: _=>rfl
 | .s _ :: _,[]=>rfl
 | .c _ _ :: _,[]=>rfl
 | .s t :: r,sh :: l=>by simp only [qN,rK r l]
 | .c i j :: r,sh :: l=>by simp only [qN,rK r l]
theorem mr {F:Fm}:∀ {pns:List PlN} {pls:List Pl},named F pns=some pls->iG pls=rH pns
 | [],pls,h=>by simp [named] at h; subst h; rfl
 | .s t :: r,pls,h=>by
  simp only [named] at h;split at h
  ·rename_i l hl
   simp at h; subst h
   simp [iG,rH,mr hl]
  cases h
 | .c t j :: r,pls,h=>by
  simp only [named] at h;split at h
  ·rename_i i off l hF hl
   simp at h; subst h
   simp [iG,rH,mr hl]
  cases h
theorem Rf {α:Type _} {l:List α} {x:α} {n:Nat} (h:l.length=n):(l++[x])[n]?=some x:=by
 subst h;simp
theorem CJ {W:List Nat}:∀ (l:List aT) (st:St),bj W st { st with H:=st.H++l,D:=st.D++l.map fun _=>st.c }
 | [],st=>by simpa using (bj.refl (W:=W) (st:=st))
 | b :: r,st=>by
  have h:=(bj.app (W:=W) (st:=st) (b:=b)).trans (CJ r { st with H:=st.H++[b],D:=st.D++[st.c] });simpa using h
theorem SQ {W:List Nat} {ops:Array Oper} {st:St}:bj W st (ES ops st):=CJ (My ops) st
theorem H3 (hm:P.follows .mixedOrders=true):∀ (c:Code) {W:List Nat} {st0:St} {Ns0:List (List LV->aa->Prop)} {kn:St->T} {kx:Nat->St->T} {kr:St->T} {Q:Exit->Act->World->Prop} {a:Act} {w:World},
  codeOk N c=true->(∀ t,(writes an c).contains t=true->W.contains t=true)->At P N w0 Vs K W st0 Ns0 (fun st=>jV P an c st kn kx kr) a w ->
  (∀ a w,At P N w0 Vs K W st0 Ns0 kn a w->Q .normal a w)->(∀ e a w,At P N w0 Vs K W st0 Ns0 (kx e) a w->Q (.exit e) a w) ->
  (∀ a w,At P N w0 Vs K W st0 Ns0 kr a w->Q .ret a w)->c.wp P Q a w:=by
 intro c
 induction c with
 | skip=>intro W st0 Ns0 kn kx kr Q a w hc hw h hn hx hr; exact wp_skip (hn a w h)
 | region id ops dr =>
  intro W st0 Ns0 kn kx kr Q a w hc hw h hn hx hr;obtain⟨st,V,V0,Ns,ρ,h1,h2,h3,h4,h5,h6,h7⟩:=h.ex;have hN:=MR hc;have hW:∀ (i:Nat) (o:Oper) (d:Nat),ops[i]?=some o->o.dst=some d->W.contains d=true:=by
   intro i o d ho hd;apply hw
   have hm:o∈ops.toList:=by simpa using Array.mem_of_getElem? ho
   simp only [writes,List.contains_iff_mem,List.mem_filterMap];exact⟨o,hm,hd⟩
  have hlen:ops.toList.length=ops.size:=by simp
  have Rg:∀ (V0':aa) F H V' ρ' a' w',Sat P N w0.heap.size F H V' ρ' a' w'->Fr Vs V' w0 w' ->
    (∃ st',bj W st st'/\st'.c=st.c/\aK st'.F=F/\st'.H=H/\(kn st').wp P K V' V0' Ns)->Q .normal a' w':=by
   rintro V0' F H V' ρ' a' w' hS hF ⟨st',g1,g2,rfl,rfl,g3⟩;exact hn a' w' ⟨st',V',V0',Ns,ρ',h1.trans g1,g1.wf h2,h3,by rw [h4,g2],hS,hF,g3⟩
  cases dr with
  | true =>
   simp only [jV] at h7;obtain⟨stf,Vf,q1,q2,q3,q4,q5,q6⟩:=iI (W:=W) _ h5 h6 h7;have h1:=h1.trans q1;have h2:=q1.wf h2;rw [<- q3] at h4;clear h5 h6 h7 Rg;split at q6
   rotate_left
   ·exact q6.elim
   rename_i hdok;have hpad:=SQ (W:=W) (ops:=ops) (st:=stf);have h1:=h1.trans hpad;have h2:=hpad.wf h2;have Rg:∀ (V0':aa) F H V' ρ' a' w',Sat P N w0.heap.size F H V' ρ' a' w'->Fr Vs V' w0 w' ->
     (∃ st',bj W (ES ops stf) st'/\st'.c=(ES ops stf).c/\aK st'.F=F/\st'.H=H/\(kn st').wp P K V' V0' Ns)->Q .normal a' w':=by
    rintro V0' F H V' ρ' a' w' hS hF ⟨st',g1,g2,rfl,rfl,g3⟩;exact hn a' w' ⟨st',V',V0',Ns,ρ',h1.trans g1,g1.wf h2,h3,by rw [h4,g2]; rfl,hS,hF,g3⟩
   obtain⟨U,hU,h7⟩:∃ U:aa,U.le Vf/\(rG P true ops ops.toList (ES ops stf) kn).wp P K Vf U Ns:=by
    split at q6
    ·exact q6
    exact⟨Vf,aa.le.refl _,q6⟩
   have:=XF (W:=W) (Kf:=fun F H V'=>∃ st',bj W (ES ops stf) st'/\st'.c=(ES ops stf).c/\aK st'.F=F/\st'.H=H/\(kn st').wp P K V' U Ns) hW ops.toList 0 rfl (ES ops stf) Vf h7
    (fun st' V' g1 g2 g3=>⟨st',g1,g2,rfl,rfl,g3⟩)
   rw [hlen,<- List.range_eq_range'] at this;exact MI (F:=aK stf.F) (H:=stf.H) hm hdok hN (Rg U) hU this q4 q5
  | false =>
   simp only [jV] at h7;have:=XF (W:=W) (Kf:=fun F H V'=>∃ st',bj W st st'/\st'.c=st.c/\aK st'.F=F/\st'.H=H/\(kn st').wp P K V' V0 Ns) hW ops.toList 0 rfl st V h7
    (fun st' V' g1 g2 g3=>⟨st',g1,g2,rfl,rfl,g3⟩)
   rw [hlen,<- List.range_eq_range'] at this;exact Ce this hN (Rg V0) h5 h6
 | seq x y ihx ihy =>
  intro W st0 Ns0 kn kx kr Q a w hc hw h hn hx hr;simp only [codeOk,Bool.and_eq_true] at hc;have hwx:∀ t,(writes an x).contains t=true->W.contains t=true:=fun t ht=>hw t (by simp only [writes,List.contains_iff_mem,List.mem_append] at ht ⊢; exact .inl (.inl ht))
  have hwy:∀ t,(writes an y).contains t=true->W.contains t=true:=fun t ht=>hw t (by simp only [writes,List.contains_iff_mem,List.mem_append] at ht ⊢; exact .inl (.inr ht))
  refine wp_seq ?_
  obtain⟨st,V,V0,Ns,ρ,h1,h2,h3,h4,h5,h6,h7⟩:=h.ex;simp only [jV] at h7;split at h7
  ·refine ihx (kn:=fun st=>jV P an y st kn kx kr) (kx:=kx) (kr:=kr) hc.1 hwx ⟨st,V,V0,Ns,ρ,h1,h2,h3,h4,h5,h6,h7⟩ ?_ ?_ ?_
   ·intro a' w' h'; exact ihy hc.2 hwy h' hn hx hr
   ·intro e a' w' h'; exact hx e a' w' h'
   intro a' w' h'; exact hr a' w' h'
  rename_i pns mj hl;split at h7
  ·exact h7.elim
  rename_i pls hpn;split at h7
  ·exact h7.elim
  rename_i base hb;have b:=zt hb;obtain⟨inv,g1,g2⟩:=h7;have EZ:∀ t,(iG pls++writes an x).contains t=true->W.contains t=true:=by
   intro t ht;simp only [List.contains_iff_mem,List.mem_append] at ht;rcases ht with ht | ht
   ·apply hw; simp only [writes,hl,List.contains_iff_mem,List.mem_append,<- mr hpn]; exact .inr ht
   exact hwx t (by simpa using ht)
  have hwx':∀ t,(writes an x).contains t=true->(iG pls++writes an x).contains t=true:=by
   intro t ht;simp only [List.contains_iff_mem,List.mem_append] at ht ⊢;exact .inr ht
  have B3:base.D.length=st.H.length:=by
   have:=b.pres.wf h2;rw [<- b.len]; exact this
  have H5:∀ {k:St->T} {Na:List LV->aa->Prop} {a' w'},At P N w0 Vs K (iG pls++writes an x) { st with c:=st.c+1,D:=base.D } (Ns++[Na]) k a' w'->At P N w0 Vs K W st0 Ns0 k a' w':=by
   intro k Na a' w' h';obtain⟨e,he⟩:=h3;exact h'.trans (h1.trans (b.before.wide EZ)) EZ ⟨e++[Na],by rw [he,List.append_assoc]⟩
  refine ihx (W:=iG pls++writes an x) (st0:={ st with c:=st.c+1,D:=base.D }) (Ns0:=Ns++[fun vs V'=>∃ y',vs=cH.nf mj y'/\inv y' V']) (kn:=nxT pls mj base st.c) (kx:=kx) (kr:=kr) hc.1 hwx'
   ⟨_,V,V0,Ns++[fun vs V'=>∃ y',vs=cH.nf mj y'/\inv y' V'],ρ,bj.refl,B3,⟨[],by simp⟩,by simp [h4],h5,h6,g1⟩ ?_ ?_ ?_
  ·intro a' w' h'
   obtain⟨xs,V',⟨y',rfl,hinv⟩,MQ,bC⟩:=HZ b b.hb h5.wfF h5.wfH h' (Rf h4);obtain⟨hd,hp,hwp⟩:=zv (g2 y' V' hinv);obtain⟨ρ1,hS⟩:=bC hd hp;obtain⟨p1,p2⟩:=kR (W:=W) pls _ hp (fun t ht=>EZ t (by simp only [List.contains_iff_mem,List.mem_append]; exact .inl ht))
   obtain⟨e,he⟩:=h3;have XQ:bj W st hd:=(b.pres'.wide EZ).trans p1;refine ihy hc.2 hwy ⟨hd,V',V',Ns++[fun _ _=>False],ρ1,h1.trans XQ,XQ.wf h2,⟨e++[fun _ _=>False],by rw [he,List.append_assoc]⟩,by simp [p2,b.c,h4],hS,MQ,hwp⟩ hn hx hr
  ·intro e a' w' h'; exact hx e a' w' (H5 h')
  intro a' w' h'; exact hr a' w' (H5 h')
 | cond c x y ihx ihy =>
  intro W st0 Ns0 kn kx kr Q a w hc hw h hn hx hr;simp only [codeOk,Bool.and_eq_true] at hc;have hwx:∀ t,(writes an x).contains t=true->W.contains t=true:=fun t ht=>hw t (by simp only [writes,List.contains_iff_mem,List.mem_append] at ht ⊢; exact .inl ht)
  have hwy:∀ t,(writes an y).contains t=true->W.contains t=true:=fun t ht=>hw t (by simp only [writes,List.contains_iff_mem,List.mem_append] at ht ⊢; exact .inr ht)
  obtain⟨st,V,V0,Ns,ρ,h1,h2,h3,h4,h5,h6,h7⟩:=h.ex;simp only [jV,condT] at h7;split at h7
  ·rename_i t
   have hev:∀ b,aK st.F t=some (.v (.bool b))->a.eval (.tmp t)=.bool b:=by
    intro b hb;have:=h5.slot t _ (.bool b) hb rfl;simp [Act.eval,this]
   split at h7
   ·rename_i hF
    exact wp_cond_true (hev true (by simp [aK,hF,eT])) (ihx hc.1 hwx ⟨st,V,V0,Ns,ρ,h1,h2,h3,h4,h5,h6,h7⟩ hn hx hr)
   ·rename_i hF
    exact wp_cond_false (hev false (by simp [aK,hF,eT])) (ihy hc.2 hwy ⟨st,V,V0,Ns,ρ,h1,h2,h3,h4,h5,h6,h7⟩ hn hx hr)
   ·rename_i b hF
    have hu:=zr hF;have hp:bj W st { st with F:=nX st.F t (.k b) } :=
     ⟨fun t' _=>by show aK (nX st.F t (.k b)) t'=_; rw [hu],id,Nat.le_refl _,Nat.le_refl _,fun _ _ _ hd _=>⟨rfl,hd⟩,fun _ _ hh=>hh⟩
    have h5':Sat P N w0.heap.size (aK (nX st.F t (.k b))) st.H V ρ a w:=by rw [hu]; exact h5
    have h7':=pz h7;cases b with
    | true=>exact wp_cond_true (hev true (by simp [aK,hF,eT])) (ihx hc.1 hwx ⟨{ st with F:=nX st.F t (.k true) },V,V0,Ns,ρ,h1.trans hp,h2,h3,h4,h5',h6,h7'⟩ hn hx hr)
    | false=>exact wp_cond_false (hev false (by simp [aK,hF,eT])) (ihy hc.2 hwy ⟨{ st with F:=nX st.F t (.k false) },V,V0,Ns,ρ,h1.trans hp,h2,h3,h4,h5',h6,h7'⟩ hn hx hr)
   exact h7.elim
  ·exact wp_cond_true rfl (ihx hc.1 hwx ⟨st,V,V0,Ns,ρ,h1,h2,h3,h4,h5,h6,h7⟩ hn hx hr)
  ·exact wp_cond_false rfl (ihy hc.2 hwy ⟨st,V,V0,Ns,ρ,h1,h2,h3,h4,h5,h6,h7⟩ hn hx hr)
  exact h7.elim
 | block id c ih =>
  intro W st0 Ns0 kn kx kr Q a w hc hw h hn hx hr;refine wp_block ?_
  refine ih (W:=W) (st0:=st0) (Ns0:=Ns0) (kn:=kn) (kx:=fun e st=>match Nat.beq e id with | true=>kn st | false=>kx e st) (kr:=kr) hc hw h ?_ ?_ ?_
  ·intro a' w' h'; exact hn a' w' h'
  ·intro e a' w' h'
   simp only [Exit.inBlock]
   by_cases he:e=id
   ·rw [if_pos he]
    have hb:Nat.beq e id=true:=by simp [he]
    simp only [hb] at h';exact hn a' w' h'
   rw [if_neg he];have hb:Nat.beq e id=false:=by
    cases hq:Nat.beq e id with
    | false=>rfl
    | true=>exact(he (Nat.eq_of_beq_eq_true hq)).elim
   simp only [hb] at h';exact hx e a' w' h'
  intro a' w' h'; exact hr a' w' h'
 | loop c ih =>
  intro W st0 Ns0 kn kx kr Q a w hc hw h hn hx hr;obtain⟨st,V,V0,Ns,ρ,h1,h2,h3,h4,h5,h6,h7⟩:=h.ex;simp only [jV] at h7;obtain⟨st,V,f1,_,f3,h5,h6,h7⟩:=iI (W:=W) _ h5 h6 h7;have h1:=h1.trans f1;have h2:=f1.wf h2;rw [<- f3] at h4;clear f1 f3;split at h7
  ·exact h7.elim
  rename_i pns mj hl;split at h7
  ·exact h7.elim
  rename_i pls hpn;obtain⟨st',V',f1,f2,f3,f4,f5,f6⟩:=iI (W:=W) _ h5 h6 h7;have h1:=h1.trans f1;have h2:=f1.wf h2;rw [<- f3] at h4;clear h5 h6 h7;split at f6
  ·rename_i base xs is hb hg
   have b:=zt hb;split at f6
   ·rename_i eg
    obtain⟨inv,μ,⟨y0,hy0,hinv0⟩,lB⟩:=f6;have hwc:∀ t,(writes an c).contains t=true->W.contains t=true:=fun t ht=>hw t (by simp only [writes,List.contains_iff_mem,List.mem_append] at ht ⊢; exact .inl ht)
    have EZ:∀ t,(iG pls++writes an c).contains t=true->W.contains t=true:=by
     intro t ht;simp only [List.contains_iff_mem,List.mem_append] at ht;rcases ht with ht | ht
     ·apply hw; simp only [writes,hl,List.contains_iff_mem,List.mem_append,<- mr hpn]; exact .inr ht
     exact hwc t (by simpa using ht)
    have hwc':∀ t,(writes an c).contains t=true->(iG pls++writes an c).contains t=true:=by
     intro t ht;simp only [List.contains_iff_mem,List.mem_append] at ht ⊢;exact .inr ht
    refine XP (fun n a w=>∃ y V1,μ y V1=n/\inv y V1/\Fr Vs V1 w0 w/\∀ hd,kz pls (cH.nf mj y) base=some hd->∃ ρ1,Sat P N w0.heap.size (aK hd.F) hd.H V1 ρ1 a w)
     (μ y0 V') ⟨y0,V',rfl,hinv0,f5,fun hd hp=>?_⟩ ?_
    ·rw [<- hy0] at hp
     exact HY b b.hb f4.wfF f4.wfH (st':={ st' with c:=st'.c+1,D:=base.D }) f4 (by rw [rK]; exact hg) hp eg
    rintro n a w ⟨y,V1,gm,hinv,MQ,bC⟩;obtain⟨hd,hp,hwp⟩:=zv (lB y V1 hinv);obtain⟨ρ1,hS⟩:=bC hd hp;obtain⟨p1,p2⟩:=kR (W:=iG pls++writes an c) pls _ hp (fun t ht=>by simp only [List.contains_iff_mem,List.mem_append]; exact .inl ht)
    have XQ:bj W st' hd:=(b.pres'.trans p1).wide EZ;have H5:∀ {k:St->T} {Na:List LV->aa->Prop} {a' w'},At P N w0 Vs K (iG pls++writes an c) hd (Ns++[Na]) k a' w'->At P N w0 Vs K W st0 Ns0 k a' w':=by
     intro k Na a' w' h';obtain⟨e,he⟩:=h3;exact h'.trans (h1.trans XQ) EZ ⟨e++[Na],by rw [he,List.append_assoc]⟩
    refine ih (W:=iG pls++writes an c) (st0:=hd) (Ns0:=Ns++[fun vs V'=>∃ y',vs=cH.nf mj y'/\inv y' V'/\μ y' V'<μ y V1]) (kn:=nxT pls mj base st'.c) (kx:=kx) (kr:=kr) hc hwc'
     ⟨hd,V1,V1,Ns++[fun vs V'=>∃ y',vs=cH.nf mj y'/\inv y' V'/\μ y' V'<μ y V1],ρ1,bj.refl,XQ.wf h2,⟨[],by simp⟩,by simp [p2,b.c,h4],hS,MQ,hwp⟩ ?_ ?_ ?_
    ·intro a' w' h'
     obtain⟨xs',V2,⟨y',rfl,hinv',aN⟩,hfr',hall'⟩:=HZ b (Hb.of p1) f4.wfF f4.wfH h' (Rf h4);exact⟨μ y' V2,by rw [<- gm]; exact aN,y',V2,rfl,hinv',hfr',hall'⟩
    ·intro e a' w' h'; exact hx e a' w' (H5 h')
    intro a' w' h'; exact hr a' w' (H5 h')
   exact f6.elim
  exact f6.elim
 | exit id =>
  intro W st0 Ns0 kn kx kr Q a w hc hw h hn hx hr;exact wp_exit (hx id a w h)
 | ret =>
  intro W st0 Ns0 kn kx kr Q a w hc hw h hn hx hr;exact wp_ret (hr a w h)
 | _ =>
  intro W st0 Ns0 kn kx kr Q a w hc hw h hn hx hr;obtain⟨st,V,V0,Ns,ρ,h1,h2,h3,h4,h5,h6,h7⟩:=h.ex;exact h7.elim
variable {P:Program} {N:Nat} {w0:World} {Vs V V0:aa} {ρ:Nat->Nat × Nat} {a:Act} {w:World}
 {K:aa->List Value->Prop} {Ns:List (List LV->aa->Prop)} {an:An} {st:St}
def E0 (tmps:Array Value) (x:ResultVar):Sem Value:=match x with
 | .tmp t=>pure (tmps.getD t undef)
 | .cell a t=>do loadVar t (<- asAddr (tmps.getD a undef))
theorem CK (hS:Sat P N w0.heap.size (aK st.F) st.H V ρ a w) {t:Nat} {s:SV} {x:Value} (h:st.F t=some s) (hx:cv ρ st.H s=some x):a.tmps.getD t undef=x:=by
 have:=hS.slot t _ x (tm h) (by rw [XM]; exact hx)
 simp [Array.getD_eq_getD_getElem?,this]
theorem pB (hS:Sat P N w0.heap.size (aK st.F) st.H V ρ a w):∀ {l:List ResultVar} {vs:List Value},ml P st l=some vs->(l.mapM (E0 a.tmps)).run P w=.ok vs w
 | [],vs,h=>by simp [ml] at h; subst h; rfl
 | .tmp t :: r,vs,h=>by
  simp only [ml] at h;split at h
  ·rename_i s l hs hl
   split at h
   ·rename_i x hx
    simp at h; subst h
    have ih:=pB hS hl;have:=CK hS hs (XL hx ρ);simp [List.mapM_cons,E0,this,ih]
   cases h
  cases h
 | .cell c t :: r,vs,h=>by
  simp only [ml] at h;split at h
  ·rename_i i off n l hs hn hl
   split at h
   ·rename_i l' BZ
    split at h
    ·rename_i x hj
     simp at h; subst h
     have ih:=pB hS hl;obtain⟨g1,g2,g3⟩:=yP hS BZ;have ht:=CK hS hs g2;obtain⟨y,hy,yQ⟩:=vA (ad:=⟨(ρ i).1,off,none⟩) hn g1 hj (fun j u x hu hx=>by rw [ah]; exact g3 j u x hu hx)
      (fun j hj=>by rw [ah]; exact Hv hS BZ j hj)
     have:x=y:=yQ x rfl;subst this;simp [List.mapM_cons,E0,ht,ih,asAddr,hy]
    cases h
   cases h
  cases h
def packed (vs:List Value):Value:=match vs with | [x]=>x | vs=>.tuple vs.toArray
theorem H6 (hS:Sat P N w0.heap.size (aK st.F) st.H V ρ a w) {fn:Func} {vs:List Value} (h:ml P st fn.results.toList=some vs):(results fn a.tmps).run P w=.ok (packed vs) w:=by
 have:=pB hS h;have e:results fn a.tmps=(do let vs <- fn.results.mapM (E0 a.tmps); pure (if h:vs.size=1 then vs[0] else .tuple vs)):=rfl
 rw [e,Array.mapM_eq_mapM_toList];simp [this];cases vs with
 | nil=>simp [packed]
 | cons x r=>cases r with
  | nil=>simp [packed]
  | cons y r=>simp [packed]
theorem zx {W:List Nat} {st0:St} {Ns0:List (List LV->aa->Prop)} {fn:Func} (h:At P N w0 Vs K W st0 Ns0 (Xy P fn) a w) :
  a.defers=[]/\∃ v,(results fn a.tmps).run P w=.ok v w/\∃ V' vs,v=packed vs/\Fr Vs V' w0 w/\V'.on w/\K V' vs:=by
 obtain⟨st,V,V0,Ns,ρ,h1,h2,h3,h4,h5,h6,h7⟩:=h.ex;obtain⟨st',V',f1,f2,f3,f4,f5,f6⟩:=iI (W:=W) _ h5 h6 h7;split at f6
 ·rename_i vs hv
  exact⟨f4.defers,packed vs,H6 f4 hv,V',vs,rfl,f5,f4.know,f6⟩
 exact f6.elim
theorem XR {args:List Value} {n:Nat} (hn:args.length<=n) (hV:V.on w) :
  Sat P n w.heap.size (aK (Xz args n)) [] V (fun _=>(0,0)) { tmps:=args.toArray++Array.replicate (n-args.toArray.size) undef,defers:=[] } w:=by
 refine⟨rfl,by simp; omega,fun t s x hs hx=>?_,fun i b hb=>by simp at hb,fun i j b c hb=>by simp at hb,fun i b hb=>by simp at hb,fun i b hb=>by simp at hb,hV,fun t s hs=>?_,fun i cs t hb=>by simp at hb⟩
 ·simp only [aK,Xz] at hs
  cases ht:args[t]? with
  | some y =>
   rw [ht] at hs;simp at hs;subst hs;have aN:=(List.getElem?_eq_some_iff.1 ht).1;have e:y=x:=by
    cases y <;> simpa [eT,cv] using hx
   subst e;rw [Array.getElem?_append_left (by simpa using aN)];simpa using ht
  | none =>
   rw [ht] at hs;simp only at hs
   by_cases aN:t<n
   ·simp only [aN,if_true] at hs
    simp at hs;subst hs;have e:undef=x:=by simpa [eT,cv] using hx
    subst e;have cg:args.length<=t:=by simpa using ht
    rw [Array.getElem?_append_right (by simpa using cg)];simp [Array.getElem?_replicate];omega
   simp [aN] at hs
 simp only [aK,Xz] at hs;cases ht:args[t]? with
 | some y=>rw [ht] at hs; simp at hs; subst hs; trivial
 | none =>
  rw [ht] at hs;simp only at hs
  by_cases aN:t<n
  ·simp [aN] at hs; subst hs; trivial
  simp [aN] at hs
theorem enter {f:FuncId} {fn:Func} {c:Code} {args:List Value} {K:aa->Value->Prop} (hm:P.follows .mixedOrders=true) (hf:P.funcs[f]?=some fn) (hb:fn.body=some c)
  (hname : (fn.name == "runtime.NumGoroutine") = false) (eg : codeOk fn.ntmps c = true) (hn : args.length ≤ fn.ntmps)
  (h:(∃ w,V.on w)->(dec P an fn c args).wp P (fun V' vs=>K V' (packed vs)) V V []):ae P V f args K:=by
 refine⟨⟨fn,hf,by simp [hb],hname⟩,fun w hV=>?_⟩
 refine calls_of_wp hf hb ?_
 have WN:At P fn.ntmps w V (fun V' vs=>K V' (packed vs)) (writes an c) ⟨Xz args fn.ntmps,[],[],0⟩ [] (fun st=>jV P an c st (Xy P fn) (fun _ _=>.no) (Xy P fn))
   { tmps:=args.toArray++Array.replicate (fn.ntmps-args.toArray.size) undef,defers:=[] } w :=
  ⟨_,V,V,[],_,bj.refl,rfl,⟨[],rfl⟩,rfl,XR hn hV,Fr.refl V w,h ⟨w,hV⟩⟩
 refine H3 hm c eg (fun _ h=>h) WN ?_ ?_ ?_
 ·intro a' w' h'
  obtain⟨h1,v,h2,V',vs,rfl,h3,h4,h5⟩:=zx h';exact⟨h1,_,h2,V',_,rfl,h3,h4,h5⟩
 ·intro e a' w' h'
  obtain⟨st,V,V0,Ns,ρ,_,_,_,_,_,_,h7⟩:=h'.ex;exact h7.elim
 intro a' w' h';obtain⟨h1,v,h2,V',vs,rfl,h3,h4,h5⟩:=zx h';exact⟨h1,_,h2,V',_,rfl,h3,h4,h5⟩
def fits (P:Program) (an:An) (f:FuncId) (args:List Value) (t:T):Prop :=
 ∃ fn c, P.funcs[f]? = some fn ∧ fn.body = some c ∧ (fn.name == "runtime.NumGoroutine") = false ∧ codeOk fn.ntmps c = true ∧ Nat.ble args.length fn.ntmps = true ∧ dec P an fn c args = t
theorem ae.of_fits {f:FuncId} {args:List Value} {t:T} {K:aa->Value->Prop} (hm:P.follows .mixedOrders=true) (dY:fits P an f args t)
  (h:(∃ w,V.on w)->t.wp P (fun V' vs=>K V' (packed vs)) V V []):ae P V f args K:=by
 obtain⟨fn,c,h1,h2,h3,h4,h5,rfl⟩:=dY;exact enter hm h1 h2 h3 h4 (Nat.le_of_ble_eq_true h5) h
theorem aq {f : FuncId} {args : List Value} {t : T} (h : ((P.funcs[f]?).bind fun fn => fn.body.bind fun c => some (fn.name == "runtime.NumGoroutine", codeOk fn.ntmps c, Nat.ble args.length fn.ntmps, dec P an fn c args)) = some (false, true, true, t):=by kernel_rfl) : fits P an f args t := by
 cases h1:P.funcs[f]? with
 | none=>rw [h1] at h; cases h
 | some fn =>
  rw [h1] at h;simp only [Option.bind_some] at h;cases h2:fn.body with
  | none=>rw [h2] at h; cases h
  | some c =>
   rw [h2] at h;simp only [Option.bind_some,Option.some.injEq,Prod.mk.injEq] at h;exact⟨fn,c,h1,h2,h.1,h.2.1,h.2.2.1,h.2.2.2⟩
abbrev ai:ar:=⟨none,0,0⟩
abbrev aU:=dx.val (.g [.l,.l,.s,.l])
abbrev ct:=dx.val (.g [.s,.b,.l])
abbrev cA:=dx.val (.g [.b,.l,.i .i64])
abbrev cV:=dx.val (.g [.b,.l])
abbrev dJ:=dx.val (.g [.l])
abbrev fV:=dx.val (.g [.s,.s,.b,.l,.i .i64])
abbrev iK:=dx.val (.g [.s,.l])
abbrev lS:=dx.val (.g [.b,.l,.l])
abbrev l8:=dx.val (.g [.i .i64,.s,.s,.s,.s,.s,.b,.l,.i .i64,.l,.l,.b,.l,.i .i64,.s,.s,.b,.l,.i .i64])
abbrev WO:=dx.val (.g [.s,.s,.b,.l])
abbrev E1:=dx.val (.g [.s,.b,.l,.l])
abbrev E2:=dx.val (.g [.s,.s])
abbrev E3:=dx.val (.g [.s,.s,.b,.l,.b])
abbrev SR:=dx.val (.g [.s,.s,.i .i64,.i .i64])
abbrev qL:=Sc.val .l
abbrev nn:=(ar × ar × ByteArray × ar × PUnit:Type)
abbrev vr:=(ByteArray × Bool × ar × PUnit:Type)
abbrev yv:=(Bool × ar × PUnit:Type)
abbrev Ho:=(ar × PUnit:Type)
abbrev MS:=(ByteArray × ByteArray × Bool × ar × Int × PUnit:Type)
abbrev SS:=(ByteArray × ar × PUnit:Type)
abbrev SU:=(Bool × ar × Int × PUnit:Type)
abbrev WQ:=(Bool × ar × ar × PUnit:Type)
abbrev qy8:=(Int × ByteArray × ByteArray × ByteArray × ByteArray × ByteArray × Bool × ar × Int × ar × ar × Bool × ar × Int × ByteArray × ByteArray × Bool × ar × Int × PUnit:Type)
abbrev qy9:=(ByteArray × ByteArray × Bool × ar × PUnit:Type)
abbrev qy10:=(ByteArray × Bool × ar × ar × PUnit:Type)
end Sx
namespace Go.Proofs.YtahmmgiiojjhgaaGreatDoor
open Go.IntKind
open Sx
theorem wrap_i64 {n:Int} (h:-9223372036854775808<=n/\n<=9223372036854775807):i64.wrap n=n:=by
 simp only [IntKind.wrap];have h2:IntKind.i64.bits=64:=rfl;have h4:IntKind.i64.signed=true:=rfl;simp only [h2,h4,Bool.true_and]
 by_cases hn:0<=n
 ·have h3:n % 2 ^ 64=n:=Int.emod_eq_of_lt hn (by omega)
  rw [h3,if_neg (by simp; omega)]
 have h3:n % 2 ^ 64=n+2 ^ 64:=by
  rw [<- Int.add_emod_right];exact Int.emod_eq_of_lt (by omega) (by omega)
 rw [h3,if_pos (by simp; omega)]
 omega
theorem aG {V:aa} {b:Nat} {x} (h:V b=none):V.le (aB V b x):=by
 intro k y hk;simp only [aB]
 by_cases e:k=b
 ·subst e; rw [h] at hk; cases hk
 rw [if_neg e]; exact hk
theorem av {V:aa} {b:Nat} {x}:aB V b x b=some x:=by simp [aB]
theorem bh {V:aa} {b k:Nat} {x} (h:k≠b):aB V b x k=V k:=by simp [aB,h]
theorem eH {β:Type} {x y:List β} {o n:Nat}:fj (x++y) (x.length+o) n=fj y o n:=by
 simp only [fj,List.length_append];have hd:List.drop (x.length+o) (x++y)=List.drop o y:=by
  rw [<- List.drop_drop,List.drop_left]
 by_cases h:o+n<=y.length
 ·rw [if_pos h,if_pos (by omega),hd]
 rw [if_neg h,if_neg (by omega)]
theorem fK {β:Type} {x y:List β}:fj (x++y) 0 x.length=some x:=by
 simp [fj]
theorem qq {α β:Type} {f:α->List β} {m:Nat} (hf:∀ a,(f a).length=m):∀ {l:List α} {n:Nat} (h:n<l.length) (r:List β),fj (l.flatMap f++r) (n*m) m=some (f l[n])
 | a :: l,0,_,r=>by
  have:=fK (x:=f a) (y:=l.flatMap f++r);rw [hf] at this;rw [List.flatMap_cons,List.append_assoc,Nat.zero_mul];exact this
 | a :: l,n+1,h,r=>by
  have ih:=qq hf (l:=l) (n:=n) (by simpa using h) r;have e:(n+1)*m=(f a).length+n*m:=by rw [hf,Nat.add_mul,Nat.one_mul,Nat.add_comm]
  rw [List.flatMap_cons,List.append_assoc,e,eH,ih]
  rfl
theorem lp_once {P:Program} {K:aa->List Value->Prop} {V V0:aa} {Ns:List (List LV->aa->Prop)} {sh:List mP} {init:List LV} {body:cH sh->T} (y:cH sh) (hy:init=cH.nf sh y)
  (h:∀ N,(body y).wp P K V V (Ns++[N])):(T.lp sh init body).wp P K V V0 Ns:=by
 refine⟨fun y' V'=>y'=y/\V'=V,fun _=>0,⟨y,hy,rfl,rfl⟩,?_⟩
 rintro y' V' ⟨rfl,rfl⟩;exact h _
theorem H8 (b:ByteArray) (i:Nat) (r:List UInt8) (h:i<=b.size):ByteArray.toList.loop b i r=r.reverse++b.data.toList.drop i:=by
 induction hk:b.size-i generalizing i r with
 | zero =>
  have:i=b.size:=by omega
  subst this;unfold ByteArray.toList.loop;rw [if_neg (by omega)];have:b.data.toList.drop b.size=[]:=List.drop_of_length_le (by simp);rw [this,List.append_nil]
 | succ k ih =>
  unfold ByteArray.toList.loop;rw [if_pos (by omega),ih (i+1) _ (by omega) (by omega)];have aN:i<b.data.toList.length:=by simp; omega
  rw [List.drop_eq_getElem_cons aN];have hg:b.get! i=b.data.toList[i]:=by
   have:i<b.data.size:=by simpa using aN
   show b.data[i]! = _
   rw [getElem!_pos b.data i this]; simp
  rw [hg]; simp
theorem toList_data (b:ByteArray):b.toList=b.data.toList:=by
 unfold ByteArray.toList;rw [H8 b 0 [] (by omega)]; simp
theorem toList_inj {a b:ByteArray}:a.toList=b.toList↔a=b:=by
 refine⟨fun h=>?_,fun h=>by rw [h]⟩
 rw [toList_data,toList_data] at h;obtain⟨⟨l⟩⟩:=a;obtain⟨⟨m⟩⟩:=b;simp at h;subst h; rfl
theorem aR {a b:ByteArray}:(a.toList == b.toList)=true↔a=b:=by rw [beq_iff_eq]; exact toList_inj
theorem E4 {a b:ByteArray}:(a.toList == b.toList)=false↔a≠b:=by
 rw [<- Bool.not_eq_true,aR]
structure Rp (sh:List Sc) (α:Type) where
 R:aa->aH sh->α->List Nat->Prop
 cB:α->Nat
 loc:∀ {V V':aa} {c:aH sh} {x:α} {fp:List Nat},R V c x fp->(∀ b∈fp,V' b=V b)->R V' c x fp
 kn:∀ {V:aa} {c:aH sh} {x:α} {fp:List Nat},R V c x fp->∀ b∈fp,∃ y,V b=some y
section
variable {sh:List Sc} {α:Type}
theorem Rp.le (r:Rp sh α) {V V':aa} {c:aH sh} {x:α} {fp:List Nat} (h:r.R V c x fp) (hle:V.le V'):r.R V' c x fp :=
 r.loc h fun b hb=>by obtain⟨y,hy⟩:=r.kn h b hb; rw [hy]; exact hle b y hy
def kS (r:Rp sh α) (V:aa):List (aH sh)->List α->List Nat->Prop
 | [],[],fp=>fp=[]
 | c :: cs,x :: l,fp=>∃ f g,fp=f++g/\r.R V c x f/\kS r V cs l g
 | _,_,_=>False
theorem kS.loc {r:Rp sh α} {V V':aa}:∀ {cs:List (aH sh)} {l:List α} {fp:List Nat},kS r V cs l fp->(∀ b∈fp,V' b=V b)->kS r V' cs l fp
 | [],[],_,h,_=>h
 | _ :: _,_ :: _,_,⟨f,g,rfl,h1,h2⟩,hb=>⟨f,g,rfl,r.loc h1 fun b hm=>hb b (by simp [hm]),h2.loc fun b hm=>hb b (by simp [hm])⟩
theorem kS.kn {r:Rp sh α} {V:aa}:∀ {cs:List (aH sh)} {l:List α} {fp:List Nat},kS r V cs l fp->∀ b∈fp,∃ y,V b=some y
 | [],[],_,h,b,hb=>by
  have h:_=[]:=h;subst h; cases hb
 | _ :: _,_ :: _,_,⟨f,g,rfl,h1,h2⟩,b,hb=>by
  rcases List.mem_append.1 hb with hb | hb
  ·exact r.kn h1 b hb
  exact h2.kn b hb
theorem kS.le {r:Rp sh α} {V V':aa} {cs:List (aH sh)} {l:List α} {fp:List Nat} (h:kS r V cs l fp) (hle:V.le V'):kS r V' cs l fp :=
 h.loc fun b hb=>by obtain⟨y,hy⟩:=h.kn b hb; rw [hy]; exact hle b y hy
theorem kS.len {r:Rp sh α} {V:aa}:∀ {cs:List (aH sh)} {l:List α} {fp:List Nat},kS r V cs l fp->cs.length=l.length
 | [],[],_,_=>rfl
 | _ :: _,_ :: _,_,⟨_,_,_,_,h2⟩=>by simp [h2.len]
theorem kS.snoc {r:Rp sh α} {V:aa} {c:aH sh} {x:α} {f:List Nat} (hx:r.R V c x f):∀ {cs:List (aH sh)} {l:List α} {fp:List Nat},kS r V cs l fp->kS r V (cs++[c]) (l++[x]) (fp++f)
 | [],[],fp,h=>by
  have h:fp=[]:=h;subst h;exact⟨f,[],by simp,hx,rfl⟩
 | _ :: _,_ :: _,_,⟨f',g,rfl,h1,h2⟩=>⟨f',g++f,by simp,h1,h2.snoc hx⟩
theorem kS.at {r:Rp sh α} {V:aa}:∀ {cs:List (aH sh)} {l:List α} {fp:List Nat},kS r V cs l fp->∀ {i:Nat} (h:i<l.length),∃ (h':i<cs.length) (f:List Nat),r.R V cs[i] l[i] f/\∀ b∈f,b∈fp
 | [],[],_,_,_,h=>by simp at h
 | _ :: _,_ :: _,_,⟨f,g,rfl,h1,h2⟩,0,_=>⟨by simp,f,h1,fun b hb=>by simp [hb]⟩
 | _ :: _,_ :: _,_,⟨f,g,rfl,h1,h2⟩,i+1,h=>by
  obtain⟨h',f',k1,k2⟩:=h2.at (i:=i) (by simpa using h);exact⟨by simpa using h',f',k1,fun b hb=>by simp [k2 b hb]⟩
def aC (r:Rp sh α):List α->Nat
 | []=>0
 | x :: l=>r.cB x+aC r l
theorem cF:∀ (sh:List Sc) (c:aH sh),(aH.aD sh c).length=sh.length
 | [],_=>rfl
 | _ :: r,c=>by simp [aH.aD,cF r c.2]
def LR (r:Rp sh α) (V:aa) (s:ar) (l:List α) (fp:List Nat):Prop :=
 s.n=l.length/\s.n<=s.c/\s.n<=9223372036854775807 /\
  ((s.n=0/\(s.a=none->s.c=0)/\fp=[]) \/
   ∃ b pre post t fps cs,s.a=some ⟨b,List.length pre,none⟩/\V b=some (pre++(cs.flatMap (aH.aD sh)++post),t)/\kS r V cs l fps/\fp=b :: fps)
theorem LR.loc {r:Rp sh α} {V V':aa} {s:ar} {l:List α} {fp:List Nat} (h:LR r V s l fp) (hb:∀ b∈fp,V' b=V b):LR r V' s l fp:=by
 obtain⟨h1,h2,h3,h4⟩:=h;refine⟨h1,h2,h3,?_⟩
 rcases h4 with h4 | ⟨b,pre,post,t,fps,cs,k1,k2,k3,rfl⟩
 ·exact .inl h4
 exact .inr ⟨b,pre,post,t,fps,cs,k1,by rw [hb b (by simp),k2],k3.loc fun x hx=>hb x (by simp [hx]),rfl⟩
theorem LR.kn {r:Rp sh α} {V:aa} {s:ar} {l:List α} {fp:List Nat} (h:LR r V s l fp):∀ b∈fp,∃ y,V b=some y:=by
 obtain⟨h1,h2,h3,h4⟩:=h;intro b hb;rcases h4 with ⟨_,_,rfl⟩ | ⟨b',pre,post,t,fps,cs,k1,k2,k3,rfl⟩
 ·cases hb
 rcases List.mem_cons.1 hb with rfl | hb
 ·exact⟨_,k2⟩
 exact k3.kn b hb
theorem LR.le {r:Rp sh α} {V V':aa} {s:ar} {l:List α} {fp:List Nat} (h:LR r V s l fp) (hle:V.le V'):LR r V' s l fp :=
 h.loc fun b hb=>by obtain⟨y,hy⟩:=h.kn b hb; rw [hy]; exact hle b y hy
theorem LR.at {r:Rp sh α} {V:aa} {s:ar} {l:List α} {fp:List Nat} (h:LR r V s l fp) {i:Nat} (hi:i<l.length) :
  ∃ b o c f,s.a=some ⟨b,o,none⟩/\aQ V ((⟨b,o,none⟩:Addr).add (i*sh.length)) sh.length=some (aH.aD sh c)/\r.R V c l[i] f/\∀ b∈f,b∈fp:=by
 obtain⟨h1,h2,h3,h4⟩:=h;rcases h4 with ⟨h0,_,_⟩ | ⟨b,pre,post,t,fps,cs,k1,k2,k3,rfl⟩
 ·omega
 obtain⟨h',f,g1,g2⟩:=k3.at hi;refine⟨_,_,cs[i],f,k1,?_,g1,fun b hb=>by simp [g2 b hb]⟩
 simp only [ah,aQ,k2];rw [eH];exact qq (cF sh) h' post
theorem LR.part {r:Rp sh α} {V:aa} {s:ar} {l:List α} {fp:List Nat} (h:LR r V s l fp) {i:Nat} (hi:i<l.length) :
  ∃ b a c f,s.a=some ⟨b,a,none⟩/\(∀ (o n:Nat) l',fj (aH.aD sh c) o n=some l'->aQ V (((⟨b,a,none⟩:Addr).add (i*sh.length)).add o) n=some l')/\r.R V c l[i] f/\∀ b∈f,b∈fp:=by
 obtain⟨b,a,c,f,h1,h2,h3,h4⟩:=h.at hi;refine⟨b,a,c,f,h1,fun o n l' hc=>?_,h3,h4⟩
 simp only [ah,aQ] at h2 ⊢;split at h2
 ·rename_i cs t hs hv
  unfold fj at h2 hc ⊢;split at h2
  ·rename_i hle
   split at hc
   ·rename_i bG
    simp only [Option.some.injEq] at h2 hc;rw [cF] at bG;rw [if_pos (by omega)];simp only [Option.some.injEq];rw [<- hc,<- h2,List.drop_take,List.take_take,List.drop_drop]
    congr 1
    omega
   cases hc
  cases h2
 cases h2
end
def a8:Rp [] Unit where
 R _ _ _ fp:=fp=[]
 cB _:=0
 loc h _:=h
 kn h b hb:=by subst h; cases hb
def np {sh:List Sc} {α:Type} (r:Rp sh α):Rp (.i .i64 :: sh) (Int × α) where
 R V c x fp:=c.1=x.1/\r.R V c.2 x.2 fp
 cB x:=r.cB x.2
 loc h hb:=⟨h.1,r.loc h.2 hb⟩
 kn h:=r.kn h.2
def bB {sh:List Sc} {α:Type} (r:Rp sh α):Rp (.b :: sh) (Bool × α) where
 R V c x fp:=c.1=x.1/\r.R V c.2 x.2 fp
 cB x:=r.cB x.2
 loc h hb:=⟨h.1,r.loc h.2 hb⟩
 kn h:=r.kn h.2
def cr {sh:List Sc} {α:Type} (r:Rp sh α):Rp (.s :: sh) (ByteArray × α) where
 R V c x fp:=(c.1=x.1/\x.1.size<=9223372036854775807)/\r.R V c.2 x.2 fp
 cB x:=x.1.size+r.cB x.2
 loc h hb:=⟨h.1,r.loc h.2 hb⟩
 kn h:=r.kn h.2
def cC {se sh:List Sc} {α β:Type} (e:Rp se α) (r:Rp sh β):Rp (.l :: sh) (List α × β) where
 R V c x fp:=∃ f g,fp=f++g/\LR e V c.1 x.1 f/\r.R V c.2 x.2 g
 cB x:=x.1.length+aC e x.1+r.cB x.2
 loc:=by
  rintro V V' c x fp ⟨f,g,rfl,h1,h2⟩ hb;exact⟨f,g,rfl,h1.loc fun b hm=>hb b (by simp [hm]),r.loc h2 fun b hm=>hb b (by simp [hm])⟩
 kn:=by
  rintro V c x fp ⟨f,g,rfl,h1,h2⟩ b hb;rcases List.mem_append.1 hb with hb | hb
  ·exact h1.kn b hb
  exact r.kn h2 b hb
def Wr (V:aa) (fp:List Nat):Prop:=∀ b∈fp,∃ c t,V b=some (c,(t,(0,0)))
theorem Wr.le {V V':aa} {fp:List Nat} (h:Wr V fp) (hle:V.le V'):Wr V' fp:=fun b hb=>by obtain⟨c,t,k⟩:=h b hb; exact⟨c,t,hle _ _ k⟩
def cQ (V V':aa) (fp:List Nat):Prop:=fp.Nodup/\(∀ b∈fp,V b=none)/\Wr V' fp
theorem cQ.nil {V V':aa}:cQ V V' []:=⟨List.nodup_nil,(fun _ h=>by cases h),(fun _ h=>by cases h)⟩
theorem cL {V V1:aa} (h:V.le V1) {b:Nat} (hb:V1 b=none):V b=none:=by
 cases hv:V b with
 | none=>rfl
 | some x=>rw [h b x hv] at hb; cases hb
theorem cQ.append {V V1 V2:aa} {f g:List Nat} (hf:cQ V V1 f) (hg:cQ V1 V2 g) (h1:V.le V1) (h2:V1.le V2):cQ V V2 (f++g):=by
 refine⟨List.nodup_append.2 ⟨hf.1,hg.1,fun a ha b hb e=>?_⟩,fun b hb=>?_,fun b hb=>?_⟩
 ·subst e
  obtain⟨c,t,k⟩:=hf.2.2 a ha;rw [hg.2.1 a hb] at k; cases k
 ·rcases List.mem_append.1 hb with hb | hb
  ·exact hf.2.1 b hb
  exact cL h1 (hg.2.1 b hb)
 rcases List.mem_append.1 hb with hb | hb
 ·exact hf.2.2.le h2 b hb
 exact hg.2.2 b hb
theorem cQ.post {V V1 V2:aa} {f:List Nat} (hf:cQ V V1 f) (h:V1.le V2):cQ V V2 f:=⟨hf.1,hf.2.1,hf.2.2.le h⟩
theorem cQ.pre {V V1 V2:aa} {f:List Nat} (hf:cQ V1 V2 f) (h:V.le V1):cQ V V2 f:=⟨hf.1,fun b hb=>cL h (hf.2.1 b hb),hf.2.2⟩
def gy (t:Nat) (left:Int):Int:=if (t:Int)<=left then left-t else -1
theorem Rh {t u:Nat} {left:Int} (h:(t:Int)<=left):gy (t+u) left=gy u (gy t left):=by
 unfold gy;rw [if_pos h]
 by_cases h2:(u:Int)<=left-t
 ·rw [if_pos h2,if_pos (by omega)]; omega
 rw [if_neg h2,if_neg (by omega)]
theorem Ri {t u:Nat} {left:Int} (h:¬ (t:Int)<=left):gy (t+u) left=-1:=by
 unfold gy;rw [if_neg (by omega)]
theorem dk {t:Nat} {left:Int}:gy t left<0↔¬ (t:Int)<=left:=by
 unfold gy
 by_cases h:(t:Int)<=left
 ·rw [if_pos h]; omega
 rw [if_neg h]; omega
theorem dC {t:Nat} {left:Int} (h:(t:Int)<=left):gy t left=left-t:=if_pos h
end Go.Proofs.YtahmmgiiojjhgaaGreatDoor
