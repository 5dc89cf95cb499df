/-
  What a function does, told by what is known.
-/
import Derived.WalkKit
import Derived.Laws.AppendOwnNone
namespace Sx
open Go
abbrev vn:=TypeId × (Nat × Nat)
abbrev aa:=Nat->Option (List Value × vn)
inductive SV where
 | v (x:Value)
 | k (b:Bool)
 | p (i off:Nat)
 | o (i:Nat)
inductive aT where
 | c (cs:List SV) (t:TypeId)
 | a (n:Nat) (xs:List Value) (t:TypeId)
 | f (x:Value)
 | e (b:Nat)
 | x
def aT.live:aT->Bool
 | .c ..=>true
 | .a ..=>true
 | _=>false
abbrev Fm:=Nat->Option SV
abbrev Kt:=Fm->List aT->aa->Prop
def nX (F:Fm) (d:Nat) (s:SV):Fm:=fun t=>if t=d then some s else F t
def au (F:Fm) (d:Option Tmp) (s:SV):Fm:=match d with | some d=>nX F d s | none=>F
def aB (V:aa) (b:Nat) (x:List Value × vn):aa:=fun k=>if k=b then some x else V k
def res (H:List aT):SV->SV
 | .o i=>match H[i]? with | some (.f x)=>.v x | _=>.o i
 | .p i off=>match H[i]? with | some (.e b)=>.v (.pointer (some ⟨b,off,none⟩)) | _=>.p i off
 | s=>s
def ev (H:List aT) (F:Fm):Operand->Option SV
 | .tmp t=>match F t with | some s=>some (res H s) | none=>none
 | .const x=>some (.v x)
 | .global g=>some (.v (.pointer (some ⟨g,0,none⟩)))
 | .func f=>some (.v (.func (.func f) #[] #[]))
def prun (P:Program) {α:Type}:Sem α->Option α
 | .pure a=>some a
 | .program k=>prun P (k P)
 | .mark _ k=>prun P k
 | _=>none
theorem aZ {P:Program} {α:Type} {s:Sem α} {x:α} (h:prun P s=some x) (w:World):s.run P w=.ok x w:=by
 induction s with
 | pure a=>simp [prun] at h; subst h; rfl
 | program k ih=>exact ih _ h
 | mark m k ih=>exact ih h
 | _=>simp [prun] at h
def Sl (P:Program) (t:TypeId):Option Bool:=match P.underlying t with | some (.struct _)=>some true | some (.array _ _)=>some true | some _=>some false | none=>none
def Ml (P:Program) (t:TypeId) (k:Nat):Option (Nat × Nat) :=
 match P.underlying t with
 | some (.struct fs)=>match fs[k]? with | some f=>(match P.info? f.type with | some i=>some (f.offset,i.size) | none=>none) | none=>none
 | _=>none
def fj {α:Type} (l:List α) (off n:Nat):Option (List α):=if off+n<=l.length then some ((l.drop off).take n) else none
def iB:List SV->Option (List Value)
 | []=>some []
 | .v x :: r=>match iB r with | some l=>some (x :: l) | none=>none
 | _ :: _=>none
def kZ (H:List aT) (i:Nat):Bool:=match H[i]? with | some b=>b.live | none=>false
def aQ (V:aa) (a:Addr) (n:Nat):Option (List Value) :=
 match a.spot,V a.block with
 | none,some (cs,_)=>fj cs a.off n
 | _,_=>none
def fA (l:List Value):Bool:=l.all fun x=>match x with | .tuple _=>false | _=>true
def gF (H:List aT) (i off n:Nat):Option (List SV) :=
 match H[i]? with
 | some (.c cs _)=>match fj cs off n with | some l=>some (l.map (res H)) | none=>none
 | some (.a _ xs _)=>match fj xs off n with | some l=>some (l.map .v) | none=>none
 | _=>none
def join (P:Program) (t:TypeId) (l:List SV):Option SV :=
 match Sl P t with
 | some true=>match iB l with | some l=>some (.v (.agg l.toArray)) | none=>none
 | some false=>match l with | [s]=>some s | _=>none
 | none=>none
def bo (P:Program) (t:TypeId):Option Nat:=match P.info? t with | some i=>some i.size | none=>none
def elemOf (P:Program) (t:TypeId):Option Nat:=match P.underlying t with | some (.slice e)=>bo P e | _=>none
def idx (P:Program) (H:List aT) (t:TypeId):SV->SV->Option SV
 | .o j,.v (.int _ n)=>match H[j]?,elemOf P t with
  | some (.a len _ _),some sz=>if 0<=n/\n<len then some (.p j (n.toNat*sz)) else none
  | _,_=>none
 | .v (.slice (some a) len _),.v (.int _ n)=>match elemOf P t with
  | some sz=>if 0<=n/\n<len then some (.v (.pointer (some (a.add (n.toNat*sz))))) else none
  | none=>none
 | .v (.pointer (some a)),.v (.int _ n)=>match P.underlying t with
  | some (.array len e)=>(match bo P e with | some sz=>(if 0<=n/\n<(len:Int) then some (.v (.pointer (some (a.add (n.toNat*sz))))) else none) | none=>none)
  | _=>none
 | _,_=>none
def cD (H:List aT) (F:Fm) (x:Operand):Value:=match ev H F x with | some (.v y)=>y | _=>undef
def bA (H:List aT) (F:Fm):List Operand->Bool
 | []=>true
 | x :: r=>match ev H F x with | some (.v _)=>bA H F r | _=>false
def aJ (P:Program) (H:List aT) (F:Fm) (o:Oper):Option SV :=
 match bA H F o.op.operands.toList with
 | true=>match prun P (execOp (cD H F) o) with | some (.value r)=>some (.v r) | _=>none
 | false=>none
def isLen (c:Call):Bool:=match c.callee with | .builtin .len=>true | _=>false
def ph:Op->Bool | .select ..=>true | _=>false
def jJ:List Value->ByteArray->Option ByteArray
 | [],s=>some s
 | .int .u8 n :: r,s=>jJ r (s.push (UInt8.ofNat n.toNat))
 | _ :: _,_=>none
def bytesOf (l:List Value):Option ByteArray:=jJ l .empty
def isSb (P:Program) (src dst:TypeId):Bool:=match P.underlying src,P.underlying dst with
 | some .string,some (.slice e)=>(match P.underlying e with | some (.int .u8)=>true | _=>false)
 | _,_=>false
def Sm (P:Program) (src dst:TypeId):Bool:=match P.underlying src,P.underlying dst with
 | some (.slice e),some .string=>(match P.underlying e with | some (.int .u8)=>true | _=>false)
 | _,_=>false
def bP (P:Program) (V:aa) (H:List aT) (F:Fm) (o:Oper):Option SV :=
 match o.op with
 | .move x=>ev H F x
 | .assign x=>ev H F x
 | .pick c a b=>match ev H F c with
  | some (.v (.bool true))=>ev H F a
  | some (.v (.bool false))=>ev H F b
  | _=>none
 | .fieldAddr t x k=>match ev H F x,Ml P t k with
  | some (.p i off),some (d,_+1)=>match kZ H i with | true=>some (.p i (off+d)) | false=>none
  | some (.v (.pointer (some a))),some (d,_+1)=>some (.v (.pointer (some (a.add d))))
  | _,_=>none
 | .indexAddr t x i=>match ev H F x,ev H F i with
  | some s,some n=>idx P H t s n
  | _,_=>none
 | .load t x=>match ev H F x,bo P t with
  | some (.p i off),some n=>match gF H i off n with | some l=>join P t l | none=>none
  | some (.v (.pointer (some a))),some n=>match aQ V a n with | some l=>(match fA l with | true=>join P t (l.map .v) | false=>none) | none=>none
  | _,_=>none
 | .call c=>match isLen c,c.args.toList,c.argTypes.toList with
  | true,[x],[t]=>match ev H F x,P.underlying t with
   | some (.o j),some (.slice _)=>match H[j]? with | some (.a n _ _)=>some (.v (.int .i64 n)) | _=>none
   | some (.v _),_=>aJ P H F o
   | _,_=>none
  | _,_,_=>aJ P H F o
 | .convert src dst x=>match Sm P src dst,ev H F x with
  | true,some (.v (.slice (some ad) n _))=>if n=0 then some (.v (.string .empty)) else match aQ V ad n with | some l=>(match bytesOf l with | some s=>some (.v (.string s)) | none=>none) | none=>none
  | _,_=>aJ P H F o
 | _=>aJ P H F o
structure Fr (V V':aa) (w w':World):Prop where
 os:w'.os=w.os
 tape:w'.tape=w.tape
 output:w'.output=w.output
 size:w.heap.size<=w'.heap.size
 j9:∀ b,b<w.heap.size->V b=none->w'.heap[b]?=w.heap[b]?
 dom:∀ b,b<w.heap.size->V b=none->V' b=none
theorem Fr.refl (V:aa) (w:World):Fr V V w w:=⟨rfl,rfl,rfl,Nat.le_refl _,fun _ _ _=>rfl,fun _ _ h=>h⟩
theorem Fr.trans {V V1 V2:aa} {w w1 w2:World} (h:Fr V V1 w w1) (k:Fr V1 V2 w1 w2):Fr V V2 w w2 :=
 ⟨k.os.trans h.os,k.tape.trans h.tape,k.output.trans h.output,Nat.le_trans h.size k.size,
  fun b hb hn=>(k.j9 b (Nat.lt_of_lt_of_le hb h.size) (h.dom b hb hn)).trans (h.j9 b hb hn),
  fun b hb hn=>k.dom b (Nat.lt_of_lt_of_le hb h.size) (h.dom b hb hn)⟩
def encE (e:MapEntry):Value:=.tuple #[e.key,e.val,.int .i64 e.born]
def decE:Value->MapEntry
 | .tuple ⟨[k,x,.int _ n]⟩=>⟨k,x,n.toNat⟩
 | _=>default
theorem dec_enc (e:MapEntry):decE (encE e)=e:=rfl
def oU (c:List Value) (t:vn):Obj:=match c with
 | [.tuple es]=>if t.2=(1,0) then .map (es.map decE) t.1 else .cells c.toArray t.1 t.2
 | _=>.cells c.toArray t.1 t.2
theorem gJ (c:List Value) (u:TypeId):oU c (u,(0,0))=.cells c.toArray u (0,0):=by
 unfold oU;split
 ·rw [if_neg (by simp)]
 rfl
theorem wQ {c:List Value} {t:vn} (h:fA c=true):oU c t=.cells c.toArray t.1 t.2:=by
 unfold oU;split
 ·simp [fA] at h
 rfl
def B1 (es:List MapEntry):List Value:=[.tuple (es.map encE).toArray]
theorem qj (es:List MapEntry) (k:Nat):oU (B1 es) (k,(1,0))=.map es.toArray k:=by
 unfold oU B1;simp only [if_true]
 congr 1
 apply Array.ext'
 simp [Function.comp_def,dec_enc]
def aa.on (V:aa) (w:World):Prop:=∀ b c t,V b=some (c,t)->w.heap[b]?=some (oU c t)
def aa.le (V V':aa):Prop:=∀ b x,V b=some x->V' b=some x
theorem aa.le.refl (V:aa):V.le V:=fun _ _ h=>h
theorem aa.le.trans {V V1 V2:aa} (h:V.le V1) (k:V1.le V2):V.le V2:=fun b x hx=>k b x (h b x hx)
theorem aa.on.le {V V':aa} {w:World} (h:V'.on w) (k:V.le V'):V.on w:=fun b c t hb=>h b c t (k b _ hb)
def Enters (P : Program) (g : FuncId) : Prop := ∃ fn, P.funcs[g]? = some fn ∧ fn.body.isSome = true ∧ (fn.name == "runtime.NumGoroutine") = false
def ae (P:Program) (V:aa) (g:FuncId) (args:List Value) (K:aa->Value->Prop):Prop :=
 Enters P g/\∀ w,V.on w->Calls P g args.toArray w (fun e w'=>∃ V' r,e=.returned r/\Fr V V' w w'/\V'.on w'/\K V' r)
theorem ae.mono {P:Program} {V:aa} {g:FuncId} {args:List Value} {K K':aa->Value->Prop} (h:ae P V g args K)
  (hk:∀ V' r,K V' r->K' V' r):ae P V g args K' :=
 ⟨h.1,fun w hw=>(h.2 w hw).mono fun _ _ ⟨V',r,h1,h2,h3,h4⟩=>⟨V',r,h1,h2,h3,hk _ _ h4⟩⟩
def cv (ρ:Nat->Nat × Nat) (H:List aT):SV->Option Value
 | .v x=>some x
 | .k b=>some (.bool b)
 | .p i off=>match H[i]? with
  | some (.c ..)=>some (.pointer (some ⟨(ρ i).1,off,none⟩))
  | some (.a ..)=>some (.pointer (some ⟨(ρ i).1,off,none⟩))
  | some (.e b)=>some (.pointer (some ⟨b,off,none⟩))
  | _=>none
 | .o i=>match H[i]? with
  | some (.a n _ _)=>some (.slice (some ⟨(ρ i).1,0,none⟩) n (ρ i).2)
  | some (.f x)=>some x
  | _=>none
def mX (P:Program) (B:Nat) (ρ:Nat->Nat × Nat) (H:List aT) (w:World) (i:Nat):aT->Prop
 | .c cs t=>∃ cells:List Value,w.heap[(ρ i).1]?=some (.cells cells.toArray t (0,0))/\cells.length=cs.length /\
   ∀ (j:Nat) (s:SV) (x:Value),cs[j]?=some s->cv ρ H s=some x->cells[j]?=some x
 | .a n xs t=>w.ownsRow B t (P.cellsOf t) (.slice (some ⟨(ρ i).1,0,none⟩) n (ρ i).2) n xs
 | _=>True
def lW (n:Nat):SV->Prop
 | .p i _=>i<n
 | .o i=>i<n
 | _=>True
structure Sat (P:Program) (N B:Nat) (F:Fm) (H:List aT) (V:aa) (ρ:Nat->Nat × Nat) (a:Act) (w:World):Prop where
 defers:a.defers=[]
 size:a.tmps.size=N
 slot:∀ t s x,F t=some s->cv ρ H s=some x->a.tmps[t]?=some x
 box:∀ i b,H[i]?=some b->mX P B ρ H w i b
 inj:∀ i j b c,H[i]?=some b->H[j]?=some c->b.live=true->c.live=true->(ρ i).1=(ρ j).1->i=j
 base:∀ i b,H[i]?=some b->b.live=true->B<=(ρ i).1
 priv:∀ i b,H[i]?=some b->b.live=true->V (ρ i).1=none
 know:V.on w
 wfF:∀ t s,F t=some s->lW H.length s
 wfH:∀ (i:Nat) cs t,H[i]?=some (.c cs t)->∀ s∈cs,lW H.length s
theorem EF {H:List aT} {n:Nat} {s:SV} (h:lW n s):lW n (res H s):=by
 cases s with
 | v y=>exact h
 | k b=>exact h
 | p i off=>simp only [res]; split <;> first | exact h | trivial
 | o i=>simp only [res]; split <;> first | exact h | trivial
theorem EG {ρ:Nat->Nat × Nat} {H:List aT} {s:SV} {x:Value} (h:cv ρ H (res H s)=some x):cv ρ H s=some x:=by
 cases s with
 | v y=>exact h
 | k b=>exact h
 | p i off =>
  simp only [res] at h;split at h
  ·rename_i b hb; simp only [cv] at h ⊢; rw [hb]; exact h
  exact h
 | o i =>
  simp only [res] at h;split at h
  ·rename_i y hb; simp only [cv] at h ⊢; rw [hb]; exact h
  exact h
theorem Sat.eval {P N B F H V ρ a w} (h:Sat P N B F H V ρ a w) {x:Operand} {s:SV} {y:Value} (he:ev H F x=some s) (hc:cv ρ H s=some y):a.eval x=y:=by
 cases x with
 | tmp t =>
  simp only [ev] at he;split at he
  ·rename_i s' hs
   simp at he;subst he;have:=h.slot t _ _ hs (EG hc);simp [Act.eval,this]
  cases he
 | const v=>simp [ev] at he; subst he; simp [cv] at hc; simp [Act.eval,hc]
 | global g=>simp [ev] at he; subst he; simp [cv] at hc; simp [Act.eval,hc]
 | func f=>simp [ev] at he; subst he; simp [cv] at hc; simp [Act.eval,hc]
theorem Sat.put {P N B F H V ρ a w} (h:Sat P N B F H V ρ a w) {dst:Option Tmp} {s:SV} {y:Value} (hd:∀ d,dst=some d->d<N)
  (hi:lW H.length s) (hy:∀ x,cv ρ H s=some x->x=y):Sat P N B (au F dst s) H V ρ (a.put dst y) w:=by
 cases dst with
 | none=>exact h
 | some d =>
  have hd':=hd d rfl;refine⟨h.defers,?_,?_,h.box,h.inj,h.base,h.priv,h.know,?_,h.wfH⟩
  ·simp [Act.put,h.size]
  ·intro t s' x hs hx
   simp only [Sx.au,nX] at hs
   by_cases e:t=d
   ·subst e
    simp at hs;subst hs;rw [hy x hx];simp [Act.put,h.size,hd']
   simp [e] at hs;have:=h.slot t s' x hs hx;simp only [Act.put];rw [Array.getElem?_setIfInBounds_ne (fun h=>e h.symm)];exact this
  intro t s' hs;simp only [Sx.au,nX] at hs
  by_cases e:t=d
  ·simp [e] at hs; subst hs; exact hi
  simp [e] at hs; exact h.wfF t s' hs
theorem Sat.k8 {P N B F H V ρ a w} (h:Sat P N B F H V ρ a w) {x:Operand} {s:SV} (he:ev H F x=some s):lW H.length s:=by
 cases x with
 | tmp t =>
  simp only [ev] at he;split at he
  ·rename_i s' hs
   simp at he;subst he;exact EF (h.wfF t _ hs)
  cases he
 | const v=>simp [ev] at he; subst he; trivial
 | global g=>simp [ev] at he; subst he; trivial
 | func f=>simp [ev] at he; subst he; trivial
theorem run_loadCellsFrom {P:Program} (w:World) (a:Addr):∀ (l:List Value) (i:Nat) (acc:Array Value),
  (∀ (j:Nat) (x:Value),l[j]?=some x->w.cell? (a.add (i+j))=some x)->(loadCellsFrom a i l.length acc).run P w=.ok (acc++l.toArray) w
 | [],i,acc,_=>by simp [loadCellsFrom]
 | x :: l,i,acc,h=>by
  have h0:=h 0 x rfl;simp only [Nat.add_zero] at h0;have ih:=run_loadCellsFrom (P:=P) w a l (i+1) (acc.push x) (fun j y hy=>by
   have:=h (j+1) y (by simpa using hy)
   rwa [show i+(j+1)=i+1+j from by omega] at this)
  simp [loadCellsFrom,h0,ih]
theorem wR {P:Program} (w:World) (t:TypeId) (n:Nat) (a:Addr) (l:List Value) (b:Bool) (hn:bo P t=some n) (hb:Sl P t=some b) (hl:l.length=n) (h1:b=false->n=1)
  (h:∀ (j:Nat) (x:Value),l[j]?=some x->w.cell? (a.add j)=some x) :
  (loadVar t a).run P w=.ok (if b then .agg l.toArray else l.headD undef) w:=by
 have hi:∃ i,P.info? t=some i/\i.size=n:=by
  unfold bo at hn; split at hn
  ·rename_i i hi; simp at hn; exact⟨i,hi,hn⟩
  cases hn
 obtain⟨i,hi,gM⟩:=hi;have hr:=run_loadCellsFrom (P:=P) w a l 0 #[] (fun j x hx=>by simpa using h j x hx);rw [hl] at hr;unfold Sl at hb;split at hb
 ·rename_i fs hu
  cases hb
  simp [loadVar,isAgg,underlying,hu,Go.sizeOf,typeInfo,hi,gM,loadCells,hr]
 ·rename_i m e hu
  cases hb
  simp [loadVar,isAgg,underlying,hu,Go.sizeOf,typeInfo,hi,gM,loadCells,hr]
 ·rename_i d k1 k2 hu
  cases hb
  have h1:=h1 rfl;subst h1
  match l,hl with
  | [x],_ =>
   have h0:=h 0 x rfl;have hadd:a.add 0=a:=rfl;rw [hadd] at h0;cases d <;> first | (exact(k1 _ rfl).elim) | (exact(k2 _ _ rfl).elim) | (simp [loadVar,isAgg,underlying,hu,h0])
 cases hb
theorem ah (b o i:Nat):(⟨b,o,none⟩:Addr).add i=⟨b,o+i,none⟩:=by
 unfold Addr.add; split <;> simp_all
theorem jq {α:Type} {l l':List α} {off n:Nat} (h:fj l off n=some l'):l'.length=n/\∀ (j:Nat) x,l'[j]?=some x->l[off+j]?=some x:=by
 unfold fj at h;split at h
 ·rename_i hle
  simp at h;subst h;refine⟨by simp; omega,fun j x hx=>?_⟩
  rw [List.getElem?_take] at hx;split at hx
  ·simpa using hx
  cases hx
 cases h
theorem pj:∀ {l:List SV} {l':List Value},iB l=some l'->l'.length=l.length/\∀ (j:Nat) x,l'[j]?=some x->l[j]?=some (.v x)
 | [],l',h=>by simp [iB] at h; subst h; simp
 | .v y :: r,l',h=>by
  simp only [iB] at h;split at h
  ·rename_i l'' hl
   simp at h;subst h;obtain⟨h1,h2⟩:=pj hl;refine⟨by simp [h1],fun j x hx=>?_⟩
   cases j with
   | zero=>simpa using hx
   | succ j=>simpa using h2 j x (by simpa using hx)
  cases h
 | .k _ :: _,_,h=>by simp [iB] at h
 | .p .. :: _,_,h=>by simp [iB] at h
 | .o .. :: _,_,h=>by simp [iB] at h
theorem aa.on.row {V:aa} {w:World} (h:V.on w) {b:Nat} {cs:List Value} {u:TypeId} (hb:V b=some (cs,(u,(0,0)))):w.heap[b]?=some (.cells cs.toArray u (0,0)):=by
 rw [h b cs _ hb,gJ]
theorem aa.on.cell {V:aa} {w:World} (h:V.on w) {b:Nat} {cs:List Value} {t:vn} (hb:V b=some (cs,t)) (off:Nat) (hc:∀ es,cs[off]?≠some (.tuple es)) (aN:off<cs.length):w.cell? ⟨b,off,none⟩=cs[off]?:=by
 have e:oU cs t=.cells cs.toArray t.1 t.2:=by
  unfold oU;split
  ·rename_i es
   exfalso
   have:off=0:=by simpa using aN
   subst this;exact hc es rfl
  rfl
 rw [cell_of_row w b off cs.toArray t.1 t.2 (by rw [h b cs t hb,e])]; simp
theorem Sn {l:List Value} (h:fA l=true) {x:Value} (hx:x∈l):∀ es,x≠.tuple es:=by
 intro es e;have:=List.all_eq_true.1 h x hx;subst e;simp at this
theorem lf {V:aa} {w:World} (h:V.on w) {a:Addr} {n:Nat} {l:List Value} (hl:aQ V a n=some l) (hn:fA l=true) :
  l.length=n/\∀ (j:Nat) x,l[j]?=some x->w.cell? (a.add j)=some x:=by
 obtain⟨b,o,s⟩:=a;unfold aQ at hl;split at hl
 ·rename_i cs t hs hb
  simp at hs hb;subst hs;obtain⟨h1,h2⟩:=jq hl;refine⟨h1,fun j x hx=>?_⟩
  have hx2:=h2 j x hx;rw [ah,h.cell hb (o+j) (fun es e=>by rw [hx2] at e; exact Sn hn (List.mem_of_getElem? hx) es (Option.some.inj e)) (List.getElem?_eq_some_iff.1 hx2).1]
  exact hx2
 cases hl
theorem Sat.Hu {P N B F H V ρ a w} (h:Sat P N B F H V ρ a w):∀ {l:List Operand},bA H F l=true->∀ x∈l,cD H F x=a.eval x
 | [],_,x,hx=>by cases hx
 | y :: r,hp,x,hx=>by
  simp only [bA] at hp;split at hp
  ·rename_i v hv
   cases hx with
   | head=>simp only [cD,hv]; exact(h.eval hv rfl).symm
   | tail _ hx=>exact h.Hu hp x hx
  cases hp
theorem gV {P N B F H V ρ a w} (h:Sat P N B F H V ρ a w) {o:Oper} (bY:ph o.op=false) {s:SV} (hs:aJ P H F o=some s) :
  ∃ y,(execOp a.eval o).run P w=.ok (.value y) w/\∀ x,cv ρ H s=some x->x=y:=by
 unfold aJ at hs;split at hs
 ·rename_i hp
  split at hs
  ·rename_i r hr
   simp at hs;subst hs;refine⟨r,?_,fun x hx=>by simp [cv] at hx; exact hx.symm⟩
   rw [<- execOp_congr o (ρ:=cD H F) (fun cs b hc=>by rw [hc] at bY; cases bY) (fun x hx=>h.Hu hp x (by simpa using hx))]
   exact aZ hr w
  cases hs
 cases hs
theorem yP {P N B F H V ρ a w} (h:Sat P N B F H V ρ a w) {i off n:Nat} {l:List SV} (hl:gF H i off n=some l) :
  l.length=n/\cv ρ H (.p i off)=some (.pointer (some ⟨(ρ i).1,off,none⟩))/\∀ (j:Nat) s x,l[j]?=some s->cv ρ H s=some x->w.cell? ⟨(ρ i).1,off+j,none⟩=some x:=by
 unfold gF at hl;split at hl
 ·rename_i cs t hb
  split at hl
  ·rename_i l' hc
   simp at hl;subst hl;obtain⟨h1,h2⟩:=jq hc;obtain⟨cells,g1,g2,g3⟩:=h.box i _ hb;refine⟨by simp [h1],by simp [cv,hb],fun j s x hj hx=>?_⟩
   simp at hj;obtain⟨s',CB,rfl⟩:=hj;have:=g3 (off+j) s' x (h2 j s' CB) (EG hx);rw [cell_of_row w _ _ _ _ _ g1];simpa using this
  cases hl
 ·rename_i m xs t hb
  split at hl
  ·rename_i l' hc
   simp at hl;subst hl;obtain⟨h1,h2⟩:=jq hc;have fB:w.ownsRow B t (P.cellsOf t) _ m xs:=h.box i _ hb;refine⟨by simp [h1],by simp [cv,hb],fun j s x hj hx=>?_⟩
   simp at hj;obtain⟨x',mK,rfl⟩:=hj;simp [cv] at hx;subst hx;have h3:=h2 j x' mK;have aN:off+j<m*P.cellsOf t:=by
    have:=(List.getElem?_eq_some_iff.1 h3).1;rw [fB.1] at this;exact this
   rw [fB.cellAt _ aN];exact h3
  cases hl
 cases hl
theorem qk {ρ:Nat->Nat × Nat} {H:List aT} {i off:Nat} (h:kZ H i=true):cv ρ H (.p i off)=some (.pointer (some ⟨(ρ i).1,off,none⟩)):=by
 unfold kZ at h;split at h
 ·rename_i b hb
  cases b <;> simp [aT.live] at h <;> simp [cv,hb]
 cases h
theorem EH {P:Program} {t:TypeId} {n:Nat} (h:bo P t=some n):∃ i,P.info? t=some i/\i.size=n:=by
 unfold bo at h; split at h
 ·rename_i i hi; simp at h; exact⟨i,hi,h⟩
 cases h
variable {P:Program} {N B:Nat} {F:Fm} {H:List aT} {V V0:aa} {ρ:Nat->Nat × Nat} {a:Act} {w:World}
theorem WS {t k d n:Nat} (h:Ml P t k=some (d,n)):∃ fs f i,P.underlying t=some (.struct fs)/\fs[k]?=some f/\P.info? f.type=some i/\f.offset=d/\i.size=n:=by
 unfold Ml at h;split at h
 ·rename_i fs hu
  split at h
  ·rename_i f hf
   split at h
   ·rename_i i hi
    simp at h;exact⟨fs,f,i,hu,hf,hi,h.1,h.2⟩
   cases h
  cases h
 cases h
theorem wS (w:World) {t k d n:Nat} (h:Ml P t k=some (d,n+1)) (ad:Addr) :
  (Instr.fieldAt t (.pointer (some ad)) k).run P w=.ok (.pointer (some (ad.add d))) w:=by
 obtain⟨fs,f,i,hu,hf,hi,rfl,hn⟩:=WS h;simp [Instr.fieldAt,underlying,hu,hf,Instr.sureAddr,fieldPlace,Go.sizeOf,typeInfo,hi,hn]
theorem So {t sz:Nat} (h:elemOf P t=some sz):∃ e i,P.underlying t=some (.slice e)/\P.info? e=some i/\i.size=sz:=by
 unfold elemOf at h;split at h
 ·rename_i e hu
  obtain⟨i,hi,hn⟩:=EH h;exact⟨e,i,hu,hi,hn⟩
 cases h
theorem run_indexAt_slice (w:World) {t sz:Nat} (h:elemOf P t=some sz) (ad:Addr) (len cap:Nat) (k:IntKind) (n:Int) (h0:0<=n) (h1:n<len) :
  (Instr.indexAt t (.slice (some ad) len cap) (.int k n)).run P w=.ok (.pointer (some (ad.add (n.toNat*sz)))) w:=by
 obtain⟨e,i,hu,hi,rfl⟩:=So h;simp [Instr.indexAt,asIntOf,underlying,hu,Go.sizeOf,typeInfo,hi,h0,h1]
theorem run_indexAt_array (w:World) {t len e sz:Nat} (hu:P.underlying t=some (.array len e)) (hs:bo P e=some sz) (ad:Addr) (k:IntKind) (n:Int) (h0:0<=n) (h1:n<(len:Int)) :
  (Instr.indexAt t (.pointer (some ad)) (.int k n)).run P w=.ok (.pointer (some (ad.add (n.toNat*sz)))) w:=by
 obtain⟨i,hi,rfl⟩:=EH hs;simp [Instr.indexAt,asIntOf,underlying,hu,Go.sizeOf,typeInfo,hi,h0,h1,Instr.sureAddr]
theorem vA {t n:Nat} {l:List SV} {s:SV} {ad:Addr} (hn:bo P t=some n) (hl:l.length=n) (hj:join P t l=some s)
  (hc:∀ (j:Nat) u x,l[j]?=some u->cv ρ H u=some x->w.cell? (ad.add j)=some x)
  (hex:∀ j,j<n->∃ y,w.cell? (ad.add j)=some y) :
  ∃ y,(loadVar t ad).run P w=.ok y w/\∀ x,cv ρ H s=some x->x=y:=by
 unfold join at hj;split at hj
 ·rename_i hb
  split at hj
  ·rename_i l' hp
   simp at hj;subst hj;obtain⟨h1,h2⟩:=pj hp;refine⟨.agg l'.toArray,?_,fun x hx=>by simp [cv] at hx; exact hx.symm⟩
   have:=wR (P:=P) w t n ad l' true hn hb (h1.trans hl) (fun h=>by cases h) (fun j x hx=>hc j _ x (h2 j x hx) rfl);simpa using this
  cases hj
 ·rename_i hb
  split at hj
  ·rename_i u
   simp at hj;subst hj;simp at hl;subst hl;obtain⟨x,hx⟩:=hex 0 (by omega);refine⟨x,?_,fun x' mK=>by have:=hc 0 _ x' rfl mK; rw [hx] at this; simp at this; exact this.symm⟩
   have:=wR (P:=P) w t 1 ad [x] false hn hb rfl (fun _=>rfl) (fun j y hy=>by
    cases j with
    | zero=>simp at hy; subst hy; exact hx
    | succ j=>simp at hy)
   simpa using this
  cases hj
 cases hj
theorem Hv (h:Sat P N B F H V ρ a w) {i off n:Nat} {l:List SV} (hl:gF H i off n=some l) :
  ∀ j,j<n->∃ y,w.cell? ⟨(ρ i).1,off+j,none⟩=some y:=by
 intro j hj;unfold gF at hl;split at hl
 ·rename_i cs t hb
  split at hl
  ·rename_i l' hc
   obtain⟨h1,h2⟩:=jq hc;obtain⟨cells,g1,g2,g3⟩:=h.box i _ hb;have aN:off+j<cells.length:=by
    rw [g2];have:=(List.getElem?_eq_some_iff.1 (h2 j l'[j] (by simp [h1,hj]))).1;exact this
   rw [cell_of_row w _ _ _ _ _ g1];exact⟨cells[off+j],by simp [aN]⟩
  cases hl
 ·rename_i m xs t hb
  split at hl
  ·rename_i l' hc
   obtain⟨h1,h2⟩:=jq hc;have fB:w.ownsRow B t (P.cellsOf t) _ m xs:=h.box i _ hb;have h3:=h2 j l'[j] (by simp [h1,hj]);have aN:off+j<m*P.cellsOf t:=by
    have:=(List.getElem?_eq_some_iff.1 h3).1;rw [fB.1] at this;exact this
   rw [fB.cellAt _ aN];exact⟨_,h3⟩
  cases hl
 cases hl
theorem wT (w:World) (f:Value->ByteArray->Sem (ForInStep ByteArray)) (hf:∀ n r,f (.int .u8 n) r=pure (ForInStep.yield (r.push (UInt8.ofNat n.toNat)))) :
  ∀ (l:List Value) (s s':ByteArray),jJ l s=some s'->(forIn l s f:Sem ByteArray).run P w=.ok s' w
 | [],s,s',h=>by simp [jJ] at h; subst h; simp
 | x :: r,s,s',h=>by
  unfold jJ at h;split at h
  ·rename_i h1; cases h1
  ·rename_i n r' s0 h1
   cases h1
   have ih:=wT w f hf r _ s' h;simp only [List.forIn_cons,hf];simp [ih]
  cases h
theorem qT:∀ {l:List Value} {s s':ByteArray},jJ l s=some s'->fA l=true
 | [],_,_,_=>rfl
 | x :: r,s,s',h=>by
  unfold jJ at h;split at h
  ·rename_i e; cases e
  ·rename_i n r' s1 e
   have e1:=(List.cons.inj e).1;have e2:=(List.cons.inj e).2;subst e1; subst e2
   have:=qT h;unfold fA at this ⊢;rw [List.all_cons,this]; rfl
  cases h
theorem B2 {l:List Value} {s:ByteArray} (h:bytesOf l=some s):fA l=true:=qT h
theorem gZ (h:Sat P N B F H V ρ a w) (hV0:V0.on w) {o:Oper} (bY:ph o.op=false) {s:SV} (hs:bP P V0 H F o=some s) :
  ∃ y,(execOp a.eval o).run P w=.ok (.value y) w/\∀ x,cv ρ H s=some x->x=y:=by
 unfold bP at hs;split at hs
 ·rename_i x ho
  exact⟨a.eval x,by simp [execOp,ho],fun y hy=>(h.eval hs hy).symm⟩
 ·rename_i x ho
  exact⟨a.eval x,by simp [execOp,ho],fun y hy=>(h.eval hs hy).symm⟩
 ·rename_i c x y ho
  split at hs
  ·rename_i hc
   have:=h.eval hc rfl;exact⟨a.eval x,by simp [execOp,ho,this,asBool],fun y hy=>(h.eval hs hy).symm⟩
  ·rename_i hc
   have:=h.eval hc rfl;exact⟨a.eval y,by simp [execOp,ho,this,asBool],fun y hy=>(h.eval hs hy).symm⟩
  cases hs
 ·rename_i t x k ho
  split at hs
  ·rename_i i off d n hx hf
   split at hs
   ·rename_i hl
    simp at hs;subst hs;have he:=h.eval hx (qk hl);refine⟨.pointer (some ⟨(ρ i).1,off+d,none⟩),?_,fun y hy=>?_⟩
    ·have:=wS w hf ⟨(ρ i).1,off,none⟩
     rw [ah] at this;simp [execOp,ho,he,this]
    rw [qk hl] at hy; simp at hy; exact hy.symm
   cases hs
  ·rename_i ad d n hx hf
   simp at hs;subst hs;have he:=h.eval hx rfl;exact⟨.pointer (some (ad.add d)),by simp [execOp,ho,he,wS w hf ad],fun y hy=>by simp [cv] at hy; exact hy.symm⟩
  cases hs
 ·rename_i t x i ho
  split at hs
  ·rename_i sx si hx hi
   unfold idx at hs;split at hs
   ·rename_i j kk n
    split at hs
    ·rename_i len xs u sz hj he
     split at hs
     ·rename_i hb
      simp at hs;subst hs;have rz:cv ρ H (.o j)=some (.slice (some ⟨(ρ j).1,0,none⟩) len (ρ j).2):=by simp [cv,hj]
      have h1:=h.eval hx rz;have h2:=h.eval hi rfl;have:=run_indexAt_slice w he ⟨(ρ j).1,0,none⟩ len (ρ j).2 kk n hb.1 hb.2;rw [ah] at this;simp only [Nat.zero_add] at this;refine⟨.pointer (some ⟨(ρ j).1,n.toNat*sz,none⟩),by simp [execOp,ho,h1,h2,this],fun y hy=>?_⟩
      simp [cv,hj] at hy;exact hy.symm
     cases hs
    cases hs
   ·rename_i ad len cap kk n
    split at hs
    ·rename_i sz he
     split at hs
     ·rename_i hb
      simp at hs;subst hs;have h1:=h.eval hx rfl;have h2:=h.eval hi rfl;exact⟨.pointer (some (ad.add (n.toNat*sz))),by simp [execOp,ho,h1,h2,run_indexAt_slice w he ad len cap kk n hb.1 hb.2],fun y hy=>by simp [cv] at hy; exact hy.symm⟩
     cases hs
    cases hs
   ·rename_i ad kk n
    split at hs
    ·rename_i len e hu
     split at hs
     ·rename_i sz he
      split at hs
      ·rename_i hb
       simp at hs;subst hs;have h1:=h.eval hx rfl;have h2:=h.eval hi rfl;exact⟨.pointer (some (ad.add (n.toNat*sz))),by simp [execOp,ho,h1,h2,run_indexAt_array w hu he ad kk n hb.1 hb.2],fun y hy=>by simp [cv] at hy; exact hy.symm⟩
      cases hs
     cases hs
    cases hs
   cases hs
  cases hs
 ·rename_i t x ho
  split at hs
  ·rename_i i off n hx hn
   split at hs
   ·rename_i l hl
    obtain⟨g1,g2,g3⟩:=yP h hl;have he:=h.eval hx g2;obtain⟨y,hy,yQ⟩:=vA (ad:=⟨(ρ i).1,off,none⟩) hn g1 hs (fun j u x hu hx=>by rw [ah]; exact g3 j u x hu hx)
     (fun j hj=>by rw [ah]; exact Hv h hl j hj)
    exact⟨y,by simp [execOp,ho,he,Instr.loadAt,Instr.sureAddr,hy],yQ⟩
   cases hs
  ·rename_i ad n hx hn
   split at hs
   ·rename_i l hl
    split at hs
    rotate_left
    ·cases hs
    rename_i Hw;obtain⟨g1,g2⟩:=lf hV0 hl Hw;have he:=h.eval hx rfl;obtain⟨y,hy,yQ⟩:=vA (ρ:=ρ) (H:=H) (ad:=ad) hn (by simp [g1]) hs (fun j u x hu hx=>by
      simp at hu;obtain⟨x',h1,rfl⟩:=hu;simp [cv] at hx;subst hx;exact g2 j _ h1) (fun j hj=>⟨l[j],g2 j _ (by simp [g1,hj])⟩)
    exact⟨y,by simp [execOp,ho,he,Instr.loadAt,Instr.sureAddr,hy],yQ⟩
   cases hs
  cases hs
 ·rename_i c ho
  split at hs
  ·rename_i x t hlen fY hts
   split at hs
   ·rename_i j e hx hu
    split at hs
    ·rename_i n xs u hj
     simp at hs;subst hs;have rz:cv ρ H (.o j)=some (.slice (some ⟨(ρ j).1,0,none⟩) n (ρ j).2):=by simp [cv,hj]
     have h1:=h.eval hx rz;refine⟨.int .i64 n,?_,fun y hy=>by simp [cv] at hy; exact hy.symm⟩
     have bZ:c.callee=.builtin .len:=by
      unfold isLen at hlen; split at hlen <;> simp_all
     have ha:c.args=#[x]:=by rw [<- fY]
     have ht:c.argTypes=#[t]:=by rw [<- hts]
     simp [execOp,ho,resolve,bZ,ha,ht,invoke,builtin,Builtin.len_,underlying,hu,h1,goInt]
    cases hs
   ·exact gV h bY hs
   cases hs
  exact gV h bY hs
 ·rename_i src dst x ho
  split at hs
  ·rename_i ad n c Sp hx
   split at hs
   ·rename_i hn
    subst hn;simp at hs; subst hs
    have he:=h.eval hx rfl;refine⟨.string .empty,?_,fun y hy=>by simp [cv] at hy; exact hy.symm⟩
    unfold Sm at Sp;split at Sp
    ·rename_i e BW Hl
     split at Sp
     ·rename_i hs3
      have hr:=run_loadCellsFrom (P:=P) w ad [] 0 #[] (fun j x hx=>by simp at hx);simp only [List.length_nil] at hr;simp [execOp,ho,he,convert,underlying,BW,Hl,hs3,Conv.bytesToString,loadCells,hr]
     cases Sp
    cases Sp
   split at hs
   ·rename_i l hl
    split at hs
    ·rename_i s' hb
     simp at hs; subst hs
     obtain⟨g1,g2⟩:=lf hV0 hl (B2 hb);have he:=h.eval hx rfl;refine⟨.string s',?_,fun y hy=>by simp [cv] at hy; exact hy.symm⟩
     unfold Sm at Sp;split at Sp
     ·rename_i e BW Hl
      split at Sp
      ·rename_i hs3
       have hr:=run_loadCellsFrom (P:=P) w ad l 0 #[] (fun j x hx=>by simpa using g2 j x hx);rw [g1] at hr;simp [execOp,ho,he,convert,underlying,BW,Hl,hs3,Conv.bytesToString,loadCells,hr];rw [wT (P:=P) w _ (fun n r=>rfl) l .empty s' hb]
       rfl
      cases Sp
     cases Sp
    cases hs
   cases hs
  exact gV h bY hs
 exact gV h bY hs
theorem jK {n:Nat} {o:Oper} {s:SV} (hs:aJ P H F o=some s):lW n s:=by
 unfold aJ at hs
 repeat' (split at hs)
 all_goals first | (simp at hs; done) | (simp at hs; subst hs; trivial)
theorem Hy {n t:Nat} {l:List SV} {s:SV} (h:∀ u∈l,lW n u) (hj:join P t l=some s):lW n s:=by
 unfold join at hj;split at hj
 ·split at hj
  ·simp at hj; subst hj; trivial
  cases hj
 ·split at hj
  ·simp at hj; subst hj; exact h _ (by simp)
  cases hj
 cases hj
theorem sO {α:Type} {l l':List α} {off n:Nat} (h:fj l off n=some l') {x:α} (hx:x∈l'):x∈l:=by
 unfold fj at h;split at h
 ·simp at h; subst h; exact List.mem_of_mem_drop (List.mem_of_mem_take hx)
 cases h
structure WfS (F:Fm) (H:List aT):Prop where
 wfF:∀ t s,F t=some s->lW H.length s
 wfH:∀ (i:Nat) cs t,H[i]?=some (.c cs t)->∀ s∈cs,lW H.length s
theorem Sat.wfS (h:Sat P N B F H V ρ a w):WfS F H:=⟨h.wfF,h.wfH⟩
theorem WfS.k8 (h:WfS F H) {x:Operand} {s:SV} (he:ev H F x=some s):lW H.length s:=by
 cases x with
 | tmp t =>
  simp only [ev] at he;split at he
  ·rename_i s' hs
   simp at he;subst he;exact EF (h.wfF t _ hs)
  cases he
 | const v=>simp [ev] at he; subst he; trivial
 | global g=>simp [ev] at he; subst he; trivial
 | func f=>simp [ev] at he; subst he; trivial
theorem CC (h:WfS F H) {o:Oper} {s:SV} (hs:bP P V0 H F o=some s):lW H.length s:=by
 unfold bP at hs;split at hs
 ·exact h.k8 hs
 ·exact h.k8 hs
 ·split at hs
  ·exact h.k8 hs
  ·exact h.k8 hs
  cases hs
 ·split at hs
  ·rename_i i off d n hx hf
   split at hs
   ·simp at hs; subst hs; exact h.k8 (s:=.p i off) hx
   cases hs
  ·simp at hs; subst hs; trivial
  cases hs
 ·split at hs
  ·rename_i sx si hx hi
   unfold idx at hs;split at hs
   ·split at hs
    ·rename_i hj he
     split at hs
     ·simp at hs; subst hs; exact(List.getElem?_eq_some_iff.1 hj).1
     cases hs
    cases hs
   ·repeat' (split at hs)
    all_goals first | (simp at hs; done) | (simp at hs; subst hs; trivial)
   ·repeat' (split at hs)
    all_goals first | (simp at hs; done) | (simp at hs; subst hs; trivial)
   cases hs
  cases hs
 ·split at hs
  ·rename_i i off n hx hn
   split at hs
   ·rename_i l hl
    refine Hy (fun u hu=>?_) hs
    unfold gF at hl;split at hl
    ·rename_i cs t hb
     split at hl
     ·rename_i l' hc
      simp at hl; subst hl
      simp at hu;obtain⟨s',CB,rfl⟩:=hu;exact EF (h.wfH i cs t hb s' (sO hc CB))
     cases hl
    ·split at hl
     ·simp at hl; subst hl; simp at hu; obtain⟨x,_,rfl⟩:=hu; trivial
     cases hl
    cases hl
   cases hs
  ·split at hs
   ·split at hs
    ·refine Hy (fun u hu=>?_) hs
     simp at hu; obtain⟨x,_,rfl⟩:=hu; trivial
    cases hs
   cases hs
  cases hs
 ·split at hs
  ·split at hs
   ·split at hs
    ·simp at hs; subst hs; trivial
    cases hs
   ·exact jK hs
   cases hs
  exact jK hs
 ·split at hs
  ·split at hs
   ·simp at hs; subst hs; trivial
   split at hs
   ·split at hs
    ·simp at hs; subst hs; trivial
    cases hs
   cases hs
  exact jK hs
 exact jK hs
theorem pk (h:Sat P N B F H V ρ a w) {o:Oper} {s:SV} (hs:bP P V0 H F o=some s):lW H.length s:=CC h.wfS hs
variable {P:Program} {N B:Nat} {F:Fm} {H:List aT} {V V0:aa} {ρ:Nat->Nat × Nat} {a:Act} {w:World}
def aX {α:Type} (l:List α) (off:Nat) (r:List α):List α:=l.take off++r++l.drop (off+r.length)
theorem jS {α:Type} {l r:List α} {off:Nat} (h:off+r.length<=l.length):(aX l off r).length=l.length:=by
 simp [aX]; omega
theorem jL {α:Type} {l r:List α} {off:Nat} (h:off+r.length<=l.length) (j:Nat) :
  (aX l off r)[j]?=if off<=j/\j<off+r.length then r[j-off]? else l[j]?:=by
 unfold aX
 by_cases h1:j<off
 ·rw [if_neg (by omega),List.append_assoc,List.getElem?_append_left (by simp; omega),List.getElem?_take,if_pos h1]
 rw [List.append_assoc,List.getElem?_append_right (by simp; omega)]
 simp only [List.length_take];rw [Nat.min_eq_left (by omega)]
 by_cases h2:j<off+r.length
 ·rw [if_pos (by omega),List.getElem?_append_left (by omega)]
 rw [if_neg (by omega),List.getElem?_append_right (by omega),List.getElem?_drop]
 congr 1
 omega
theorem Mm {i:Nat} {b b':aT} (hb:H[i]?=some b) (hs:(∃ cs t iw t',b=.c cs t/\b'=.c iw t')\/(∃ n xs t xs' t',b=.a n xs t/\b'=.a n xs' t')) :
  cv ρ (H.set i b')=cv ρ H:=by
 funext s
 have aN:=(List.getElem?_eq_some_iff.1 hb).1;cases s with
 | v x=>rfl
 | k b=>rfl
 | p j off =>
  simp only [cv,List.getElem?_set]
  by_cases e:i=j
  ·subst e
   rcases hs with ⟨cs,t,iw,t',rfl,rfl⟩ | ⟨n,xs,t,xs',t',rfl,rfl⟩ <;> rw [if_pos rfl,if_pos aN,hb]
  simp [e]
 | o j =>
  simp only [cv,List.getElem?_set]
  by_cases e:i=j
  ·subst e
   rcases hs with ⟨cs,t,iw,t',rfl,rfl⟩ | ⟨n,xs,t,xs',t',rfl,rfl⟩ <;> rw [if_pos rfl,if_pos aN,hb]
  simp [e]
theorem mX.of_heap {H':List aT} {w':World} {i:Nat} {b:aT} (h:mX P B ρ H w i b) (rz:cv ρ H'=cv ρ H) (hh:b.live=true->w'.heap[(ρ i).1]?=w.heap[(ρ i).1]?) :
  mX P B ρ H' w' i b:=by
 cases b with
 | c cs t =>
  obtain⟨cells,h1,h2,h3⟩:=h;exact⟨cells,(hh rfl).trans h1,h2,fun j s x hj hx=>h3 j s x hj (by rw [rz] at hx; exact hx)⟩
 | a n xs t =>
  obtain⟨h1,h2⟩:=h;refine⟨h1,?_⟩
  rcases h2 with h2 | ⟨g,cap,cur,hv,hg,WH,r⟩
  ·exact .inl h2
  refine .inr ⟨g,cap,cur,hv,hg,?_,r⟩
  simp only [Value.slice.injEq,Option.some.injEq,Addr.mk.injEq] at hv;obtain⟨⟨rfl,_⟩,_⟩:=hv;rw [hh rfl];exact WH
 | f x=>trivial
 | e b=>trivial
 | x=>trivial
theorem Sat.Mn (h:Sat P N B F H V ρ a w) {i:Nat} {b b':aT} {w':World} (hb:H[i]?=some b)
  (hs:(∃ cs t iw t',b=.c cs t/\b'=.c iw t'/\∀ s∈iw,lW H.length s)\/(∃ n xs t xs' t',b=.a n xs t/\b'=.a n xs' t'))
  (WT:∀ k,k≠(ρ i).1->w'.heap[k]?=w.heap[k]?)
  (eg:mX P B ρ (H.set i b') w' i b'):Sat P N B F (H.set i b') V ρ a w':=by
 have rz:cv ρ (H.set i b')=cv ρ H:=Mm hb (by
  rcases hs with ⟨cs,t,iw,t',h1,h2,_⟩ | h2
  ·exact .inl ⟨cs,t,iw,t',h1,h2⟩
  exact .inr h2)
 have vp:b.live=true:=by rcases hs with ⟨cs,t,iw,t',rfl,_⟩ | ⟨n,xs,t,xs',t',rfl,_⟩ <;> rfl
 have hbl':b'.live=true:=by rcases hs with ⟨cs,t,iw,t',_,rfl,_⟩ | ⟨n,xs,t,xs',t',_,rfl⟩ <;> rfl
 have aN:=(List.getElem?_eq_some_iff.1 hb).1;have key:∀ j c,(H.set i b')[j]?=some c->∃ c',H[j]?=some c'/\c'.live=c.live/\(j≠i->c'=c):=by
  intro j c hc;rw [List.getElem?_set] at hc
  by_cases e:i=j
  ·subst e
   simp [aN] at hc;subst hc;exact⟨b,hb,by rw [vp,hbl'],fun h=>(h rfl).elim⟩
  simp [e] at hc;exact⟨c,hc,rfl,fun _=>rfl⟩
 refine⟨h.defers,h.size,fun t s x hF hx=>h.slot t s x hF (by rw [rz] at hx; exact hx),?_,?_,?_,?_,?_,?_,?_⟩
 ·intro j c hc
  obtain⟨c',h1,h2,h3⟩:=key j c hc
  by_cases e:j=i
  ·subst e
   have:c=b':=by
    rw [List.getElem?_set] at hc;simp [aN] at hc;exact hc.symm
   subst this;exact eg
  have h3:=h3 e;subst h3;exact(h.box j c' h1).of_heap rz (fun hl=>WT _ (fun he=>e (h.inj j i c' b h1 hb hl vp he)))
 ·intro j k c d hc hd eG B3 he
  obtain⟨c',h1,h2,_⟩:=key j c hc;obtain⟨d',h3,h4,_⟩:=key k d hd;exact h.inj j k c' d' h1 h3 (h2.trans eG) (h4.trans B3) he
 ·intro j c hc eG
  obtain⟨c',h1,h2,_⟩:=key j c hc;exact h.base j c' h1 (h2.trans eG)
 ·intro j c hc eG
  obtain⟨c',h1,h2,_⟩:=key j c hc;exact h.priv j c' h1 (h2.trans eG)
 ·intro k cs t hk
  have lP:=h.know k cs t hk;rw [WT k (fun e=>by have:=h.priv i b hb vp; rw [<- e,hk] at this; cases this)]
  exact lP
 ·intro t s hF; simpa using h.wfF t s hF
 intro j cs t hj;rw [List.getElem?_set] at hj
 by_cases e:i=j
 ·subst e
  simp [aN] at hj;rcases hs with ⟨_,_,iw,t',_,h2,h3⟩ | ⟨n,xs,_,xs',t',_,h2⟩
  ·rw [hj] at h2
   simp at h2;obtain⟨rfl,rfl⟩:=h2;simpa using h3
  rw [hj] at h2; cases h2
 simp [e] at hj;simpa using h.wfH j cs t hj
theorem lg {n m:Nat} (h:n<=m) {s:SV} (hs:lW n s):lW m s:=by
 cases s <;> simp only [lW] at*<;> omega
theorem mY {b:aT} {ρ':Nat->Nat × Nat} (hρ:∀ j,j<H.length->ρ' j=ρ j) {s:SV} (hs:lW H.length s):cv ρ' (H++[b]) s=cv ρ H s:=by
 cases s with
 | v x=>rfl
 | k b=>rfl
 | p j off =>
  have hj:j<H.length:=hs;simp only [cv,List.getElem?_append_left hj,hρ j hj]
 | o j =>
  have hj:j<H.length:=hs;simp only [cv,List.getElem?_append_left hj,hρ j hj]
theorem mX.Hz {H':List aT} {ρ':Nat->Nat × Nat} {w':World} {i:Nat} {b:aT} (h:mX P B ρ H w i b) (hρ:ρ' i=ρ i)
  (rz:∀ cs t,b=.c cs t->∀ s∈cs,cv ρ' H' s=cv ρ H s\/cv ρ' H' s=none) (hh:b.live=true->w'.heap[(ρ i).1]?=w.heap[(ρ i).1]?) :
  mX P B ρ' H' w' i b:=by
 cases b with
 | c cs t =>
  obtain⟨cells,h1,h2,h3⟩:=h;refine⟨cells,?_,h2,fun j s x hj hx=>?_⟩
  ·rw [hρ]; exact(hh rfl).trans h1
  rcases rz cs t rfl s (List.mem_of_getElem? hj) with e | e
  ·exact h3 j s x hj (by rw [<- e]; exact hx)
  rw [e] at hx; cases hx
 | a n xs t =>
  obtain⟨h1,h2⟩:=h;refine⟨h1,?_⟩
  rw [hρ];rcases h2 with h2 | ⟨g,cap,cur,hv,hg,WH,r⟩
  ·exact .inl h2
  refine .inr ⟨g,cap,cur,hv,hg,?_,r⟩
  simp only [Value.slice.injEq,Option.some.injEq,Addr.mk.injEq] at hv;obtain⟨⟨rfl,_⟩,_⟩:=hv;rw [hh rfl];exact WH
 | f x=>trivial
 | e b=>trivial
 | x=>trivial
theorem Sat.HA (h:Sat P N B F H V ρ a w) {b:aT} {ρ':Nat->Nat × Nat} {w':World} (HB:b.live=true) (hρ:∀ j,j<H.length->ρ' j=ρ j)
  (WU:∀ j c,H[j]?=some c->c.live=true->(ρ j).1≠(ρ' H.length).1) (hB:B<=(ρ' H.length).1) (hold:∀ k,k<w.heap.size->k≠(ρ' H.length).1->w'.heap[k]?=w.heap[k]?)
  (hV:V (ρ' H.length).1=none) (gM:∀ cs t,b=.c cs t->∀ s∈cs,lW H.length s)
  (eg:mX P B ρ' (H++[b]) w' H.length b):Sat P N B F (H++[b]) V ρ' a w':=by
 have lt:∀ j c,H[j]?=some c->c.live=true->(ρ j).1<w.heap.size:=by
  intro j c hc hl;have:=h.box j c hc;cases c with
  | c cs t=>obtain⟨cells,h1,_⟩:=this; exact(Array.getElem?_eq_some_iff.1 h1).1
  | a n xs t =>
   have:=World.ownsRow.lt this (ρ j).1 rfl;exact this.2
  | _=>cases hl
 have key:∀ j c,(H++[b])[j]?=some c->(j<H.length/\H[j]?=some c)\/(j=H.length/\c=b):=by
  intro j c hc
  by_cases hj:j<H.length
  ·rw [List.getElem?_append_left hj] at hc; exact .inl ⟨hj,hc⟩
  rw [List.getElem?_append_right (by omega)] at hc;have hz:j-H.length=0:=by
   rcases Nat.eq_zero_or_pos (j-H.length) with h0 | h0
   ·exact h0
   rw [List.getElem?_eq_none (by simp; omega)] at hc; cases hc
  rw [hz] at hc;simp at hc;exact .inr ⟨by omega,hc.symm⟩
 refine⟨h.defers,h.size,fun t s x hF hx=>h.slot t s x hF (by rw [mY hρ (h.wfF t s hF)] at hx; exact hx),?_,?_,?_,?_,?_,?_,?_⟩
 ·intro j c hc
  rcases key j c hc with ⟨hj,ic⟩ | ⟨rfl,rfl⟩
  ·refine(h.box j c ic).Hz (hρ j hj) (fun cs t sJ s hs=>.inl (mY hρ ?_)) (fun hl=>hold _ (lt j c ic hl) (WU j c ic hl))
   subst sJ;exact h.wfH j cs t ic s hs
  exact eg
 ·intro j k c d hc hd eG B3 he
  rcases key j c hc with ⟨hj,ic⟩ | ⟨rfl,rfl⟩ <;> rcases key k d hd with ⟨hk,hd'⟩ | ⟨rfl,rfl⟩
  ·rw [hρ j hj,hρ k hk] at he
   exact h.inj j k c d ic hd' eG B3 he
  ·rw [hρ j hj] at he
   exact(WU j c ic eG he).elim
  ·rw [hρ k hk] at he
   exact(WU k d hd' B3 he.symm).elim
  rfl
 ·intro j c hc eG
  rcases key j c hc with ⟨hj,ic⟩ | ⟨rfl,rfl⟩
  ·rw [hρ j hj]; exact h.base j c ic eG
  exact hB
 ·intro j c hc eG
  rcases key j c hc with ⟨hj,ic⟩ | ⟨rfl,rfl⟩
  ·rw [hρ j hj]; exact h.priv j c ic eG
  exact hV
 ·intro k cs t hk
  have lP:=h.know k cs t hk;rw [hold k (Array.getElem?_eq_some_iff.1 lP).1 (fun e=>by rw [<- e,hk] at hV; cases hV)]
  exact lP
 ·intro t s hF; exact lg (by simp) (h.wfF t s hF)
 intro j cs t hj s hs;rcases key j _ hj with ⟨_,ic⟩ | ⟨rfl,ic⟩
 ·exact lg (by simp) (h.wfH j cs t ic s hs)
 exact lg (by simp) (gM cs t ic.symm s hs)
theorem Sat.WV (h:Sat P N B F H V ρ a w) {b:aT} {ρ':Nat->Nat × Nat} {w':World} (HB:b.live=true) (hρ:∀ j,j<H.length->ρ' j=ρ j)
  (hnew:(ρ' H.length).1=w.heap.size) (hB:B<=w.heap.size) (hold:∀ k,k<w.heap.size->w'.heap[k]?=w.heap[k]?)
  (hV:V w.heap.size=none) (gM:∀ cs t,b=.c cs t->∀ s∈cs,lW H.length s)
  (eg:mX P B ρ' (H++[b]) w' H.length b):Sat P N B F (H++[b]) V ρ' a w':=by
 refine h.HA HB hρ (fun j c hc hl=>?_) (by rw [hnew]; exact hB) (fun k hk _=>hold k hk) (by rw [hnew]; exact hV) gM eg
 rw [hnew];have:=h.box j c hc;cases c with
 | c cs t=>obtain⟨cells,h1,_⟩:=this; have:=(Array.getElem?_eq_some_iff.1 h1).1; omega
 | a n xs t =>
  have:=World.ownsRow.lt this (ρ j).1 rfl;omega
 | _=>cases hl
theorem Sat.yo (h:Sat P N B F H V ρ a w):∀ j c,H[j]?=some c->c.live=true->(ρ j).1<w.heap.size:=by
 intro j c hc hl;have:=h.box j c hc;cases c with
 | c cs t=>obtain⟨cells,h1,_⟩:=this; exact(Array.getElem?_eq_some_iff.1 h1).1
 | a n xs t =>
  have:=World.ownsRow.lt this (ρ j).1 rfl;exact this.2
 | _=>cases hl
theorem aa.on.fI (h:V.on w):V w.heap.size=none:=by
 cases hv:V w.heap.size with
 | none=>rfl
 | some x =>
  have:=h _ x.1 x.2 hv;have:=(Array.getElem?_eq_some_iff.1 this).1;omega
theorem Sat.QQ (h:Sat P N B F H V ρ a w) (i:Nat):Sat P N B F (H.set i .x) V ρ a w:=by
 have rz:∀ s,cv ρ (H.set i .x) s=cv ρ H s\/cv ρ (H.set i .x) s=none:=by
  intro s;cases s with
  | v x=>exact .inl rfl
  | k b=>exact .inl rfl
  | p j off =>
   simp only [cv,List.getElem?_set]
   by_cases e:i=j
   ·subst e
    by_cases hl:i<H.length <;> simp [hl]
   simp [e]
  | o j =>
   simp only [cv,List.getElem?_set]
   by_cases e:i=j
   ·subst e
    by_cases hl:i<H.length <;> simp [hl]
   simp [e]
 have hcv':∀ s x,cv ρ (H.set i .x) s=some x->cv ρ H s=some x:=by
  intro s x hx;rcases rz s with e | e
  ·rw [<- e]; exact hx
  rw [e] at hx; cases hx
 have key:∀ (j:Nat) (c:aT),(H.set i .x)[j]?=some c->c.live=true->H[j]?=some c:=by
  intro j c hc hl;rw [List.getElem?_set] at hc
  by_cases e:i=j
  ·subst e
   by_cases aN:i<H.length
   ·simp [aN] at hc; subst hc; cases hl
   simp [aN] at hc
  simpa [e] using hc
 refine⟨h.defers,h.size,fun t s x hF hx=>h.slot t s x hF (hcv' s x hx),?_,?_,?_,?_,h.know,?_,?_⟩
 ·intro j c hc
  by_cases hl:c.live=true
  ·exact(h.box j c (key j c hc hl)).Hz rfl (fun _ _ _ s _=>rz s) (fun _=>rfl)
  cases c <;> first | trivial | (exact(hl rfl).elim)
 ·intro j k c d hc hd eG B3 he
  exact h.inj j k c d (key j c hc eG) (key k d hd B3) eG B3 he
 ·intro j c hc eG; exact h.base j c (key j c hc eG) eG
 ·intro j c hc eG; exact h.priv j c (key j c hc eG) eG
 ·intro t s hF; simpa using h.wfF t s hF
 intro j cs t hj s hs; simpa using h.wfH j cs t (key j _ hj rfl) s hs
variable {P:Program} {N:Nat} {w0:World} {F:Fm} {H:List aT} {Vs V V0:aa} {ρ:Nat->Nat × Nat} {a:Act} {w:World}
def one (l:List Value):Bool:=l.all Value.oneCell'
theorem ql {l:List Value} (h:one l=true):fA l=true:=by
 refine List.all_eq_true.2 fun x hx=>?_
 have:=List.all_eq_true.1 h x hx;cases x <;> first | rfl | simp [Value.oneCell'] at this
def cellsOf (H:List aT):SV->Option (List SV)
 | .v y=>if one y.cells.toList then some (y.cells.toList.map .v) else none
 | .k b=>some [.v (.bool b)]
 | .p i off=>if kZ H i then some [.p i off] else none
 | .o i=>match H[i]? with | some (.a ..)=>some [.o i] | _=>none
def zeroOf (P:Program) (t:TypeId):Option (List Value):=match P.info? t with | some i=>(match i.zero with | some z=>some z.cells.toList | none=>none) | none=>none
inductive Eff (P:Program) (o:Oper) (F:Fm) (H:List aT) (V:aa):Fm->List aT->aa->Prop
 | box {t x y}:o.op=.box t x->ev H F x=some (.v y)->Eff P o F H V (au F o.dst (.p H.length 0)) (H++[.c (y.cells.toList.map .v) t]) V
 | alloc {t z}:o.op=.alloc t->zeroOf P t=some z->Eff P o F H V (au F o.dst (.p H.length 0)) (H++[.c (z.map .v) t]) V
 | stC {t ad x i off cs u s l}:o.op=.store t ad x->ev H F ad=some (.p i off)->H[i]?=some (.c cs u)->ev H F x=some s->cellsOf H s=some l ->
   bo P t=some l.length->off+l.length<=cs.length->Eff P o F H V (au F o.dst (.v undef)) (H.set i (.c (aX cs off l) u)) V
 | stA {t ad x i off n xs u y}:o.op=.store t ad x->ev H F ad=some (.p i off)->H[i]?=some (.a n xs u)->ev H F x=some (.v y)->one y.cells.toList=true ->
   bo P t=some y.cells.size->off+y.cells.size<=xs.length->Eff P o F H V (au F o.dst (.v undef)) (H.set i (.a n (aX xs off y.cells.toList) u)) V
 | stV {t ad x p cs u y}:o.op=.store t ad x->ev H F ad=some (.v (.pointer (some p)))->p.spot=none->V p.block=some (cs,(u,(0,0)))->ev H F x=some (.v y)->one y.cells.toList=true ->
   bo P t=some y.cells.size->p.off+y.cells.size<=cs.length->Eff P o F H V (au F o.dst (.v undef)) H (aB V p.block (aX cs p.off y.cells.toList,(u,(0,0))))
theorem mL {t:TypeId} (w:World) (g off:Nat) (cur:List Value) (u:TypeId) (y:Value) (hg:w.heap[g]?=some (.cells cur.toArray u (0,0)))
  (h1:one y.cells.toList=true) (hs:bo P t=some y.cells.size) (dY:off+y.cells.size<=cur.length) :
  (Instr.storeAt t (.pointer (some ⟨g,off,none⟩)) y).run P w=.ok () (w.setRow g (aX cur off y.cells.toList).toArray):=by
 obtain⟨i,hi,hn⟩:=EH hs;have ll:=run_storeCells_at P g off u y.cells.toList 0 cur.toArray w hg (by simpa using dY) (by intro v hv; exact(List.all_eq_true.1 h1) v hv)
 simp only [Nat.add_zero] at ll;simp [Instr.storeAt,Instr.sureAddr,storeVar,Go.sizeOf,typeInfo,hi,hn,ll,aX]
theorem Fr.nY {w':World} (h:Fr Vs V w0 w) (g:Nat) (hg:w0.heap.size<=g) (hs:w'.heap.size=w.heap.size) (ho:w'.os=w.os) (ht:w'.tape=w.tape) (hu:w'.output=w.output)
  (hb:∀ k,k≠g->w'.heap[k]?=w.heap[k]?):Fr Vs V w0 w' :=
 ⟨ho.trans h.os,ht.trans h.tape,hu.trans h.output,by rw [hs]; exact h.size,fun b aN hn=>(hb b (by omega)).trans (h.j9 b aN hn),h.dom⟩
theorem Fr.grow {w':World} (h:Fr Vs V w0 w) (hs:w.heap.size<=w'.heap.size) (ho:w'.os=w.os) (ht:w'.tape=w.tape) (hu:w'.output=w.output)
  (hb:∀ k,k<w.heap.size->k<w0.heap.size->w'.heap[k]?=w.heap[k]?):Fr Vs V w0 w' :=
 ⟨ho.trans h.os,ht.trans h.tape,hu.trans h.output,Nat.le_trans h.size hs,fun b aN hn=>(hb b (Nat.lt_of_lt_of_le aN h.size) aN).trans (h.j9 b aN hn),h.dom⟩
theorem fS {l:List Value} (j:Nat) (s:SV) (x:Value) (hs:(l.map SV.v)[j]?=some s) (hx:cv ρ H s=some x):l[j]?=some x:=by
 simp at hs;obtain⟨y,h1,rfl⟩:=hs;simp [cv] at hx;subst hx;exact h1
theorem Sat.mkC (h:Sat P N w0.heap.size F H V ρ a w) (hF:Fr Vs V w0 w) {dst:Option Tmp} (hd:∀ d,dst=some d->d<N) (l:List Value) (t:TypeId) :
  ∃ ρ',Sat P N w0.heap.size (au F dst (.p H.length 0)) (H++[.c (l.map .v) t]) V ρ' (a.put dst (.pointer (some ⟨w.heap.size,0,none⟩))) (w.alloc (.cells l.toArray t)) /\
   Fr Vs V w0 (w.alloc (.cells l.toArray t)):=by
 let ρ':Nat->Nat × Nat:=fun i=>if i=H.length then (w.heap.size,0) else ρ i
 have hρ:∀ j,j<H.length->ρ' j=ρ j:=fun j hj=>if_neg (by omega)
 have hn:ρ' H.length=(w.heap.size,0):=if_pos rfl;have h1:Sat P N w0.heap.size F (H++[.c (l.map .v) t]) V ρ' a (w.alloc (.cells l.toArray t)):=by
  refine h.WV rfl hρ (by rw [hn]) hF.size (fun k hk=>heap_alloc_old w _ hk) h.know.fI ?_ ?_
  ·intro cs u hc s hs
   simp at hc;obtain⟨rfl,rfl⟩:=hc;simp at hs;obtain⟨x,_,rfl⟩:=hs
   trivial
  refine⟨l,by rw [hn]; exact heap_alloc_new w _,by simp,fun j s x hs hx=>fS j s x hs hx⟩
 refine⟨ρ',h1.put hd (by simp [lW]) (fun x hx=>?_),hF.grow (by simp) rfl rfl rfl (fun k hk _=>heap_alloc_old w _ hk)⟩
 simp [cv,hn] at hx;exact hx.symm
theorem EI (h:Sat P N w0.heap.size F H V ρ a w) {x:Operand} {s:SV} {l:List SV} (he:ev H F x=some s) (hl:cellsOf H s=some l) :
  one (a.eval x).cells.toList=true/\(a.eval x).cells.size=l.length/\(∀ u∈l,lW H.length u) /\
   ∀ (j:Nat) u y,l[j]?=some u->cv ρ H u=some y->(a.eval x).cells.toList[j]?=some y:=by
 have gM:=h.k8 he;cases s with
 | v y =>
  have hy:=h.eval he rfl;simp only [cellsOf] at hl;split at hl
  ·rename_i h1
   simp at hl;subst hl;rw [hy];refine⟨h1,by simp,fun u hu=>?_,fun j u z hu hz=>fS j u z hu hz⟩
   simp at hu;obtain⟨_,_,rfl⟩:=hu
   trivial
  cases hl
 | k b =>
  have hy:=h.eval he rfl;simp [cellsOf] at hl;subst hl;rw [hy];refine⟨rfl,rfl,fun u hu=>by simp at hu; subst hu; trivial,fun j u z hu hz=>fS (l:=[.bool b]) j u z hu hz⟩
 | p i off =>
  simp only [cellsOf] at hl;split at hl
  ·rename_i HB
   simp at hl;subst hl;have hy:=h.eval he (qk HB);rw [hy];refine⟨rfl,rfl,fun u hu=>by simp at hu; subst hu; exact gM,fun j u z hu hz=>?_⟩
   cases j with
   | zero=>simp at hu; subst hu; rw [qk HB] at hz; simp at hz; subst hz; rfl
   | succ j=>simp at hu
  cases hl
 | o i =>
  simp only [cellsOf] at hl;split at hl
  ·rename_i n xs t hb
   simp at hl;subst hl;have hc:cv ρ H (.o i)=some (.slice (some ⟨(ρ i).1,0,none⟩) n (ρ i).2):=by simp [cv,hb]
   have hy:=h.eval he hc;rw [hy];refine⟨rfl,rfl,fun u hu=>by simp at hu; subst hu; exact gM,fun j u z hu hz=>?_⟩
   cases j with
   | zero=>simp at hu; subst hu; rw [hc] at hz; simp at hz; subst hz; rfl
   | succ j=>simp at hu
  cases hl
theorem wU {B g n cap:Nat} {t:TypeId} {size:Nat} {xs ys:List Value} (h:w.ownsRow B t size (.slice (some ⟨g,0,none⟩) n cap) n xs) (off:Nat) (dY:off+ys.length<=xs.length) :
  ∃ cur,w.heap[g]?=some (.cells (xs++cur).toArray t (0,0))/\(w.setRow g (aX (xs++cur) off ys).toArray).ownsRow B t size (.slice (some ⟨g,0,none⟩) n cap) n (aX xs off ys):=by
 obtain⟨h1,h2⟩:=h;rcases h2 with ⟨h2,_⟩ | ⟨g',B4,cur,hv,hb,hg,hn,hm,hs,HC⟩
 ·cases h2
 simp only [Value.slice.injEq,Option.some.injEq,Addr.mk.injEq] at hv;obtain⟨⟨rfl,_⟩,_,rfl⟩:=hv;have pq:cur=(xs++cur.toList.drop (n*size)).toArray:=by
  rw [<- HC,List.take_append_drop]
 refine⟨cur.toList.drop (n*size),by rw [<- pq]; exact hg,by rw [jS dY]; exact h1,.inr ⟨g,cap,_,rfl,hb,setRow_heap w g _ _ t (0,0) hg,hn,hm,?_,?_⟩⟩
 ·simp only [List.size_toArray]
  rw [jS (by simp; omega)]
  simp only [List.length_append,List.length_drop,Array.length_toList];rw [hs,h1];have:=Nat.mul_le_mul_right size hn;omega
 have:n*size=xs.length:=h1.symm;apply List.ext_getElem?
 intro j;rw [List.getElem?_take];split
 ·rw [jL (by simp; omega),jL dY]
  split
  ·rfl
  rw [List.getElem?_append_left (by omega)]
 rw [List.getElem?_eq_none];rw [jS dY];omega
theorem vB {o:Oper} {F':Fm} {H':List aT} {V':aa} (he:Eff P o F H V F' H' V') (h:Sat P N w0.heap.size F H V ρ a w) (hF:Fr Vs V w0 w) (hd:∀ d,o.dst=some d->d<N) :
  ∃ y ρ' w',((execOp a.eval o).run P w=.ok (.value y) w'\/((execOp a.eval o).run P w=.ok .skip w'/\y=undef))/\Sat P N w0.heap.size F' H' V' ρ' (a.put o.dst y) w'/\Fr Vs V' w0 w':=by
 cases he with
 | @box t x y ho hx =>
  have hy:=h.eval hx rfl;obtain⟨ρ',h1,h2⟩:=h.mkC hF hd y.cells.toList t;refine⟨.pointer (some ⟨w.heap.size,0,none⟩),ρ',_,.inl ?_,h1,h2⟩
  simp [execOp,ho,hy,Instr.box,newVar,newRow]
 | @alloc t z ho hz =>
  obtain⟨ρ',h1,h2⟩:=h.mkC hF hd z t;refine⟨.pointer (some ⟨w.heap.size,0,none⟩),ρ',_,.inl ?_,h1,h2⟩
  unfold zeroOf at hz;split at hz
  ·rename_i i hi
   split at hz
   ·rename_i z' EJ
    simp at hz;subst hz;simp [execOp,ho,Instr.alloc,zeroValue,typeInfo,hi,EJ,newVar,newRow]
   cases hz
  cases hz
 | @stC t ad x i off cs u s l ho had hb hx hl hs dY =>
  have rz:cv ρ H (.p i off)=some (.pointer (some ⟨(ρ i).1,off,none⟩)):=by simp [cv,hb]
  have h1:=h.eval had rz;obtain⟨g1,g2,g3,g4⟩:=EI h hx hl;obtain⟨cells,c1,c2,c3⟩:=h.box i _ hb;have cJ:=mL (P:=P) w (ρ i).1 off cells u (a.eval x) c1 g1 (by rw [g2]; exact hs) (by rw [g2,c2]; exact dY)
  have hlen:off+(a.eval x).cells.toList.length<=cells.length:=by simp only [Array.length_toList]; rw [g2,c2]; exact dY
  have Mo:Sat P N w0.heap.size F (H.set i (.c (aX cs off l) u)) V ρ a (w.setRow (ρ i).1 (aX cells off (a.eval x).cells.toList).toArray):=by
   refine h.Mn hb (.inl ⟨cs,u,_,u,rfl,rfl,?_⟩) (fun k hk=>setRow_other w _ k _ hk) ?_
   ·intro s hs
    simp only [aX,List.mem_append] at hs;rcases hs with (hs | hs) | hs
    ·exact h.wfH i cs u hb s (List.mem_of_mem_take hs)
    ·exact g3 s hs
    exact h.wfH i cs u hb s (List.mem_of_mem_drop hs)
   have hcvs:cv ρ (H.set i (.c (aX cs off l) u))=cv ρ H:=Mm hb (.inl ⟨_,_,_,_,rfl,rfl⟩);refine⟨_,setRow_heap w _ _ _ u (0,0) c1,by rw [jS hlen,jS dY,c2],fun j s y hj hy=>?_⟩
   rw [hcvs] at hy;rw [jL dY] at hj;rw [jL hlen];simp only [Array.length_toList,g2];split at hj
   ·rename_i hc
    rw [if_pos hc];exact g4 _ _ _ hj hy
   rename_i hc;rw [if_neg hc];exact c3 j s y hj hy
  refine⟨undef,ρ,_,.inr ⟨?_,rfl⟩,Mo.put hd trivial (fun x hx=>by simp [cv] at hx; exact hx.symm),hF.nY (ρ i).1 (h.base i _ hb rfl) (size_setRow _ _ _) rfl rfl rfl (fun k hk=>setRow_other w _ k _ hk)⟩
  simp [execOp,ho,h1,cJ]
 | @stA t ad x i off n xs u y ho had hb hx h1 hs dY =>
  have rz:cv ρ H (.p i off)=some (.pointer (some ⟨(ρ i).1,off,none⟩)):=by simp [cv,hb]
  have ha:=h.eval had rz;have hy:=h.eval hx rfl;obtain⟨cur,c1,c2⟩:=wU (ys:=y.cells.toList) (h.box i _ hb) off (by simpa using dY);have cJ:=mL (P:=P) w (ρ i).1 off (xs++cur) u y c1 h1 hs (by simp; omega)
  have Mo:Sat P N w0.heap.size F (H.set i (.a n (aX xs off y.cells.toList) u)) V ρ a (w.setRow (ρ i).1 (aX (xs++cur) off y.cells.toList).toArray) :=
   h.Mn hb (.inr ⟨n,xs,u,_,u,rfl,rfl⟩) (fun k hk=>setRow_other w _ k _ hk) c2
  refine⟨undef,ρ,_,.inr ⟨?_,rfl⟩,Mo.put hd trivial (fun x hx=>by simp [cv] at hx; exact hx.symm),hF.nY (ρ i).1 (h.base i _ hb rfl) (size_setRow _ _ _) rfl rfl rfl (fun k hk=>setRow_other w _ k _ hk)⟩
  simp [execOp,ho,ha,hy,cJ]
 | @stV t ad x p cs u y ho had oV hv hx h1 hs dY =>
  have ha:=h.eval had rfl;have hy:=h.eval hx rfl;have hk:=h.know.row hv;obtain⟨pb,po,ps⟩:=p;simp at oV;subst oV;have cJ:=mL (P:=P) w pb po cs u y hk h1 hs dY;have bR:∀ i b,H[i]?=some b->b.live=true->(ρ i).1≠pb:=fun i b hb hl e=>by
   have:=h.priv i b hb hl; rw [e,hv] at this; cases this
  have Mo:Sat P N w0.heap.size F H (aB V pb (aX cs po y.cells.toList,(u,(0,0)))) ρ a (w.setRow pb (aX cs po y.cells.toList).toArray):=by
   refine⟨h.defers,h.size,h.slot,fun i b hb=>(h.box i b hb).of_heap rfl (fun hl=>setRow_other w _ _ _ (bR i b hb hl)),h.inj,h.base,?_,?_,h.wfF,h.wfH⟩
   ·intro i b hb hl
    simp only [aB,if_neg (bR i b hb hl)];exact h.priv i b hb hl
   intro b c t hb;simp only [aB] at hb;split at hb
   ·rename_i e
    subst e;simp at hb;obtain⟨rfl,rfl⟩:=hb;rw [gJ];exact setRow_heap w _ _ _ u (0,0) hk
   rename_i e;rw [setRow_other w _ _ _ e];exact h.know b c t hb
  refine⟨undef,ρ,_,.inr ⟨?_,rfl⟩,Mo.put hd trivial (fun x hx=>by simp [cv] at hx; exact hx.symm),?_⟩
  ·simp [execOp,ho,ha,hy,cJ]
  refine⟨hF.os,hF.tape,hF.output,by rw [size_setRow]; exact hF.size,fun b aN hn=>?_,fun b aN hn=>?_⟩
  ·have yR:=hF.dom b aN hn
   rw [setRow_other w _ _ _ (fun e=>by rw [e,hv] at yR; cases yR)]
   exact hF.j9 b aN hn
  have yR:=hF.dom b aN hn;simp only [aB];rw [if_neg (fun e=>by rw [e,hv] at yR; cases yR)]
  exact yR
theorem _root_.bq {p:Prop} [Decidable p] (h:decide p=true):p:=of_decide_eq_true h
theorem _root_.bU {p:Prop} [Decidable p] (h:decide p=false):¬p:=of_decide_eq_false h
end Sx
