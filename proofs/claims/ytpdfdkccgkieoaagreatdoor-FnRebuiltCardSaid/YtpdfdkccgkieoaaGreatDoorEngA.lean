/-
  What a function does, told by what is known of memory: calls, slots, own boxes.
-/
import Derived.WalkKit
import Derived.Laws.AppendOwnNone
namespace Sx
open Go
abbrev KTy:=TypeId × (Nat × Nat)
abbrev Know:=Nat→Option (List Value × KTy)
inductive SV where
 | v (x:Value)
 | k (b:Bool)
 | p (i off:Nat)
 | o (i:Nat)
inductive Box where
 | c (cs:List SV) (t:TypeId)
 | a (n:Nat) (xs:List Value) (t:TypeId)
 | f (x:Value)
 | e (b:Nat)
 | x
def Box.live:Box→Bool
 | .c ..=>true
 | .a ..=>true
 | _=>false
abbrev Fm:=Nat→Option SV
abbrev Kt:=Fm→List Box→Know→Prop
def upd (F:Fm) (d:Nat) (s:SV):Fm:=fun t=>if t=d then some s else F t
def putF (F:Fm) (d:Option Tmp) (s:SV):Fm:=match d with | some d=>upd F d s | none=>F
def kset (V:Know) (b:Nat) (x:List Value × KTy):Know:=fun k=>if k=b then some x else V k
def res (H:List Box):SV→SV
 | .o i=>match H[i]? with | some (.f x)=>.v x | _=>.o i
 | .p i off=>match H[i]? with | some (.e b)=>.v (.pointer (some ⟨b,off,none⟩)) | _=>.p i off
 | s=>s
def ev (H:List Box) (F:Fm):Operand→Option SV
 | .tmp t=>match F t with | some s=>some (res H s) | none=>none
 | .const x=>some (.v x)
 | .global g=>some (.v (.pointer (some ⟨g,0,none⟩)))
 | .func f=>some (.v (.func (.func f) #[] #[]))
def prun (P:Program) {α:Type}:Sem α→Option α
 | .pure a=>some a
 | .program k=>prun P (k P)
 | .mark _ k=>prun P k
 | _=>none
theorem prun_run {P:Program} {α:Type} {s:Sem α} {x:α} (h:prun P s=some x) (w:World):s.run P w=.ok x w:=by
 induction s with
 | pure a=>simp [prun] at h; subst h; rfl
 | program k ih=>exact ih _ h
 | mark m k ih=>exact ih h
 | _=>simp [prun] at h
def isAg (P:Program) (t:TypeId):Option Bool:=match P.underlying t with | some (.struct _)=>some true | some (.array _ _)=>some true | some _=>some false | none=>none
def fld (P:Program) (t:TypeId) (k:Nat):Option (Nat × Nat) :=
 match P.underlying t with
 | some (.struct fs)=>match fs[k]? with | some f=>(match P.info? f.type with | some i=>some (f.offset,i.size) | none=>none) | none=>none
 | _=>none
def cutv {α:Type} (l:List α) (off n:Nat):Option (List α):=if off+n≤l.length then some ((l.drop off).take n) else none
def plains:List SV→Option (List Value)
 | []=>some []
 | .v x :: r=>match plains r with | some l=>some (x :: l) | none=>none
 | _ :: _=>none
def liveAt (H:List Box) (i:Nat):Bool:=match H[i]? with | some b=>b.live | none=>false
def loadV (V:Know) (a:Addr) (n:Nat):Option (List Value) :=
 match a.spot,V a.block with
 | none,some (cs,_)=>cutv cs a.off n
 | _,_=>none
def noTup (l:List Value):Bool:=l.all fun x=>match x with | .tuple _=>false | _=>true
def loadB (H:List Box) (i off n:Nat):Option (List SV) :=
 match H[i]? with
 | some (.c cs _)=>match cutv cs off n with | some l=>some (l.map (res H)) | none=>none
 | some (.a _ xs _)=>match cutv xs off n with | some l=>some (l.map .v) | none=>none
 | _=>none
def join (P:Program) (t:TypeId) (l:List SV):Option SV :=
 match isAg P t with
 | some true=>match plains l with | some l=>some (.v (.agg l.toArray)) | none=>none
 | some false=>match l with | [s]=>some s | _=>none
 | none=>none
def sizeOf? (P:Program) (t:TypeId):Option Nat:=match P.info? t with | some i=>some i.size | none=>none
def elemOf (P:Program) (t:TypeId):Option Nat:=match P.underlying t with | some (.slice e)=>sizeOf? P e | _=>none
def idx (P:Program) (H:List Box) (t:TypeId):SV→SV→Option SV
 | .o j,.v (.int _ n)=>match H[j]?,elemOf P t with
  | some (.a len _ _),some sz=>if 0≤n∧n<len then some (.p j (n.toNat*sz)) else none
  | _,_=>none
 | .v (.slice (some a) len _),.v (.int _ n)=>match elemOf P t with
  | some sz=>if 0≤n∧n<len then some (.v (.pointer (some (a.add (n.toNat*sz))))) else none
  | none=>none
 | .v (.pointer (some a)),.v (.int _ n)=>match P.underlying t with
  | some (.array len e)=>(match sizeOf? P e with | some sz=>(if 0≤n∧n<(len:Int) then some (.v (.pointer (some (a.add (n.toNat*sz))))) else none) | none=>none)
  | _=>none
 | _,_=>none
def envOf (H:List Box) (F:Fm) (x:Operand):Value:=match ev H F x with | some (.v y)=>y | _=>undef
def allPlain (H:List Box) (F:Fm):List Operand→Bool
 | []=>true
 | x :: r=>match ev H F x with | some (.v _)=>allPlain H F r | _=>false
def stabPlain (P:Program) (H:List Box) (F:Fm) (o:Oper):Option SV :=
 match allPlain H F o.op.operands.toList with
 | true=>match prun P (execOp (envOf H F) o) with | some (.value r)=>some (.v r) | _=>none
 | false=>none
def isLen (c:Call):Bool:=match c.callee with | .builtin .len=>true | _=>false
def isSel:Op→Bool | .select ..=>true | _=>false
def bytesGo:List Value→ByteArray→Option ByteArray
 | [],s=>some s
 | .int .u8 n :: r,s=>bytesGo r (s.push (UInt8.ofNat n.toNat))
 | _ :: _,_=>none
def bytesOf (l:List Value):Option ByteArray:=bytesGo l .empty
def isSb (P:Program) (src dst:TypeId):Bool:=match P.underlying src,P.underlying dst with
 | some .string,some (.slice e)=>(match P.underlying e with | some (.int .u8)=>true | _=>false)
 | _,_=>false
def isBs (P:Program) (src dst:TypeId):Bool:=match P.underlying src,P.underlying dst with
 | some (.slice e),some .string=>(match P.underlying e with | some (.int .u8)=>true | _=>false)
 | _,_=>false
def stab (P:Program) (V:Know) (H:List Box) (F:Fm) (o:Oper):Option SV :=
 match o.op with
 | .move x=>ev H F x
 | .assign x=>ev H F x
 | .pick c a b=>match ev H F c with
  | some (.v (.bool true))=>ev H F a
  | some (.v (.bool false))=>ev H F b
  | _=>none
 | .fieldAddr t x k=>match ev H F x,fld P t k with
  | some (.p i off),some (d,_+1)=>match liveAt H i with | true=>some (.p i (off+d)) | false=>none
  | some (.v (.pointer (some a))),some (d,_+1)=>some (.v (.pointer (some (a.add d))))
  | _,_=>none
 | .indexAddr t x i=>match ev H F x,ev H F i with
  | some s,some n=>idx P H t s n
  | _,_=>none
 | .load t x=>match ev H F x,sizeOf? P t with
  | some (.p i off),some n=>match loadB H i off n with | some l=>join P t l | none=>none
  | some (.v (.pointer (some a))),some n=>match loadV V a n with | some l=>(match noTup l with | true=>join P t (l.map .v) | false=>none) | none=>none
  | _,_=>none
 | .call c=>match isLen c,c.args.toList,c.argTypes.toList with
  | true,[x],[t]=>match ev H F x,P.underlying t with
   | some (.o j),some (.slice _)=>match H[j]? with | some (.a n _ _)=>some (.v (.int .i64 n)) | _=>none
   | some (.v _),_=>stabPlain P H F o
   | _,_=>none
  | _,_,_=>stabPlain P H F o
 | .convert src dst x=>match isBs P src dst,ev H F x with
  | true,some (.v (.slice (some ad) n _))=>if n=0 then some (.v (.string .empty)) else match loadV V ad n with | some l=>(match bytesOf l with | some s=>some (.v (.string s)) | none=>none) | none=>none
  | _,_=>stabPlain P H F o
 | _=>stabPlain P H F o
structure Fr (V V':Know) (w w':World):Prop where
 os:w'.os=w.os
 tape:w'.tape=w.tape
 output:w'.output=w.output
 size:w.heap.size≤w'.heap.size
 keep:∀ b,b<w.heap.size→V b=none→w'.heap[b]?=w.heap[b]?
 dom:∀ b,b<w.heap.size→V b=none→V' b=none
theorem Fr.refl (V:Know) (w:World):Fr V V w w:=⟨rfl,rfl,rfl,Nat.le_refl _,fun _ _ _=>rfl,fun _ _ h=>h⟩
theorem Fr.trans {V V1 V2:Know} {w w1 w2:World} (h:Fr V V1 w w1) (k:Fr V1 V2 w1 w2):Fr V V2 w w2 :=
 ⟨k.os.trans h.os,k.tape.trans h.tape,k.output.trans h.output,Nat.le_trans h.size k.size,
  fun b hb hn=>(k.keep b (Nat.lt_of_lt_of_le hb h.size) (h.dom b hb hn)).trans (h.keep b hb hn),
  fun b hb hn=>k.dom b (Nat.lt_of_lt_of_le hb h.size) (h.dom b hb hn)⟩
def encE (e:MapEntry):Value:=.tuple #[e.key,e.val,.int .i64 e.born]
def decE:Value→MapEntry
 | .tuple ⟨[k,x,.int _ n]⟩=>⟨k,x,n.toNat⟩
 | _=>default
theorem dec_enc (e:MapEntry):decE (encE e)=e:=rfl
def objOf (c:List Value) (t:KTy):Obj:=match c with
 | [.tuple es]=>if t.2=(1,0) then .map (es.map decE) t.1 else .cells c.toArray t.1 t.2
 | _=>.cells c.toArray t.1 t.2
theorem objOf_rw (c:List Value) (u:TypeId):objOf c (u,(0,0))=.cells c.toArray u (0,0):=by
 unfold objOf
 split
 ·rw [if_neg (by simp)]
 ·rfl
theorem objOf_cells {c:List Value} {t:KTy} (h:noTup c=true):objOf c t=.cells c.toArray t.1 t.2:=by
 unfold objOf
 split
 ·simp [noTup] at h
 ·rfl
def mapC (es:List MapEntry):List Value:=[.tuple (es.map encE).toArray]
theorem objOf_map (es:List MapEntry) (k:Nat):objOf (mapC es) (k,(1,0))=.map es.toArray k:=by
 unfold objOf mapC
 simp only [if_true]
 congr 1
 apply Array.ext'
 simp [Function.comp_def,dec_enc]
def Know.on (V:Know) (w:World):Prop:=∀ b c t,V b=some (c,t)→w.heap[b]?=some (objOf c t)
def Know.le (V V':Know):Prop:=∀ b x,V b=some x→V' b=some x
theorem Know.le.refl (V:Know):V.le V:=fun _ _ h=>h
theorem Know.le.trans {V V1 V2:Know} (h:V.le V1) (k:V1.le V2):V.le V2:=fun b x hx=>k b x (h b x hx)
theorem Know.on.le {V V':Know} {w:World} (h:V'.on w) (k:V.le V'):V.on w:=fun b c t hb=>h b c t (k b _ hb)
def Enters (P : Program) (g : FuncId) : Prop := ∃ fn, P.funcs[g]? = some fn ∧ fn.body.isSome = true ∧ (fn.name == "runtime.NumGoroutine") = false
def CallX (P:Program) (V:Know) (g:FuncId) (args:List Value) (K:Know→Value→Prop):Prop :=
 Enters P g∧∀ w,V.on w→Calls P g args.toArray w (fun e w'=>∃ V' r,e=.returned r∧Fr V V' w w'∧V'.on w'∧K V' r)
theorem CallX.mono {P:Program} {V:Know} {g:FuncId} {args:List Value} {K K':Know→Value→Prop} (h:CallX P V g args K)
  (hk:∀ V' r,K V' r→K' V' r):CallX P V g args K' :=
 ⟨h.1,fun w hw=>(h.2 w hw).mono fun _ _ ⟨V',r,h1,h2,h3,h4⟩=>⟨V',r,h1,h2,h3,hk _ _ h4⟩⟩
def cv (ρ:Nat→Nat × Nat) (H:List Box):SV→Option Value
 | .v x=>some x
 | .k b=>some (.bool b)
 | .p i off=>match H[i]? with
  | some (.c ..)=>some (.pointer (some ⟨(ρ i).1,off,none⟩))
  | some (.a ..)=>some (.pointer (some ⟨(ρ i).1,off,none⟩))
  | some (.e b)=>some (.pointer (some ⟨b,off,none⟩))
  | _=>none
 | .o i=>match H[i]? with
  | some (.a n _ _)=>some (.slice (some ⟨(ρ i).1,0,none⟩) n (ρ i).2)
  | some (.f x)=>some x
  | _=>none
def BoxOk (P:Program) (B:Nat) (ρ:Nat→Nat × Nat) (H:List Box) (w:World) (i:Nat):Box→Prop
 | .c cs t=>∃ cells:List Value,w.heap[(ρ i).1]?=some (.cells cells.toArray t (0,0))∧cells.length=cs.length ∧
   ∀ (j:Nat) (s:SV) (x:Value),cs[j]?=some s→cv ρ H s=some x→cells[j]?=some x
 | .a n xs t=>w.ownsRow B t (P.cellsOf t) (.slice (some ⟨(ρ i).1,0,none⟩) n (ρ i).2) n xs
 | _=>True
def inb (n:Nat):SV→Prop
 | .p i _=>i<n
 | .o i=>i<n
 | _=>True
structure Sat (P:Program) (N B:Nat) (F:Fm) (H:List Box) (V:Know) (ρ:Nat→Nat × Nat) (a:Act) (w:World):Prop where
 defers:a.defers=[]
 size:a.tmps.size=N
 slot:∀ t s x,F t=some s→cv ρ H s=some x→a.tmps[t]?=some x
 box:∀ i b,H[i]?=some b→BoxOk P B ρ H w i b
 inj:∀ i j b c,H[i]?=some b→H[j]?=some c→b.live=true→c.live=true→(ρ i).1=(ρ j).1→i=j
 base:∀ i b,H[i]?=some b→b.live=true→B≤(ρ i).1
 priv:∀ i b,H[i]?=some b→b.live=true→V (ρ i).1=none
 know:V.on w
 wfF:∀ t s,F t=some s→inb H.length s
 wfH:∀ (i:Nat) cs t,H[i]?=some (.c cs t)→∀ s∈cs,inb H.length s
theorem inb_res {H:List Box} {n:Nat} {s:SV} (h:inb n s):inb n (res H s):=by
 cases s with
 | v y=>exact h
 | k b=>exact h
 | p i off=>simp only [res]; split <;> first | exact h | trivial
 | o i=>simp only [res]; split <;> first | exact h | trivial
theorem cv_res {ρ:Nat→Nat × Nat} {H:List Box} {s:SV} {x:Value} (h:cv ρ H (res H s)=some x):cv ρ H s=some x:=by
 cases s with
 | v y=>exact h
 | k b=>exact h
 | p i off =>
  simp only [res] at h
  split at h
  ·rename_i b hb; simp only [cv] at h ⊢; rw [hb]; exact h
  ·exact h
 | o i =>
  simp only [res] at h
  split at h
  ·rename_i y hb; simp only [cv] at h ⊢; rw [hb]; exact h
  ·exact h
theorem Sat.eval {P N B F H V ρ a w} (h:Sat P N B F H V ρ a w) {x:Operand} {s:SV} {y:Value} (he:ev H F x=some s) (hc:cv ρ H s=some y):a.eval x=y:=by
 cases x with
 | tmp t =>
  simp only [ev] at he
  split at he
  ·rename_i s' hs
   simp at he
   subst he
   have:=h.slot t _ _ hs (cv_res hc)
   simp [Act.eval,this]
  ·cases he
 | const v=>simp [ev] at he; subst he; simp [cv] at hc; simp [Act.eval,hc]
 | global g=>simp [ev] at he; subst he; simp [cv] at hc; simp [Act.eval,hc]
 | func f=>simp [ev] at he; subst he; simp [cv] at hc; simp [Act.eval,hc]
theorem Sat.put {P N B F H V ρ a w} (h:Sat P N B F H V ρ a w) {dst:Option Tmp} {s:SV} {y:Value} (hd:∀ d,dst=some d→d<N)
  (hi:inb H.length s) (hy:∀ x,cv ρ H s=some x→x=y):Sat P N B (putF F dst s) H V ρ (a.put dst y) w:=by
 cases dst with
 | none=>exact h
 | some d =>
  have hd':=hd d rfl
  refine⟨h.defers,?_,?_,h.box,h.inj,h.base,h.priv,h.know,?_,h.wfH⟩
  ·simp [Act.put,h.size]
  ·intro t s' x hs hx
   simp only [Sx.putF,upd] at hs
   by_cases e:t=d
   ·subst e
    simp at hs
    subst hs
    rw [hy x hx]
    simp [Act.put,h.size,hd']
   ·simp [e] at hs
    have:=h.slot t s' x hs hx
    simp only [Act.put]
    rw [Array.getElem?_setIfInBounds_ne (fun h=>e h.symm)]
    exact this
  ·intro t s' hs
   simp only [Sx.putF,upd] at hs
   by_cases e:t=d
   ·simp [e] at hs; subst hs; exact hi
   ·simp [e] at hs; exact h.wfF t s' hs
theorem Sat.ev_inb {P N B F H V ρ a w} (h:Sat P N B F H V ρ a w) {x:Operand} {s:SV} (he:ev H F x=some s):inb H.length s:=by
 cases x with
 | tmp t =>
  simp only [ev] at he
  split at he
  ·rename_i s' hs
   simp at he
   subst he
   exact inb_res (h.wfF t _ hs)
  ·cases he
 | const v=>simp [ev] at he; subst he; trivial
 | global g=>simp [ev] at he; subst he; trivial
 | func f=>simp [ev] at he; subst he; trivial
theorem run_loadCellsFrom {P:Program} (w:World) (a:Addr):∀ (l:List Value) (i:Nat) (acc:Array Value),
  (∀ (j:Nat) (x:Value),l[j]?=some x→w.cell? (a.add (i+j))=some x)→(loadCellsFrom a i l.length acc).run P w=.ok (acc++l.toArray) w
 | [],i,acc,_=>by simp [loadCellsFrom]
 | x :: l,i,acc,h=>by
  have h0:=h 0 x rfl
  simp only [Nat.add_zero] at h0
  have ih:=run_loadCellsFrom (P:=P) w a l (i+1) (acc.push x) (fun j y hy=>by
   have:=h (j+1) y (by simpa using hy)
   rwa [show i+(j+1)=i+1+j from by omega] at this)
  simp [loadCellsFrom,h0,ih]
theorem run_loadVar {P:Program} (w:World) (t:TypeId) (n:Nat) (a:Addr) (l:List Value) (b:Bool) (hn:sizeOf? P t=some n) (hb:isAg P t=some b) (hl:l.length=n) (h1:b=false→n=1)
  (h:∀ (j:Nat) (x:Value),l[j]?=some x→w.cell? (a.add j)=some x) :
  (loadVar t a).run P w=.ok (if b then .agg l.toArray else l.headD undef) w:=by
 have hi:∃ i,P.info? t=some i∧i.size=n:=by
  unfold sizeOf? at hn; split at hn
  ·rename_i i hi; simp at hn; exact⟨i,hi,hn⟩
  ·cases hn
 obtain⟨i,hi,hin⟩:=hi
 have hr:=run_loadCellsFrom (P:=P) w a l 0 #[] (fun j x hx=>by simpa using h j x hx)
 rw [hl] at hr
 unfold isAg at hb
 split at hb
 ·rename_i fs hu
  cases hb
  simp [loadVar,isAgg,underlying,hu,Go.sizeOf,typeInfo,hi,hin,loadCells,hr]
 ·rename_i m e hu
  cases hb
  simp [loadVar,isAgg,underlying,hu,Go.sizeOf,typeInfo,hi,hin,loadCells,hr]
 ·rename_i d k1 k2 hu
  cases hb
  have h1:=h1 rfl
  subst h1
  match l,hl with
  | [x],_ =>
   have h0:=h 0 x rfl
   have hadd:a.add 0=a:=rfl
   rw [hadd] at h0
   cases d <;> first | (exact(k1 _ rfl).elim) | (exact(k2 _ _ rfl).elim) | (simp [loadVar,isAgg,underlying,hu,h0])
 ·cases hb
theorem addr_add_eq (b o i:Nat):(⟨b,o,none⟩:Addr).add i=⟨b,o+i,none⟩:=by
 unfold Addr.add; split <;> simp_all
theorem cutv_spec {α:Type} {l l':List α} {off n:Nat} (h:cutv l off n=some l'):l'.length=n∧∀ (j:Nat) x,l'[j]?=some x→l[off+j]?=some x:=by
 unfold cutv at h
 split at h
 ·rename_i hle
  simp at h
  subst h
  refine⟨by simp; omega,fun j x hx=>?_⟩
  rw [List.getElem?_take] at hx
  split at hx
  ·simpa using hx
  ·cases hx
 ·cases h
theorem plains_spec:∀ {l:List SV} {l':List Value},plains l=some l'→l'.length=l.length∧∀ (j:Nat) x,l'[j]?=some x→l[j]?=some (.v x)
 | [],l',h=>by simp [plains] at h; subst h; simp
 | .v y :: r,l',h=>by
  simp only [plains] at h
  split at h
  ·rename_i l'' hl
   simp at h
   subst h
   obtain⟨h1,h2⟩:=plains_spec hl
   refine⟨by simp [h1],fun j x hx=>?_⟩
   cases j with
   | zero=>simpa using hx
   | succ j=>simpa using h2 j x (by simpa using hx)
  ·cases h
 | .k _ :: _,_,h=>by simp [plains] at h
 | .p .. :: _,_,h=>by simp [plains] at h
 | .o .. :: _,_,h=>by simp [plains] at h
theorem Know.on.row {V:Know} {w:World} (h:V.on w) {b:Nat} {cs:List Value} {u:TypeId} (hb:V b=some (cs,(u,(0,0)))):w.heap[b]?=some (.cells cs.toArray u (0,0)):=by
 rw [h b cs _ hb,objOf_rw]
theorem Know.on.cell {V:Know} {w:World} (h:V.on w) {b:Nat} {cs:List Value} {t:KTy} (hb:V b=some (cs,t)) (off:Nat) (hc:∀ es,cs[off]?≠some (.tuple es)) (hlt:off<cs.length):w.cell? ⟨b,off,none⟩=cs[off]?:=by
 have e:objOf cs t=.cells cs.toArray t.1 t.2:=by
  unfold objOf
  split
  ·rename_i es
   exfalso
   have:off=0:=by simpa using hlt
   subst this
   exact hc es rfl
  ·rfl
 rw [cell_of_row w b off cs.toArray t.1 t.2 (by rw [h b cs t hb,e])]; simp
theorem noTup_mem {l:List Value} (h:noTup l=true) {x:Value} (hx:x∈l):∀ es,x≠.tuple es:=by
 intro es e
 have:=List.all_eq_true.1 h x hx
 subst e
 simp at this
theorem loadV_spec {V:Know} {w:World} (h:V.on w) {a:Addr} {n:Nat} {l:List Value} (hl:loadV V a n=some l) (hn:noTup l=true) :
  l.length=n∧∀ (j:Nat) x,l[j]?=some x→w.cell? (a.add j)=some x:=by
 obtain⟨b,o,s⟩:=a
 unfold loadV at hl
 split at hl
 ·rename_i cs t hs hb
  simp at hs hb
  subst hs
  obtain⟨h1,h2⟩:=cutv_spec hl
  refine⟨h1,fun j x hx=>?_⟩
  have hx2:=h2 j x hx
  rw [addr_add_eq,h.cell hb (o+j) (fun es e=>by rw [hx2] at e; exact noTup_mem hn (List.mem_of_getElem? hx) es (Option.some.inj e)) (List.getElem?_eq_some_iff.1 hx2).1]
  exact hx2
 ·cases hl
theorem Sat.plainEnv {P N B F H V ρ a w} (h:Sat P N B F H V ρ a w):∀ {l:List Operand},allPlain H F l=true→∀ x∈l,envOf H F x=a.eval x
 | [],_,x,hx=>by cases hx
 | y :: r,hp,x,hx=>by
  simp only [allPlain] at hp
  split at hp
  ·rename_i v hv
   cases hx with
   | head=>simp only [envOf,hv]; exact(h.eval hv rfl).symm
   | tail _ hx=>exact h.plainEnv hp x hx
  ·cases hp
theorem stabPlain_sound {P N B F H V ρ a w} (h:Sat P N B F H V ρ a w) {o:Oper} (hsel:isSel o.op=false) {s:SV} (hs:stabPlain P H F o=some s) :
  ∃ y,(execOp a.eval o).run P w=.ok (.value y) w∧∀ x,cv ρ H s=some x→x=y:=by
 unfold stabPlain at hs
 split at hs
 ·rename_i hp
  split at hs
  ·rename_i r hr
   simp at hs
   subst hs
   refine⟨r,?_,fun x hx=>by simp [cv] at hx; exact hx.symm⟩
   rw [← execOp_congr o (ρ:=envOf H F) (fun cs b hc=>by rw [hc] at hsel; cases hsel) (fun x hx=>h.plainEnv hp x (by simpa using hx))]
   exact prun_run hr w
  ·cases hs
 ·cases hs
theorem loadB_spec {P N B F H V ρ a w} (h:Sat P N B F H V ρ a w) {i off n:Nat} {l:List SV} (hl:loadB H i off n=some l) :
  l.length=n∧cv ρ H (.p i off)=some (.pointer (some ⟨(ρ i).1,off,none⟩))∧∀ (j:Nat) s x,l[j]?=some s→cv ρ H s=some x→w.cell? ⟨(ρ i).1,off+j,none⟩=some x:=by
 unfold loadB at hl
 split at hl
 ·rename_i cs t hb
  split at hl
  ·rename_i l' hc
   simp at hl
   subst hl
   obtain⟨h1,h2⟩:=cutv_spec hc
   obtain⟨cells,g1,g2,g3⟩:=h.box i _ hb
   refine⟨by simp [h1],by simp [cv,hb],fun j s x hj hx=>?_⟩
   simp at hj
   obtain⟨s',hs',rfl⟩:=hj
   have:=g3 (off+j) s' x (h2 j s' hs') (cv_res hx)
   rw [cell_of_row w _ _ _ _ _ g1]
   simpa using this
  ·cases hl
 ·rename_i m xs t hb
  split at hl
  ·rename_i l' hc
   simp at hl
   subst hl
   obtain⟨h1,h2⟩:=cutv_spec hc
   have hown:w.ownsRow B t (P.cellsOf t) _ m xs:=h.box i _ hb
   refine⟨by simp [h1],by simp [cv,hb],fun j s x hj hx=>?_⟩
   simp at hj
   obtain⟨x',hx',rfl⟩:=hj
   simp [cv] at hx
   subst hx
   have h3:=h2 j x' hx'
   have hlt:off+j<m*P.cellsOf t:=by
    have:=(List.getElem?_eq_some_iff.1 h3).1
    rw [hown.1] at this
    exact this
   rw [hown.cellAt _ hlt]
   exact h3
  ·cases hl
 ·cases hl
theorem liveAt_cv {ρ:Nat→Nat × Nat} {H:List Box} {i off:Nat} (h:liveAt H i=true):cv ρ H (.p i off)=some (.pointer (some ⟨(ρ i).1,off,none⟩)):=by
 unfold liveAt at h
 split at h
 ·rename_i b hb
  cases b <;> simp [Box.live] at h <;> simp [cv,hb]
 ·cases h
theorem size_of {P:Program} {t:TypeId} {n:Nat} (h:sizeOf? P t=some n):∃ i,P.info? t=some i∧i.size=n:=by
 unfold sizeOf? at h; split at h
 ·rename_i i hi; simp at h; exact⟨i,hi,h⟩
 ·cases h
end Sx
namespace Sx
open Go
variable {P:Program} {N B:Nat} {F:Fm} {H:List Box} {V V0:Know} {ρ:Nat→Nat × Nat} {a:Act} {w:World}
theorem fld_spec {t k d n:Nat} (h:fld P t k=some (d,n)):∃ fs f i,P.underlying t=some (.struct fs)∧fs[k]?=some f∧P.info? f.type=some i∧f.offset=d∧i.size=n:=by
 unfold fld at h
 split at h
 ·rename_i fs hu
  split at h
  ·rename_i f hf
   split at h
   ·rename_i i hi
    simp at h
    exact⟨fs,f,i,hu,hf,hi,h.1,h.2⟩
   ·cases h
  ·cases h
 ·cases h
theorem run_fieldAt (w:World) {t k d n:Nat} (h:fld P t k=some (d,n+1)) (ad:Addr) :
  (Instr.fieldAt t (.pointer (some ad)) k).run P w=.ok (.pointer (some (ad.add d))) w:=by
 obtain⟨fs,f,i,hu,hf,hi,rfl,hn⟩:=fld_spec h
 simp [Instr.fieldAt,underlying,hu,hf,Instr.sureAddr,fieldPlace,Go.sizeOf,typeInfo,hi,hn]
theorem elem_spec {t sz:Nat} (h:elemOf P t=some sz):∃ e i,P.underlying t=some (.slice e)∧P.info? e=some i∧i.size=sz:=by
 unfold elemOf at h
 split at h
 ·rename_i e hu
  obtain⟨i,hi,hn⟩:=size_of h
  exact⟨e,i,hu,hi,hn⟩
 ·cases h
theorem run_indexAt_slice (w:World) {t sz:Nat} (h:elemOf P t=some sz) (ad:Addr) (len cap:Nat) (k:IntKind) (n:Int) (h0:0≤n) (h1:n<len) :
  (Instr.indexAt t (.slice (some ad) len cap) (.int k n)).run P w=.ok (.pointer (some (ad.add (n.toNat*sz)))) w:=by
 obtain⟨e,i,hu,hi,rfl⟩:=elem_spec h
 simp [Instr.indexAt,asIntOf,underlying,hu,Go.sizeOf,typeInfo,hi,h0,h1]
theorem run_indexAt_array (w:World) {t len e sz:Nat} (hu:P.underlying t=some (.array len e)) (hs:sizeOf? P e=some sz) (ad:Addr) (k:IntKind) (n:Int) (h0:0≤n) (h1:n<(len:Int)) :
  (Instr.indexAt t (.pointer (some ad)) (.int k n)).run P w=.ok (.pointer (some (ad.add (n.toNat*sz)))) w:=by
 obtain⟨i,hi,rfl⟩:=size_of hs
 simp [Instr.indexAt,asIntOf,underlying,hu,Go.sizeOf,typeInfo,hi,h0,h1,Instr.sureAddr]
theorem join_load {t n:Nat} {l:List SV} {s:SV} {ad:Addr} (hn:sizeOf? P t=some n) (hl:l.length=n) (hj:join P t l=some s)
  (hc:∀ (j:Nat) u x,l[j]?=some u→cv ρ H u=some x→w.cell? (ad.add j)=some x)
  (hex:∀ j,j<n→∃ y,w.cell? (ad.add j)=some y) :
  ∃ y,(loadVar t ad).run P w=.ok y w∧∀ x,cv ρ H s=some x→x=y:=by
 unfold join at hj
 split at hj
 ·rename_i hb
  split at hj
  ·rename_i l' hp
   simp at hj
   subst hj
   obtain⟨h1,h2⟩:=plains_spec hp
   refine⟨.agg l'.toArray,?_,fun x hx=>by simp [cv] at hx; exact hx.symm⟩
   have:=run_loadVar (P:=P) w t n ad l' true hn hb (h1.trans hl) (fun h=>by cases h) (fun j x hx=>hc j _ x (h2 j x hx) rfl)
   simpa using this
  ·cases hj
 ·rename_i hb
  split at hj
  ·rename_i u
   simp at hj
   subst hj
   simp at hl
   subst hl
   obtain⟨x,hx⟩:=hex 0 (by omega)
   refine⟨x,?_,fun x' hx'=>by have:=hc 0 _ x' rfl hx'; rw [hx] at this; simp at this; exact this.symm⟩
   have:=run_loadVar (P:=P) w t 1 ad [x] false hn hb rfl (fun _=>rfl) (fun j y hy=>by
    cases j with
    | zero=>simp at hy; subst hy; exact hx
    | succ j=>simp at hy)
   simpa using this
  ·cases hj
 ·cases hj
theorem loadB_ex (h:Sat P N B F H V ρ a w) {i off n:Nat} {l:List SV} (hl:loadB H i off n=some l) :
  ∀ j,j<n→∃ y,w.cell? ⟨(ρ i).1,off+j,none⟩=some y:=by
 intro j hj
 unfold loadB at hl
 split at hl
 ·rename_i cs t hb
  split at hl
  ·rename_i l' hc
   obtain⟨h1,h2⟩:=cutv_spec hc
   obtain⟨cells,g1,g2,g3⟩:=h.box i _ hb
   have hlt:off+j<cells.length:=by
    rw [g2]
    have:=(List.getElem?_eq_some_iff.1 (h2 j l'[j] (by simp [h1,hj]))).1
    exact this
   rw [cell_of_row w _ _ _ _ _ g1]
   exact⟨cells[off+j],by simp [hlt]⟩
  ·cases hl
 ·rename_i m xs t hb
  split at hl
  ·rename_i l' hc
   obtain⟨h1,h2⟩:=cutv_spec hc
   have hown:w.ownsRow B t (P.cellsOf t) _ m xs:=h.box i _ hb
   have h3:=h2 j l'[j] (by simp [h1,hj])
   have hlt:off+j<m*P.cellsOf t:=by
    have:=(List.getElem?_eq_some_iff.1 h3).1
    rw [hown.1] at this
    exact this
   rw [hown.cellAt _ hlt]
   exact⟨_,h3⟩
  ·cases hl
 ·cases hl
theorem run_bytesGo (w:World) (f:Value→ByteArray→Sem (ForInStep ByteArray)) (hf:∀ n r,f (.int .u8 n) r=pure (ForInStep.yield (r.push (UInt8.ofNat n.toNat)))) :
  ∀ (l:List Value) (s s':ByteArray),bytesGo l s=some s'→(forIn l s f:Sem ByteArray).run P w=.ok s' w
 | [],s,s',h=>by simp [bytesGo] at h; subst h; simp
 | x :: r,s,s',h=>by
  unfold bytesGo at h
  split at h
  ·rename_i h1; cases h1
  ·rename_i n r' s0 h1
   cases h1
   have ih:=run_bytesGo w f hf r _ s' h
   simp only [List.forIn_cons,hf]
   simp [ih]
  ·cases h
theorem bytesGo_noTup:∀ {l:List Value} {s s':ByteArray},bytesGo l s=some s'→noTup l=true
 | [],_,_,_=>rfl
 | x :: r,s,s',h=>by
  unfold bytesGo at h
  split at h
  ·rename_i e; cases e
  ·rename_i n r' s1 e
   have e1:=(List.cons.inj e).1
   have e2:=(List.cons.inj e).2
   subst e1; subst e2
   have:=bytesGo_noTup h
   unfold noTup at this ⊢
   rw [List.all_cons,this]; rfl
  ·cases h
theorem bytesOf_noTup {l:List Value} {s:ByteArray} (h:bytesOf l=some s):noTup l=true:=bytesGo_noTup h
theorem stab_sound (h:Sat P N B F H V ρ a w) (hV0:V0.on w) {o:Oper} (hsel:isSel o.op=false) {s:SV} (hs:stab P V0 H F o=some s) :
  ∃ y,(execOp a.eval o).run P w=.ok (.value y) w∧∀ x,cv ρ H s=some x→x=y:=by
 unfold stab at hs
 split at hs
 ·rename_i x ho
  exact⟨a.eval x,by simp [execOp,ho],fun y hy=>(h.eval hs hy).symm⟩
 ·rename_i x ho
  exact⟨a.eval x,by simp [execOp,ho],fun y hy=>(h.eval hs hy).symm⟩
 ·rename_i c x y ho
  split at hs
  ·rename_i hc
   have:=h.eval hc rfl
   exact⟨a.eval x,by simp [execOp,ho,this,asBool],fun y hy=>(h.eval hs hy).symm⟩
  ·rename_i hc
   have:=h.eval hc rfl
   exact⟨a.eval y,by simp [execOp,ho,this,asBool],fun y hy=>(h.eval hs hy).symm⟩
  ·cases hs
 ·rename_i t x k ho
  split at hs
  ·rename_i i off d n hx hf
   split at hs
   ·rename_i hl
    simp at hs
    subst hs
    have he:=h.eval hx (liveAt_cv hl)
    refine⟨.pointer (some ⟨(ρ i).1,off+d,none⟩),?_,fun y hy=>?_⟩
    ·have:=run_fieldAt w hf ⟨(ρ i).1,off,none⟩
     rw [addr_add_eq] at this
     simp [execOp,ho,he,this]
    ·rw [liveAt_cv hl] at hy; simp at hy; exact hy.symm
   ·cases hs
  ·rename_i ad d n hx hf
   simp at hs
   subst hs
   have he:=h.eval hx rfl
   exact⟨.pointer (some (ad.add d)),by simp [execOp,ho,he,run_fieldAt w hf ad],fun y hy=>by simp [cv] at hy; exact hy.symm⟩
  ·cases hs
 ·rename_i t x i ho
  split at hs
  ·rename_i sx si hx hi
   unfold idx at hs
   split at hs
   ·rename_i j kk n
    split at hs
    ·rename_i len xs u sz hj he
     split at hs
     ·rename_i hb
      simp at hs
      subst hs
      have hcv:cv ρ H (.o j)=some (.slice (some ⟨(ρ j).1,0,none⟩) len (ρ j).2):=by simp [cv,hj]
      have h1:=h.eval hx hcv
      have h2:=h.eval hi rfl
      have:=run_indexAt_slice w he ⟨(ρ j).1,0,none⟩ len (ρ j).2 kk n hb.1 hb.2
      rw [addr_add_eq] at this
      simp only [Nat.zero_add] at this
      refine⟨.pointer (some ⟨(ρ j).1,n.toNat*sz,none⟩),by simp [execOp,ho,h1,h2,this],fun y hy=>?_⟩
      simp [cv,hj] at hy
      exact hy.symm
     ·cases hs
    ·cases hs
   ·rename_i ad len cap kk n
    split at hs
    ·rename_i sz he
     split at hs
     ·rename_i hb
      simp at hs
      subst hs
      have h1:=h.eval hx rfl
      have h2:=h.eval hi rfl
      exact⟨.pointer (some (ad.add (n.toNat*sz))),by simp [execOp,ho,h1,h2,run_indexAt_slice w he ad len cap kk n hb.1 hb.2],fun y hy=>by simp [cv] at hy; exact hy.symm⟩
     ·cases hs
    ·cases hs
   ·rename_i ad kk n
    split at hs
    ·rename_i len e hu
     split at hs
     ·rename_i sz he
      split at hs
      ·rename_i hb
       simp at hs
       subst hs
       have h1:=h.eval hx rfl
       have h2:=h.eval hi rfl
       exact⟨.pointer (some (ad.add (n.toNat*sz))),by simp [execOp,ho,h1,h2,run_indexAt_array w hu he ad kk n hb.1 hb.2],fun y hy=>by simp [cv] at hy; exact hy.symm⟩
      ·cases hs
     ·cases hs
    ·cases hs
   ·cases hs
  ·cases hs
 ·rename_i t x ho
  split at hs
  ·rename_i i off n hx hn
   split at hs
   ·rename_i l hl
    obtain⟨g1,g2,g3⟩:=loadB_spec h hl
    have he:=h.eval hx g2
    obtain⟨y,hy,hy2⟩:=join_load (ad:=⟨(ρ i).1,off,none⟩) hn g1 hs (fun j u x hu hx=>by rw [addr_add_eq]; exact g3 j u x hu hx)
     (fun j hj=>by rw [addr_add_eq]; exact loadB_ex h hl j hj)
    exact⟨y,by simp [execOp,ho,he,Instr.loadAt,Instr.sureAddr,hy],hy2⟩
   ·cases hs
  ·rename_i ad n hx hn
   split at hs
   ·rename_i l hl
    split at hs
    rotate_left
    ·cases hs
    rename_i hnt
    obtain⟨g1,g2⟩:=loadV_spec hV0 hl hnt
    have he:=h.eval hx rfl
    obtain⟨y,hy,hy2⟩:=join_load (ρ:=ρ) (H:=H) (ad:=ad) hn (by simp [g1]) hs (fun j u x hu hx=>by
      simp at hu
      obtain⟨x',h1,rfl⟩:=hu
      simp [cv] at hx
      subst hx
      exact g2 j _ h1) (fun j hj=>⟨l[j],g2 j _ (by simp [g1,hj])⟩)
    exact⟨y,by simp [execOp,ho,he,Instr.loadAt,Instr.sureAddr,hy],hy2⟩
   ·cases hs
  ·cases hs
 ·rename_i c ho
  split at hs
  ·rename_i x t hlen hargs hts
   split at hs
   ·rename_i j e hx hu
    split at hs
    ·rename_i n xs u hj
     simp at hs
     subst hs
     have hcv:cv ρ H (.o j)=some (.slice (some ⟨(ρ j).1,0,none⟩) n (ρ j).2):=by simp [cv,hj]
     have h1:=h.eval hx hcv
     refine⟨.int .i64 n,?_,fun y hy=>by simp [cv] at hy; exact hy.symm⟩
     have hcal:c.callee=.builtin .len:=by
      unfold isLen at hlen; split at hlen <;> simp_all
     have ha:c.args=#[x]:=by rw [← hargs]
     have ht:c.argTypes=#[t]:=by rw [← hts]
     simp [execOp,ho,resolve,hcal,ha,ht,invoke,builtin,Builtin.len_,underlying,hu,h1,goInt]
    ·cases hs
   ·exact stabPlain_sound h hsel hs
   ·cases hs
  ·exact stabPlain_sound h hsel hs
 ·rename_i src dst x ho
  split at hs
  ·rename_i ad n c hbs hx
   split at hs
   ·rename_i hn
    subst hn
    simp at hs; subst hs
    have he:=h.eval hx rfl
    refine⟨.string .empty,?_,fun y hy=>by simp [cv] at hy; exact hy.symm⟩
    unfold isBs at hbs
    split at hbs
    ·rename_i e hs1 hs2
     split at hbs
     ·rename_i hs3
      have hr:=run_loadCellsFrom (P:=P) w ad [] 0 #[] (fun j x hx=>by simp at hx)
      simp only [List.length_nil] at hr
      simp [execOp,ho,he,convert,underlying,hs1,hs2,hs3,Conv.bytesToString,loadCells,hr]
     ·cases hbs
    ·cases hbs
   split at hs
   ·rename_i l hl
    split at hs
    ·rename_i s' hb
     simp at hs; subst hs
     obtain⟨g1,g2⟩:=loadV_spec hV0 hl (bytesOf_noTup hb)
     have he:=h.eval hx rfl
     refine⟨.string s',?_,fun y hy=>by simp [cv] at hy; exact hy.symm⟩
     unfold isBs at hbs
     split at hbs
     ·rename_i e hs1 hs2
      split at hbs
      ·rename_i hs3
       have hr:=run_loadCellsFrom (P:=P) w ad l 0 #[] (fun j x hx=>by simpa using g2 j x hx)
       rw [g1] at hr
       simp [execOp,ho,he,convert,underlying,hs1,hs2,hs3,Conv.bytesToString,loadCells,hr]
       rw [run_bytesGo (P:=P) w _ (fun n r=>rfl) l .empty s' hb]
       rfl
      ·cases hbs
     ·cases hbs
    ·cases hs
   ·cases hs
  ·exact stabPlain_sound h hsel hs
 ·exact stabPlain_sound h hsel hs
theorem stabPlain_inb {n:Nat} {o:Oper} {s:SV} (hs:stabPlain P H F o=some s):inb n s:=by
 unfold stabPlain at hs
 repeat' (split at hs)
 all_goals first | (simp at hs; done) | (simp at hs; subst hs; trivial)
theorem join_inb {n t:Nat} {l:List SV} {s:SV} (h:∀ u∈l,inb n u) (hj:join P t l=some s):inb n s:=by
 unfold join at hj
 split at hj
 ·split at hj
  ·simp at hj; subst hj; trivial
  ·cases hj
 ·split at hj
  ·simp at hj; subst hj; exact h _ (by simp)
  ·cases hj
 ·cases hj
theorem cutv_mem {α:Type} {l l':List α} {off n:Nat} (h:cutv l off n=some l') {x:α} (hx:x∈l'):x∈l:=by
 unfold cutv at h
 split at h
 ·simp at h; subst h; exact List.mem_of_mem_drop (List.mem_of_mem_take hx)
 ·cases h
structure WfS (F:Fm) (H:List Box):Prop where
 wfF:∀ t s,F t=some s→inb H.length s
 wfH:∀ (i:Nat) cs t,H[i]?=some (.c cs t)→∀ s∈cs,inb H.length s
theorem Sat.wfS (h:Sat P N B F H V ρ a w):WfS F H:=⟨h.wfF,h.wfH⟩
theorem WfS.ev_inb (h:WfS F H) {x:Operand} {s:SV} (he:ev H F x=some s):inb H.length s:=by
 cases x with
 | tmp t =>
  simp only [ev] at he
  split at he
  ·rename_i s' hs
   simp at he
   subst he
   exact inb_res (h.wfF t _ hs)
  ·cases he
 | const v=>simp [ev] at he; subst he; trivial
 | global g=>simp [ev] at he; subst he; trivial
 | func f=>simp [ev] at he; subst he; trivial
theorem stab_inbW (h:WfS F H) {o:Oper} {s:SV} (hs:stab P V0 H F o=some s):inb H.length s:=by
 unfold stab at hs
 split at hs
 ·exact h.ev_inb hs
 ·exact h.ev_inb hs
 ·split at hs
  ·exact h.ev_inb hs
  ·exact h.ev_inb hs
  ·cases hs
 ·split at hs
  ·rename_i i off d n hx hf
   split at hs
   ·simp at hs; subst hs; exact h.ev_inb (s:=.p i off) hx
   ·cases hs
  ·simp at hs; subst hs; trivial
  ·cases hs
 ·split at hs
  ·rename_i sx si hx hi
   unfold idx at hs
   split at hs
   ·split at hs
    ·rename_i hj he
     split at hs
     ·simp at hs; subst hs; exact(List.getElem?_eq_some_iff.1 hj).1
     ·cases hs
    ·cases hs
   ·repeat' (split at hs)
    all_goals first | (simp at hs; done) | (simp at hs; subst hs; trivial)
   ·repeat' (split at hs)
    all_goals first | (simp at hs; done) | (simp at hs; subst hs; trivial)
   ·cases hs
  ·cases hs
 ·split at hs
  ·rename_i i off n hx hn
   split at hs
   ·rename_i l hl
    refine join_inb (fun u hu=>?_) hs
    unfold loadB at hl
    split at hl
    ·rename_i cs t hb
     split at hl
     ·rename_i l' hc
      simp at hl; subst hl
      simp at hu
      obtain⟨s',hs',rfl⟩:=hu
      exact inb_res (h.wfH i cs t hb s' (cutv_mem hc hs'))
     ·cases hl
    ·split at hl
     ·simp at hl; subst hl; simp at hu; obtain⟨x,_,rfl⟩:=hu; trivial
     ·cases hl
    ·cases hl
   ·cases hs
  ·split at hs
   ·split at hs
    ·refine join_inb (fun u hu=>?_) hs
     simp at hu; obtain⟨x,_,rfl⟩:=hu; trivial
    ·cases hs
   ·cases hs
  ·cases hs
 ·split at hs
  ·split at hs
   ·split at hs
    ·simp at hs; subst hs; trivial
    ·cases hs
   ·exact stabPlain_inb hs
   ·cases hs
  ·exact stabPlain_inb hs
 ·split at hs
  ·split at hs
   ·simp at hs; subst hs; trivial
   split at hs
   ·split at hs
    ·simp at hs; subst hs; trivial
    ·cases hs
   ·cases hs
  ·exact stabPlain_inb hs
 ·exact stabPlain_inb hs
theorem stab_inb (h:Sat P N B F H V ρ a w) {o:Oper} {s:SV} (hs:stab P V0 H F o=some s):inb H.length s:=stab_inbW h.wfS hs
end Sx
namespace Sx
open Go
variable {P:Program} {N B:Nat} {F:Fm} {H:List Box} {V V0:Know} {ρ:Nat→Nat × Nat} {a:Act} {w:World}
def setl {α:Type} (l:List α) (off:Nat) (r:List α):List α:=l.take off++r++l.drop (off+r.length)
theorem length_setl {α:Type} {l r:List α} {off:Nat} (h:off+r.length≤l.length):(setl l off r).length=l.length:=by
 simp [setl]; omega
theorem getElem?_setl {α:Type} {l r:List α} {off:Nat} (h:off+r.length≤l.length) (j:Nat) :
  (setl l off r)[j]?=if off≤j∧j<off+r.length then r[j-off]? else l[j]?:=by
 unfold setl
 by_cases h1:j<off
 ·rw [if_neg (by omega),List.append_assoc,List.getElem?_append_left (by simp; omega),List.getElem?_take,if_pos h1]
 ·rw [List.append_assoc,List.getElem?_append_right (by simp; omega)]
  simp only [List.length_take]
  rw [Nat.min_eq_left (by omega)]
  by_cases h2:j<off+r.length
  ·rw [if_pos (by omega),List.getElem?_append_left (by omega)]
  ·rw [if_neg (by omega),List.getElem?_append_right (by omega),List.getElem?_drop]
   congr 1
   omega
theorem cv_set {i:Nat} {b b':Box} (hb:H[i]?=some b) (hs:(∃ cs t cs' t',b=.c cs t∧b'=.c cs' t')∨(∃ n xs t xs' t',b=.a n xs t∧b'=.a n xs' t')) :
  cv ρ (H.set i b')=cv ρ H:=by
 funext s
 have hlt:=(List.getElem?_eq_some_iff.1 hb).1
 cases s with
 | v x=>rfl
 | k b=>rfl
 | p j off =>
  simp only [cv,List.getElem?_set]
  by_cases e:i=j
  ·subst e
   rcases hs with ⟨cs,t,cs',t',rfl,rfl⟩ | ⟨n,xs,t,xs',t',rfl,rfl⟩ <;> rw [if_pos rfl,if_pos hlt,hb]
  ·simp [e]
 | o j =>
  simp only [cv,List.getElem?_set]
  by_cases e:i=j
  ·subst e
   rcases hs with ⟨cs,t,cs',t',rfl,rfl⟩ | ⟨n,xs,t,xs',t',rfl,rfl⟩ <;> rw [if_pos rfl,if_pos hlt,hb]
  ·simp [e]
theorem BoxOk.of_heap {H':List Box} {w':World} {i:Nat} {b:Box} (h:BoxOk P B ρ H w i b) (hcv:cv ρ H'=cv ρ H) (hh:b.live=true→w'.heap[(ρ i).1]?=w.heap[(ρ i).1]?) :
  BoxOk P B ρ H' w' i b:=by
 cases b with
 | c cs t =>
  obtain⟨cells,h1,h2,h3⟩:=h
  exact⟨cells,(hh rfl).trans h1,h2,fun j s x hj hx=>h3 j s x hj (by rw [hcv] at hx; exact hx)⟩
 | a n xs t =>
  obtain⟨h1,h2⟩:=h
  refine⟨h1,?_⟩
  rcases h2 with h2 | ⟨g,cap,cur,hv,hg,hgg,r⟩
  ·exact .inl h2
  ·refine .inr ⟨g,cap,cur,hv,hg,?_,r⟩
   simp only [Value.slice.injEq,Option.some.injEq,Addr.mk.injEq] at hv
   obtain⟨⟨rfl,_⟩,_⟩:=hv
   rw [hh rfl]
   exact hgg
 | f x=>trivial
 | e b=>trivial
 | x=>trivial
theorem Sat.setBox (h:Sat P N B F H V ρ a w) {i:Nat} {b b':Box} {w':World} (hb:H[i]?=some b)
  (hs:(∃ cs t cs' t',b=.c cs t∧b'=.c cs' t'∧∀ s∈cs',inb H.length s)∨(∃ n xs t xs' t',b=.a n xs t∧b'=.a n xs' t'))
  (hother:∀ k,k≠(ρ i).1→w'.heap[k]?=w.heap[k]?)
  (hok:BoxOk P B ρ (H.set i b') w' i b'):Sat P N B F (H.set i b') V ρ a w':=by
 have hcv:cv ρ (H.set i b')=cv ρ H:=cv_set hb (by
  rcases hs with ⟨cs,t,cs',t',h1,h2,_⟩ | h2
  ·exact .inl ⟨cs,t,cs',t',h1,h2⟩
  ·exact .inr h2)
 have hbl:b.live=true:=by rcases hs with ⟨cs,t,cs',t',rfl,_⟩ | ⟨n,xs,t,xs',t',rfl,_⟩ <;> rfl
 have hbl':b'.live=true:=by rcases hs with ⟨cs,t,cs',t',_,rfl,_⟩ | ⟨n,xs,t,xs',t',_,rfl⟩ <;> rfl
 have hlt:=(List.getElem?_eq_some_iff.1 hb).1
 have key:∀ j c,(H.set i b')[j]?=some c→∃ c',H[j]?=some c'∧c'.live=c.live∧(j≠i→c'=c):=by
  intro j c hc
  rw [List.getElem?_set] at hc
  by_cases e:i=j
  ·subst e
   simp [hlt] at hc
   subst hc
   exact⟨b,hb,by rw [hbl,hbl'],fun h=>(h rfl).elim⟩
  ·simp [e] at hc
   exact⟨c,hc,rfl,fun _=>rfl⟩
 refine⟨h.defers,h.size,fun t s x hF hx=>h.slot t s x hF (by rw [hcv] at hx; exact hx),?_,?_,?_,?_,?_,?_,?_⟩
 ·intro j c hc
  obtain⟨c',h1,h2,h3⟩:=key j c hc
  by_cases e:j=i
  ·subst e
   have:c=b':=by
    rw [List.getElem?_set] at hc
    simp [hlt] at hc
    exact hc.symm
   subst this
   exact hok
  ·have h3:=h3 e
   subst h3
   exact(h.box j c' h1).of_heap hcv (fun hl=>hother _ (fun he=>e (h.inj j i c' b h1 hb hl hbl he)))
 ·intro j k c d hc hd hcl hdl he
  obtain⟨c',h1,h2,_⟩:=key j c hc
  obtain⟨d',h3,h4,_⟩:=key k d hd
  exact h.inj j k c' d' h1 h3 (h2.trans hcl) (h4.trans hdl) he
 ·intro j c hc hcl
  obtain⟨c',h1,h2,_⟩:=key j c hc
  exact h.base j c' h1 (h2.trans hcl)
 ·intro j c hc hcl
  obtain⟨c',h1,h2,_⟩:=key j c hc
  exact h.priv j c' h1 (h2.trans hcl)
 ·intro k cs t hk
  have hk1:=h.know k cs t hk
  rw [hother k (fun e=>by have:=h.priv i b hb hbl; rw [← e,hk] at this; cases this)]
  exact hk1
 ·intro t s hF; simpa using h.wfF t s hF
 ·intro j cs t hj
  rw [List.getElem?_set] at hj
  by_cases e:i=j
  ·subst e
   simp [hlt] at hj
   rcases hs with ⟨_,_,cs',t',_,h2,h3⟩ | ⟨n,xs,_,xs',t',_,h2⟩
   ·rw [hj] at h2
    simp at h2
    obtain⟨rfl,rfl⟩:=h2
    simpa using h3
   ·rw [hj] at h2; cases h2
  ·simp [e] at hj
   simpa using h.wfH j cs t hj
theorem inb_mono {n m:Nat} (h:n≤m) {s:SV} (hs:inb n s):inb m s:=by
 cases s <;> simp only [inb] at*<;> omega
theorem cv_append {b:Box} {ρ':Nat→Nat × Nat} (hρ:∀ j,j<H.length→ρ' j=ρ j) {s:SV} (hs:inb H.length s):cv ρ' (H++[b]) s=cv ρ H s:=by
 cases s with
 | v x=>rfl
 | k b=>rfl
 | p j off =>
  have hj:j<H.length:=hs
  simp only [cv,List.getElem?_append_left hj,hρ j hj]
 | o j =>
  have hj:j<H.length:=hs
  simp only [cv,List.getElem?_append_left hj,hρ j hj]
theorem BoxOk.moved {H':List Box} {ρ':Nat→Nat × Nat} {w':World} {i:Nat} {b:Box} (h:BoxOk P B ρ H w i b) (hρ:ρ' i=ρ i)
  (hcv:∀ cs t,b=.c cs t→∀ s∈cs,cv ρ' H' s=cv ρ H s∨cv ρ' H' s=none) (hh:b.live=true→w'.heap[(ρ i).1]?=w.heap[(ρ i).1]?) :
  BoxOk P B ρ' H' w' i b:=by
 cases b with
 | c cs t =>
  obtain⟨cells,h1,h2,h3⟩:=h
  refine⟨cells,?_,h2,fun j s x hj hx=>?_⟩
  ·rw [hρ]; exact(hh rfl).trans h1
  ·rcases hcv cs t rfl s (List.mem_of_getElem? hj) with e | e
   ·exact h3 j s x hj (by rw [← e]; exact hx)
   ·rw [e] at hx; cases hx
 | a n xs t =>
  obtain⟨h1,h2⟩:=h
  refine⟨h1,?_⟩
  rw [hρ]
  rcases h2 with h2 | ⟨g,cap,cur,hv,hg,hgg,r⟩
  ·exact .inl h2
  ·refine .inr ⟨g,cap,cur,hv,hg,?_,r⟩
   simp only [Value.slice.injEq,Option.some.injEq,Addr.mk.injEq] at hv
   obtain⟨⟨rfl,_⟩,_⟩:=hv
   rw [hh rfl]
   exact hgg
 | f x=>trivial
 | e b=>trivial
 | x=>trivial
theorem Sat.addBoxAt (h:Sat P N B F H V ρ a w) {b:Box} {ρ':Nat→Nat × Nat} {w':World} (hlive:b.live=true) (hρ:∀ j,j<H.length→ρ' j=ρ j)
  (hdist:∀ j c,H[j]?=some c→c.live=true→(ρ j).1≠(ρ' H.length).1) (hB:B≤(ρ' H.length).1) (hold:∀ k,k<w.heap.size→k≠(ρ' H.length).1→w'.heap[k]?=w.heap[k]?)
  (hV:V (ρ' H.length).1=none) (hin:∀ cs t,b=.c cs t→∀ s∈cs,inb H.length s)
  (hok:BoxOk P B ρ' (H++[b]) w' H.length b):Sat P N B F (H++[b]) V ρ' a w':=by
 have lt:∀ j c,H[j]?=some c→c.live=true→(ρ j).1<w.heap.size:=by
  intro j c hc hl
  have:=h.box j c hc
  cases c with
  | c cs t=>obtain⟨cells,h1,_⟩:=this; exact(Array.getElem?_eq_some_iff.1 h1).1
  | a n xs t =>
   have:=World.ownsRow.lt this (ρ j).1 rfl
   exact this.2
  | _=>cases hl
 have key:∀ j c,(H++[b])[j]?=some c→(j<H.length∧H[j]?=some c)∨(j=H.length∧c=b):=by
  intro j c hc
  by_cases hj:j<H.length
  ·rw [List.getElem?_append_left hj] at hc; exact .inl ⟨hj,hc⟩
  ·rw [List.getElem?_append_right (by omega)] at hc
   have hz:j-H.length=0:=by
    rcases Nat.eq_zero_or_pos (j-H.length) with h0 | h0
    ·exact h0
    ·rw [List.getElem?_eq_none (by simp; omega)] at hc; cases hc
   rw [hz] at hc
   simp at hc
   exact .inr ⟨by omega,hc.symm⟩
 refine⟨h.defers,h.size,fun t s x hF hx=>h.slot t s x hF (by rw [cv_append hρ (h.wfF t s hF)] at hx; exact hx),?_,?_,?_,?_,?_,?_,?_⟩
 ·intro j c hc
  rcases key j c hc with ⟨hj,hc'⟩ | ⟨rfl,rfl⟩
  ·refine(h.box j c hc').moved (hρ j hj) (fun cs t hcs s hs=>.inl (cv_append hρ ?_)) (fun hl=>hold _ (lt j c hc' hl) (hdist j c hc' hl))
   subst hcs
   exact h.wfH j cs t hc' s hs
  ·exact hok
 ·intro j k c d hc hd hcl hdl he
  rcases key j c hc with ⟨hj,hc'⟩ | ⟨rfl,rfl⟩ <;> rcases key k d hd with ⟨hk,hd'⟩ | ⟨rfl,rfl⟩
  ·rw [hρ j hj,hρ k hk] at he
   exact h.inj j k c d hc' hd' hcl hdl he
  ·rw [hρ j hj] at he
   exact(hdist j c hc' hcl he).elim
  ·rw [hρ k hk] at he
   exact(hdist k d hd' hdl he.symm).elim
  ·rfl
 ·intro j c hc hcl
  rcases key j c hc with ⟨hj,hc'⟩ | ⟨rfl,rfl⟩
  ·rw [hρ j hj]; exact h.base j c hc' hcl
  ·exact hB
 ·intro j c hc hcl
  rcases key j c hc with ⟨hj,hc'⟩ | ⟨rfl,rfl⟩
  ·rw [hρ j hj]; exact h.priv j c hc' hcl
  ·exact hV
 ·intro k cs t hk
  have hk1:=h.know k cs t hk
  rw [hold k (Array.getElem?_eq_some_iff.1 hk1).1 (fun e=>by rw [← e,hk] at hV; cases hV)]
  exact hk1
 ·intro t s hF; exact inb_mono (by simp) (h.wfF t s hF)
 ·intro j cs t hj s hs
  rcases key j _ hj with ⟨_,hc'⟩ | ⟨rfl,hc'⟩
  ·exact inb_mono (by simp) (h.wfH j cs t hc' s hs)
  ·exact inb_mono (by simp) (hin cs t hc'.symm s hs)
theorem Sat.addBox (h:Sat P N B F H V ρ a w) {b:Box} {ρ':Nat→Nat × Nat} {w':World} (hlive:b.live=true) (hρ:∀ j,j<H.length→ρ' j=ρ j)
  (hnew:(ρ' H.length).1=w.heap.size) (hB:B≤w.heap.size) (hold:∀ k,k<w.heap.size→w'.heap[k]?=w.heap[k]?)
  (hV:V w.heap.size=none) (hin:∀ cs t,b=.c cs t→∀ s∈cs,inb H.length s)
  (hok:BoxOk P B ρ' (H++[b]) w' H.length b):Sat P N B F (H++[b]) V ρ' a w':=by
 refine h.addBoxAt hlive hρ (fun j c hc hl=>?_) (by rw [hnew]; exact hB) (fun k hk _=>hold k hk) (by rw [hnew]; exact hV) hin hok
 rw [hnew]
 have:=h.box j c hc
 cases c with
 | c cs t=>obtain⟨cells,h1,_⟩:=this; have:=(Array.getElem?_eq_some_iff.1 h1).1; omega
 | a n xs t =>
  have:=World.ownsRow.lt this (ρ j).1 rfl
  omega
 | _=>cases hl
theorem Sat.live_lt (h:Sat P N B F H V ρ a w):∀ j c,H[j]?=some c→c.live=true→(ρ j).1<w.heap.size:=by
 intro j c hc hl
 have:=h.box j c hc
 cases c with
 | c cs t=>obtain⟨cells,h1,_⟩:=this; exact(Array.getElem?_eq_some_iff.1 h1).1
 | a n xs t =>
  have:=World.ownsRow.lt this (ρ j).1 rfl
  exact this.2
 | _=>cases hl
theorem Know.on.size_none (h:V.on w):V w.heap.size=none:=by
 cases hv:V w.heap.size with
 | none=>rfl
 | some x =>
  have:=h _ x.1 x.2 hv
  have:=(Array.getElem?_eq_some_iff.1 this).1
  omega
theorem Sat.killBox (h:Sat P N B F H V ρ a w) (i:Nat):Sat P N B F (H.set i .x) V ρ a w:=by
 have hcv:∀ s,cv ρ (H.set i .x) s=cv ρ H s∨cv ρ (H.set i .x) s=none:=by
  intro s
  cases s with
  | v x=>exact .inl rfl
  | k b=>exact .inl rfl
  | p j off =>
   simp only [cv,List.getElem?_set]
   by_cases e:i=j
   ·subst e
    by_cases hl:i<H.length <;> simp [hl]
   ·simp [e]
  | o j =>
   simp only [cv,List.getElem?_set]
   by_cases e:i=j
   ·subst e
    by_cases hl:i<H.length <;> simp [hl]
   ·simp [e]
 have hcv':∀ s x,cv ρ (H.set i .x) s=some x→cv ρ H s=some x:=by
  intro s x hx
  rcases hcv s with e | e
  ·rw [← e]; exact hx
  ·rw [e] at hx; cases hx
 have key:∀ (j:Nat) (c:Box),(H.set i .x)[j]?=some c→c.live=true→H[j]?=some c:=by
  intro j c hc hl
  rw [List.getElem?_set] at hc
  by_cases e:i=j
  ·subst e
   by_cases hlt:i<H.length
   ·simp [hlt] at hc; subst hc; cases hl
   ·simp [hlt] at hc
  ·simpa [e] using hc
 refine⟨h.defers,h.size,fun t s x hF hx=>h.slot t s x hF (hcv' s x hx),?_,?_,?_,?_,h.know,?_,?_⟩
 ·intro j c hc
  by_cases hl:c.live=true
  ·exact(h.box j c (key j c hc hl)).moved rfl (fun _ _ _ s _=>hcv s) (fun _=>rfl)
  ·cases c <;> first | trivial | (exact(hl rfl).elim)
 ·intro j k c d hc hd hcl hdl he
  exact h.inj j k c d (key j c hc hcl) (key k d hd hdl) hcl hdl he
 ·intro j c hc hcl; exact h.base j c (key j c hc hcl) hcl
 ·intro j c hc hcl; exact h.priv j c (key j c hc hcl) hcl
 ·intro t s hF; simpa using h.wfF t s hF
 ·intro j cs t hj s hs; simpa using h.wfH j cs t (key j _ hj rfl) s hs
end Sx
namespace Sx
open Go
variable {P:Program} {N:Nat} {w0:World} {F:Fm} {H:List Box} {Vs V V0:Know} {ρ:Nat→Nat × Nat} {a:Act} {w:World}
def one (l:List Value):Bool:=l.all Value.oneCell'
theorem one_noTup {l:List Value} (h:one l=true):noTup l=true:=by
 refine List.all_eq_true.2 fun x hx=>?_
 have:=List.all_eq_true.1 h x hx
 cases x <;> first | rfl | simp [Value.oneCell'] at this
def cellsOf (H:List Box):SV→Option (List SV)
 | .v y=>if one y.cells.toList then some (y.cells.toList.map .v) else none
 | .k b=>some [.v (.bool b)]
 | .p i off=>if liveAt H i then some [.p i off] else none
 | .o i=>match H[i]? with | some (.a ..)=>some [.o i] | _=>none
def zeroOf (P:Program) (t:TypeId):Option (List Value):=match P.info? t with | some i=>(match i.zero with | some z=>some z.cells.toList | none=>none) | none=>none
inductive Eff (P:Program) (o:Oper) (F:Fm) (H:List Box) (V:Know):Fm→List Box→Know→Prop
 | box {t x y}:o.op=.box t x→ev H F x=some (.v y)→Eff P o F H V (putF F o.dst (.p H.length 0)) (H++[.c (y.cells.toList.map .v) t]) V
 | alloc {t z}:o.op=.alloc t→zeroOf P t=some z→Eff P o F H V (putF F o.dst (.p H.length 0)) (H++[.c (z.map .v) t]) V
 | stC {t ad x i off cs u s l}:o.op=.store t ad x→ev H F ad=some (.p i off)→H[i]?=some (.c cs u)→ev H F x=some s→cellsOf H s=some l →
   sizeOf? P t=some l.length→off+l.length≤cs.length→Eff P o F H V (putF F o.dst (.v undef)) (H.set i (.c (setl cs off l) u)) V
 | stA {t ad x i off n xs u y}:o.op=.store t ad x→ev H F ad=some (.p i off)→H[i]?=some (.a n xs u)→ev H F x=some (.v y)→one y.cells.toList=true →
   sizeOf? P t=some y.cells.size→off+y.cells.size≤xs.length→Eff P o F H V (putF F o.dst (.v undef)) (H.set i (.a n (setl xs off y.cells.toList) u)) V
 | stV {t ad x p cs u y}:o.op=.store t ad x→ev H F ad=some (.v (.pointer (some p)))→p.spot=none→V p.block=some (cs,(u,(0,0)))→ev H F x=some (.v y)→one y.cells.toList=true →
   sizeOf? P t=some y.cells.size→p.off+y.cells.size≤cs.length→Eff P o F H V (putF F o.dst (.v undef)) H (kset V p.block (setl cs p.off y.cells.toList,(u,(0,0))))
theorem run_store_row {t:TypeId} (w:World) (g off:Nat) (cur:List Value) (u:TypeId) (y:Value) (hg:w.heap[g]?=some (.cells cur.toArray u (0,0)))
  (h1:one y.cells.toList=true) (hs:sizeOf? P t=some y.cells.size) (hfit:off+y.cells.size≤cur.length) :
  (Instr.storeAt t (.pointer (some ⟨g,off,none⟩)) y).run P w=.ok () (w.setRow g (setl cur off y.cells.toList).toArray):=by
 obtain⟨i,hi,hn⟩:=size_of hs
 have hst:=run_storeCells_at P g off u y.cells.toList 0 cur.toArray w hg (by simpa using hfit) (by intro v hv; exact(List.all_eq_true.1 h1) v hv)
 simp only [Nat.add_zero] at hst
 simp [Instr.storeAt,Instr.sureAddr,storeVar,Go.sizeOf,typeInfo,hi,hn,hst,setl]
theorem Fr.sameBlocks {w':World} (h:Fr Vs V w0 w) (g:Nat) (hg:w0.heap.size≤g) (hs:w'.heap.size=w.heap.size) (ho:w'.os=w.os) (ht:w'.tape=w.tape) (hu:w'.output=w.output)
  (hb:∀ k,k≠g→w'.heap[k]?=w.heap[k]?):Fr Vs V w0 w' :=
 ⟨ho.trans h.os,ht.trans h.tape,hu.trans h.output,by rw [hs]; exact h.size,fun b hlt hn=>(hb b (by omega)).trans (h.keep b hlt hn),h.dom⟩
theorem Fr.grow {w':World} (h:Fr Vs V w0 w) (hs:w.heap.size≤w'.heap.size) (ho:w'.os=w.os) (ht:w'.tape=w.tape) (hu:w'.output=w.output)
  (hb:∀ k,k<w.heap.size→k<w0.heap.size→w'.heap[k]?=w.heap[k]?):Fr Vs V w0 w' :=
 ⟨ho.trans h.os,ht.trans h.tape,hu.trans h.output,Nat.le_trans h.size hs,fun b hlt hn=>(hb b (Nat.lt_of_lt_of_le hlt h.size) hlt).trans (h.keep b hlt hn),h.dom⟩
theorem cells_map_getElem {l:List Value} (j:Nat) (s:SV) (x:Value) (hs:(l.map SV.v)[j]?=some s) (hx:cv ρ H s=some x):l[j]?=some x:=by
 simp at hs
 obtain⟨y,h1,rfl⟩:=hs
 simp [cv] at hx
 subst hx
 exact h1
theorem Sat.mkC (h:Sat P N w0.heap.size F H V ρ a w) (hF:Fr Vs V w0 w) {dst:Option Tmp} (hd:∀ d,dst=some d→d<N) (l:List Value) (t:TypeId) :
  ∃ ρ',Sat P N w0.heap.size (putF F dst (.p H.length 0)) (H++[.c (l.map .v) t]) V ρ' (a.put dst (.pointer (some ⟨w.heap.size,0,none⟩))) (w.alloc (.cells l.toArray t)) ∧
   Fr Vs V w0 (w.alloc (.cells l.toArray t)):=by
 let ρ':Nat→Nat × Nat:=fun i=>if i=H.length then (w.heap.size,0) else ρ i
 have hρ:∀ j,j<H.length→ρ' j=ρ j:=fun j hj=>if_neg (by omega)
 have hn:ρ' H.length=(w.heap.size,0):=if_pos rfl
 have h1:Sat P N w0.heap.size F (H++[.c (l.map .v) t]) V ρ' a (w.alloc (.cells l.toArray t)):=by
  refine h.addBox rfl hρ (by rw [hn]) hF.size (fun k hk=>heap_alloc_old w _ hk) h.know.size_none ?_ ?_
  ·intro cs u hc s hs
   simp at hc
   obtain⟨rfl,rfl⟩:=hc
   simp at hs
   obtain⟨x,_,rfl⟩:=hs
   trivial
  ·refine⟨l,by rw [hn]; exact heap_alloc_new w _,by simp,fun j s x hs hx=>cells_map_getElem j s x hs hx⟩
 refine⟨ρ',h1.put hd (by simp [inb]) (fun x hx=>?_),hF.grow (by simp) rfl rfl rfl (fun k hk _=>heap_alloc_old w _ hk)⟩
 simp [cv,hn] at hx
 exact hx.symm
theorem cellsOf_spec (h:Sat P N w0.heap.size F H V ρ a w) {x:Operand} {s:SV} {l:List SV} (he:ev H F x=some s) (hl:cellsOf H s=some l) :
  one (a.eval x).cells.toList=true∧(a.eval x).cells.size=l.length∧(∀ u∈l,inb H.length u) ∧
   ∀ (j:Nat) u y,l[j]?=some u→cv ρ H u=some y→(a.eval x).cells.toList[j]?=some y:=by
 have hin:=h.ev_inb he
 cases s with
 | v y =>
  have hy:=h.eval he rfl
  simp only [cellsOf] at hl
  split at hl
  ·rename_i h1
   simp at hl
   subst hl
   rw [hy]
   refine⟨h1,by simp,fun u hu=>?_,fun j u z hu hz=>cells_map_getElem j u z hu hz⟩
   simp at hu
   obtain⟨_,_,rfl⟩:=hu
   trivial
  ·cases hl
 | k b =>
  have hy:=h.eval he rfl
  simp [cellsOf] at hl
  subst hl
  rw [hy]
  refine⟨rfl,rfl,fun u hu=>by simp at hu; subst hu; trivial,fun j u z hu hz=>cells_map_getElem (l:=[.bool b]) j u z hu hz⟩
 | p i off =>
  simp only [cellsOf] at hl
  split at hl
  ·rename_i hlive
   simp at hl
   subst hl
   have hy:=h.eval he (liveAt_cv hlive)
   rw [hy]
   refine⟨rfl,rfl,fun u hu=>by simp at hu; subst hu; exact hin,fun j u z hu hz=>?_⟩
   cases j with
   | zero=>simp at hu; subst hu; rw [liveAt_cv hlive] at hz; simp at hz; subst hz; rfl
   | succ j=>simp at hu
  ·cases hl
 | o i =>
  simp only [cellsOf] at hl
  split at hl
  ·rename_i n xs t hb
   simp at hl
   subst hl
   have hc:cv ρ H (.o i)=some (.slice (some ⟨(ρ i).1,0,none⟩) n (ρ i).2):=by simp [cv,hb]
   have hy:=h.eval he hc
   rw [hy]
   refine⟨rfl,rfl,fun u hu=>by simp at hu; subst hu; exact hin,fun j u z hu hz=>?_⟩
   cases j with
   | zero=>simp at hu; subst hu; rw [hc] at hz; simp at hz; subst hz; rfl
   | succ j=>simp at hu
  ·cases hl
theorem setRow_owns {B g n cap:Nat} {t:TypeId} {size:Nat} {xs ys:List Value} (h:w.ownsRow B t size (.slice (some ⟨g,0,none⟩) n cap) n xs) (off:Nat) (hfit:off+ys.length≤xs.length) :
  ∃ cur,w.heap[g]?=some (.cells (xs++cur).toArray t (0,0))∧(w.setRow g (setl (xs++cur) off ys).toArray).ownsRow B t size (.slice (some ⟨g,0,none⟩) n cap) n (setl xs off ys):=by
 obtain⟨h1,h2⟩:=h
 rcases h2 with ⟨h2,_⟩ | ⟨g',cap',cur,hv,hb,hg,hn,hm,hs,htake⟩
 ·cases h2
 ·simp only [Value.slice.injEq,Option.some.injEq,Addr.mk.injEq] at hv
  obtain⟨⟨rfl,_⟩,_,rfl⟩:=hv
  have hcur:cur=(xs++cur.toList.drop (n*size)).toArray:=by
   rw [← htake,List.take_append_drop]
  refine⟨cur.toList.drop (n*size),by rw [← hcur]; exact hg,by rw [length_setl hfit]; exact h1,.inr ⟨g,cap,_,rfl,hb,setRow_heap w g _ _ t (0,0) hg,hn,hm,?_,?_⟩⟩
  ·simp only [List.size_toArray]
   rw [length_setl (by simp; omega)]
   simp only [List.length_append,List.length_drop,Array.length_toList]
   rw [hs,h1]
   have:=Nat.mul_le_mul_right size hn
   omega
  ·have:n*size=xs.length:=h1.symm
   apply List.ext_getElem?
   intro j
   rw [List.getElem?_take]
   split
   ·rw [getElem?_setl (by simp; omega),getElem?_setl hfit]
    split
    ·rfl
    ·rw [List.getElem?_append_left (by omega)]
   ·rw [List.getElem?_eq_none]
    rw [length_setl hfit]
    omega
theorem eff_sound {o:Oper} {F':Fm} {H':List Box} {V':Know} (he:Eff P o F H V F' H' V') (h:Sat P N w0.heap.size F H V ρ a w) (hF:Fr Vs V w0 w) (hd:∀ d,o.dst=some d→d<N) :
  ∃ y ρ' w',((execOp a.eval o).run P w=.ok (.value y) w'∨((execOp a.eval o).run P w=.ok .skip w'∧y=undef))∧Sat P N w0.heap.size F' H' V' ρ' (a.put o.dst y) w'∧Fr Vs V' w0 w':=by
 cases he with
 | @box t x y ho hx =>
  have hy:=h.eval hx rfl
  obtain⟨ρ',h1,h2⟩:=h.mkC hF hd y.cells.toList t
  refine⟨.pointer (some ⟨w.heap.size,0,none⟩),ρ',_,.inl ?_,h1,h2⟩
  simp [execOp,ho,hy,Instr.box,newVar,newRow]
 | @alloc t z ho hz =>
  obtain⟨ρ',h1,h2⟩:=h.mkC hF hd z t
  refine⟨.pointer (some ⟨w.heap.size,0,none⟩),ρ',_,.inl ?_,h1,h2⟩
  unfold zeroOf at hz
  split at hz
  ·rename_i i hi
   split at hz
   ·rename_i z' hz'
    simp at hz
    subst hz
    simp [execOp,ho,Instr.alloc,zeroValue,typeInfo,hi,hz',newVar,newRow]
   ·cases hz
  ·cases hz
 | @stC t ad x i off cs u s l ho had hb hx hl hs hfit =>
  have hcv:cv ρ H (.p i off)=some (.pointer (some ⟨(ρ i).1,off,none⟩)):=by simp [cv,hb]
  have h1:=h.eval had hcv
  obtain⟨g1,g2,g3,g4⟩:=cellsOf_spec h hx hl
  obtain⟨cells,c1,c2,c3⟩:=h.box i _ hb
  have hrun:=run_store_row (P:=P) w (ρ i).1 off cells u (a.eval x) c1 g1 (by rw [g2]; exact hs) (by rw [g2,c2]; exact hfit)
  have hlen:off+(a.eval x).cells.toList.length≤cells.length:=by simp only [Array.length_toList]; rw [g2,c2]; exact hfit
  have hsat:Sat P N w0.heap.size F (H.set i (.c (setl cs off l) u)) V ρ a (w.setRow (ρ i).1 (setl cells off (a.eval x).cells.toList).toArray):=by
   refine h.setBox hb (.inl ⟨cs,u,_,u,rfl,rfl,?_⟩) (fun k hk=>setRow_other w _ k _ hk) ?_
   ·intro s hs
    simp only [setl,List.mem_append] at hs
    rcases hs with (hs | hs) | hs
    ·exact h.wfH i cs u hb s (List.mem_of_mem_take hs)
    ·exact g3 s hs
    ·exact h.wfH i cs u hb s (List.mem_of_mem_drop hs)
   ·have hcvs:cv ρ (H.set i (.c (setl cs off l) u))=cv ρ H:=cv_set hb (.inl ⟨_,_,_,_,rfl,rfl⟩)
    refine⟨_,setRow_heap w _ _ _ u (0,0) c1,by rw [length_setl hlen,length_setl hfit,c2],fun j s y hj hy=>?_⟩
    rw [hcvs] at hy
    rw [getElem?_setl hfit] at hj
    rw [getElem?_setl hlen]
    simp only [Array.length_toList,g2]
    split at hj
    ·rename_i hc
     rw [if_pos hc]
     exact g4 _ _ _ hj hy
    ·rename_i hc
     rw [if_neg hc]
     exact c3 j s y hj hy
  refine⟨undef,ρ,_,.inr ⟨?_,rfl⟩,hsat.put hd trivial (fun x hx=>by simp [cv] at hx; exact hx.symm),hF.sameBlocks (ρ i).1 (h.base i _ hb rfl) (size_setRow _ _ _) rfl rfl rfl (fun k hk=>setRow_other w _ k _ hk)⟩
  simp [execOp,ho,h1,hrun]
 | @stA t ad x i off n xs u y ho had hb hx h1 hs hfit =>
  have hcv:cv ρ H (.p i off)=some (.pointer (some ⟨(ρ i).1,off,none⟩)):=by simp [cv,hb]
  have ha:=h.eval had hcv
  have hy:=h.eval hx rfl
  obtain⟨cur,c1,c2⟩:=setRow_owns (ys:=y.cells.toList) (h.box i _ hb) off (by simpa using hfit)
  have hrun:=run_store_row (P:=P) w (ρ i).1 off (xs++cur) u y c1 h1 hs (by simp; omega)
  have hsat:Sat P N w0.heap.size F (H.set i (.a n (setl xs off y.cells.toList) u)) V ρ a (w.setRow (ρ i).1 (setl (xs++cur) off y.cells.toList).toArray) :=
   h.setBox hb (.inr ⟨n,xs,u,_,u,rfl,rfl⟩) (fun k hk=>setRow_other w _ k _ hk) c2
  refine⟨undef,ρ,_,.inr ⟨?_,rfl⟩,hsat.put hd trivial (fun x hx=>by simp [cv] at hx; exact hx.symm),hF.sameBlocks (ρ i).1 (h.base i _ hb rfl) (size_setRow _ _ _) rfl rfl rfl (fun k hk=>setRow_other w _ k _ hk)⟩
  simp [execOp,ho,ha,hy,hrun]
 | @stV t ad x p cs u y ho had hsp hv hx h1 hs hfit =>
  have ha:=h.eval had rfl
  have hy:=h.eval hx rfl
  have hk:=h.know.row hv
  obtain⟨pb,po,ps⟩:=p
  simp at hsp
  subst hsp
  have hrun:=run_store_row (P:=P) w pb po cs u y hk h1 hs hfit
  have hne:∀ i b,H[i]?=some b→b.live=true→(ρ i).1≠pb:=fun i b hb hl e=>by
   have:=h.priv i b hb hl; rw [e,hv] at this; cases this
  have hsat:Sat P N w0.heap.size F H (kset V pb (setl cs po y.cells.toList,(u,(0,0)))) ρ a (w.setRow pb (setl cs po y.cells.toList).toArray):=by
   refine⟨h.defers,h.size,h.slot,fun i b hb=>(h.box i b hb).of_heap rfl (fun hl=>setRow_other w _ _ _ (hne i b hb hl)),h.inj,h.base,?_,?_,h.wfF,h.wfH⟩
   ·intro i b hb hl
    simp only [kset,if_neg (hne i b hb hl)]
    exact h.priv i b hb hl
   ·intro b c t hb
    simp only [kset] at hb
    split at hb
    ·rename_i e
     subst e
     simp at hb
     obtain⟨rfl,rfl⟩:=hb
     rw [objOf_rw]
     exact setRow_heap w _ _ _ u (0,0) hk
    ·rename_i e
     rw [setRow_other w _ _ _ e]
     exact h.know b c t hb
  refine⟨undef,ρ,_,.inr ⟨?_,rfl⟩,hsat.put hd trivial (fun x hx=>by simp [cv] at hx; exact hx.symm),?_⟩
  ·simp [execOp,ho,ha,hy,hrun]
  ·refine⟨hF.os,hF.tape,hF.output,by rw [size_setRow]; exact hF.size,fun b hlt hn=>?_,fun b hlt hn=>?_⟩
   ·have hbn:=hF.dom b hlt hn
    rw [setRow_other w _ _ _ (fun e=>by rw [e,hv] at hbn; cases hbn)]
    exact hF.keep b hlt hn
   ·have hbn:=hF.dom b hlt hn
    simp only [kset]
    rw [if_neg (fun e=>by rw [e,hv] at hbn; cases hbn)]
    exact hbn
end Sx
