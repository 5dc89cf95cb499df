/-
  Regions of operations.
-/
import Derived.Test.YtahmmgiiojjhgaaGreatDoorEngA
import Derived.Laws.CopyRow
namespace Sx
open Go
variable {P:Program} {N:Nat} {w0:World} {F:Fm} {H:List aT} {Vs V V0:aa} {ρ:Nat->Nat × Nat} {a:Act} {w:World}
def dR (H:List aT) (F:Fm):List (Nat × Operand)->Option (List (Nat × Value))
 | []=>some []
 | (i,x) :: r=>match ev H F x,dR H F r with
  | some (.v y),some l=>some ((i,y) :: l)
  | _,_=>none
theorem mM (h:Sat P N w0.heap.size F H V ρ a w):∀ {l:List (Nat × Operand)} {l':List (Nat × Value)},dR H F l=some l'->l.map (fun p=>(p.1,a.eval p.2))=l'
 | [],l',hl=>by simp [dR] at hl; subst hl; rfl
 | (i,x) :: r,l',hl=>by
  simp only [dR] at hl;split at hl
  ·rename_i y l'' hx hr
   simp at hl;subst hl;simp [h.eval hx rfl,mM h hr]
  cases hl
inductive Src (H:List aT) (V:aa) (sz:Nat):SV->List Value->Nat->Prop
 | own {j m ys u}:H[j]?=some (.a m ys u)->ys.length=m*sz->Src H V sz (.o j) ys m
 | known {ad m c ys}:aQ V ad (m*sz)=some ys->fA ys=true->Src H V sz (.v (.slice (some ad) m c)) ys m
 | nil:Src H V sz (.v (.slice none 0 0)) [] 0
 | zero {ad c}:Src H V sz (.v (.slice (some ad) 0 c)) [] 0
inductive Mk (P:Program) (o:Oper) (F:Fm) (H:List aT) (V:aa):Fm->List aT->aa->Prop
 | bs {t n parts e sz aD cells i}:o.op=.buildSlice t n parts->P.underlying t=some (.slice e)->P.info? e=some i->i.size=sz->n*sz<=16777216->n<=16777216 ->
   dR H F parts.toList=some aD ->
   Instr.fill (fun i=>some (i*sz,sz)) ((Array.range (n*sz)).map ((if n*sz=0 then #[] else (i.zero.getD undef).cells)[· % (if n*sz=0 then #[] else (i.zero.getD undef).cells).size]!)) aD=some cells ->
   cells.size=n*sz->i.zero.isSome=true ->
   Mk P o F H V (au F o.dst (.o H.length)) (H++[.a n cells.toList e]) V
 | mk {t l c e i z kl kc L C}:o.op=.makeSlice t l c->P.underlying t=some (.slice e)->P.info? e=some i->i.zero=some z->ev H F l=some (.v (.int kl L))->ev H F c=some (.v (.int kc C)) ->
   0<=L->L<=C->(i.bytes:Int)*C<=281474976710656->C<=9223372036854775807 ->
   Mk P o F H V (au F o.dst (.o H.length)) (H++[.a L.toNat ((madeCells z.cells (L.toNat*i.size)).toList) e]) V
 | ap {c s x t e i z j n xs sx ys m}:o.op=.call c->c.callee=.builtin .append->c.args.toList=[s,x]->c.argTypes.toList=[t,t]->P.underlying t=some (.slice e)->P.info? e=some i->i.zero=some z ->
   z.cells.size=i.size->0<i.size->ev H F s=some (.o j)->H[j]?=some (.a n xs e)->ev H F x=some sx->Src H V i.size sx ys m->one ys=true ->
   (n+m)*i.bytes<=140737488355328->n+m<=9223372036854775807 ->
   Mk P o F H V (au F o.dst (.o H.length)) (H.set j .x++[.a (n+m) (xs++ys) e]) V
 | apnil {c s x t e i z sx ys m}:o.op=.call c->c.callee=.builtin .append->c.args.toList=[s,x]->c.argTypes.toList=[t,t]->P.underlying t=some (.slice e)->P.info? e=some i->i.zero=some z ->
   z.cells.size=i.size->0<i.size->ev H F s=some (.v (.slice none 0 0))->ev H F x=some sx->Src H V i.size sx ys m->0<m ->
   m*i.bytes<=140737488355328->m<=9223372036854775807 ->
   Mk P o F H V (au F o.dst (.o H.length)) (H++[.a m ys e]) V
 | apzero {c s x t e i sx ys sa n cp}:o.op=.call c->c.callee=.builtin .append->c.args.toList=[s,x]->c.argTypes.toList=[t,t]->P.underlying t=some (.slice e)->P.info? e=some i ->
   ev H F s=some (.v (.slice sa n cp))->ev H F x=some sx->Src H V i.size sx ys 0->n<=cp->(sa=none->cp=0)->Mk P o F H V (au F o.dst (.v (.slice sa n cp))) H V
 | cp {c d s t t' e i j n xs sx ys m}:o.op=.call c->c.callee=.builtin .copy->c.args.toList=[d,s]->c.argTypes.toList=[t,t']->P.underlying t=some (.slice e)->P.info? e=some i->i.size=1 ->
   ev H F d=some (.o j)->H[j]?=some (.a n xs e)->ev H F s=some sx->Src H V 1 sx ys m->one ys=true ->
   Mk P o F H V (au F o.dst (.v (.int .i64 (Nat.min m n:Nat)))) (H.set j (.a n (aX xs 0 (ys.take (Nat.min m n))) e)) V
theorem qU (w:World) (t ty e:TypeId) (i:TypeInfo) (ht:P.underlying t=some (.slice e)) (hi:P.info? e=some i) (sa:Option Addr) (n cp:Nat) (xa:Option Addr) (c:Nat) (h:n<=cp) (hs:sa=none->cp=0) :
  (Builtin.append_ #[t,t] ty #[.slice sa n cp,.slice xa 0 c]).run P w=.ok (.slice sa n cp) w:=by
 cases sa with
 | none =>
  obtain rfl:=hs rfl;obtain rfl:n=0:=by omega
  cases xa with
  | none=>simp [Builtin.append_,run_underlying ht,Go.sizeOf,typeInfo,hi,Builtin.lenOf,Builtin.firstCells]
  | some ad =>
   have hl:(loadCells ad 0).run P w=.ok #[] w:=by simpa using run_loadCells_list (P:=P) w ad [] (by simp)
   simp [Builtin.append_,run_underlying ht,Go.sizeOf,typeInfo,hi,Builtin.lenOf,Builtin.firstCells,hl]
 | some sb =>
  cases xa with
  | none=>simp [Builtin.append_,run_underlying ht,Go.sizeOf,typeInfo,hi,Builtin.lenOf,Builtin.firstCells,storeCells,h]
  | some ad =>
   have hl:(loadCells ad 0).run P w=.ok #[] w:=by simpa using run_loadCells_list (P:=P) w ad [] (by simp)
   simp [Builtin.append_,run_underlying ht,Go.sizeOf,typeInfo,hi,Builtin.lenOf,Builtin.firstCells,storeCells,hl,h]
theorem dI {t:Nat} {i:TypeInfo} (h:P.info? t=some i):P.cellsOf t=i.size:=by simp [Program.cellsOf,h]
theorem yS (z:Array Value) (m n:Nat) (h:m<=n):(madeCells z n).toList.take m=(madeCells z m).toList:=by
 apply List.ext_getElem?
 intro j;rw [List.getElem?_take]
 by_cases hj:j<m
 ·have:j<n:=by omega
  simp [madeCells,hj,this]
 simp [madeCells,hj]
theorem Sat.mkA (h:Sat P N w0.heap.size F H V ρ a w) (hF:Fr Vs V w0 w) {dst:Option Tmp} (hd:∀ d,dst=some d->d<N) (n cap:Nat) (xs:List Value) (cur:Array Value) (e:TypeId) (w':World)
  (hheap:∀ k:Nat,w'.heap[k]?=(w.alloc (.cells cur e)).heap[k]?) (gv:w'.heap.size=w.heap.size+1) (hos:w'.os=w.os) (htape:w'.tape=w.tape) (rA:w'.output=w.output)
  (fB:w'.ownsRow w0.heap.size e (P.cellsOf e) (.slice (some ⟨w.heap.size,0,none⟩) n cap) n xs) :
  ∃ ρ',Sat P N w0.heap.size (au F dst (.o H.length)) (H++[.a n xs e]) V ρ' (a.put dst (.slice (some ⟨w.heap.size,0,none⟩) n cap)) w'/\Fr Vs V w0 w':=by
 let ρ':Nat->Nat × Nat:=fun i=>if i=H.length then (w.heap.size,cap) else ρ i
 have hρ:∀ j,j<H.length->ρ' j=ρ j:=fun j hj=>if_neg (by omega)
 have hn:ρ' H.length=(w.heap.size,cap):=if_pos rfl;have hold:∀ k,k<w.heap.size->w'.heap[k]?=w.heap[k]?:=fun k hk=>by rw [hheap,heap_alloc_old w _ hk]
 have h1:Sat P N w0.heap.size F (H++[.a n xs e]) V ρ' a w':=by
  refine h.WV rfl hρ (by rw [hn]) hF.size hold h.know.fI ?_ ?_
  ·intro cs u hc; cases hc
  simp only [mX]; rw [hn]; exact fB
 refine⟨ρ',h1.put hd (by simp [lW]) (fun x hx=>?_),hF.grow (by omega) hos htape rA (fun k hk _=>hold k hk)⟩
 simp [cv,hn] at hx;exact hx.symm
theorem Src.cells (h:Sat P N w0.heap.size F H V ρ a w) {sz:Nat} {x:Operand} {sx:SV} {ys:List Value} {m:Nat} (hx:ev H F x=some sx) (hs:Src H V sz sx ys m) :
  ys.length=m*sz/\((a.eval x=.slice none 0 0/\ys=[]/\m=0)\/∃ ad c,a.eval x=.slice (some ad) m c/\∀ (j:Nat) u,ys[j]?=some u->w.cell? (ad.add j)=some u):=by
 cases hs with
 | @own j _ _ u hj hl =>
  have rz:cv ρ H (.o j)=some (.slice (some ⟨(ρ j).1,0,none⟩) m (ρ j).2):=by simp [cv,hj]
  have fB:=h.box j _ hj;exact⟨hl,.inr ⟨_,_,h.eval hx rz,World.ownsRow.cells fB (g:=(ρ j).1) rfl⟩⟩
 | known hl Hw =>
  obtain⟨h1,h2⟩:=lf h.know hl Hw;exact⟨h1,.inr ⟨_,_,h.eval hx rfl,h2⟩⟩
 | nil=>exact⟨by simp,.inl ⟨h.eval hx rfl,rfl,rfl⟩⟩
 | zero=>exact⟨by simp,.inr ⟨_,_,h.eval hx rfl,fun j u hj=>by simp at hj⟩⟩
theorem Mp (w:World) (base:Nat) (t ty e:TypeId) (i:TypeInfo) (z:Value) (ht:P.underlying t=some (.slice e)) (hi:P.info? e=some i) (hz:i.zero=some z) (B5:z.cells.size=i.size)
  (g n cap:Nat) (xs:List Value) (fB:w.ownsRow base e i.size (.slice (some ⟨g,0,none⟩) n cap) n xs)
  (ad:Addr) (m c:Nat) (news:List Value) (hl:news.length=m*i.size) (mb:∀ (j:Nat) u,news[j]?=some u->w.cell? (ad.add j)=some u) (h1:∀ u∈news,u.oneCell'=true)
  (jT:n+m<=9223372036854775807) (hbytes:(n+m)*i.bytes<=140737488355328) (QR:base<=w.heap.size) :
  (∃ w',(Builtin.append_ #[t,t] ty #[.slice (some ⟨g,0,none⟩) n cap,.slice (some ad) m c]).run P w=.ok (.slice (some ⟨g,0,none⟩) (n+m) cap) w' /\
   w'.ownsRow base e i.size (.slice (some ⟨g,0,none⟩) (n+m) cap) (n+m) (xs++news)/\w.grownBy w' (some g)/\w'.heap.size=w.heap.size) \/
  (∃ B4 w' cur,(Builtin.append_ #[t,t] ty #[.slice (some ⟨g,0,none⟩) n cap,.slice (some ad) m c]).run P w=.ok (.slice (some ⟨w.heap.size,0,none⟩) (n+m) B4) w' /\
   w'=w.drew.alloc (.cells cur e)/\w'.ownsRow base e i.size (.slice (some ⟨w.heap.size,0,none⟩) (n+m) B4) (n+m) (xs++news)):=by
 have WW:n+m<=maxLen:=by simp only [maxLen]; omega
 have hlen:(xs++news).length=(n+m)*i.size:=by rw [List.length_append,fB.1,hl,Nat.add_mul]
 by_cases gQ:n+m<=cap
 ·left
  rcases fB.2 with ⟨h,_⟩ | ⟨g',B4,cur,h,hbg,hg,WI,BX,sJ,HC⟩
  ·simp at h
  simp only [Value.slice.injEq,Option.some.injEq,Addr.mk.injEq,and_true,true_and] at h;obtain⟨rfl,rfl⟩:=h;have dY:n*i.size+news.length<=cur.size:=by rw [hl,sJ,<- Nat.add_mul]; exact Nat.mul_le_mul_right _ gQ
  have hr:=run_append_room (P:=P) w t ty e i ht hi g n cap cur hg ad m c news hl mb h1 gQ dY;refine⟨_,hr,⟨hlen,.inr ⟨g,cap,_,rfl,hbg,setRow_heap w g cur _ e _ hg,gQ,BX,?_,?_⟩⟩,⟨rfl,rfl,rfl,by simp,fun k _ hk=>setRow_other w g k _ (fun e=>hk (by simp [e]))⟩,size_setRow _ _ _⟩
  ·simp only [List.size_toArray,List.length_append,List.length_take,List.length_drop,Array.length_toList]
   omega
  rw [HC,<- hlen];exact List.take_left
 right
 have holds:∀ (j:Nat) u,xs[j]?=some u->w.cell? ((⟨g,0,none⟩:Addr).add j)=some u:=fB.cells (g:=g) rfl;have hr:=run_append_grow (P:=P) w t ty e i z ht hi hz ⟨g,0,none⟩ n cap xs fB.1 holds ad m c news hl mb (by omega) (by omega) (growslice_fits (by omega) hbytes);refine⟨_,_,_,hr,rfl,hlen,.inr ⟨w.heap.size,_,_,rfl,QR,heap_alloc_new w.drew _,grownCap_ge w _ _ e,grownCap_le_maxLen w _ _ e WW,?_,?_⟩⟩
 ·simp only [Array.size_append,List.size_toArray,size_zeroCells,B5,fB.1,hl,<- Nat.add_mul]
  have:=grownCap_ge w (n+m) cap e
  congr 1
  omega
 simp only [Array.toList_append,List.append_assoc];rw [<- List.append_assoc,<- hlen];exact List.take_left
theorem sP {o:Oper} {F':Fm} {H':List aT} {V':aa} (he:Mk P o F H V F' H' V') (h:Sat P N w0.heap.size F H V ρ a w) (hF:Fr Vs V w0 w) (hd:∀ d,o.dst=some d->d<N) :
  ∃ y ρ' w',(execOp a.eval o).run P w=.ok (.value y) w'/\Sat P N w0.heap.size F' H' V' ρ' (a.put o.dst y) w'/\Fr Vs V' w0 w':=by
 cases he with
 | @bs t n parts e sz aD cells i ho hu hi gv h24 hn24 hp sQ sJ hz =>
  have hpv:=mM h hp;have fB:(w.alloc (.cells cells e)).ownsRow w0.heap.size e (P.cellsOf e) (.slice (some ⟨w.heap.size,0,none⟩) n n) n cells.toList:=by
   have hn:n<=maxLen\/True:=.inr trivial;refine⟨by rw [dI hi,gv]; simpa using sJ,.inr ⟨w.heap.size,n,cells,rfl,hF.size,heap_alloc_new w _,Nat.le_refl _,?_,by rw [dI hi,gv]; exact sJ,?_⟩⟩
   ·simp only [maxLen]; omega
   rw [List.take_of_length_le]; rw [dI hi,gv,Array.length_toList,sJ]; exact Nat.le_refl _
  obtain⟨ρ',h1,h2⟩:=h.mkA hF hd n n cells.toList cells e (w.alloc (.cells cells e)) (fun _=>rfl) (by simp) rfl rfl rfl fB;refine⟨_,ρ',_,?_,h1,h2⟩
  have EJ:∃ z,i.zero=some z:=by
   cases hzz:i.zero with
   | none=>rw [hzz] at hz; cases hz
   | some z=>exact⟨z,rfl⟩
  obtain⟨z,EJ⟩:=EJ;have Mq:(parts.map fun(p:Nat × Operand)=>(p.1,a.eval p.2)).toList=aD:=by rw [Array.toList_map]; exact hpv
  subst gv;have h24':¬ (16777216<n*i.size):=by omega
  by_cases hzero:n*i.size=0
  ·simp only [hzero,if_true] at sQ
   simp [execOp,ho,Instr.buildSlice,underlying,hu,Go.sizeOf,typeInfo,hi,hzero,newRow];have:=sQ;rw [<- Mq] at this;simp at this;simp [this]
  simp only [hzero,if_false,EJ] at sQ;simp [execOp,ho,Instr.buildSlice,underlying,hu,Go.sizeOf,typeInfo,hi,hzero,newRow,h24',zeroValue,EJ];have:=sQ;rw [<- Mq] at this;simp at this;simp [this]
 | @mk t l c e i z kl kc L C ho hu hi hz hl hc h0 hLC hb jT =>
  have e1:=h.eval hl rfl;have e2:=h.eval hc rfl;have hr:=run_make (P:=P) w t e i z hu hi hz kl kc L C h0 hLC hb jT;have fB:(w.alloc (.cells (madeCells z.cells (C.toNat*i.size)) e)).ownsRow w0.heap.size e (P.cellsOf e) (.slice (some ⟨w.heap.size,0,none⟩) L.toNat C.toNat) L.toNat (madeCells z.cells (L.toNat*i.size)).toList:=by
   rw [dI hi];refine⟨by simp [size_madeCells],.inr ⟨w.heap.size,C.toNat,_,rfl,hF.size,heap_alloc_new w _,by omega,by simp only [maxLen]; omega,size_madeCells _ _,?_⟩⟩
   exact yS _ _ _ (Nat.mul_le_mul_right _ (by omega))
  obtain⟨ρ',h1,h2⟩:=h.mkA hF hd L.toNat C.toNat _ _ e _ (fun _=>rfl) (by simp) rfl rfl rfl fB;refine⟨_,ρ',_,?_,h1,h2⟩
  simp [execOp,ho,e1,e2,hr]
 | @ap c s x t e i z j n xs sx ys m ho bZ fY sS hu hi hz B5 gv hs hj hx eI h1 Mr jT =>
  have rz:cv ρ H (.o j)=some (.slice (some ⟨(ρ j).1,0,none⟩) n (ρ j).2):=by simp [cv,hj]
  have e1:=h.eval hs rz;have ha:c.args=#[s,x]:=by rw [<- fY]
  have ht:c.argTypes=#[t,t]:=by rw [<- sS]
  have fB:=h.box j _ hj;simp only [mX] at fB;rw [dI hi] at fB;have vC:∀ u∈ys,u.oneCell'=true:=fun v hv=>(List.all_eq_true.1 h1) v hv
  have BY:=(List.getElem?_eq_some_iff.1 hj).1
  -- in place: box j's block is taken over
  have inplace:∀ (w':World) (hw:w'.ownsRow w0.heap.size e i.size (.slice (some ⟨(ρ j).1,0,none⟩) (n+m) (ρ j).2) (n+m) (xs++ys)) (_:w.grownBy w' (some (ρ j).1)) (_:w'.heap.size=w.heap.size),
    ∃ ρ',Sat P N w0.heap.size (au F o.dst (.o H.length)) (H.set j .x++[.a (n+m) (xs++ys) e]) V ρ' (a.put o.dst (.slice (some ⟨(ρ j).1,0,none⟩) (n+m) (ρ j).2)) w'/\Fr Vs V w0 w':=by
   intro w' hw hg hsz';have hk:=h.QQ j
   let ρ':Nat->Nat × Nat:=fun k=>if k=H.length then ρ j else ρ k
   have hρ:∀ k,k<H.length->ρ' k=ρ k:=fun k hk=>if_neg (by omega)
   have hn:ρ' H.length=ρ j:=if_pos rfl;have key:∀ (k:Nat) (c:aT),(H.set j .x)[k]?=some c->c.live=true->H[k]?=some c/\k≠j:=by
    intro k c hc hl;rw [List.getElem?_set] at hc
    by_cases e:j=k
    ·subst e
     simp [BY] at hc; subst hc; cases hl
    simp [e] at hc; exact⟨hc,fun h=>e h.symm⟩
   have hS:Sat P N w0.heap.size F (H.set j .x++[.a (n+m) (xs++ys) e]) V ρ' a w':=by
    refine hk.HA (b:=.a (n+m) (xs++ys) e) rfl (by simpa using hρ) ?_ ?_ ?_ ?_ ?_ ?_
    ·intro k c hc hl
     simp only [List.length_set];rw [hn];obtain⟨h1,h2⟩:=key k c hc hl;exact fun e=>h2 (h.inj k j c _ h1 hj hl rfl e)
    ·simp only [List.length_set]; rw [hn]; exact h.base j _ hj rfl
    ·simp only [List.length_set]; rw [hn]
     exact fun k hk bR=>hg.block k hk (by simpa using bR)
    ·simp only [List.length_set]; rw [hn]; exact h.priv j _ hj rfl
    ·intro cs u hc; cases hc
    simp only [mX,List.length_set]; rw [hn,dI hi]; exact hw
   refine⟨ρ',hS.put hd (by simp [lW]) (fun x hx=>?_),hF.nY (ρ j).1 (h.base j _ hj rfl) hsz' hg.os hg.tape hg.output (fun k hk=>?_)⟩
   ·have WX:(H.set j .x++[aT.a (n+m) (xs++ys) e])[H.length]?=some (.a (n+m) (xs++ys) e):=by
     rw [List.getElem?_append_right (by simp)]; simp
    simp only [cv,WX,hn] at hx;simp at hx;exact hx.symm
   by_cases aN:k<w.heap.size
   ·exact hg.block k aN (by simpa using hk)
   rw [Array.getElem?_eq_none (by omega),Array.getElem?_eq_none (by omega)]
  rcases Src.cells h hx eI with ⟨hl,⟨e2,rfl,rfl⟩ | ⟨ad,cp,e2,mb⟩⟩
  ·have hr:=run_append_owned_none (P:=P) w w0.heap.size t o.type e i i.size hu hi _ n xs fB
   simp only [Nat.add_zero,List.append_nil] at inplace ⊢;obtain⟨ρ',g1,g2⟩:=inplace w fB ⟨rfl,rfl,rfl,Nat.le_refl _,fun _ _ _=>rfl⟩ rfl;refine⟨_,ρ',_,?_,g1,g2⟩
   simp [execOp,ho,resolve,bZ,ha,ht,invoke,builtin,e1,e2,hr]
  rcases Mp (P:=P) w w0.heap.size t o.type e i z hu hi hz B5 (ρ j).1 n (ρ j).2 xs fB ad m cp ys hl mb vC jT Mr hF.size with ⟨w',hr,hw,hg,hsz'⟩ | ⟨B4,w',cur,hr,hw',hw⟩
  ·obtain⟨ρ',g1,g2⟩:=inplace w' hw hg hsz'
   refine⟨_,ρ',_,?_,g1,g2⟩
   simp [execOp,ho,resolve,bZ,ha,ht,invoke,builtin,e1,e2,hr]
  have hk:=h.QQ j;subst hw';have hlenset:(H.set j aT.x).length=H.length:=by simp
  obtain⟨ρ',g1,g2⟩:=hk.mkA hF hd (n+m) B4 (xs++ys) cur e (w.drew.alloc (.cells cur e)) (fun _=>rfl) (by simp) rfl rfl rfl (by rw [dI hi]; exact hw)
  rw [hlenset] at g1;refine⟨_,ρ',_,?_,g1,g2⟩
  simp [execOp,ho,resolve,bZ,ha,ht,invoke,builtin,e1,e2,hr]
 | @apnil c s x t e i z sx ys m ho bZ fY sS hu hi hz B5 gv hs hx eI hm Mr jT =>
  have e1:=h.eval hs rfl;have ha:c.args=#[s,x]:=by rw [<- fY]
  have ht:c.argTypes=#[t,t]:=by rw [<- sS]
  rcases Src.cells h hx eI with ⟨hl,⟨e2,rfl,rfl⟩ | ⟨ad,cp,e2,mb⟩⟩
  ·omega
  have hr:=run_append_nil (P:=P) w t o.type e i z hu hi hz ad m cp ys hl mb hm (by omega) (by omega);have WW:m<=maxLen:=by simp only [maxLen]; omega
  have fB:(w.drew.alloc (.cells (ys.toArray++Builtin.zeroCells z.cells (grownCap w m 0 e-m)) e)).ownsRow w0.heap.size e (P.cellsOf e) (.slice (some ⟨w.heap.size,0,none⟩) m (grownCap w m 0 e)) m ys:=by
   rw [dI hi];have cg:=grownCap_ge w m 0 e;refine⟨hl,.inr ⟨w.heap.size,_,_,rfl,hF.size,heap_alloc_new w.drew _,cg,grownCap_le_maxLen w _ _ e WW,?_,?_⟩⟩
   ·simp only [Array.size_append,List.size_toArray,size_zeroCells,B5,hl,<- Nat.add_mul]
    congr 1
    omega
   simp only [Array.toList_append];rw [<- hl];exact List.take_left
  obtain⟨ρ',g1,g2⟩:=h.mkA hF hd m (grownCap w m 0 e) ys (ys.toArray++Builtin.zeroCells z.cells (grownCap w m 0 e-m)) e (w.drew.alloc (.cells (ys.toArray++Builtin.zeroCells z.cells (grownCap w m 0 e-m)) e)) (fun _=>rfl) (by simp) rfl rfl rfl fB;refine⟨_,ρ',_,?_,g1,g2⟩
  simp [execOp,ho,resolve,bZ,ha,ht,invoke,builtin,e1,e2,hr]
 | @apzero c s x t e i sx ys sa n cp ho bZ fY sS hu hi hs hx eI hncp Sq =>
  have e1:=h.eval hs rfl;have ha:c.args=#[s,x]:=by rw [<- fY]
  have ht:c.argTypes=#[t,t]:=by rw [<- sS]
  refine⟨.slice sa n cp,ρ,w,?_,h.put hd trivial (fun x hx=>by simp [cv] at hx; exact hx.symm),hF⟩
  rcases Src.cells h hx eI with ⟨hl,⟨e2,_,_⟩ | ⟨ad,cpx,e2,mb⟩⟩
  ·have hr:=qU (P:=P) w t o.type e i hu hi sa n cp none 0 hncp Sq
   simp [execOp,ho,resolve,bZ,ha,ht,invoke,builtin,e1,e2,hr]
  have hr:=qU (P:=P) w t o.type e i hu hi sa n cp (some ad) cpx hncp Sq;simp [execOp,ho,resolve,bZ,ha,ht,invoke,builtin,e1,e2,hr]
 | @cp c d s t t' e i j n xs sx ys m ho bZ fY sS hu hi gv hdst hj hx eI vC =>
  have ha:c.args=#[d,s]:=by rw [<- fY]
  have ht:c.argTypes=#[t,t']:=by rw [<- sS]
  have rz:cv ρ H (.o j)=some (.slice (some ⟨(ρ j).1,0,none⟩) n (ρ j).2):=by simp [cv,hj]
  have e1:=h.eval hdst rz;have fB:=h.box j _ hj;have hce:P.cellsOf e=1:=by rw [dI hi,gv]
  have hlen:xs.length=n:=by have:=fB.1; rw [hce,Nat.mul_one] at this; exact this
  have BW:(P.info? e).map (·.size)=some 1:=by rw [hi]; simp [gv]
  rcases Src.cells h hx eI with ⟨hl,⟨e2,dZ,hm⟩ | ⟨ad,cp,e2,mb⟩⟩
  ·subst dZ; subst hm
   have hr:=run_copy_nil (P:=P) w t t' o.type e ⟨(ρ j).1,0,none⟩ n (ρ j).2 hu (by rw [BW]; rfl)
   have hz:(H.set j (.a n (aX xs 0 (([]:List Value).take (Nat.min 0 n))) e))=H:=by
    have e3:aX xs 0 (([]:List Value).take (Nat.min 0 n))=xs:=by simp [aX]
    rw [e3];apply List.ext_getElem?
    intro k;rw [List.getElem?_set];split
    ·rename_i hk; subst hk
     have:=(List.getElem?_eq_some_iff.1 hj).1;rw [if_pos this,hj]
    rfl
   rw [hz];refine⟨.int .i64 ((Nat.min 0 n:Nat)),ρ,w,?_,h.put hd trivial (fun x hx=>by simp [cv] at hx; exact hx.symm),hF⟩
   simp [execOp,ho,resolve,bZ,ha,ht,invoke,builtin,e1,e2,hr,goInt]
  have hq:(ys.take (Nat.min m n)).length=Nat.min m n:=by
   rw [List.length_take,hl,Nat.mul_one];exact Nat.min_eq_left (Nat.min_le_left m n)
  obtain⟨cur,c1,c2⟩:=wU (ys:=ys.take (Nat.min m n)) fB 0 (by rw [hq,hlen,Nat.zero_add]; exact Nat.min_le_right m n)
  have hr:=run_copy_row (P:=P) w t t' o.type e (ρ j).1 0 n (ρ j).2 ad m cp (xs++cur).toArray e (ys.take (Nat.min m n)) hu BW c1 hq
   (fun k v hk=>mb k v (by rw [List.getElem?_take] at hk; split at hk <;> first | exact hk | cases hk))
   (by rw [hq]; simp only [Nat.zero_add,List.size_toArray,List.length_append]; have:Nat.min m n<=n:=Nat.min_le_right m n; omega)
   (fun v hv=>by
    have:=List.all_eq_true.1 vC v (List.mem_of_mem_take hv);exact this)
  have Mo:Sat P N w0.heap.size F (H.set j (.a n (aX xs 0 (ys.take (Nat.min m n))) e)) V ρ a (w.setRow (ρ j).1 (aX (xs++cur) 0 (ys.take (Nat.min m n))).toArray) :=
   h.Mn hj (.inr ⟨n,xs,e,_,e,rfl,rfl⟩) (fun k hk=>setRow_other w _ k _ hk) c2
  refine⟨.int .i64 ((Nat.min m n:Nat)),ρ,_,?_,Mo.put hd trivial (fun x hx=>by simp [cv] at hx; exact hx.symm),hF.nY (ρ j).1 (h.base j _ hj rfl) (size_setRow _ _ _) rfl rfl rfl (fun k hk=>setRow_other w _ k _ hk)⟩
  rw [hq] at hr;simp only [execOp,ho,resolve,bZ];simp [ha,ht,invoke,builtin,e1,e2,hr,goInt,aX,hq]
variable {P:Program} {N:Nat} {w0:World} {F:Fm} {H:List aT} {Vs V V0:aa} {ρ:Nat->Nat × Nat} {a:Act} {w:World}
structure AlD where
 z:Option Value
 n:Nat
 ys:List Value
 t:TypeId
 exact:Bool
def WJ (P:Program) (d:AlD) (cap:Nat) (spare:List Value):Prop:=(d.exact=true->cap=d.n/\spare=[])/\spare.length=(cap-d.n)*P.cellsOf d.t
def QS (P:Program) (V0:aa) (t:TypeId) (s x:Option SV):Option AlD :=
 match P.underlying t,s,x with
 | some (.slice e),some (.v (.slice (some sb) 0 0)),some (.v (.slice xa m _))=>match P.info? e with
  | some i=>match i.zero with
   | some z=>if z.cells.size=i.size then if m=0 then some ⟨some (.slice (some sb) 0 0),0,[],e,false⟩ else match xa with
    | some ad=>match aQ V0 ad (m*i.size) with
     | some ys=>if one ys=true/\m*i.bytes<=140737488355328/\m<=9223372036854775807 then some ⟨none,m,ys,e,false⟩ else none
     | none=>none
    | none=>none
    else none
   | none=>none
  | none=>none
 | _,_,_=>none
theorem iC {F1:Fm}:∀ {l:List (Nat × Operand)},(∀ p∈l,ev H F1 p.2=ev H F p.2)->dR H F1 l=dR H F l
 | [],_=>rfl
 | (i,x) :: r,h=>by
  have h1:=h (i,x) (by simp);have h2:=iC (l:=r) fun p hp=>h p (by simp [hp])
  simp only at h1;simp only [dR,h1,h2]
def WY (i:TypeInfo) (n:Nat) (e:TypeId) (aD:Option (List (Nat × Value))):Option AlD:=match i.zero,aD with
 | some z,some aD=>if n*i.size<=16777216/\n<=16777216 then match Instr.fill (fun j=>some (j*i.size,i.size)) ((Array.range (n*i.size)).map ((if n*i.size=0 then #[] else z.cells)[· % (if n*i.size=0 then #[] else z.cells).size]!)) aD with
  | some cells=>if cells.size=n*i.size then some ⟨none,n,cells.toList,e,true⟩ else none
  | none=>none
  else none
 | _,_=>none
def lX (P:Program) (V0:aa) (H:List aT) (F:Fm) (o:Oper):Option AlD :=
 match o.op with
 | .buildSlice t n parts=>match P.underlying t with
  | some (.slice e)=>match P.info? e with
   | some i=>if n=0/\parts.toList=[]/\i.zero.isSome=true then some ⟨none,0,[],e,true⟩ else WY i n e (dR H F parts.toList)
   | none=>none
  | _=>none
 | .call c=>match c.callee,c.args.toList,c.argTypes.toList with
  | .builtin .append,[s,x],[t,t']=>if t=t' then QS P V0 t (ev H F s) (ev H F x) else none
  | _,_,_=>none
 | _=>none
theorem vD (w:World) (t ty e:TypeId) (i:TypeInfo) (ht:P.underlying t=some (.slice e)) (hi:P.info? e=some i) (sb:Addr) (xa:Option Addr) (c:Nat) :
  (Builtin.append_ #[t,t] ty #[.slice (some sb) 0 0,.slice xa 0 c]).run P w=.ok (.slice (some sb) 0 0) w:=by
 cases xa with
 | none=>simp [Builtin.append_,run_underlying ht,Go.sizeOf,typeInfo,hi,Builtin.lenOf,Builtin.firstCells,storeCells]
 | some ad =>
  have hl:(loadCells ad 0).run P w=.ok #[] w:=by simpa using run_loadCells_list (P:=P) w ad [] (by simp)
  simp [Builtin.append_,run_underlying ht,Go.sizeOf,typeInfo,hi,Builtin.lenOf,Builtin.firstCells,storeCells,hl]
theorem run_lit (h:Sat P N w0.heap.size F H V ρ a w) {o:Oper} {t e:TypeId} {n:Nat} {parts:Array (Nat × Operand)} {i:TypeInfo} {z:Value} {aD:List (Nat × Value)} {cells:Array Value} (ho:o.op=.buildSlice t n parts) (hu:P.underlying t=some (.slice e)) (hi:P.info? e=some i) (hz:i.zero=some z)
  (h24:n*i.size<=16777216) (_:n<=16777216) (hp:dR H F parts.toList=some aD) (sQ:Instr.fill (fun j=>some (j*i.size,i.size)) ((Array.range (n*i.size)).map ((if n*i.size=0 then #[] else z.cells)[· % (if n*i.size=0 then #[] else z.cells).size]!)) aD=some cells) :
  (execOp a.eval o).run P w=.ok (.value (.slice (some ⟨w.heap.size,0,none⟩) n n)) (w.alloc (.cells cells e)):=by
 have hpv:=mM h hp;have Mq:(parts.map fun(p:Nat × Operand)=>(p.1,a.eval p.2)).toList=aD:=by rw [Array.toList_map]; exact hpv
 have h24':¬ (16777216<n*i.size):=by omega
 by_cases hzero:n*i.size=0
 ·simp only [hzero,if_true] at sQ
  simp [execOp,ho,Instr.buildSlice,underlying,hu,Go.sizeOf,typeInfo,hi,hzero,newRow];have:=sQ;rw [<- Mq] at this;simp at this;simp [this]
 simp only [hzero,if_false] at sQ;simp [execOp,ho,Instr.buildSlice,underlying,hu,Go.sizeOf,typeInfo,hi,hzero,newRow,h24',zeroValue,hz];have:=sQ;rw [<- Mq] at this;simp at this;simp [this]
theorem HD (h:Sat P N w0.heap.size F H V ρ a w) (hV0:V0.on w) {o:Oper} {d:AlD} (hd:lX P V0 H F o=some d) :
  ∃ y w',(execOp a.eval o).run P w=.ok (.value y) w'/\((d.z=some y/\w'=w)\/(d.z=none/\∃ cap spare,y=.slice (some ⟨w.heap.size,0,none⟩) d.n cap/\d.n<=cap/\WJ P d cap spare /\
   (∀ k:Nat,w'.heap[k]?=(w.alloc (.cells (d.ys++spare).toArray d.t)).heap[k]?)/\w'.heap.size=w.heap.size+1/\w'.os=w.os/\w'.tape=w.tape/\w'.output=w.output)):=by
 unfold lX at hd;split at hd
 ·rename_i t n parts ho
  split at hd
  ·rename_i e hu
   split at hd
   ·rename_i i hi
    split at hd
    ·rename_i hc
     obtain⟨rfl,hp,hz⟩:=hc;simp only [Option.some.injEq] at hd;subst hd;have WK:parts=#[]:=by cases parts; simpa using hp
     subst WK;refine⟨.slice (some ⟨w.heap.size,0,none⟩) 0 0,w.alloc (.cells #[] e),?_,.inr ⟨rfl,0,[],rfl,Nat.le_refl _,⟨fun _=>⟨rfl,rfl⟩,by simp⟩,fun _=>rfl,by simp,rfl,rfl,rfl⟩⟩
     simp [execOp,ho,Instr.buildSlice,underlying,hu,Go.sizeOf,typeInfo,hi,newRow,Instr.fill];have gw:Array.map (fun(_:Nat)=>(default:Value)) (Array.range 0)=#[]:=Array.eq_empty_of_size_eq_zero (by simp);rw [gw]
    unfold WY at hd;split at hd
    ·rename_i z aD hz hv
     split at hd
     ·rename_i hc
      split at hd
      ·rename_i cells hf
       split at hd
       ·simp only [Option.some.injEq] at hd
        subst hd;have sJ:(cells.toList++[]).toArray=cells:=by simp
        exact⟨_,w.alloc (.cells cells e),run_lit h ho hu hi hz hc.1 hc.2 hv hf,.inr ⟨rfl,n,[],rfl,Nat.le_refl _,⟨fun _=>⟨rfl,rfl⟩,by simp⟩,fun k=>by rw [sJ],by simp,rfl,rfl,rfl⟩⟩
       cases hd
      cases hd
     cases hd
    cases hd
   cases hd
  cases hd
 ·rename_i c ho
  split at hd
  ·rename_i s x t t' bZ fY sS
   split at hd
   ·rename_i htt
    subst htt;have ha:c.args=#[s,x]:=by rw [<- fY]
    have ht:c.argTypes=#[t,t]:=by rw [<- sS]
    unfold QS at hd;split at hd
    ·rename_i e sb xa m cx hu hs hx
     have e1:=h.eval hs rfl;have e2:=h.eval hx rfl;split at hd
     ·rename_i i hi
      split at hd
      ·rename_i z hz
       split at hd
       rotate_left
       ·cases hd
       rename_i B5;split at hd
       ·rename_i hm
        subst hm;simp only [Option.some.injEq] at hd;subst hd;have hr:=vD (P:=P) w t o.type e i hu hi sb xa cx;refine⟨_,w,?_,.inl ⟨rfl,rfl⟩⟩
        simp [execOp,ho,resolve,bZ,ha,ht,invoke,builtin,e1,e2,hr]
       rename_i hm;split at hd
       ·rename_i ad
        split at hd
        ·rename_i ys hl
         split at hd
         ·rename_i hc
          simp only [Option.some.injEq] at hd;subst hd;obtain⟨g1,g2⟩:=lf hV0 hl (ql hc.1);have hr:=run_append_grow (P:=P) (w:=w) t o.type e i z hu hi hz sb 0 0 [] (by simp) (by simp) ad m cx ys g1 g2 (by omega) (by omega) (growslice_fits (by omega) (by simpa using hc.2.1));simp only [Nat.zero_add] at hr;have he:(([]:List Value).toArray++ys.toArray++Builtin.zeroCells z.cells (grownCap w m 0 e-m))=(ys++(Builtin.zeroCells z.cells (grownCap w m 0 e-m)).toList).toArray:=by
           apply Array.ext'; simp
          rw [he] at hr;refine⟨.slice (some ⟨w.heap.size,0,none⟩) m (grownCap w m 0 e),w.drew.alloc (.cells (ys++(Builtin.zeroCells z.cells (grownCap w m 0 e-m)).toList).toArray e),?_,
           .inr ⟨rfl,grownCap w m 0 e,(Builtin.zeroCells z.cells (grownCap w m 0 e-m)).toList,rfl,grownCap_ge w m 0 e,⟨nofun,by rw [Array.length_toList,size_zeroCells,B5,dI hi]⟩,fun k=>rfl,by simp,rfl,rfl,rfl⟩⟩
          simp only [execOp,ho,resolve,bZ];simp [ha,ht,invoke,builtin,e1,e2,hr]
         cases hd
        cases hd
       cases hd
      cases hd
     cases hd
    cases hd
   cases hd
  cases hd
 cases hd
def yT (ops:Array Oper) (o:Oper):Bool:=match o.op,o.dst with
 | .call c,some d=>match c.callee,c.args.toList with
  | .builtin .append,[.tmp s,_]=>ops.any (fun p=>(match p.op with | .buildSlice _ 0 parts=>parts.isEmpty | _=>false) && p.dst == some s) &&
    ops.any (fun p=>match p.op with | .build _ parts=>parts.any (fun q=>match q.2 with | .tmp t=>t == d | _=>false) | _=>false)
  | _,_=>false
 | _,_=>false
def isLit (ops:Array Oper) (d:Tmp):Bool:=ops.any fun p=>match p.op with
 | .call c=>(match c.callee with | .value _=>c.args.toList.any (fun x=>match x with | .tmp t=>t == d | _=>false) | _=>false)
 | _=>false
def kP (ops:Array Oper) (o:Oper):Bool:=yT ops o || match o.op,o.dst with
 | .buildSlice _ 0 parts,some d=>parts.isEmpty && ops.any (fun p=>yT ops p && match p.op with | .call c=>(match c.args.toList with | .tmp s :: _=>s == d | _=>false) | _=>false)
 | .buildSlice _ (_+1) _,some d=>isLit ops d
 | _,_=>false
theorem fZ {F':Fm} {o:Oper} (h:∀ x∈o.op.operands,ev H F x=ev H F' x):lX P V0 H F o=lX P V0 H F' o:=by
 unfold lX;split
 ·rename_i t n parts ho
  rw [iC (F:=F') fun p hp=>h p.2 (by rw [ho]; simp only [Op.operands]; exact List.mem_toArray.2 (List.mem_map_of_mem hp))]
 ·rename_i c ho
  split
  ·rename_i s x t t' bZ fY sS
   have hs:s∈c.args:=by rw [<- Array.mem_toList_iff,fY]; simp
   have hx:x∈c.args:=by rw [<- Array.mem_toList_iff,fY]; simp
   rw [h s (by simp [ho,Op.operands,Call.operands,hs]),h x (by simp [ho,Op.operands,Call.operands,hx])]
  rfl
 rfl
theorem Sat.alloc {V':aa} {w':World} {xs:List Value} {t:TypeId} (h:Sat P N w0.heap.size F H V ρ a w) (eO:V'=aB V w.heap.size (xs,(t,(0,0))))
  (hh:∀ k:Nat,w'.heap[k]?=(w.alloc (.cells xs.toArray t)).heap[k]?) (gv:w'.heap.size=w.heap.size+1) (hos:w'.os=w.os) (htp:w'.tape=w.tape) (rA:w'.output=w.output):Fr V V' w w'/\V'.on w':=by
 subst eO;refine⟨⟨hos,htp,rA,by omega,fun b hb _=>by rw [hh,heap_alloc_old w _ hb],fun b hb hn=>?_⟩,fun b c u hb=>?_⟩
 ·simp only [aB]
  rw [if_neg (by omega)]; exact hn
 simp only [aB] at hb;split at hb
 ·rename_i e
  subst e;simp only [Option.some.injEq,Prod.mk.injEq] at hb;obtain⟨rfl,rfl⟩:=hb;rw [hh,heap_alloc_new,gJ]
 rename_i e;have aN:b<w.heap.size:=by
  have:=h.know b c u hb;exact(Array.getElem?_eq_some_iff.1 this).1
 rw [hh,heap_alloc_old w _ aN];exact h.know b c u hb
theorem CD {V:aa} (h:∃ w,V.on w) (xs:List Value) (t:TypeId):∃ b,V b=none/\∃ w,(aB V b (xs,(t,(0,0)))).on w:=by
 obtain⟨w,hw⟩:=h;refine⟨w.heap.size,hw.fI,w.alloc (.cells xs.toArray t),fun b c u hb=>?_⟩
 simp only [aB] at hb;split at hb
 ·rename_i e
  subst e;simp only [Option.some.injEq,Prod.mk.injEq] at hb;obtain⟨rfl,rfl⟩:=hb;rw [heap_alloc_new,gJ]
 rename_i e;have aN:b<w.heap.size:=(Array.getElem?_eq_some_iff.1 (hw b c u hb)).1;rw [heap_alloc_old w _ aN];exact hw b c u hb
theorem vE {V:aa} {b c:Nat} {x y} (h:b≠c):aB (aB V b x) c y=aB (aB V c y) b x:=by
 funext k
 simp only [aB]
 by_cases h1:k=c
 ·subst h1; simp [Ne.symm h]
 simp [h1]
theorem yU {V:aa} {b:Nat} {x} (h:V b=none):V.le (aB V b x):=by
 intro k y hk;simp only [aB]
 by_cases e:k=b
 ·subst e; rw [h] at hk; cases hk
 rw [if_neg e]; exact hk
theorem Sr {V:aa} {b c:Nat} {x y} (h:V b=none) (bR:b≠c):(aB V c y).le (aB (aB V b x) c y):=by
 rw [vE bR];exact yU (by simp only [aB]; rw [if_neg bR]; exact h)
theorem Sat.wrV (h:Sat P N w0.heap.size F H V ρ a w) (hF:Fr Vs V w0 w) {b:Nat} {cs:List Value} {u:TypeId} (hv:V b=some (cs,(u,(0,0)))) (L:List Value) :
  Sat P N w0.heap.size F H (aB V b (L,(u,(0,0)))) ρ a (w.setRow b L.toArray)/\Fr Vs (aB V b (L,(u,(0,0)))) w0 (w.setRow b L.toArray):=by
 have hk:=h.know.row hv;have bR:∀ i c,H[i]?=some c->c.live=true->(ρ i).1≠b:=fun i c hb hl e=>by
  have:=h.priv i c hb hl; rw [e,hv] at this; cases this
 refine⟨⟨h.defers,h.size,h.slot,fun i c hb=>(h.box i c hb).of_heap rfl (fun hl=>setRow_other w _ _ _ (bR i c hb hl)),h.inj,h.base,?_,?_,h.wfF,h.wfH⟩,?_⟩
 ·intro i c hb hl
  simp only [aB,if_neg (bR i c hb hl)];exact h.priv i c hb hl
 ·intro k c t hb
  simp only [aB] at hb;split at hb
  ·rename_i e
   subst e;simp at hb;obtain⟨rfl,rfl⟩:=hb;rw [gJ];exact setRow_heap w _ _ _ u (0,0) hk
  rename_i e;rw [setRow_other w _ _ _ e];exact h.know k c t hb
 refine⟨hF.os,hF.tape,hF.output,by rw [size_setRow]; exact hF.size,fun k aN hn=>?_,fun k aN hn=>?_⟩
 ·have yR:=hF.dom k aN hn
  rw [setRow_other w _ _ _ (fun e=>by rw [e,hv] at yR; cases yR)]
  exact hF.j9 k aN hn
 have yR:=hF.dom k aN hn;simp only [aB];rw [if_neg (fun e=>by rw [e,hv] at yR; cases yR)]
 exact yR
theorem CE {o:Oper} {c:Call} {s x:Operand} {t e:TypeId} {i:TypeInfo} {b n cp:Nat} {sx:SV} {ys cs:List Value} {m:Nat} (h:Sat P N w0.heap.size F H V ρ a w) (hF:Fr Vs V w0 w) (ho:o.op=.call c) (bZ:c.callee=.builtin .append) (fY:c.args.toList=[s,x]) (sS:c.argTypes.toList=[t,t]) (hu:P.underlying t=some (.slice e)) (hi:P.info? e=some i)
  (hs:ev H F s=some (.v (.slice (some ⟨b,0,none⟩) n cp))) (hx:ev H F x=some sx) (eI:Src H V i.size sx ys m) (h1:one ys=true) (hm:0<m) (gQ:n+m<=cp) (hv:V b=some (cs,(e,(0,0)))) (dY:(n+m)*i.size<=cs.length) :
  ∃ w',(execOp a.eval o).run P w=.ok (.value (.slice (some ⟨b,0,none⟩) (n+m) cp)) w'/\Sat P N w0.heap.size F H (aB V b (aX cs (n*i.size) ys,(e,(0,0)))) ρ a w'/\Fr Vs (aB V b (aX cs (n*i.size) ys,(e,(0,0)))) w0 w':=by
 have e1:=h.eval hs rfl;have ha:c.args=#[s,x]:=by rw [<- fY]
 have ht:c.argTypes=#[t,t]:=by rw [<- sS]
 have hk:=h.know.row hv;rcases Src.cells h hx eI with ⟨hl,⟨e2,_,rfl⟩ | ⟨ad,cpx,e2,mb⟩⟩
 ·omega
 have vC:∀ u∈ys,u.oneCell'=true:=fun v hv=>(List.all_eq_true.1 h1) v hv
 have hr:=run_append_room (P:=P) w t o.type e i hu hi b n cp cs.toArray hk ad m cpx ys hl mb vC gQ (by rw [hl,<- Nat.add_mul]; simpa using dY)
 obtain⟨q1,q2⟩:=h.wrV hF hv (aX cs (n*i.size) ys);refine⟨_,?_,q1,q2⟩
 simp only [execOp,ho,resolve,bZ];simp [ha,ht,invoke,builtin,e1,e2,hr,aX]
theorem CF {o:Oper} {c:Call} {s x:Operand} {t e:TypeId} {i:TypeInfo} {z:Value} {sa:Option Addr} {n cp:Nat} {sx:SV} {ys old:List Value} {m:Nat} (h:Sat P N w0.heap.size F H V ρ a w) (ho:o.op=.call c) (bZ:c.callee=.builtin .append) (fY:c.args.toList=[s,x]) (sS:c.argTypes.toList=[t,t]) (hu:P.underlying t=some (.slice e)) (hi:P.info? e=some i) (hz:i.zero=some z) (B5:z.cells.size=i.size)
  (hs:ev H F s=some (.v (.slice sa n cp))) (hx:ev H F x=some sx) (eI:Src H V i.size sx ys m) (hm:0<m) (gQ:cp<n+m) (Mr:(n+m)*i.bytes<=140737488355328) (jT:n+m<=9223372036854775807)
  (hold:(sa=none/\n=0/\cp=0/\old=[])\/∃ ad,sa=some ad/\aQ V ad (n*i.size)=some old) (Hw:fA old=true) :
  ∃ cap spare w',(execOp a.eval o).run P w=.ok (.value (.slice (some ⟨w.heap.size,0,none⟩) (n+m) cap)) w'/\n+m<=cap/\spare.length=(cap-(n+m))*P.cellsOf e /\
   (∀ k:Nat,w'.heap[k]?=(w.alloc (.cells ((old++ys)++spare).toArray e)).heap[k]?)/\w'.heap.size=w.heap.size+1/\w'.os=w.os/\w'.tape=w.tape/\w'.output=w.output:=by
 have e1:=h.eval hs rfl;have ha:c.args=#[s,x]:=by rw [<- fY]
 have ht:c.argTypes=#[t,t]:=by rw [<- sS]
 rcases Src.cells h hx eI with ⟨hl,⟨e2,_,rfl⟩ | ⟨ad,cpx,e2,mb⟩⟩
 ·omega
 rcases hold with ⟨rfl,rfl,rfl,rfl⟩ | ⟨sb,rfl,hl2⟩
 ·rw [Nat.zero_add] at Mr
  have hr:=run_append_nil (P:=P) (w:=w) t o.type e i z hu hi hz ad m cpx ys hl mb hm (by omega) (by omega);have he:(ys.toArray++Builtin.zeroCells z.cells (grownCap w m 0 e-m))=(([]++ys)++(Builtin.zeroCells z.cells (grownCap w m 0 e-m)).toList).toArray:=by
   apply Array.ext'; simp
  rw [he] at hr;have cg:=grownCap_ge w m 0 e;refine⟨grownCap w m 0 e,(Builtin.zeroCells z.cells (grownCap w m 0 e-m)).toList,w.drew.alloc (.cells (([]++ys)++(Builtin.zeroCells z.cells (grownCap w m 0 e-m)).toList).toArray e),?_,by omega,by rw [Array.length_toList,size_zeroCells,B5,dI hi,Nat.zero_add],fun k=>rfl,by simp,rfl,rfl,rfl⟩
  simp only [execOp,ho,resolve,bZ];simp [ha,ht,invoke,builtin,e1,e2,hr]
 obtain⟨g1,g2⟩:=lf h.know hl2 Hw;have hr:=run_append_grow (P:=P) (w:=w) t o.type e i z hu hi hz sb n cp old g1 g2 ad m cpx ys hl mb gQ (by omega) (growslice_fits gQ Mr);have he:(old.toArray++ys.toArray++Builtin.zeroCells z.cells (grownCap w (n+m) cp e-(n+m)))=((old++ys)++(Builtin.zeroCells z.cells (grownCap w (n+m) cp e-(n+m))).toList).toArray:=by
  apply Array.ext'; simp
 rw [he] at hr;refine⟨grownCap w (n+m) cp e,(Builtin.zeroCells z.cells (grownCap w (n+m) cp e-(n+m))).toList,w.drew.alloc (.cells ((old++ys)++(Builtin.zeroCells z.cells (grownCap w (n+m) cp e-(n+m))).toList).toArray e),?_,grownCap_ge w (n+m) cp e,by rw [Array.length_toList,size_zeroCells,B5,dI hi],fun k=>rfl,by simp,rfl,rfl,rfl⟩
 simp only [execOp,ho,resolve,bZ];simp [ha,ht,invoke,builtin,e1,e2,hr]
variable {P:Program} {N:Nat} {w0:World} {F:Fm} {H:List aT} {Vs V V0:aa} {ρ:Nat->Nat × Nat} {a:Act} {w:World}
def want (ops:Array Oper) (F:Fm):Option (Nat × Bool)->Option Bool
 | none=>some true
 | some (j,b)=>match (ops[j]?).bind (·.dst) with
  | some d=>match F d with
   | some (.v (.bool c))=>some (c == b)
   | some (.v (.tuple _))=>some false
   | _=>none
  | none=>none
theorem bg (h:Sat P N w0.heap.size F H V ρ a w) {ops:Array Oper} {o:Oper} {g:Bool} (hw:want ops F o.guard=some g):Region.wanted o (yielded ops a.tmps)=g:=by
 unfold Region.wanted;unfold want at hw;split at hw
 ·rename_i hg
  simp at hw;subst hw;rw [hg]
 rename_i j b hg;rw [hg];simp only;split at hw
 ·rename_i d hd
  split at hw
  ·rename_i c hF
   simp at hw;subst hw;have:=h.slot d _ _ hF rfl;simp only [yielded,hd,Option.bind_some,this];cases c <;> cases b <;> rfl
  ·rename_i vs hF
   simp at hw;subst hw;have:=h.slot d _ _ hF rfl;simp only [yielded,hd,Option.bind_some,this]
   rfl
  cases hw
 cases hw
def eJ (H:List aT) (F:Fm):List Operand->Option (List Value)
 | []=>some []
 | x :: r=>match ev H F x,eJ H F r with
  | some (.v y),some l=>some (y :: l)
  | _,_=>none
theorem mN (h:Sat P N w0.heap.size F H V ρ a w):∀ {l:List Operand} {l':List Value},eJ H F l=some l'->l.map a.eval=l'
 | [],l',hl=>by simp [eJ] at hl; subst hl; rfl
 | x :: r,l',hl=>by
  simp only [eJ] at hl;split at hl
  ·rename_i y l'' hx hr
   simp at hl;subst hl;simp [h.eval hx rfl,mN h hr]
  cases hl
inductive sU where
 | mk (t:TypeId)
 | lk (t:TypeId) (x k:Value) (ok:Bool)
 | up (t:TypeId) (m k x:Value)
 | del (ts:Array TypeId) (t:TypeId) (m k:Value)
 | cv (src dst:TypeId) (x:Value)
 | as (x:Value) (xt t:TypeId) (ok:Bool)
def sU.ye:sU->Sem Value
 | .mk t=>Instr.makeMap t none
 | .lk t x k ok=>Instr.lookup t x k ok
 | .up t m k x=>do Instr.mapUpdate t m k x; pure undef
 | .del ts t m k=>Builtin.delete_ ts t #[m,k]
 | .cv src dst x=>convert src dst x
 | .as x xt t ok=>Instr.typeAssert x xt t ok
def oW (H:List aT) (F:Fm) (o:Oper):Option sU:=match o.op with
 | .makeMap t none=>some (.mk t)
 | .lookup t x k ok=>match ev H F x,ev H F k with
  | some (.v a),some (.v b)=>some (.lk t a b ok)
  | _,_=>none
 | .mapUpdate t m k x=>match ev H F m,ev H F k,ev H F x with
  | some (.v a),some (.v b),some (.v c)=>some (.up t a b c)
  | _,_,_=>none
 | .insert t m k x=>match ev H F m,ev H F k,ev H F x with
  | some (.v a),some (.v b),some (.v c)=>some (.up t a b c)
  | _,_,_=>none
 | .call c=>match c.callee,c.args.toList with
  | .builtin .delete,[m,k]=>match ev H F m,ev H F k with
   | some (.v a),some (.v b)=>some (.del c.argTypes o.type a b)
   | _,_=>none
  | _,_=>none
 | .convert src dst x=>match ev H F x with
  | some (.v a)=>some (.cv src dst a)
  | _=>none
 | .typeAssert x xt t ok=>match ev H F x with
  | some (.v a)=>some (.as a xt t ok)
  | _=>none
 | _=>none
def sV (P:Program) (V:aa) (m:Sem Value) (K:aa->Value->Prop):Prop :=
 ∀ w,V.on w->∃ y w' V',m.run P w=.ok y w'/\Fr V V' w w'/\V'.on w'/\K V' y
theorem sV.mono {m:Sem Value} {K K':aa->Value->Prop} (h:sV P V m K) (hk:∀ V' r,K V' r->K' V' r):sV P V m K':=fun w hw=>by
 obtain⟨y,w',V',h1,h2,h3,h4⟩:=h w hw;exact⟨y,w',V',h1,h2,h3,hk _ _ h4⟩
theorem QT {B:Nat} (h:Sat P N B F H V ρ a w) {o:Oper} {m:sU} (hm:oW H F o=some m) {y:Value} {w':World} (hr:m.ye.run P w=.ok y w') :
  (execOp a.eval o).run P w=.ok (.value y) w'\/((execOp a.eval o).run P w=.ok .skip w'/\y=undef):=by
 unfold oW at hm;split at hm
 ·rename_i t ho
  simp only [Option.some.injEq] at hm;subst hm;left
  simp only [sU.ye] at hr;simp [execOp,ho,hr]
 ·rename_i t x k ok ho
  split at hm
  ·rename_i u v hx hk
   simp only [Option.some.injEq] at hm;subst hm;left
   simp only [sU.ye] at hr;have e1:=h.eval hx rfl;have e2:=h.eval hk rfl;simp [execOp,ho,e1,e2,hr]
  cases hm
 ·rename_i t m' k x ho
  split at hm
  ·rename_i u v z hm' hk hx
   simp only [Option.some.injEq] at hm;subst hm;right
   simp only [sU.ye,Sem.run_bind] at hr;have e1:=h.eval hm' rfl;have e2:=h.eval hk rfl;have e3:=h.eval hx rfl;simp only [execOp,ho,e1,e2,e3,Sem.run_bind];cases hq:(Instr.mapUpdate t u v z).run P w with
   | ok q w2 =>
    rw [hq] at hr;simp at hr ⊢;exact⟨hr.2,hr.1.symm⟩
   | _=>rw [hq] at hr; simp at hr
  cases hm
 ·rename_i t m' k x ho
  split at hm
  ·rename_i u v z hm' hk hx
   simp only [Option.some.injEq] at hm;subst hm;right
   simp only [sU.ye,Sem.run_bind] at hr;have e1:=h.eval hm' rfl;have e2:=h.eval hk rfl;have e3:=h.eval hx rfl;simp only [execOp,ho,e1,e2,e3,Sem.run_bind];cases hq:(Instr.mapUpdate t u v z).run P w with
   | ok q w2 =>
    rw [hq] at hr;simp at hr ⊢;exact⟨hr.2,hr.1.symm⟩
   | _=>rw [hq] at hr; simp at hr
  cases hm
 ·rename_i c ho
  split at hm
  ·rename_i m' k hc ha
   split at hm
   ·rename_i u v hm' hk
    simp only [Option.some.injEq] at hm;subst hm;left
    have sW:c.args=#[m',k]:=by rw [<- ha]
    have e1:=h.eval hm' rfl;have e2:=h.eval hk rfl;simp only [sU.ye] at hr;simp only [execOp,ho,resolve,hc];simp [sW,invoke,builtin,e1,e2,hr]
   cases hm
  cases hm
 ·rename_i src dst x ho
  split at hm
  ·rename_i u hx
   simp only [Option.some.injEq] at hm;subst hm;left
   simp only [sU.ye] at hr;have e1:=h.eval hx rfl;simp [execOp,ho,e1,hr]
  cases hm
 ·rename_i x xt t ok ho
  split at hm
  ·rename_i u hx
   simp only [Option.some.injEq] at hm;subst hm;left
   simp only [sU.ye] at hr;have e1:=h.eval hx rfl;simp [execOp,ho,e1,hr]
  cases hm
 cases hm
def pv (c:Call):Option Operand:=match c.callee with | .value f=>some f | .invoke r _=>some r | .builtin _=>none
def WZ (P:Program) (c:Call) (x:Value):Option (FuncId × Array Value × Array Value):=match c.callee,x with
 | .value _,.func (.func g) fs cs=>some (g,fs,cs)
 | .invoke _ m,.iface t v=>match prun P (method (P.types.size+Made.depth) t v m) with
  | some (g,r)=>some (g,#[r],#[])
  | none=>none
 | _,_=>none
def Cal (P:Program) (c:Call) (H:List aT) (F:Fm) (g:FuncId) (fs cs:Array Value):Prop :=
 ∃ f x,pv c=some f/\ev H F f=some (.v x)/\WZ P c x=some (g,fs,cs)
theorem Cal.congr {P:Program} {c:Call} {H H':List aT} {F F':Fm} {g:FuncId} {fs cs:Array Value} (h:Cal P c H F g fs cs) (he:∀ f,pv c=some f->ev H' F' f=ev H F f):Cal P c H' F' g fs cs:=by
 obtain⟨f,x,h1,h2,h3⟩:=h;exact⟨f,x,h1,by rw [he f h1]; exact h2,h3⟩
theorem qm {c:Call} {f:Operand} (h:pv c=some f):f∈c.operands:=by
 unfold pv at h;unfold Call.operands;split at h
 ·rename_i hc; cases h; simp [hc]
 ·rename_i hc; cases h; simp [hc]
 cases h
theorem Cal.nobi {P:Program} {c:Call} {H:List aT} {F:Fm} {g:FuncId} {fs cs:Array Value} (h:Cal P c H F g fs cs) (b:Builtin):c.callee≠.builtin b:=by
 obtain⟨f,x,h1,_⟩:=h;intro e;simp [pv,e] at h1
def kt (o:Oper):Bool:=match o.op with | .alloc _=>true | _=>false
def rsvB (d:Nat):aT:=.f (.tuple #[.int .u64 (Int.ofNat d)])
def iD (d:Nat):aT->Bool
 | .f (.tuple ⟨[.int _ (Int.ofNat n)]⟩)=>Nat.beq n d
 | _=>false
def wV (d:Nat):Nat->List aT->Option Nat
 | _,[]=>none
 | i,b :: r=>match iD d b with | true=>some i | false=>wV d (i+1) r
def QU (d:Nat) (H:List aT):Option Nat:=wV d 0 H
def o6 (o:Oper):Bool:=match o.op with | .mapUpdate ..=>true | .insert ..=>true | _=>false
def cn (o:Oper):Bool:=match o.op with | .load ..=>true | .convert ..=>true | .call c=>(match c.callee with | .builtin .append=>true | _=>false) | _=>false
def vF (acc:List Nat) (o:Oper):Nat:=o.after.toList.foldl (fun s e=>if Region.binds .any e then s ||| 2 ^ e.on ||| acc.getD e.on 0 else s) 0
def ji (l:List Oper):List Nat:=l.foldl (fun acc o=>acc++[vF acc o]) []
def QV (m i:Nat):Nat->List Oper->Bool
 | _,[]=>true
 | j,o :: r=>(!cn o || Nat.beq j i || (Nat.blt j i && m.testBit j)) && QV m i (j+1) r
def HE (ops:Array Oper) (i:Nat):Bool:=QV ((ji ops.toList).getD i 0) i 0 ops.toList
theorem yV {m i:Nat}:∀ {l:List Oper} {j:Nat},QV m i j l=true->∀ (k:Nat) (o:Oper),l[k]?=some o->j+k≠i->cn o=false\/(j+k<i/\m.testBit (j+k)=true)
 | [],_,_,k,o,hk,_=>by simp at hk
 | o' :: r,j,h,k,o,hk,bR=>by
  simp only [QV,Bool.and_eq_true] at h;cases k with
  | zero =>
   simp at hk;subst hk;have h1:=h.1;simp only [Bool.or_eq_true,Bool.not_eq_true',Bool.and_eq_true,Nat.blt_eq,Nat.add_zero] at h1 bR ⊢;rcases h1 with (h1 | h1) | h1
   ·exact .inl h1
   ·exact absurd (Nat.eq_of_beq_eq_true h1) bR
   exact .inr h1
  | succ k =>
   have:=yV h.2 k o (by simpa using hk) (by omega)
   rwa [show j+1+k=j+(k+1) from by omega] at this
theorem Ss {ops:Array Oper} {i:Nat} (h:HE ops i=true) (k:Nat) (o:Oper) (hk:ops[k]?=some o) (bR:k≠i):cn o=false\/(k<i/\((ji ops.toList).getD i 0).testBit k=true):=by
 have:=yV h k o (by simpa using hk) (by omega);simpa using this
inductive R (P:Program) (ops:Array Oper) (dr:Bool) (V0:aa) (K:Kt):List Nat->Fm->List aT->aa->Prop
 | nil {F:Fm} {H:List aT} {V:aa}:K F H V->R P ops dr V0 K [] F H V
 | skip {i r o} {F:Fm} {H:List aT} {V:aa}:ops[i]?=some o->want ops F o.guard=some false->R P ops dr V0 K r (au F o.dst (.v undef)) H V->R P ops dr V0 K (i :: r) F H V
 | bP {i r o s} {F:Fm} {H:List aT} {V:aa}:ops[i]?=some o->want ops F o.guard=some true->ph o.op=false->(dr=true->kP ops o=false)->bP P (if dr then V0 else V) H F o=some s ->
   R P ops dr V0 K r (au F o.dst s) H V->R P ops dr V0 K (i :: r) F H V
 | call {i r o c g fs cs l} {F:Fm} {H:List aT} {V:aa} (Q:aa->Value->Prop):ops[i]?=some o->want ops F o.guard=some true->o.op=.call c ->
   Cal P c H F g fs cs->eJ H F c.args.toList=some l->ae P V g (fs.toList++l++cs.toList) Q ->
   (∀ V' y,Q V' y->dr=true->(V.le V'\/V0.le V')\/HE ops i=true)->(∀ V' y,Q V' y->(∃ w,V'.on w)->R P ops dr V0 K r (au F o.dst (.v y)) H V')->R P ops dr V0 K (i :: r) F H V
 | B6 {i r o } {F:Fm} {H:List aT} {V:aa} {F':Fm} {H':List aT} {V':aa}:ops[i]?=some o->want ops F o.guard=some true->Eff P o F H V F' H' V'->(dr=true->kt o=false)->R P ops dr V0 K r F' H' V'->R P ops dr V0 K (i :: r) F H V
 | LY {i r o t z d k} {F:Fm} {H:List aT} {V:aa}:dr=true->ops[i]?=some o->want ops F o.guard=some true->o.op=.alloc t->zeroOf P t=some z->o.dst=some d->QU d H=some k ->
   R P ops dr V0 K r (au F o.dst (.p k 0)) (H.set k (.c (z.map .v) t)) V->R P ops dr V0 K (i :: r) F H V
 | mk {i r o } {F:Fm} {H:List aT} {V:aa} {F':Fm} {H':List aT} {V':aa}:ops[i]?=some o->want ops F o.guard=some true->(dr=true->kP ops o=false)->Mk P o F H V F' H' V'->R P ops dr V0 K r F' H' V'->R P ops dr V0 K (i :: r) F H V
 | al {i r o} {F:Fm} {H:List aT} {V:aa} (d:AlD):dr=true->ops[i]?=some o->want ops F o.guard=some true->kP ops o=true->lX P V0 H F o=some d ->
   (∀ y,d.z=some y->R P ops dr V0 K r (au F o.dst (.v y)) H V) ->
   (d.z=none->∀ b cap spare,V b=none->d.n<=cap->WJ P d cap spare->(∃ w,(aB V b (d.ys++spare,(d.t,(0,0)))).on w) ->
    R P ops dr V0 K r (au F o.dst (.v (.slice (some ⟨b,0,none⟩) d.n cap))) H (aB V b (d.ys++spare,(d.t,(0,0)))))->R P ops dr V0 K (i :: r) F H V
 | aki {i r o c s x t e i' b n cp sx ys cs m} {F:Fm} {H:List aT} {V:aa}:(dr=true->kP ops o=false/\∀ k∈r,∀ ok,ops[k]?=some ok->cn ok=false)->ops[i]?=some o->want ops F o.guard=some true->o.op=.call c->c.callee=.builtin .append->c.args.toList=[s,x]->c.argTypes.toList=[t,t] ->
   P.underlying t=some (.slice e)->P.info? e=some i'->ev H F s=some (.v (.slice (some ⟨b,0,none⟩) n cp))->ev H F x=some sx->Src H V i'.size sx ys m->one ys=true->0<m->n+m<=cp->V b=some (cs,(e,(0,0)))->(n+m)*i'.size<=cs.length ->
   R P ops dr V0 K r (au F o.dst (.v (.slice (some ⟨b,0,none⟩) (n+m) cp))) H (aB V b (aX cs (n*i'.size) ys,(e,(0,0))))->R P ops dr V0 K (i :: r) F H V
 | akg {i r o c s x t e i' z sa n cp sx ys old m} {F:Fm} {H:List aT} {V:aa}:(dr=true->kP ops o=false)->ops[i]?=some o->want ops F o.guard=some true->o.op=.call c->c.callee=.builtin .append->c.args.toList=[s,x]->c.argTypes.toList=[t,t] ->
   P.underlying t=some (.slice e)->P.info? e=some i'->i'.zero=some z->z.cells.size=i'.size->ev H F s=some (.v (.slice sa n cp))->ev H F x=some sx->Src H V i'.size sx ys m->0<m->cp<n+m->(n+m)*i'.bytes<=140737488355328->n+m<=9223372036854775807 ->
   ((sa=none/\n=0/\cp=0/\old=[])\/∃ ad,sa=some ad/\aQ V ad (n*i'.size)=some old)->fA old=true ->
   (∀ b cap spare,V b=none->n+m<=cap->spare.length=(cap-(n+m))*P.cellsOf e->R P ops dr V0 K r (au F o.dst (.v (.slice (some ⟨b,0,none⟩) (n+m) cap))) H (aB V b ((old++ys)++spare,(e,(0,0)))))->R P ops dr V0 K (i :: r) F H V
 | mo {i r o m} {F:Fm} {H:List aT} {V:aa} (Q:aa->Value->Prop):(dr=true->o6 o=true/\∀ k∈r,∀ ok,ops[k]?=some ok->cn ok=false)->ops[i]?=some o->want ops F o.guard=some true->oW H F o=some m->sV P V m.ye Q ->
   (∀ V' y,Q V' y->(∃ w,V'.on w)->R P ops dr V0 K r (au F o.dst (.v y)) H V')->R P ops dr V0 K (i :: r) F H V
 | LZ {l j n xs t} {F:Fm} {H:List aT} {V:aa}:dr=false->H[j]?=some (.a n xs t) ->
   (∀ b cap spare,V b=none->n<=cap->spare.length=(cap-n)*P.cellsOf t->R P ops dr V0 K l F (H.set j (.f (.slice (some ⟨b,0,none⟩) n cap))) (aB V b (xs++spare,(t,(0,0)))))->R P ops dr V0 K l F H V
 | L9 {l j cs t x} {F:Fm} {H:List aT} {V:aa}:dr=false->H[j]?=some (.c cs t)->iB (cs.map (res H))=some x ->
   (∀ b,V b=none->R P ops dr V0 K l F (H.set j (.e b)) (aB V b (x,(t,(0,0)))))->R P ops dr V0 K l F H V
theorem Sat.call {V':aa} {w':World} (h:Sat P N w0.heap.size F H V ρ a w) (hf:Fr V V' w w') (hV:V'.on w'):Sat P N w0.heap.size F H V' ρ a w' :=
 ⟨h.defers,h.size,h.slot,fun i b hb=>(h.box i b hb).of_heap rfl (fun hl=>hf.j9 _ (h.yo i b hb hl) (h.priv i b hb hl)),h.inj,h.base,
  fun i b hb hl=>hf.dom _ (h.yo i b hb hl) (h.priv i b hb hl),hV,h.wfF,h.wfH⟩
theorem Sat.shut (h:Sat P N w0.heap.size F H V ρ a w) {j:Nat} {b b':aT} (hb:H[j]?=some b) (hl:b.live=true) (BZ:b'.live=false)
  (rz:∀ s,cv ρ (H.set j b') s=cv ρ H s\/cv ρ (H.set j b') s=none) (cs:List Value) (t:TypeId) (hh:w.heap[(ρ j).1]?=some (.cells cs.toArray t (0,0))) :
  Sat P N w0.heap.size F (H.set j b') (aB V (ρ j).1 (cs,(t,(0,0)))) ρ a w:=by
 have hcv':∀ s x,cv ρ (H.set j b') s=some x->cv ρ H s=some x:=by
  intro s x hx;rcases rz s with e | e
  ·rw [<- e]; exact hx
  rw [e] at hx; cases hx
 have aN:=(List.getElem?_eq_some_iff.1 hb).1;have key:∀ (k:Nat) (c:aT),(H.set j b')[k]?=some c->c.live=true->H[k]?=some c/\k≠j:=by
  intro k c hc eG;rw [List.getElem?_set] at hc
  by_cases e:j=k
  ·subst e
   simp [aN] at hc;subst hc;rw [BZ] at eG; cases eG
  simp [e] at hc; exact⟨hc,fun h=>e h.symm⟩
 refine⟨h.defers,h.size,fun t s x hF hx=>h.slot t s x hF (hcv' s x hx),?_,?_,?_,?_,?_,?_,?_⟩
 ·intro k c hc
  by_cases eG:c.live=true
  ·exact(h.box k c (key k c hc eG).1).Hz rfl (fun _ _ _ s _=>rz s) (fun _=>rfl)
  cases c <;> first | trivial | (exact(eG rfl).elim)
 ·intro k m c d hc hd eG B3 he
  exact h.inj k m c d (key k c hc eG).1 (key m d hd B3).1 eG B3 he
 ·intro k c hc eG; exact h.base k c (key k c hc eG).1 eG
 ·intro k c hc eG
  obtain⟨h1,h2⟩:=key k c hc eG;simp only [aB];rw [if_neg (fun e=>h2 (h.inj k j c b h1 hb eG hl e))];exact h.priv k c h1 eG
 ·intro k c u hk
  simp only [aB] at hk;split at hk
  ·rename_i e
   subst e;simp at hk;obtain⟨rfl,rfl⟩:=hk;rw [gJ]; exact hh
  exact h.know k c u hk
 ·intro t s hF; simpa using h.wfF t s hF
 intro k c u hk s hs;have:=(key k _ hk rfl).1;simpa using h.wfH k c u this s hs
theorem Fr.shut (hF:Fr Vs V w0 w) {b:Nat} (hb:w0.heap.size<=b) (x:List Value × vn):Fr Vs (aB V b x) w0 w :=
 ⟨hF.os,hF.tape,hF.output,hF.size,hF.j9,fun k hk hn=>by simp only [aB]; rw [if_neg (by omega)]; exact hF.dom k hk hn⟩
theorem cv_frz {j:Nat} {n:Nat} {xs:List Value} {t:TypeId} (hj:H[j]?=some (.a n xs t)) (s:SV) :
  cv ρ (H.set j (.f (.slice (some ⟨(ρ j).1,0,none⟩) n (ρ j).2))) s=cv ρ H s\/cv ρ (H.set j (.f (.slice (some ⟨(ρ j).1,0,none⟩) n (ρ j).2))) s=none:=by
 have aN:=(List.getElem?_eq_some_iff.1 hj).1;cases s with
 | v x=>exact .inl rfl
 | k b=>exact .inl rfl
 | p i off =>
  simp only [cv,List.getElem?_set]
  by_cases e:j=i
  ·subst e; simp [aN]
  simp [e]
 | o i =>
  simp only [cv,List.getElem?_set]
  by_cases e:j=i
  ·subst e; rw [if_pos rfl,if_pos aN,hj]; exact .inl rfl
  simp [e]
theorem cv_esc {j:Nat} {cs:List SV} {t:TypeId} (hj:H[j]?=some (.c cs t)) (s:SV):cv ρ (H.set j (.e (ρ j).1)) s=cv ρ H s\/cv ρ (H.set j (.e (ρ j).1)) s=none:=by
 have aN:=(List.getElem?_eq_some_iff.1 hj).1;cases s with
 | v x=>exact .inl rfl
 | k b=>exact .inl rfl
 | p i off =>
  simp only [cv,List.getElem?_set]
  by_cases e:j=i
  ·subst e; rw [if_pos rfl,if_pos aN,hj]; exact .inl rfl
  simp [e]
 | o i =>
  simp only [cv,List.getElem?_set]
  by_cases e:j=i
  ·subst e; rw [if_pos rfl,if_pos aN,hj]; exact .inl rfl
  simp [e]
theorem Sat.LZ (h:Sat P N w0.heap.size F H V ρ a w) (hF:Fr Vs V w0 w) {j n:Nat} {xs:List Value} {t:TypeId} (hj:H[j]?=some (.a n xs t)) :
  ∃ b cap spare,V b=none/\n<=cap/\spare.length=(cap-n)*P.cellsOf t/\Sat P N w0.heap.size F (H.set j (.f (.slice (some ⟨b,0,none⟩) n cap))) (aB V b (xs++spare,(t,(0,0)))) ρ a w/\Fr Vs (aB V b (xs++spare,(t,(0,0)))) w0 w:=by
 have fB:=h.box j _ hj;obtain⟨h1,h2⟩:=fB;rcases h2 with ⟨h2,_⟩ | ⟨g,cap,cur,hv,hb,hg,hn,hm,hs,HC⟩
 ·cases h2
 simp only [Value.slice.injEq,Option.some.injEq,Addr.mk.injEq] at hv;obtain⟨⟨rfl,_⟩,_,rfl⟩:=hv;have pq:cur=(xs++cur.toList.drop (n*P.cellsOf t)).toArray:=by rw [<- HC,List.take_append_drop]
 refine⟨(ρ j).1,(ρ j).2,cur.toList.drop (n*P.cellsOf t),h.priv j _ hj rfl,hn,by rw [List.length_drop,Array.length_toList,hs,Nat.sub_mul],?_,hF.shut (h.base j _ hj rfl) _⟩
 exact h.shut hj rfl rfl (cv_frz hj) _ t (by rw [<- pq]; exact hg)
theorem yf {H:List aT}:∀ {cs:List SV} {x:List Value},iB (cs.map (res H))=some x->x.length=cs.length/\∀ (j:Nat) y,x[j]?=some y->∃ s,cs[j]?=some s/\res H s=.v y:=by
 intro cs x h;obtain⟨h1,h2⟩:=pj h;refine⟨by simpa using h1,fun j y hy=>?_⟩
 have:=h2 j y hy;simpa using this
theorem Sat.L9 (h:Sat P N w0.heap.size F H V ρ a w) (hF:Fr Vs V w0 w) {j:Nat} {cs:List SV} {t:TypeId} {x:List Value} (hj:H[j]?=some (.c cs t)) (hx:iB (cs.map (res H))=some x) :
  ∃ b,V b=none/\Sat P N w0.heap.size F (H.set j (.e b)) (aB V b (x,(t,(0,0)))) ρ a w/\Fr Vs (aB V b (x,(t,(0,0)))) w0 w:=by
 obtain⟨cells,g1,g2,g3⟩:=h.box j _ hj;obtain⟨p1,p2⟩:=yf hx;have hc:cells=x:=by
  apply List.ext_getElem?
  intro k
  by_cases hk:k<x.length
  ·obtain⟨s,hs,hr⟩:=p2 k x[k] (by simp [hk])
   have:=g3 k s x[k] hs (EG (by rw [hr]; rfl))
   rw [this];simp [hk]
  rw [List.getElem?_eq_none (by omega),List.getElem?_eq_none (by omega)]
 subst hc;exact⟨(ρ j).1,h.priv j _ hj rfl,h.shut hj rfl rfl (cv_esc hj) cells t g1,hF.shut (h.base j _ hj rfl) _⟩
theorem HF (h:Sat P N w0.heap.size F H V ρ a w) {o:Oper} {c:Call} {g:FuncId} {fs cs:Array Value} (ho:o.op=.call c) (hc:Cal P c H F g fs cs) (he:Enters P g) :
  (execOp a.eval o).run P w=.ok (.enter g (fs++c.args.map a.eval++cs)) w:=by
 obtain⟨f,x,hf,hx,hv⟩:=hc;have mK:=h.eval hx rfl;obtain⟨fn,h1,h2,h3⟩:=he;have WL : ¬ fn.name = "runtime.NumGoroutine" := by simpa using h3
 have B7:fn.body≠none:=fun e=>by rw [e] at h2; cases h2
 unfold pv at hf;unfold WZ at hv;split at hf
 ·rename_i f' hc
  cases hf
  rw [hc] at hv;split at hv
  ·rename_i Ms; cases Ms
   rename_i fs' iw; cases hv
   simp [execOp,ho,resolve,hc,mK,Deferred.ofValue,invoke,callFunc,h1,B7,WL]
  ·rename_i Ms; cases Ms
  cases hv
 ·rename_i r m hc
  cases hf
  rw [hc] at hv;split at hv
  ·rename_i Ms; cases Ms
  ·rename_i m' t v Ms
   cases Ms
   split at hv
   ·rename_i g' r' hp
    cases hv
    have WK:=aZ hp w;have e0:((#[Value.iface t v]:Array Value)++c.args.map a.eval)[0]?=some (.iface t v):=by
     rw [Array.getElem?_append_left (by simp)]; rfl
    simp [execOp,ho,resolve,hc,mK,invoke,callMethod,callFunc,h1,B7,WL,WK,e0];have e2:(c.args.map a.eval).extract 0 c.args.size=c.args.map a.eval:=by
     apply Array.ext'; rw [Array.toList_extract]; simp only [Array.toList_map,List.extract,List.drop_zero,Nat.sub_zero]; exact List.take_of_length_le (by simp)
    rw [e2]
   cases hv
  cases hv
 cases hf
theorem R.sound {ops:Array Oper} {K:Kt} {l:List Nat} (hr:R P ops false V0 K l F H V) (hN:∀ (i:Nat) (o:Oper) (d:Nat),ops[i]?=some o->o.dst=some d->d<N)
  {Q:Exit->Act->World->Prop} (hQ:∀ F H V ρ a w,Sat P N w0.heap.size F H V ρ a w->Fr Vs V w0 w->K F H V->Q .normal a w) :
  ∀ ρ a w,Sat P N w0.heap.size F H V ρ a w->Fr Vs V w0 w->wpOps P ops Q l a w:=by
 generalize hdr:false=dr at hr
 induction hr with
 | nil hk=>intro ρ a w h hF; exact hQ _ _ _ _ _ _ h hF hk
 | skip ho hw _ ih =>
  intro ρ a w h hF;simp only [wpOps,ho,bg h hw];exact ih ρ _ w (h.put (s:=.v undef) (fun d hd=>hN _ _ d ho hd) trivial (fun x hx=>by simp [cv] at hx; exact hx.symm)) hF
 | bP ho hw bY _ hs _ ih =>
  intro ρ a w h hF;subst hdr;simp only [Bool.false_eq_true,if_false] at hs;obtain⟨y,hy,yQ⟩:=gZ h h.know bY hs;simp only [wpOps,ho,bg h hw,if_true];left
  simp only [Oper.wp,hy,Oper.upon_value];exact ih ρ _ w (h.put (fun d hd=>hN _ _ d ho hd) (pk h hs) yQ) hF
 | call Q' ho hw dm bZ hl hc k1 k2 ih =>
  rename_i i r o c g fs cs l F H V;intro ρ a w h hF;simp only [wpOps,ho,bg h hw,if_true];left
  have BZ:=mN h hl;have cJ:=HF h dm bZ hc.1;simp only [Oper.wp,cJ,Oper.upon_enter];have fY:(fs++c.args.map a.eval++cs)=(fs.toList++l++cs.toList).toArray:=by
   rw [<- BZ];apply Array.ext'
   simp
  rw [fY];refine(hc.2 w h.know).mono ?_
  rintro e w' ⟨V',y,rfl,sK,eO,hq⟩;exact ih V' y hq ⟨w',eO⟩ ρ _ w' ((h.call sK eO).put (s:=.v y) (fun d hd=>hN _ _ d ho hd) trivial (fun x hx=>by simp [cv] at hx; exact hx.symm)) (hF.trans sK)
 | LY hd=>subst hdr; cases hd
 | B6 ho hw he _ _ ih =>
  intro ρ a w h hF;obtain⟨y,ρ',w',cJ,hS,sL⟩:=vB he h hF (fun d hd=>hN _ _ d ho hd);simp only [wpOps,ho,bg h hw,if_true];left
  rcases cJ with cJ | ⟨cJ,rfl⟩
  ·simp only [Oper.wp,cJ,Oper.upon_value]
   exact ih ρ' _ w' hS sL
  simp only [Oper.wp,cJ,Oper.upon_skip];exact ih ρ' _ w' hS sL
 | al d hd ho hw hx ha k1 k2 ih1 ih2=>subst hdr; cases hd
 | aki _ ho hw dm bZ ha ht hu hi hs hx eI h1 hm hr hv dY _ ih =>
  intro ρ a w h hF;obtain⟨w',cJ,hS,sL⟩:=CE h hF dm bZ ha ht hu hi hs hx eI h1 hm hr hv dY;simp only [wpOps,ho,bg h hw,if_true];left
  simp only [Oper.wp,cJ,Oper.upon_value];exact ih ρ _ w' (hS.put (s:=.v _) (fun d hd=>hN _ _ d ho hd) trivial (fun x hx=>by simp [cv] at hx; exact hx.symm)) sL
 | mo Q' _ ho hw hm hs _ ih =>
  intro ρ a w h hF;obtain⟨y,w',V',cJ,sK,eO,hq⟩:=hs w h.know;simp only [wpOps,ho,bg h hw,if_true];left
  have HG:=ih V' y hq ⟨w',eO⟩ ρ _ w' ((h.call sK eO).put (s:=.v y) (fun d hd=>hN _ _ d ho hd) trivial (fun x hx=>by simp [cv] at hx; exact hx.symm)) (hF.trans sK)
  rcases QT h hm cJ with W9 | ⟨W9,hu⟩
  ·simp only [Oper.wp,W9,Oper.upon_value]
   exact HG
  subst hu;simp only [Oper.wp,W9,Oper.upon_skip];exact HG
 | akg _ ho hw dm bZ ha ht hu hi hz B5 hs hx eI hm hr Mr jT hold Hw _ ih =>
  intro ρ a w h hF;obtain⟨cap,spare,w',cJ,dd,oV,q1,q2,q3,q4,q5⟩:=CF h dm bZ ha ht hu hi hz B5 hs hx eI hm hr Mr jT hold Hw;simp only [wpOps,ho,bg h hw,if_true];left
  simp only [Oper.wp,cJ,Oper.upon_value];obtain⟨sK,eO⟩:=h.alloc rfl q1 q2 q3 q4 q5;exact ih _ cap spare h.know.fI dd oV ρ _ w' ((h.call sK eO).put (s:=.v _) (fun d hd=>hN _ _ d ho hd) trivial (fun x hx=>by simp [cv] at hx; exact hx.symm)) (hF.trans sK)
 | mk ho hw _ he _ ih =>
  intro ρ a w h hF;obtain⟨y,ρ',w',cJ,hS,sL⟩:=sP he h hF (fun d hd=>hN _ _ d ho hd);simp only [wpOps,ho,bg h hw,if_true];left
  simp only [Oper.wp,cJ,Oper.upon_value];exact ih ρ' _ w' hS sL
 | LZ _ hj _ ih =>
  intro ρ a w h hF;obtain⟨b,cap,spare,h1,h2,h5,h3,h4⟩:=h.LZ hF hj;exact ih b cap spare h1 h2 h5 ρ a w h3 h4
 | L9 _ hj hx _ ih =>
  intro ρ a w h hF;obtain⟨b,h1,h3,h4⟩:=h.L9 hF hj hx;exact ih b h1 ρ a w h3 h4
variable {P:Program} {N:Nat} {w0:World} {F:Fm} {H:List aT} {Vs V V0:aa} {ρ:Nat->Nat × Nat} {a:Act} {w:World}
def kind (o:Oper):Nat:=match o.op with
 | .box ..=>2
 | .alloc _=>2
 | .store ..=>2
 | .buildSlice ..=>2
 | .makeSlice ..=>2
 | .mapUpdate ..=>2
 | .insert ..=>2
 | .call c=>match c.callee with
  | .value _=>1
  | .invoke ..=>1
  | .builtin .len=>0
  | .builtin .min=>0
  | .builtin .max=>0
  | _=>2
 | _=>0
theorem Eff.kind {o:Oper} {F':Fm} {H':List aT} {V':aa} (h:Eff P o F H V F' H' V'):kind o=2:=by
 cases h <;> simp [Sx.kind, *]
theorem Mk.kind {o:Oper} {F':Fm} {H':List aT} {V':aa} (h:Mk P o F H V F' H' V'):kind o=2:=by
 cases h <;> simp [Sx.kind, *]
theorem Xa {F':Fm} {x:Operand} (h:∀ t,x=.tmp t->F t=F' t):ev H F x=ev H F' x:=by
 cases x with
 | tmp t=>simp only [ev,h t rfl]
 | _=>rfl
theorem pw {F':Fm}:∀ {l:List Operand},(∀ x∈l,ev H F x=ev H F' x)->bA H F l=bA H F' l
 | [],_=>rfl
 | x :: r,h=>by
  simp only [bA,h x (by simp),pw (l:=r) (fun y hy=>h y (by simp [hy]))]
theorem ka {F':Fm} {o:Oper} (bY:ph o.op=false) (h:∀ x∈o.op.operands,ev H F x=ev H F' x):aJ P H F o=aJ P H F' o:=by
 unfold aJ;rw [pw (F':=F') (fun x hx=>h x (by simpa using hx))];rw [execOp_congr o (ρ:=cD H F) (ρ':=cD H F') (fun cs b hc=>by rw [hc] at bY; cases bY) (fun x hx=>by simp only [cD,h x hx])]
theorem cX {F':Fm} {o:Oper} (bY:ph o.op=false) (h:∀ x∈o.op.operands,ev H F x=ev H F' x):bP P V H F o=bP P V H F' o:=by
 unfold bP;split
 ·rename_i x ho; exact h x (by simp [ho,Op.operands])
 ·rename_i x ho; exact h x (by simp [ho,Op.operands])
 ·rename_i c x y ho
  rw [h c (by simp [ho,Op.operands]),h x (by simp [ho,Op.operands]),h y (by simp [ho,Op.operands])]
 ·rename_i t x k ho; rw [h x (by simp [ho,Op.operands])]
 ·rename_i t x i ho; rw [h x (by simp [ho,Op.operands]),h i (by simp [ho,Op.operands])]
 ·rename_i t x ho; rw [h x (by simp [ho,Op.operands])]
 ·rename_i c ho
  rw [ka (P:=P) (F':=F') bY h];split
  ·rename_i x t hl ha ht
   have:x∈c.args:=by rw [<- Array.mem_toList_iff,ha]; simp
   rw [h x (by simp [ho,Op.operands,Call.operands,this])]
  rfl
 ·rename_i src dst x ho
  rw [h x (by simp [ho,Op.operands]),ka (P:=P) (F':=F') bY h]
 exact ka bY h
theorem me {V1:aa} {o:Oper} (h:cn o=false):bP P V H F o=bP P V1 H F o:=by
 unfold bP;split <;> first | rfl | (rename_i ho; simp [cn,ho] at h)
theorem dB {ops:Array Oper} {F':Fm} {o:Oper} (h:∀ t∈o.looksAt ops,F t=F' t):∀ x∈o.op.operands,ev H F x=ev H F' x:=by
 intro x hx;refine Xa (fun t ht=>h t ?_)
 subst ht;simp only [Oper.looksAt,List.mem_append,List.mem_filterMap];exact .inl ⟨.tmp t,by simpa using hx,rfl⟩
theorem bw {ops:Array Oper} {F':Fm} {o:Oper} (h:∀ t∈o.looksAt ops,F t=F' t):want ops F o.guard=want ops F' o.guard:=by
 unfold want;split
 ·rfl
 rename_i j b hg;split
 ·rename_i d hd
  rw [h d (by simp [Oper.looksAt,hg,hd])]
 rfl
theorem eS {F':Fm}:∀ {l:List Operand},(∀ x∈l,ev H F x=ev H F' x)->eJ H F l=eJ H F' l
 | [],_=>rfl
 | x :: r,h=>by
  simp only [eJ,h x (by simp),eS (l:=r) (fun y hy=>h y (by simp [hy]))]
theorem dh {d:Option Tmp} {s:SV} {t:Nat} (h:d≠some t):au F d s t=F t:=by
 cases d with
 | none=>rfl
 | some d =>
  simp only [au,nX];rw [if_neg (fun e=>h (by rw [e]))]
theorem mZ {d e:Option Tmp} {s u:SV} (h:∀ t,d=some t->e≠some t):au (au F d s) e u=au (au F e u) d s:=by
 cases d with
 | none=>rfl
 | some d =>
  cases e with
  | none=>rfl
  | some e =>
   have bR:e≠d:=fun he=>h d rfl (by rw [he])
   funext t
   simp only [au,nX]
   by_cases h1:t=e
   ·subst h1; simp [bR]
   simp [h1]
theorem HH {V1:aa} {o:Oper} (h:cn o=false):lX P V H F o=lX P V1 H F o:=by
 unfold lX;split
 ·rfl
 ·rename_i c ho
  split
  ·rename_i s x t t' bZ _ _
   simp [cn,ho,bZ] at h
  rfl
 rfl
def cR (ops:Array Oper) (o:Oper):Nat:=match kP ops o with | true=>3 | false=>kind o
theorem Eff.notX {ops:Array Oper} {o:Oper} {F':Fm} {H':List aT} {V':aa} (h:Eff P o F H V F' H' V'):kP ops o=false:=by
 cases h <;> simp [kP,yT, *]
theorem mf {ops:Array Oper} {o:Oper} {F':Fm} {H':List aT} {V':aa} (h:Eff P o F H V F' H' V'\/(kP ops o=false/\Mk P o F H V F' H' V')):cR ops o=2:=by
 unfold cR;rcases h with h | ⟨h1,h⟩
 ·rw [h.notX]; exact h.kind
 rw [h1]; exact h.kind
theorem ie {ops:Array Oper} {o:Oper} {c:Call} {g:FuncId} {fs cs:Array Value} (h:o.op=.call c) (hc:Cal P c H F g fs cs):cR ops o=1:=by
 have:kP ops o=false:=by
  unfold kP yT;rw [h];cases o.dst with
  | none=>rfl
  | some d =>
   simp only;split
   ·rename_i e _; exact(hc.nobi _ e).elim
   rfl
 unfold cR;rw [this];obtain⟨f,x,h1,_⟩:=hc;cases he:c.callee with
 | value=>simp [kind,h,he]
 | invoke=>simp [kind,h,he]
 | builtin=>simp [pv,he] at h1
theorem sX {ops:Array Oper} {o:Oper} (h:kP ops o=true):cR ops o=3:=by unfold cR; rw [h]
inductive AkS (P:Program) (o:Oper) (F:Fm) (H:List aT) (V:aa) (nl:Prop) (K:Value->aa->Prop):Prop
 | i {c s x t e i' b n cp sx ys cs m}:nl->o.op=.call c->c.callee=.builtin .append->c.args.toList=[s,x]->c.argTypes.toList=[t,t] ->
   P.underlying t=some (.slice e)->P.info? e=some i'->ev H F s=some (.v (.slice (some ⟨b,0,none⟩) n cp))->ev H F x=some sx->Src H V i'.size sx ys m->one ys=true->0<m->n+m<=cp->V b=some (cs,(e,(0,0)))->(n+m)*i'.size<=cs.length ->
   K (.slice (some ⟨b,0,none⟩) (n+m) cp) (aB V b (aX cs (n*i'.size) ys,(e,(0,0))))->AkS P o F H V nl K
 | g {c s x t e i' z sa n cp sx ys old m}:o.op=.call c->c.callee=.builtin .append->c.args.toList=[s,x]->c.argTypes.toList=[t,t] ->
   P.underlying t=some (.slice e)->P.info? e=some i'->i'.zero=some z->z.cells.size=i'.size->ev H F s=some (.v (.slice sa n cp))->ev H F x=some sx->Src H V i'.size sx ys m->0<m->cp<n+m->(n+m)*i'.bytes<=140737488355328->n+m<=9223372036854775807 ->
   ((sa=none/\n=0/\cp=0/\old=[])\/∃ ad,sa=some ad/\aQ V ad (n*i'.size)=some old)->fA old=true ->
   (∀ b cap spare,V b=none->n+m<=cap->spare.length=(cap-(n+m))*P.cellsOf e->K (.slice (some ⟨b,0,none⟩) (n+m) cap) (aB V b ((old++ys)++spare,(e,(0,0)))))->AkS P o F H V nl K
 | m {m} (Q:aa->Value->Prop):nl->o6 o=true->oW H F o=some m->sV P V m.ye Q->(∀ V' y,Q V' y->(∃ w,V'.on w)->K y V')->AkS P o F H V nl K
theorem HI {o:Oper} {nl:Prop} {K:Value->aa->Prop} (h:Sat P N w0.heap.size F H V ρ a w) (hF:Fr Vs V w0 w) (hk:AkS P o F H V nl K) :
  ∃ y w' V',((execOp a.eval o).run P w=.ok (.value y) w'\/((execOp a.eval o).run P w=.ok .skip w'/\y=undef))/\Sat P N w0.heap.size F H V' ρ a w'/\Fr Vs V' w0 w'/\K y V'/\(V.le V'\/nl):=by
 cases hk with
 | i hn dm bZ ha ht hu hi hs hx eI h1 hm hr hv dY hk =>
  obtain⟨w',cJ,hS,sL⟩:=CE h hF dm bZ ha ht hu hi hs hx eI h1 hm hr hv dY;exact⟨_,w',_,.inl cJ,hS,sL,hk,.inr hn⟩
 | g dm bZ ha ht hu hi hz B5 hs hx eI hm hr Mr jT hold Hw hk =>
  obtain⟨cap,spare,w',cJ,dd,oV,q1,q2,q3,q4,q5⟩:=CF h dm bZ ha ht hu hi hz B5 hs hx eI hm hr Mr jT hold Hw;obtain⟨sK,eO⟩:=h.alloc rfl q1 q2 q3 q4 q5;exact⟨_,w',_,.inl cJ,h.call sK eO,hF.trans sK,hk _ cap spare h.know.fI dd oV,.inl (yU h.know.fI)⟩
 | m Q hn _ hm hs hk =>
  obtain⟨y,w',V',cJ,sK,eO,hq⟩:=hs w h.know;exact⟨y,w',V',QT h hm cJ,h.call sK eO,hF.trans sK,hk V' y hq ⟨w',eO⟩,.inr hn⟩
theorem yp {ops:Array Oper} {o:Oper} (h:o6 o=true):cR ops o=2:=by
 unfold o6 at h;split at h
 ·rename_i ho
  have:kP ops o=false:=by
   unfold kP yT;rw [ho];cases o.dst <;> rfl
  unfold cR;rw [this];simp [kind,ho]
 ·rename_i ho
  have:kP ops o=false:=by
   unfold kP yT;rw [ho];cases o.dst <;> rfl
  unfold cR;rw [this];simp [kind,ho]
 cases h
theorem ku {ops:Array Oper} {o:Oper} {c:Call} (h:o.op=.call c) (hc:c.callee=.builtin .append) (hx:kP ops o=false):cR ops o=2:=by
 unfold cR;rw [hx];simp [kind,h,hc]
def Out (P:Program) (ops:Array Oper) (V0:aa) (K:Kt) (A C:List Nat) (i:Nat) (F:Fm) (H:List aT) (V:aa):Prop :=
 ∃ o,ops[i]?=some o /\
  ((want ops F o.guard=some false/\R P ops true V0 K (A++C) (au F o.dst (.v undef)) H V) \/
   (want ops F o.guard=some true/\ph o.op=false/\kP ops o=false/\∃ s,bP P V0 H F o=some s/\R P ops true V0 K (A++C) (au F o.dst s) H V) \/
   (want ops F o.guard=some true/\∃ c g fs cs l Q,o.op=.call c/\Cal P c H F g fs cs/\eJ H F c.args.toList=some l /\
    ae P V g (fs.toList++l++cs.toList) Q/\∀ V' y,Q V' y->((V.le V'\/V0.le V')\/HE ops i=true)/\((∃ w,V'.on w)->R P ops true V0 K (A++C) (au F o.dst (.v y)) H V')) \/
   (A=[]/\want ops F o.guard=some true/\cR ops o=2/\((∃ F' H' V',(Eff P o F H V F' H' V'\/(kP ops o=false/\Mk P o F H V F' H' V'))/\R P ops true V0 K C F' H' V') \/
    AkS P o F H V (∀ k∈C,∀ ok,ops[k]?=some ok->cn ok=false) (fun y V'=>R P ops true V0 K C (au F o.dst (.v y)) H V'))) \/
   (want ops F o.guard=some true/\kP ops o=true/\∃ d,lX P V0 H F o=some d/\(∀ y,d.z=some y->R P ops true V0 K (A++C) (au F o.dst (.v y)) H V) /\
    (d.z=none->∀ b cap spare,V b=none->d.n<=cap->WJ P d cap spare->(∃ w,(aB V b (d.ys++spare,(d.t,(0,0)))).on w) ->
     R P ops true V0 K (A++C) (au F o.dst (.v (.slice (some ⟨b,0,none⟩) d.n cap))) H (aB V b (d.ys++spare,(d.t,(0,0)))))))
def free (ops:Array Oper) (j i:Nat):Prop :=
 ∃ oj oi,ops[j]?=some oj/\ops[i]?=some oi/\oj.apart ops oi=true/\cR ops oj≠2/\cR ops oi≠2/\(cR ops oj=0\/cR ops oi=0\/(cR ops oj=3/\cR ops oi=3)\/(cR ops oj=1/\cR ops oi=3))
theorem ae.some (h:∃ w,V.on w) {g:FuncId} {args:List Value} {Q:aa->Value->Prop} (hc:ae P V g args Q):∃ V' y,Q V' y/\∃ w,V'.on w:=by
 obtain⟨w,hw⟩:=h;obtain⟨e,w',fr,⟨V',r,_,_,eO,hq⟩,_⟩:=hc.2 w hw [];exact⟨V',r,hq,w',eO⟩
theorem isAl_of {o:Oper} {t:TypeId} (h:o.op=.alloc t):kt o=true:=by simp [kt,h]
theorem HJ {ops:Array Oper} {o:Oper} {t:TypeId} (h:o.op=.alloc t):cR ops o=2:=by
 have:kP ops o=false:=by
  unfold kP yT;rw [h];cases o.dst <;> rfl
 unfold cR;rw [this];simp [kind,h]
theorem ae.more {b:Nat} {x:List Value × vn} {g:FuncId} {args:List Value} {Q:aa->Value->Prop} (hb:V b=none) (hc:ae P V g args Q) :
  ae P (aB V b x) g args (fun Ma r=>∃ V',Q V' r/\V' b=none/\Ma=aB V' b x):=by
 refine⟨hc.1,fun w hw=>?_⟩
 have hbx:(aB V b x) b=.some x:=by simp [aB]
 have hw1:=hw b x.1 x.2 hbx;have Sp:b<w.heap.size:=(Array.getElem?_eq_some_iff.1 hw1).1;have hV:V.on w:=fun k c t hk=>hw k c t (by
  simp only [aB];rw [if_neg (fun e=>by rw [e,hb] at hk; cases hk)]
  exact hk)
 refine(hc.2 w hV).mono ?_
 rintro e w' ⟨V',r,he,hf,eO,hq⟩;have gx:=hf.dom b Sp hb;have off:∀ {U:aa} {k:Nat},(aB U b x) k=none->k≠b/\U k=none:=by
  intro U k hk;simp only [aB] at hk;split at hk
  ·cases hk
  exact⟨‹_›,hk⟩
 refine⟨aB V' b x,r,he,⟨hf.os,hf.tape,hf.output,hf.size,fun k hk hn=>hf.j9 k hk (off hn).2,fun k hk hn=>?_⟩,fun k c t hk=>?_,V',hq,gx,rfl⟩
 ·simp only [aB]
  rw [if_neg (off hn).1];exact hf.dom k hk (off hn).2
 simp only [aB] at hk;split at hk
 ·rename_i e
  subst e;cases hk
  rw [hf.j9 _ Sp hb];exact hw1
 exact eO k c t hk
theorem pull {ops:Array Oper} {K:Kt} {i:Nat} {C:List Nat} (hna:∀ o,ops[i]?=some o->kt o=false):∀ {A:List Nat} {F:Fm} {V:aa},R P ops true V0 K (A++i :: C) F H V->(∃ w,V.on w)->(∀ j∈A,free ops j i) ->
  Out P ops V0 K A C i F H V
 | [],F,V,h,_,_=>by
  cases h with
  | skip ho hw hr=>exact⟨_,ho,.inl ⟨hw,hr⟩⟩
  | bP ho hw bY hx hs hr=>exact⟨_,ho,.inr (.inl ⟨hw,bY,hx rfl,_,by simpa using hs,hr⟩)⟩
  | call Q ho hw dm bZ hl hc k1 k2=>exact⟨_,ho,.inr (.inr (.inl ⟨hw,_,_,_,_,_,Q,dm,bZ,hl,hc,fun V' y hq=>⟨k1 V' y hq rfl,k2 V' y hq⟩⟩))⟩
  | B6 ho hw he _ hr=>exact⟨_,ho,.inr (.inr (.inr (.inl ⟨rfl,hw,mf (.inl he),.inl ⟨_,_,_,.inl he,hr⟩⟩)))⟩
  | LY _ ho _ dm=>have:=hna _ ho; rw [isAl_of dm] at this; cases this
  | mk ho hw hx he hr=>exact⟨_,ho,.inr (.inr (.inr (.inl ⟨rfl,hw,mf (.inr ⟨hx rfl,he⟩),.inl ⟨_,_,_,.inr ⟨hx rfl,he⟩,hr⟩⟩)))⟩
  | al d _ ho hw hx ha k1 k2=>exact⟨_,ho,.inr (.inr (.inr (.inr ⟨hw,hx,d,ha,k1,k2⟩)))⟩
  | LZ hd _ _=>cases hd
  | L9 hd _ _ _=>cases hd
  | aki hd ho hw dm bZ ha ht hu hi hs hx eI h1 hm hr hv dY hk=>exact⟨_,ho,.inr (.inr (.inr (.inl ⟨rfl,hw,ku dm bZ (hd rfl).1,.inr (.i (hd rfl).2 dm bZ ha ht hu hi hs hx eI h1 hm hr hv dY hk)⟩)))⟩
  | akg hd ho hw dm bZ ha ht hu hi hz B5 hs hx eI hm hr Mr jT hold Hw hk=>exact⟨_,ho,.inr (.inr (.inr (.inl ⟨rfl,hw,ku dm bZ (hd rfl),.inr (.g dm bZ ha ht hu hi hz B5 hs hx eI hm hr Mr jT hold Hw hk)⟩)))⟩
  | mo Q hd ho hw hm hs hk=>exact⟨_,ho,.inr (.inr (.inr (.inl ⟨rfl,hw,yp (hd rfl).1,.inr (.m Q (hd rfl).2 (hd rfl).1 hm hs hk)⟩)))⟩
 | j :: A,F,V,h,hV,ig=>by
  obtain⟨oj,oi,eh,fU,Xb,kv,Mt,hk⟩:=ig j (by simp);obtain⟨p1,p2,p3⟩:=Oper.apart_spec Xb;have eM:∀ j∈A,free ops j i:=fun k hk=>ig k (by simp [hk])
  -- what i reads is the same before and behind j; what j reads is the same before and behind i
  have li:∀ (F:Fm) s,∀ t∈oi.looksAt ops,au F oj.dst s t=F t:=fun F s t ht=>dh (fun e=>p1 t e ht)
  have lj:∀ (F:Fm) s,∀ t∈oj.looksAt ops,au F oi.dst s t=F t:=fun F s t ht=>dh (fun e=>p3 t e ht)
  have wi:∀ (F:Fm) s,want ops (au F oj.dst s) oi.guard=want ops F oi.guard:=fun F s=>bw (li F s)
  have wj:∀ (F:Fm) s,want ops (au F oi.dst s) oj.guard=want ops F oj.guard:=fun F s=>bw (lj F s)
  have ei:∀ (F:Fm) s,∀ x∈oi.op.operands,ev H (au F oj.dst s) x=ev H F x:=fun F s=>dB (li F s)
  have ej:∀ (F:Fm) s,∀ x∈oj.op.operands,ev H (au F oi.dst s) x=ev H F x:=fun F s=>dB (lj F s)
  have comm:∀ (F:Fm) s u,au (au F oj.dst s) oi.dst u=au (au F oi.dst u) oj.dst s:=fun F s u=>mZ (fun t ht e=>p2 t ht e)
  -- a step of j that leaves memory alone: with what it puts into its slot
  have quiet:∀ (sj:SV),(∀ (G:Fm),(∀ t∈oj.looksAt ops,G t=F t)->∀ V1 L,R P ops true V0 K L (au G oj.dst sj) H V1->R P ops true V0 K (j :: L) G H V1) ->
    Out P ops V0 K A C i (au F oj.dst sj) H V->cR ops oi≠2->Out P ops V0 K (j :: A) C i F H V:=by
   intro sj step rA Mt;obtain⟨o,ho,px⟩:=rA;rw [fU] at ho;cases ho
   refine⟨oi,fU,?_⟩
   rcases px with ⟨hw,hr⟩ | ⟨hw,bY,hx,s,hs,hr⟩ | ⟨hw,c,g,fs,cs,l,Q,h1,h2,h4,h5,h6⟩ | ⟨_,_,he,_⟩ | ⟨hw,hx,d,ha,k1,k2⟩
   ·rw [wi] at hw
    rw [comm] at hr;exact .inl ⟨hw,step _ (lj F _) V (A++C) hr⟩
   ·rw [wi] at hw
    rw [comm] at hr;rw [cX bY (ei F sj)] at hs;exact .inr (.inl ⟨hw,bY,hx,s,hs,step _ (lj F _) V (A++C) hr⟩)
   ·rw [wi] at hw
    have lY:∀ x∈c.args.toList,ev H (au F oj.dst sj) x=ev H F x:=fun x hx=>ei F sj x (by simp only [h1,Op.operands,Call.operands,Array.mem_append]; exact .inr (by simpa using hx))
    replace h2:Cal P c H F g fs cs:=h2.congr fun f hf=>(ei F sj f (by simp only [h1,Op.operands]; exact qm hf)).symm
    rw [eS lY] at h4;refine .inr (.inr (.inl ⟨hw,c,g,fs,cs,l,Q,h1,h2,h4,h5,fun V' y hq=>⟨(h6 V' y hq).1,fun eO=>?_⟩⟩))
    have:=(h6 V' y hq).2 eO;rw [comm] at this;exact step _ (lj F _) V' (A++C) this
   ·exact(Mt he).elim
   rw [wi] at hw;rw [fZ (ei F sj)] at ha;refine .inr (.inr (.inr (.inr ⟨hw,hx,d,ha,fun y hy=>?_,fun hz b cap spare hb hc he sM=>?_⟩)))
   ·have:=k1 y hy
    rw [comm] at this;exact step _ (lj F _) V (A++C) this
   have:=k2 hz b cap spare hb hc he sM;rw [comm] at this;exact step _ (lj F _) _ (A++C) this
  cases h with
  | skip ho hw hr =>
   rw [eh] at ho; cases ho
   exact quiet (.v undef) (fun G hG V1 L hr=>.skip eh (by rw [bw hG]; exact hw) hr) (pull hna hr hV eM) Mt
  | @bP _ _ o s _ _ _ ho hw bY hx hs hr =>
   rw [eh] at ho; cases ho
   refine quiet s (fun G hG V1 L hr=>.bP eh (by rw [bw hG]; exact hw) bY hx ?_ hr) (pull hna hr hV eM) Mt
   simp only [if_true] at hs ⊢;rw [cX bY (dB hG)];exact hs
  | call Q ho hw dm bZ hl hc k1 k2 =>
   rw [eh] at ho; cases ho
   have Mb:cR ops oj=1:=ie dm bZ;have hki0:cR ops oi=0\/cR ops oi=3:=by rcases hk with h0 | h0 | h0 | h0 <;> omega
   obtain⟨V1,y1,QW,hw1⟩:=hc.some hV;have lY:∀ u,∀ x∈_,ev H (au F oi.dst u) x=ev H F x:=fun u x hx=>ej F u x (by simp only [dm,Op.operands,Call.operands,Array.mem_append]; exact .inr (Array.mem_toList_iff.1 hx))
   -- the call,from any state that agrees with F where it looks
   have step:∀ u,(∀ V' y,Q V' y->(∃ w,V'.on w)->R P ops true V0 K (A++C) (au (au F oi.dst u) oj.dst (.v y)) H V')->R P ops true V0 K (j :: (A++C)) (au F oi.dst u) H V:=by
    intro u hr;refine .call Q eh (by rw [wj]; exact hw) dm (bZ.congr fun f hf=>ej F u f (by simp only [dm,Op.operands]; exact qm hf)) ?_ hc (fun V' y hq _=>k1 V' y hq rfl) hr
    rw [eS (lY u)]; exact hl
   have all:∀ V' y,Q V' y->(∃ w,V'.on w)->Out P ops V0 K A C i (au F oj.dst (.v y)) H V':=fun V' y hq eO=>pull hna (k2 V' y hq eO) eO eM
   obtain⟨o,ho,px⟩:=all V1 y1 QW hw1;rw [fU] at ho; cases ho
   refine⟨oi,fU,?_⟩
   rcases px with ⟨jU,_⟩ | ⟨jU,bY,Su,s,hs,_⟩ | ⟨_,c',_,_,_,_,_,h1,h2,_⟩ | ⟨_,_,he,_⟩ | ⟨jU,hx,d,ha,_,_⟩
   ·rw [wi] at jU
    refine .inl ⟨jU,step _ (fun V' y hq eO=>?_)⟩
    obtain⟨o',pc,lq⟩:=all V' y hq eO;rw [fU] at pc; cases pc
    rcases lq with ⟨_,hr⟩ | ⟨gf,_⟩ | ⟨gf,_⟩ | ⟨_,gf,_⟩ | ⟨gf,_⟩
    ·rw [<- comm]; exact hr
    all_goals (rw [wi,jU] at gf; cases gf)
   ·rw [wi] at jU
    rw [cX bY (ei F _)] at hs;refine .inr (.inl ⟨jU,bY,Su,s,hs,step _ (fun V' y hq eO=>?_)⟩)
    obtain⟨o',pc,lq⟩:=all V' y hq eO;rw [fU] at pc; cases pc
    rcases lq with ⟨gf,_⟩ | ⟨_,_,_,s',CB,hr⟩ | ⟨_,c',_,_,_,_,_,h1,h2,_⟩ | ⟨_,_,he,_⟩ | ⟨_,hx,_⟩
    ·rw [wi,jU] at gf; cases gf
    ·rw [cX bY (ei F _),hs] at CB
     cases CB
     rw [<- comm]; exact hr
    ·have:=ie (ops:=ops) h1 h2; omega
    ·omega
    rw [Su] at hx; cases hx
   ·have:=ie (ops:=ops) h1 h2; omega
   ·omega
   rw [wi] at jU;rw [fZ (ei F _)] at ha;have same:∀ V' y,Q V' y->(∃ w,V'.on w)->(∀ z,d.z=some z->R P ops true V0 K (A++C) (au (au F oj.dst (.v y)) oi.dst (.v z)) H V') /\
     (d.z=none->∀ b cap spare,V' b=none->d.n<=cap->WJ P d cap spare->(∃ w,(aB V' b (d.ys++spare,(d.t,(0,0)))).on w) ->
      R P ops true V0 K (A++C) (au (au F oj.dst (.v y)) oi.dst (.v (.slice (some ⟨b,0,none⟩) d.n cap))) H (aB V' b (d.ys++spare,(d.t,(0,0))))):=by
    intro V' y hq eO;obtain⟨o',pc,lq⟩:=all V' y hq eO;rw [fU] at pc; cases pc
    rcases lq with ⟨gf,_⟩ | ⟨_,_,Su,_⟩ | ⟨_,c',_,_,_,_,_,h1,h2,_⟩ | ⟨_,_,he,_⟩ | ⟨_,_,d',sW,q1,q2⟩
    ·rw [wi,jU] at gf; cases gf
    ·rw [Su] at hx; cases hx
    ·have:=ie (ops:=ops) h1 h2; have:=sX hx; omega
    ·have:=sX hx; omega
    rw [fZ (ei F _),ha] at sW;cases sW
    exact⟨q1,q2⟩
   refine .inr (.inr (.inr (.inr ⟨jU,hx,d,ha,fun z hz=>step _ (fun V' y hq eO=>?_),fun hz b cap spare hb hcp he sM=>?_⟩)))
   ·rw [<- comm]; exact(same V' y hq eO).1 z hz
   refine .call _ eh (by rw [wj]; exact hw) dm (bZ.congr fun f hf=>ej F _ f (by simp only [dm,Op.operands]; exact qm hf)) ?_ (hc.more (x:=(d.ys++spare,(d.t,(0,0)))) hb) (fun Ma y hq _=>?_) (fun Ma y hq hV''=>?_)
   ·rw [eS (lY _)]; exact hl
   ·obtain⟨V',hq,gx,rfl⟩:=hq
    rcases k1 V' y hq rfl with (hle | hle) | yq
    ·left
     left
     intro k z hk;simp only [aB] at hk ⊢;split at hk
     ·rename_i e; rw [if_pos e]; exact hk
     rename_i e; rw [if_neg e]; exact hle k z hk
    ·left
     right
     intro k z hk;simp only [aB];split
     ·rename_i e
      have:=hle k z hk;rw [e,gx] at this;cases this
     exact hle k z hk
    exact .inr yq
   obtain⟨V',hq,gx,rfl⟩:=hq;have eO:∃ w,V'.on w:=by
    obtain⟨w,hw⟩:=hV'';exact⟨w,fun k c t hk=>hw k c t (by
     simp only [aB];rw [if_neg (fun e=>by rw [e,gx] at hk; cases hk)]
     exact hk)⟩
   rw [<- comm]; exact(same V' y hq eO).2 hz b cap spare gx hcp he hV''
  | al d _ ho hw hx ha k1 k2 =>
   rw [eh] at ho; cases ho
   have Mb:cR ops oj=3:=sX hx;have haj:∀ G:Fm,(∀ t∈oj.looksAt ops,G t=F t)->lX P V0 H G oj=some d:=fun G hG=>by rw [fZ (dB hG)]; exact ha
   cases hz:d.z with
   | some y =>
    refine quiet (.v y) (fun G hG V1 L hr=>.al d rfl eh (by rw [bw hG]; exact hw) hx (haj G hG) (fun y' Mc=>?_) (fun h=>by rw [hz] at h; cases h)) (pull hna (k1 y hz) hV eM) Mt
    rw [hz] at Mc; cases Mc; exact hr
   | none =>
    have step:∀ u V1,(∀ b cap spare,V1 b=none->d.n<=cap->WJ P d cap spare->(∃ w,(aB V1 b (d.ys++spare,(d.t,(0,0)))).on w) ->
      R P ops true V0 K (A++C) (au (au F oi.dst u) oj.dst (.v (.slice (some ⟨b,0,none⟩) d.n cap))) H (aB V1 b (d.ys++spare,(d.t,(0,0)))))->R P ops true V0 K (j :: (A++C)) (au F oi.dst u) H V1 :=
     fun u V1 hr=>.al d rfl eh (by rw [wj]; exact hw) hx (haj _ (lj F u)) (fun y h=>by rw [hz] at h; cases h) (fun _=>hr)
    have all:∀ b cap spare,V b=none->d.n<=cap->WJ P d cap spare->(∃ w,(aB V b (d.ys++spare,(d.t,(0,0)))).on w) ->
      Out P ops V0 K A C i (au F oj.dst (.v (.slice (some ⟨b,0,none⟩) d.n cap))) H (aB V b (d.ys++spare,(d.t,(0,0)))) :=
     fun b cap spare hb hc he sM=>pull hna (k2 hz b cap spare hb hc he sM) sM eM
    obtain⟨b0,vq,hon0⟩:=CD hV (d.ys++[]) d.t;obtain⟨o,ho,px⟩:=all b0 d.n [] vq (Nat.le_refl _) ⟨fun _=>⟨rfl,rfl⟩,by simp⟩ hon0;rw [fU] at ho; cases ho
    refine⟨oi,fU,?_⟩
    rcases px with ⟨jU,_⟩ | ⟨jU,bY,Su,s,hs,_⟩ | ⟨_,c',_,_,_,_,_,h1,h2,_⟩ | ⟨_,_,he,_⟩ | ⟨jU,hxi,di,hai,_,_⟩
    ·rw [wi] at jU
     refine .inl ⟨jU,step _ V (fun b cap spare hb hc he sM=>?_)⟩
     obtain⟨o',pc,lq⟩:=all b cap spare hb hc he sM;rw [fU] at pc; cases pc
     rcases lq with ⟨_,hr⟩ | ⟨gf,_⟩ | ⟨gf,_⟩ | ⟨_,gf,_⟩ | ⟨gf,_⟩
     ·rw [<- comm]; exact hr
     all_goals (rw [wi,jU] at gf; cases gf)
    ·rw [wi] at jU
     rw [cX bY (ei F _)] at hs;refine .inr (.inl ⟨jU,bY,Su,s,hs,step _ V (fun b cap spare hb hc he sM=>?_)⟩)
     obtain⟨o',pc,lq⟩:=all b cap spare hb hc he sM;rw [fU] at pc; cases pc
     rcases lq with ⟨gf,_⟩ | ⟨_,_,_,s',CB,hr⟩ | ⟨_,c',_,_,_,_,_,h1,h2,_⟩ | ⟨_,_,he,_⟩ | ⟨_,hxi,di,hai,_,_⟩
     ·rw [wi,jU] at gf; cases gf
     ·rw [cX bY (ei F _),hs] at CB
      cases CB
      rw [<- comm]; exact hr
     ·have:=ie (ops:=ops) h1 h2; omega
     ·omega
     rw [Su] at hxi; cases hxi
    ·have:=ie (ops:=ops) h1 h2; omega
    ·omega
    rw [wi] at jU;rw [fZ (ei F _)] at hai;have same:∀ b cap spare,V b=none->d.n<=cap->WJ P d cap spare->(∃ w,(aB V b (d.ys++spare,(d.t,(0,0)))).on w) ->
      (∀ y,di.z=some y->R P ops true V0 K (A++C) (au (au F oj.dst (.v (.slice (some ⟨b,0,none⟩) d.n cap))) oi.dst (.v y)) H (aB V b (d.ys++spare,(d.t,(0,0))))) /\
      (di.z=none->∀ b' B4 Mu,(aB V b (d.ys++spare,(d.t,(0,0)))) b'=none->di.n<=B4->WJ P di B4 Mu->(∃ w,(aB (aB V b (d.ys++spare,(d.t,(0,0)))) b' (di.ys++Mu,(di.t,(0,0)))).on w) ->
       R P ops true V0 K (A++C) (au (au F oj.dst (.v (.slice (some ⟨b,0,none⟩) d.n cap))) oi.dst (.v (.slice (some ⟨b',0,none⟩) di.n B4))) H (aB (aB V b (d.ys++spare,(d.t,(0,0)))) b' (di.ys++Mu,(di.t,(0,0))))):=by
     intro b cap spare hb hc he sM;obtain⟨o',pc,lq⟩:=all b cap spare hb hc he sM;rw [fU] at pc; cases pc
     rcases lq with ⟨gf,_⟩ | ⟨_,bY,Su,s',CB,hr⟩ | ⟨_,c',_,_,_,_,_,h1,h2,_⟩ | ⟨_,_,he,_⟩ | ⟨_,_,di',hai',q1,q2⟩
     ·rw [wi,jU] at gf; cases gf
     ·rw [Su] at hxi; cases hxi
     ·have:=ie (ops:=ops) h1 h2
      have:=sX hxi;omega
     ·omega
     rw [fZ (ei F _),hai] at hai';cases hai'
     exact⟨q1,q2⟩
    refine .inr (.inr (.inr (.inr ⟨jU,hxi,di,hai,fun y hy=>step _ V (fun b cap spare hb hc he sM=>?_),fun hzi bi ci si hbi hci hei honi=>step _ _ (fun b cap spare hb hc he sM=>?_)⟩)))
    ·have:=(same b cap spare hb hc he sM).1 y hy
     rwa [comm] at this
    have bR:bi≠b:=by
     intro e;subst e;simp [aB] at hb
    have gx:V b=none:=by
     simp only [aB] at hb
     rwa [if_neg (Ne.symm bR)] at hb
    obtain⟨w,sM⟩:=sM;have hon1:(aB V b (d.ys++spare,(d.t,(0,0)))).on w:=sM.le (Sr hbi bR);have hbi':(aB V b (d.ys++spare,(d.t,(0,0)))) bi=none:=by
     simp only [aB]; rw [if_neg bR]; exact hbi
    have:=(same b cap spare gx hc he ⟨w,hon1⟩).2 hzi bi ci si hbi' hci hei ⟨w,by rw [vE (Ne.symm bR)]; exact sM⟩
    rw [comm,vE (Ne.symm bR)] at this;exact this
  | B6 ho _ he _ _=>rw [eh] at ho; cases ho; exact(kv (mf (.inl he))).elim
  | LY _ ho _ dm=>rw [eh] at ho; cases ho; exact(kv (HJ dm)).elim
  | mk ho _ hx he _=>rw [eh] at ho; cases ho; exact(kv (mf (.inr ⟨hx rfl,he⟩))).elim
  | LZ hd _ _=>cases hd
  | L9 hd _ _ _=>cases hd
  | aki hd ho _ dm bZ=>rw [eh] at ho; cases ho; exact(kv (ku dm bZ (hd rfl).1)).elim
  | akg hd ho _ dm bZ=>rw [eh] at ho; cases ho; exact(kv (ku dm bZ (hd rfl))).elim
  | mo Q hd ho=>rw [eh] at ho; cases ho; exact(kv (yp (hd rfl).1)).elim
variable {P:Program} {N:Nat} {w0:World} {F:Fm} {H:List aT} {Vs V V0:aa} {ρ:Nat->Nat × Nat} {a:Act} {w:World}
theorem QX {b:aT} {s:SV} (h:lW H.length s):res (H++[b]) s=res H s:=by
 cases s with
 | v x=>rfl
 | k b=>rfl
 | p i off=>have h:i<H.length:=h; simp only [res,List.getElem?_append_left h]
 | o i=>have h:i<H.length:=h; simp only [res,List.getElem?_append_left h]
theorem Mv (h:WfS F H) {b:aT} (x:Operand):ev (H++[b]) F x=ev H F x:=by
 cases x with
 | tmp t =>
  simp only [ev];cases hs:F t with
  | none=>rfl
  | some s=>simp only [QX (h.wfF t s hs)]
 | _=>rfl
theorem sY (h:WfS F H) {b:aT}:∀ l:List Operand,bA (H++[b]) F l=bA H F l
 | []=>rfl
 | x :: r=>by simp only [bA,Mv h,sY h r]
theorem B8 (h:WfS F H) {b:aT} (o:Oper):aJ P (H++[b]) F o=aJ P H F o:=by
 have he:cD (H++[b]) F=cD H F:=by funext x; simp only [cD,Mv h]
 unfold aJ;rw [sY h,he]
theorem Sv (h:WfS F H) {b:aT} {i off n:Nat} (hi:i<H.length):gF (H++[b]) i off n=gF H i off n:=by
 unfold gF;rw [List.getElem?_append_left hi];split
 ·rename_i cs t hb
  split
  ·rename_i l hl
   congr 1
   exact List.map_congr_left fun s hs=>QX (h.wfH i cs t hb s (sO hl hs))
  rfl
 ·rfl
 rfl
theorem idx_app {b:aT} {t:TypeId} {s n:SV} (hs:lW H.length s):idx P (H++[b]) t s n=idx P H t s n:=by
 cases s with
 | o j =>
  have hj:j<H.length:=hs;cases n with
  | v y=>cases y <;> first | rfl | (simp only [idx,List.getElem?_append_left hj])
  | _=>rfl
 | v x =>
  cases x with
  | slice a l c=>cases a <;> (cases n with | v y=>cases y <;> rfl | _=>rfl)
  | pointer a=>cases a <;> (cases n with | v y=>cases y <;> rfl | _=>rfl)
  | _=>rfl
 | k b=>rfl
 | p i off=>rfl
theorem Xc (h:WfS F H) {b:aT} (o:Oper):bP P V (H++[b]) F o=bP P V H F o:=by
 unfold bP;simp only [Mv h,B8 h];split
 ·rfl
 ·rfl
 ·rfl
 ·rename_i t x k ho
  cases hx:ev H F x with
  | none=>rfl
  | some s =>
   cases s with
   | p i off =>
    have hi:i<H.length:=h.k8 hx;have e:kZ (H++[b]) i=kZ H i:=by simp only [kZ,List.getElem?_append_left hi]
    rcases Ml P t k with _ | ⟨d,_ | n⟩
    ·rfl
    ·rfl
    simp only [e]
   | v y=>cases y with
    | pointer a=>cases a <;> rcases Ml P t k with _ | ⟨d,_ | n⟩ <;> rfl
    | _=>rcases Ml P t k with _ | ⟨d,_ | n⟩ <;> rfl
   | k c=>rcases Ml P t k with _ | ⟨d,_ | n⟩ <;> rfl
   | o c=>rcases Ml P t k with _ | ⟨d,_ | n⟩ <;> rfl
 ·rename_i t x i ho
  cases hx:ev H F x with
  | none=>rfl
  | some s =>
   cases hn:ev H F i with
   | none=>rfl
   | some n=>exact idx_app (h.k8 hx)
 ·rename_i t x ho
  cases hx:ev H F x with
  | none=>rfl
  | some s =>
   cases s with
   | p i off =>
    have hi:i<H.length:=h.k8 hx;cases bo P t with
    | none=>rfl
    | some n=>simp only [Sv h hi]
   | v y=>cases y with
    | pointer a=>cases a <;> cases bo P t <;> rfl
    | _=>cases bo P t <;> rfl
   | k c=>cases bo P t <;> rfl
   | o c=>cases bo P t <;> rfl
 ·rename_i c ho
  split
  ·rename_i x t hl ha ht
   cases hx:ev H F x with
   | none=>rfl
   | some s =>
    cases s with
    | o j =>
     have hj:j<H.length:=h.k8 hx;cases P.underlying t with
     | none=>rfl
     | some d=>cases d <;> first | rfl | (simp only [List.getElem?_append_left hj])
    | v y=>cases P.underlying t <;> rfl
    | k c=>cases P.underlying t <;> rfl
    | p c e=>cases P.underlying t <;> rfl
  rfl
 ·rfl
 rfl
theorem WfS.put (h:WfS F H) {d:Option Tmp} {s:SV} (hs:lW H.length s):WfS (au F d s) H:=by
 refine⟨fun t u hu=>?_,h.wfH⟩
 cases d with
 | none=>exact h.wfF t u hu
 | some d =>
  simp only [au,nX] at hu;split at hu
  ·cases hu; exact hs
  exact h.wfF t u hu
theorem nZ {α β:Type} (s:Sem α) (f:α->Sem β):prun P (s >>= f)=match prun P s with | some a=>prun P (f a) | none=>none:=by
 induction s with
 | pure a=>rfl
 | program k ih=>exact ih _
 | mark m k ih=>exact ih
 | _=>rfl
theorem HK (o:Obj):prun P (newObj o)=none:=rfl
theorem Mw {o:Oper} {t:TypeId} (h:o.op=.alloc t):bP P V H F o=none:=by
 have e:∀ ρ:Operand->Value,prun P (execOp ρ o)=none:=by
  intro ρ;simp only [execOp,h];have h1:∀ z,prun P (newVar t z)=none:=fun z=>by
   unfold newVar newRow;rw [nZ,HK]
  have h2:prun P (Instr.alloc t true (.tuple #[]))=none:=by
   unfold Instr.alloc;rw [nZ];split
   ·rename_i z _
    show prun P (newVar t z >>= fun a=>pure (Value.pointer (some a)))=none
    rw [nZ,h1]
   rfl
  show prun P (Instr.alloc t true (.tuple #[]) >>= fun a=>pure (Next.value a))=none
  rw [nZ,h2]
 simp only [bP,h,aJ,e];split <;> rfl
def nr (k:Nat):SV->Prop
 | .p i _=>i≠k
 | .o i=>i≠k
 | _=>True
structure rB (k:Nat) (F:Fm) (H:List aT):Prop where
 nF:∀ t s,F t=some s->nr k s
 nH:∀ (i:Nat) cs t,H[i]?=some (.c cs t)->∀ s∈cs,nr k s
theorem Xd {k:Nat} {s:SV} (h:nr k s):nr k (res H s):=by
 cases s with
 | v y=>exact h
 | k b=>exact h
 | p i off=>simp only [res]; split <;> first | exact h | trivial
 | o i=>simp only [res]; split <;> first | exact h | trivial
theorem rB.ev {k:Nat} (h:rB k F H) {x:Operand} {s:SV} (he:ev H F x=some s):nr k s:=by
 cases x with
 | tmp t =>
  simp only [Sx.ev] at he;split at he
  ·rename_i s' hs
   simp at he;subst he;exact Xd (h.nF t _ hs)
  cases he
 | const v=>simp [Sx.ev] at he; subst he; trivial
 | global g=>simp [Sx.ev] at he; subst he; trivial
 | func f=>simp [Sx.ev] at he; subst he; trivial
theorem ky {k:Nat} {o:Oper} {s:SV} (hs:aJ P H F o=some s):nr k s:=by
 unfold aJ at hs
 repeat' (split at hs)
 all_goals first | (simp at hs; done) | (simp at hs; subst hs; trivial)
theorem QY {k t:Nat} {l:List SV} {s:SV} (h:∀ u∈l,nr k u) (hj:join P t l=some s):nr k s:=by
 unfold join at hj;split at hj
 ·split at hj
  ·simp at hj; subst hj; trivial
  cases hj
 ·split at hj
  ·simp at hj; subst hj; exact h _ (by simp)
  cases hj
 cases hj
theorem qn {k:Nat} (h:rB k F H) {o:Oper} {s:SV} (hs:bP P V0 H F o=some s):nr k s:=by
 unfold bP at hs;split at hs
 ·exact h.ev hs
 ·exact h.ev hs
 ·split at hs
  ·exact h.ev hs
  ·exact h.ev hs
  cases hs
 ·split at hs
  ·rename_i i off d n hx hf
   split at hs
   ·simp at hs; subst hs; exact h.ev (s:=.p i off) hx
   cases hs
  ·simp at hs; subst hs; trivial
  cases hs
 ·split at hs
  ·rename_i sx si hx hi
   unfold idx at hs;split at hs
   ·split at hs
    ·rename_i hj he
     split at hs
     ·simp at hs; subst hs; exact h.ev (s:=.o _) hx
     cases hs
    cases hs
   ·repeat' (split at hs)
    all_goals first | (simp at hs; done) | (simp at hs; subst hs; trivial)
   ·repeat' (split at hs)
    all_goals first | (simp at hs; done) | (simp at hs; subst hs; trivial)
   cases hs
  cases hs
 ·split at hs
  ·rename_i i off n hx hn
   split at hs
   ·rename_i l hl
    refine QY (fun u hu=>?_) hs
    unfold gF at hl;split at hl
    ·rename_i cs t hb
     split at hl
     ·rename_i l' hc
      simp at hl; subst hl
      simp at hu;obtain⟨s',CB,rfl⟩:=hu;exact Xd (h.nH i cs t hb s' (sO hc CB))
     cases hl
    ·split at hl
     ·simp at hl; subst hl; simp at hu; obtain⟨x,_,rfl⟩:=hu; trivial
     cases hl
    cases hl
   cases hs
  ·split at hs
   ·split at hs
    ·refine QY (fun u hu=>?_) hs
     simp at hu; obtain⟨x,_,rfl⟩:=hu; trivial
    cases hs
   cases hs
  cases hs
 ·split at hs
  ·split at hs
   ·split at hs
    ·simp at hs; subst hs; trivial
    cases hs
   ·exact ky hs
   cases hs
  exact ky hs
 ·split at hs
  ·split at hs
   ·simp at hs; subst hs; trivial
   split at hs
   ·split at hs
    ·simp at hs; subst hs; trivial
    cases hs
   cases hs
  exact ky hs
 exact ky hs
theorem rB.put {k:Nat} (h:rB k F H) {d:Option Tmp} {s:SV} (hs:nr k s):rB k (au F d s) H:=by
 refine⟨fun t u hu=>?_,h.nH⟩
 cases d with
 | none=>exact h.nF t u hu
 | some d =>
  simp only [au,nX] at hu;split at hu
  ·cases hu; exact hs
  exact h.nF t u hu
theorem Xe {k:Nat} {b:aT} {s:SV} (h:nr k s):res (H.set k b) s=res H s:=by
 cases s with
 | v x=>rfl
 | k b=>rfl
 | p i off=>have h:i≠k:=h; simp only [res,List.getElem?_set_ne (Ne.symm h)]
 | o i=>have h:i≠k:=h; simp only [res,List.getElem?_set_ne (Ne.symm h)]
theorem yW {k:Nat} (h:rB k F H) {b:aT} (x:Operand):ev (H.set k b) F x=ev H F x:=by
 cases x with
 | tmp t =>
  simp only [ev];cases hs:F t with
  | none=>rfl
  | some s=>simp only [Xe (h.nF t s hs)]
 | _=>rfl
theorem wW {k:Nat} (h:rB k F H) {b:aT}:∀ l:List Operand,bA (H.set k b) F l=bA H F l
 | []=>rfl
 | x :: r=>by simp only [bA,yW h,wW h r]
theorem wX {k:Nat} (h:rB k F H) {b:aT}:∀ l:List Operand,eJ (H.set k b) F l=eJ H F l
 | []=>rfl
 | x :: r=>by simp only [eJ,yW h,wX h r]
theorem EK {k:Nat} (h:rB k F H) {b:aT} (o:Oper):aJ P (H.set k b) F o=aJ P H F o:=by
 have he:cD (H.set k b) F=cD H F:=by funext x; simp only [cD,yW h]
 unfold aJ;rw [wW h,he]
theorem Xf {k:Nat} (h:rB k F H) {b:aT} {i off n:Nat} (hi:i≠k):gF (H.set k b) i off n=gF H i off n:=by
 unfold gF;rw [List.getElem?_set_ne (Ne.symm hi)];split
 ·rename_i cs t hb
  split
  ·rename_i l hl
   congr 1
   exact List.map_congr_left fun s hs=>Xe (h.nH i cs t hb s (sO hl hs))
  rfl
 ·rfl
 rfl
theorem idx_at {k:Nat} {b:aT} {t:TypeId} {s n:SV} (hs:nr k s):idx P (H.set k b) t s n=idx P H t s n:=by
 cases s with
 | o j =>
  have hj:j≠k:=hs;cases n with
  | v y=>cases y <;> first | rfl | (simp only [idx,List.getElem?_set_ne (Ne.symm hj)])
  | _=>rfl
 | v x =>
  cases x with
  | slice a l c=>cases a <;> (cases n with | v y=>cases y <;> rfl | _=>rfl)
  | pointer a=>cases a <;> (cases n with | v y=>cases y <;> rfl | _=>rfl)
  | _=>rfl
 | k b=>rfl
 | p i off=>rfl
theorem stab_at {kk:Nat} (h:rB kk F H) {b:aT} (o:Oper):bP P V (H.set kk b) F o=bP P V H F o:=by
 unfold bP;simp only [yW h,EK h];split
 ·rfl
 ·rfl
 ·rfl
 ·rename_i t x k ho
  cases hx:ev H F x with
  | none=>rfl
  | some s =>
   cases s with
   | p i off =>
    have hi:i≠kk:=h.ev hx;have e:kZ (H.set kk b) i=kZ H i:=by simp only [kZ,List.getElem?_set_ne (Ne.symm hi)]
    rcases Ml P t k with _ | ⟨d,_ | n⟩
    ·rfl
    ·rfl
    simp only [e]
   | v y=>cases y with
    | pointer a=>cases a <;> rcases Ml P t k with _ | ⟨d,_ | n⟩ <;> rfl
    | _=>rcases Ml P t k with _ | ⟨d,_ | n⟩ <;> rfl
   | k c=>rcases Ml P t k with _ | ⟨d,_ | n⟩ <;> rfl
   | o c=>rcases Ml P t k with _ | ⟨d,_ | n⟩ <;> rfl
 ·rename_i t x i ho
  cases hx:ev H F x with
  | none=>rfl
  | some s =>
   cases hn:ev H F i with
   | none=>rfl
   | some n=>exact idx_at (h.ev hx)
 ·rename_i t x ho
  cases hx:ev H F x with
  | none=>rfl
  | some s =>
   cases s with
   | p i off =>
    have hi:i≠kk:=h.ev hx;cases bo P t with
    | none=>rfl
    | some n=>simp only [Xf h hi]
   | v y=>cases y with
    | pointer a=>cases a <;> cases bo P t <;> rfl
    | _=>cases bo P t <;> rfl
   | k c=>cases bo P t <;> rfl
   | o c=>cases bo P t <;> rfl
 ·rename_i c ho
  split
  ·rename_i x t hl ha ht
   cases hx:ev H F x with
   | none=>rfl
   | some s =>
    cases s with
    | o j =>
     have hj:j≠kk:=h.ev hx;cases P.underlying t with
     | none=>rfl
     | some d=>cases d <;> first | rfl | (simp only [List.getElem?_set_ne (Ne.symm hj)])
    | v y=>cases P.underlying t <;> rfl
    | k c=>cases P.underlying t <;> rfl
    | p c e=>cases P.underlying t <;> rfl
  rfl
 ·rfl
 rfl
theorem wY {k:Nat} (h:rB k F H) {b:aT}:∀ (l:List (Nat × Operand)),dR (H.set k b) F l=dR H F l
 | []=>rfl
 | (i,x) :: r=>by simp only [dR,yW h,wY h r]
theorem alOf_at {k:Nat} (h:rB k F H) {b:aT} (o:Oper):lX P V (H.set k b) F o=lX P V H F o:=by
 unfold lX;simp only [yW h,wY h]
theorem yX {d:Nat}:∀ {H:List aT} {i k:Nat},wV d i H=some k->∃ j b,k=i+j/\H[j]?=some b/\iD d b=true
 | [],_,_,h=>by cases h
 | b :: r,i,k,h=>by
  unfold wV at h;split at h
  ·rename_i hb
   cases h
   exact⟨0,b,rfl,rfl,hb⟩
  obtain⟨j,b',h1,h2,h3⟩:=yX h;exact⟨j+1,b',by omega,h2,h3⟩
theorem sZ {d k:Nat} (h:QU d H=some k):∃ b,H[k]?=some b/\iD d b=true:=by
 obtain⟨j,b,h1,h2,h3⟩:=yX h;have:k=j:=by omega
 subst this;exact⟨b,h2,h3⟩
theorem CG {d e:Nat} {b:aT} (h:iD d b=true) (k:iD e b=true):d=e:=by
 unfold iD at h;split at h
 ·rename_i kk n
  simp only [iD] at k;have h1:=Nat.eq_of_beq_eq_true h;have h2:=Nat.eq_of_beq_eq_true k;omega
 cases h
theorem CH {d:Nat} {b:aT} (hb:iD d b=false):∀ {H:List aT} {i k:Nat},(∀ u,H[k]?=some u->iD d u=false)->wV d i (H.set k b)=wV d i H
 | [],_,_,_=>rfl
 | u :: r,i,0,h=>by
  have hx:=h u rfl;simp only [List.set_cons_zero,wV,hb,hx]
 | u :: r,i,k+1,h=>by
  simp only [List.set_cons_succ,wV];rw [CH hb (fun y hy=>h y (by simpa using hy))]
theorem rsv_set {d k:Nat} {b:aT} (hb:iD d b=false) (h:∀ u,H[k]?=some u->iD d u=false):QU d (H.set k b)=QU d H:=CH hb h
theorem yY {d e k:Nat} {cs:List SV} {t:TypeId} (h:QU d H=some k) (bR:e≠d):QU e (H.set k (.c cs t))=QU e H:=by
 obtain⟨b,h1,h2⟩:=sZ h;refine rsv_set rfl fun u hu=>?_
 rw [h1] at hu;cases hu
 cases he:iD e b with
 | false=>rfl
 | true=>exact(bR (CG he h2)).elim
theorem Xg {d e k m:Nat} (h:QU d H=some k) (h':QU e H=some m) (bR:e≠d):m≠k:=by
 rintro rfl;obtain⟨b,h1,h2⟩:=sZ h;obtain⟨b',h3,h4⟩:=sZ h';rw [h1] at h3;cases h3
 exact bR (CG h4 h2)
def Sw (H:List aT) (k:Nat):Prop:=∃ b d,H[k]?=some b/\iD d b=true
theorem EL {d k:Nat} (h:QU d H=some k):Sw H k:=by
 obtain⟨b,h1,h2⟩:=sZ h;exact⟨b,d,h1,h2⟩
theorem Sw.lt {k:Nat} (h:Sw H k):k<H.length:=by
 obtain⟨b,d,h1,_⟩:=h;exact(List.getElem?_eq_some_iff.1 h1).1
theorem Sw.of_app {k:Nat} {b:aT} (hb:∀ d,iD d b=false) (h:Sw (H++[b]) k):Sw H k:=by
 obtain⟨c,d,h1,h2⟩:=h
 by_cases hi:k<H.length
 ·rw [List.getElem?_append_left hi] at h1
  exact⟨c,d,h1,h2⟩
 rw [List.getElem?_append_right (by omega)] at h1;rcases Nat.eq_zero_or_pos (k-H.length) with h0 | h0
 ·rw [h0] at h1
  simp at h1;subst h1;rw [hb] at h2; cases h2
 rw [List.getElem?_eq_none (by simp; omega)] at h1; cases h1
theorem Sw.Mx {k i:Nat} {b:aT} (hb:∀ d,iD d b=false) (h:Sw (H.set i b) k):k≠i/\Sw H k:=by
 obtain⟨c,d,h1,h2⟩:=h
 by_cases e:k=i
 ·subst e
  by_cases hk:k<H.length
  ·rw [List.getElem?_set_self hk] at h1
   cases h1
   rw [hb] at h2; cases h2
  rw [List.getElem?_eq_none (by simpa using hk)] at h1; cases h1
 rw [List.getElem?_set_ne (Ne.symm e)] at h1;exact⟨e,c,d,h1,h2⟩
theorem rB.fill {k m:Nat} (h:rB k F H) {z:List Value} {t:TypeId} {d:Option Tmp} (bR:m≠k):rB k (au F d (.p m 0)) (H.set m (.c (z.map .v) t)):=by
 have h1:=h.put (d:=d) (s:=.p m 0) bR;refine⟨h1.nF,fun i cs u hc s hs=>?_⟩
 by_cases e:i=m
 ·subst e
  by_cases hi:i<H.length
  ·rw [List.getElem?_set_self hi] at hc
   cases hc
   simp at hs;obtain⟨x,_,rfl⟩:=hs
   trivial
  rw [List.getElem?_eq_none (by simpa using hi)] at hc; cases hc
 rw [List.getElem?_set_ne (Ne.symm e)] at hc;exact h.nH i cs u hc s hs
def QZ (ops:Array Oper) (j i:Nat):Prop:=∃ oj oi,ops[j]?=some oj/\ops[i]?=some oi/\oj.apart ops oi=true/\(cR ops oj≠2\/kt oj=true)
def Xh (P:Program) (ops:Array Oper) (V0:aa) (K:Kt) (A C:List Nat) (o:Oper) (F:Fm) (H:List aT) (V:aa):Prop :=
 (want ops F o.guard=some false/\R P ops true V0 K (A++C) (au F o.dst (.v undef)) H V) \/
 (want ops F o.guard=some true/\∃ t z d k,o.op=.alloc t/\zeroOf P t=some z/\o.dst=some d/\QU d H=some k/\R P ops true V0 K (A++C) (au F o.dst (.p k 0)) (H.set k (.c (z.map .v) t)) V)
theorem yZ {ops:Array Oper} {K:Kt} {i:Nat} {C:List Nat} {oi:Oper} (fU:ops[i]?=some oi) (zb:kt oi=true):∀ {A:List Nat} {F:Fm} {H:List aT} {V:aa},(∀ d k,oi.dst=some d->QU d H=some k->rB k F H)->R P ops true V0 K (A++i :: C) F H V->(∃ w,V.on w)->(∀ j∈A,QZ ops j i) ->
  Xh P ops V0 K A C oi F H V
 | [],F,H,V,hnr,h,_,_=>by
  have dm:∃ t,oi.op=.alloc t:=by
   unfold kt at zb;split at zb
   ·rename_i t ho; exact⟨t,ho⟩
   cases zb
  obtain⟨t,dm⟩:=dm;cases h with
  | skip ho hw hr=>rw [fU] at ho; cases ho; exact .inl ⟨hw,hr⟩
  | bP ho hw bY hx hs hr=>rw [fU] at ho; cases ho; rw [Mw dm] at hs; cases hs
  | call Q ho hw iE bZ hl hc k1 k2=>rw [fU] at ho; cases ho; rw [dm] at iE; cases iE
  | B6 ho hw he ha hr=>rw [fU] at ho; cases ho; rw [ha rfl] at zb; cases zb
  | LY _ ho hw h1 h2 h3 h4 hr=>rw [fU] at ho; cases ho; exact .inr ⟨hw,_,_,_,_,h1,h2,h3,h4,hr⟩
  | mk ho hw hx he hr =>
   rw [fU] at ho; cases ho
   exfalso
   cases he <;> simp_all
  | al d _ ho hw hx ha k1 k2 =>
   rw [fU] at ho; cases ho
   exfalso
   simp [lX,dm] at ha
  | LZ hd _ _=>cases hd
  | L9 hd _ _ _=>cases hd
  | aki hd ho _ iE=>rw [fU] at ho; cases ho; rw [dm] at iE; cases iE
  | akg hd ho _ iE=>rw [fU] at ho; cases ho; rw [dm] at iE; cases iE
  | mo Q hd ho=>rw [fU] at ho; cases ho; have:=(hd rfl).1; simp [o6,dm] at this
 | j :: A,F,H,V,hnr,h,hV,ig=>by
  obtain⟨oj,oi',eh,zd,Xb,kv⟩:=ig j (by simp);rw [fU] at zd; cases zd
  obtain⟨p1,p2,p3⟩:=Oper.apart_spec Xb;have eM:∀ j∈A,QZ ops j i:=fun k hk=>ig k (by simp [hk])
  have li:∀ (F:Fm) s,∀ t∈oi.looksAt ops,au F oj.dst s t=F t:=fun F s t ht=>dh (fun e=>p1 t e ht)
  have lj:∀ (F:Fm) s,∀ t∈oj.looksAt ops,au F oi.dst s t=F t:=fun F s t ht=>dh (fun e=>p3 t e ht)
  have wi:∀ (F:Fm) s,want ops (au F oj.dst s) oi.guard=want ops F oi.guard:=fun F s=>bw (li F s)
  have wj:∀ (F:Fm) s,want ops (au F oi.dst s) oj.guard=want ops F oj.guard:=fun F s=>bw (lj F s)
  have comm:∀ (F:Fm) s u,au (au F oj.dst s) oi.dst u=au (au F oi.dst u) oj.dst s:=fun F s u=>mZ (fun t ht e=>p2 t ht e)
  have nrv:∀ (x:Value),∀ d k,oi.dst=some d->QU d H=some k->rB k (au F oj.dst (.v x)) H:=fun x d k h1 h2=>(hnr d k h1 h2).put trivial
  -- a step of j,from any state that agrees with F where it looks,the kept box filled or not
  have quiet:∀ (sj:SV) (V':aa),(∀ (G:Fm),(∀ t∈oj.looksAt ops,G t=F t)->∀ L,R P ops true V0 K L (au G oj.dst sj) H V'->R P ops true V0 K (j :: L) G H V) ->
    (∀ (k:Nat) (b:aT) (G:Fm),rB k F H->(∀ t∈oj.looksAt ops,G t=F t)->∀ L,R P ops true V0 K L (au G oj.dst sj) (H.set k b) V'->R P ops true V0 K (j :: L) G (H.set k b) V) ->
    Xh P ops V0 K A C oi (au F oj.dst sj) H V'->Xh P ops V0 K (j :: A) C oi F H V:=by
   intro sj V' step stepB rA;rcases rA with ⟨hw,hr⟩ | ⟨hw,t,z,d,k,h1,h2,h3,h4,hr⟩
   ·rw [wi] at hw
    rw [comm] at hr;exact .inl ⟨hw,step _ (lj F _) (A++C) hr⟩
   rw [wi] at hw;rw [comm] at hr;exact .inr ⟨hw,t,z,d,k,h1,h2,h3,h4,stepB _ _ _ (hnr d k h3 h4) (lj F _) (A++C) hr⟩
  cases h with
  | skip ho hw hr =>
   rw [eh] at ho; cases ho
   exact quiet (.v undef) V (fun G hG L hr=>.skip eh (by rw [bw hG]; exact hw) hr) (fun k b G _ hG L hr=>.skip eh (by rw [bw hG]; exact hw) hr) (yZ fU zb (nrv _) hr hV eM)
  | @bP _ _ o s _ _ _ ho hw bY hx hs hr =>
   rw [eh] at ho; cases ho
   simp only [if_true] at hs;refine quiet s V (fun G hG L hr=>.bP eh (by rw [bw hG]; exact hw) bY hx ?_ hr) (fun k b G hn hG L hr=>.bP eh (by rw [bw hG]; exact hw) bY hx ?_ hr)
    (yZ fU zb (fun d k h1 h2=>(hnr d k h1 h2).put (qn (hnr d k h1 h2) hs)) hr hV eM)
   ·simp only [if_true]
    rw [cX bY (dB hG)];exact hs
   simp only [if_true];rw [cX bY (dB hG),stab_at hn];exact hs
  | call Q ho hw dm bZ hl hc k1 k2 =>
   rw [eh] at ho; cases ho
   obtain⟨V1,y1,QW,hw1⟩:=hc.some hV;have lY:∀ {H':List aT} {G:Fm},(∀ t∈oj.looksAt ops,G t=F t)->∀ x∈_,ev H' G x=ev H' F x:=fun hG x hx=>dB hG x (by simp only [dm,Op.operands,Call.operands,Array.mem_append]; exact .inr (Array.mem_toList_iff.1 hx))
   have hfn:∀ {H':List aT} {G:Fm} {c:Call} (_:oj.op=.call c),(∀ t∈oj.looksAt ops,G t=F t)->∀ f,pv c=some f->ev H' G f=ev H' F f:=fun hc hG f hf=>dB hG _ (by simp only [hc,Op.operands]; exact qm hf)
   have step:∀ u,(∀ V' y,Q V' y->(∃ w,V'.on w)->R P ops true V0 K (A++C) (au (au F oi.dst u) oj.dst (.v y)) H V')->R P ops true V0 K (j :: (A++C)) (au F oi.dst u) H V:=by
    intro u hr;refine .call Q eh (by rw [wj]; exact hw) dm (bZ.congr (hfn dm (lj F u))) ?_ hc (fun V' y hq _=>k1 V' y hq rfl) hr
    rw [eS (lY (lj F u))]; exact hl
   have stepB:∀ k b u,rB k F H->(∀ V' y,Q V' y->(∃ w,V'.on w)->R P ops true V0 K (A++C) (au (au F oi.dst u) oj.dst (.v y)) (H.set k b) V')->R P ops true V0 K (j :: (A++C)) (au F oi.dst u) (H.set k b) V:=by
    intro k b u hn hr;refine .call Q eh (by rw [wj]; exact hw) dm (bZ.congr fun f hf=>by rw [hfn dm (lj F u) f hf,yW hn]) ?_ hc (fun V' y hq _=>k1 V' y hq rfl) hr
    rw [eS (lY (lj F u)),wX hn]; exact hl
   have all:∀ V' y,Q V' y->(∃ w,V'.on w)->Xh P ops V0 K A C oi (au F oj.dst (.v y)) H V':=fun V' y hq eO=>yZ fU zb (nrv _) (k2 V' y hq eO) eO eM
   rcases all V1 y1 QW hw1 with ⟨jU,_⟩ | ⟨jU,t,z,d,k,h1,h2,h3,h4,_⟩
   ·rw [wi] at jU
    refine .inl ⟨jU,step _ (fun V' y hq eO=>?_)⟩
    rcases all V' y hq eO with ⟨_,hr⟩ | ⟨gf,_⟩
    ·rw [<- comm]; exact hr
    rw [wi,jU] at gf; cases gf
   rw [wi] at jU;refine .inr ⟨jU,t,z,d,k,h1,h2,h3,h4,stepB _ _ _ (hnr d k h3 h4) (fun V' y hq eO=>?_)⟩
   rcases all V' y hq eO with ⟨gf,_⟩ | ⟨_,t',z',d',k',h1',B7,WL,h4',hr⟩
   ·rw [wi,jU] at gf; cases gf
   rw [h1] at h1'; cases h1'
   rw [h2] at B7; cases B7
   rw [h3] at WL; cases WL
   rw [h4] at h4'; cases h4'
   rw [<- comm]; exact hr
  | @LY _ _ o t z d k _ _ _ _ ho hw h1 h2 h3 h4 hr =>
   rw [eh] at ho; cases ho
   have HL:∀ e,oi.dst=some e->e≠d:=fun e he hed=>p2 d h3 (by rw [he,hed])
   have rA:=yZ fU zb (H:=H.set k (.c (z.map .v) t)) (fun e m he hm=>by
    rw [yY h4 (HL e he)] at hm;exact(hnr e m he hm).fill (Ne.symm (Xg h4 hm (HL e he)))) hr hV eM
   rcases rA with ⟨jU,hr⟩ | ⟨jU,t',z',e,m,g1,g2,g3,g4,hr⟩
   ·rw [wi] at jU
    rw [comm] at hr;exact .inl ⟨jU,.LY rfl eh (by rw [wj]; exact hw) h1 h2 h3 h4 hr⟩
   rw [wi] at jU;rw [comm] at hr;rw [yY h4 (HL e g3)] at g4;have bR:=Xg h4 g4 (HL e g3);refine .inr ⟨jU,t',z',e,m,g1,g2,g3,g4,.LY rfl eh (by rw [wj]; exact hw) h1 h2 h3 (k:=k) ?_ ?_⟩
   ·rw [yY g4 (Ne.symm (HL e g3))]; exact h4
   rw [List.set_comm _ _ bR];exact hr
  | al d _ ho hw hx ha k1 k2 =>
   rw [eh] at ho; cases ho
   have haj:∀ G:Fm,(∀ t∈oj.looksAt ops,G t=F t)->lX P V0 H G oj=some d:=fun G hG=>by rw [fZ (dB hG)]; exact ha
   have hajB:∀ (k:Nat) (b:aT) (G:Fm),rB k F H->(∀ t∈oj.looksAt ops,G t=F t)->lX P V0 (H.set k b) G oj=some d:=fun k b G hn hG=>by rw [fZ (dB hG),alOf_at hn]; exact ha
   cases hz:d.z with
   | some y =>
    refine quiet (.v y) V (fun G hG L hr=>.al d rfl eh (by rw [bw hG]; exact hw) hx (haj G hG) (fun y' Mc=>?_) (fun h=>by rw [hz] at h; cases h)) (fun k b G hn hG L hr=>.al d rfl eh (by rw [bw hG]; exact hw) hx (hajB k b G hn hG) (fun y' Mc=>?_) (fun h=>by rw [hz] at h; cases h)) (yZ fU zb (nrv _) (k1 y hz) hV eM)
    ·rw [hz] at Mc; cases Mc; exact hr
    rw [hz] at Mc; cases Mc; exact hr
   | none =>
    have step:∀ u,(∀ b cap spare,V b=none->d.n<=cap->WJ P d cap spare->(∃ w,(aB V b (d.ys++spare,(d.t,(0,0)))).on w) ->
      R P ops true V0 K (A++C) (au (au F oi.dst u) oj.dst (.v (.slice (some ⟨b,0,none⟩) d.n cap))) H (aB V b (d.ys++spare,(d.t,(0,0)))))->R P ops true V0 K (j :: (A++C)) (au F oi.dst u) H V :=
     fun u hr=>.al d rfl eh (by rw [wj]; exact hw) hx (haj _ (lj F u)) (fun y h=>by rw [hz] at h; cases h) (fun _=>hr)
    have stepB:∀ kk bx u,rB kk F H->(∀ b cap spare,V b=none->d.n<=cap->WJ P d cap spare->(∃ w,(aB V b (d.ys++spare,(d.t,(0,0)))).on w) ->
      R P ops true V0 K (A++C) (au (au F oi.dst u) oj.dst (.v (.slice (some ⟨b,0,none⟩) d.n cap))) (H.set kk bx) (aB V b (d.ys++spare,(d.t,(0,0)))))->R P ops true V0 K (j :: (A++C)) (au F oi.dst u) (H.set kk bx) V :=
     fun kk bx u hn hr=>.al d rfl eh (by rw [wj]; exact hw) hx (hajB kk bx _ hn (lj F u)) (fun y h=>by rw [hz] at h; cases h) (fun _=>hr)
    have all:∀ b cap spare,V b=none->d.n<=cap->WJ P d cap spare->(∃ w,(aB V b (d.ys++spare,(d.t,(0,0)))).on w) ->
      Xh P ops V0 K A C oi (au F oj.dst (.v (.slice (some ⟨b,0,none⟩) d.n cap))) H (aB V b (d.ys++spare,(d.t,(0,0)))) :=
     fun b cap spare hb hc he sM=>yZ fU zb (nrv _) (k2 hz b cap spare hb hc he sM) sM eM
    obtain⟨b0,vq,hon0⟩:=CD hV (d.ys++[]) d.t;rcases all b0 d.n [] vq (Nat.le_refl _) ⟨fun _=>⟨rfl,rfl⟩,by simp⟩ hon0 with ⟨jU,_⟩ | ⟨jU,t,z,e,k,h1,h2,h3,h4,_⟩
    ·rw [wi] at jU
     refine .inl ⟨jU,step _ (fun b cap spare hb hc he sM=>?_)⟩
     rcases all b cap spare hb hc he sM with ⟨_,hr⟩ | ⟨gf,_⟩
     ·rw [<- comm]; exact hr
     rw [wi,jU] at gf; cases gf
    rw [wi] at jU;refine .inr ⟨jU,t,z,e,k,h1,h2,h3,h4,stepB _ _ _ (hnr e k h3 h4) (fun b cap spare hb hc he sM=>?_)⟩
    rcases all b cap spare hb hc he sM with ⟨gf,_⟩ | ⟨_,t',z',e',k',h1',B7,WL,h4',hr⟩
    ·rw [wi,jU] at gf; cases gf
    rw [h1] at h1'; cases h1'
    rw [h2] at B7; cases B7
    rw [h3] at WL; cases WL
    rw [h4] at h4'; cases h4'
    rw [<- comm]; exact hr
  | B6 ho _ he ha _ =>
   rw [eh] at ho; cases ho
   rcases kv with kv | kv
   ·exact(kv (mf (.inl he))).elim
   rw [ha rfl] at kv; cases kv
  | mk ho _ hx he _ =>
   rw [eh] at ho; cases ho
   rcases kv with kv | kv
   ·exact(kv (mf (.inr ⟨hx rfl,he⟩))).elim
   exfalso
   unfold kt at kv;split at kv
   ·cases he <;> simp_all
   cases kv
  | LZ hd _ _=>cases hd
  | L9 hd _ _ _=>cases hd
  | aki hd ho _ dm bZ =>
   rw [eh] at ho; cases ho
   rcases kv with kv | kv
   ·exact(kv (ku dm bZ (hd rfl).1)).elim
   simp [kt,dm] at kv
  | akg hd ho _ dm bZ =>
   rw [eh] at ho; cases ho
   rcases kv with kv | kv
   ·exact(kv (ku dm bZ (hd rfl))).elim
   simp [kt,dm] at kv
  | mo Q hd ho =>
   rw [eh] at ho; cases ho
   rcases kv with kv | kv
   ·exact(kv (yp (hd rfl).1)).elim
   exfalso
   have h1:=(hd rfl).1;unfold kt at kv;split at kv
   ·rename_i zb; simp [o6,zb] at h1
   cases kv
variable {P:Program} {N:Nat} {w0:World} {F:Fm} {H:List aT} {Vs V V0:aa} {ρ:Nat->Nat × Nat} {a:Act} {w:World}
def cN (o:Oper):Bool:=match o.op with | .store ..=>true | _=>false
def rC (o:Oper):Bool:=match o.op with
 | .move _=>true
 | .assign _=>true
 | .extract ..=>true
 | .binOp ..=>true
 | .unOp ..=>true
 | .field ..=>true
 | _=>false
def dstsOf (ops:Array Oper):List Nat:=ops.toList.filterMap (·.dst)
def Sy (F0:Fm) (ds:List Nat) (o:Oper):Option (Option Nat):=match o.op with
 | .load _ (.tmp t)=>match ds.contains t with
  | true=>none
  | false=>match F0 t with | some (.p i _)=>some (some i) | some (.v _)=>some none | _=>none
 | _=>none
def Sz (F0:Fm) (H0:List aT) (ds:List Nat) (o:Oper):Option Nat:=match o.op with
 | .store _ (.tmp t) _=>match ds.contains t with
  | true=>none
  | false=>match F0 t with | some (.p i _)=>(match H0[i]? with | some (.c ..)=>some i | _=>none) | _=>none
 | _=>none
def isLd (F0:Fm) (H0:List aT) (ds:List Nat) (oj oi:Oper):Bool:=match Sy F0 ds oj,Sz F0 H0 ds oi with
 | some (some a),some b=>!Nat.beq a b
 | some none,some _=>true
 | _,_=>false
structure Inv (ops:Array Oper) (F0:Fm) (H0:List aT) (F:Fm) (H:List aT):Prop where
 agree:∀ t,(dstsOf ops).contains t=false->F t=F0 t
 isC:∀ (i:Nat) cs t,H0[i]?=some (.c cs t)->∃ iw t',H[i]?=some (.c iw t')
 pend:∀ k,Sw H k->rB k F H
theorem yr {ops:Array Oper} {i:Nat} {o:Oper} {d:Nat} (h:ops[i]?=some o) (hd:o.dst=some d):(dstsOf ops).contains d=true:=by
 rw [List.contains_iff_mem];simp only [dstsOf,List.mem_filterMap];exact⟨o,by
  obtain⟨hi,e⟩:=Array.getElem?_eq_some_iff.1 h;subst e;simp,hd⟩
theorem Inv.put {ops:Array Oper} {F0:Fm} {H0:List aT} {i:Nat} {o:Oper} {s:SV} (h:Inv ops F0 H0 F H) (ho:ops[i]?=some o) (hs:∀ k,Sw H k->nr k s):Inv ops F0 H0 (au F o.dst s) H:=by
 refine⟨fun t ht=>?_,h.isC,fun k hd=>(h.pend k hd).put (hs k hd)⟩
 rw [dh (fun e=>by rw [yr ho e] at ht; cases ht)]
 exact h.agree t ht
def Q0 (ops:Array Oper) (F0:Fm) (H0:List aT) (j i:Nat):Prop:=∃ oj oi,ops[j]?=some oj/\ops[i]?=some oi/\oj.apart ops oi=true/\(rC oj=true\/isLd F0 H0 (dstsOf ops) oj oi=true)
theorem Q1 {i:Nat} {b b':aT} (hb:H[i]?=some b) (h1:b.live=true) (h2:b'.live=true) (s:SV):res (H.set i b') s=res H s:=by
 have key:∀ j,(H.set i b')[j]?=H[j]?\/(j=i/\(H.set i b')[j]?=some b'):=by
  intro j
  by_cases e:i=j
  ·subst e
   right
   refine⟨rfl,?_⟩
   have:i<H.length:=by
    by_cases h:i<H.length
    ·exact h
    rw [List.getElem?_eq_none (by omega)] at hb; cases hb
   simp [this]
  left
  simp [List.getElem?_set_ne e]
 cases s with
 | v x=>rfl
 | k b=>rfl
 | o j =>
  rcases key j with h | ⟨rfl,h⟩
  ·simp only [res,h]
  simp only [res,h,hb];cases b <;> cases b' <;> simp_all [aT.live]
 | p j off =>
  rcases key j with h | ⟨rfl,h⟩
  ·simp only [res,h]
  simp only [res,h,hb];cases b <;> cases b' <;> simp_all [aT.live]
theorem ze {H H':List aT} (h:∀ s,res H' s=res H s) (F:Fm) (x:Operand):ev H' F x=ev H F x:=by
 cases x with
 | tmp t=>simp only [ev,h]
 | _=>rfl
theorem Eff.res_eq {o:Oper} {F':Fm} {H':List aT} {V':aa} (h:Eff P o F H V F' H' V') (hs:cN o=true) (s:SV):res H' s=res H s:=by
 cases h with
 | box h1=>simp [cN,h1] at hs
 | alloc h1=>simp [cN,h1] at hs
 | stC h1 h2 h3=>exact Q1 h3 rfl rfl s
 | stA h1 h2 h3=>exact Q1 h3 rfl rfl s
 | stV=>rfl
theorem ta {H':List aT} (h:∀ s,res H' s=res H s):∀ l:List Operand,bA H' F l=bA H F l
 | []=>rfl
 | x :: r=>by simp only [bA,ze h,ta h r]
theorem jM {H':List aT} (h:∀ s,res H' s=res H s) (o:Oper):aJ P H' F o=aJ P H F o:=by
 have e:cD H' F=cD H F:=by
  funext x
  simp only [cD,ze h]
 simp only [aJ,ta h,e]
theorem stab_mv {H':List aT} (h:∀ s,res H' s=res H s) {o:Oper} (hm:rC o=true):bP P V H' F o=bP P V H F o:=by
 unfold rC at hm;split at hm <;> rename_i ho
 ·simp only [bP,ho,ze h]
 ·simp only [bP,ho,ze h]
 ·simp only [bP,ho,jM h]
 ·simp only [bP,ho,jM h]
 ·simp only [bP,ho,jM h]
 ·simp only [bP,ho,jM h]
 cases hm
theorem mv_x {ops:Array Oper} {o:Oper} (hm:rC o=true):kP ops o=false:=by
 unfold rC at hm;split at hm <;> rename_i ho
 all_goals first | (exact absurd hm (by decide)) | (simp [kP,yT,ho])
theorem Eff.from {o:Oper} {F F1 F':Fm} {H':List aT} {V':aa} (h:Eff P o F1 H V F' H' V') (hs:cN o=true) (he:∀ x∈o.op.operands,ev H F1 x=ev H F x) :
  F'=au F1 o.dst (.v undef)/\Eff P o F H V (au F o.dst (.v undef)) H' V':=by
 cases h with
 | box h1=>simp [cN,h1] at hs
 | alloc h1=>simp [cN,h1] at hs
 | @stC t ad x _ _ _ _ _ _ h1 h2 h3 h4 h5 h6 h7 =>
  rw [he ad (by simp [h1,Op.operands])] at h2;rw [he x (by simp [h1,Op.operands])] at h4;exact⟨rfl,.stC h1 h2 h3 h4 h5 h6 h7⟩
 | @stA t ad x _ _ _ _ _ _ h1 h2 h3 h4 h5 h6 h7 =>
  rw [he ad (by simp [h1,Op.operands])] at h2;rw [he x (by simp [h1,Op.operands])] at h4;exact⟨rfl,.stA h1 h2 h3 h4 h5 h6 h7⟩
 | @stV t ad x _ _ _ _ h1 h2 h3 h4 h5 h6 h7 h8 =>
  rw [he ad (by simp [h1,Op.operands])] at h2;rw [he x (by simp [h1,Op.operands])] at h5;exact⟨rfl,.stV h1 h2 h3 h4 h5 h6 h7 h8⟩
theorem Eff.other {ops:Array Oper} {F0:Fm} {H0:List aT} {o:Oper} {F':Fm} {H':List aT} {V':aa} (hI:Inv ops F0 H0 F H) {b:Nat} (hb:Sz F0 H0 (dstsOf ops) o=some b) (h:Eff P o F H V F' H' V') :
  V'=V/\∀ a,a≠b->H'[a]?=H[a]?:=by
 unfold Sz at hb;split at hb
 ·rename_i ty t x ho
  split at hb
  ·cases hb
  rename_i HL;split at hb
  ·rename_i i off hF
   split at hb
   ·rename_i cs u hH
    cases hb
    have hFt:=(hI.agree t HL).trans hF;obtain⟨iw,u',hH'⟩:=hI.isC _ _ _ hH;have hev:ev H F (.tmp t)=some (.p b off):=by
     simp only [ev,hFt,res,hH']
    cases h with
    | box h1=>rw [ho] at h1; cases h1
    | alloc h1=>rw [ho] at h1; cases h1
    | stC h1 h2 h3 =>
     rw [ho] at h1;cases h1
     rw [hev] at h2;cases h2
     exact⟨rfl,fun a ha=>List.getElem?_set_ne (Ne.symm ha)⟩
    | stA h1 h2 h3 =>
     rw [ho] at h1;cases h1
     rw [hev] at h2;cases h2
     exact⟨rfl,fun a ha=>List.getElem?_set_ne (Ne.symm ha)⟩
    | stV h1 h2 =>
     rw [ho] at h1;cases h1
     rw [hev] at h2;cases h2
   cases hb
  cases hb
 cases hb
theorem stab_ld {ops:Array Oper} {F0:Fm} {H0 H':List aT} (hI:Inv ops F0 H0 F H) {o:Oper} {q:Option Nat} (hq:Sy F0 (dstsOf ops) o=some q) (h:∀ s,res H' s=res H s) (hb:∀ a,q=some a->H'[a]?=H[a]?) :
  bP P V H' F o=bP P V H F o:=by
 unfold Sy at hq;split at hq
 ·rename_i ty t ho
  split at hq
  ·cases hq
  rename_i HL;have hag:=hI.agree t HL;simp only [bP,ho,ze h];split at hq
  ·rename_i i off hF
   cases hq
   have hFt:=hag.trans hF;have hbi:=hb i rfl;have hl:∀ n,gF H' i off n=gF H i off n:=by
    intro n;unfold gF;rw [hbi];split
    ·split
     ·congr 1
      exact List.map_congr_left fun s _=>h s
     rfl
    ·rfl
    rfl
   cases hx:ev H F (.tmp t) with
   | none=>rfl
   | some s =>
    have he:s=res H (.p i off):=by
     simp only [ev,hFt] at hx;exact(Option.some.inj hx).symm
    simp only [res] at he;split at he
    ·subst he; cases bo P ty <;> rfl
    subst he;cases bo P ty with
    | none=>rfl
    | some n=>simp only [hl]
  ·rename_i y hF
   have hFt:=hag.trans hF;have hx:ev H F (.tmp t)=some (.v y):=by simp only [ev,hFt,res]
   rw [hx];cases y with
   | pointer a=>cases a <;> cases bo P ty <;> rfl
   | _=>cases bo P ty <;> rfl
  cases hq
 cases hq
theorem fJ {ops:Array Oper} {F0:Fm} {H0:List aT} {oj oi:Oper} (h:isLd F0 H0 (dstsOf ops) oj oi=true) :
  ∃ q b,Sy F0 (dstsOf ops) oj=some q/\Sz F0 H0 (dstsOf ops) oi=some b/\∀ a,q=some a->a≠b:=by
 unfold isLd at h;split at h
 ·rename_i a b h1 h2
  refine⟨_,b,h1,h2,?_⟩
  rintro _ ⟨⟩ rfl;simp at h
 ·rename_i b h1 h2
  exact⟨_,b,h1,h2,fun a ha=>by cases ha⟩
 cases h
theorem mg {F0:Fm} {ds:List Nat} {o:Oper} {q:Option Nat} (h:Sy F0 ds o=some q):∃ t x,o.op=.load t x:=by
 unfold Sy at h;split at h
 ·exact⟨_,_,‹_›⟩
 cases h
def OutS (P:Program) (ops:Array Oper) (V0:aa) (K:Kt) (A C:List Nat) (o:Oper) (F:Fm) (H:List aT) (V:aa):Prop :=
 (want ops F o.guard=some false/\R P ops true V0 K (A++C) (au F o.dst (.v undef)) H V) \/
 (want ops F o.guard=some true/\ph o.op=false/\∃ s,bP P V0 H F o=some s/\R P ops true V0 K (A++C) (au F o.dst s) H V) \/
 (want ops F o.guard=some true/\∃ H' V',Eff P o F H V (au F o.dst (.v undef)) H' V'/\R P ops true V0 K (A++C) (au F o.dst (.v undef)) H' V')
theorem Xi {ops:Array Oper} {F0:Fm} {H0:List aT} {K:Kt} {i:Nat} {C:List Nat} {oi:Oper} (fU:ops[i]?=some oi) (ll:cN oi=true):∀ {A:List Nat} {F:Fm} {V:aa},Inv ops F0 H0 F H->R P ops true V0 K (A++i :: C) F H V->(∀ j∈A,Q0 ops F0 H0 j i) ->
  OutS P ops V0 K A C oi F H V
 | [],F,V,hI,h,_=>by
  have dm:∃ t x y,oi.op=.store t x y:=by
   unfold cN at ll;split at ll
   ·rename_i t x y ho; exact⟨t,x,y,ho⟩
   cases ll
  obtain⟨t,x,y,dm⟩:=dm;cases h with
  | skip ho hw hr=>rw [fU] at ho; cases ho; exact .inl ⟨hw,hr⟩
  | bP ho hw bY hx hs hr=>rw [fU] at ho; cases ho; exact .inr (.inl ⟨hw,bY,_,by simpa using hs,hr⟩)
  | call Q ho hw iE bZ hl hc k1 k2=>rw [fU] at ho; cases ho; rw [dm] at iE; cases iE
  | LY _ ho _ h1=>rw [fU] at ho; cases ho; rw [dm] at h1; cases h1
  | B6 ho hw he _ hr =>
   rw [fU] at ho; cases ho
   obtain⟨rfl,Md⟩:=he.from ll (fun _ _=>rfl)
   exact .inr (.inr ⟨hw,_,_,Md,hr⟩)
  | mk ho hw hx he hr =>
   rw [fU] at ho; cases ho
   exfalso
   cases he <;> simp_all
  | al d _ ho hw hx ha k1 k2 =>
   rw [fU] at ho; cases ho
   exfalso
   simp [lX,dm] at ha
  | LZ hd _ _=>cases hd
  | L9 hd _ _ _=>cases hd
  | aki hd ho _ iE=>rw [fU] at ho; cases ho; rw [dm] at iE; cases iE
  | akg hd ho _ iE=>rw [fU] at ho; cases ho; rw [dm] at iE; cases iE
  | mo Q hd ho=>rw [fU] at ho; cases ho; have:=(hd rfl).1; simp [o6,dm] at this
 | j :: A,F,V,hI,h,ig=>by
  obtain⟨oj,oi',eh,zd,Xb,vG⟩:=ig j (by simp);rw [fU] at zd; cases zd
  obtain⟨p1,p2,p3⟩:=Oper.apart_spec Xb;have eM:∀ j∈A,Q0 ops F0 H0 j i:=fun k hk=>ig k (by simp [hk])
  have li:∀ (F:Fm) s,∀ t∈oi.looksAt ops,au F oj.dst s t=F t:=fun F s t ht=>dh (fun e=>p1 t e ht)
  have lj:∀ (F:Fm) s,∀ t∈oj.looksAt ops,au F oi.dst s t=F t:=fun F s t ht=>dh (fun e=>p3 t e ht)
  have wi:∀ (F:Fm) s,want ops (au F oj.dst s) oi.guard=want ops F oi.guard:=fun F s=>bw (li F s)
  have ei:∀ (F:Fm) s,∀ x∈oi.op.operands,ev H (au F oj.dst s) x=ev H F x:=fun F s=>dB (li F s)
  have comm:∀ (F:Fm) s u,au (au F oj.dst s) oi.dst u=au (au F oi.dst u) oj.dst s:=fun F s u=>mZ (fun t ht e=>p2 t ht e)
  have quiet:∀ (sj:SV),(∀ (G:Fm),(∀ t∈oj.looksAt ops,G t=F t)->∀ H1 V1 L,(∀ s,res H1 s=res H s)->(∀ b,Sz F0 H0 (dstsOf ops) oi=some b->∀ a,a≠b->H1[a]?=H[a]?)->R P ops true V0 K L (au G oj.dst sj) H1 V1->R P ops true V0 K (j :: L) G H1 V1) ->
    OutS P ops V0 K A C oi (au F oj.dst sj) H V->OutS P ops V0 K (j :: A) C oi F H V:=by
   intro sj step rA;rcases rA with ⟨hw,hr⟩ | ⟨hw,bY,s,hs,hr⟩ | ⟨hw,H',V',he,hr⟩
   ·rw [wi] at hw
    rw [comm] at hr;exact .inl ⟨hw,step _ (lj F _) H V (A++C) (fun _=>rfl) (fun _ _ _ _=>rfl) hr⟩
   ·rw [wi] at hw
    rw [comm] at hr;rw [cX bY (ei F sj)] at hs;exact .inr (.inl ⟨hw,bY,s,hs,step _ (lj F _) H V (A++C) (fun _=>rfl) (fun _ _ _ _=>rfl) hr⟩)
   rw [wi] at hw;rw [comm] at hr;have Md:=(he.from (F:=F) ll (ei F sj)).2;exact .inr (.inr ⟨hw,H',V',Md,step _ (lj F _) H' V' (A++C) (he.res_eq ll) (fun b hb=>(Md.other hI hb).2) hr⟩)
  cases h with
  | skip ho hw hr =>
   rw [eh] at ho; cases ho
   exact quiet (.v undef) (fun G hG H1 V1 L _ _ hr=>.skip eh (by rw [bw hG]; exact hw) hr) (Xi fU ll (hI.put eh (fun _ _=>trivial)) hr eM)
  | @bP _ _ o s _ _ _ ho hw bY hx hs hr =>
   rw [eh] at ho; cases ho
   simp only [if_true] at hs;refine quiet s (fun G hG H1 V1 L hH hB hr=>.bP eh (by rw [bw hG]; exact hw) bY hx ?_ hr) (Xi fU ll (hI.put eh (fun k hd=>qn (hI.pend k hd) hs)) hr eM)
   simp only [if_true];rcases vG with vG | lZ
   ·rw [stab_mv hH vG,cX bY (dB hG)]
    exact hs
   obtain⟨q,b,h1,h2,h3⟩:=fJ lZ;rw [cX bY (dB hG),stab_ld hI h1 hH (fun a ha=>hB b h2 a (h3 a ha))];exact hs
  | call Q ho hw dm bZ hl hc k1 k2 =>
   rw [eh] at ho; cases ho
   rcases vG with vG | lZ
   ·simp [rC,dm] at vG
   obtain⟨q,b,h1,_⟩:=fJ lZ;obtain⟨_,_,h2⟩:=mg h1;rw [dm] at h2; cases h2
  | al d _ ho hw hx ha k1 k2 =>
   rw [eh] at ho; cases ho
   rcases vG with vG | lZ
   ·rw [mv_x vG] at hx; cases hx
   obtain⟨q,b,h1,_⟩:=fJ lZ;obtain⟨_,_,h2⟩:=mg h1;simp [kP,yT,h2] at hx
  | LY _ ho _ dm =>
   rw [eh] at ho; cases ho
   rcases vG with vG | lZ
   ·simp [rC,dm] at vG
   obtain⟨q,b,h1,_⟩:=fJ lZ;obtain⟨_,_,h2⟩:=mg h1;rw [dm] at h2; cases h2
  | B6 ho _ he _ _ =>
   rw [eh] at ho; cases ho
   exfalso
   rcases vG with vG | lZ
   ·cases he <;> simp_all [rC]
   obtain⟨q,b,h1,_⟩:=fJ lZ;obtain⟨_,_,h2⟩:=mg h1;cases he <;> simp_all
  | mk ho _ hx he _ =>
   rw [eh] at ho; cases ho
   exfalso
   rcases vG with vG | lZ
   ·cases he <;> simp_all [rC]
   obtain⟨q,b,h1,_⟩:=fJ lZ;obtain⟨_,_,h2⟩:=mg h1;cases he <;> simp_all
  | LZ hd _ _=>cases hd
  | L9 hd _ _ _=>cases hd
  | aki hd ho _ dm bZ =>
   rw [eh] at ho; cases ho
   rcases vG with vG | lZ
   ·simp [rC,dm] at vG
   obtain⟨q,b,h1,_⟩:=fJ lZ;obtain⟨_,_,h2⟩:=mg h1;rw [dm] at h2; cases h2
  | akg hd ho _ dm bZ =>
   rw [eh] at ho; cases ho
   rcases vG with vG | lZ
   ·simp [rC,dm] at vG
   obtain⟨q,b,h1,_⟩:=fJ lZ;obtain⟨_,_,h2⟩:=mg h1;rw [dm] at h2; cases h2
  | mo Q hd ho =>
   rw [eh] at ho; cases ho
   have h1:=(hd rfl).1;rcases vG with vG | lZ
   ·unfold o6 at h1
    split at h1 <;> simp_all [rC]
   obtain⟨q,b,h3,_⟩:=fJ lZ;obtain⟨_,_,h2⟩:=mg h3;simp [o6,h2] at h1
variable {P:Program} {N:Nat} {w0:World} {F:Fm} {H:List aT} {Vs V V0:aa} {ρ:Nat->Nat × Nat} {a:Act} {w:World}
def iF (o:Oper):Bool:=match o.op with | .buildSlice ..=>true | _=>false
theorem Mk.from {o:Oper} {F F1 F':Fm} {H':List aT} {V':aa} (h:Mk P o F1 H V F' H' V') (hs:iF o=true) (he:∀ x∈o.op.operands,ev H F1 x=ev H F x) :
  ∃ b,H'=H++[b]/\V'=V/\F'=au F1 o.dst (.o H.length)/\Mk P o F H V (au F o.dst (.o H.length)) (H++[b]) V:=by
 cases h with
 | @bs t n parts e sz aD cells i h1 h2 h3 h4 h5 h6 h7 h8 h9 yg =>
  rw [iC (F:=F) fun p hp=>he p.2 (by rw [h1]; simp only [Op.operands]; exact List.mem_toArray.2 (List.mem_map_of_mem hp))] at h7
  exact⟨_,rfl,rfl,rfl,.bs h1 h2 h3 h4 h5 h6 h7 h8 h9 yg⟩
 | mk h1=>simp [iF,h1] at hs
 | ap h1=>simp [iF,h1] at hs
 | apnil h1=>simp [iF,h1] at hs
 | apzero h1=>simp [iF,h1] at hs
 | cp h1=>simp [iF,h1] at hs
def Q2 (ops:Array Oper) (j i:Nat):Prop:=∃ oj oi,ops[j]?=some oj/\ops[i]?=some oi/\oj.apart ops oi=true/\cR ops oj=0
def OutB (P:Program) (ops:Array Oper) (V0:aa) (K:Kt) (A C:List Nat) (o:Oper) (F:Fm) (H:List aT) (V:aa):Prop :=
 (want ops F o.guard=some false/\R P ops true V0 K (A++C) (au F o.dst (.v undef)) H V) \/
 (want ops F o.guard=some true/\ph o.op=false/\∃ s,bP P V0 H F o=some s/\R P ops true V0 K (A++C) (au F o.dst s) H V) \/
 (want ops F o.guard=some true/\∃ b,Mk P o F H V (au F o.dst (.o H.length)) (H++[b]) V/\R P ops true V0 K (A++C) (au F o.dst (.o H.length)) (H++[b]) V)
theorem Xj {ops:Array Oper} {K:Kt} {i:Nat} {C:List Nat} {oi:Oper} (fU:ops[i]?=some oi) (ll:iF oi=true) (hnx:kP ops oi=false):∀ {A:List Nat} {F:Fm} {V:aa},WfS F H->R P ops true V0 K (A++i :: C) F H V->(∀ j∈A,Q2 ops j i) ->
  OutB P ops V0 K A C oi F H V
 | [],F,V,_,h,_=>by
  have dm:∃ t n p,oi.op=.buildSlice t n p:=by
   unfold iF at ll;split at ll
   ·rename_i t n p ho; exact⟨t,n,p,ho⟩
   cases ll
  obtain⟨t,n,p,dm⟩:=dm;cases h with
  | skip ho hw hr=>rw [fU] at ho; cases ho; exact .inl ⟨hw,hr⟩
  | bP ho hw bY hx hs hr=>rw [fU] at ho; cases ho; exact .inr (.inl ⟨hw,bY,_,by simpa using hs,hr⟩)
  | call Q ho hw iE bZ hl hc k1 k2=>rw [fU] at ho; cases ho; rw [dm] at iE; cases iE
  | LY _ ho _ h1=>rw [fU] at ho; cases ho; rw [dm] at h1; cases h1
  | B6 ho hw he _ hr =>
   rw [fU] at ho; cases ho
   exfalso
   cases he <;> simp_all
  | mk ho hw hx he hr =>
   rw [fU] at ho; cases ho
   obtain⟨b,rfl,rfl,rfl,Md⟩:=he.from ll (fun _ _=>rfl)
   exact .inr (.inr ⟨hw,b,Md,hr⟩)
  | al d _ ho hw hx ha k1 k2 =>
   rw [fU] at ho; cases ho
   rw [hnx] at hx; cases hx
  | LZ hd _ _=>cases hd
  | L9 hd _ _ _=>cases hd
  | aki hd ho _ iE=>rw [fU] at ho; cases ho; rw [dm] at iE; cases iE
  | akg hd ho _ iE=>rw [fU] at ho; cases ho; rw [dm] at iE; cases iE
  | mo Q hd ho=>rw [fU] at ho; cases ho; have:=(hd rfl).1; simp [o6,dm] at this
 | j :: A,F,V,hwf,h,ig=>by
  obtain⟨oj,oi',eh,zd,Xb,vG⟩:=ig j (by simp);rw [fU] at zd; cases zd
  obtain⟨p1,p2,p3⟩:=Oper.apart_spec Xb;have eM:∀ j∈A,Q2 ops j i:=fun k hk=>ig k (by simp [hk])
  have li:∀ (F:Fm) s,∀ t∈oi.looksAt ops,au F oj.dst s t=F t:=fun F s t ht=>dh (fun e=>p1 t e ht)
  have lj:∀ (F:Fm) s,∀ t∈oj.looksAt ops,au F oi.dst s t=F t:=fun F s t ht=>dh (fun e=>p3 t e ht)
  have wi:∀ (F:Fm) s,want ops (au F oj.dst s) oi.guard=want ops F oi.guard:=fun F s=>bw (li F s)
  have ei:∀ (F:Fm) s,∀ x∈oi.op.operands,ev H (au F oj.dst s) x=ev H F x:=fun F s=>dB (li F s)
  have comm:∀ (F:Fm) s u,au (au F oj.dst s) oi.dst u=au (au F oi.dst u) oj.dst s:=fun F s u=>mZ (fun t ht e=>p2 t ht e)
  have quiet:∀ (sj:SV),(∀ (G:Fm),(∀ t∈oj.looksAt ops,G t=F t)->∀ L,R P ops true V0 K L (au G oj.dst sj) H V->R P ops true V0 K (j :: L) G H V) ->
    (∀ (b:aT) (G:Fm),(∀ t∈oj.looksAt ops,G t=F t)->∀ L,R P ops true V0 K L (au G oj.dst sj) (H++[b]) V->R P ops true V0 K (j :: L) G (H++[b]) V) ->
    OutB P ops V0 K A C oi (au F oj.dst sj) H V->OutB P ops V0 K (j :: A) C oi F H V:=by
   intro sj step stepB rA;rcases rA with ⟨hw,hr⟩ | ⟨hw,bY,s,hs,hr⟩ | ⟨hw,b,he,hr⟩
   ·rw [wi] at hw
    rw [comm] at hr;exact .inl ⟨hw,step _ (lj F _) (A++C) hr⟩
   ·rw [wi] at hw
    rw [comm] at hr;rw [cX bY (ei F sj)] at hs;exact .inr (.inl ⟨hw,bY,s,hs,step _ (lj F _) (A++C) hr⟩)
   rw [wi] at hw;rw [comm] at hr;obtain⟨b',gx,_,_,Md⟩:=he.from (F:=F) ll (ei F sj)
   obtain rfl:b=b':=by simpa using gx
   exact .inr (.inr ⟨hw,b,Md,stepB b _ (lj F _) (A++C) hr⟩)
  cases h with
  | skip ho hw hr =>
   rw [eh] at ho; cases ho
   exact quiet (.v undef) (fun G hG L hr=>.skip eh (by rw [bw hG]; exact hw) hr) (fun b G hG L hr=>.skip eh (by rw [bw hG]; exact hw) hr) (Xj fU ll hnx (hwf.put trivial) hr eM)
  | @bP _ _ o s _ _ _ ho hw bY hx hs hr =>
   rw [eh] at ho; cases ho
   simp only [if_true] at hs;refine quiet s (fun G hG L hr=>.bP eh (by rw [bw hG]; exact hw) bY hx ?_ hr) (fun b G hG L hr=>.bP eh (by rw [bw hG]; exact hw) bY hx ?_ hr) (Xj fU ll hnx (hwf.put (CC hwf hs)) hr eM)
   ·simp only [if_true]
    rw [cX bY (dB hG)];exact hs
   simp only [if_true];rw [cX bY (dB hG),Xc hwf];exact hs
  | call Q ho hw dm bZ hl hc k1 k2=>rw [eh] at ho; cases ho; have:=ie (ops:=ops) dm bZ; omega
  | al d _ ho hw hx ha k1 k2=>rw [eh] at ho; cases ho; have:=sX hx; omega
  | LY _ ho _ dm=>rw [eh] at ho; cases ho; have:=HJ (ops:=ops) dm; omega
  | B6 ho _ he _ _=>rw [eh] at ho; cases ho; have:=mf (ops:=ops) (.inl he); omega
  | mk ho _ hx he _=>rw [eh] at ho; cases ho; have:=mf (ops:=ops) (.inr ⟨hx rfl,he⟩); omega
  | LZ hd _ _=>cases hd
  | L9 hd _ _ _=>cases hd
  | aki hd ho _ dm bZ=>rw [eh] at ho; cases ho; have:=ku dm bZ (hd rfl).1; omega
  | akg hd ho _ dm bZ=>rw [eh] at ho; cases ho; have:=ku dm bZ (hd rfl); omega
  | mo Q hd ho=>rw [eh] at ho; cases ho; have:=yp (ops:=ops) (hd rfl).1; omega
variable {P:Program} {N B:Nat} {w0:World} {F F0:Fm} {H H0:List aT} {Vs V V0:aa} {ρ:Nat->Nat × Nat} {a:Act} {w:World}
def My (ops:Array Oper):List aT:=ops.toList.filterMap fun o=>match o.op with
 | .alloc _=>match o.dst with | some d=>some (rsvB d) | none=>none
 | _=>none
theorem cv_at {ρ ρ':Nat->Nat × Nat} {k:Nat} {b:aT} (hρ:∀ j,j≠k->ρ' j=ρ j) {s:SV} (hs:nr k s):cv ρ' (H.set k b) s=cv ρ H s:=by
 cases s with
 | v x=>rfl
 | k b=>rfl
 | p j off =>
  have hj:j≠k:=hs;simp only [cv,List.getElem?_set_ne (Ne.symm hj),hρ j hj]
 | o j =>
  have hj:j≠k:=hs;simp only [cv,List.getElem?_set_ne (Ne.symm hj),hρ j hj]
theorem Sat.fill (h:Sat P N w0.heap.size F H V ρ a w) (hF:Fr Vs V w0 w) {dst:Option Tmp} (hd:∀ d,dst=some d->d<N) {k:Nat} (hk:k<H.length) (hn:rB k F H) (l:List Value) (t:TypeId) :
  ∃ ρ',Sat P N w0.heap.size (au F dst (.p k 0)) (H.set k (.c (l.map .v) t)) V ρ' (a.put dst (.pointer (some ⟨w.heap.size,0,none⟩))) (w.alloc (.cells l.toArray t)) /\
   Fr Vs V w0 (w.alloc (.cells l.toArray t)):=by
 let ρ':Nat->Nat × Nat:=fun i=>if i=k then (w.heap.size,0) else ρ i
 have hρ:∀ j,j≠k->ρ' j=ρ j:=fun j hj=>if_neg hj
 have Hm:ρ' k=(w.heap.size,0):=if_pos rfl;have key:∀ j c,(H.set k (.c (l.map .v) t))[j]?=some c->(j≠k/\H[j]?=some c)\/(j=k/\c=.c (l.map .v) t):=by
  intro j c hc
  by_cases e:j=k
  ·subst e
   rw [List.getElem?_set_self hk] at hc;exact .inr ⟨rfl,(Option.some.inj hc).symm⟩
  rw [List.getElem?_set_ne (Ne.symm e)] at hc;exact .inl ⟨e,hc⟩
 have bR:∀ j c,H[j]?=some c->c.live=true->(ρ j).1≠w.heap.size:=fun j c hc hl=>by have:=h.yo j c hc hl; omega
 have h1:Sat P N w0.heap.size F (H.set k (.c (l.map .v) t)) V ρ' a (w.alloc (.cells l.toArray t)):=by
  refine⟨h.defers,h.size,fun t s x hF hx=>h.slot t s x hF (by rw [cv_at hρ (hn.nF t s hF)] at hx; exact hx),?_,?_,?_,?_,?_,?_,?_⟩
  ·intro j c hc
   rcases key j c hc with ⟨hj,ic⟩ | ⟨rfl,rfl⟩
   ·refine(h.box j c ic).Hz (hρ j hj) (fun cs t sJ s hs=>.inl (cv_at hρ ?_)) (fun hl=>heap_alloc_old w _ (h.yo j c ic hl))
    subst sJ;exact hn.nH j cs t ic s hs
   exact⟨l,by rw [Hm]; exact heap_alloc_new w _,by simp,fun j s x hs hx=>fS j s x hs hx⟩
  ·intro i j b c hb hc vp eG he
   rcases key i b hb with ⟨hi,gx⟩ | ⟨rfl,rfl⟩ <;> rcases key j c hc with ⟨hj,ic⟩ | ⟨rfl,rfl⟩
   ·rw [hρ i hi,hρ j hj] at he
    exact h.inj i j b c gx ic vp eG he
   ·rw [hρ i hi,Hm] at he
    exact(bR i b gx vp he).elim
   ·rw [hρ j hj,Hm] at he
    exact(bR j c ic eG he.symm).elim
   rfl
  ·intro j c hc eG
   rcases key j c hc with ⟨hj,ic⟩ | ⟨rfl,rfl⟩
   ·rw [hρ j hj]; exact h.base j c ic eG
   rw [Hm]; exact hF.size
  ·intro j c hc eG
   rcases key j c hc with ⟨hj,ic⟩ | ⟨rfl,rfl⟩
   ·rw [hρ j hj]; exact h.priv j c ic eG
   rw [Hm]; exact h.know.fI
  ·intro b cs t hb
   have lP:=h.know b cs t hb;rw [heap_alloc_old w _ (Array.getElem?_eq_some_iff.1 lP).1];exact lP
  ·intro t s hF; rw [List.length_set]; exact h.wfF t s hF
  intro j cs t hj s hs;rw [List.length_set];rcases key j _ hj with ⟨_,ic⟩ | ⟨rfl,ic⟩
  ·exact h.wfH j cs t ic s hs
  cases ic
  simp at hs;obtain⟨x,_,rfl⟩:=hs
  trivial
 refine⟨ρ',h1.put hd (by simp [lW,hk]) (fun x hx=>?_),hF.grow (by simp) rfl rfl rfl (fun k hk _=>heap_alloc_old w _ hk)⟩
 simp [cv,Hm,List.getElem?_set_self hk] at hx;exact hx.symm
theorem Mz {o:Oper} {t:TypeId} {z:List Value} (ho:o.op=.alloc t) (hz:zeroOf P t=some z):(execOp a.eval o).run P w=.ok (.value (.pointer (some ⟨w.heap.size,0,none⟩))) (w.alloc (.cells z.toArray t)):=by
 unfold zeroOf at hz;split at hz
 ·rename_i i hi
  split at hz
  ·rename_i z' EJ
   simp at hz;subst hz;simp [execOp,ho,Instr.alloc,zeroValue,typeInfo,hi,EJ,newVar,newRow]
  cases hz
 cases hz
theorem Sat.padd (h:Sat P N B F H V ρ a w) (x:Value):Sat P N B F (H++[.f x]) V ρ a w:=by
 have key:∀ j c,(H++[aT.f x])[j]?=some c->(j<H.length/\H[j]?=some c)\/(j=H.length/\c=.f x):=by
  intro j c hc
  by_cases hj:j<H.length
  ·rw [List.getElem?_append_left hj] at hc; exact .inl ⟨hj,hc⟩
  rw [List.getElem?_append_right (by omega)] at hc;have hz:j-H.length=0:=by
   rcases Nat.eq_zero_or_pos (j-H.length) with h0 | h0
   ·exact h0
   rw [List.getElem?_eq_none (by simp; omega)] at hc; cases hc
  rw [hz] at hc;simp at hc;exact .inr ⟨by omega,hc.symm⟩
 have live:∀ (j:Nat) (c:aT),(H++[aT.f x])[j]?=some c->c.live=true->H[j]?=some c:=by
  intro j c hc hl;rcases key j c hc with ⟨_,h1⟩ | ⟨_,rfl⟩
  ·exact h1
  cases hl
 refine⟨h.defers,h.size,fun t s y hF hx=>h.slot t s y hF (by rw [mY (fun _ _=>rfl) (h.wfF t s hF)] at hx; exact hx),?_,fun i j b c hb hc vp eG he=>h.inj i j b c (live i b hb vp) (live j c hc eG) vp eG he,
  fun i b hb hl=>h.base i b (live i b hb hl) hl,fun i b hb hl=>h.priv i b (live i b hb hl) hl,h.know,fun t s hF=>lg (by simp) (h.wfF t s hF),?_⟩
 ·intro j c hc
  rcases key j c hc with ⟨hj,ic⟩ | ⟨rfl,rfl⟩
  ·refine(h.box j c ic).Hz rfl (fun cs t sJ s hs=>.inl (mY (fun _ _=>rfl) ?_)) (fun _=>rfl)
   subst sJ;exact h.wfH j cs t ic s hs
  trivial
 intro j cs t hj s hs;rcases key j _ hj with ⟨_,ic⟩ | ⟨rfl,ic⟩
 ·exact lg (by simp) (h.wfH j cs t ic s hs)
 cases ic
theorem Sat.padsS:∀ (l:List aT) {H:List aT},Sat P N B F H V ρ a w->(∀ b∈l,∃ x,b=.f x)->Sat P N B F (H++l) V ρ a w
 | [],_,h,_=>by rw [List.append_nil]; exact h
 | b :: r,H,h,hl=>by
  obtain⟨x,rfl⟩:=hl b (by simp);have:=Sat.padsS r (h.padd x) (fun c hc=>hl c (by simp [hc]));simpa using this
theorem Xk {ops:Array Oper}:∀ b∈Sx.My ops,∃ x,b=.f x:=by
 intro b hb;simp only [Sx.My,List.mem_filterMap] at hb;obtain⟨o,_,ho⟩:=hb;split at ho
 ·split at ho
  ·exact⟨_,(Option.some.inj ho).symm⟩
  cases ho
 cases ho
def MA:aT->Bool
 | .f (.tuple _)=>true
 | _=>false
theorem SA {d:Nat} {b:aT} (h:iD d b=true):MA b=true:=by
 unfold iD at h;split at h
 ·rfl
 cases h
theorem Inv.start {ops:Array Oper} (h:Sat P N B F H V ρ a w) (hH:H.all (fun b=>!MA b)=true):Inv ops F H F (H++My ops):=by
 refine⟨fun _ _=>rfl,fun i cs t hi=>⟨cs,t,by rw [List.getElem?_append_left (List.getElem?_eq_some_iff.1 hi).1]; exact hi⟩,fun k hk=>?_⟩
 have aN:H.length<=k:=by
  obtain⟨b,d,h1,h2⟩:=hk
  by_cases hl:k<H.length
  ·exfalso
   rw [List.getElem?_append_left hl] at h1;have:=List.all_eq_true.1 hH b (List.mem_of_getElem? h1);rw [SA h2] at this;cases this
  omega
 have nri:∀ {s:SV},lW H.length s->nr k s:=by
  intro s hs;cases s with
  | v x=>trivial
  | k b=>trivial
  | p i off=>have hs:i<H.length:=hs; exact(show i≠k by omega)
  | o i=>have hs:i<H.length:=hs; exact(show i≠k by omega)
 refine⟨fun t s hs=>nri (h.wfF t s hs),fun i cs t hc s hs=>?_⟩
 by_cases hi:i<H.length
 ·rw [List.getElem?_append_left hi] at hc
  exact nri (h.wfH i cs t hc s hs)
 rw [List.getElem?_append_right (by omega)] at hc;obtain⟨x,hx⟩:=Xk _ (List.mem_of_getElem? hc);cases hx
theorem MB {k:Nat} {s:SV} {l:List SV} (hs:nr k s) (hl:cellsOf H s=some l):∀ u∈l,nr k u:=by
 intro u hu;cases s with
 | v y =>
  simp only [cellsOf] at hl;split at hl
  ·simp at hl; subst hl; simp at hu; obtain⟨_,_,rfl⟩:=hu; trivial
  cases hl
 | k b=>simp [cellsOf] at hl; subst hl; simp at hu; subst hu; trivial
 | p i off =>
  simp only [cellsOf] at hl;split at hl
  ·simp at hl; subst hl; simp at hu; subst hu; exact hs
  cases hl
 | o i =>
  simp only [cellsOf] at hl;split at hl
  ·simp at hl; subst hl; simp at hu; subst hu; exact hs
  cases hl
theorem rB.app {k:Nat} (h:rB k F H) {b:aT} (hb:∀ cs t,b=.c cs t->∀ s∈cs,nr k s):rB k F (H++[b]):=by
 refine⟨h.nF,fun i cs t hc s hs=>?_⟩
 by_cases hi:i<H.length
 ·rw [List.getElem?_append_left hi] at hc
  exact h.nH i cs t hc s hs
 rw [List.getElem?_append_right (by omega)] at hc;rcases Nat.eq_zero_or_pos (i-H.length) with h0 | h0
 ·rw [h0] at hc
  simp at hc;exact hb cs t hc s hs
 rw [List.getElem?_eq_none (by simp; omega)] at hc; cases hc
theorem rB.setB {k i:Nat} (h:rB k F H) {b:aT} (hb:∀ cs t,b=.c cs t->∀ s∈cs,nr k s):rB k F (H.set i b):=by
 refine⟨h.nF,fun j cs t hc s hs=>?_⟩
 by_cases e:j=i
 ·subst e
  by_cases hj:j<H.length
  ·rw [List.getElem?_set_self hj] at hc
   exact hb cs t (Option.some.inj hc) s hs
  rw [List.getElem?_eq_none (by simpa using hj)] at hc; cases hc
 rw [List.getElem?_set_ne (Ne.symm e)] at hc;exact h.nH j cs t hc s hs
theorem isC_app {b:aT} (h:∀ (i:Nat) cs t,H0[i]?=some (.c cs t)->∃ iw t',H[i]?=some (.c iw t')):∀ (i:Nat) cs t,H0[i]?=some (.c cs t)->∃ iw t',(H++[b])[i]?=some (.c iw t'):=by
 intro i cs t hi;obtain⟨iw,t',h1⟩:=h i cs t hi;exact⟨iw,t',by rw [List.getElem?_append_left (List.getElem?_eq_some_iff.1 h1).1]; exact h1⟩
theorem EM {k:Nat} {b:aT} (h:∀ (i:Nat) cs t,H0[i]?=some (.c cs t)->∃ iw t',H[i]?=some (.c iw t')) (hb:(∃ cs t,b=.c cs t)\/∀ cs t,H[k]?≠some (.c cs t)):∀ (i:Nat) cs t,H0[i]?=some (.c cs t)->∃ iw t',(H.set k b)[i]?=some (.c iw t'):=by
 intro i cs t hi;obtain⟨iw,t',h1⟩:=h i cs t hi
 by_cases e:i=k
 ·subst e
  rcases hb with ⟨cs2,t2,rfl⟩ | hb
  ·exact⟨cs2,t2,by rw [List.getElem?_set_self (List.getElem?_eq_some_iff.1 h1).1]⟩
  exact(hb _ _ h1).elim
 exact⟨iw,t',by rw [List.getElem?_set_ne (Ne.symm e)]; exact h1⟩
theorem Inv.B' {ops:Array Oper} {i:Nat} {o:Oper} {x:Value} (h:Inv ops F0 H0 F H) (ho:ops[i]?=some o):Inv ops F0 H0 (au F o.dst (.v x)) H:=h.put ho (fun _ _=>trivial)
theorem Inv.SB {ops:Array Oper} {i:Nat} {o:Oper} {s:SV} (h:Inv ops F0 H0 F H) (ho:ops[i]?=some o) {b:aT} (hr:∀ d,iD d b=false) (hb:∀ k,k<H.length->∀ cs t,b=.c cs t->∀ s∈cs,nr k s)
  (hs:∀ k,k<H.length->nr k s):Inv ops F0 H0 (au F o.dst s) (H++[b]):=by
 have h1:=h.put ho (s:=s) (fun k hk=>hs k hk.lt);refine⟨h1.agree,isC_app h.isC,fun k hk=>?_⟩
 have hk:=hk.of_app hr;exact(h1.pend k hk).app (hb k hk.lt)
theorem Inv.setL {ops:Array Oper} {i j:Nat} {o:Oper} {s:SV} (h:Inv ops F0 H0 F H) (ho:ops[i]?=some o) {b b':aT} (hj:H[j]?=some b) (hr:∀ d,iD d b'=false) (hb:∀ k,Sw H k->∀ cs t,b'=.c cs t->∀ s∈cs,nr k s)
  (hc:(∃ cs t,b'=.c cs t)\/∀ cs t,b≠.c cs t) (hs:∀ k,Sw H k->nr k s):Inv ops F0 H0 (au F o.dst s) (H.set j b'):=by
 have h1:=h.put ho (s:=s) hs;refine⟨h1.agree,EM h.isC (hc.imp id fun hc cs t e=>hc cs t (by rw [hj] at e; exact Option.some.inj e)),fun k hk=>?_⟩
 obtain⟨_,hk⟩:=hk.Mx hr;exact(h1.pend k hk).setB (hb k hk)
theorem Inv.B6 {ops:Array Oper} {i:Nat} {o:Oper} {F':Fm} {H':List aT} {V':aa} (hI:Inv ops F0 H0 F H) (ho:ops[i]?=some o) (h:Eff P o F H V F' H' V'):Inv ops F0 H0 F' H':=by
 cases h with
 | box h1 h2=>exact hI.SB ho (fun _=>rfl) (fun k hk cs t e s hs=>by cases e; simp at hs; obtain⟨_,_,rfl⟩:=hs; trivial) (fun k hk=>(show H.length≠k by omega))
 | alloc h1 h2=>exact hI.SB ho (fun _=>rfl) (fun k hk cs t e s hs=>by cases e; simp at hs; obtain⟨_,_,rfl⟩:=hs; trivial) (fun k hk=>(show H.length≠k by omega))
 | stC h1 h2 h3 h4 h5 h6 h7 =>
  refine hI.setL ho h3 (fun _=>rfl) (fun k hk cs t e s hs=>?_) (.inl ⟨_,_,rfl⟩) (fun _ _=>trivial)
  cases e
  simp only [aX,List.mem_append] at hs;rcases hs with (hs | hs) | hs
  ·exact(hI.pend k hk).nH _ _ _ h3 s (List.mem_of_mem_take hs)
  ·exact MB ((hI.pend k hk).ev h4) h5 s hs
  exact(hI.pend k hk).nH _ _ _ h3 s (List.mem_of_mem_drop hs)
 | stA h1 h2 h3=>exact hI.setL ho h3 (fun _=>rfl) (fun k hk cs t e=>by cases e) (.inr (fun _ _ e=>by cases e)) (fun _ _=>trivial)
 | stV=>exact hI.put ho (fun _ _=>trivial)
theorem Inv.mk' {ops:Array Oper} {i:Nat} {o:Oper} {F':Fm} {H':List aT} {V':aa} (hI:Inv ops F0 H0 F H) (ho:ops[i]?=some o) (h:Mk P o F H V F' H' V'):Inv ops F0 H0 F' H':=by
 cases h with
 | bs=>exact hI.SB ho (fun _=>rfl) (fun k hk cs t e=>by cases e) (fun k hk=>(show H.length≠k by omega))
 | mk=>exact hI.SB ho (fun _=>rfl) (fun k hk cs t e=>by cases e) (fun k hk=>(show H.length≠k by omega))
 | @ap c s x t e i z j n xs sx ys m h1 h2 h3 h4 h5 h6 h7 h8 h9 yg hj =>
  have g1:Inv ops F0 H0 F (H.set j .x):=by
   refine⟨hI.agree,EM hI.isC (.inr fun cs t e=>by rw [hj] at e; cases e),fun k hk=>?_⟩
   exact(hI.pend k (hk.Mx (fun _=>rfl)).2).setB (fun cs t e=>by cases e)
  have:=g1.SB ho (s:=.o H.length) (b:=.a (n+m) (xs++ys) e) (fun _=>rfl) (fun k hk cs t e=>by cases e) (fun k hk=>by
   rw [List.length_set] at hk;exact(show H.length≠k by omega))
  simpa using this
 | apnil=>exact hI.SB ho (fun _=>rfl) (fun k hk cs t e=>by cases e) (fun k hk=>(show H.length≠k by omega))
 | apzero=>exact hI.put ho (fun _ _=>trivial)
 | cp h1 h2 h3 h4 h5 h6 h7 h8 hj=>exact hI.setL ho hj (fun _=>rfl) (fun k hk cs t e=>by cases e) (.inr (fun _ _ e=>by cases e)) (fun _ _=>trivial)
theorem Inv.LY {ops:Array Oper} {i:Nat} {o:Oper} {k:Nat} {z:List Value} {t:TypeId} (hI:Inv ops F0 H0 F H) (ho:ops[i]?=some o):Inv ops F0 H0 (au F o.dst (.p k 0)) (H.set k (.c (z.map .v) t)):=by
 refine⟨fun u hu=>?_,EM hI.isC (.inl ⟨_,_,rfl⟩),fun m hm=>?_⟩
 ·rw [dh (fun e=>by rw [yr ho e] at hu; cases hu)]
  exact hI.agree u hu
 obtain⟨bR,hm⟩:=hm.Mx (fun _=>rfl);exact(hI.pend m hm).fill (Ne.symm bR)
variable {P:Program} {N:Nat} {w0:World} {F F0:Fm} {H H0:List aT} {Vs V V0:aa} {ρ:Nat->Nat × Nat} {a:Act} {w:World}
def MC (o:Oper):Bool:=match o.op with
 | .call c=>(match c.callee with | .builtin .append=>true | _=>false)
 | _=>false
def Q3 (F0:Fm) (ds:List Nat) (o:Oper):Bool:=match o.op with
 | .move (.tmp t)=>(match ds.contains t with
  | true=>false
  | false=>match F0 t with | some (.v _)=>true | _=>false)
 | _=>false
theorem zf {F0:Fm} {ds:List Nat} {o:Oper} (h:Q3 F0 ds o=true):∃ t y,o.op=.move (.tmp t)/\ds.contains t=false/\F0 t=some (.v y):=by
 unfold Q3 at h;split at h
 ·rename_i t ho
  split at h
  ·cases h
  rename_i HL;split at h
  ·rename_i y hF; exact⟨t,y,ho,HL,hF⟩
  cases h
 cases h
theorem kQ {o:Oper} (h:MC o=true):∃ c,o.op=.call c/\c.callee=.builtin .append:=by
 unfold MC at h;split at h
 ·rename_i c ho
  split at h
  ·rename_i hc; exact⟨c,ho,hc⟩
  cases h
 cases h
theorem Mk.fromU {o:Oper} {F F1 F':Fm} {H':List aT} {V':aa} (h:Mk P o F1 H V F' H' V') (he:∀ x∈o.op.operands,ev H F1 x=ev H F x) :
  ∃ u,F'=au F1 o.dst u/\Mk P o F H V (au F o.dst u) H' V':=by
 have arg:∀ {c:Call} {s x:Operand},o.op=.call c->c.args.toList=[s,x]->ev H F1 s=ev H F s/\ev H F1 x=ev H F x:=by
  intro c s x ho ha;have hm:∀ y∈c.args.toList,y∈o.op.operands:=by
   intro y hy;rw [ho];simp only [Op.operands,Call.operands];rw [Array.mem_def];simp only [Array.toList_append,List.mem_append]
   first | (left; exact hy) | (right; exact hy) | exact hy
  exact⟨he s (hm s (by simp [ha])),he x (hm x (by simp [ha]))⟩
 cases h with
 | @bs t n parts e sz aD cells i h1 h2 h3 h4 h5 h6 h7 h8 h9 yg =>
  rw [iC (F:=F) fun p hp=>he p.2 (by rw [h1]; simp only [Op.operands]; exact List.mem_toArray.2 (List.mem_map_of_mem hp))] at h7
  exact⟨_,rfl,.bs h1 h2 h3 h4 h5 h6 h7 h8 h9 yg⟩
 | @mk t l c e i z kl kc L C h1 h2 h3 h4 h5 h6 h7 h8 h9 yg =>
  rw [he l (by simp [h1,Op.operands])] at h5;rw [he c (by simp [h1,Op.operands])] at h6;exact⟨_,rfl,.mk h1 h2 h3 h4 h5 h6 h7 h8 h9 yg⟩
 | ap h1 h2 h3 h4 h5 h6 h7 h8 h9 yg SC qK h13 h14 h15 h16 =>
  obtain⟨e1,e2⟩:=arg h1 h3;rw [e1] at yg; rw [e2] at qK
  exact⟨_,rfl,.ap h1 h2 h3 h4 h5 h6 h7 h8 h9 yg SC qK h13 h14 h15 h16⟩
 | apnil h1 h2 h3 h4 h5 h6 h7 h8 h9 yg SC qK h13 h14 h15 =>
  obtain⟨e1,e2⟩:=arg h1 h3;rw [e1] at yg; rw [e2] at SC
  exact⟨_,rfl,.apnil h1 h2 h3 h4 h5 h6 h7 h8 h9 yg SC qK h13 h14 h15⟩
 | apzero h1 h2 h3 h4 h5 h6 h7 h8 h9 yg SC =>
  obtain⟨e1,e2⟩:=arg h1 h3;rw [e1] at h7; rw [e2] at h8
  exact⟨_,rfl,.apzero h1 h2 h3 h4 h5 h6 h7 h8 h9 yg SC⟩
 | cp h1 h2 h3 h4 h5 h6 h7 h8 h9 yg SC qK =>
  obtain⟨e1,e2⟩:=arg h1 h3;rw [e1] at h8; rw [e2] at yg
  exact⟨_,rfl,.cp h1 h2 h3 h4 h5 h6 h7 h8 h9 yg SC qK⟩
theorem Mk.knows {o:Oper} {F F':Fm} {H':List aT} {V':aa} (h:Mk P o F H V F' H' V'):V'=V:=by cases h <;> rfl
theorem AkS.from {o:Oper} {F F1:Fm} {nl nl':Prop} {K K':Value->aa->Prop} (h:AkS P o F1 H V nl K) (Xb:MC o=true) (he:∀ x∈o.op.operands,ev H F1 x=ev H F x)
  (hn:nl->nl') (hk:∀ y V',K y V'->K' y V'):AkS P o F H V nl' K':=by
 have arg:∀ {c:Call} {s x:Operand},o.op=.call c->c.args.toList=[s,x]->ev H F1 s=ev H F s/\ev H F1 x=ev H F x:=by
  intro c s x ho ha;have hm:∀ y∈c.args.toList,y∈o.op.operands:=by
   intro y hy;rw [ho];simp only [Op.operands,Call.operands];rw [Array.mem_def];simp only [Array.toList_append,List.mem_append]
   first | (left; exact hy) | (right; exact hy) | exact hy
  exact⟨he s (hm s (by simp [ha])),he x (hm x (by simp [ha]))⟩
 cases h with
 | i h0 h1 h2 h3 h4 h5 h6 h7 h8 h9 yg SC qK h13 h14 h15 =>
  obtain⟨e1,e2⟩:=arg h1 h3;rw [e1] at h7; rw [e2] at h8
  exact .i (hn h0) h1 h2 h3 h4 h5 h6 h7 h8 h9 yg SC qK h13 h14 (hk _ _ h15)
 | g h1 h2 h3 h4 h5 h6 h7 h8 h9 yg SC qK h13 h14 h15 h16 h17 h18 =>
  obtain⟨e1,e2⟩:=arg h1 h3;rw [e1] at h9; rw [e2] at yg
  exact .g h1 h2 h3 h4 h5 h6 h7 h8 h9 yg SC qK h13 h14 h15 h16 h17 fun b cap spare q1 q2 q3=>hk _ _ (h18 b cap spare q1 q2 q3)
 | m Q h0 h1 =>
  obtain⟨c,ho,_⟩:=kQ Xb;simp [o6,ho] at h1
def Q4 (ops:Array Oper) (F0:Fm) (j i:Nat):Prop:=∃ oj oi,ops[j]?=some oj/\ops[i]?=some oi/\oj.apart ops oi=true/\Q3 F0 (dstsOf ops) oj=true
def OutP (P:Program) (ops:Array Oper) (V0:aa) (K:Kt) (A C:List Nat) (o:Oper) (F:Fm) (H:List aT) (V:aa):Prop :=
 (want ops F o.guard=some false/\R P ops true V0 K (A++C) (au F o.dst (.v undef)) H V) \/
 (want ops F o.guard=some true/\ph o.op=false/\∃ s,bP P V0 H F o=some s/\R P ops true V0 K (A++C) (au F o.dst s) H V) \/
 (want ops F o.guard=some true/\∃ u H' V',Mk P o F H V (au F o.dst u) H' V'/\R P ops true V0 K (A++C) (au F o.dst u) H' V') \/
 (want ops F o.guard=some true/\AkS P o F H V (∀ k∈A++C,∀ ok,ops[k]?=some ok->cn ok=false) (fun y V'=>R P ops true V0 K (A++C) (au F o.dst (.v y)) H V'))
theorem Xl {ops:Array Oper} {K:Kt} {i:Nat} {C:List Nat} {oi:Oper} (fU:ops[i]?=some oi) (hap0:MC oi=true) (hnx:kP ops oi=false):∀ {A:List Nat} {F:Fm} {V:aa},(∀ t,(dstsOf ops).contains t=false->F t=F0 t) ->
  R P ops true V0 K (A++i :: C) F H V->(∀ j∈A,Q4 ops F0 j i)->OutP P ops V0 K A C oi F H V
 | [],F,V,_,h,_=>by
  obtain⟨c,dm,hca⟩:=kQ hap0;cases h with
  | skip ho hw hr=>rw [fU] at ho; cases ho; exact .inl ⟨hw,hr⟩
  | bP ho hw bY hx hs hr=>rw [fU] at ho; cases ho; exact .inr (.inl ⟨hw,bY,_,by simpa using hs,hr⟩)
  | call Q ho hw iE bZ hl hc k1 k2=>rw [fU] at ho; cases ho; rw [dm] at iE; cases iE; exact(bZ.nobi _ hca).elim
  | LY _ ho _ h1=>rw [fU] at ho; cases ho; rw [dm] at h1; cases h1
  | B6 ho hw he _ hr =>
   rw [fU] at ho; cases ho
   exfalso
   cases he <;> simp_all
  | mk ho hw hx he hr =>
   rw [fU] at ho; cases ho
   obtain⟨u,rfl,Md⟩:=he.fromU (F:=F) (fun _ _=>rfl);exact .inr (.inr (.inl ⟨hw,u,_,_,Md,hr⟩))
  | al d _ ho hw hx ha k1 k2 =>
   rw [fU] at ho; cases ho
   rw [hnx] at hx; cases hx
  | LZ hd _ _=>cases hd
  | L9 hd _ _ _=>cases hd
  | aki hd ho hw dm bZ ha ht hu hi hs hx eI h1 hm hr hv dY hk =>
   rw [fU] at ho; cases ho
   exact .inr (.inr (.inr ⟨hw,.i (hd rfl).2 dm bZ ha ht hu hi hs hx eI h1 hm hr hv dY hk⟩))
  | akg hd ho hw dm bZ ha ht hu hi hz B5 hs hx eI hm hr Mr jT hold Hw hk =>
   rw [fU] at ho; cases ho
   exact .inr (.inr (.inr ⟨hw,.g dm bZ ha ht hu hi hz B5 hs hx eI hm hr Mr jT hold Hw hk⟩))
  | mo Q hd ho=>rw [fU] at ho; cases ho; have:=(hd rfl).1; simp [o6,dm] at this
 | j :: A,F,V,hag,h,ig=>by
  obtain⟨oj,oi',eh,zd,Xb,vG⟩:=ig j (by simp);rw [fU] at zd; cases zd
  obtain⟨p1,p2,p3⟩:=Oper.apart_spec Xb;obtain⟨t0,y0,hmo,HL,hF0⟩:=zf vG;have eM:∀ j∈A,Q4 ops F0 j i:=fun k hk=>ig k (by simp [hk])
  have li:∀ (F:Fm) s,∀ t∈oi.looksAt ops,au F oj.dst s t=F t:=fun F s t ht=>dh (fun e=>p1 t e ht)
  have lj:∀ (F:Fm) s,∀ t∈oj.looksAt ops,au F oi.dst s t=F t:=fun F s t ht=>dh (fun e=>p3 t e ht)
  have wi:∀ (F:Fm) s,want ops (au F oj.dst s) oi.guard=want ops F oi.guard:=fun F s=>bw (li F s)
  have ei:∀ (F:Fm) s,∀ x∈oi.op.operands,ev H (au F oj.dst s) x=ev H F x:=fun F s=>dB (li F s)
  have comm:∀ (F:Fm) s u,au (au F oj.dst s) oi.dst u=au (au F oi.dst u) oj.dst s:=fun F s u=>mZ (fun t ht e=>p2 t ht e)
  have hnlj:cn oj=false:=by simp [cn,hmo]
  have hag':∀ sj,∀ t,(dstsOf ops).contains t=false->au F oj.dst sj t=F0 t:=by
   intro sj t ht;rw [dh (fun e=>by rw [yr eh e] at ht; cases ht)]
   exact hag t ht
  have quiet:∀ (sj:SV),(∀ (u:SV) (H1:List aT) (V1:aa),∀ L,R P ops true V0 K L (au (au F oi.dst u) oj.dst sj) H1 V1->R P ops true V0 K (j :: L) (au F oi.dst u) H1 V1) ->
    OutP P ops V0 K A C oi (au F oj.dst sj) H V->OutP P ops V0 K (j :: A) C oi F H V:=by
   intro sj step rA;rcases rA with ⟨hw,hr⟩ | ⟨hw,bY,s,hs,hr⟩ | ⟨hw,u,H',V',he,hr⟩ | ⟨hw,hk⟩
   ·rw [wi] at hw
    rw [comm] at hr;exact .inl ⟨hw,step _ _ _ (A++C) hr⟩
   ·rw [wi] at hw
    rw [comm] at hr;rw [cX bY (ei F sj)] at hs;exact .inr (.inl ⟨hw,bY,s,hs,step _ _ _ (A++C) hr⟩)
   ·rw [wi] at hw
    rw [comm] at hr;obtain⟨u',hu,Md⟩:=he.fromU (F:=F) (ei F sj);refine .inr (.inr (.inl ⟨hw,u',H',V',Md,step _ _ _ (A++C) ?_⟩))
    rw [<- comm,<- hu,comm];exact hr
   rw [wi] at hw;refine .inr (.inr (.inr ⟨hw,hk.from hap0 (ei F sj) (fun h k Ca ok eg=>?_) (fun y V' hr=>step _ _ _ (A++C) ?_)⟩))
   ·rcases List.mem_cons.1 Ca with rfl | Ca
    ·rw [eh] at eg; cases eg; exact hnlj
    exact h k Ca ok eg
   rw [<- comm];exact hr
  cases h with
  | skip ho hw hr =>
   rw [eh] at ho; cases ho
   exact quiet (.v undef) (fun u H1 V1 L hr=>.skip eh (by rw [bw (lj F u)]; exact hw) hr) (Xl fU hap0 hnx (hag' _) hr eM)
  | @bP _ _ o s _ _ _ ho hw bY hx hs hr =>
   rw [eh] at ho; cases ho
   simp only [if_true] at hs;have key:∀ (G:Fm) (H1:List aT),(∀ t,(dstsOf ops).contains t=false->G t=F0 t)->bP P V0 H1 G oj=some (.v y0):=by
    intro G H1 hG;have:G t0=some (.v y0):=(hG t0 HL).trans hF0;simp only [bP,hmo,ev,this,res]
   rw [key F H hag] at hs;cases hs
   refine quiet (.v y0) (fun u H1 V1 L hr=>.bP eh (by rw [bw (lj F u)]; exact hw) bY hx ?_ hr) (Xl fU hap0 hnx (hag' _) hr eM)
   simp only [if_true];refine key _ _ fun t ht=>?_
   rw [dh (fun e=>by rw [yr fU e] at ht; cases ht)]
   exact hag t ht
  | call Q ho hw dm bZ hl hc k1 k2=>rw [eh] at ho; cases ho; rw [hmo] at dm; cases dm
  | al d _ ho hw hx ha k1 k2=>rw [eh] at ho; cases ho; simp [kP,yT,hmo] at hx
  | LY _ ho _ dm=>rw [eh] at ho; cases ho; rw [hmo] at dm; cases dm
  | B6 ho _ he _ _=>rw [eh] at ho; cases ho; exfalso; cases he <;> simp_all
  | mk ho _ hx he _=>rw [eh] at ho; cases ho; exfalso; cases he <;> simp_all
  | LZ hd _ _=>cases hd
  | L9 hd _ _ _=>cases hd
  | aki hd ho _ dm=>rw [eh] at ho; cases ho; rw [hmo] at dm; cases dm
  | akg hd ho _ dm=>rw [eh] at ho; cases ho; rw [hmo] at dm; cases dm
  | mo Q hd ho=>rw [eh] at ho; cases ho; have:=(hd rfl).1; simp [o6,hmo] at this
variable {P:Program} {N:Nat} {w0:World} {F:Fm} {H:List aT} {Vs V V0:aa} {ρ:Nat->Nat × Nat} {a:Act} {w:World}
theorem HM {acc:List Nat} {o:Oper} {j:Nat} (h:(vF acc o).testBit j=true):∃ e∈o.after.toList,Region.binds .any e=true/\(e.on=j\/(acc.getD e.on 0).testBit j=true):=by
 unfold vF at h;have key:∀ (l:List Edge) (s:Nat),(l.foldl (fun s e=>if Region.binds .any e then s ||| 2 ^ e.on ||| acc.getD e.on 0 else s) s).testBit j=true ->
   s.testBit j=true\/∃ e∈l,Region.binds .any e=true/\(e.on=j\/(acc.getD e.on 0).testBit j=true):=by
  intro l
  induction l with
  | nil=>intro s h; exact .inl h
  | cons e l ih =>
   intro s h;simp only [List.foldl_cons] at h;rcases ih _ h with h1 | ⟨e',Md,h1⟩
   ·split at h1
    ·rename_i hb
     simp only [Nat.testBit_or,Nat.testBit_two_pow,Bool.or_eq_true,decide_eq_true_eq] at h1;rcases h1 with (h1 | h1) | h1
     ·exact .inl h1
     ·exact .inr ⟨e,by simp,hb,.inl h1⟩
     exact .inr ⟨e,by simp,hb,.inr h1⟩
    exact .inl h1
   exact .inr ⟨e',by simp [Md],h1⟩
 rcases key _ _ h with h1 | h1
 ·simp at h1
 exact h1
theorem td (l:List Oper) (o:Oper):ji (l++[o])=ji l++[vF (ji l) o]:=by simp [ji]
theorem n7 (l:List Oper):(ji l).length=l.length:=by
 have:∀ (l:List Oper) (acc:List Nat),(l.foldl (fun acc o=>acc++[vF acc o]) acc).length=acc.length+l.length:=by
  intro l
  induction l with
  | nil=>intro acc; simp
  | cons o l ih=>intro acc; simp only [List.foldl_cons,ih]; simp; omega
 simp [ji,this]
theorem te (l r:List Oper) (i:Nat) (h:i<l.length):(ji (l++r)).getD i 0=(ji l).getD i 0:=by
 induction r generalizing l with
 | nil=>simp
 | cons o r ih =>
  have:=ih (l++[o]) (by simp; omega)
  rw [List.append_assoc] at this;simp only [List.cons_append,List.nil_append] at this;rw [this,td];simp only [List.getD_eq_getElem?_getD];rw [List.getElem?_append_left (by rw [n7]; exact h)]
theorem Xm (l:List Oper) (i:Nat) (o:Oper) (h:l[i]?=some o):(ji l).getD i 0=vF (ji (l.take i)) o:=by
 have aN:=(List.getElem?_eq_some_iff.1 h).1;have e:l=l.take i++[o]++l.drop (i+1):=by
  have h2:=(List.getElem?_eq_some_iff.1 h).2;rw [List.append_assoc,List.singleton_append,<- h2,<- List.drop_eq_getElem_cons aN,List.take_append_drop]
 have hlen:(l.take i).length=i:=by simp; omega
 conv=>lhs; rw [e]
 rw [te _ _ _ (by simp; omega),td]
 simp only [List.getD_eq_getElem?_getD];rw [List.getElem?_append_right (by rw [n7,hlen]; exact Nat.le_refl _),n7,hlen]
 simp
theorem tf {ops:Array Oper} {S:Nat->Prop} (back:∀ (i:Nat) (o:Oper),ops[i]?=some o->∀ e∈o.after.toList,Region.binds .any e=true->e.on<i)
  (closed:∀ (i:Nat) (o:Oper),S i->ops[i]?=some o->∀ e∈o.after.toList,Region.binds .any e=true->S e.on) :
  ∀ (i:Nat) (o:Oper) (j:Nat),ops[i]?=some o->(∀ e∈o.after.toList,Region.binds .any e=true->S e.on)->((ji ops.toList).getD i 0).testBit j=true->S j:=by
 intro i
 induction i using Nat.strongRecOn with
 | _ i ih =>
  intro o j ho hS hm;rw [Xm _ i o (by simpa using ho)] at hm;obtain⟨e,he,hb,h1⟩:=HM hm;rcases h1 with h1 | h1
  ·subst h1; exact hS e he hb
  have aN:=back i o ho e he hb;have hi:=(Array.getElem?_eq_some_iff.1 ho).1;have hx:∃ o',ops[e.on]?=some o':=⟨ops[e.on],by rw [Array.getElem?_eq_getElem (by omega)]⟩;obtain⟨o',pc⟩:=hx;have SD:(ji (ops.toList.take i)).getD e.on 0=(ji ops.toList).getD e.on 0:=by
   have:=te (ops.toList.take i) (ops.toList.drop i) e.on (by simp; omega)
   rw [List.take_append_drop] at this;exact this.symm
  rw [SD] at h1;exact ih e.on aN o' j pc (closed e.on o' (hS e he hb) pc) h1
def Xn (F0:Fm) (H0:List aT) (ops:Array Oper) (oj oi:Oper):Bool:=(oj.apart ops oi && cR ops oj != 2 && cR ops oi != 2 && (cR ops oj == 0 || cR ops oi == 0 || (cR ops oj == 3 && cR ops oi == 3) || (cR ops oj == 1 && cR ops oi == 3))) || (kt oi && oj.apart ops oi && (cR ops oj != 2 || kt oj)) || (cN oi && oj.apart ops oi && (rC oj || isLd F0 H0 (dstsOf ops) oj oi)) || (iF oi && !kP ops oi && oj.apart ops oi && cR ops oj == 0) || (MC oi && !kP ops oi && oj.apart ops oi && Q3 F0 (dstsOf ops) oj)
def vH (F0:Fm) (H0:List aT) (ops:Array Oper) (m:Nat) (i:Nat) (oi:Oper):Nat->List Oper->Bool
 | _,[]=>true
 | j,oj :: r=>(i<=j || ((m.testBit j || Xn F0 H0 ops oj oi) && !(cN oj && cn oi))) && vH F0 H0 ops m i oi (j+1) r
def rD (F0:Fm) (H0:List aT) (ops:Array Oper) (ms:List Nat):Nat->List Oper->Bool
 | _,[]=>true
 | i,oi :: r=>oi.after.toList.all (fun e=>!Region.binds .any e || e.on<i) && vH F0 H0 ops (ms.getD i 0) i oi 0 ops.toList && rD F0 H0 ops ms (i+1) r
def MD (F0:Fm) (H0:List aT) (ops:Array Oper):Bool:=H0.all (fun b=>!MA b) && rD F0 H0 ops (ji ops.toList) 0 ops.toList
theorem mh {F0:Fm} {H0:List aT} {ops:Array Oper} {m i:Nat} {oi:Oper}:∀ {l:List Oper} {j:Nat},vH F0 H0 ops m i oi j l=true->∀ (k:Nat) (oj:Oper),l[k]?=some oj->j+k<i ->
  (m.testBit (j+k)=true\/Xn F0 H0 ops oj oi=true)/\(cN oj=true->cn oi=false)
 | [],_,_,k,oj,hk,_=>by simp at hk
 | o :: r,j,h,k,oj,hk,aN=>by
  simp only [vH,Bool.and_eq_true] at h;cases k with
  | zero =>
   simp at hk;subst hk;have h1:=h.1;simp only [Nat.add_zero] at aN ⊢;simp only [Bool.or_eq_true,decide_eq_true_eq,Bool.and_eq_true,Bool.not_eq_true',Bool.and_eq_false_iff] at h1;rcases h1 with h1 | ⟨h1,h2⟩
   ·omega
   refine⟨h1,fun hs=>?_⟩
   rcases h2 with h2 | h2
   ·rw [h2] at hs; cases hs
   exact h2
  | succ k =>
   have:=mh h.2 k oj (by simpa using hk) (by omega)
   rwa [show j+1+k=j+(k+1) from by omega] at this
theorem mi {F0:Fm} {H0:List aT} {ops:Array Oper} {ms:List Nat}:∀ {l:List Oper} {i:Nat},rD F0 H0 ops ms i l=true->∀ (k:Nat) (o:Oper),l[k]?=some o ->
  (∀ e∈o.after.toList,Region.binds .any e=true->e.on<i+k)/\vH F0 H0 ops (ms.getD (i+k) 0) (i+k) o 0 ops.toList=true
 | [],_,_,k,o,hk=>by simp at hk
 | o' :: r,i,h,k,o,hk=>by
  simp only [rD,Bool.and_eq_true] at h;cases k with
  | zero =>
   simp at hk;subst hk;refine⟨fun e he hb=>?_,h.1.2⟩
   have:=(List.all_eq_true.1 h.1.1) e he;simp only [hb,Bool.not_true,Bool.false_or,decide_eq_true_eq] at this;simpa using this
  | succ k =>
   have:=mi h.2 k o (by simpa using hk)
   rwa [show i+1+k=i+(k+1) from by omega] at this
theorem Xo {o:Oper} (h:kt o=true) (k:cN o=true):False:=by
 unfold kt at h;split at h
 ·rename_i ho; simp [cN,ho] at k
 cases h
theorem al_new {o:Oper} (h:kt o=true) (k:iF o=true):False:=by
 unfold kt at h;split at h
 ·rename_i ho; simp [iF,ho] at k
 cases h
theorem Xp {ops:Array Oper} {o:Oper} (h:iF o=true) (hx:kP ops o=false):cR ops o=2:=by
 unfold cR;rw [hx];unfold iF at h;split at h
 ·rename_i ho; simp [kind,ho]
 cases h
theorem ME {o:Oper} (h:iF o=true):cn o=false:=by
 unfold iF at h;split at h
 ·rename_i ho; simp [cn,ho]
 cases h
theorem MF {ops:Array Oper} {o:Oper} (h:cN o=true):cR ops o=2:=by
 unfold cN at h;split at h
 ·rename_i ho; simp [cR,kP,yT,kind,ho]
 cases h
theorem EN {o:Oper} (h:cN o=true):cn o=false:=by
 unfold cN at h;split at h
 ·rename_i ho; simp [cn,ho]
 cases h
theorem SE {o:Oper} (hm:rC o=true):cn o=false:=by
 unfold rC at hm;split at hm <;> rename_i ho
 all_goals first | (exact absurd hm (by decide)) | (simp [cn,ho])
theorem Sat.drew (h:Sat P N w0.heap.size F H V ρ a w):Sat P N w0.heap.size F H V ρ a { w with drawn:=w.drawn+1 } :=
 ⟨h.defers,h.size,h.slot,fun i b hb=>(h.box i b hb).of_heap rfl (fun _=>rfl),h.inj,h.base,h.priv,h.know,h.wfF,h.wfH⟩
theorem Fr.drew (h:Fr Vs V w0 w):Fr Vs V w0 { w with drawn:=w.drawn+1 }:=⟨h.os,h.tape,h.output,h.size,h.j9,h.dom⟩
structure Rem (ops:Array Oper) (listed:Array Bool) (L:List Nat):Prop where
 size:listed.size=ops.size
 sorted:L.Pairwise (·<·)
 mem:∀ i,i∈L↔i<ops.size/\listed.getD i true=false
 closed:∀ (i:Nat) (o:Oper),listed.getD i true=true->ops[i]?=some o->∀ e∈o.after.toList,Region.binds .any e=true->listed.getD e.on true=true
theorem ly (l:Array Bool) (i k:Nat) (hi:i<l.size):(l.setIfInBounds i true).getD k true=if k=i then true else l.getD k true:=by
 simp only [Array.getD_eq_getD_getElem?]
 by_cases e:k=i
 ·subst e; simp [hi]
 rw [Array.getElem?_setIfInBounds_ne (fun h=>e h.symm),if_neg e]
theorem SF {F0:Fm} {H0:List aT} {ops:Array Oper} {K:Kt} (eg:rD F0 H0 ops (ji ops.toList) 0 ops.toList=true) (hN:∀ (i:Nat) (o:Oper) (d:Nat),ops[i]?=some o->o.dst=some d->d<N)
  {Q:Exit->Act->World->Prop} (hQ:∀ F H V ρ a w,Sat P N w0.heap.size F H V ρ a w->Fr Vs V w0 w->K F H V->Q .normal a w) :
  ∀ (n:Nat) (L:List Nat) (listed:Array Bool) (F:Fm) (H:List aT) (V:aa) (ρ:Nat->Nat × Nat) (a:Act) (w:World),L.length=n->Rem ops listed L->Inv ops F0 H0 F H->R P ops true V0 K L F H V ->
   (V0.le V\/∀ (i:Nat) (o:Oper),i∈L->ops[i]?=some o->cn o=false)->Sat P N w0.heap.size F H V ρ a w->Fr Vs V w0 w->wpAny P .any ops Q n listed a w:=by
 have mO:∀ (i:Nat) (o:Oper),ops[i]?=some o->(∀ e∈o.after.toList,Region.binds .any e=true->e.on<i)/\vH F0 H0 ops ((ji ops.toList).getD i 0) i o 0 ops.toList=true:=by
  intro i o ho;have:=mi eg i o (by simpa using ho);simpa using this
 intro n
 induction n with
 | zero =>
  intro L listed F H V ρ a w hL qM _ hR _ hS hF;have:L=[]:=List.eq_nil_of_length_eq_zero hL;subst this;refine⟨?_,?_⟩
  ·apply List.eq_nil_iff_forall_not_mem.2
   intro i hi;simp only [Region.ready,List.mem_filter,List.mem_range,Bool.and_eq_true,Bool.not_eq_true'] at hi;have:=(qM.mem i).2 ⟨hi.1,hi.2.1⟩;cases this
  cases hR with
  | nil hk=>exact hQ _ _ _ _ _ _ hS hF hk
  | LZ hd _ _=>cases hd
  | L9 hd _ _ _=>cases hd
 | succ n ih =>
  intro L listed F H V ρ a w hL qM hI hR hV0 hS hF;refine⟨fun Xq=>?_,fun i hi=>?_⟩
  · -- the first of the rest is ready
   exfalso
   match L,hL with
   | i :: L',_ =>
    have hi:=(qM.mem i).1 (by simp);obtain⟨o,ho⟩:∃ o,ops[i]?=some o:=⟨ops[i],by rw [Array.getElem?_eq_getElem hi.1]⟩;have gM:i∈Region.ready .any ops listed:=by
     simp only [Region.ready,List.mem_filter,List.mem_range,Bool.and_eq_true,Bool.not_eq_true'];refine⟨hi.1,hi.2,?_⟩
     simp only [ho,Option.map_some,Option.getD_some,Array.all_eq_true'];intro e he
     by_cases hb:Region.binds .any e=true
     ·have aN:=(mO i o ho).1 e (by simpa using he) hb
      cases hl:listed.getD e.on true with
      | true =>
       have:listed.getD e.on false=true:=by
        simp only [Array.getD_eq_getD_getElem?] at hl ⊢;rw [Array.getElem?_eq_getElem (by rw [qM.size]; omega)] at hl ⊢
        simpa using hl
       simp [this]
      | false =>
       have lY:=(qM.mem e.on).2 ⟨by omega,hl⟩;have hs:=qM.sorted;simp only [List.pairwise_cons] at hs;rcases List.mem_cons.1 lY with h1 | h1
       ·omega
       have:=hs.1 _ h1; omega
     simp [hb]
    rw [Xq] at gM;cases gM
  simp only [Region.ready,List.mem_filter,List.mem_range,Bool.and_eq_true,Bool.not_eq_true'] at hi;obtain⟨aN,yq,bC⟩:=hi;obtain⟨o,ho⟩:∃ o,ops[i]?=some o:=⟨ops[i],by rw [Array.getElem?_eq_getElem aN]⟩;have MG:∀ e∈o.after.toList,Region.binds .any e=true->listed.getD e.on true=true:=by
   intro e he hb;simp only [ho,Option.map_some,Option.getD_some,Array.all_eq_true'] at bC;have:=bC e (by simpa using he);simp only [hb,Bool.not_true,Bool.false_or] at this;simp only [Array.getD_eq_getD_getElem?] at this ⊢;cases hx:listed[e.on]? with
   | none=>rfl
   | some y=>rw [hx] at this; simpa using this
  have Q5:=(qM.mem i).2 ⟨aN,yq⟩;obtain⟨A,C,rfl⟩:=List.append_of_mem Q5;have hsorted:=qM.sorted;rw [List.pairwise_append] at hsorted;have hbefore:∀ j∈A,j<i:=fun j hj=>hsorted.2.2 j hj i (by simp)
  -- those ahead of it that have not come up are free of it
  have ig:∀ j∈A,(free ops j i\/(kt o=true/\QZ ops j i)\/(cN o=true/\Q0 ops F0 H0 j i)\/((iF o=true/\kP ops o=false)/\Q2 ops j i)\/((MC o=true/\kP ops o=false)/\Q4 ops F0 j i))/\(∀ oj,ops[j]?=some oj->cN oj=true->cn o=false):=by
   intro j hj;have WM:=hbefore j hj;have hjm:=(qM.mem j).1 (by simp [hj]);obtain⟨oj,eh⟩:∃ oj,ops[j]?=some oj:=⟨ops[j],by rw [Array.getElem?_eq_getElem hjm.1]⟩;have hp:=mh (mO i o ho).2 j oj (by simpa using eh) (by omega);simp only [Nat.zero_add] at hp;refine⟨?_,fun oj' h1 h2=>by rw [eh] at h1; cases h1; exact hp.2 h2⟩
   rcases hp.1 with h1 | h1
   ·exfalso
    have:=tf (S:=fun k=>listed.getD k true=true) (fun i o ho=>(mO i o ho).1) (fun k o' hk pc=>qM.closed k o' hk pc) i o j ho MG h1;rw [hjm.2] at this;cases this
   simp only [Xn,Bool.and_eq_true,bne_iff_ne,ne_eq,Bool.or_eq_true,beq_iff_eq,Bool.not_eq_true'] at h1;rcases h1 with (((h1 | h1) | h1) | h1) | h1
   ·left
    refine⟨oj,o,eh,ho,h1.1.1.1,h1.1.1.2,h1.1.2,?_⟩
    rcases h1.2 with ((h2 | h2) | h2) | h2
    ·exact .inl h2
    ·exact .inr (.inl h2)
    ·exact .inr (.inr (.inl h2))
    exact .inr (.inr (.inr h2))
   ·exact .inr (.inl ⟨h1.1.1,oj,o,eh,ho,h1.1.2,h1.2⟩)
   ·exact .inr (.inr (.inl ⟨h1.1.1,oj,o,eh,ho,h1.1.2,h1.2⟩))
   ·exact .inr (.inr (.inr (.inl ⟨h1.1.1,oj,o,eh,ho,h1.1.2,h1.2⟩)))
   exact .inr (.inr (.inr (.inr ⟨h1.1.1,oj,o,eh,ho,h1.1.2,h1.2⟩)))
  have gG:Rem ops (listed.setIfInBounds i true) (A++C):=by
   have gv:i<listed.size:=by rw [qM.size]; exact aN
   refine⟨by simp [qM.size],?_,fun k=>?_,fun k o' hk pc e he hb=>?_⟩
   ·rw [List.pairwise_append]
    have h2:=hsorted.2.1;simp only [List.pairwise_cons] at h2;exact⟨hsorted.1,h2.2,fun x hx y hy=>hsorted.2.2 x hx y (by simp [hy])⟩
   ·rw [ly _ _ _ gv]
    by_cases e:k=i
    ·subst e
     simp only [if_true,Bool.true_eq_false,and_false,iff_false];intro hk;rcases List.mem_append.1 hk with h1 | h1
     ·have:=hbefore k h1; omega
     have h2:=hsorted.2.1;simp only [List.pairwise_cons] at h2;have:=h2.1 k h1; omega
    rw [if_neg e,<- qM.mem k];simp [e]
   rw [ly _ _ _ gv] at hk ⊢
   by_cases e1:k=i
   ·subst e1
    rw [ho] at pc;cases pc
    have:=MG e he hb;split
    ·rfl
    exact this
   rw [if_neg e1] at hk;have:=qM.closed k o' hk pc e he hb;split
   ·rfl
   exact this
  have hlen:(A++C).length=n:=by simp at hL ⊢; omega
  have n8:V0.le V\/∀ (k:Nat) (ok:Oper),k∈A++C->ops[k]?=some ok->cn ok=false:=by
   rcases hV0 with h1 | h1
   ·exact .inl h1
   exact .inr fun k ok hk=>h1 k ok (by simp at hk ⊢; rcases hk with h2 | h2 <;> simp [h2])
  by_cases zb:kt o=true
  · -- a new box,made ahead of the rest
   have hAl:∀ j∈A,QZ ops j i:=by
    intro j hj;rcases(ig j hj).1 with ⟨oj,oi',h1,h2,h3,h4,_⟩ | ⟨_,h1⟩ | ⟨h1,_⟩ | ⟨h1,_⟩ | ⟨h1,_⟩
    ·exact⟨oj,oi',h1,h2,h3,.inl h4⟩
    ·exact h1
    ·exact(Xo zb h1).elim
    ·exact(al_new zb h1.1).elim
    exfalso
    obtain⟨c,hc,_⟩:=kQ h1.1;simp [kt,hc] at zb
   unfold wpOp;rw [ho];simp only;rcases yZ ho zb (fun d k _ hk=>hI.pend k (EL hk)) hR ⟨w,hS.know⟩ hAl with ⟨hw,hr⟩ | ⟨hw,t,z,d,k,dm,hz,hdd,hk,hr⟩
   ·rw [bg hS hw]
    exact ih _ _ _ _ _ ρ _ w hlen gG (hI.B' ho) hr n8 (hS.put (s:=.v undef) (fun d hd=>hN _ _ d ho hd) trivial (fun x hx=>by simp [cv] at hx; exact hx.symm)) hF
   rw [bg hS hw];simp only [if_true];left
   obtain⟨ρ',Cb,sL⟩:=hS.fill hF (fun d hd=>hN _ _ d ho hd) (EL hk).lt (hI.pend k (EL hk)) z t;simp only [Oper.wp,Mz (P:=P) (a:=a) (w:=w) dm hz,Oper.upon_value];exact ih _ _ _ _ _ ρ' _ _ hlen gG (hI.LY ho) hr n8 Cb sL
  by_cases zg:cN o=true
  · -- a store,ahead of what looks at iG alone
   have hSt:∀ j∈A,Q0 ops F0 H0 j i:=by
    intro j hj;rcases(ig j hj).1 with ⟨oj,oi',h1,h2,h3,h4,h5,_⟩ | ⟨h1,_⟩ | ⟨_,h1⟩ | ⟨h0,h1⟩ | ⟨h0,_⟩
    ·rw [ho] at h2; cases h2; exact(h5 (MF zg)).elim
    ·exact(zb h1).elim
    ·exact h1
    ·exfalso
     obtain⟨h0,_⟩:=h0;unfold cN at zg;split at zg
     ·rename_i dm; simp [iF,dm] at h0
     cases zg
    exfalso
    obtain⟨c,hc,_⟩:=kQ h0.1;simp [cN,hc] at zg
   unfold wpOp;rw [ho];simp only;rcases Xi ho zg hI hR hSt with ⟨hw,hr⟩ | ⟨hw,bY,s,hs,hr⟩ | ⟨hw,H',V',he,hr⟩
   ·rw [bg hS hw]
    exact ih _ _ _ _ _ ρ _ w hlen gG (hI.B' ho) hr n8 (hS.put (s:=.v undef) (fun d hd=>hN _ _ d ho hd) trivial (fun x hx=>by simp [cv] at hx; exact hx.symm)) hF
   ·rw [bg hS hw]
    simp only [if_true];left
    have ll:∃ y,(execOp a.eval o).run P w=.ok (.value y) w/\∀ x,cv ρ H s=some x->x=y:=by
     rw [me (V1:=V) (EN zg)] at hs;exact gZ hS hS.know bY hs
    obtain⟨y,hy,yQ⟩:=ll;simp only [Oper.wp,hy,Oper.upon_value];exact ih _ _ _ _ _ ρ _ w hlen gG (hI.put ho (fun k hk=>qn (hI.pend k hk) hs)) hr n8 (hS.put (fun d hd=>hN _ _ d ho hd) (pk hS hs) yQ) hF
   rw [bg hS hw];simp only [if_true];left
   have ll:V0.le V'\/∀ (k:Nat) (ok:Oper),k∈A++C->ops[k]?=some ok->cn ok=false:=by
    by_cases lZ:∃ b,Sz F0 H0 (dstsOf ops) o=some b
    ·obtain⟨b,hb⟩:=lZ
     rw [(he.other hI hb).1];exact n8
    right
    intro k ok hk hok';rcases List.mem_append.1 hk with hk | hk
    ·obtain⟨oj,oi',h1,h2,_,h4⟩:=hSt k hk
     rw [hok'] at h1; cases h1
     rw [ho] at h2; cases h2
     rcases h4 with h4 | h4
     ·exact SE h4
     obtain⟨_,b,_,hb,_⟩:=fJ h4;exact(lZ ⟨b,hb⟩).elim
    have h2:=hsorted.2.1;simp only [List.pairwise_cons] at h2;have hik:=h2.1 k hk;have hp:=mh (mO k ok hok').2 i o (by simpa using ho) (by omega);exact hp.2 zg
   obtain⟨y,ρ',w',cJ,Cb,sL⟩:=vB he hS hF (fun d hd=>hN _ _ d ho hd);rcases cJ with cJ | ⟨cJ,rfl⟩
   ·simp only [Oper.wp,cJ,Oper.upon_value]
    exact ih _ _ _ _ _ ρ' _ w' hlen gG (hI.B6 ho he) hr ll Cb sL
   simp only [Oper.wp,cJ,Oper.upon_skip];exact ih _ _ _ _ _ ρ' _ w' hlen gG (hI.B6 ho he) hr ll Cb sL
  by_cases Hm:iF o=true/\kP ops o=false
  · -- a new array,ahead of what looks at iG alone
   have hSt:∀ j∈A,Q2 ops j i:=by
    intro j hj;rcases(ig j hj).1 with ⟨oj,oi',h1,h2,h3,h4,h5,_⟩ | ⟨h1,_⟩ | ⟨_,h1⟩ | ⟨_,h1⟩ | ⟨h0,_⟩
    ·rw [ho] at h2; cases h2; exact(h5 (Xp Hm.1 Hm.2)).elim
    ·exact(zb h1).elim
    ·rename_i h0; exact(zg h0).elim
    ·exact h1
    exfalso
    obtain⟨c,hc,_⟩:=kQ h0.1;have:=Hm.1;simp [iF,hc] at this
   unfold wpOp;rw [ho];simp only;rcases Xj ho Hm.1 Hm.2 hS.wfS hR hSt with ⟨hw,hr⟩ | ⟨hw,bY,s,hs,hr⟩ | ⟨hw,b,he,hr⟩
   ·rw [bg hS hw]
    exact ih _ _ _ _ _ ρ _ w hlen gG (hI.B' ho) hr n8 (hS.put (s:=.v undef) (fun d hd=>hN _ _ d ho hd) trivial (fun x hx=>by simp [cv] at hx; exact hx.symm)) hF
   ·rw [bg hS hw]
    simp only [if_true];left
    have ll:∃ y,(execOp a.eval o).run P w=.ok (.value y) w/\∀ x,cv ρ H s=some x->x=y:=by
     rw [me (V1:=V) (ME Hm.1)] at hs;exact gZ hS hS.know bY hs
    obtain⟨y,hy,yQ⟩:=ll;simp only [Oper.wp,hy,Oper.upon_value];exact ih _ _ _ _ _ ρ _ w hlen gG (hI.put ho (fun k hk=>qn (hI.pend k hk) hs)) hr n8 (hS.put (fun d hd=>hN _ _ d ho hd) (pk hS hs) yQ) hF
   rw [bg hS hw];simp only [if_true];left
   obtain⟨y,ρ',w',cJ,Cb,sL⟩:=sP he hS hF (fun d hd=>hN _ _ d ho hd);simp only [Oper.wp,cJ,Oper.upon_value];exact ih _ _ _ _ _ ρ' _ w' hlen gG (hI.mk' ho he) hr n8 Cb sL
  by_cases Xr:MC o=true/\kP ops o=false
  · -- an append,ahead of moves of plain values
   have hSt:∀ j∈A,Q4 ops F0 j i:=by
    intro j hj;rcases(ig j hj).1 with ⟨oj,oi',h1,h2,h3,h4,h5,_⟩ | ⟨h1,_⟩ | ⟨h0,_⟩ | ⟨h0,_⟩ | ⟨_,h1⟩
    ·rw [ho] at h2; cases h2
     obtain⟨c,hc,wZ⟩:=kQ Xr.1;exact(h5 (ku hc wZ Xr.2)).elim
    ·exact(zb h1).elim
    ·exact(zg h0).elim
    ·exact(Hm h0).elim
    exact h1
   unfold wpOp;rw [ho];simp only;have hnlA:∀ k∈A,∀ ok,ops[k]?=some ok->cn ok=false:=by
    intro k hk ok eg;obtain⟨oj,_,h1,_,_,h4⟩:=hSt k hk;rw [eg] at h1; cases h1
    obtain⟨t,y,h5,_⟩:=zf h4;simp [cn,h5]
   rcases Xl ho Xr.1 Xr.2 hI.agree hR hSt with ⟨hw,hr⟩ | ⟨hw,bY,s,hs,hr⟩ | ⟨hw,u,H',V',he,hr⟩ | ⟨hw,hak⟩
   ·rw [bg hS hw]
    exact ih _ _ _ _ _ ρ _ w hlen gG (hI.B' ho) hr n8 (hS.put (s:=.v undef) (fun d hd=>hN _ _ d ho hd) trivial (fun x hx=>by simp [cv] at hx; exact hx.symm)) hF
   ·rw [bg hS hw]
    simp only [if_true];left
    have ll:∃ y,(execOp a.eval o).run P w=.ok (.value y) w/\∀ x,cv ρ H s=some x->x=y:=by
     rcases hV0 with hle | kb
     ·exact gZ hS (hS.know.le hle) bY hs
     have:=kb i o Q5 ho;rw [me (V1:=V) this] at hs;exact gZ hS hS.know bY hs
    obtain⟨y,hy,yQ⟩:=ll;simp only [Oper.wp,hy,Oper.upon_value];exact ih _ _ _ _ _ ρ _ w hlen gG (hI.put ho (fun k hk=>qn (hI.pend k hk) hs)) hr n8 (hS.put (fun d hd=>hN _ _ d ho hd) (pk hS hs) yQ) hF
   ·rw [bg hS hw]
    simp only [if_true];left
    have ll:V0.le V'\/∀ (k:Nat) (ok:Oper),k∈A++C->ops[k]?=some ok->cn ok=false:=by
     rcases n8 with h7 | h7
     ·left
      rw [he.knows]; exact h7
     exact .inr h7
    obtain⟨y,ρ',w',cJ,Cb,sL⟩:=sP he hS hF (fun d hd=>hN _ _ d ho hd);simp only [Oper.wp,cJ,Oper.upon_value];exact ih _ _ _ _ _ ρ' _ w' hlen gG (hI.mk' ho he) hr ll Cb sL
   rw [bg hS hw];simp only [if_true];left
   obtain⟨y,w',V',cJ,Cb,sL,hr,hle⟩:=HI hS hF hak;have HG:=ih _ _ _ _ _ ρ _ w' hlen gG (hI.B' ho) hr (by
    rcases n8 with h7 | h7
    ·rcases hle with hle | yq
     ·exact .inl (h7.trans hle)
     exact .inr fun k ok hk eg=>yq k hk ok eg
    exact .inr h7) (Cb.put (s:=.v y) (fun d hd=>hN _ _ d ho hd) trivial (fun x hx=>by simp [cv] at hx; exact hx.symm)) sL
   rcases cJ with cJ | ⟨cJ,rfl⟩
   ·simp only [Oper.wp,cJ,Oper.upon_value]
    exact HG
   simp only [Oper.wp,cJ,Oper.upon_skip];exact HG
  obtain⟨o',pc,px⟩:=pull (fun o' h=>by rw [ho] at h; cases h; simpa using zb) hR ⟨w,hS.know⟩ (fun j hj=>((ig j hj).1).resolve_right fun h=>h.elim (fun h=>zb h.1) (fun h=>h.elim (fun h=>zg h.1) (fun h=>h.elim (fun h=>Hm h.1) (fun h=>Xr h.1))))
  rw [ho] at pc;cases pc
  unfold wpOp;rw [ho];simp only;rcases px with ⟨hw,hr⟩ | ⟨hw,bY,_,s,hs,hr⟩ | ⟨hw,c,g,fs,cs,l,Q',h1,h2,h4,h5,h6⟩ | ⟨hA,hw,_,⟨F',H',V',he,hr⟩ | hak⟩ | ⟨hw,hxo,d,ha,k1,k2⟩
  ·rw [bg hS hw]
   exact ih _ _ _ _ _ ρ _ w hlen gG (hI.B' ho) hr n8 (hS.put (s:=.v undef) (fun d hd=>hN _ _ d ho hd) trivial (fun x hx=>by simp [cv] at hx; exact hx.symm)) hF
  ·rw [bg hS hw]
   simp only [if_true];left
   have ll:∃ y,(execOp a.eval o).run P w=.ok (.value y) w/\∀ x,cv ρ H s=some x->x=y:=by
    rcases hV0 with hle | kb
    ·exact gZ hS (hS.know.le hle) bY hs
    have:=kb i o Q5 ho;rw [me (V1:=V) this] at hs;exact gZ hS hS.know bY hs
   obtain⟨y,hy,yQ⟩:=ll;simp only [Oper.wp,hy,Oper.upon_value];exact ih _ _ _ _ _ ρ _ w hlen gG (hI.put ho (fun k hk=>qn (hI.pend k hk) hs)) hr n8 (hS.put (fun d hd=>hN _ _ d ho hd) (pk hS hs) yQ) hF
  ·rw [bg hS hw]
   simp only [if_true];left
   have BZ:=mN hS h4;have cJ:=HF hS h1 h2 h5.1;simp only [Oper.wp,cJ,Oper.upon_enter];have fY:(fs++c.args.map a.eval++cs)=(fs.toList++l++cs.toList).toArray:=by
    rw [<- BZ];apply Array.ext'
    simp
   rw [fY];refine(h5.2 w hS.know).mono ?_
   rintro e w' ⟨V',y,rfl,sK,eO,hq⟩;obtain⟨hle,hr⟩:=h6 V' y hq;refine ih _ _ _ _ _ ρ _ w' hlen gG (hI.B' ho) (hr ⟨w',eO⟩) ?_ ((hS.call sK eO).put (s:=.v y) (fun d hd=>hN _ _ d ho hd) trivial (fun x hx=>by simp [cv] at hx; exact hx.symm)) (hF.trans sK)
   rcases hle with (hle | hle) | yq
   ·rcases n8 with h7 | h7
    ·exact .inl (h7.trans hle)
    exact .inr h7
   ·exact .inl hle
   refine .inr fun k ok hk eg=>?_
   have Mt:k≠i:=fun e=>by
    subst e;rcases List.mem_append.1 hk with h | h
    ·have:=hbefore k h; omega
    have h2:=hsorted.2.1;simp only [List.pairwise_cons] at h2;have:=h2.1 k h; omega
   rcases Ss yq k ok eg Mt with h | ⟨MH,hbit⟩
   ·exact h
   exfalso
   rcases List.mem_append.1 hk with h | h
   ·have hjm:=(qM.mem k).1 (by simp [h])
    have:=tf (S:=fun k=>listed.getD k true=true) (fun i o ho=>(mO i o ho).1) (fun k o' hk pc=>qM.closed k o' hk pc) i o k ho MG hbit;rw [hjm.2] at this;cases this
   have h2:=hsorted.2.1;simp only [List.pairwise_cons] at h2;have:=h2.1 k h; omega
  ·subst hA
   simp only [List.nil_append] at *;rw [bg hS hw];simp only [if_true];left
   have ll:V0.le V'\/∀ (k:Nat) (ok:Oper),k∈C->ops[k]?=some ok->cn ok=false:=by
    rcases n8 with h7 | h7
    ·by_cases hs:cN o=true
     ·right
      intro k ok hk hok';have h2:=hsorted.2.1;simp only [List.pairwise_cons] at h2;have hik:=h2.1 k hk;have hp:=mh (mO k ok hok').2 i o (by simpa using ho) (by omega);exact hp.2 hs
     left
     rcases he with he | he
     ·cases he with
      | box=>exact h7
      | alloc=>exact h7
      | stC h8=>simp [cN,h8] at hs
      | stA h8=>simp [cN,h8] at hs
      | stV h8=>simp [cN,h8] at hs
     obtain⟨_,he⟩:=he;cases he <;> exact h7
    exact .inr h7
   rcases he with he | he
   ·obtain⟨y,ρ',w',cJ,Cb,sL⟩:=vB he hS hF (fun d hd=>hN _ _ d ho hd)
    rcases cJ with cJ | ⟨cJ,rfl⟩
    ·simp only [Oper.wp,cJ,Oper.upon_value]
     exact ih _ _ _ _ _ ρ' _ w' hlen gG (hI.B6 ho he) hr ll Cb sL
    simp only [Oper.wp,cJ,Oper.upon_skip];exact ih _ _ _ _ _ ρ' _ w' hlen gG (hI.B6 ho he) hr ll Cb sL
   obtain⟨_,he⟩:=he;obtain⟨y,ρ',w',cJ,Cb,sL⟩:=sP he hS hF (fun d hd=>hN _ _ d ho hd);simp only [Oper.wp,cJ,Oper.upon_value];exact ih _ _ _ _ _ ρ' _ w' hlen gG (hI.mk' ho he) hr ll Cb sL
  ·subst hA
   simp only [List.nil_append] at *;rw [bg hS hw];simp only [if_true];left
   obtain⟨y,w',V',cJ,Cb,sL,hr,hle⟩:=HI hS hF hak;have HG:=ih _ _ _ _ _ ρ _ w' hlen gG (hI.B' ho) hr (by
    rcases n8 with h7 | h7
    ·rcases hle with hle | yq
     ·exact .inl (h7.trans hle)
     exact .inr fun k ok hk eg=>yq k hk ok eg
    exact .inr h7) (Cb.put (s:=.v y) (fun d hd=>hN _ _ d ho hd) trivial (fun x hx=>by simp [cv] at hx; exact hx.symm)) sL
   rcases cJ with cJ | ⟨cJ,rfl⟩
   ·simp only [Oper.wp,cJ,Oper.upon_value]
    exact HG
   simp only [Oper.wp,cJ,Oper.upon_skip];exact HG
  rw [bg hS hw];simp only [if_true];left
  have bC:∃ y w',(execOp a.eval o).run P w=.ok (.value y) w'/\((d.z=some y/\w'=w)\/(d.z=none/\∃ cap spare,y=.slice (some ⟨w.heap.size,0,none⟩) d.n cap/\d.n<=cap/\WJ P d cap spare /\
    (∀ k:Nat,w'.heap[k]?=(w.alloc (.cells (d.ys++spare).toArray d.t)).heap[k]?)/\w'.heap.size=w.heap.size+1/\w'.os=w.os/\w'.tape=w.tape/\w'.output=w.output)):=by
   rcases hV0 with hle | kb
   ·exact HD hS (hS.know.le hle) ha
   have:=kb i o Q5 ho;rw [HH (V1:=V) this] at ha;exact HD hS hS.know ha
  obtain⟨y,w',cJ,hy⟩:=bC;simp only [Oper.wp,cJ,Oper.upon_value];rcases hy with ⟨hz,rfl⟩ | ⟨hz,cap,spare,rfl,dd,hex,q1,q2,q3,q4,q5⟩
  ·exact ih _ _ _ _ _ ρ _ w' hlen gG (hI.B' ho) (k1 y hz) n8 (hS.put (s:=.v y) (fun d hd=>hN _ _ d ho hd) trivial (fun x hx=>by simp [cv] at hx; exact hx.symm)) hF
  obtain⟨sK,eO⟩:=hS.alloc rfl q1 q2 q3 q4 q5;have hb:=hS.know.fI;refine ih _ _ _ _ _ ρ _ w' hlen gG (hI.B' ho) (k2 hz _ cap spare hb dd hex ⟨w',eO⟩) ?_ ((hS.call sK eO).put (s:=.v _) (fun d hd=>hN _ _ d ho hd) trivial (fun x hx=>by simp [cv] at hx; exact hx.symm)) (hF.trans sK)
  rcases n8 with h7 | h7
  ·exact .inl (h7.trans (yU hb))
  exact .inr h7
theorem rem_all (ops:Array Oper):Rem ops (Array.replicate ops.size false) (List.range ops.size):=by
 refine⟨by simp,List.pairwise_lt_range,fun i=>?_,fun i o hi ho=>?_⟩
 ·simp only [List.mem_range,Array.getD_eq_getD_getElem?]
  constructor
  ·intro h; exact⟨h,by simp [h]⟩
  exact fun h=>h.1
 exfalso
 have aN:=(Array.getElem?_eq_some_iff.1 ho).1;simp [Array.getD_eq_getD_getElem?,aN] at hi
def padded (dr:Bool) (ops:Array Oper) (H:List aT):List aT:=match dr with | true=>H++My ops | false=>H
theorem MI {id:Nat} {ops:Array Oper} {K:Kt} (hm:P.follows .mixedOrders=true) (eg:MD F H ops=true)
  (hN:∀ (i:Nat) (o:Oper) (d:Nat),ops[i]?=some o->o.dst=some d->d<N)
  {Q:Exit->Act->World->Prop} (hQ:∀ F H V ρ a w,Sat P N w0.heap.size F H V ρ a w->Fr Vs V w0 w->K F H V->Q .normal a w) {U:aa} (hU:U.le V)
  (hR:R P ops true U K (List.range ops.size) F (padded true ops H) V) (hS:Sat P N w0.heap.size F H V ρ a w) (hF:Fr Vs V w0 w):(Code.region id ops true).wp P Q a w:=by
 simp only [MD,Bool.and_eq_true] at eg;refine wp_region_any hm ?_
 exact SF (V0:=U) eg.2 hN hQ ops.size (List.range ops.size) _ F _ V ρ a _ (by simp) (rem_all ops) (Inv.start hS eg.1) hR (.inl hU) (hS.padsS _ Xk).drew hF.drew
end Sx
