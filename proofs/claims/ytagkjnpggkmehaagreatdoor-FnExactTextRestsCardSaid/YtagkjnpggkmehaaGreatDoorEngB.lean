/-
  Regions of operations, in order and in any order the program may take.
-/
import Derived.Test.YtagkjnpggkmehaaGreatDoorEngA
import Derived.Laws.CopyRow
namespace Sx
open Go
variable {P:Program} {N:Nat} {w0:World} {F:Fm} {H:List Box} {Vs V V0:Know} {ρ:Nat→Nat × Nat} {a:Act} {w:World}
def partVals (H:List Box) (F:Fm):List (Nat × Operand)→Option (List (Nat × Value))
 | []=>some []
 | (i,x) :: r=>match ev H F x,partVals H F r with
  | some (.v y),some l=>some ((i,y) :: l)
  | _,_=>none
theorem partVals_spec (h:Sat P N w0.heap.size F H V ρ a w):∀ {l:List (Nat × Operand)} {l':List (Nat × Value)},partVals H F l=some l'→l.map (fun p=>(p.1,a.eval p.2))=l'
 | [],l',hl=>by simp [partVals] at hl; subst hl; rfl
 | (i,x) :: r,l',hl=>by
  simp only [partVals] at hl
  split at hl
  ·rename_i y l'' hx hr
   simp at hl
   subst hl
   simp [h.eval hx rfl,partVals_spec h hr]
  ·cases hl
inductive Src (H:List Box) (V:Know) (sz:Nat):SV→List Value→Nat→Prop
 | own {j m ys u}:H[j]?=some (.a m ys u)→ys.length=m*sz→Src H V sz (.o j) ys m
 | known {ad m c ys}:loadV V ad (m*sz)=some ys→noTup ys=true→Src H V sz (.v (.slice (some ad) m c)) ys m
 | nil:Src H V sz (.v (.slice none 0 0)) [] 0
 | zero {ad c}:Src H V sz (.v (.slice (some ad) 0 c)) [] 0
inductive Mk (P:Program) (o:Oper) (F:Fm) (H:List Box) (V:Know):Fm→List Box→Know→Prop
 | bs {t n parts e sz vals cells i}:o.op=.buildSlice t n parts→P.underlying t=some (.slice e)→P.info? e=some i→i.size=sz→n*sz≤16777216→n≤16777216 →
   partVals H F parts.toList=some vals →
   Instr.fill (fun i=>some (i*sz,sz)) ((Array.range (n*sz)).map ((if n*sz=0 then #[] else (i.zero.getD undef).cells)[· % (if n*sz=0 then #[] else (i.zero.getD undef).cells).size]!)) vals=some cells →
   cells.size=n*sz→i.zero.isSome=true →
   Mk P o F H V (putF F o.dst (.o H.length)) (H++[.a n cells.toList e]) V
 | mk {t l c e i z kl kc L C}:o.op=.makeSlice t l c→P.underlying t=some (.slice e)→P.info? e=some i→i.zero=some z→ev H F l=some (.v (.int kl L))→ev H F c=some (.v (.int kc C)) →
   0≤L→L≤C→(i.bytes:Int)*C≤281474976710656→C≤9223372036854775807 →
   Mk P o F H V (putF F o.dst (.o H.length)) (H++[.a L.toNat ((madeCells z.cells (L.toNat*i.size)).toList) e]) V
 | ap {c s x t e i z j n xs sx ys m}:o.op=.call c→c.callee=.builtin .append→c.args.toList=[s,x]→c.argTypes.toList=[t,t]→P.underlying t=some (.slice e)→P.info? e=some i→i.zero=some z →
   z.cells.size=i.size→0<i.size→ev H F s=some (.o j)→H[j]?=some (.a n xs e)→ev H F x=some sx→Src H V i.size sx ys m→one ys=true →
   (n+m)*i.bytes≤140737488355328→n+m≤9223372036854775807 →
   Mk P o F H V (putF F o.dst (.o H.length)) (H.set j .x++[.a (n+m) (xs++ys) e]) V
 | apnil {c s x t e i z sx ys m}:o.op=.call c→c.callee=.builtin .append→c.args.toList=[s,x]→c.argTypes.toList=[t,t]→P.underlying t=some (.slice e)→P.info? e=some i→i.zero=some z →
   z.cells.size=i.size→0<i.size→ev H F s=some (.v (.slice none 0 0))→ev H F x=some sx→Src H V i.size sx ys m→0<m →
   m*i.bytes≤140737488355328→m≤9223372036854775807 →
   Mk P o F H V (putF F o.dst (.o H.length)) (H++[.a m ys e]) V
 | apzero {c s x t e i sx ys sa n cp}:o.op=.call c→c.callee=.builtin .append→c.args.toList=[s,x]→c.argTypes.toList=[t,t]→P.underlying t=some (.slice e)→P.info? e=some i →
   ev H F s=some (.v (.slice sa n cp))→ev H F x=some sx→Src H V i.size sx ys 0→n≤cp→(sa=none→cp=0)→Mk P o F H V (putF F o.dst (.v (.slice sa n cp))) H V
 | cp {c d s t t' e i j n xs sx ys m}:o.op=.call c→c.callee=.builtin .copy→c.args.toList=[d,s]→c.argTypes.toList=[t,t']→P.underlying t=some (.slice e)→P.info? e=some i→i.size=1 →
   ev H F d=some (.o j)→H[j]?=some (.a n xs e)→ev H F s=some sx→Src H V 1 sx ys m→one ys=true →
   Mk P o F H V (putF F o.dst (.v (.int .i64 (Nat.min m n:Nat)))) (H.set j (.a n (setl xs 0 (ys.take (Nat.min m n))) e)) V
theorem run_append_m0 (w:World) (t ty e:TypeId) (i:TypeInfo) (ht:P.underlying t=some (.slice e)) (hi:P.info? e=some i) (sa:Option Addr) (n cp:Nat) (xa:Option Addr) (c:Nat) (h:n≤cp) (hs:sa=none→cp=0) :
  (Builtin.append_ #[t,t] ty #[.slice sa n cp,.slice xa 0 c]).run P w=.ok (.slice sa n cp) w:=by
 cases sa with
 | none =>
  obtain rfl:=hs rfl
  obtain rfl:n=0:=by omega
  cases xa with
  | none=>simp [Builtin.append_,run_underlying ht,Go.sizeOf,typeInfo,hi,Builtin.lenOf,Builtin.firstCells]
  | some ad =>
   have hl:(loadCells ad 0).run P w=.ok #[] w:=by simpa using run_loadCells_list (P:=P) w ad [] (by simp)
   simp [Builtin.append_,run_underlying ht,Go.sizeOf,typeInfo,hi,Builtin.lenOf,Builtin.firstCells,hl]
 | some sb =>
  cases xa with
  | none=>simp [Builtin.append_,run_underlying ht,Go.sizeOf,typeInfo,hi,Builtin.lenOf,Builtin.firstCells,storeCells,h]
  | some ad =>
   have hl:(loadCells ad 0).run P w=.ok #[] w:=by simpa using run_loadCells_list (P:=P) w ad [] (by simp)
   simp [Builtin.append_,run_underlying ht,Go.sizeOf,typeInfo,hi,Builtin.lenOf,Builtin.firstCells,storeCells,hl,h]
theorem cellsOf_eq {t:Nat} {i:TypeInfo} (h:P.info? t=some i):P.cellsOf t=i.size:=by simp [Program.cellsOf,h]
theorem madeCells_take (z:Array Value) (m n:Nat) (h:m≤n):(madeCells z n).toList.take m=(madeCells z m).toList:=by
 apply List.ext_getElem?
 intro j
 rw [List.getElem?_take]
 by_cases hj:j<m
 ·have:j<n:=by omega
  simp [madeCells,hj,this]
 ·simp [madeCells,hj]
theorem Sat.mkA (h:Sat P N w0.heap.size F H V ρ a w) (hF:Fr Vs V w0 w) {dst:Option Tmp} (hd:∀ d,dst=some d→d<N) (n cap:Nat) (xs:List Value) (cur:Array Value) (e:TypeId) (w':World)
  (hheap:∀ k:Nat,w'.heap[k]?=(w.alloc (.cells cur e)).heap[k]?) (hsz:w'.heap.size=w.heap.size+1) (hos:w'.os=w.os) (htape:w'.tape=w.tape) (hout:w'.output=w.output)
  (hown:w'.ownsRow w0.heap.size e (P.cellsOf e) (.slice (some ⟨w.heap.size,0,none⟩) n cap) n xs) :
  ∃ ρ',Sat P N w0.heap.size (putF F dst (.o H.length)) (H++[.a n xs e]) V ρ' (a.put dst (.slice (some ⟨w.heap.size,0,none⟩) n cap)) w'∧Fr Vs V w0 w':=by
 let ρ':Nat→Nat × Nat:=fun i=>if i=H.length then (w.heap.size,cap) else ρ i
 have hρ:∀ j,j<H.length→ρ' j=ρ j:=fun j hj=>if_neg (by omega)
 have hn:ρ' H.length=(w.heap.size,cap):=if_pos rfl
 have hold:∀ k,k<w.heap.size→w'.heap[k]?=w.heap[k]?:=fun k hk=>by rw [hheap,heap_alloc_old w _ hk]
 have h1:Sat P N w0.heap.size F (H++[.a n xs e]) V ρ' a w':=by
  refine h.addBox rfl hρ (by rw [hn]) hF.size hold h.know.size_none ?_ ?_
  ·intro cs u hc; cases hc
  ·simp only [BoxOk]; rw [hn]; exact hown
 refine⟨ρ',h1.put hd (by simp [inb]) (fun x hx=>?_),hF.grow (by omega) hos htape hout (fun k hk _=>hold k hk)⟩
 simp [cv,hn] at hx
 exact hx.symm
theorem Src.cells (h:Sat P N w0.heap.size F H V ρ a w) {sz:Nat} {x:Operand} {sx:SV} {ys:List Value} {m:Nat} (hx:ev H F x=some sx) (hs:Src H V sz sx ys m) :
  ys.length=m*sz∧((a.eval x=.slice none 0 0∧ys=[]∧m=0)∨∃ ad c,a.eval x=.slice (some ad) m c∧∀ (j:Nat) u,ys[j]?=some u→w.cell? (ad.add j)=some u):=by
 cases hs with
 | @own j _ _ u hj hl =>
  have hcv:cv ρ H (.o j)=some (.slice (some ⟨(ρ j).1,0,none⟩) m (ρ j).2):=by simp [cv,hj]
  have hown:=h.box j _ hj
  exact⟨hl,.inr ⟨_,_,h.eval hx hcv,World.ownsRow.cells hown (g:=(ρ j).1) rfl⟩⟩
 | known hl hnt =>
  obtain⟨h1,h2⟩:=loadV_spec h.know hl hnt
  exact⟨h1,.inr ⟨_,_,h.eval hx rfl,h2⟩⟩
 | nil=>exact⟨by simp,.inl ⟨h.eval hx rfl,rfl,rfl⟩⟩
 | zero=>exact⟨by simp,.inr ⟨_,_,h.eval hx rfl,fun j u hj=>by simp at hj⟩⟩
theorem run_append (w:World) (base:Nat) (t ty e:TypeId) (i:TypeInfo) (z:Value) (ht:P.underlying t=some (.slice e)) (hi:P.info? e=some i) (hz:i.zero=some z) (hzs:z.cells.size=i.size)
  (g n cap:Nat) (xs:List Value) (hown:w.ownsRow base e i.size (.slice (some ⟨g,0,none⟩) n cap) n xs)
  (ad:Addr) (m c:Nat) (news:List Value) (hl:news.length=m*i.size) (hnews:∀ (j:Nat) u,news[j]?=some u→w.cell? (ad.add j)=some u) (h1:∀ u∈news,u.oneCell'=true)
  (h63:n+m≤9223372036854775807) (hbytes:(n+m)*i.bytes≤140737488355328) (hbase:base≤w.heap.size) :
  (∃ w',(Builtin.append_ #[t,t] ty #[.slice (some ⟨g,0,none⟩) n cap,.slice (some ad) m c]).run P w=.ok (.slice (some ⟨g,0,none⟩) (n+m) cap) w' ∧
   w'.ownsRow base e i.size (.slice (some ⟨g,0,none⟩) (n+m) cap) (n+m) (xs++news)∧w.grownBy w' (some g)∧w'.heap.size=w.heap.size) ∨
  (∃ cap' w' cur,(Builtin.append_ #[t,t] ty #[.slice (some ⟨g,0,none⟩) n cap,.slice (some ad) m c]).run P w=.ok (.slice (some ⟨w.heap.size,0,none⟩) (n+m) cap') w' ∧
   w'=w.drew.alloc (.cells cur e)∧w'.ownsRow base e i.size (.slice (some ⟨w.heap.size,0,none⟩) (n+m) cap') (n+m) (xs++news)):=by
 have hmax:n+m≤maxLen:=by simp only [maxLen]; omega
 have hlen:(xs++news).length=(n+m)*i.size:=by rw [List.length_append,hown.1,hl,Nat.add_mul]
 by_cases hroom:n+m≤cap
 ·left
  rcases hown.2 with ⟨h,_⟩ | ⟨g',cap',cur,h,hbg,hg,hnc,hcm,hcs,htake⟩
  ·simp at h
  ·simp only [Value.slice.injEq,Option.some.injEq,Addr.mk.injEq,and_true,true_and] at h
   obtain⟨rfl,rfl⟩:=h
   have hfit:n*i.size+news.length≤cur.size:=by rw [hl,hcs,← Nat.add_mul]; exact Nat.mul_le_mul_right _ hroom
   have hr:=run_append_room (P:=P) w t ty e i ht hi g n cap cur hg ad m c news hl hnews h1 hroom hfit
   refine⟨_,hr,⟨hlen,.inr ⟨g,cap,_,rfl,hbg,setRow_heap w g cur _ e _ hg,hroom,hcm,?_,?_⟩⟩,⟨rfl,rfl,rfl,by simp,fun k _ hk=>setRow_other w g k _ (fun e=>hk (by simp [e]))⟩,size_setRow _ _ _⟩
   ·simp only [List.size_toArray,List.length_append,List.length_take,List.length_drop,Array.length_toList]
    omega
   ·rw [htake,← hlen]
    exact List.take_left
 ·right
  have holds:∀ (j:Nat) u,xs[j]?=some u→w.cell? ((⟨g,0,none⟩:Addr).add j)=some u:=hown.cells (g:=g) rfl
  have hr:=run_append_grow (P:=P) w t ty e i z ht hi hz ⟨g,0,none⟩ n cap xs hown.1 holds ad m c news hl hnews (by omega) (by omega) (growslice_fits (by omega) hbytes)
  refine⟨_,_,_,hr,rfl,hlen,.inr ⟨w.heap.size,_,_,rfl,hbase,heap_alloc_new w.drew _,grownCap_ge w _ _ e,grownCap_le_maxLen w _ _ e hmax,?_,?_⟩⟩
  ·simp only [Array.size_append,List.size_toArray,size_zeroCells,hzs,hown.1,hl,← Nat.add_mul]
   have:=grownCap_ge w (n+m) cap e
   congr 1
   omega
  ·simp only [Array.toList_append,List.append_assoc]
   rw [← List.append_assoc,← hlen]
   exact List.take_left
theorem mk_sound {o:Oper} {F':Fm} {H':List Box} {V':Know} (he:Mk P o F H V F' H' V') (h:Sat P N w0.heap.size F H V ρ a w) (hF:Fr Vs V w0 w) (hd:∀ d,o.dst=some d→d<N) :
  ∃ y ρ' w',(execOp a.eval o).run P w=.ok (.value y) w'∧Sat P N w0.heap.size F' H' V' ρ' (a.put o.dst y) w'∧Fr Vs V' w0 w':=by
 cases he with
 | @bs t n parts e sz vals cells i ho hu hi hsz h24 hn24 hp hfill hcs hz =>
  have hpv:=partVals_spec h hp
  have hown:(w.alloc (.cells cells e)).ownsRow w0.heap.size e (P.cellsOf e) (.slice (some ⟨w.heap.size,0,none⟩) n n) n cells.toList:=by
   have hn:n≤maxLen∨True:=.inr trivial
   refine⟨by rw [cellsOf_eq hi,hsz]; simpa using hcs,.inr ⟨w.heap.size,n,cells,rfl,hF.size,heap_alloc_new w _,Nat.le_refl _,?_,by rw [cellsOf_eq hi,hsz]; exact hcs,?_⟩⟩
   ·simp only [maxLen]; omega
   ·rw [List.take_of_length_le]; rw [cellsOf_eq hi,hsz,Array.length_toList,hcs]; exact Nat.le_refl _
  obtain⟨ρ',h1,h2⟩:=h.mkA hF hd n n cells.toList cells e (w.alloc (.cells cells e)) (fun _=>rfl) (by simp) rfl rfl rfl hown
  refine⟨_,ρ',_,?_,h1,h2⟩
  have hz':∃ z,i.zero=some z:=by
   cases hzz:i.zero with
   | none=>rw [hzz] at hz; cases hz
   | some z=>exact⟨z,rfl⟩
  obtain⟨z,hz'⟩:=hz'
  have hmap:(parts.map fun(p:Nat × Operand)=>(p.1,a.eval p.2)).toList=vals:=by rw [Array.toList_map]; exact hpv
  subst hsz
  have h24':¬ (16777216<n*i.size):=by omega
  by_cases hzero:n*i.size=0
  ·simp only [hzero,if_true] at hfill
   simp [execOp,ho,Instr.buildSlice,underlying,hu,Go.sizeOf,typeInfo,hi,hzero,newRow]
   have:=hfill
   rw [← hmap] at this
   simp at this
   simp [this]
  ·simp only [hzero,if_false,hz'] at hfill
   simp [execOp,ho,Instr.buildSlice,underlying,hu,Go.sizeOf,typeInfo,hi,hzero,newRow,h24',zeroValue,hz']
   have:=hfill
   rw [← hmap] at this
   simp at this
   simp [this]
 | @mk t l c e i z kl kc L C ho hu hi hz hl hc h0 hLC hb h63 =>
  have e1:=h.eval hl rfl
  have e2:=h.eval hc rfl
  have hr:=run_make (P:=P) w t e i z hu hi hz kl kc L C h0 hLC hb h63
  have hown:(w.alloc (.cells (madeCells z.cells (C.toNat*i.size)) e)).ownsRow w0.heap.size e (P.cellsOf e) (.slice (some ⟨w.heap.size,0,none⟩) L.toNat C.toNat) L.toNat (madeCells z.cells (L.toNat*i.size)).toList:=by
   rw [cellsOf_eq hi]
   refine⟨by simp [size_madeCells],.inr ⟨w.heap.size,C.toNat,_,rfl,hF.size,heap_alloc_new w _,by omega,by simp only [maxLen]; omega,size_madeCells _ _,?_⟩⟩
   exact madeCells_take _ _ _ (Nat.mul_le_mul_right _ (by omega))
  obtain⟨ρ',h1,h2⟩:=h.mkA hF hd L.toNat C.toNat _ _ e _ (fun _=>rfl) (by simp) rfl rfl rfl hown
  refine⟨_,ρ',_,?_,h1,h2⟩
  simp [execOp,ho,e1,e2,hr]
 | @ap c s x t e i z j n xs sx ys m ho hcal hargs htys hu hi hz hzs hsz hs hj hx hsrc h1 hby h63 =>
  have hcv:cv ρ H (.o j)=some (.slice (some ⟨(ρ j).1,0,none⟩) n (ρ j).2):=by simp [cv,hj]
  have e1:=h.eval hs hcv
  have ha:c.args=#[s,x]:=by rw [← hargs]
  have ht:c.argTypes=#[t,t]:=by rw [← htys]
  have hown:=h.box j _ hj
  simp only [BoxOk] at hown
  rw [cellsOf_eq hi] at hown
  have hone:∀ u∈ys,u.oneCell'=true:=fun v hv=>(List.all_eq_true.1 h1) v hv
  have hjl:=(List.getElem?_eq_some_iff.1 hj).1
  -- in place: box j's block is taken over
  have inplace:∀ (w':World) (hw:w'.ownsRow w0.heap.size e i.size (.slice (some ⟨(ρ j).1,0,none⟩) (n+m) (ρ j).2) (n+m) (xs++ys)) (_:w.grownBy w' (some (ρ j).1)) (_:w'.heap.size=w.heap.size),
    ∃ ρ',Sat P N w0.heap.size (putF F o.dst (.o H.length)) (H.set j .x++[.a (n+m) (xs++ys) e]) V ρ' (a.put o.dst (.slice (some ⟨(ρ j).1,0,none⟩) (n+m) (ρ j).2)) w'∧Fr Vs V w0 w':=by
   intro w' hw hg hsz'
   have hk:=h.killBox j
   let ρ':Nat→Nat × Nat:=fun k=>if k=H.length then ρ j else ρ k
   have hρ:∀ k,k<H.length→ρ' k=ρ k:=fun k hk=>if_neg (by omega)
   have hn:ρ' H.length=ρ j:=if_pos rfl
   have key:∀ (k:Nat) (c:Box),(H.set j .x)[k]?=some c→c.live=true→H[k]?=some c∧k≠j:=by
    intro k c hc hl
    rw [List.getElem?_set] at hc
    by_cases e:j=k
    ·subst e
     simp [hjl] at hc; subst hc; cases hl
    ·simp [e] at hc; exact⟨hc,fun h=>e h.symm⟩
   have hS:Sat P N w0.heap.size F (H.set j .x++[.a (n+m) (xs++ys) e]) V ρ' a w':=by
    refine hk.addBoxAt (b:=.a (n+m) (xs++ys) e) rfl (by simpa using hρ) ?_ ?_ ?_ ?_ ?_ ?_
    ·intro k c hc hl
     simp only [List.length_set]
     rw [hn]
     obtain⟨h1,h2⟩:=key k c hc hl
     exact fun e=>h2 (h.inj k j c _ h1 hj hl rfl e)
    ·simp only [List.length_set]; rw [hn]; exact h.base j _ hj rfl
    ·simp only [List.length_set]; rw [hn]
     exact fun k hk hne=>hg.block k hk (by simpa using hne)
    ·simp only [List.length_set]; rw [hn]; exact h.priv j _ hj rfl
    ·intro cs u hc; cases hc
    ·simp only [BoxOk,List.length_set]; rw [hn,cellsOf_eq hi]; exact hw
   refine⟨ρ',hS.put hd (by simp [inb]) (fun x hx=>?_),hF.sameBlocks (ρ j).1 (h.base j _ hj rfl) hsz' hg.os hg.tape hg.output (fun k hk=>?_)⟩
   ·have hlast:(H.set j .x++[Box.a (n+m) (xs++ys) e])[H.length]?=some (.a (n+m) (xs++ys) e):=by
     rw [List.getElem?_append_right (by simp)]; simp
    simp only [cv,hlast,hn] at hx
    simp at hx
    exact hx.symm
   ·by_cases hlt:k<w.heap.size
    ·exact hg.block k hlt (by simpa using hk)
    ·rw [Array.getElem?_eq_none (by omega),Array.getElem?_eq_none (by omega)]
  rcases Src.cells h hx hsrc with ⟨hl,⟨e2,rfl,rfl⟩ | ⟨ad,cp,e2,hnews⟩⟩
  ·have hr:=run_append_owned_none (P:=P) w w0.heap.size t o.type e i i.size hu hi _ n xs hown
   simp only [Nat.add_zero,List.append_nil] at inplace ⊢
   obtain⟨ρ',g1,g2⟩:=inplace w hown ⟨rfl,rfl,rfl,Nat.le_refl _,fun _ _ _=>rfl⟩ rfl
   refine⟨_,ρ',_,?_,g1,g2⟩
   simp [execOp,ho,resolve,hcal,ha,ht,invoke,builtin,e1,e2,hr]
  ·rcases run_append (P:=P) w w0.heap.size t o.type e i z hu hi hz hzs (ρ j).1 n (ρ j).2 xs hown ad m cp ys hl hnews hone h63 hby hF.size with ⟨w',hr,hw,hg,hsz'⟩ | ⟨cap',w',cur,hr,hw',hw⟩
   ·obtain⟨ρ',g1,g2⟩:=inplace w' hw hg hsz'
    refine⟨_,ρ',_,?_,g1,g2⟩
    simp [execOp,ho,resolve,hcal,ha,ht,invoke,builtin,e1,e2,hr]
   ·have hk:=h.killBox j
    subst hw'
    have hlenset:(H.set j Box.x).length=H.length:=by simp
    obtain⟨ρ',g1,g2⟩:=hk.mkA hF hd (n+m) cap' (xs++ys) cur e (w.drew.alloc (.cells cur e)) (fun _=>rfl) (by simp) rfl rfl rfl (by rw [cellsOf_eq hi]; exact hw)
    rw [hlenset] at g1
    refine⟨_,ρ',_,?_,g1,g2⟩
    simp [execOp,ho,resolve,hcal,ha,ht,invoke,builtin,e1,e2,hr]
 | @apnil c s x t e i z sx ys m ho hcal hargs htys hu hi hz hzs hsz hs hx hsrc hm hby h63 =>
  have e1:=h.eval hs rfl
  have ha:c.args=#[s,x]:=by rw [← hargs]
  have ht:c.argTypes=#[t,t]:=by rw [← htys]
  rcases Src.cells h hx hsrc with ⟨hl,⟨e2,rfl,rfl⟩ | ⟨ad,cp,e2,hnews⟩⟩
  ·omega
  ·have hr:=run_append_nil (P:=P) w t o.type e i z hu hi hz ad m cp ys hl hnews hm (by omega) (by omega)
   have hmax:m≤maxLen:=by simp only [maxLen]; omega
   have hown:(w.drew.alloc (.cells (ys.toArray++Builtin.zeroCells z.cells (grownCap w m 0 e-m)) e)).ownsRow w0.heap.size e (P.cellsOf e) (.slice (some ⟨w.heap.size,0,none⟩) m (grownCap w m 0 e)) m ys:=by
    rw [cellsOf_eq hi]
    have hge:=grownCap_ge w m 0 e
    refine⟨hl,.inr ⟨w.heap.size,_,_,rfl,hF.size,heap_alloc_new w.drew _,hge,grownCap_le_maxLen w _ _ e hmax,?_,?_⟩⟩
    ·simp only [Array.size_append,List.size_toArray,size_zeroCells,hzs,hl,← Nat.add_mul]
     congr 1
     omega
    ·simp only [Array.toList_append]
     rw [← hl]
     exact List.take_left
   obtain⟨ρ',g1,g2⟩:=h.mkA hF hd m (grownCap w m 0 e) ys (ys.toArray++Builtin.zeroCells z.cells (grownCap w m 0 e-m)) e (w.drew.alloc (.cells (ys.toArray++Builtin.zeroCells z.cells (grownCap w m 0 e-m)) e)) (fun _=>rfl) (by simp) rfl rfl rfl hown
   refine⟨_,ρ',_,?_,g1,g2⟩
   simp [execOp,ho,resolve,hcal,ha,ht,invoke,builtin,e1,e2,hr]
 | @apzero c s x t e i sx ys sa n cp ho hcal hargs htys hu hi hs hx hsrc hncp hsa =>
  have e1:=h.eval hs rfl
  have ha:c.args=#[s,x]:=by rw [← hargs]
  have ht:c.argTypes=#[t,t]:=by rw [← htys]
  refine⟨.slice sa n cp,ρ,w,?_,h.put hd trivial (fun x hx=>by simp [cv] at hx; exact hx.symm),hF⟩
  rcases Src.cells h hx hsrc with ⟨hl,⟨e2,_,_⟩ | ⟨ad,cpx,e2,hnews⟩⟩
  ·have hr:=run_append_m0 (P:=P) w t o.type e i hu hi sa n cp none 0 hncp hsa
   simp [execOp,ho,resolve,hcal,ha,ht,invoke,builtin,e1,e2,hr]
  ·have hr:=run_append_m0 (P:=P) w t o.type e i hu hi sa n cp (some ad) cpx hncp hsa
   simp [execOp,ho,resolve,hcal,ha,ht,invoke,builtin,e1,e2,hr]
 | @cp c d s t t' e i j n xs sx ys m ho hcal hargs htys hu hi hsz hdst hj hx hsrc hone =>
  have ha:c.args=#[d,s]:=by rw [← hargs]
  have ht:c.argTypes=#[t,t']:=by rw [← htys]
  have hcv:cv ρ H (.o j)=some (.slice (some ⟨(ρ j).1,0,none⟩) n (ρ j).2):=by simp [cv,hj]
  have e1:=h.eval hdst hcv
  have hown:=h.box j _ hj
  have hce:P.cellsOf e=1:=by rw [cellsOf_eq hi,hsz]
  have hlen:xs.length=n:=by have:=hown.1; rw [hce,Nat.mul_one] at this; exact this
  have hs1:(P.info? e).map (·.size)=some 1:=by rw [hi]; simp [hsz]
  rcases Src.cells h hx hsrc with ⟨hl,⟨e2,hys,hm⟩ | ⟨ad,cp,e2,hnews⟩⟩
  ·subst hys; subst hm
   have hr:=run_copy_nil (P:=P) w t t' o.type e ⟨(ρ j).1,0,none⟩ n (ρ j).2 hu (by rw [hs1]; rfl)
   have hz:(H.set j (.a n (setl xs 0 (([]:List Value).take (Nat.min 0 n))) e))=H:=by
    have e3:setl xs 0 (([]:List Value).take (Nat.min 0 n))=xs:=by simp [setl]
    rw [e3]
    apply List.ext_getElem?
    intro k
    rw [List.getElem?_set]
    split
    ·rename_i hk; subst hk
     have:=(List.getElem?_eq_some_iff.1 hj).1
     rw [if_pos this,hj]
    ·rfl
   rw [hz]
   refine⟨.int .i64 ((Nat.min 0 n:Nat)),ρ,w,?_,h.put hd trivial (fun x hx=>by simp [cv] at hx; exact hx.symm),hF⟩
   simp [execOp,ho,resolve,hcal,ha,ht,invoke,builtin,e1,e2,hr,goInt]
  ·have hq:(ys.take (Nat.min m n)).length=Nat.min m n:=by
    rw [List.length_take,hl,Nat.mul_one]
    exact Nat.min_eq_left (Nat.min_le_left m n)
   obtain⟨cur,c1,c2⟩:=setRow_owns (ys:=ys.take (Nat.min m n)) hown 0 (by rw [hq,hlen,Nat.zero_add]; exact Nat.min_le_right m n)
   have hr:=run_copy_row (P:=P) w t t' o.type e (ρ j).1 0 n (ρ j).2 ad m cp (xs++cur).toArray e (ys.take (Nat.min m n)) hu hs1 c1 hq
    (fun k v hk=>hnews k v (by rw [List.getElem?_take] at hk; split at hk <;> first | exact hk | cases hk))
    (by rw [hq]; simp only [Nat.zero_add,List.size_toArray,List.length_append]; have:Nat.min m n≤n:=Nat.min_le_right m n; omega)
    (fun v hv=>by
     have:=List.all_eq_true.1 hone v (List.mem_of_mem_take hv)
     exact this)
   have hsat:Sat P N w0.heap.size F (H.set j (.a n (setl xs 0 (ys.take (Nat.min m n))) e)) V ρ a (w.setRow (ρ j).1 (setl (xs++cur) 0 (ys.take (Nat.min m n))).toArray) :=
    h.setBox hj (.inr ⟨n,xs,e,_,e,rfl,rfl⟩) (fun k hk=>setRow_other w _ k _ hk) c2
   refine⟨.int .i64 ((Nat.min m n:Nat)),ρ,_,?_,hsat.put hd trivial (fun x hx=>by simp [cv] at hx; exact hx.symm),hF.sameBlocks (ρ j).1 (h.base j _ hj rfl) (size_setRow _ _ _) rfl rfl rfl (fun k hk=>setRow_other w _ k _ hk)⟩
   rw [hq] at hr
   simp only [execOp,ho,resolve,hcal]
   simp [ha,ht,invoke,builtin,e1,e2,hr,goInt,setl,hq]
end Sx
namespace Sx
open Go
variable {P:Program} {N:Nat} {w0:World} {F:Fm} {H:List Box} {Vs V V0:Know} {ρ:Nat→Nat × Nat} {a:Act} {w:World}
structure AlD where
 z:Option Value
 n:Nat
 ys:List Value
 t:TypeId
 exact:Bool
def AlC (P:Program) (d:AlD) (cap:Nat) (spare:List Value):Prop:=(d.exact=true→cap=d.n∧spare=[])∧spare.length=(cap-d.n)*P.cellsOf d.t
def alApp (P:Program) (V0:Know) (t:TypeId) (s x:Option SV):Option AlD :=
 match P.underlying t,s,x with
 | some (.slice e),some (.v (.slice (some sb) 0 0)),some (.v (.slice xa m _))=>match P.info? e with
  | some i=>match i.zero with
   | some z=>if z.cells.size=i.size then if m=0 then some ⟨some (.slice (some sb) 0 0),0,[],e,false⟩ else match xa with
    | some ad=>match loadV V0 ad (m*i.size) with
     | some ys=>if one ys=true∧m*i.bytes≤140737488355328∧m≤9223372036854775807 then some ⟨none,m,ys,e,false⟩ else none
     | none=>none
    | none=>none
    else none
   | none=>none
  | none=>none
 | _,_,_=>none
theorem partVals_congr {F1:Fm}:∀ {l:List (Nat × Operand)},(∀ p∈l,ev H F1 p.2=ev H F p.2)→partVals H F1 l=partVals H F l
 | [],_=>rfl
 | (i,x) :: r,h=>by
  have h1:=h (i,x) (by simp)
  have h2:=partVals_congr (l:=r) fun p hp=>h p (by simp [hp])
  simp only at h1
  simp only [partVals,h1,h2]
def litOf (i:TypeInfo) (n:Nat) (e:TypeId) (vals:Option (List (Nat × Value))):Option AlD:=match i.zero,vals with
 | some z,some vals=>if n*i.size≤16777216∧n≤16777216 then match Instr.fill (fun j=>some (j*i.size,i.size)) ((Array.range (n*i.size)).map ((if n*i.size=0 then #[] else z.cells)[· % (if n*i.size=0 then #[] else z.cells).size]!)) vals with
  | some cells=>if cells.size=n*i.size then some ⟨none,n,cells.toList,e,true⟩ else none
  | none=>none
  else none
 | _,_=>none
def alOf (P:Program) (V0:Know) (H:List Box) (F:Fm) (o:Oper):Option AlD :=
 match o.op with
 | .buildSlice t n parts=>match P.underlying t with
  | some (.slice e)=>match P.info? e with
   | some i=>if n=0∧parts.toList=[]∧i.zero.isSome=true then some ⟨none,0,[],e,true⟩ else litOf i n e (partVals H F parts.toList)
   | none=>none
  | _=>none
 | .call c=>match c.callee,c.args.toList,c.argTypes.toList with
  | .builtin .append,[s,x],[t,t']=>if t=t' then alApp P V0 t (ev H F s) (ev H F x) else none
  | _,_,_=>none
 | _=>none
theorem run_append_zero' (w:World) (t ty e:TypeId) (i:TypeInfo) (ht:P.underlying t=some (.slice e)) (hi:P.info? e=some i) (sb:Addr) (xa:Option Addr) (c:Nat) :
  (Builtin.append_ #[t,t] ty #[.slice (some sb) 0 0,.slice xa 0 c]).run P w=.ok (.slice (some sb) 0 0) w:=by
 cases xa with
 | none=>simp [Builtin.append_,run_underlying ht,Go.sizeOf,typeInfo,hi,Builtin.lenOf,Builtin.firstCells,storeCells]
 | some ad =>
  have hl:(loadCells ad 0).run P w=.ok #[] w:=by simpa using run_loadCells_list (P:=P) w ad [] (by simp)
  simp [Builtin.append_,run_underlying ht,Go.sizeOf,typeInfo,hi,Builtin.lenOf,Builtin.firstCells,storeCells,hl]
theorem run_lit (h:Sat P N w0.heap.size F H V ρ a w) {o:Oper} {t e:TypeId} {n:Nat} {parts:Array (Nat × Operand)} {i:TypeInfo} {z:Value} {vals:List (Nat × Value)} {cells:Array Value} (ho:o.op=.buildSlice t n parts) (hu:P.underlying t=some (.slice e)) (hi:P.info? e=some i) (hz:i.zero=some z)
  (h24:n*i.size≤16777216) (_:n≤16777216) (hp:partVals H F parts.toList=some vals) (hfill:Instr.fill (fun j=>some (j*i.size,i.size)) ((Array.range (n*i.size)).map ((if n*i.size=0 then #[] else z.cells)[· % (if n*i.size=0 then #[] else z.cells).size]!)) vals=some cells) :
  (execOp a.eval o).run P w=.ok (.value (.slice (some ⟨w.heap.size,0,none⟩) n n)) (w.alloc (.cells cells e)):=by
 have hpv:=partVals_spec h hp
 have hmap:(parts.map fun(p:Nat × Operand)=>(p.1,a.eval p.2)).toList=vals:=by rw [Array.toList_map]; exact hpv
 have h24':¬ (16777216<n*i.size):=by omega
 by_cases hzero:n*i.size=0
 ·simp only [hzero,if_true] at hfill
  simp [execOp,ho,Instr.buildSlice,underlying,hu,Go.sizeOf,typeInfo,hi,hzero,newRow]
  have:=hfill
  rw [← hmap] at this
  simp at this
  simp [this]
 ·simp only [hzero,if_false] at hfill
  simp [execOp,ho,Instr.buildSlice,underlying,hu,Go.sizeOf,typeInfo,hi,hzero,newRow,h24',zeroValue,hz]
  have:=hfill
  rw [← hmap] at this
  simp at this
  simp [this]
theorem al_sound (h:Sat P N w0.heap.size F H V ρ a w) (hV0:V0.on w) {o:Oper} {d:AlD} (hd:alOf P V0 H F o=some d) :
  ∃ y w',(execOp a.eval o).run P w=.ok (.value y) w'∧((d.z=some y∧w'=w)∨(d.z=none∧∃ cap spare,y=.slice (some ⟨w.heap.size,0,none⟩) d.n cap∧d.n≤cap∧AlC P d cap spare ∧
   (∀ k:Nat,w'.heap[k]?=(w.alloc (.cells (d.ys++spare).toArray d.t)).heap[k]?)∧w'.heap.size=w.heap.size+1∧w'.os=w.os∧w'.tape=w.tape∧w'.output=w.output)):=by
 unfold alOf at hd
 split at hd
 ·rename_i t n parts ho
  split at hd
  ·rename_i e hu
   split at hd
   ·rename_i i hi
    split at hd
    ·rename_i hc
     obtain⟨rfl,hp,hz⟩:=hc
     simp only [Option.some.injEq] at hd
     subst hd
     have hp':parts=#[]:=by cases parts; simpa using hp
     subst hp'
     refine⟨.slice (some ⟨w.heap.size,0,none⟩) 0 0,w.alloc (.cells #[] e),?_,.inr ⟨rfl,0,[],rfl,Nat.le_refl _,⟨fun _=>⟨rfl,rfl⟩,by simp⟩,fun _=>rfl,by simp,rfl,rfl,rfl⟩⟩
     simp [execOp,ho,Instr.buildSlice,underlying,hu,Go.sizeOf,typeInfo,hi,newRow,Instr.fill]
     have hr0:Array.map (fun(_:Nat)=>(default:Value)) (Array.range 0)=#[]:=Array.eq_empty_of_size_eq_zero (by simp)
     rw [hr0]
    ·unfold litOf at hd
     split at hd
     ·rename_i z vals hz hv
      split at hd
      ·rename_i hc
       split at hd
       ·rename_i cells hf
        split at hd
        ·simp only [Option.some.injEq] at hd
         subst hd
         have hcs:(cells.toList++[]).toArray=cells:=by simp
         exact⟨_,w.alloc (.cells cells e),run_lit h ho hu hi hz hc.1 hc.2 hv hf,.inr ⟨rfl,n,[],rfl,Nat.le_refl _,⟨fun _=>⟨rfl,rfl⟩,by simp⟩,fun k=>by rw [hcs],by simp,rfl,rfl,rfl⟩⟩
        ·cases hd
       ·cases hd
      ·cases hd
     ·cases hd
   ·cases hd
  ·cases hd
 ·rename_i c ho
  split at hd
  ·rename_i s x t t' hcal hargs htys
   split at hd
   ·rename_i htt
    subst htt
    have ha:c.args=#[s,x]:=by rw [← hargs]
    have ht:c.argTypes=#[t,t]:=by rw [← htys]
    unfold alApp at hd
    split at hd
    ·rename_i e sb xa m cx hu hs hx
     have e1:=h.eval hs rfl
     have e2:=h.eval hx rfl
     split at hd
     ·rename_i i hi
      split at hd
      ·rename_i z hz
       split at hd
       rotate_left
       ·cases hd
       rename_i hzs
       split at hd
       ·rename_i hm
        subst hm
        simp only [Option.some.injEq] at hd
        subst hd
        have hr:=run_append_zero' (P:=P) w t o.type e i hu hi sb xa cx
        refine⟨_,w,?_,.inl ⟨rfl,rfl⟩⟩
        simp [execOp,ho,resolve,hcal,ha,ht,invoke,builtin,e1,e2,hr]
       ·rename_i hm
        split at hd
        ·rename_i ad
         split at hd
         ·rename_i ys hl
          split at hd
          ·rename_i hc
           simp only [Option.some.injEq] at hd
           subst hd
           obtain⟨g1,g2⟩:=loadV_spec hV0 hl (one_noTup hc.1)
           have hr:=run_append_grow (P:=P) (w:=w) t o.type e i z hu hi hz sb 0 0 [] (by simp) (by simp) ad m cx ys g1 g2 (by omega) (by omega) (growslice_fits (by omega) (by simpa using hc.2.1))
           simp only [Nat.zero_add] at hr
           have he:(([]:List Value).toArray++ys.toArray++Builtin.zeroCells z.cells (grownCap w m 0 e-m))=(ys++(Builtin.zeroCells z.cells (grownCap w m 0 e-m)).toList).toArray:=by
            apply Array.ext'; simp
           rw [he] at hr
           refine⟨.slice (some ⟨w.heap.size,0,none⟩) m (grownCap w m 0 e),w.drew.alloc (.cells (ys++(Builtin.zeroCells z.cells (grownCap w m 0 e-m)).toList).toArray e),?_,
            .inr ⟨rfl,grownCap w m 0 e,(Builtin.zeroCells z.cells (grownCap w m 0 e-m)).toList,rfl,grownCap_ge w m 0 e,⟨nofun,by rw [Array.length_toList,size_zeroCells,hzs,cellsOf_eq hi]⟩,fun k=>rfl,by simp,rfl,rfl,rfl⟩⟩
           simp only [execOp,ho,resolve,hcal]
           simp [ha,ht,invoke,builtin,e1,e2,hr]
          ·cases hd
         ·cases hd
        ·cases hd
      ·cases hd
     ·cases hd
    ·cases hd
   ·cases hd
  ·cases hd
 ·cases hd
def isXA (ops:Array Oper) (o:Oper):Bool:=match o.op,o.dst with
 | .call c,some d=>match c.callee,c.args.toList with
  | .builtin .append,[.tmp s,_]=>ops.any (fun p=>(match p.op with | .buildSlice _ 0 parts=>parts.isEmpty | _=>false) && p.dst == some s) &&
    ops.any (fun p=>match p.op with | .build _ parts=>parts.any (fun q=>match q.2 with | .tmp t=>t == d | _=>false) | _=>false)
  | _,_=>false
 | _,_=>false
def isLit (ops:Array Oper) (d:Tmp):Bool:=ops.any fun p=>match p.op with
 | .call c=>(match c.callee with | .value _=>c.args.toList.any (fun x=>match x with | .tmp t=>t == d | _=>false) | _=>false)
 | _=>false
def isX (ops:Array Oper) (o:Oper):Bool:=isXA ops o || match o.op,o.dst with
 | .buildSlice _ 0 parts,some d=>parts.isEmpty && ops.any (fun p=>isXA ops p && match p.op with | .call c=>(match c.args.toList with | .tmp s :: _=>s == d | _=>false) | _=>false)
 | .buildSlice _ (_+1) _,some d=>isLit ops d
 | _,_=>false
theorem alOf_congr {F':Fm} {o:Oper} (h:∀ x∈o.op.operands,ev H F x=ev H F' x):alOf P V0 H F o=alOf P V0 H F' o:=by
 unfold alOf
 split
 ·rename_i t n parts ho
  rw [partVals_congr (F:=F') fun p hp=>h p.2 (by rw [ho]; simp only [Op.operands]; exact List.mem_toArray.2 (List.mem_map_of_mem hp))]
 ·rename_i c ho
  split
  ·rename_i s x t t' hcal hargs htys
   have hs:s∈c.args:=by rw [← Array.mem_toList_iff,hargs]; simp
   have hx:x∈c.args:=by rw [← Array.mem_toList_iff,hargs]; simp
   rw [h s (by simp [ho,Op.operands,Call.operands,hs]),h x (by simp [ho,Op.operands,Call.operands,hx])]
  ·rfl
 ·rfl
theorem Sat.alloc {V':Know} {w':World} {xs:List Value} {t:TypeId} (h:Sat P N w0.heap.size F H V ρ a w) (hV':V'=kset V w.heap.size (xs,(t,(0,0))))
  (hh:∀ k:Nat,w'.heap[k]?=(w.alloc (.cells xs.toArray t)).heap[k]?) (hsz:w'.heap.size=w.heap.size+1) (hos:w'.os=w.os) (htp:w'.tape=w.tape) (hout:w'.output=w.output):Fr V V' w w'∧V'.on w':=by
 subst hV'
 refine⟨⟨hos,htp,hout,by omega,fun b hb _=>by rw [hh,heap_alloc_old w _ hb],fun b hb hn=>?_⟩,fun b c u hb=>?_⟩
 ·simp only [kset]
  rw [if_neg (by omega)]; exact hn
 ·simp only [kset] at hb
  split at hb
  ·rename_i e
   subst e
   simp only [Option.some.injEq,Prod.mk.injEq] at hb
   obtain⟨rfl,rfl⟩:=hb
   rw [hh,heap_alloc_new,objOf_rw]
  ·rename_i e
   have hlt:b<w.heap.size:=by
    have:=h.know b c u hb
    exact(Array.getElem?_eq_some_iff.1 this).1
   rw [hh,heap_alloc_old w _ hlt]
   exact h.know b c u hb
theorem new_block {V:Know} (h:∃ w,V.on w) (xs:List Value) (t:TypeId):∃ b,V b=none∧∃ w,(kset V b (xs,(t,(0,0)))).on w:=by
 obtain⟨w,hw⟩:=h
 refine⟨w.heap.size,hw.size_none,w.alloc (.cells xs.toArray t),fun b c u hb=>?_⟩
 simp only [kset] at hb
 split at hb
 ·rename_i e
  subst e
  simp only [Option.some.injEq,Prod.mk.injEq] at hb
  obtain⟨rfl,rfl⟩:=hb
  rw [heap_alloc_new,objOf_rw]
 ·rename_i e
  have hlt:b<w.heap.size:=(Array.getElem?_eq_some_iff.1 (hw b c u hb)).1
  rw [heap_alloc_old w _ hlt]
  exact hw b c u hb
theorem kset_comm {V:Know} {b c:Nat} {x y} (h:b≠c):kset (kset V b x) c y=kset (kset V c y) b x:=by
 funext k
 simp only [kset]
 by_cases h1:k=c
 ·subst h1; simp [Ne.symm h]
 ·simp [h1]
theorem le_kset' {V:Know} {b:Nat} {x} (h:V b=none):V.le (kset V b x):=by
 intro k y hk
 simp only [kset]
 by_cases e:k=b
 ·subst e; rw [h] at hk; cases hk
 ·rw [if_neg e]; exact hk
theorem kset_mono {V:Know} {b c:Nat} {x y} (h:V b=none) (hne:b≠c):(kset V c y).le (kset (kset V b x) c y):=by
 rw [kset_comm hne]
 exact le_kset' (by simp only [kset]; rw [if_neg hne]; exact h)
theorem Sat.wrV (h:Sat P N w0.heap.size F H V ρ a w) (hF:Fr Vs V w0 w) {b:Nat} {cs:List Value} {u:TypeId} (hv:V b=some (cs,(u,(0,0)))) (L:List Value) :
  Sat P N w0.heap.size F H (kset V b (L,(u,(0,0)))) ρ a (w.setRow b L.toArray)∧Fr Vs (kset V b (L,(u,(0,0)))) w0 (w.setRow b L.toArray):=by
 have hk:=h.know.row hv
 have hne:∀ i c,H[i]?=some c→c.live=true→(ρ i).1≠b:=fun i c hb hl e=>by
  have:=h.priv i c hb hl; rw [e,hv] at this; cases this
 refine⟨⟨h.defers,h.size,h.slot,fun i c hb=>(h.box i c hb).of_heap rfl (fun hl=>setRow_other w _ _ _ (hne i c hb hl)),h.inj,h.base,?_,?_,h.wfF,h.wfH⟩,?_⟩
 ·intro i c hb hl
  simp only [kset,if_neg (hne i c hb hl)]
  exact h.priv i c hb hl
 ·intro k c t hb
  simp only [kset] at hb
  split at hb
  ·rename_i e
   subst e
   simp at hb
   obtain⟨rfl,rfl⟩:=hb
   rw [objOf_rw]
   exact setRow_heap w _ _ _ u (0,0) hk
  ·rename_i e
   rw [setRow_other w _ _ _ e]
   exact h.know k c t hb
 ·refine⟨hF.os,hF.tape,hF.output,by rw [size_setRow]; exact hF.size,fun k hlt hn=>?_,fun k hlt hn=>?_⟩
  ·have hbn:=hF.dom k hlt hn
   rw [setRow_other w _ _ _ (fun e=>by rw [e,hv] at hbn; cases hbn)]
   exact hF.keep k hlt hn
  ·have hbn:=hF.dom k hlt hn
   simp only [kset]
   rw [if_neg (fun e=>by rw [e,hv] at hbn; cases hbn)]
   exact hbn
theorem aki_sound {o:Oper} {c:Call} {s x:Operand} {t e:TypeId} {i:TypeInfo} {b n cp:Nat} {sx:SV} {ys cs:List Value} {m:Nat} (h:Sat P N w0.heap.size F H V ρ a w) (hF:Fr Vs V w0 w) (ho:o.op=.call c) (hcal:c.callee=.builtin .append) (hargs:c.args.toList=[s,x]) (htys:c.argTypes.toList=[t,t]) (hu:P.underlying t=some (.slice e)) (hi:P.info? e=some i)
  (hs:ev H F s=some (.v (.slice (some ⟨b,0,none⟩) n cp))) (hx:ev H F x=some sx) (hsrc:Src H V i.size sx ys m) (h1:one ys=true) (hm:0<m) (hroom:n+m≤cp) (hv:V b=some (cs,(e,(0,0)))) (hfit:(n+m)*i.size≤cs.length) :
  ∃ w',(execOp a.eval o).run P w=.ok (.value (.slice (some ⟨b,0,none⟩) (n+m) cp)) w'∧Sat P N w0.heap.size F H (kset V b (setl cs (n*i.size) ys,(e,(0,0)))) ρ a w'∧Fr Vs (kset V b (setl cs (n*i.size) ys,(e,(0,0)))) w0 w':=by
 have e1:=h.eval hs rfl
 have ha:c.args=#[s,x]:=by rw [← hargs]
 have ht:c.argTypes=#[t,t]:=by rw [← htys]
 have hk:=h.know.row hv
 rcases Src.cells h hx hsrc with ⟨hl,⟨e2,_,rfl⟩ | ⟨ad,cpx,e2,hnews⟩⟩
 ·omega
 ·have hone:∀ u∈ys,u.oneCell'=true:=fun v hv=>(List.all_eq_true.1 h1) v hv
  have hr:=run_append_room (P:=P) w t o.type e i hu hi b n cp cs.toArray hk ad m cpx ys hl hnews hone hroom (by rw [hl,← Nat.add_mul]; simpa using hfit)
  obtain⟨q1,q2⟩:=h.wrV hF hv (setl cs (n*i.size) ys)
  refine⟨_,?_,q1,q2⟩
  simp only [execOp,ho,resolve,hcal]
  simp [ha,ht,invoke,builtin,e1,e2,hr,setl]
theorem akg_sound {o:Oper} {c:Call} {s x:Operand} {t e:TypeId} {i:TypeInfo} {z:Value} {sa:Option Addr} {n cp:Nat} {sx:SV} {ys old:List Value} {m:Nat} (h:Sat P N w0.heap.size F H V ρ a w) (ho:o.op=.call c) (hcal:c.callee=.builtin .append) (hargs:c.args.toList=[s,x]) (htys:c.argTypes.toList=[t,t]) (hu:P.underlying t=some (.slice e)) (hi:P.info? e=some i) (hz:i.zero=some z) (hzs:z.cells.size=i.size)
  (hs:ev H F s=some (.v (.slice sa n cp))) (hx:ev H F x=some sx) (hsrc:Src H V i.size sx ys m) (hm:0<m) (hroom:cp<n+m) (hby:(n+m)*i.bytes≤140737488355328) (h63:n+m≤9223372036854775807)
  (hold:(sa=none∧n=0∧cp=0∧old=[])∨∃ ad,sa=some ad∧loadV V ad (n*i.size)=some old) (hnt:noTup old=true) :
  ∃ cap spare w',(execOp a.eval o).run P w=.ok (.value (.slice (some ⟨w.heap.size,0,none⟩) (n+m) cap)) w'∧n+m≤cap∧spare.length=(cap-(n+m))*P.cellsOf e ∧
   (∀ k:Nat,w'.heap[k]?=(w.alloc (.cells ((old++ys)++spare).toArray e)).heap[k]?)∧w'.heap.size=w.heap.size+1∧w'.os=w.os∧w'.tape=w.tape∧w'.output=w.output:=by
 have e1:=h.eval hs rfl
 have ha:c.args=#[s,x]:=by rw [← hargs]
 have ht:c.argTypes=#[t,t]:=by rw [← htys]
 rcases Src.cells h hx hsrc with ⟨hl,⟨e2,_,rfl⟩ | ⟨ad,cpx,e2,hnews⟩⟩
 ·omega
 rcases hold with ⟨rfl,rfl,rfl,rfl⟩ | ⟨sb,rfl,hl2⟩
 ·rw [Nat.zero_add] at hby
  have hr:=run_append_nil (P:=P) (w:=w) t o.type e i z hu hi hz ad m cpx ys hl hnews hm (by omega) (by omega)
  have he:(ys.toArray++Builtin.zeroCells z.cells (grownCap w m 0 e-m))=(([]++ys)++(Builtin.zeroCells z.cells (grownCap w m 0 e-m)).toList).toArray:=by
   apply Array.ext'; simp
  rw [he] at hr
  have hge:=grownCap_ge w m 0 e
  refine⟨grownCap w m 0 e,(Builtin.zeroCells z.cells (grownCap w m 0 e-m)).toList,w.drew.alloc (.cells (([]++ys)++(Builtin.zeroCells z.cells (grownCap w m 0 e-m)).toList).toArray e),?_,by omega,by rw [Array.length_toList,size_zeroCells,hzs,cellsOf_eq hi,Nat.zero_add],fun k=>rfl,by simp,rfl,rfl,rfl⟩
  simp only [execOp,ho,resolve,hcal]
  simp [ha,ht,invoke,builtin,e1,e2,hr]
 ·obtain⟨g1,g2⟩:=loadV_spec h.know hl2 hnt
  have hr:=run_append_grow (P:=P) (w:=w) t o.type e i z hu hi hz sb n cp old g1 g2 ad m cpx ys hl hnews hroom (by omega) (growslice_fits hroom hby)
  have he:(old.toArray++ys.toArray++Builtin.zeroCells z.cells (grownCap w (n+m) cp e-(n+m)))=((old++ys)++(Builtin.zeroCells z.cells (grownCap w (n+m) cp e-(n+m))).toList).toArray:=by
   apply Array.ext'; simp
  rw [he] at hr
  refine⟨grownCap w (n+m) cp e,(Builtin.zeroCells z.cells (grownCap w (n+m) cp e-(n+m))).toList,w.drew.alloc (.cells ((old++ys)++(Builtin.zeroCells z.cells (grownCap w (n+m) cp e-(n+m))).toList).toArray e),?_,grownCap_ge w (n+m) cp e,by rw [Array.length_toList,size_zeroCells,hzs,cellsOf_eq hi],fun k=>rfl,by simp,rfl,rfl,rfl⟩
  simp only [execOp,ho,resolve,hcal]
  simp [ha,ht,invoke,builtin,e1,e2,hr]
end Sx
namespace Sx
open Go
variable {P:Program} {N:Nat} {w0:World} {F:Fm} {H:List Box} {Vs V V0:Know} {ρ:Nat→Nat × Nat} {a:Act} {w:World}
def want (ops:Array Oper) (F:Fm):Option (Nat × Bool)→Option Bool
 | none=>some true
 | some (j,b)=>match (ops[j]?).bind (·.dst) with
  | some d=>match F d with
   | some (.v (.bool c))=>some (c == b)
   | some (.v (.tuple _))=>some false
   | _=>none
  | none=>none
theorem want_sound (h:Sat P N w0.heap.size F H V ρ a w) {ops:Array Oper} {o:Oper} {g:Bool} (hw:want ops F o.guard=some g):Region.wanted o (yielded ops a.tmps)=g:=by
 unfold Region.wanted
 unfold want at hw
 split at hw
 ·rename_i hg
  simp at hw
  subst hw
  rw [hg]
 ·rename_i j b hg
  rw [hg]
  simp only
  split at hw
  ·rename_i d hd
   split at hw
   ·rename_i c hF
    simp at hw
    subst hw
    have:=h.slot d _ _ hF rfl
    simp only [yielded,hd,Option.bind_some,this]
    cases c <;> cases b <;> rfl
   ·rename_i vs hF
    simp at hw
    subst hw
    have:=h.slot d _ _ hF rfl
    simp only [yielded,hd,Option.bind_some,this]
    rfl
   ·cases hw
  ·cases hw
def plainOps (H:List Box) (F:Fm):List Operand→Option (List Value)
 | []=>some []
 | x :: r=>match ev H F x,plainOps H F r with
  | some (.v y),some l=>some (y :: l)
  | _,_=>none
theorem plainOps_spec (h:Sat P N w0.heap.size F H V ρ a w):∀ {l:List Operand} {l':List Value},plainOps H F l=some l'→l.map a.eval=l'
 | [],l',hl=>by simp [plainOps] at hl; subst hl; rfl
 | x :: r,l',hl=>by
  simp only [plainOps] at hl
  split at hl
  ·rename_i y l'' hx hr
   simp at hl
   subst hl
   simp [h.eval hx rfl,plainOps_spec h hr]
  ·cases hl
inductive MOp where
 | mk (t:TypeId)
 | lk (t:TypeId) (x k:Value) (ok:Bool)
 | up (t:TypeId) (m k x:Value)
 | del (ts:Array TypeId) (t:TypeId) (m k:Value)
 | cv (src dst:TypeId) (x:Value)
def MOp.sem:MOp→Sem Value
 | .mk t=>Instr.makeMap t none
 | .lk t x k ok=>Instr.lookup t x k ok
 | .up t m k x=>do Instr.mapUpdate t m k x; pure undef
 | .del ts t m k=>Builtin.delete_ ts t #[m,k]
 | .cv src dst x=>convert src dst x
def mopOf (H:List Box) (F:Fm) (o:Oper):Option MOp:=match o.op with
 | .makeMap t none=>some (.mk t)
 | .lookup t x k ok=>match ev H F x,ev H F k with
  | some (.v a),some (.v b)=>some (.lk t a b ok)
  | _,_=>none
 | .mapUpdate t m k x=>match ev H F m,ev H F k,ev H F x with
  | some (.v a),some (.v b),some (.v c)=>some (.up t a b c)
  | _,_,_=>none
 | .insert t m k x=>match ev H F m,ev H F k,ev H F x with
  | some (.v a),some (.v b),some (.v c)=>some (.up t a b c)
  | _,_,_=>none
 | .call c=>match c.callee,c.args.toList with
  | .builtin .delete,[m,k]=>match ev H F m,ev H F k with
   | some (.v a),some (.v b)=>some (.del c.argTypes o.type a b)
   | _,_=>none
  | _,_=>none
 | .convert src dst x=>match ev H F x with
  | some (.v a)=>some (.cv src dst a)
  | _=>none
 | _=>none
def SemX (P:Program) (V:Know) (m:Sem Value) (K:Know→Value→Prop):Prop :=
 ∀ w,V.on w→∃ y w' V',m.run P w=.ok y w'∧Fr V V' w w'∧V'.on w'∧K V' y
theorem SemX.mono {m:Sem Value} {K K':Know→Value→Prop} (h:SemX P V m K) (hk:∀ V' r,K V' r→K' V' r):SemX P V m K':=fun w hw=>by
 obtain⟨y,w',V',h1,h2,h3,h4⟩:=h w hw
 exact⟨y,w',V',h1,h2,h3,hk _ _ h4⟩
theorem mop_run {B:Nat} (h:Sat P N B F H V ρ a w) {o:Oper} {m:MOp} (hm:mopOf H F o=some m) {y:Value} {w':World} (hr:m.sem.run P w=.ok y w') :
  (execOp a.eval o).run P w=.ok (.value y) w'∨((execOp a.eval o).run P w=.ok .skip w'∧y=undef):=by
 unfold mopOf at hm
 split at hm
 ·rename_i t ho
  simp only [Option.some.injEq] at hm
  subst hm
  left
  simp only [MOp.sem] at hr
  simp [execOp,ho,hr]
 ·rename_i t x k ok ho
  split at hm
  ·rename_i u v hx hk
   simp only [Option.some.injEq] at hm
   subst hm
   left
   simp only [MOp.sem] at hr
   have e1:=h.eval hx rfl
   have e2:=h.eval hk rfl
   simp [execOp,ho,e1,e2,hr]
  ·cases hm
 ·rename_i t m' k x ho
  split at hm
  ·rename_i u v z hm' hk hx
   simp only [Option.some.injEq] at hm
   subst hm
   right
   simp only [MOp.sem,Sem.run_bind] at hr
   have e1:=h.eval hm' rfl
   have e2:=h.eval hk rfl
   have e3:=h.eval hx rfl
   simp only [execOp,ho,e1,e2,e3,Sem.run_bind]
   cases hq:(Instr.mapUpdate t u v z).run P w with
   | ok q w2 =>
    rw [hq] at hr
    simp at hr ⊢
    exact⟨hr.2,hr.1.symm⟩
   | _=>rw [hq] at hr; simp at hr
  ·cases hm
 ·rename_i t m' k x ho
  split at hm
  ·rename_i u v z hm' hk hx
   simp only [Option.some.injEq] at hm
   subst hm
   right
   simp only [MOp.sem,Sem.run_bind] at hr
   have e1:=h.eval hm' rfl
   have e2:=h.eval hk rfl
   have e3:=h.eval hx rfl
   simp only [execOp,ho,e1,e2,e3,Sem.run_bind]
   cases hq:(Instr.mapUpdate t u v z).run P w with
   | ok q w2 =>
    rw [hq] at hr
    simp at hr ⊢
    exact⟨hr.2,hr.1.symm⟩
   | _=>rw [hq] at hr; simp at hr
  ·cases hm
 ·rename_i c ho
  split at hm
  ·rename_i m' k hc ha
   split at hm
   ·rename_i u v hm' hk
    simp only [Option.some.injEq] at hm
    subst hm
    left
    have ha':c.args=#[m',k]:=by rw [← ha]
    have e1:=h.eval hm' rfl
    have e2:=h.eval hk rfl
    simp only [MOp.sem] at hr
    simp only [execOp,ho,resolve,hc]
    simp [ha',invoke,builtin,e1,e2,hr]
   ·cases hm
  ·cases hm
 ·rename_i src dst x ho
  split at hm
  ·rename_i u hx
   simp only [Option.some.injEq] at hm
   subst hm
   left
   simp only [MOp.sem] at hr
   have e1:=h.eval hx rfl
   simp [execOp,ho,e1,hr]
  ·cases hm
 ·cases hm
def calOp (c:Call):Option Operand:=match c.callee with | .value f=>some f | .invoke r _=>some r | .builtin _=>none
def calV (P:Program) (c:Call) (x:Value):Option (FuncId × Array Value × Array Value):=match c.callee,x with
 | .value _,.func (.func g) fs cs=>some (g,fs,cs)
 | .invoke _ m,.iface t v=>match prun P (method (P.types.size+Made.depth) t v m) with
  | some (g,r)=>some (g,#[r],#[])
  | none=>none
 | _,_=>none
def Cal (P:Program) (c:Call) (H:List Box) (F:Fm) (g:FuncId) (fs cs:Array Value):Prop :=
 ∃ f x,calOp c=some f∧ev H F f=some (.v x)∧calV P c x=some (g,fs,cs)
theorem Cal.congr {P:Program} {c:Call} {H H':List Box} {F F':Fm} {g:FuncId} {fs cs:Array Value} (h:Cal P c H F g fs cs) (he:∀ f,calOp c=some f→ev H' F' f=ev H F f):Cal P c H' F' g fs cs:=by
 obtain⟨f,x,h1,h2,h3⟩:=h
 exact⟨f,x,h1,by rw [he f h1]; exact h2,h3⟩
theorem calOp_mem {c:Call} {f:Operand} (h:calOp c=some f):f∈c.operands:=by
 unfold calOp at h
 unfold Call.operands
 split at h
 ·rename_i hc; cases h; simp [hc]
 ·rename_i hc; cases h; simp [hc]
 ·cases h
theorem Cal.nobi {P:Program} {c:Call} {H:List Box} {F:Fm} {g:FuncId} {fs cs:Array Value} (h:Cal P c H F g fs cs) (b:Builtin):c.callee≠.builtin b:=by
 obtain⟨f,x,h1,_⟩:=h
 intro e
 simp [calOp,e] at h1
def isAl (o:Oper):Bool:=match o.op with | .alloc _=>true | _=>false
def rsvB (d:Nat):Box:=.f (.tuple #[.int .u64 (Int.ofNat d)])
def isRsv (d:Nat):Box→Bool
 | .f (.tuple ⟨[.int _ (Int.ofNat n)]⟩)=>Nat.beq n d
 | _=>false
def rsvGo (d:Nat):Nat→List Box→Option Nat
 | _,[]=>none
 | i,b :: r=>match isRsv d b with | true=>some i | false=>rsvGo d (i+1) r
def rsv (d:Nat) (H:List Box):Option Nat:=rsvGo d 0 H
def isUp (o:Oper):Bool:=match o.op with | .mapUpdate ..=>true | .insert ..=>true | _=>false
def isLoad (o:Oper):Bool:=match o.op with | .load ..=>true | .convert ..=>true | .call c=>(match c.callee with | .builtin .append=>true | _=>false) | _=>false
def maskOf (acc:List Nat) (o:Oper):Nat:=o.after.toList.foldl (fun s e=>if Region.binds .any e then s ||| 2 ^ e.on ||| acc.getD e.on 0 else s) 0
def masks (l:List Oper):List Nat:=l.foldl (fun acc o=>acc++[maskOf acc o]) []
def nlRow (m i:Nat):Nat→List Oper→Bool
 | _,[]=>true
 | j,o :: r=>(!isLoad o || Nat.beq j i || (Nat.blt j i && m.testBit j)) && nlRow m i (j+1) r
def nlAt (ops:Array Oper) (i:Nat):Bool:=nlRow ((masks ops.toList).getD i 0) i 0 ops.toList
theorem nlRow_spec {m i:Nat}:∀ {l:List Oper} {j:Nat},nlRow m i j l=true→∀ (k:Nat) (o:Oper),l[k]?=some o→j+k≠i→isLoad o=false∨(j+k<i∧m.testBit (j+k)=true)
 | [],_,_,k,o,hk,_=>by simp at hk
 | o' :: r,j,h,k,o,hk,hne=>by
  simp only [nlRow,Bool.and_eq_true] at h
  cases k with
  | zero =>
   simp at hk
   subst hk
   have h1:=h.1
   simp only [Bool.or_eq_true,Bool.not_eq_true',Bool.and_eq_true,Nat.blt_eq,Nat.add_zero] at h1 hne ⊢
   rcases h1 with (h1 | h1) | h1
   ·exact .inl h1
   ·exact absurd (Nat.eq_of_beq_eq_true h1) hne
   ·exact .inr h1
  | succ k =>
   have:=nlRow_spec h.2 k o (by simpa using hk) (by omega)
   rwa [show j+1+k=j+(k+1) from by omega] at this
theorem nlAt_spec {ops:Array Oper} {i:Nat} (h:nlAt ops i=true) (k:Nat) (o:Oper) (hk:ops[k]?=some o) (hne:k≠i):isLoad o=false∨(k<i∧((masks ops.toList).getD i 0).testBit k=true):=by
 have:=nlRow_spec h k o (by simpa using hk) (by omega)
 simpa using this
inductive R (P:Program) (ops:Array Oper) (dr:Bool) (V0:Know) (K:Kt):List Nat→Fm→List Box→Know→Prop
 | nil {F:Fm} {H:List Box} {V:Know}:K F H V→R P ops dr V0 K [] F H V
 | skip {i r o} {F:Fm} {H:List Box} {V:Know}:ops[i]?=some o→want ops F o.guard=some false→R P ops dr V0 K r (putF F o.dst (.v undef)) H V→R P ops dr V0 K (i :: r) F H V
 | stab {i r o s} {F:Fm} {H:List Box} {V:Know}:ops[i]?=some o→want ops F o.guard=some true→isSel o.op=false→(dr=true→isX ops o=false)→stab P (if dr then V0 else V) H F o=some s →
   R P ops dr V0 K r (putF F o.dst s) H V→R P ops dr V0 K (i :: r) F H V
 | call {i r o c g fs cs l} {F:Fm} {H:List Box} {V:Know} (Q:Know→Value→Prop):ops[i]?=some o→want ops F o.guard=some true→o.op=.call c →
   Cal P c H F g fs cs→plainOps H F c.args.toList=some l→CallX P V g (fs.toList++l++cs.toList) Q →
   (∀ V' y,Q V' y→dr=true→(V.le V'∨V0.le V')∨nlAt ops i=true)→(∀ V' y,Q V' y→(∃ w,V'.on w)→R P ops dr V0 K r (putF F o.dst (.v y)) H V')→R P ops dr V0 K (i :: r) F H V
 | eff {i r o } {F:Fm} {H:List Box} {V:Know} {F':Fm} {H':List Box} {V':Know}:ops[i]?=some o→want ops F o.guard=some true→Eff P o F H V F' H' V'→(dr=true→isAl o=false)→R P ops dr V0 K r F' H' V'→R P ops dr V0 K (i :: r) F H V
 | alx {i r o t z d k} {F:Fm} {H:List Box} {V:Know}:dr=true→ops[i]?=some o→want ops F o.guard=some true→o.op=.alloc t→zeroOf P t=some z→o.dst=some d→rsv d H=some k →
   R P ops dr V0 K r (putF F o.dst (.p k 0)) (H.set k (.c (z.map .v) t)) V→R P ops dr V0 K (i :: r) F H V
 | mk {i r o } {F:Fm} {H:List Box} {V:Know} {F':Fm} {H':List Box} {V':Know}:ops[i]?=some o→want ops F o.guard=some true→(dr=true→isX ops o=false)→Mk P o F H V F' H' V'→R P ops dr V0 K r F' H' V'→R P ops dr V0 K (i :: r) F H V
 | al {i r o} {F:Fm} {H:List Box} {V:Know} (d:AlD):dr=true→ops[i]?=some o→want ops F o.guard=some true→isX ops o=true→alOf P V0 H F o=some d →
   (∀ y,d.z=some y→R P ops dr V0 K r (putF F o.dst (.v y)) H V) →
   (d.z=none→∀ b cap spare,V b=none→d.n≤cap→AlC P d cap spare→(∃ w,(kset V b (d.ys++spare,(d.t,(0,0)))).on w) →
    R P ops dr V0 K r (putF F o.dst (.v (.slice (some ⟨b,0,none⟩) d.n cap))) H (kset V b (d.ys++spare,(d.t,(0,0)))))→R P ops dr V0 K (i :: r) F H V
 | aki {i r o c s x t e i' b n cp sx ys cs m} {F:Fm} {H:List Box} {V:Know}:(dr=true→isX ops o=false∧∀ k∈r,∀ ok,ops[k]?=some ok→isLoad ok=false)→ops[i]?=some o→want ops F o.guard=some true→o.op=.call c→c.callee=.builtin .append→c.args.toList=[s,x]→c.argTypes.toList=[t,t] →
   P.underlying t=some (.slice e)→P.info? e=some i'→ev H F s=some (.v (.slice (some ⟨b,0,none⟩) n cp))→ev H F x=some sx→Src H V i'.size sx ys m→one ys=true→0<m→n+m≤cp→V b=some (cs,(e,(0,0)))→(n+m)*i'.size≤cs.length →
   R P ops dr V0 K r (putF F o.dst (.v (.slice (some ⟨b,0,none⟩) (n+m) cp))) H (kset V b (setl cs (n*i'.size) ys,(e,(0,0))))→R P ops dr V0 K (i :: r) F H V
 | akg {i r o c s x t e i' z sa n cp sx ys old m} {F:Fm} {H:List Box} {V:Know}:(dr=true→isX ops o=false)→ops[i]?=some o→want ops F o.guard=some true→o.op=.call c→c.callee=.builtin .append→c.args.toList=[s,x]→c.argTypes.toList=[t,t] →
   P.underlying t=some (.slice e)→P.info? e=some i'→i'.zero=some z→z.cells.size=i'.size→ev H F s=some (.v (.slice sa n cp))→ev H F x=some sx→Src H V i'.size sx ys m→0<m→cp<n+m→(n+m)*i'.bytes≤140737488355328→n+m≤9223372036854775807 →
   ((sa=none∧n=0∧cp=0∧old=[])∨∃ ad,sa=some ad∧loadV V ad (n*i'.size)=some old)→noTup old=true →
   (∀ b cap spare,V b=none→n+m≤cap→spare.length=(cap-(n+m))*P.cellsOf e→R P ops dr V0 K r (putF F o.dst (.v (.slice (some ⟨b,0,none⟩) (n+m) cap))) H (kset V b ((old++ys)++spare,(e,(0,0)))))→R P ops dr V0 K (i :: r) F H V
 | mo {i r o m} {F:Fm} {H:List Box} {V:Know} (Q:Know→Value→Prop):(dr=true→isUp o=true∧∀ k∈r,∀ ok,ops[k]?=some ok→isLoad ok=false)→ops[i]?=some o→want ops F o.guard=some true→mopOf H F o=some m→SemX P V m.sem Q →
   (∀ V' y,Q V' y→(∃ w,V'.on w)→R P ops dr V0 K r (putF F o.dst (.v y)) H V')→R P ops dr V0 K (i :: r) F H V
 | frz {l j n xs t} {F:Fm} {H:List Box} {V:Know}:dr=false→H[j]?=some (.a n xs t) →
   (∀ b cap spare,V b=none→n≤cap→spare.length=(cap-n)*P.cellsOf t→R P ops dr V0 K l F (H.set j (.f (.slice (some ⟨b,0,none⟩) n cap))) (kset V b (xs++spare,(t,(0,0)))))→R P ops dr V0 K l F H V
 | esc {l j cs t x} {F:Fm} {H:List Box} {V:Know}:dr=false→H[j]?=some (.c cs t)→plains (cs.map (res H))=some x →
   (∀ b,V b=none→R P ops dr V0 K l F (H.set j (.e b)) (kset V b (x,(t,(0,0)))))→R P ops dr V0 K l F H V
theorem Sat.call {V':Know} {w':World} (h:Sat P N w0.heap.size F H V ρ a w) (hf:Fr V V' w w') (hV:V'.on w'):Sat P N w0.heap.size F H V' ρ a w' :=
 ⟨h.defers,h.size,h.slot,fun i b hb=>(h.box i b hb).of_heap rfl (fun hl=>hf.keep _ (h.live_lt i b hb hl) (h.priv i b hb hl)),h.inj,h.base,
  fun i b hb hl=>hf.dom _ (h.live_lt i b hb hl) (h.priv i b hb hl),hV,h.wfF,h.wfH⟩
theorem Sat.shut (h:Sat P N w0.heap.size F H V ρ a w) {j:Nat} {b b':Box} (hb:H[j]?=some b) (hl:b.live=true) (hl':b'.live=false)
  (hcv:∀ s,cv ρ (H.set j b') s=cv ρ H s∨cv ρ (H.set j b') s=none) (cs:List Value) (t:TypeId) (hh:w.heap[(ρ j).1]?=some (.cells cs.toArray t (0,0))) :
  Sat P N w0.heap.size F (H.set j b') (kset V (ρ j).1 (cs,(t,(0,0)))) ρ a w:=by
 have hcv':∀ s x,cv ρ (H.set j b') s=some x→cv ρ H s=some x:=by
  intro s x hx
  rcases hcv s with e | e
  ·rw [← e]; exact hx
  ·rw [e] at hx; cases hx
 have hlt:=(List.getElem?_eq_some_iff.1 hb).1
 have key:∀ (k:Nat) (c:Box),(H.set j b')[k]?=some c→c.live=true→H[k]?=some c∧k≠j:=by
  intro k c hc hcl
  rw [List.getElem?_set] at hc
  by_cases e:j=k
  ·subst e
   simp [hlt] at hc
   subst hc
   rw [hl'] at hcl; cases hcl
  ·simp [e] at hc; exact⟨hc,fun h=>e h.symm⟩
 refine⟨h.defers,h.size,fun t s x hF hx=>h.slot t s x hF (hcv' s x hx),?_,?_,?_,?_,?_,?_,?_⟩
 ·intro k c hc
  by_cases hcl:c.live=true
  ·exact(h.box k c (key k c hc hcl).1).moved rfl (fun _ _ _ s _=>hcv s) (fun _=>rfl)
  ·cases c <;> first | trivial | (exact(hcl rfl).elim)
 ·intro k m c d hc hd hcl hdl he
  exact h.inj k m c d (key k c hc hcl).1 (key m d hd hdl).1 hcl hdl he
 ·intro k c hc hcl; exact h.base k c (key k c hc hcl).1 hcl
 ·intro k c hc hcl
  obtain⟨h1,h2⟩:=key k c hc hcl
  simp only [kset]
  rw [if_neg (fun e=>h2 (h.inj k j c b h1 hb hcl hl e))]
  exact h.priv k c h1 hcl
 ·intro k c u hk
  simp only [kset] at hk
  split at hk
  ·rename_i e
   subst e
   simp at hk
   obtain⟨rfl,rfl⟩:=hk
   rw [objOf_rw]; exact hh
  ·exact h.know k c u hk
 ·intro t s hF; simpa using h.wfF t s hF
 ·intro k c u hk s hs
  have:=(key k _ hk rfl).1
  simpa using h.wfH k c u this s hs
theorem Fr.shut (hF:Fr Vs V w0 w) {b:Nat} (hb:w0.heap.size≤b) (x:List Value × KTy):Fr Vs (kset V b x) w0 w :=
 ⟨hF.os,hF.tape,hF.output,hF.size,hF.keep,fun k hk hn=>by simp only [kset]; rw [if_neg (by omega)]; exact hF.dom k hk hn⟩
theorem cv_frz {j:Nat} {n:Nat} {xs:List Value} {t:TypeId} (hj:H[j]?=some (.a n xs t)) (s:SV) :
  cv ρ (H.set j (.f (.slice (some ⟨(ρ j).1,0,none⟩) n (ρ j).2))) s=cv ρ H s∨cv ρ (H.set j (.f (.slice (some ⟨(ρ j).1,0,none⟩) n (ρ j).2))) s=none:=by
 have hlt:=(List.getElem?_eq_some_iff.1 hj).1
 cases s with
 | v x=>exact .inl rfl
 | k b=>exact .inl rfl
 | p i off =>
  simp only [cv,List.getElem?_set]
  by_cases e:j=i
  ·subst e; simp [hlt]
  ·simp [e]
 | o i =>
  simp only [cv,List.getElem?_set]
  by_cases e:j=i
  ·subst e; rw [if_pos rfl,if_pos hlt,hj]; exact .inl rfl
  ·simp [e]
theorem cv_esc {j:Nat} {cs:List SV} {t:TypeId} (hj:H[j]?=some (.c cs t)) (s:SV):cv ρ (H.set j (.e (ρ j).1)) s=cv ρ H s∨cv ρ (H.set j (.e (ρ j).1)) s=none:=by
 have hlt:=(List.getElem?_eq_some_iff.1 hj).1
 cases s with
 | v x=>exact .inl rfl
 | k b=>exact .inl rfl
 | p i off =>
  simp only [cv,List.getElem?_set]
  by_cases e:j=i
  ·subst e; rw [if_pos rfl,if_pos hlt,hj]; exact .inl rfl
  ·simp [e]
 | o i =>
  simp only [cv,List.getElem?_set]
  by_cases e:j=i
  ·subst e; rw [if_pos rfl,if_pos hlt,hj]; exact .inl rfl
  ·simp [e]
theorem Sat.frz (h:Sat P N w0.heap.size F H V ρ a w) (hF:Fr Vs V w0 w) {j n:Nat} {xs:List Value} {t:TypeId} (hj:H[j]?=some (.a n xs t)) :
  ∃ b cap spare,V b=none∧n≤cap∧spare.length=(cap-n)*P.cellsOf t∧Sat P N w0.heap.size F (H.set j (.f (.slice (some ⟨b,0,none⟩) n cap))) (kset V b (xs++spare,(t,(0,0)))) ρ a w∧Fr Vs (kset V b (xs++spare,(t,(0,0)))) w0 w:=by
 have hown:=h.box j _ hj
 obtain⟨h1,h2⟩:=hown
 rcases h2 with ⟨h2,_⟩ | ⟨g,cap,cur,hv,hb,hg,hn,hm,hs,htake⟩
 ·cases h2
 ·simp only [Value.slice.injEq,Option.some.injEq,Addr.mk.injEq] at hv
  obtain⟨⟨rfl,_⟩,_,rfl⟩:=hv
  have hcur:cur=(xs++cur.toList.drop (n*P.cellsOf t)).toArray:=by rw [← htake,List.take_append_drop]
  refine⟨(ρ j).1,(ρ j).2,cur.toList.drop (n*P.cellsOf t),h.priv j _ hj rfl,hn,by rw [List.length_drop,Array.length_toList,hs,Nat.sub_mul],?_,hF.shut (h.base j _ hj rfl) _⟩
  exact h.shut hj rfl rfl (cv_frz hj) _ t (by rw [← hcur]; exact hg)
theorem plains_res_spec {H:List Box}:∀ {cs:List SV} {x:List Value},plains (cs.map (res H))=some x→x.length=cs.length∧∀ (j:Nat) y,x[j]?=some y→∃ s,cs[j]?=some s∧res H s=.v y:=by
 intro cs x h
 obtain⟨h1,h2⟩:=plains_spec h
 refine⟨by simpa using h1,fun j y hy=>?_⟩
 have:=h2 j y hy
 simpa using this
theorem Sat.esc (h:Sat P N w0.heap.size F H V ρ a w) (hF:Fr Vs V w0 w) {j:Nat} {cs:List SV} {t:TypeId} {x:List Value} (hj:H[j]?=some (.c cs t)) (hx:plains (cs.map (res H))=some x) :
  ∃ b,V b=none∧Sat P N w0.heap.size F (H.set j (.e b)) (kset V b (x,(t,(0,0)))) ρ a w∧Fr Vs (kset V b (x,(t,(0,0)))) w0 w:=by
 obtain⟨cells,g1,g2,g3⟩:=h.box j _ hj
 obtain⟨p1,p2⟩:=plains_res_spec hx
 have hc:cells=x:=by
  apply List.ext_getElem?
  intro k
  by_cases hk:k<x.length
  ·obtain⟨s,hs,hr⟩:=p2 k x[k] (by simp [hk])
   have:=g3 k s x[k] hs (cv_res (by rw [hr]; rfl))
   rw [this]
   simp [hk]
  ·rw [List.getElem?_eq_none (by omega),List.getElem?_eq_none (by omega)]
 subst hc
 exact⟨(ρ j).1,h.priv j _ hj rfl,h.shut hj rfl rfl (cv_esc hj) cells t g1,hF.shut (h.base j _ hj rfl) _⟩
theorem run_call (h:Sat P N w0.heap.size F H V ρ a w) {o:Oper} {c:Call} {g:FuncId} {fs cs:Array Value} (ho:o.op=.call c) (hc:Cal P c H F g fs cs) (he:Enters P g) :
  (execOp a.eval o).run P w=.ok (.enter g (fs++c.args.map a.eval++cs)) w:=by
 obtain⟨f,x,hf,hx,hv⟩:=hc
 have hx':=h.eval hx rfl
 obtain⟨fn,h1,h2,h3⟩:=he
 have h3' : ¬ fn.name = "runtime.NumGoroutine" := by simpa using h3
 have h2':fn.body≠none:=fun e=>by rw [e] at h2; cases h2
 unfold calOp at hf
 unfold calV at hv
 split at hf
 ·rename_i f' hc
  cases hf
  rw [hc] at hv
  split at hv
  ·rename_i hcc; cases hcc
   rename_i fs' cs'; cases hv
   simp [execOp,ho,resolve,hc,hx',Deferred.ofValue,invoke,callFunc,h1,h2',h3']
  ·rename_i hcc; cases hcc
  ·cases hv
 ·rename_i r m hc
  cases hf
  rw [hc] at hv
  split at hv
  ·rename_i hcc; cases hcc
  ·rename_i m' t v hcc
   cases hcc
   split at hv
   ·rename_i g' r' hp
    cases hv
    have hp':=prun_run hp w
    have e0:((#[Value.iface t v]:Array Value)++c.args.map a.eval)[0]?=some (.iface t v):=by
     rw [Array.getElem?_append_left (by simp)]; rfl
    simp [execOp,ho,resolve,hc,hx',invoke,callMethod,callFunc,h1,h2',h3',hp',e0]
    have e2:(c.args.map a.eval).extract 0 c.args.size=c.args.map a.eval:=by
     apply Array.ext'; rw [Array.toList_extract]; simp only [Array.toList_map,List.extract,List.drop_zero,Nat.sub_zero]; exact List.take_of_length_le (by simp)
    rw [e2]
   ·cases hv
  ·cases hv
 ·cases hf
theorem R.sound {ops:Array Oper} {K:Kt} {l:List Nat} (hr:R P ops false V0 K l F H V) (hN:∀ (i:Nat) (o:Oper) (d:Nat),ops[i]?=some o→o.dst=some d→d<N)
  {Q:Exit→Act→World→Prop} (hQ:∀ F H V ρ a w,Sat P N w0.heap.size F H V ρ a w→Fr Vs V w0 w→K F H V→Q .normal a w) :
  ∀ ρ a w,Sat P N w0.heap.size F H V ρ a w→Fr Vs V w0 w→wpOps P ops Q l a w:=by
 generalize hdr:false=dr at hr
 induction hr with
 | nil hk=>intro ρ a w h hF; exact hQ _ _ _ _ _ _ h hF hk
 | skip ho hw _ ih =>
  intro ρ a w h hF
  simp only [wpOps,ho,want_sound h hw]
  exact ih ρ _ w (h.put (s:=.v undef) (fun d hd=>hN _ _ d ho hd) trivial (fun x hx=>by simp [cv] at hx; exact hx.symm)) hF
 | stab ho hw hsel _ hs _ ih =>
  intro ρ a w h hF
  subst hdr
  simp only [Bool.false_eq_true,if_false] at hs
  obtain⟨y,hy,hy2⟩:=stab_sound h h.know hsel hs
  simp only [wpOps,ho,want_sound h hw,if_true]
  left
  simp only [Oper.wp,hy,Oper.upon_value]
  exact ih ρ _ w (h.put (fun d hd=>hN _ _ d ho hd) (stab_inb h hs) hy2) hF
 | call Q' ho hw hop hcal hl hc k1 k2 ih =>
  rename_i i r o c g fs cs l F H V
  intro ρ a w h hF
  simp only [wpOps,ho,want_sound h hw,if_true]
  left
  have hl':=plainOps_spec h hl
  have hrun:=run_call h hop hcal hc.1
  simp only [Oper.wp,hrun,Oper.upon_enter]
  have hargs:(fs++c.args.map a.eval++cs)=(fs.toList++l++cs.toList).toArray:=by
   rw [← hl']
   apply Array.ext'
   simp
  rw [hargs]
  refine(hc.2 w h.know).mono ?_
  rintro e w' ⟨V',y,rfl,hf',hV',hq⟩
  exact ih V' y hq ⟨w',hV'⟩ ρ _ w' ((h.call hf' hV').put (s:=.v y) (fun d hd=>hN _ _ d ho hd) trivial (fun x hx=>by simp [cv] at hx; exact hx.symm)) (hF.trans hf')
 | alx hd=>subst hdr; cases hd
 | eff ho hw he _ _ ih =>
  intro ρ a w h hF
  obtain⟨y,ρ',w',hrun,hS,hF'⟩:=eff_sound he h hF (fun d hd=>hN _ _ d ho hd)
  simp only [wpOps,ho,want_sound h hw,if_true]
  left
  rcases hrun with hrun | ⟨hrun,rfl⟩
  ·simp only [Oper.wp,hrun,Oper.upon_value]
   exact ih ρ' _ w' hS hF'
  ·simp only [Oper.wp,hrun,Oper.upon_skip]
   exact ih ρ' _ w' hS hF'
 | al d hd ho hw hx ha k1 k2 ih1 ih2=>subst hdr; cases hd
 | aki _ ho hw hop hcal ha ht hu hi hs hx hsrc h1 hm hr hv hfit _ ih =>
  intro ρ a w h hF
  obtain⟨w',hrun,hS,hF'⟩:=aki_sound h hF hop hcal ha ht hu hi hs hx hsrc h1 hm hr hv hfit
  simp only [wpOps,ho,want_sound h hw,if_true]
  left
  simp only [Oper.wp,hrun,Oper.upon_value]
  exact ih ρ _ w' (hS.put (s:=.v _) (fun d hd=>hN _ _ d ho hd) trivial (fun x hx=>by simp [cv] at hx; exact hx.symm)) hF'
 | mo Q' _ ho hw hm hs _ ih =>
  intro ρ a w h hF
  obtain⟨y,w',V',hrun,hf',hV',hq⟩:=hs w h.know
  simp only [wpOps,ho,want_sound h hw,if_true]
  left
  have hfin:=ih V' y hq ⟨w',hV'⟩ ρ _ w' ((h.call hf' hV').put (s:=.v y) (fun d hd=>hN _ _ d ho hd) trivial (fun x hx=>by simp [cv] at hx; exact hx.symm)) (hF.trans hf')
  rcases mop_run h hm hrun with hrun2 | ⟨hrun2,hu⟩
  ·simp only [Oper.wp,hrun2,Oper.upon_value]
   exact hfin
  ·subst hu
   simp only [Oper.wp,hrun2,Oper.upon_skip]
   exact hfin
 | akg _ ho hw hop hcal ha ht hu hi hz hzs hs hx hsrc hm hr hby h63 hold hnt _ ih =>
  intro ρ a w h hF
  obtain⟨cap,spare,w',hrun,hcap,hsp,q1,q2,q3,q4,q5⟩:=akg_sound h hop hcal ha ht hu hi hz hzs hs hx hsrc hm hr hby h63 hold hnt
  simp only [wpOps,ho,want_sound h hw,if_true]
  left
  simp only [Oper.wp,hrun,Oper.upon_value]
  obtain⟨hf',hV'⟩:=h.alloc rfl q1 q2 q3 q4 q5
  exact ih _ cap spare h.know.size_none hcap hsp ρ _ w' ((h.call hf' hV').put (s:=.v _) (fun d hd=>hN _ _ d ho hd) trivial (fun x hx=>by simp [cv] at hx; exact hx.symm)) (hF.trans hf')
 | mk ho hw _ he _ ih =>
  intro ρ a w h hF
  obtain⟨y,ρ',w',hrun,hS,hF'⟩:=mk_sound he h hF (fun d hd=>hN _ _ d ho hd)
  simp only [wpOps,ho,want_sound h hw,if_true]
  left
  simp only [Oper.wp,hrun,Oper.upon_value]
  exact ih ρ' _ w' hS hF'
 | frz _ hj _ ih =>
  intro ρ a w h hF
  obtain⟨b,cap,spare,h1,h2,h5,h3,h4⟩:=h.frz hF hj
  exact ih b cap spare h1 h2 h5 ρ a w h3 h4
 | esc _ hj hx _ ih =>
  intro ρ a w h hF
  obtain⟨b,h1,h3,h4⟩:=h.esc hF hj hx
  exact ih b h1 ρ a w h3 h4
end Sx
namespace Sx
open Go
variable {P:Program} {N:Nat} {w0:World} {F:Fm} {H:List Box} {Vs V V0:Know} {ρ:Nat→Nat × Nat} {a:Act} {w:World}
def kind (o:Oper):Nat:=match o.op with
 | .box ..=>2
 | .alloc _=>2
 | .store ..=>2
 | .buildSlice ..=>2
 | .makeSlice ..=>2
 | .mapUpdate ..=>2
 | .insert ..=>2
 | .call c=>match c.callee with
  | .value _=>1
  | .invoke ..=>1
  | .builtin .len=>0
  | .builtin .min=>0
  | .builtin .max=>0
  | _=>2
 | _=>0
theorem Eff.kind {o:Oper} {F':Fm} {H':List Box} {V':Know} (h:Eff P o F H V F' H' V'):kind o=2:=by
 cases h <;> simp [Sx.kind, *]
theorem Mk.kind {o:Oper} {F':Fm} {H':List Box} {V':Know} (h:Mk P o F H V F' H' V'):kind o=2:=by
 cases h <;> simp [Sx.kind, *]
theorem ev_congr {F':Fm} {x:Operand} (h:∀ t,x=.tmp t→F t=F' t):ev H F x=ev H F' x:=by
 cases x with
 | tmp t=>simp only [ev,h t rfl]
 | _=>rfl
theorem allPlain_congr {F':Fm}:∀ {l:List Operand},(∀ x∈l,ev H F x=ev H F' x)→allPlain H F l=allPlain H F' l
 | [],_=>rfl
 | x :: r,h=>by
  simp only [allPlain,h x (by simp),allPlain_congr (l:=r) (fun y hy=>h y (by simp [hy]))]
theorem stabPlain_congr {F':Fm} {o:Oper} (hsel:isSel o.op=false) (h:∀ x∈o.op.operands,ev H F x=ev H F' x):stabPlain P H F o=stabPlain P H F' o:=by
 unfold stabPlain
 rw [allPlain_congr (F':=F') (fun x hx=>h x (by simpa using hx))]
 rw [execOp_congr o (ρ:=envOf H F) (ρ':=envOf H F') (fun cs b hc=>by rw [hc] at hsel; cases hsel) (fun x hx=>by simp only [envOf,h x hx])]
theorem stab_congr {F':Fm} {o:Oper} (hsel:isSel o.op=false) (h:∀ x∈o.op.operands,ev H F x=ev H F' x):stab P V H F o=stab P V H F' o:=by
 unfold stab
 split
 ·rename_i x ho; exact h x (by simp [ho,Op.operands])
 ·rename_i x ho; exact h x (by simp [ho,Op.operands])
 ·rename_i c x y ho
  rw [h c (by simp [ho,Op.operands]),h x (by simp [ho,Op.operands]),h y (by simp [ho,Op.operands])]
 ·rename_i t x k ho; rw [h x (by simp [ho,Op.operands])]
 ·rename_i t x i ho; rw [h x (by simp [ho,Op.operands]),h i (by simp [ho,Op.operands])]
 ·rename_i t x ho; rw [h x (by simp [ho,Op.operands])]
 ·rename_i c ho
  rw [stabPlain_congr (P:=P) (F':=F') hsel h]
  split
  ·rename_i x t hl ha ht
   have:x∈c.args:=by rw [← Array.mem_toList_iff,ha]; simp
   rw [h x (by simp [ho,Op.operands,Call.operands,this])]
  ·rfl
 ·rename_i src dst x ho
  rw [h x (by simp [ho,Op.operands]),stabPlain_congr (P:=P) (F':=F') hsel h]
 ·exact stabPlain_congr hsel h
theorem stab_noload {V1:Know} {o:Oper} (h:isLoad o=false):stab P V H F o=stab P V1 H F o:=by
 unfold stab
 split <;> first | rfl | (rename_i ho; simp [isLoad,ho] at h)
theorem looks_ev {ops:Array Oper} {F':Fm} {o:Oper} (h:∀ t∈o.looksAt ops,F t=F' t):∀ x∈o.op.operands,ev H F x=ev H F' x:=by
 intro x hx
 refine ev_congr (fun t ht=>h t ?_)
 subst ht
 simp only [Oper.looksAt,List.mem_append,List.mem_filterMap]
 exact .inl ⟨.tmp t,by simpa using hx,rfl⟩
theorem looks_want {ops:Array Oper} {F':Fm} {o:Oper} (h:∀ t∈o.looksAt ops,F t=F' t):want ops F o.guard=want ops F' o.guard:=by
 unfold want
 split
 ·rfl
 ·rename_i j b hg
  split
  ·rename_i d hd
   rw [h d (by simp [Oper.looksAt,hg,hd])]
  ·rfl
theorem plainOps_congr {F':Fm}:∀ {l:List Operand},(∀ x∈l,ev H F x=ev H F' x)→plainOps H F l=plainOps H F' l
 | [],_=>rfl
 | x :: r,h=>by
  simp only [plainOps,h x (by simp),plainOps_congr (l:=r) (fun y hy=>h y (by simp [hy]))]
theorem putF_other {d:Option Tmp} {s:SV} {t:Nat} (h:d≠some t):putF F d s t=F t:=by
 cases d with
 | none=>rfl
 | some d =>
  simp only [putF,upd]
  rw [if_neg (fun e=>h (by rw [e]))]
theorem putF_comm {d e:Option Tmp} {s u:SV} (h:∀ t,d=some t→e≠some t):putF (putF F d s) e u=putF (putF F e u) d s:=by
 cases d with
 | none=>rfl
 | some d =>
  cases e with
  | none=>rfl
  | some e =>
   have hne:e≠d:=fun he=>h d rfl (by rw [he])
   funext t
   simp only [putF,upd]
   by_cases h1:t=e
   ·subst h1; simp [hne]
   ·simp [h1]
theorem alOf_noload {V1:Know} {o:Oper} (h:isLoad o=false):alOf P V H F o=alOf P V1 H F o:=by
 unfold alOf
 split
 ·rfl
 ·rename_i c ho
  split
  ·rename_i s x t t' hcal _ _
   simp [isLoad,ho,hcal] at h
  ·rfl
 ·rfl
def kindR (ops:Array Oper) (o:Oper):Nat:=match isX ops o with | true=>3 | false=>kind o
theorem Eff.notX {ops:Array Oper} {o:Oper} {F':Fm} {H':List Box} {V':Know} (h:Eff P o F H V F' H' V'):isX ops o=false:=by
 cases h <;> simp [isX,isXA, *]
theorem em_kind {ops:Array Oper} {o:Oper} {F':Fm} {H':List Box} {V':Know} (h:Eff P o F H V F' H' V'∨(isX ops o=false∧Mk P o F H V F' H' V')):kindR ops o=2:=by
 unfold kindR
 rcases h with h | ⟨h1,h⟩
 ·rw [h.notX]; exact h.kind
 ·rw [h1]; exact h.kind
theorem call_kind {ops:Array Oper} {o:Oper} {c:Call} {g:FuncId} {fs cs:Array Value} (h:o.op=.call c) (hc:Cal P c H F g fs cs):kindR ops o=1:=by
 have:isX ops o=false:=by
  unfold isX isXA
  rw [h]
  cases o.dst with
  | none=>rfl
  | some d =>
   simp only
   split
   ·rename_i e _; exact(hc.nobi _ e).elim
   ·rfl
 unfold kindR
 rw [this]
 obtain⟨f,x,h1,_⟩:=hc
 cases he:c.callee with
 | value=>simp [kind,h,he]
 | invoke=>simp [kind,h,he]
 | builtin=>simp [calOp,he] at h1
theorem al_kind {ops:Array Oper} {o:Oper} (h:isX ops o=true):kindR ops o=3:=by unfold kindR; rw [h]
inductive AkS (P:Program) (o:Oper) (F:Fm) (H:List Box) (V:Know) (nl:Prop) (K:Value→Know→Prop):Prop
 | i {c s x t e i' b n cp sx ys cs m}:nl→o.op=.call c→c.callee=.builtin .append→c.args.toList=[s,x]→c.argTypes.toList=[t,t] →
   P.underlying t=some (.slice e)→P.info? e=some i'→ev H F s=some (.v (.slice (some ⟨b,0,none⟩) n cp))→ev H F x=some sx→Src H V i'.size sx ys m→one ys=true→0<m→n+m≤cp→V b=some (cs,(e,(0,0)))→(n+m)*i'.size≤cs.length →
   K (.slice (some ⟨b,0,none⟩) (n+m) cp) (kset V b (setl cs (n*i'.size) ys,(e,(0,0))))→AkS P o F H V nl K
 | g {c s x t e i' z sa n cp sx ys old m}:o.op=.call c→c.callee=.builtin .append→c.args.toList=[s,x]→c.argTypes.toList=[t,t] →
   P.underlying t=some (.slice e)→P.info? e=some i'→i'.zero=some z→z.cells.size=i'.size→ev H F s=some (.v (.slice sa n cp))→ev H F x=some sx→Src H V i'.size sx ys m→0<m→cp<n+m→(n+m)*i'.bytes≤140737488355328→n+m≤9223372036854775807 →
   ((sa=none∧n=0∧cp=0∧old=[])∨∃ ad,sa=some ad∧loadV V ad (n*i'.size)=some old)→noTup old=true →
   (∀ b cap spare,V b=none→n+m≤cap→spare.length=(cap-(n+m))*P.cellsOf e→K (.slice (some ⟨b,0,none⟩) (n+m) cap) (kset V b ((old++ys)++spare,(e,(0,0)))))→AkS P o F H V nl K
 | m {m} (Q:Know→Value→Prop):nl→isUp o=true→mopOf H F o=some m→SemX P V m.sem Q→(∀ V' y,Q V' y→(∃ w,V'.on w)→K y V')→AkS P o F H V nl K
theorem ak_sound {o:Oper} {nl:Prop} {K:Value→Know→Prop} (h:Sat P N w0.heap.size F H V ρ a w) (hF:Fr Vs V w0 w) (hk:AkS P o F H V nl K) :
  ∃ y w' V',((execOp a.eval o).run P w=.ok (.value y) w'∨((execOp a.eval o).run P w=.ok .skip w'∧y=undef))∧Sat P N w0.heap.size F H V' ρ a w'∧Fr Vs V' w0 w'∧K y V'∧(V.le V'∨nl):=by
 cases hk with
 | i hn hop hcal ha ht hu hi hs hx hsrc h1 hm hr hv hfit hk =>
  obtain⟨w',hrun,hS,hF'⟩:=aki_sound h hF hop hcal ha ht hu hi hs hx hsrc h1 hm hr hv hfit
  exact⟨_,w',_,.inl hrun,hS,hF',hk,.inr hn⟩
 | g hop hcal ha ht hu hi hz hzs hs hx hsrc hm hr hby h63 hold hnt hk =>
  obtain⟨cap,spare,w',hrun,hcap,hsp,q1,q2,q3,q4,q5⟩:=akg_sound h hop hcal ha ht hu hi hz hzs hs hx hsrc hm hr hby h63 hold hnt
  obtain⟨hf',hV'⟩:=h.alloc rfl q1 q2 q3 q4 q5
  exact⟨_,w',_,.inl hrun,h.call hf' hV',hF.trans hf',hk _ cap spare h.know.size_none hcap hsp,.inl (le_kset' h.know.size_none)⟩
 | m Q hn _ hm hs hk =>
  obtain⟨y,w',V',hrun,hf',hV',hq⟩:=hs w h.know
  exact⟨y,w',V',mop_run h hm hrun,h.call hf' hV',hF.trans hf',hk V' y hq ⟨w',hV'⟩,.inr hn⟩
theorem up_kind {ops:Array Oper} {o:Oper} (h:isUp o=true):kindR ops o=2:=by
 unfold isUp at h
 split at h
 ·rename_i ho
  have:isX ops o=false:=by
   unfold isX isXA
   rw [ho]
   cases o.dst <;> rfl
  unfold kindR
  rw [this]
  simp [kind,ho]
 ·rename_i ho
  have:isX ops o=false:=by
   unfold isX isXA
   rw [ho]
   cases o.dst <;> rfl
  unfold kindR
  rw [this]
  simp [kind,ho]
 ·cases h
theorem ap_kind {ops:Array Oper} {o:Oper} {c:Call} (h:o.op=.call c) (hc:c.callee=.builtin .append) (hx:isX ops o=false):kindR ops o=2:=by
 unfold kindR
 rw [hx]
 simp [kind,h,hc]
def Out (P:Program) (ops:Array Oper) (V0:Know) (K:Kt) (A C:List Nat) (i:Nat) (F:Fm) (H:List Box) (V:Know):Prop :=
 ∃ o,ops[i]?=some o ∧
  ((want ops F o.guard=some false∧R P ops true V0 K (A++C) (putF F o.dst (.v undef)) H V) ∨
   (want ops F o.guard=some true∧isSel o.op=false∧isX ops o=false∧∃ s,stab P V0 H F o=some s∧R P ops true V0 K (A++C) (putF F o.dst s) H V) ∨
   (want ops F o.guard=some true∧∃ c g fs cs l Q,o.op=.call c∧Cal P c H F g fs cs∧plainOps H F c.args.toList=some l ∧
    CallX P V g (fs.toList++l++cs.toList) Q∧∀ V' y,Q V' y→((V.le V'∨V0.le V')∨nlAt ops i=true)∧((∃ w,V'.on w)→R P ops true V0 K (A++C) (putF F o.dst (.v y)) H V')) ∨
   (A=[]∧want ops F o.guard=some true∧kindR ops o=2∧((∃ F' H' V',(Eff P o F H V F' H' V'∨(isX ops o=false∧Mk P o F H V F' H' V'))∧R P ops true V0 K C F' H' V') ∨
    AkS P o F H V (∀ k∈C,∀ ok,ops[k]?=some ok→isLoad ok=false) (fun y V'=>R P ops true V0 K C (putF F o.dst (.v y)) H V'))) ∨
   (want ops F o.guard=some true∧isX ops o=true∧∃ d,alOf P V0 H F o=some d∧(∀ y,d.z=some y→R P ops true V0 K (A++C) (putF F o.dst (.v y)) H V) ∧
    (d.z=none→∀ b cap spare,V b=none→d.n≤cap→AlC P d cap spare→(∃ w,(kset V b (d.ys++spare,(d.t,(0,0)))).on w) →
     R P ops true V0 K (A++C) (putF F o.dst (.v (.slice (some ⟨b,0,none⟩) d.n cap))) H (kset V b (d.ys++spare,(d.t,(0,0)))))))
def free (ops:Array Oper) (j i:Nat):Prop :=
 ∃ oj oi,ops[j]?=some oj∧ops[i]?=some oi∧oj.apart ops oi=true∧kindR ops oj≠2∧kindR ops oi≠2∧(kindR ops oj=0∨kindR ops oi=0∨(kindR ops oj=3∧kindR ops oi=3)∨(kindR ops oj=1∧kindR ops oi=3))
theorem CallX.some (h:∃ w,V.on w) {g:FuncId} {args:List Value} {Q:Know→Value→Prop} (hc:CallX P V g args Q):∃ V' y,Q V' y∧∃ w,V'.on w:=by
 obtain⟨w,hw⟩:=h
 obtain⟨e,w',fr,⟨V',r,_,_,hV',hq⟩,_⟩:=hc.2 w hw []
 exact⟨V',r,hq,w',hV'⟩
theorem isAl_of {o:Oper} {t:TypeId} (h:o.op=.alloc t):isAl o=true:=by simp [isAl,h]
theorem al2_kind {ops:Array Oper} {o:Oper} {t:TypeId} (h:o.op=.alloc t):kindR ops o=2:=by
 have:isX ops o=false:=by
  unfold isX isXA
  rw [h]
  cases o.dst <;> rfl
 unfold kindR
 rw [this]
 simp [kind,h]
theorem CallX.more {b:Nat} {x:List Value × KTy} {g:FuncId} {args:List Value} {Q:Know→Value→Prop} (hb:V b=none) (hc:CallX P V g args Q) :
  CallX P (kset V b x) g args (fun V'' r=>∃ V',Q V' r∧V' b=none∧V''=kset V' b x):=by
 refine⟨hc.1,fun w hw=>?_⟩
 have hbx:(kset V b x) b=.some x:=by simp [kset]
 have hw1:=hw b x.1 x.2 hbx
 have hbs:b<w.heap.size:=(Array.getElem?_eq_some_iff.1 hw1).1
 have hV:V.on w:=fun k c t hk=>hw k c t (by
  simp only [kset]
  rw [if_neg (fun e=>by rw [e,hb] at hk; cases hk)]
  exact hk)
 refine(hc.2 w hV).mono ?_
 rintro e w' ⟨V',r,he,hf,hV',hq⟩
 have hb':=hf.dom b hbs hb
 have off:∀ {U:Know} {k:Nat},(kset U b x) k=none→k≠b∧U k=none:=by
  intro U k hk
  simp only [kset] at hk
  split at hk
  ·cases hk
  ·exact⟨‹_›,hk⟩
 refine⟨kset V' b x,r,he,⟨hf.os,hf.tape,hf.output,hf.size,fun k hk hn=>hf.keep k hk (off hn).2,fun k hk hn=>?_⟩,fun k c t hk=>?_,V',hq,hb',rfl⟩
 ·simp only [kset]
  rw [if_neg (off hn).1]
  exact hf.dom k hk (off hn).2
 ·simp only [kset] at hk
  split at hk
  ·rename_i e
   subst e
   cases hk
   rw [hf.keep _ hbs hb]
   exact hw1
  ·exact hV' k c t hk
theorem pull {ops:Array Oper} {K:Kt} {i:Nat} {C:List Nat} (hna:∀ o,ops[i]?=some o→isAl o=false):∀ {A:List Nat} {F:Fm} {V:Know},R P ops true V0 K (A++i :: C) F H V→(∃ w,V.on w)→(∀ j∈A,free ops j i) →
  Out P ops V0 K A C i F H V
 | [],F,V,h,_,_=>by
  cases h with
  | skip ho hw hr=>exact⟨_,ho,.inl ⟨hw,hr⟩⟩
  | stab ho hw hsel hx hs hr=>exact⟨_,ho,.inr (.inl ⟨hw,hsel,hx rfl,_,by simpa using hs,hr⟩)⟩
  | call Q ho hw hop hcal hl hc k1 k2=>exact⟨_,ho,.inr (.inr (.inl ⟨hw,_,_,_,_,_,Q,hop,hcal,hl,hc,fun V' y hq=>⟨k1 V' y hq rfl,k2 V' y hq⟩⟩))⟩
  | eff ho hw he _ hr=>exact⟨_,ho,.inr (.inr (.inr (.inl ⟨rfl,hw,em_kind (.inl he),.inl ⟨_,_,_,.inl he,hr⟩⟩)))⟩
  | alx _ ho _ hop=>have:=hna _ ho; rw [isAl_of hop] at this; cases this
  | mk ho hw hx he hr=>exact⟨_,ho,.inr (.inr (.inr (.inl ⟨rfl,hw,em_kind (.inr ⟨hx rfl,he⟩),.inl ⟨_,_,_,.inr ⟨hx rfl,he⟩,hr⟩⟩)))⟩
  | al d _ ho hw hx ha k1 k2=>exact⟨_,ho,.inr (.inr (.inr (.inr ⟨hw,hx,d,ha,k1,k2⟩)))⟩
  | frz hd _ _=>cases hd
  | esc hd _ _ _=>cases hd
  | aki hd ho hw hop hcal ha ht hu hi hs hx hsrc h1 hm hr hv hfit hk=>exact⟨_,ho,.inr (.inr (.inr (.inl ⟨rfl,hw,ap_kind hop hcal (hd rfl).1,.inr (.i (hd rfl).2 hop hcal ha ht hu hi hs hx hsrc h1 hm hr hv hfit hk)⟩)))⟩
  | akg hd ho hw hop hcal ha ht hu hi hz hzs hs hx hsrc hm hr hby h63 hold hnt hk=>exact⟨_,ho,.inr (.inr (.inr (.inl ⟨rfl,hw,ap_kind hop hcal (hd rfl),.inr (.g hop hcal ha ht hu hi hz hzs hs hx hsrc hm hr hby h63 hold hnt hk)⟩)))⟩
  | mo Q hd ho hw hm hs hk=>exact⟨_,ho,.inr (.inr (.inr (.inl ⟨rfl,hw,up_kind (hd rfl).1,.inr (.m Q (hd rfl).2 (hd rfl).1 hm hs hk)⟩)))⟩
 | j :: A,F,V,h,hV,hfree=>by
  obtain⟨oj,oi,hoj,hoi,hap,hk2,hki,hk⟩:=hfree j (by simp)
  obtain⟨p1,p2,p3⟩:=Oper.apart_spec hap
  have hfree':∀ j∈A,free ops j i:=fun k hk=>hfree k (by simp [hk])
  -- what i reads is the same before and behind j; what j reads is the same before and behind i
  have li:∀ (F:Fm) s,∀ t∈oi.looksAt ops,putF F oj.dst s t=F t:=fun F s t ht=>putF_other (fun e=>p1 t e ht)
  have lj:∀ (F:Fm) s,∀ t∈oj.looksAt ops,putF F oi.dst s t=F t:=fun F s t ht=>putF_other (fun e=>p3 t e ht)
  have wi:∀ (F:Fm) s,want ops (putF F oj.dst s) oi.guard=want ops F oi.guard:=fun F s=>looks_want (li F s)
  have wj:∀ (F:Fm) s,want ops (putF F oi.dst s) oj.guard=want ops F oj.guard:=fun F s=>looks_want (lj F s)
  have ei:∀ (F:Fm) s,∀ x∈oi.op.operands,ev H (putF F oj.dst s) x=ev H F x:=fun F s=>looks_ev (li F s)
  have ej:∀ (F:Fm) s,∀ x∈oj.op.operands,ev H (putF F oi.dst s) x=ev H F x:=fun F s=>looks_ev (lj F s)
  have comm:∀ (F:Fm) s u,putF (putF F oj.dst s) oi.dst u=putF (putF F oi.dst u) oj.dst s:=fun F s u=>putF_comm (fun t ht e=>p2 t ht e)
  -- a step of j that leaves memory alone: with what it puts into its slot
  have quiet:∀ (sj:SV),(∀ (G:Fm),(∀ t∈oj.looksAt ops,G t=F t)→∀ V1 L,R P ops true V0 K L (putF G oj.dst sj) H V1→R P ops true V0 K (j :: L) G H V1) →
    Out P ops V0 K A C i (putF F oj.dst sj) H V→kindR ops oi≠2→Out P ops V0 K (j :: A) C i F H V:=by
   intro sj step hout hki
   obtain⟨o,ho,hcase⟩:=hout
   rw [hoi] at ho
   cases ho
   refine⟨oi,hoi,?_⟩
   rcases hcase with ⟨hw,hr⟩ | ⟨hw,hsel,hx,s,hs,hr⟩ | ⟨hw,c,g,fs,cs,l,Q,h1,h2,h4,h5,h6⟩ | ⟨_,_,he,_⟩ | ⟨hw,hx,d,ha,k1,k2⟩
   ·rw [wi] at hw
    rw [comm] at hr
    exact .inl ⟨hw,step _ (lj F _) V (A++C) hr⟩
   ·rw [wi] at hw
    rw [comm] at hr
    rw [stab_congr hsel (ei F sj)] at hs
    exact .inr (.inl ⟨hw,hsel,hx,s,hs,step _ (lj F _) V (A++C) hr⟩)
   ·rw [wi] at hw
    have hmem:∀ x∈c.args.toList,ev H (putF F oj.dst sj) x=ev H F x:=fun x hx=>ei F sj x (by simp only [h1,Op.operands,Call.operands,Array.mem_append]; exact .inr (by simpa using hx))
    replace h2:Cal P c H F g fs cs:=h2.congr fun f hf=>(ei F sj f (by simp only [h1,Op.operands]; exact calOp_mem hf)).symm
    rw [plainOps_congr hmem] at h4
    refine .inr (.inr (.inl ⟨hw,c,g,fs,cs,l,Q,h1,h2,h4,h5,fun V' y hq=>⟨(h6 V' y hq).1,fun hV'=>?_⟩⟩))
    have:=(h6 V' y hq).2 hV'
    rw [comm] at this
    exact step _ (lj F _) V' (A++C) this
   ·exact(hki he).elim
   ·rw [wi] at hw
    rw [alOf_congr (ei F sj)] at ha
    refine .inr (.inr (.inr (.inr ⟨hw,hx,d,ha,fun y hy=>?_,fun hz b cap spare hb hc he hon=>?_⟩)))
    ·have:=k1 y hy
     rw [comm] at this
     exact step _ (lj F _) V (A++C) this
    ·have:=k2 hz b cap spare hb hc he hon
     rw [comm] at this
     exact step _ (lj F _) _ (A++C) this
  cases h with
  | skip ho hw hr =>
   rw [hoj] at ho; cases ho
   exact quiet (.v undef) (fun G hG V1 L hr=>.skip hoj (by rw [looks_want hG]; exact hw) hr) (pull hna hr hV hfree') hki
  | @stab _ _ o s _ _ _ ho hw hsel hx hs hr =>
   rw [hoj] at ho; cases ho
   refine quiet s (fun G hG V1 L hr=>.stab hoj (by rw [looks_want hG]; exact hw) hsel hx ?_ hr) (pull hna hr hV hfree') hki
   simp only [if_true] at hs ⊢
   rw [stab_congr hsel (looks_ev hG)]
   exact hs
  | call Q ho hw hop hcal hl hc k1 k2 =>
   rw [hoj] at ho; cases ho
   have hkj:kindR ops oj=1:=call_kind hop hcal
   have hki0:kindR ops oi=0∨kindR ops oi=3:=by rcases hk with h0 | h0 | h0 | h0 <;> omega
   obtain⟨V1,y1,hq1,hw1⟩:=hc.some hV
   have hmem:∀ u,∀ x∈_,ev H (putF F oi.dst u) x=ev H F x:=fun u x hx=>ej F u x (by simp only [hop,Op.operands,Call.operands,Array.mem_append]; exact .inr (Array.mem_toList_iff.1 hx))
   -- the call,from any state that agrees with F where it looks
   have step:∀ u,(∀ V' y,Q V' y→(∃ w,V'.on w)→R P ops true V0 K (A++C) (putF (putF F oi.dst u) oj.dst (.v y)) H V')→R P ops true V0 K (j :: (A++C)) (putF F oi.dst u) H V:=by
    intro u hr
    refine .call Q hoj (by rw [wj]; exact hw) hop (hcal.congr fun f hf=>ej F u f (by simp only [hop,Op.operands]; exact calOp_mem hf)) ?_ hc (fun V' y hq _=>k1 V' y hq rfl) hr
    ·rw [plainOps_congr (hmem u)]; exact hl
   have all:∀ V' y,Q V' y→(∃ w,V'.on w)→Out P ops V0 K A C i (putF F oj.dst (.v y)) H V':=fun V' y hq hV'=>pull hna (k2 V' y hq hV') hV' hfree'
   obtain⟨o,ho,hcase⟩:=all V1 y1 hq1 hw1
   rw [hoi] at ho; cases ho
   refine⟨oi,hoi,?_⟩
   rcases hcase with ⟨hwi,_⟩ | ⟨hwi,hsel,hxs,s,hs,_⟩ | ⟨_,c',_,_,_,_,_,h1,h2,_⟩ | ⟨_,_,he,_⟩ | ⟨hwi,hx,d,ha,_,_⟩
   ·rw [wi] at hwi
    refine .inl ⟨hwi,step _ (fun V' y hq hV'=>?_)⟩
    obtain⟨o',ho',hcase'⟩:=all V' y hq hV'
    rw [hoi] at ho'; cases ho'
    rcases hcase' with ⟨_,hr⟩ | ⟨hwi',_⟩ | ⟨hwi',_⟩ | ⟨_,hwi',_⟩ | ⟨hwi',_⟩
    ·rw [← comm]; exact hr
    all_goals (rw [wi,hwi] at hwi'; cases hwi')
   ·rw [wi] at hwi
    rw [stab_congr hsel (ei F _)] at hs
    refine .inr (.inl ⟨hwi,hsel,hxs,s,hs,step _ (fun V' y hq hV'=>?_)⟩)
    obtain⟨o',ho',hcase'⟩:=all V' y hq hV'
    rw [hoi] at ho'; cases ho'
    rcases hcase' with ⟨hwi',_⟩ | ⟨_,_,_,s',hs',hr⟩ | ⟨_,c',_,_,_,_,_,h1,h2,_⟩ | ⟨_,_,he,_⟩ | ⟨_,hx,_⟩
    ·rw [wi,hwi] at hwi'; cases hwi'
    ·rw [stab_congr hsel (ei F _),hs] at hs'
     cases hs'
     rw [← comm]; exact hr
    ·have:=call_kind (ops:=ops) h1 h2; omega
    ·omega
    ·rw [hxs] at hx; cases hx
   ·have:=call_kind (ops:=ops) h1 h2; omega
   ·omega
   ·rw [wi] at hwi
    rw [alOf_congr (ei F _)] at ha
    have same:∀ V' y,Q V' y→(∃ w,V'.on w)→(∀ z,d.z=some z→R P ops true V0 K (A++C) (putF (putF F oj.dst (.v y)) oi.dst (.v z)) H V') ∧
      (d.z=none→∀ b cap spare,V' b=none→d.n≤cap→AlC P d cap spare→(∃ w,(kset V' b (d.ys++spare,(d.t,(0,0)))).on w) →
       R P ops true V0 K (A++C) (putF (putF F oj.dst (.v y)) oi.dst (.v (.slice (some ⟨b,0,none⟩) d.n cap))) H (kset V' b (d.ys++spare,(d.t,(0,0))))):=by
     intro V' y hq hV'
     obtain⟨o',ho',hcase'⟩:=all V' y hq hV'
     rw [hoi] at ho'; cases ho'
     rcases hcase' with ⟨hwi',_⟩ | ⟨_,_,hxs,_⟩ | ⟨_,c',_,_,_,_,_,h1,h2,_⟩ | ⟨_,_,he,_⟩ | ⟨_,_,d',ha',q1,q2⟩
     ·rw [wi,hwi] at hwi'; cases hwi'
     ·rw [hxs] at hx; cases hx
     ·have:=call_kind (ops:=ops) h1 h2; have:=al_kind hx; omega
     ·have:=al_kind hx; omega
     ·rw [alOf_congr (ei F _),ha] at ha'
      cases ha'
      exact⟨q1,q2⟩
    refine .inr (.inr (.inr (.inr ⟨hwi,hx,d,ha,fun z hz=>step _ (fun V' y hq hV'=>?_),fun hz b cap spare hb hcp he hon=>?_⟩)))
    ·rw [← comm]; exact(same V' y hq hV').1 z hz
    ·refine .call _ hoj (by rw [wj]; exact hw) hop (hcal.congr fun f hf=>ej F _ f (by simp only [hop,Op.operands]; exact calOp_mem hf)) ?_ (hc.more (x:=(d.ys++spare,(d.t,(0,0)))) hb) (fun V'' y hq _=>?_) (fun V'' y hq hV''=>?_)
     ·rw [plainOps_congr (hmem _)]; exact hl
     ·obtain⟨V',hq,hb',rfl⟩:=hq
      rcases k1 V' y hq rfl with (hle | hle) | hnl
      ·left
       left
       intro k z hk
       simp only [kset] at hk ⊢
       split at hk
       ·rename_i e; rw [if_pos e]; exact hk
       ·rename_i e; rw [if_neg e]; exact hle k z hk
      ·left
       right
       intro k z hk
       simp only [kset]
       split
       ·rename_i e
        have:=hle k z hk
        rw [e,hb'] at this
        cases this
       ·exact hle k z hk
      ·exact .inr hnl
     ·obtain⟨V',hq,hb',rfl⟩:=hq
      have hV':∃ w,V'.on w:=by
       obtain⟨w,hw⟩:=hV''
       exact⟨w,fun k c t hk=>hw k c t (by
        simp only [kset]
        rw [if_neg (fun e=>by rw [e,hb'] at hk; cases hk)]
        exact hk)⟩
      rw [← comm]; exact(same V' y hq hV').2 hz b cap spare hb' hcp he hV''
  | al d _ ho hw hx ha k1 k2 =>
   rw [hoj] at ho; cases ho
   have hkj:kindR ops oj=3:=al_kind hx
   have haj:∀ G:Fm,(∀ t∈oj.looksAt ops,G t=F t)→alOf P V0 H G oj=some d:=fun G hG=>by rw [alOf_congr (looks_ev hG)]; exact ha
   cases hz:d.z with
   | some y =>
    refine quiet (.v y) (fun G hG V1 L hr=>.al d rfl hoj (by rw [looks_want hG]; exact hw) hx (haj G hG) (fun y' hy'=>?_) (fun h=>by rw [hz] at h; cases h)) (pull hna (k1 y hz) hV hfree') hki
    rw [hz] at hy'; cases hy'; exact hr
   | none =>
    have step:∀ u V1,(∀ b cap spare,V1 b=none→d.n≤cap→AlC P d cap spare→(∃ w,(kset V1 b (d.ys++spare,(d.t,(0,0)))).on w) →
      R P ops true V0 K (A++C) (putF (putF F oi.dst u) oj.dst (.v (.slice (some ⟨b,0,none⟩) d.n cap))) H (kset V1 b (d.ys++spare,(d.t,(0,0)))))→R P ops true V0 K (j :: (A++C)) (putF F oi.dst u) H V1 :=
     fun u V1 hr=>.al d rfl hoj (by rw [wj]; exact hw) hx (haj _ (lj F u)) (fun y h=>by rw [hz] at h; cases h) (fun _=>hr)
    have all:∀ b cap spare,V b=none→d.n≤cap→AlC P d cap spare→(∃ w,(kset V b (d.ys++spare,(d.t,(0,0)))).on w) →
      Out P ops V0 K A C i (putF F oj.dst (.v (.slice (some ⟨b,0,none⟩) d.n cap))) H (kset V b (d.ys++spare,(d.t,(0,0)))) :=
     fun b cap spare hb hc he hon=>pull hna (k2 hz b cap spare hb hc he hon) hon hfree'
    obtain⟨b0,hb0,hon0⟩:=new_block hV (d.ys++[]) d.t
    obtain⟨o,ho,hcase⟩:=all b0 d.n [] hb0 (Nat.le_refl _) ⟨fun _=>⟨rfl,rfl⟩,by simp⟩ hon0
    rw [hoi] at ho; cases ho
    refine⟨oi,hoi,?_⟩
    rcases hcase with ⟨hwi,_⟩ | ⟨hwi,hsel,hxs,s,hs,_⟩ | ⟨_,c',_,_,_,_,_,h1,h2,_⟩ | ⟨_,_,he,_⟩ | ⟨hwi,hxi,di,hai,_,_⟩
    ·rw [wi] at hwi
     refine .inl ⟨hwi,step _ V (fun b cap spare hb hc he hon=>?_)⟩
     obtain⟨o',ho',hcase'⟩:=all b cap spare hb hc he hon
     rw [hoi] at ho'; cases ho'
     rcases hcase' with ⟨_,hr⟩ | ⟨hwi',_⟩ | ⟨hwi',_⟩ | ⟨_,hwi',_⟩ | ⟨hwi',_⟩
     ·rw [← comm]; exact hr
     all_goals (rw [wi,hwi] at hwi'; cases hwi')
    ·rw [wi] at hwi
     rw [stab_congr hsel (ei F _)] at hs
     refine .inr (.inl ⟨hwi,hsel,hxs,s,hs,step _ V (fun b cap spare hb hc he hon=>?_)⟩)
     obtain⟨o',ho',hcase'⟩:=all b cap spare hb hc he hon
     rw [hoi] at ho'; cases ho'
     rcases hcase' with ⟨hwi',_⟩ | ⟨_,_,_,s',hs',hr⟩ | ⟨_,c',_,_,_,_,_,h1,h2,_⟩ | ⟨_,_,he,_⟩ | ⟨_,hxi,di,hai,_,_⟩
     ·rw [wi,hwi] at hwi'; cases hwi'
     ·rw [stab_congr hsel (ei F _),hs] at hs'
      cases hs'
      rw [← comm]; exact hr
     ·have:=call_kind (ops:=ops) h1 h2; omega
     ·omega
     ·rw [hxs] at hxi; cases hxi
    ·have:=call_kind (ops:=ops) h1 h2; omega
    ·omega
    ·rw [wi] at hwi
     rw [alOf_congr (ei F _)] at hai
     have same:∀ b cap spare,V b=none→d.n≤cap→AlC P d cap spare→(∃ w,(kset V b (d.ys++spare,(d.t,(0,0)))).on w) →
       (∀ y,di.z=some y→R P ops true V0 K (A++C) (putF (putF F oj.dst (.v (.slice (some ⟨b,0,none⟩) d.n cap))) oi.dst (.v y)) H (kset V b (d.ys++spare,(d.t,(0,0))))) ∧
       (di.z=none→∀ b' cap' spare',(kset V b (d.ys++spare,(d.t,(0,0)))) b'=none→di.n≤cap'→AlC P di cap' spare'→(∃ w,(kset (kset V b (d.ys++spare,(d.t,(0,0)))) b' (di.ys++spare',(di.t,(0,0)))).on w) →
        R P ops true V0 K (A++C) (putF (putF F oj.dst (.v (.slice (some ⟨b,0,none⟩) d.n cap))) oi.dst (.v (.slice (some ⟨b',0,none⟩) di.n cap'))) H (kset (kset V b (d.ys++spare,(d.t,(0,0)))) b' (di.ys++spare',(di.t,(0,0))))):=by
      intro b cap spare hb hc he hon
      obtain⟨o',ho',hcase'⟩:=all b cap spare hb hc he hon
      rw [hoi] at ho'; cases ho'
      rcases hcase' with ⟨hwi',_⟩ | ⟨_,hsel,hxs,s',hs',hr⟩ | ⟨_,c',_,_,_,_,_,h1,h2,_⟩ | ⟨_,_,he,_⟩ | ⟨_,_,di',hai',q1,q2⟩
      ·rw [wi,hwi] at hwi'; cases hwi'
      ·rw [hxs] at hxi; cases hxi
      ·have:=call_kind (ops:=ops) h1 h2
       have:=al_kind hxi
       omega
      ·omega
      ·rw [alOf_congr (ei F _),hai] at hai'
       cases hai'
       exact⟨q1,q2⟩
     refine .inr (.inr (.inr (.inr ⟨hwi,hxi,di,hai,fun y hy=>step _ V (fun b cap spare hb hc he hon=>?_),fun hzi bi ci si hbi hci hei honi=>step _ _ (fun b cap spare hb hc he hon=>?_)⟩)))
     ·have:=(same b cap spare hb hc he hon).1 y hy
      rwa [comm] at this
     ·have hne:bi≠b:=by
       intro e
       subst e
       simp [kset] at hb
      have hb':V b=none:=by
       simp only [kset] at hb
       rwa [if_neg (Ne.symm hne)] at hb
      obtain⟨w,hon⟩:=hon
      have hon1:(kset V b (d.ys++spare,(d.t,(0,0)))).on w:=hon.le (kset_mono hbi hne)
      have hbi':(kset V b (d.ys++spare,(d.t,(0,0)))) bi=none:=by
       simp only [kset]; rw [if_neg hne]; exact hbi
      have:=(same b cap spare hb' hc he ⟨w,hon1⟩).2 hzi bi ci si hbi' hci hei ⟨w,by rw [kset_comm (Ne.symm hne)]; exact hon⟩
      rw [comm,kset_comm (Ne.symm hne)] at this
      exact this
  | eff ho _ he _ _=>rw [hoj] at ho; cases ho; exact(hk2 (em_kind (.inl he))).elim
  | alx _ ho _ hop=>rw [hoj] at ho; cases ho; exact(hk2 (al2_kind hop)).elim
  | mk ho _ hx he _=>rw [hoj] at ho; cases ho; exact(hk2 (em_kind (.inr ⟨hx rfl,he⟩))).elim
  | frz hd _ _=>cases hd
  | esc hd _ _ _=>cases hd
  | aki hd ho _ hop hcal=>rw [hoj] at ho; cases ho; exact(hk2 (ap_kind hop hcal (hd rfl).1)).elim
  | akg hd ho _ hop hcal=>rw [hoj] at ho; cases ho; exact(hk2 (ap_kind hop hcal (hd rfl))).elim
  | mo Q hd ho=>rw [hoj] at ho; cases ho; exact(hk2 (up_kind (hd rfl).1)).elim
end Sx
namespace Sx
open Go
variable {P:Program} {N:Nat} {w0:World} {F:Fm} {H:List Box} {Vs V V0:Know} {ρ:Nat→Nat × Nat} {a:Act} {w:World}
theorem res_app {b:Box} {s:SV} (h:inb H.length s):res (H++[b]) s=res H s:=by
 cases s with
 | v x=>rfl
 | k b=>rfl
 | p i off=>have h:i<H.length:=h; simp only [res,List.getElem?_append_left h]
 | o i=>have h:i<H.length:=h; simp only [res,List.getElem?_append_left h]
theorem ev_app (h:WfS F H) {b:Box} (x:Operand):ev (H++[b]) F x=ev H F x:=by
 cases x with
 | tmp t =>
  simp only [ev]
  cases hs:F t with
  | none=>rfl
  | some s=>simp only [res_app (h.wfF t s hs)]
 | _=>rfl
theorem allPlain_app (h:WfS F H) {b:Box}:∀ l:List Operand,allPlain (H++[b]) F l=allPlain H F l
 | []=>rfl
 | x :: r=>by simp only [allPlain,ev_app h,allPlain_app h r]
theorem stabPlain_app (h:WfS F H) {b:Box} (o:Oper):stabPlain P (H++[b]) F o=stabPlain P H F o:=by
 have he:envOf (H++[b]) F=envOf H F:=by funext x; simp only [envOf,ev_app h]
 unfold stabPlain
 rw [allPlain_app h,he]
theorem loadB_app (h:WfS F H) {b:Box} {i off n:Nat} (hi:i<H.length):loadB (H++[b]) i off n=loadB H i off n:=by
 unfold loadB
 rw [List.getElem?_append_left hi]
 split
 ·rename_i cs t hb
  split
  ·rename_i l hl
   congr 1
   exact List.map_congr_left fun s hs=>res_app (h.wfH i cs t hb s (cutv_mem hl hs))
  ·rfl
 ·rfl
 ·rfl
theorem idx_app {b:Box} {t:TypeId} {s n:SV} (hs:inb H.length s):idx P (H++[b]) t s n=idx P H t s n:=by
 cases s with
 | o j =>
  have hj:j<H.length:=hs
  cases n with
  | v y=>cases y <;> first | rfl | (simp only [idx,List.getElem?_append_left hj])
  | _=>rfl
 | v x =>
  cases x with
  | slice a l c=>cases a <;> (cases n with | v y=>cases y <;> rfl | _=>rfl)
  | pointer a=>cases a <;> (cases n with | v y=>cases y <;> rfl | _=>rfl)
  | _=>rfl
 | k b=>rfl
 | p i off=>rfl
theorem stab_app (h:WfS F H) {b:Box} (o:Oper):stab P V (H++[b]) F o=stab P V H F o:=by
 unfold stab
 simp only [ev_app h,stabPlain_app h]
 split
 ·rfl
 ·rfl
 ·rfl
 ·rename_i t x k ho
  cases hx:ev H F x with
  | none=>rfl
  | some s =>
   cases s with
   | p i off =>
    have hi:i<H.length:=h.ev_inb hx
    have e:liveAt (H++[b]) i=liveAt H i:=by simp only [liveAt,List.getElem?_append_left hi]
    rcases fld P t k with _ | ⟨d,_ | n⟩
    ·rfl
    ·rfl
    ·simp only [e]
   | v y=>cases y with
    | pointer a=>cases a <;> rcases fld P t k with _ | ⟨d,_ | n⟩ <;> rfl
    | _=>rcases fld P t k with _ | ⟨d,_ | n⟩ <;> rfl
   | k c=>rcases fld P t k with _ | ⟨d,_ | n⟩ <;> rfl
   | o c=>rcases fld P t k with _ | ⟨d,_ | n⟩ <;> rfl
 ·rename_i t x i ho
  cases hx:ev H F x with
  | none=>rfl
  | some s =>
   cases hn:ev H F i with
   | none=>rfl
   | some n=>exact idx_app (h.ev_inb hx)
 ·rename_i t x ho
  cases hx:ev H F x with
  | none=>rfl
  | some s =>
   cases s with
   | p i off =>
    have hi:i<H.length:=h.ev_inb hx
    cases sizeOf? P t with
    | none=>rfl
    | some n=>simp only [loadB_app h hi]
   | v y=>cases y with
    | pointer a=>cases a <;> cases sizeOf? P t <;> rfl
    | _=>cases sizeOf? P t <;> rfl
   | k c=>cases sizeOf? P t <;> rfl
   | o c=>cases sizeOf? P t <;> rfl
 ·rename_i c ho
  split
  ·rename_i x t hl ha ht
   cases hx:ev H F x with
   | none=>rfl
   | some s =>
    cases s with
    | o j =>
     have hj:j<H.length:=h.ev_inb hx
     cases P.underlying t with
     | none=>rfl
     | some d=>cases d <;> first | rfl | (simp only [List.getElem?_append_left hj])
    | v y=>cases P.underlying t <;> rfl
    | k c=>cases P.underlying t <;> rfl
    | p c e=>cases P.underlying t <;> rfl
  ·rfl
 ·rfl
 ·rfl
theorem WfS.put (h:WfS F H) {d:Option Tmp} {s:SV} (hs:inb H.length s):WfS (putF F d s) H:=by
 refine⟨fun t u hu=>?_,h.wfH⟩
 cases d with
 | none=>exact h.wfF t u hu
 | some d =>
  simp only [putF,upd] at hu
  split at hu
  ·cases hu; exact hs
  ·exact h.wfF t u hu
theorem prun_bind7 {α β:Type} (s:Sem α) (f:α→Sem β):prun P (s >>= f)=match prun P s with | some a=>prun P (f a) | none=>none:=by
 induction s with
 | pure a=>rfl
 | program k ih=>exact ih _
 | mark m k ih=>exact ih
 | _=>rfl
theorem prun_newObj (o:Obj):prun P (newObj o)=none:=rfl
theorem alloc_stab {o:Oper} {t:TypeId} (h:o.op=.alloc t):stab P V H F o=none:=by
 have e:∀ ρ:Operand→Value,prun P (execOp ρ o)=none:=by
  intro ρ
  simp only [execOp,h]
  have h1:∀ z,prun P (newVar t z)=none:=fun z=>by
   unfold newVar newRow
   rw [prun_bind7,prun_newObj]
  have h2:prun P (Instr.alloc t true (.tuple #[]))=none:=by
   unfold Instr.alloc
   rw [prun_bind7]
   split
   ·rename_i z _
    show prun P (newVar t z >>= fun a=>pure (Value.pointer (some a)))=none
    rw [prun_bind7,h1]
   ·rfl
  show prun P (Instr.alloc t true (.tuple #[]) >>= fun a=>pure (Next.value a))=none
  rw [prun_bind7,h2]
 simp only [stab,h,stabPlain,e]
 split <;> rfl
def nr (k:Nat):SV→Prop
 | .p i _=>i≠k
 | .o i=>i≠k
 | _=>True
structure NoR (k:Nat) (F:Fm) (H:List Box):Prop where
 nF:∀ t s,F t=some s→nr k s
 nH:∀ (i:Nat) cs t,H[i]?=some (.c cs t)→∀ s∈cs,nr k s
theorem nr_res {k:Nat} {s:SV} (h:nr k s):nr k (res H s):=by
 cases s with
 | v y=>exact h
 | k b=>exact h
 | p i off=>simp only [res]; split <;> first | exact h | trivial
 | o i=>simp only [res]; split <;> first | exact h | trivial
theorem NoR.ev {k:Nat} (h:NoR k F H) {x:Operand} {s:SV} (he:ev H F x=some s):nr k s:=by
 cases x with
 | tmp t =>
  simp only [Sx.ev] at he
  split at he
  ·rename_i s' hs
   simp at he
   subst he
   exact nr_res (h.nF t _ hs)
  ·cases he
 | const v=>simp [Sx.ev] at he; subst he; trivial
 | global g=>simp [Sx.ev] at he; subst he; trivial
 | func f=>simp [Sx.ev] at he; subst he; trivial
theorem stabPlain_nr {k:Nat} {o:Oper} {s:SV} (hs:stabPlain P H F o=some s):nr k s:=by
 unfold stabPlain at hs
 repeat' (split at hs)
 all_goals first | (simp at hs; done) | (simp at hs; subst hs; trivial)
theorem join_nr {k t:Nat} {l:List SV} {s:SV} (h:∀ u∈l,nr k u) (hj:join P t l=some s):nr k s:=by
 unfold join at hj
 split at hj
 ·split at hj
  ·simp at hj; subst hj; trivial
  ·cases hj
 ·split at hj
  ·simp at hj; subst hj; exact h _ (by simp)
  ·cases hj
 ·cases hj
theorem stab_nr {k:Nat} (h:NoR k F H) {o:Oper} {s:SV} (hs:stab P V0 H F o=some s):nr k s:=by
 unfold stab at hs
 split at hs
 ·exact h.ev hs
 ·exact h.ev hs
 ·split at hs
  ·exact h.ev hs
  ·exact h.ev hs
  ·cases hs
 ·split at hs
  ·rename_i i off d n hx hf
   split at hs
   ·simp at hs; subst hs; exact h.ev (s:=.p i off) hx
   ·cases hs
  ·simp at hs; subst hs; trivial
  ·cases hs
 ·split at hs
  ·rename_i sx si hx hi
   unfold idx at hs
   split at hs
   ·split at hs
    ·rename_i hj he
     split at hs
     ·simp at hs; subst hs; exact h.ev (s:=.o _) hx
     ·cases hs
    ·cases hs
   ·repeat' (split at hs)
    all_goals first | (simp at hs; done) | (simp at hs; subst hs; trivial)
   ·repeat' (split at hs)
    all_goals first | (simp at hs; done) | (simp at hs; subst hs; trivial)
   ·cases hs
  ·cases hs
 ·split at hs
  ·rename_i i off n hx hn
   split at hs
   ·rename_i l hl
    refine join_nr (fun u hu=>?_) hs
    unfold loadB at hl
    split at hl
    ·rename_i cs t hb
     split at hl
     ·rename_i l' hc
      simp at hl; subst hl
      simp at hu
      obtain⟨s',hs',rfl⟩:=hu
      exact nr_res (h.nH i cs t hb s' (cutv_mem hc hs'))
     ·cases hl
    ·split at hl
     ·simp at hl; subst hl; simp at hu; obtain⟨x,_,rfl⟩:=hu; trivial
     ·cases hl
    ·cases hl
   ·cases hs
  ·split at hs
   ·split at hs
    ·refine join_nr (fun u hu=>?_) hs
     simp at hu; obtain⟨x,_,rfl⟩:=hu; trivial
    ·cases hs
   ·cases hs
  ·cases hs
 ·split at hs
  ·split at hs
   ·split at hs
    ·simp at hs; subst hs; trivial
    ·cases hs
   ·exact stabPlain_nr hs
   ·cases hs
  ·exact stabPlain_nr hs
 ·split at hs
  ·split at hs
   ·simp at hs; subst hs; trivial
   split at hs
   ·split at hs
    ·simp at hs; subst hs; trivial
    ·cases hs
   ·cases hs
  ·exact stabPlain_nr hs
 ·exact stabPlain_nr hs
theorem NoR.put {k:Nat} (h:NoR k F H) {d:Option Tmp} {s:SV} (hs:nr k s):NoR k (putF F d s) H:=by
 refine⟨fun t u hu=>?_,h.nH⟩
 cases d with
 | none=>exact h.nF t u hu
 | some d =>
  simp only [putF,upd] at hu
  split at hu
  ·cases hu; exact hs
  ·exact h.nF t u hu
theorem res_at {k:Nat} {b:Box} {s:SV} (h:nr k s):res (H.set k b) s=res H s:=by
 cases s with
 | v x=>rfl
 | k b=>rfl
 | p i off=>have h:i≠k:=h; simp only [res,List.getElem?_set_ne (Ne.symm h)]
 | o i=>have h:i≠k:=h; simp only [res,List.getElem?_set_ne (Ne.symm h)]
theorem ev_at {k:Nat} (h:NoR k F H) {b:Box} (x:Operand):ev (H.set k b) F x=ev H F x:=by
 cases x with
 | tmp t =>
  simp only [ev]
  cases hs:F t with
  | none=>rfl
  | some s=>simp only [res_at (h.nF t s hs)]
 | _=>rfl
theorem allPlain_at {k:Nat} (h:NoR k F H) {b:Box}:∀ l:List Operand,allPlain (H.set k b) F l=allPlain H F l
 | []=>rfl
 | x :: r=>by simp only [allPlain,ev_at h,allPlain_at h r]
theorem plainOps_at {k:Nat} (h:NoR k F H) {b:Box}:∀ l:List Operand,plainOps (H.set k b) F l=plainOps H F l
 | []=>rfl
 | x :: r=>by simp only [plainOps,ev_at h,plainOps_at h r]
theorem stabPlain_at {k:Nat} (h:NoR k F H) {b:Box} (o:Oper):stabPlain P (H.set k b) F o=stabPlain P H F o:=by
 have he:envOf (H.set k b) F=envOf H F:=by funext x; simp only [envOf,ev_at h]
 unfold stabPlain
 rw [allPlain_at h,he]
theorem loadB_at {k:Nat} (h:NoR k F H) {b:Box} {i off n:Nat} (hi:i≠k):loadB (H.set k b) i off n=loadB H i off n:=by
 unfold loadB
 rw [List.getElem?_set_ne (Ne.symm hi)]
 split
 ·rename_i cs t hb
  split
  ·rename_i l hl
   congr 1
   exact List.map_congr_left fun s hs=>res_at (h.nH i cs t hb s (cutv_mem hl hs))
  ·rfl
 ·rfl
 ·rfl
theorem idx_at {k:Nat} {b:Box} {t:TypeId} {s n:SV} (hs:nr k s):idx P (H.set k b) t s n=idx P H t s n:=by
 cases s with
 | o j =>
  have hj:j≠k:=hs
  cases n with
  | v y=>cases y <;> first | rfl | (simp only [idx,List.getElem?_set_ne (Ne.symm hj)])
  | _=>rfl
 | v x =>
  cases x with
  | slice a l c=>cases a <;> (cases n with | v y=>cases y <;> rfl | _=>rfl)
  | pointer a=>cases a <;> (cases n with | v y=>cases y <;> rfl | _=>rfl)
  | _=>rfl
 | k b=>rfl
 | p i off=>rfl
theorem stab_at {kk:Nat} (h:NoR kk F H) {b:Box} (o:Oper):stab P V (H.set kk b) F o=stab P V H F o:=by
 unfold stab
 simp only [ev_at h,stabPlain_at h]
 split
 ·rfl
 ·rfl
 ·rfl
 ·rename_i t x k ho
  cases hx:ev H F x with
  | none=>rfl
  | some s =>
   cases s with
   | p i off =>
    have hi:i≠kk:=h.ev hx
    have e:liveAt (H.set kk b) i=liveAt H i:=by simp only [liveAt,List.getElem?_set_ne (Ne.symm hi)]
    rcases fld P t k with _ | ⟨d,_ | n⟩
    ·rfl
    ·rfl
    ·simp only [e]
   | v y=>cases y with
    | pointer a=>cases a <;> rcases fld P t k with _ | ⟨d,_ | n⟩ <;> rfl
    | _=>rcases fld P t k with _ | ⟨d,_ | n⟩ <;> rfl
   | k c=>rcases fld P t k with _ | ⟨d,_ | n⟩ <;> rfl
   | o c=>rcases fld P t k with _ | ⟨d,_ | n⟩ <;> rfl
 ·rename_i t x i ho
  cases hx:ev H F x with
  | none=>rfl
  | some s =>
   cases hn:ev H F i with
   | none=>rfl
   | some n=>exact idx_at (h.ev hx)
 ·rename_i t x ho
  cases hx:ev H F x with
  | none=>rfl
  | some s =>
   cases s with
   | p i off =>
    have hi:i≠kk:=h.ev hx
    cases sizeOf? P t with
    | none=>rfl
    | some n=>simp only [loadB_at h hi]
   | v y=>cases y with
    | pointer a=>cases a <;> cases sizeOf? P t <;> rfl
    | _=>cases sizeOf? P t <;> rfl
   | k c=>cases sizeOf? P t <;> rfl
   | o c=>cases sizeOf? P t <;> rfl
 ·rename_i c ho
  split
  ·rename_i x t hl ha ht
   cases hx:ev H F x with
   | none=>rfl
   | some s =>
    cases s with
    | o j =>
     have hj:j≠kk:=h.ev hx
     cases P.underlying t with
     | none=>rfl
     | some d=>cases d <;> first | rfl | (simp only [List.getElem?_set_ne (Ne.symm hj)])
    | v y=>cases P.underlying t <;> rfl
    | k c=>cases P.underlying t <;> rfl
    | p c e=>cases P.underlying t <;> rfl
  ·rfl
 ·rfl
 ·rfl
theorem partVals_at {k:Nat} (h:NoR k F H) {b:Box}:∀ (l:List (Nat × Operand)),partVals (H.set k b) F l=partVals H F l
 | []=>rfl
 | (i,x) :: r=>by simp only [partVals,ev_at h,partVals_at h r]
theorem alOf_at {k:Nat} (h:NoR k F H) {b:Box} (o:Oper):alOf P V (H.set k b) F o=alOf P V H F o:=by
 unfold alOf
 simp only [ev_at h,partVals_at h]
theorem rsvGo_spec {d:Nat}:∀ {H:List Box} {i k:Nat},rsvGo d i H=some k→∃ j b,k=i+j∧H[j]?=some b∧isRsv d b=true
 | [],_,_,h=>by cases h
 | b :: r,i,k,h=>by
  unfold rsvGo at h
  split at h
  ·rename_i hb
   cases h
   exact⟨0,b,rfl,rfl,hb⟩
  ·obtain⟨j,b',h1,h2,h3⟩:=rsvGo_spec h
   exact⟨j+1,b',by omega,h2,h3⟩
theorem rsv_spec {d k:Nat} (h:rsv d H=some k):∃ b,H[k]?=some b∧isRsv d b=true:=by
 obtain⟨j,b,h1,h2,h3⟩:=rsvGo_spec h
 have:k=j:=by omega
 subst this
 exact⟨b,h2,h3⟩
theorem isRsv_inj {d e:Nat} {b:Box} (h:isRsv d b=true) (k:isRsv e b=true):d=e:=by
 unfold isRsv at h
 split at h
 ·rename_i kk n
  simp only [isRsv] at k
  have h1:=Nat.eq_of_beq_eq_true h
  have h2:=Nat.eq_of_beq_eq_true k
  omega
 ·cases h
theorem rsvGo_set {d:Nat} {b:Box} (hb:isRsv d b=false):∀ {H:List Box} {i k:Nat},(∀ u,H[k]?=some u→isRsv d u=false)→rsvGo d i (H.set k b)=rsvGo d i H
 | [],_,_,_=>rfl
 | u :: r,i,0,h=>by
  have hx:=h u rfl
  simp only [List.set_cons_zero,rsvGo,hb,hx]
 | u :: r,i,k+1,h=>by
  simp only [List.set_cons_succ,rsvGo]
  rw [rsvGo_set hb (fun y hy=>h y (by simpa using hy))]
theorem rsv_set {d k:Nat} {b:Box} (hb:isRsv d b=false) (h:∀ u,H[k]?=some u→isRsv d u=false):rsv d (H.set k b)=rsv d H:=rsvGo_set hb h
theorem rsv_fill {d e k:Nat} {cs:List SV} {t:TypeId} (h:rsv d H=some k) (hne:e≠d):rsv e (H.set k (.c cs t))=rsv e H:=by
 obtain⟨b,h1,h2⟩:=rsv_spec h
 refine rsv_set rfl fun u hu=>?_
 rw [h1] at hu
 cases hu
 cases he:isRsv e b with
 | false=>rfl
 | true=>exact(hne (isRsv_inj he h2)).elim
theorem rsv_ne {d e k m:Nat} (h:rsv d H=some k) (h':rsv e H=some m) (hne:e≠d):m≠k:=by
 rintro rfl
 obtain⟨b,h1,h2⟩:=rsv_spec h
 obtain⟨b',h3,h4⟩:=rsv_spec h'
 rw [h1] at h3
 cases h3
 exact hne (isRsv_inj h4 h2)
def Rsv (H:List Box) (k:Nat):Prop:=∃ b d,H[k]?=some b∧isRsv d b=true
theorem rsv_Rsv {d k:Nat} (h:rsv d H=some k):Rsv H k:=by
 obtain⟨b,h1,h2⟩:=rsv_spec h
 exact⟨b,d,h1,h2⟩
theorem Rsv.lt {k:Nat} (h:Rsv H k):k<H.length:=by
 obtain⟨b,d,h1,_⟩:=h
 exact(List.getElem?_eq_some_iff.1 h1).1
theorem Rsv.of_app {k:Nat} {b:Box} (hb:∀ d,isRsv d b=false) (h:Rsv (H++[b]) k):Rsv H k:=by
 obtain⟨c,d,h1,h2⟩:=h
 by_cases hi:k<H.length
 ·rw [List.getElem?_append_left hi] at h1
  exact⟨c,d,h1,h2⟩
 ·rw [List.getElem?_append_right (by omega)] at h1
  rcases Nat.eq_zero_or_pos (k-H.length) with h0 | h0
  ·rw [h0] at h1
   simp at h1
   subst h1
   rw [hb] at h2; cases h2
  ·rw [List.getElem?_eq_none (by simp; omega)] at h1; cases h1
theorem Rsv.of_set {k i:Nat} {b:Box} (hb:∀ d,isRsv d b=false) (h:Rsv (H.set i b) k):k≠i∧Rsv H k:=by
 obtain⟨c,d,h1,h2⟩:=h
 by_cases e:k=i
 ·subst e
  by_cases hk:k<H.length
  ·rw [List.getElem?_set_self hk] at h1
   cases h1
   rw [hb] at h2; cases h2
  ·rw [List.getElem?_eq_none (by simpa using hk)] at h1; cases h1
 ·rw [List.getElem?_set_ne (Ne.symm e)] at h1
  exact⟨e,c,d,h1,h2⟩
theorem NoR.fill {k m:Nat} (h:NoR k F H) {z:List Value} {t:TypeId} {d:Option Tmp} (hne:m≠k):NoR k (putF F d (.p m 0)) (H.set m (.c (z.map .v) t)):=by
 have h1:=h.put (d:=d) (s:=.p m 0) hne
 refine⟨h1.nF,fun i cs u hc s hs=>?_⟩
 by_cases e:i=m
 ·subst e
  by_cases hi:i<H.length
  ·rw [List.getElem?_set_self hi] at hc
   cases hc
   simp at hs
   obtain⟨x,_,rfl⟩:=hs
   trivial
  ·rw [List.getElem?_eq_none (by simpa using hi)] at hc; cases hc
 ·rw [List.getElem?_set_ne (Ne.symm e)] at hc
  exact h.nH i cs u hc s hs
def freeA (ops:Array Oper) (j i:Nat):Prop:=∃ oj oi,ops[j]?=some oj∧ops[i]?=some oi∧oj.apart ops oi=true∧(kindR ops oj≠2∨isAl oj=true)
def OutA (P:Program) (ops:Array Oper) (V0:Know) (K:Kt) (A C:List Nat) (o:Oper) (F:Fm) (H:List Box) (V:Know):Prop :=
 (want ops F o.guard=some false∧R P ops true V0 K (A++C) (putF F o.dst (.v undef)) H V) ∨
 (want ops F o.guard=some true∧∃ t z d k,o.op=.alloc t∧zeroOf P t=some z∧o.dst=some d∧rsv d H=some k∧R P ops true V0 K (A++C) (putF F o.dst (.p k 0)) (H.set k (.c (z.map .v) t)) V)
theorem pullA {ops:Array Oper} {K:Kt} {i:Nat} {C:List Nat} {oi:Oper} (hoi:ops[i]?=some oi) (hal:isAl oi=true):∀ {A:List Nat} {F:Fm} {H:List Box} {V:Know},(∀ d k,oi.dst=some d→rsv d H=some k→NoR k F H)→R P ops true V0 K (A++i :: C) F H V→(∃ w,V.on w)→(∀ j∈A,freeA ops j i) →
  OutA P ops V0 K A C oi F H V
 | [],F,H,V,hnr,h,_,_=>by
  have hop:∃ t,oi.op=.alloc t:=by
   unfold isAl at hal
   split at hal
   ·rename_i t ho; exact⟨t,ho⟩
   ·cases hal
  obtain⟨t,hop⟩:=hop
  cases h with
  | skip ho hw hr=>rw [hoi] at ho; cases ho; exact .inl ⟨hw,hr⟩
  | stab ho hw hsel hx hs hr=>rw [hoi] at ho; cases ho; rw [alloc_stab hop] at hs; cases hs
  | call Q ho hw hop' hcal hl hc k1 k2=>rw [hoi] at ho; cases ho; rw [hop] at hop'; cases hop'
  | eff ho hw he ha hr=>rw [hoi] at ho; cases ho; rw [ha rfl] at hal; cases hal
  | alx _ ho hw h1 h2 h3 h4 hr=>rw [hoi] at ho; cases ho; exact .inr ⟨hw,_,_,_,_,h1,h2,h3,h4,hr⟩
  | mk ho hw hx he hr =>
   rw [hoi] at ho; cases ho
   exfalso
   cases he <;> simp_all
  | al d _ ho hw hx ha k1 k2 =>
   rw [hoi] at ho; cases ho
   exfalso
   simp [alOf,hop] at ha
  | frz hd _ _=>cases hd
  | esc hd _ _ _=>cases hd
  | aki hd ho _ hop'=>rw [hoi] at ho; cases ho; rw [hop] at hop'; cases hop'
  | akg hd ho _ hop'=>rw [hoi] at ho; cases ho; rw [hop] at hop'; cases hop'
  | mo Q hd ho=>rw [hoi] at ho; cases ho; have:=(hd rfl).1; simp [isUp,hop] at this
 | j :: A,F,H,V,hnr,h,hV,hfree=>by
  obtain⟨oj,oi',hoj,hoi',hap,hk2⟩:=hfree j (by simp)
  rw [hoi] at hoi'; cases hoi'
  obtain⟨p1,p2,p3⟩:=Oper.apart_spec hap
  have hfree':∀ j∈A,freeA ops j i:=fun k hk=>hfree k (by simp [hk])
  have li:∀ (F:Fm) s,∀ t∈oi.looksAt ops,putF F oj.dst s t=F t:=fun F s t ht=>putF_other (fun e=>p1 t e ht)
  have lj:∀ (F:Fm) s,∀ t∈oj.looksAt ops,putF F oi.dst s t=F t:=fun F s t ht=>putF_other (fun e=>p3 t e ht)
  have wi:∀ (F:Fm) s,want ops (putF F oj.dst s) oi.guard=want ops F oi.guard:=fun F s=>looks_want (li F s)
  have wj:∀ (F:Fm) s,want ops (putF F oi.dst s) oj.guard=want ops F oj.guard:=fun F s=>looks_want (lj F s)
  have comm:∀ (F:Fm) s u,putF (putF F oj.dst s) oi.dst u=putF (putF F oi.dst u) oj.dst s:=fun F s u=>putF_comm (fun t ht e=>p2 t ht e)
  have nrv:∀ (x:Value),∀ d k,oi.dst=some d→rsv d H=some k→NoR k (putF F oj.dst (.v x)) H:=fun x d k h1 h2=>(hnr d k h1 h2).put trivial
  -- a step of j,from any state that agrees with F where it looks,the kept box filled or not
  have quiet:∀ (sj:SV) (V':Know),(∀ (G:Fm),(∀ t∈oj.looksAt ops,G t=F t)→∀ L,R P ops true V0 K L (putF G oj.dst sj) H V'→R P ops true V0 K (j :: L) G H V) →
    (∀ (k:Nat) (b:Box) (G:Fm),NoR k F H→(∀ t∈oj.looksAt ops,G t=F t)→∀ L,R P ops true V0 K L (putF G oj.dst sj) (H.set k b) V'→R P ops true V0 K (j :: L) G (H.set k b) V) →
    OutA P ops V0 K A C oi (putF F oj.dst sj) H V'→OutA P ops V0 K (j :: A) C oi F H V:=by
   intro sj V' step stepB hout
   rcases hout with ⟨hw,hr⟩ | ⟨hw,t,z,d,k,h1,h2,h3,h4,hr⟩
   ·rw [wi] at hw
    rw [comm] at hr
    exact .inl ⟨hw,step _ (lj F _) (A++C) hr⟩
   ·rw [wi] at hw
    rw [comm] at hr
    exact .inr ⟨hw,t,z,d,k,h1,h2,h3,h4,stepB _ _ _ (hnr d k h3 h4) (lj F _) (A++C) hr⟩
  cases h with
  | skip ho hw hr =>
   rw [hoj] at ho; cases ho
   exact quiet (.v undef) V (fun G hG L hr=>.skip hoj (by rw [looks_want hG]; exact hw) hr) (fun k b G _ hG L hr=>.skip hoj (by rw [looks_want hG]; exact hw) hr) (pullA hoi hal (nrv _) hr hV hfree')
  | @stab _ _ o s _ _ _ ho hw hsel hx hs hr =>
   rw [hoj] at ho; cases ho
   simp only [if_true] at hs
   refine quiet s V (fun G hG L hr=>.stab hoj (by rw [looks_want hG]; exact hw) hsel hx ?_ hr) (fun k b G hn hG L hr=>.stab hoj (by rw [looks_want hG]; exact hw) hsel hx ?_ hr)
    (pullA hoi hal (fun d k h1 h2=>(hnr d k h1 h2).put (stab_nr (hnr d k h1 h2) hs)) hr hV hfree')
   ·simp only [if_true]
    rw [stab_congr hsel (looks_ev hG)]
    exact hs
   ·simp only [if_true]
    rw [stab_congr hsel (looks_ev hG),stab_at hn]
    exact hs
  | call Q ho hw hop hcal hl hc k1 k2 =>
   rw [hoj] at ho; cases ho
   obtain⟨V1,y1,hq1,hw1⟩:=hc.some hV
   have hmem:∀ {H':List Box} {G:Fm},(∀ t∈oj.looksAt ops,G t=F t)→∀ x∈_,ev H' G x=ev H' F x:=fun hG x hx=>looks_ev hG x (by simp only [hop,Op.operands,Call.operands,Array.mem_append]; exact .inr (Array.mem_toList_iff.1 hx))
   have hfn:∀ {H':List Box} {G:Fm} {c:Call} (_:oj.op=.call c),(∀ t∈oj.looksAt ops,G t=F t)→∀ f,calOp c=some f→ev H' G f=ev H' F f:=fun hc hG f hf=>looks_ev hG _ (by simp only [hc,Op.operands]; exact calOp_mem hf)
   have step:∀ u,(∀ V' y,Q V' y→(∃ w,V'.on w)→R P ops true V0 K (A++C) (putF (putF F oi.dst u) oj.dst (.v y)) H V')→R P ops true V0 K (j :: (A++C)) (putF F oi.dst u) H V:=by
    intro u hr
    refine .call Q hoj (by rw [wj]; exact hw) hop (hcal.congr (hfn hop (lj F u))) ?_ hc (fun V' y hq _=>k1 V' y hq rfl) hr
    ·rw [plainOps_congr (hmem (lj F u))]; exact hl
   have stepB:∀ k b u,NoR k F H→(∀ V' y,Q V' y→(∃ w,V'.on w)→R P ops true V0 K (A++C) (putF (putF F oi.dst u) oj.dst (.v y)) (H.set k b) V')→R P ops true V0 K (j :: (A++C)) (putF F oi.dst u) (H.set k b) V:=by
    intro k b u hn hr
    refine .call Q hoj (by rw [wj]; exact hw) hop (hcal.congr fun f hf=>by rw [hfn hop (lj F u) f hf,ev_at hn]) ?_ hc (fun V' y hq _=>k1 V' y hq rfl) hr
    ·rw [plainOps_congr (hmem (lj F u)),plainOps_at hn]; exact hl
   have all:∀ V' y,Q V' y→(∃ w,V'.on w)→OutA P ops V0 K A C oi (putF F oj.dst (.v y)) H V':=fun V' y hq hV'=>pullA hoi hal (nrv _) (k2 V' y hq hV') hV' hfree'
   rcases all V1 y1 hq1 hw1 with ⟨hwi,_⟩ | ⟨hwi,t,z,d,k,h1,h2,h3,h4,_⟩
   ·rw [wi] at hwi
    refine .inl ⟨hwi,step _ (fun V' y hq hV'=>?_)⟩
    rcases all V' y hq hV' with ⟨_,hr⟩ | ⟨hwi',_⟩
    ·rw [← comm]; exact hr
    ·rw [wi,hwi] at hwi'; cases hwi'
   ·rw [wi] at hwi
    refine .inr ⟨hwi,t,z,d,k,h1,h2,h3,h4,stepB _ _ _ (hnr d k h3 h4) (fun V' y hq hV'=>?_)⟩
    rcases all V' y hq hV' with ⟨hwi',_⟩ | ⟨_,t',z',d',k',h1',h2',h3',h4',hr⟩
    ·rw [wi,hwi] at hwi'; cases hwi'
    ·rw [h1] at h1'; cases h1'
     rw [h2] at h2'; cases h2'
     rw [h3] at h3'; cases h3'
     rw [h4] at h4'; cases h4'
     rw [← comm]; exact hr
  | @alx _ _ o t z d k _ _ _ _ ho hw h1 h2 h3 h4 hr =>
   rw [hoj] at ho; cases ho
   have hds:∀ e,oi.dst=some e→e≠d:=fun e he hed=>p2 d h3 (by rw [he,hed])
   have hout:=pullA hoi hal (H:=H.set k (.c (z.map .v) t)) (fun e m he hm=>by
    rw [rsv_fill h4 (hds e he)] at hm
    exact(hnr e m he hm).fill (Ne.symm (rsv_ne h4 hm (hds e he)))) hr hV hfree'
   rcases hout with ⟨hwi,hr⟩ | ⟨hwi,t',z',e,m,g1,g2,g3,g4,hr⟩
   ·rw [wi] at hwi
    rw [comm] at hr
    exact .inl ⟨hwi,.alx rfl hoj (by rw [wj]; exact hw) h1 h2 h3 h4 hr⟩
   ·rw [wi] at hwi
    rw [comm] at hr
    rw [rsv_fill h4 (hds e g3)] at g4
    have hne:=rsv_ne h4 g4 (hds e g3)
    refine .inr ⟨hwi,t',z',e,m,g1,g2,g3,g4,.alx rfl hoj (by rw [wj]; exact hw) h1 h2 h3 (k:=k) ?_ ?_⟩
    ·rw [rsv_fill g4 (Ne.symm (hds e g3))]; exact h4
    ·rw [List.set_comm _ _ hne]
     exact hr
  | al d _ ho hw hx ha k1 k2 =>
   rw [hoj] at ho; cases ho
   have haj:∀ G:Fm,(∀ t∈oj.looksAt ops,G t=F t)→alOf P V0 H G oj=some d:=fun G hG=>by rw [alOf_congr (looks_ev hG)]; exact ha
   have hajB:∀ (k:Nat) (b:Box) (G:Fm),NoR k F H→(∀ t∈oj.looksAt ops,G t=F t)→alOf P V0 (H.set k b) G oj=some d:=fun k b G hn hG=>by rw [alOf_congr (looks_ev hG),alOf_at hn]; exact ha
   cases hz:d.z with
   | some y =>
    refine quiet (.v y) V (fun G hG L hr=>.al d rfl hoj (by rw [looks_want hG]; exact hw) hx (haj G hG) (fun y' hy'=>?_) (fun h=>by rw [hz] at h; cases h)) (fun k b G hn hG L hr=>.al d rfl hoj (by rw [looks_want hG]; exact hw) hx (hajB k b G hn hG) (fun y' hy'=>?_) (fun h=>by rw [hz] at h; cases h)) (pullA hoi hal (nrv _) (k1 y hz) hV hfree')
    ·rw [hz] at hy'; cases hy'; exact hr
    ·rw [hz] at hy'; cases hy'; exact hr
   | none =>
    have step:∀ u,(∀ b cap spare,V b=none→d.n≤cap→AlC P d cap spare→(∃ w,(kset V b (d.ys++spare,(d.t,(0,0)))).on w) →
      R P ops true V0 K (A++C) (putF (putF F oi.dst u) oj.dst (.v (.slice (some ⟨b,0,none⟩) d.n cap))) H (kset V b (d.ys++spare,(d.t,(0,0)))))→R P ops true V0 K (j :: (A++C)) (putF F oi.dst u) H V :=
     fun u hr=>.al d rfl hoj (by rw [wj]; exact hw) hx (haj _ (lj F u)) (fun y h=>by rw [hz] at h; cases h) (fun _=>hr)
    have stepB:∀ kk bx u,NoR kk F H→(∀ b cap spare,V b=none→d.n≤cap→AlC P d cap spare→(∃ w,(kset V b (d.ys++spare,(d.t,(0,0)))).on w) →
      R P ops true V0 K (A++C) (putF (putF F oi.dst u) oj.dst (.v (.slice (some ⟨b,0,none⟩) d.n cap))) (H.set kk bx) (kset V b (d.ys++spare,(d.t,(0,0)))))→R P ops true V0 K (j :: (A++C)) (putF F oi.dst u) (H.set kk bx) V :=
     fun kk bx u hn hr=>.al d rfl hoj (by rw [wj]; exact hw) hx (hajB kk bx _ hn (lj F u)) (fun y h=>by rw [hz] at h; cases h) (fun _=>hr)
    have all:∀ b cap spare,V b=none→d.n≤cap→AlC P d cap spare→(∃ w,(kset V b (d.ys++spare,(d.t,(0,0)))).on w) →
      OutA P ops V0 K A C oi (putF F oj.dst (.v (.slice (some ⟨b,0,none⟩) d.n cap))) H (kset V b (d.ys++spare,(d.t,(0,0)))) :=
     fun b cap spare hb hc he hon=>pullA hoi hal (nrv _) (k2 hz b cap spare hb hc he hon) hon hfree'
    obtain⟨b0,hb0,hon0⟩:=new_block hV (d.ys++[]) d.t
    rcases all b0 d.n [] hb0 (Nat.le_refl _) ⟨fun _=>⟨rfl,rfl⟩,by simp⟩ hon0 with ⟨hwi,_⟩ | ⟨hwi,t,z,e,k,h1,h2,h3,h4,_⟩
    ·rw [wi] at hwi
     refine .inl ⟨hwi,step _ (fun b cap spare hb hc he hon=>?_)⟩
     rcases all b cap spare hb hc he hon with ⟨_,hr⟩ | ⟨hwi',_⟩
     ·rw [← comm]; exact hr
     ·rw [wi,hwi] at hwi'; cases hwi'
    ·rw [wi] at hwi
     refine .inr ⟨hwi,t,z,e,k,h1,h2,h3,h4,stepB _ _ _ (hnr e k h3 h4) (fun b cap spare hb hc he hon=>?_)⟩
     rcases all b cap spare hb hc he hon with ⟨hwi',_⟩ | ⟨_,t',z',e',k',h1',h2',h3',h4',hr⟩
     ·rw [wi,hwi] at hwi'; cases hwi'
     ·rw [h1] at h1'; cases h1'
      rw [h2] at h2'; cases h2'
      rw [h3] at h3'; cases h3'
      rw [h4] at h4'; cases h4'
      rw [← comm]; exact hr
  | eff ho _ he ha _ =>
   rw [hoj] at ho; cases ho
   rcases hk2 with hk2 | hk2
   ·exact(hk2 (em_kind (.inl he))).elim
   ·rw [ha rfl] at hk2; cases hk2
  | mk ho _ hx he _ =>
   rw [hoj] at ho; cases ho
   rcases hk2 with hk2 | hk2
   ·exact(hk2 (em_kind (.inr ⟨hx rfl,he⟩))).elim
   ·exfalso
    unfold isAl at hk2
    split at hk2
    ·cases he <;> simp_all
    ·cases hk2
  | frz hd _ _=>cases hd
  | esc hd _ _ _=>cases hd
  | aki hd ho _ hop hcal =>
   rw [hoj] at ho; cases ho
   rcases hk2 with hk2 | hk2
   ·exact(hk2 (ap_kind hop hcal (hd rfl).1)).elim
   ·simp [isAl,hop] at hk2
  | akg hd ho _ hop hcal =>
   rw [hoj] at ho; cases ho
   rcases hk2 with hk2 | hk2
   ·exact(hk2 (ap_kind hop hcal (hd rfl))).elim
   ·simp [isAl,hop] at hk2
  | mo Q hd ho =>
   rw [hoj] at ho; cases ho
   rcases hk2 with hk2 | hk2
   ·exact(hk2 (up_kind (hd rfl).1)).elim
   ·exfalso
    have h1:=(hd rfl).1
    unfold isAl at hk2
    split at hk2
    ·rename_i hal; simp [isUp,hal] at h1
    ·cases hk2
end Sx
namespace Sx
open Go
variable {P:Program} {N:Nat} {w0:World} {F:Fm} {H:List Box} {Vs V V0:Know} {ρ:Nat→Nat × Nat} {a:Act} {w:World}
def isStore (o:Oper):Bool:=match o.op with | .store ..=>true | _=>false
def isMv (o:Oper):Bool:=match o.op with
 | .move _=>true
 | .assign _=>true
 | .extract ..=>true
 | .binOp ..=>true
 | .unOp ..=>true
 | .field ..=>true
 | _=>false
def dstsOf (ops:Array Oper):List Nat:=ops.toList.filterMap (·.dst)
def ldAt (F0:Fm) (ds:List Nat) (o:Oper):Option (Option Nat):=match o.op with
 | .load _ (.tmp t)=>match ds.contains t with
  | true=>none
  | false=>match F0 t with | some (.p i _)=>some (some i) | some (.v _)=>some none | _=>none
 | _=>none
def stAt (F0:Fm) (H0:List Box) (ds:List Nat) (o:Oper):Option Nat:=match o.op with
 | .store _ (.tmp t) _=>match ds.contains t with
  | true=>none
  | false=>match F0 t with | some (.p i _)=>(match H0[i]? with | some (.c ..)=>some i | _=>none) | _=>none
 | _=>none
def isLd (F0:Fm) (H0:List Box) (ds:List Nat) (oj oi:Oper):Bool:=match ldAt F0 ds oj,stAt F0 H0 ds oi with
 | some (some a),some b=>!Nat.beq a b
 | some none,some _=>true
 | _,_=>false
structure Inv (ops:Array Oper) (F0:Fm) (H0:List Box) (F:Fm) (H:List Box):Prop where
 agree:∀ t,(dstsOf ops).contains t=false→F t=F0 t
 isC:∀ (i:Nat) cs t,H0[i]?=some (.c cs t)→∃ cs' t',H[i]?=some (.c cs' t')
 pend:∀ k,Rsv H k→NoR k F H
theorem dst_mem {ops:Array Oper} {i:Nat} {o:Oper} {d:Nat} (h:ops[i]?=some o) (hd:o.dst=some d):(dstsOf ops).contains d=true:=by
 rw [List.contains_iff_mem]
 simp only [dstsOf,List.mem_filterMap]
 exact⟨o,by
  obtain⟨hi,e⟩:=Array.getElem?_eq_some_iff.1 h
  subst e
  simp,hd⟩
theorem Inv.put {ops:Array Oper} {F0:Fm} {H0:List Box} {i:Nat} {o:Oper} {s:SV} (h:Inv ops F0 H0 F H) (ho:ops[i]?=some o) (hs:∀ k,Rsv H k→nr k s):Inv ops F0 H0 (putF F o.dst s) H:=by
 refine⟨fun t ht=>?_,h.isC,fun k hd=>(h.pend k hd).put (hs k hd)⟩
 rw [putF_other (fun e=>by rw [dst_mem ho e] at ht; cases ht)]
 exact h.agree t ht
def freeS (ops:Array Oper) (F0:Fm) (H0:List Box) (j i:Nat):Prop:=∃ oj oi,ops[j]?=some oj∧ops[i]?=some oi∧oj.apart ops oi=true∧(isMv oj=true∨isLd F0 H0 (dstsOf ops) oj oi=true)
theorem res_set {i:Nat} {b b':Box} (hb:H[i]?=some b) (h1:b.live=true) (h2:b'.live=true) (s:SV):res (H.set i b') s=res H s:=by
 have key:∀ j,(H.set i b')[j]?=H[j]?∨(j=i∧(H.set i b')[j]?=some b'):=by
  intro j
  by_cases e:i=j
  ·subst e
   right
   refine⟨rfl,?_⟩
   have:i<H.length:=by
    by_cases h:i<H.length
    ·exact h
    ·rw [List.getElem?_eq_none (by omega)] at hb; cases hb
   simp [this]
  ·left
   simp [List.getElem?_set_ne e]
 cases s with
 | v x=>rfl
 | k b=>rfl
 | o j =>
  rcases key j with h | ⟨rfl,h⟩
  ·simp only [res,h]
  ·simp only [res,h,hb]
   cases b <;> cases b' <;> simp_all [Box.live]
 | p j off =>
  rcases key j with h | ⟨rfl,h⟩
  ·simp only [res,h]
  ·simp only [res,h,hb]
   cases b <;> cases b' <;> simp_all [Box.live]
theorem ev_res {H H':List Box} (h:∀ s,res H' s=res H s) (F:Fm) (x:Operand):ev H' F x=ev H F x:=by
 cases x with
 | tmp t=>simp only [ev,h]
 | _=>rfl
theorem Eff.res_eq {o:Oper} {F':Fm} {H':List Box} {V':Know} (h:Eff P o F H V F' H' V') (hs:isStore o=true) (s:SV):res H' s=res H s:=by
 cases h with
 | box h1=>simp [isStore,h1] at hs
 | alloc h1=>simp [isStore,h1] at hs
 | stC h1 h2 h3=>exact res_set h3 rfl rfl s
 | stA h1 h2 h3=>exact res_set h3 rfl rfl s
 | stV=>rfl
theorem allPlain_res {H':List Box} (h:∀ s,res H' s=res H s):∀ l:List Operand,allPlain H' F l=allPlain H F l
 | []=>rfl
 | x :: r=>by simp only [allPlain,ev_res h,allPlain_res h r]
theorem stabPlain_res {H':List Box} (h:∀ s,res H' s=res H s) (o:Oper):stabPlain P H' F o=stabPlain P H F o:=by
 have e:envOf H' F=envOf H F:=by
  funext x
  simp only [envOf,ev_res h]
 simp only [stabPlain,allPlain_res h,e]
theorem stab_mv {H':List Box} (h:∀ s,res H' s=res H s) {o:Oper} (hm:isMv o=true):stab P V H' F o=stab P V H F o:=by
 unfold isMv at hm
 split at hm <;> rename_i ho
 ·simp only [stab,ho,ev_res h]
 ·simp only [stab,ho,ev_res h]
 ·simp only [stab,ho,stabPlain_res h]
 ·simp only [stab,ho,stabPlain_res h]
 ·simp only [stab,ho,stabPlain_res h]
 ·simp only [stab,ho,stabPlain_res h]
 ·cases hm
theorem mv_x {ops:Array Oper} {o:Oper} (hm:isMv o=true):isX ops o=false:=by
 unfold isMv at hm
 split at hm <;> rename_i ho
 all_goals first | (exact absurd hm (by decide)) | (simp [isX,isXA,ho])
theorem Eff.from {o:Oper} {F F1 F':Fm} {H':List Box} {V':Know} (h:Eff P o F1 H V F' H' V') (hs:isStore o=true) (he:∀ x∈o.op.operands,ev H F1 x=ev H F x) :
  F'=putF F1 o.dst (.v undef)∧Eff P o F H V (putF F o.dst (.v undef)) H' V':=by
 cases h with
 | box h1=>simp [isStore,h1] at hs
 | alloc h1=>simp [isStore,h1] at hs
 | @stC t ad x _ _ _ _ _ _ h1 h2 h3 h4 h5 h6 h7 =>
  rw [he ad (by simp [h1,Op.operands])] at h2
  rw [he x (by simp [h1,Op.operands])] at h4
  exact⟨rfl,.stC h1 h2 h3 h4 h5 h6 h7⟩
 | @stA t ad x _ _ _ _ _ _ h1 h2 h3 h4 h5 h6 h7 =>
  rw [he ad (by simp [h1,Op.operands])] at h2
  rw [he x (by simp [h1,Op.operands])] at h4
  exact⟨rfl,.stA h1 h2 h3 h4 h5 h6 h7⟩
 | @stV t ad x _ _ _ _ h1 h2 h3 h4 h5 h6 h7 h8 =>
  rw [he ad (by simp [h1,Op.operands])] at h2
  rw [he x (by simp [h1,Op.operands])] at h5
  exact⟨rfl,.stV h1 h2 h3 h4 h5 h6 h7 h8⟩
theorem Eff.other {ops:Array Oper} {F0:Fm} {H0:List Box} {o:Oper} {F':Fm} {H':List Box} {V':Know} (hI:Inv ops F0 H0 F H) {b:Nat} (hb:stAt F0 H0 (dstsOf ops) o=some b) (h:Eff P o F H V F' H' V') :
  V'=V∧∀ a,a≠b→H'[a]?=H[a]?:=by
 unfold stAt at hb
 split at hb
 ·rename_i ty t x ho
  split at hb
  ·cases hb
  ·rename_i hds
   split at hb
   ·rename_i i off hF
    split at hb
    ·rename_i cs u hH
     cases hb
     have hFt:=(hI.agree t hds).trans hF
     obtain⟨cs',u',hH'⟩:=hI.isC _ _ _ hH
     have hev:ev H F (.tmp t)=some (.p b off):=by
      simp only [ev,hFt,res,hH']
     cases h with
     | box h1=>rw [ho] at h1; cases h1
     | alloc h1=>rw [ho] at h1; cases h1
     | stC h1 h2 h3 =>
      rw [ho] at h1
      cases h1
      rw [hev] at h2
      cases h2
      exact⟨rfl,fun a ha=>List.getElem?_set_ne (Ne.symm ha)⟩
     | stA h1 h2 h3 =>
      rw [ho] at h1
      cases h1
      rw [hev] at h2
      cases h2
      exact⟨rfl,fun a ha=>List.getElem?_set_ne (Ne.symm ha)⟩
     | stV h1 h2 =>
      rw [ho] at h1
      cases h1
      rw [hev] at h2
      cases h2
    ·cases hb
   ·cases hb
 ·cases hb
theorem stab_ld {ops:Array Oper} {F0:Fm} {H0 H':List Box} (hI:Inv ops F0 H0 F H) {o:Oper} {q:Option Nat} (hq:ldAt F0 (dstsOf ops) o=some q) (h:∀ s,res H' s=res H s) (hb:∀ a,q=some a→H'[a]?=H[a]?) :
  stab P V H' F o=stab P V H F o:=by
 unfold ldAt at hq
 split at hq
 ·rename_i ty t ho
  split at hq
  ·cases hq
  ·rename_i hds
   have hag:=hI.agree t hds
   simp only [stab,ho,ev_res h]
   split at hq
   ·rename_i i off hF
    cases hq
    have hFt:=hag.trans hF
    have hbi:=hb i rfl
    have hl:∀ n,loadB H' i off n=loadB H i off n:=by
     intro n
     unfold loadB
     rw [hbi]
     split
     ·split
      ·congr 1
       exact List.map_congr_left fun s _=>h s
      ·rfl
     ·rfl
     ·rfl
    cases hx:ev H F (.tmp t) with
    | none=>rfl
    | some s =>
     have he:s=res H (.p i off):=by
      simp only [ev,hFt] at hx
      exact(Option.some.inj hx).symm
     simp only [res] at he
     split at he
     ·subst he; cases sizeOf? P ty <;> rfl
     ·subst he
      cases sizeOf? P ty with
      | none=>rfl
      | some n=>simp only [hl]
   ·rename_i y hF
    have hFt:=hag.trans hF
    have hx:ev H F (.tmp t)=some (.v y):=by simp only [ev,hFt,res]
    rw [hx]
    cases y with
    | pointer a=>cases a <;> cases sizeOf? P ty <;> rfl
    | _=>cases sizeOf? P ty <;> rfl
   ·cases hq
 ·cases hq
theorem isLd_load {ops:Array Oper} {F0:Fm} {H0:List Box} {oj oi:Oper} (h:isLd F0 H0 (dstsOf ops) oj oi=true) :
  ∃ q b,ldAt F0 (dstsOf ops) oj=some q∧stAt F0 H0 (dstsOf ops) oi=some b∧∀ a,q=some a→a≠b:=by
 unfold isLd at h
 split at h
 ·rename_i a b h1 h2
  refine⟨_,b,h1,h2,?_⟩
  rintro _ ⟨⟩ rfl
  simp at h
 ·rename_i b h1 h2
  exact⟨_,b,h1,h2,fun a ha=>by cases ha⟩
 ·cases h
theorem ldAt_op {F0:Fm} {ds:List Nat} {o:Oper} {q:Option Nat} (h:ldAt F0 ds o=some q):∃ t x,o.op=.load t x:=by
 unfold ldAt at h
 split at h
 ·exact⟨_,_,‹_›⟩
 ·cases h
def OutS (P:Program) (ops:Array Oper) (V0:Know) (K:Kt) (A C:List Nat) (o:Oper) (F:Fm) (H:List Box) (V:Know):Prop :=
 (want ops F o.guard=some false∧R P ops true V0 K (A++C) (putF F o.dst (.v undef)) H V) ∨
 (want ops F o.guard=some true∧isSel o.op=false∧∃ s,stab P V0 H F o=some s∧R P ops true V0 K (A++C) (putF F o.dst s) H V) ∨
 (want ops F o.guard=some true∧∃ H' V',Eff P o F H V (putF F o.dst (.v undef)) H' V'∧R P ops true V0 K (A++C) (putF F o.dst (.v undef)) H' V')
theorem pullS {ops:Array Oper} {F0:Fm} {H0:List Box} {K:Kt} {i:Nat} {C:List Nat} {oi:Oper} (hoi:ops[i]?=some oi) (hst:isStore oi=true):∀ {A:List Nat} {F:Fm} {V:Know},Inv ops F0 H0 F H→R P ops true V0 K (A++i :: C) F H V→(∀ j∈A,freeS ops F0 H0 j i) →
  OutS P ops V0 K A C oi F H V
 | [],F,V,hI,h,_=>by
  have hop:∃ t x y,oi.op=.store t x y:=by
   unfold isStore at hst
   split at hst
   ·rename_i t x y ho; exact⟨t,x,y,ho⟩
   ·cases hst
  obtain⟨t,x,y,hop⟩:=hop
  cases h with
  | skip ho hw hr=>rw [hoi] at ho; cases ho; exact .inl ⟨hw,hr⟩
  | stab ho hw hsel hx hs hr=>rw [hoi] at ho; cases ho; exact .inr (.inl ⟨hw,hsel,_,by simpa using hs,hr⟩)
  | call Q ho hw hop' hcal hl hc k1 k2=>rw [hoi] at ho; cases ho; rw [hop] at hop'; cases hop'
  | alx _ ho _ h1=>rw [hoi] at ho; cases ho; rw [hop] at h1; cases h1
  | eff ho hw he _ hr =>
   rw [hoi] at ho; cases ho
   obtain⟨rfl,he'⟩:=he.from hst (fun _ _=>rfl)
   exact .inr (.inr ⟨hw,_,_,he',hr⟩)
  | mk ho hw hx he hr =>
   rw [hoi] at ho; cases ho
   exfalso
   cases he <;> simp_all
  | al d _ ho hw hx ha k1 k2 =>
   rw [hoi] at ho; cases ho
   exfalso
   simp [alOf,hop] at ha
  | frz hd _ _=>cases hd
  | esc hd _ _ _=>cases hd
  | aki hd ho _ hop'=>rw [hoi] at ho; cases ho; rw [hop] at hop'; cases hop'
  | akg hd ho _ hop'=>rw [hoi] at ho; cases ho; rw [hop] at hop'; cases hop'
  | mo Q hd ho=>rw [hoi] at ho; cases ho; have:=(hd rfl).1; simp [isUp,hop] at this
 | j :: A,F,V,hI,h,hfree=>by
  obtain⟨oj,oi',hoj,hoi',hap,hmv⟩:=hfree j (by simp)
  rw [hoi] at hoi'; cases hoi'
  obtain⟨p1,p2,p3⟩:=Oper.apart_spec hap
  have hfree':∀ j∈A,freeS ops F0 H0 j i:=fun k hk=>hfree k (by simp [hk])
  have li:∀ (F:Fm) s,∀ t∈oi.looksAt ops,putF F oj.dst s t=F t:=fun F s t ht=>putF_other (fun e=>p1 t e ht)
  have lj:∀ (F:Fm) s,∀ t∈oj.looksAt ops,putF F oi.dst s t=F t:=fun F s t ht=>putF_other (fun e=>p3 t e ht)
  have wi:∀ (F:Fm) s,want ops (putF F oj.dst s) oi.guard=want ops F oi.guard:=fun F s=>looks_want (li F s)
  have ei:∀ (F:Fm) s,∀ x∈oi.op.operands,ev H (putF F oj.dst s) x=ev H F x:=fun F s=>looks_ev (li F s)
  have comm:∀ (F:Fm) s u,putF (putF F oj.dst s) oi.dst u=putF (putF F oi.dst u) oj.dst s:=fun F s u=>putF_comm (fun t ht e=>p2 t ht e)
  have quiet:∀ (sj:SV),(∀ (G:Fm),(∀ t∈oj.looksAt ops,G t=F t)→∀ H1 V1 L,(∀ s,res H1 s=res H s)→(∀ b,stAt F0 H0 (dstsOf ops) oi=some b→∀ a,a≠b→H1[a]?=H[a]?)→R P ops true V0 K L (putF G oj.dst sj) H1 V1→R P ops true V0 K (j :: L) G H1 V1) →
    OutS P ops V0 K A C oi (putF F oj.dst sj) H V→OutS P ops V0 K (j :: A) C oi F H V:=by
   intro sj step hout
   rcases hout with ⟨hw,hr⟩ | ⟨hw,hsel,s,hs,hr⟩ | ⟨hw,H',V',he,hr⟩
   ·rw [wi] at hw
    rw [comm] at hr
    exact .inl ⟨hw,step _ (lj F _) H V (A++C) (fun _=>rfl) (fun _ _ _ _=>rfl) hr⟩
   ·rw [wi] at hw
    rw [comm] at hr
    rw [stab_congr hsel (ei F sj)] at hs
    exact .inr (.inl ⟨hw,hsel,s,hs,step _ (lj F _) H V (A++C) (fun _=>rfl) (fun _ _ _ _=>rfl) hr⟩)
   ·rw [wi] at hw
    rw [comm] at hr
    have he':=(he.from (F:=F) hst (ei F sj)).2
    exact .inr (.inr ⟨hw,H',V',he',step _ (lj F _) H' V' (A++C) (he.res_eq hst) (fun b hb=>(he'.other hI hb).2) hr⟩)
  cases h with
  | skip ho hw hr =>
   rw [hoj] at ho; cases ho
   exact quiet (.v undef) (fun G hG H1 V1 L _ _ hr=>.skip hoj (by rw [looks_want hG]; exact hw) hr) (pullS hoi hst (hI.put hoj (fun _ _=>trivial)) hr hfree')
  | @stab _ _ o s _ _ _ ho hw hsel hx hs hr =>
   rw [hoj] at ho; cases ho
   simp only [if_true] at hs
   refine quiet s (fun G hG H1 V1 L hH hB hr=>.stab hoj (by rw [looks_want hG]; exact hw) hsel hx ?_ hr) (pullS hoi hst (hI.put hoj (fun k hd=>stab_nr (hI.pend k hd) hs)) hr hfree')
   simp only [if_true]
   rcases hmv with hmv | hld
   ·rw [stab_mv hH hmv,stab_congr hsel (looks_ev hG)]
    exact hs
   ·obtain⟨q,b,h1,h2,h3⟩:=isLd_load hld
    rw [stab_congr hsel (looks_ev hG),stab_ld hI h1 hH (fun a ha=>hB b h2 a (h3 a ha))]
    exact hs
  | call Q ho hw hop hcal hl hc k1 k2 =>
   rw [hoj] at ho; cases ho
   rcases hmv with hmv | hld
   ·simp [isMv,hop] at hmv
   ·obtain⟨q,b,h1,_⟩:=isLd_load hld
    obtain⟨_,_,h2⟩:=ldAt_op h1
    rw [hop] at h2; cases h2
  | al d _ ho hw hx ha k1 k2 =>
   rw [hoj] at ho; cases ho
   rcases hmv with hmv | hld
   ·rw [mv_x hmv] at hx; cases hx
   ·obtain⟨q,b,h1,_⟩:=isLd_load hld
    obtain⟨_,_,h2⟩:=ldAt_op h1
    simp [isX,isXA,h2] at hx
  | alx _ ho _ hop =>
   rw [hoj] at ho; cases ho
   rcases hmv with hmv | hld
   ·simp [isMv,hop] at hmv
   ·obtain⟨q,b,h1,_⟩:=isLd_load hld
    obtain⟨_,_,h2⟩:=ldAt_op h1
    rw [hop] at h2; cases h2
  | eff ho _ he _ _ =>
   rw [hoj] at ho; cases ho
   exfalso
   rcases hmv with hmv | hld
   ·cases he <;> simp_all [isMv]
   ·obtain⟨q,b,h1,_⟩:=isLd_load hld
    obtain⟨_,_,h2⟩:=ldAt_op h1
    cases he <;> simp_all
  | mk ho _ hx he _ =>
   rw [hoj] at ho; cases ho
   exfalso
   rcases hmv with hmv | hld
   ·cases he <;> simp_all [isMv]
   ·obtain⟨q,b,h1,_⟩:=isLd_load hld
    obtain⟨_,_,h2⟩:=ldAt_op h1
    cases he <;> simp_all
  | frz hd _ _=>cases hd
  | esc hd _ _ _=>cases hd
  | aki hd ho _ hop hcal =>
   rw [hoj] at ho; cases ho
   rcases hmv with hmv | hld
   ·simp [isMv,hop] at hmv
   ·obtain⟨q,b,h1,_⟩:=isLd_load hld
    obtain⟨_,_,h2⟩:=ldAt_op h1
    rw [hop] at h2; cases h2
  | akg hd ho _ hop hcal =>
   rw [hoj] at ho; cases ho
   rcases hmv with hmv | hld
   ·simp [isMv,hop] at hmv
   ·obtain⟨q,b,h1,_⟩:=isLd_load hld
    obtain⟨_,_,h2⟩:=ldAt_op h1
    rw [hop] at h2; cases h2
  | mo Q hd ho =>
   rw [hoj] at ho; cases ho
   have h1:=(hd rfl).1
   rcases hmv with hmv | hld
   ·unfold isUp at h1
    split at h1 <;> simp_all [isMv]
   ·obtain⟨q,b,h3,_⟩:=isLd_load hld
    obtain⟨_,_,h2⟩:=ldAt_op h3
    simp [isUp,h2] at h1
end Sx
namespace Sx
open Go
variable {P:Program} {N:Nat} {w0:World} {F:Fm} {H:List Box} {Vs V V0:Know} {ρ:Nat→Nat × Nat} {a:Act} {w:World}
def isNew (o:Oper):Bool:=match o.op with | .buildSlice ..=>true | _=>false
theorem Mk.from {o:Oper} {F F1 F':Fm} {H':List Box} {V':Know} (h:Mk P o F1 H V F' H' V') (hs:isNew o=true) (he:∀ x∈o.op.operands,ev H F1 x=ev H F x) :
  ∃ b,H'=H++[b]∧V'=V∧F'=putF F1 o.dst (.o H.length)∧Mk P o F H V (putF F o.dst (.o H.length)) (H++[b]) V:=by
 cases h with
 | @bs t n parts e sz vals cells i h1 h2 h3 h4 h5 h6 h7 h8 h9 h10 =>
  rw [partVals_congr (F:=F) fun p hp=>he p.2 (by rw [h1]; simp only [Op.operands]; exact List.mem_toArray.2 (List.mem_map_of_mem hp))] at h7
  exact⟨_,rfl,rfl,rfl,.bs h1 h2 h3 h4 h5 h6 h7 h8 h9 h10⟩
 | mk h1=>simp [isNew,h1] at hs
 | ap h1=>simp [isNew,h1] at hs
 | apnil h1=>simp [isNew,h1] at hs
 | apzero h1=>simp [isNew,h1] at hs
 | cp h1=>simp [isNew,h1] at hs
def freeN (ops:Array Oper) (j i:Nat):Prop:=∃ oj oi,ops[j]?=some oj∧ops[i]?=some oi∧oj.apart ops oi=true∧kindR ops oj=0
def OutB (P:Program) (ops:Array Oper) (V0:Know) (K:Kt) (A C:List Nat) (o:Oper) (F:Fm) (H:List Box) (V:Know):Prop :=
 (want ops F o.guard=some false∧R P ops true V0 K (A++C) (putF F o.dst (.v undef)) H V) ∨
 (want ops F o.guard=some true∧isSel o.op=false∧∃ s,stab P V0 H F o=some s∧R P ops true V0 K (A++C) (putF F o.dst s) H V) ∨
 (want ops F o.guard=some true∧∃ b,Mk P o F H V (putF F o.dst (.o H.length)) (H++[b]) V∧R P ops true V0 K (A++C) (putF F o.dst (.o H.length)) (H++[b]) V)
theorem pullB {ops:Array Oper} {K:Kt} {i:Nat} {C:List Nat} {oi:Oper} (hoi:ops[i]?=some oi) (hst:isNew oi=true) (hnx:isX ops oi=false):∀ {A:List Nat} {F:Fm} {V:Know},WfS F H→R P ops true V0 K (A++i :: C) F H V→(∀ j∈A,freeN ops j i) →
  OutB P ops V0 K A C oi F H V
 | [],F,V,_,h,_=>by
  have hop:∃ t n p,oi.op=.buildSlice t n p:=by
   unfold isNew at hst
   split at hst
   ·rename_i t n p ho; exact⟨t,n,p,ho⟩
   ·cases hst
  obtain⟨t,n,p,hop⟩:=hop
  cases h with
  | skip ho hw hr=>rw [hoi] at ho; cases ho; exact .inl ⟨hw,hr⟩
  | stab ho hw hsel hx hs hr=>rw [hoi] at ho; cases ho; exact .inr (.inl ⟨hw,hsel,_,by simpa using hs,hr⟩)
  | call Q ho hw hop' hcal hl hc k1 k2=>rw [hoi] at ho; cases ho; rw [hop] at hop'; cases hop'
  | alx _ ho _ h1=>rw [hoi] at ho; cases ho; rw [hop] at h1; cases h1
  | eff ho hw he _ hr =>
   rw [hoi] at ho; cases ho
   exfalso
   cases he <;> simp_all
  | mk ho hw hx he hr =>
   rw [hoi] at ho; cases ho
   obtain⟨b,rfl,rfl,rfl,he'⟩:=he.from hst (fun _ _=>rfl)
   exact .inr (.inr ⟨hw,b,he',hr⟩)
  | al d _ ho hw hx ha k1 k2 =>
   rw [hoi] at ho; cases ho
   rw [hnx] at hx; cases hx
  | frz hd _ _=>cases hd
  | esc hd _ _ _=>cases hd
  | aki hd ho _ hop'=>rw [hoi] at ho; cases ho; rw [hop] at hop'; cases hop'
  | akg hd ho _ hop'=>rw [hoi] at ho; cases ho; rw [hop] at hop'; cases hop'
  | mo Q hd ho=>rw [hoi] at ho; cases ho; have:=(hd rfl).1; simp [isUp,hop] at this
 | j :: A,F,V,hwf,h,hfree=>by
  obtain⟨oj,oi',hoj,hoi',hap,hmv⟩:=hfree j (by simp)
  rw [hoi] at hoi'; cases hoi'
  obtain⟨p1,p2,p3⟩:=Oper.apart_spec hap
  have hfree':∀ j∈A,freeN ops j i:=fun k hk=>hfree k (by simp [hk])
  have li:∀ (F:Fm) s,∀ t∈oi.looksAt ops,putF F oj.dst s t=F t:=fun F s t ht=>putF_other (fun e=>p1 t e ht)
  have lj:∀ (F:Fm) s,∀ t∈oj.looksAt ops,putF F oi.dst s t=F t:=fun F s t ht=>putF_other (fun e=>p3 t e ht)
  have wi:∀ (F:Fm) s,want ops (putF F oj.dst s) oi.guard=want ops F oi.guard:=fun F s=>looks_want (li F s)
  have ei:∀ (F:Fm) s,∀ x∈oi.op.operands,ev H (putF F oj.dst s) x=ev H F x:=fun F s=>looks_ev (li F s)
  have comm:∀ (F:Fm) s u,putF (putF F oj.dst s) oi.dst u=putF (putF F oi.dst u) oj.dst s:=fun F s u=>putF_comm (fun t ht e=>p2 t ht e)
  have quiet:∀ (sj:SV),(∀ (G:Fm),(∀ t∈oj.looksAt ops,G t=F t)→∀ L,R P ops true V0 K L (putF G oj.dst sj) H V→R P ops true V0 K (j :: L) G H V) →
    (∀ (b:Box) (G:Fm),(∀ t∈oj.looksAt ops,G t=F t)→∀ L,R P ops true V0 K L (putF G oj.dst sj) (H++[b]) V→R P ops true V0 K (j :: L) G (H++[b]) V) →
    OutB P ops V0 K A C oi (putF F oj.dst sj) H V→OutB P ops V0 K (j :: A) C oi F H V:=by
   intro sj step stepB hout
   rcases hout with ⟨hw,hr⟩ | ⟨hw,hsel,s,hs,hr⟩ | ⟨hw,b,he,hr⟩
   ·rw [wi] at hw
    rw [comm] at hr
    exact .inl ⟨hw,step _ (lj F _) (A++C) hr⟩
   ·rw [wi] at hw
    rw [comm] at hr
    rw [stab_congr hsel (ei F sj)] at hs
    exact .inr (.inl ⟨hw,hsel,s,hs,step _ (lj F _) (A++C) hr⟩)
   ·rw [wi] at hw
    rw [comm] at hr
    obtain⟨b',hb',_,_,he'⟩:=he.from (F:=F) hst (ei F sj)
    obtain rfl:b=b':=by simpa using hb'
    exact .inr (.inr ⟨hw,b,he',stepB b _ (lj F _) (A++C) hr⟩)
  cases h with
  | skip ho hw hr =>
   rw [hoj] at ho; cases ho
   exact quiet (.v undef) (fun G hG L hr=>.skip hoj (by rw [looks_want hG]; exact hw) hr) (fun b G hG L hr=>.skip hoj (by rw [looks_want hG]; exact hw) hr) (pullB hoi hst hnx (hwf.put trivial) hr hfree')
  | @stab _ _ o s _ _ _ ho hw hsel hx hs hr =>
   rw [hoj] at ho; cases ho
   simp only [if_true] at hs
   refine quiet s (fun G hG L hr=>.stab hoj (by rw [looks_want hG]; exact hw) hsel hx ?_ hr) (fun b G hG L hr=>.stab hoj (by rw [looks_want hG]; exact hw) hsel hx ?_ hr) (pullB hoi hst hnx (hwf.put (stab_inbW hwf hs)) hr hfree')
   ·simp only [if_true]
    rw [stab_congr hsel (looks_ev hG)]
    exact hs
   ·simp only [if_true]
    rw [stab_congr hsel (looks_ev hG),stab_app hwf]
    exact hs
  | call Q ho hw hop hcal hl hc k1 k2=>rw [hoj] at ho; cases ho; have:=call_kind (ops:=ops) hop hcal; omega
  | al d _ ho hw hx ha k1 k2=>rw [hoj] at ho; cases ho; have:=al_kind hx; omega
  | alx _ ho _ hop=>rw [hoj] at ho; cases ho; have:=al2_kind (ops:=ops) hop; omega
  | eff ho _ he _ _=>rw [hoj] at ho; cases ho; have:=em_kind (ops:=ops) (.inl he); omega
  | mk ho _ hx he _=>rw [hoj] at ho; cases ho; have:=em_kind (ops:=ops) (.inr ⟨hx rfl,he⟩); omega
  | frz hd _ _=>cases hd
  | esc hd _ _ _=>cases hd
  | aki hd ho _ hop hcal=>rw [hoj] at ho; cases ho; have:=ap_kind hop hcal (hd rfl).1; omega
  | akg hd ho _ hop hcal=>rw [hoj] at ho; cases ho; have:=ap_kind hop hcal (hd rfl); omega
  | mo Q hd ho=>rw [hoj] at ho; cases ho; have:=up_kind (ops:=ops) (hd rfl).1; omega
end Sx
namespace Sx
open Go
variable {P:Program} {N B:Nat} {w0:World} {F F0:Fm} {H H0:List Box} {Vs V V0:Know} {ρ:Nat→Nat × Nat} {a:Act} {w:World}
def pads (ops:Array Oper):List Box:=ops.toList.filterMap fun o=>match o.op with
 | .alloc _=>match o.dst with | some d=>some (rsvB d) | none=>none
 | _=>none
theorem cv_at {ρ ρ':Nat→Nat × Nat} {k:Nat} {b:Box} (hρ:∀ j,j≠k→ρ' j=ρ j) {s:SV} (hs:nr k s):cv ρ' (H.set k b) s=cv ρ H s:=by
 cases s with
 | v x=>rfl
 | k b=>rfl
 | p j off =>
  have hj:j≠k:=hs
  simp only [cv,List.getElem?_set_ne (Ne.symm hj),hρ j hj]
 | o j =>
  have hj:j≠k:=hs
  simp only [cv,List.getElem?_set_ne (Ne.symm hj),hρ j hj]
theorem Sat.fill (h:Sat P N w0.heap.size F H V ρ a w) (hF:Fr Vs V w0 w) {dst:Option Tmp} (hd:∀ d,dst=some d→d<N) {k:Nat} (hk:k<H.length) (hn:NoR k F H) (l:List Value) (t:TypeId) :
  ∃ ρ',Sat P N w0.heap.size (putF F dst (.p k 0)) (H.set k (.c (l.map .v) t)) V ρ' (a.put dst (.pointer (some ⟨w.heap.size,0,none⟩))) (w.alloc (.cells l.toArray t)) ∧
   Fr Vs V w0 (w.alloc (.cells l.toArray t)):=by
 let ρ':Nat→Nat × Nat:=fun i=>if i=k then (w.heap.size,0) else ρ i
 have hρ:∀ j,j≠k→ρ' j=ρ j:=fun j hj=>if_neg hj
 have hnw:ρ' k=(w.heap.size,0):=if_pos rfl
 have key:∀ j c,(H.set k (.c (l.map .v) t))[j]?=some c→(j≠k∧H[j]?=some c)∨(j=k∧c=.c (l.map .v) t):=by
  intro j c hc
  by_cases e:j=k
  ·subst e
   rw [List.getElem?_set_self hk] at hc
   exact .inr ⟨rfl,(Option.some.inj hc).symm⟩
  ·rw [List.getElem?_set_ne (Ne.symm e)] at hc
   exact .inl ⟨e,hc⟩
 have hne:∀ j c,H[j]?=some c→c.live=true→(ρ j).1≠w.heap.size:=fun j c hc hl=>by have:=h.live_lt j c hc hl; omega
 have h1:Sat P N w0.heap.size F (H.set k (.c (l.map .v) t)) V ρ' a (w.alloc (.cells l.toArray t)):=by
  refine⟨h.defers,h.size,fun t s x hF hx=>h.slot t s x hF (by rw [cv_at hρ (hn.nF t s hF)] at hx; exact hx),?_,?_,?_,?_,?_,?_,?_⟩
  ·intro j c hc
   rcases key j c hc with ⟨hj,hc'⟩ | ⟨rfl,rfl⟩
   ·refine(h.box j c hc').moved (hρ j hj) (fun cs t hcs s hs=>.inl (cv_at hρ ?_)) (fun hl=>heap_alloc_old w _ (h.live_lt j c hc' hl))
    subst hcs
    exact hn.nH j cs t hc' s hs
   ·exact⟨l,by rw [hnw]; exact heap_alloc_new w _,by simp,fun j s x hs hx=>cells_map_getElem j s x hs hx⟩
  ·intro i j b c hb hc hbl hcl he
   rcases key i b hb with ⟨hi,hb'⟩ | ⟨rfl,rfl⟩ <;> rcases key j c hc with ⟨hj,hc'⟩ | ⟨rfl,rfl⟩
   ·rw [hρ i hi,hρ j hj] at he
    exact h.inj i j b c hb' hc' hbl hcl he
   ·rw [hρ i hi,hnw] at he
    exact(hne i b hb' hbl he).elim
   ·rw [hρ j hj,hnw] at he
    exact(hne j c hc' hcl he.symm).elim
   ·rfl
  ·intro j c hc hcl
   rcases key j c hc with ⟨hj,hc'⟩ | ⟨rfl,rfl⟩
   ·rw [hρ j hj]; exact h.base j c hc' hcl
   ·rw [hnw]; exact hF.size
  ·intro j c hc hcl
   rcases key j c hc with ⟨hj,hc'⟩ | ⟨rfl,rfl⟩
   ·rw [hρ j hj]; exact h.priv j c hc' hcl
   ·rw [hnw]; exact h.know.size_none
  ·intro b cs t hb
   have hk1:=h.know b cs t hb
   rw [heap_alloc_old w _ (Array.getElem?_eq_some_iff.1 hk1).1]
   exact hk1
  ·intro t s hF; rw [List.length_set]; exact h.wfF t s hF
  ·intro j cs t hj s hs
   rw [List.length_set]
   rcases key j _ hj with ⟨_,hc'⟩ | ⟨rfl,hc'⟩
   ·exact h.wfH j cs t hc' s hs
   ·cases hc'
    simp at hs
    obtain⟨x,_,rfl⟩:=hs
    trivial
 refine⟨ρ',h1.put hd (by simp [inb,hk]) (fun x hx=>?_),hF.grow (by simp) rfl rfl rfl (fun k hk _=>heap_alloc_old w _ hk)⟩
 simp [cv,hnw,List.getElem?_set_self hk] at hx
 exact hx.symm
theorem run_newbox {o:Oper} {t:TypeId} {z:List Value} (ho:o.op=.alloc t) (hz:zeroOf P t=some z):(execOp a.eval o).run P w=.ok (.value (.pointer (some ⟨w.heap.size,0,none⟩))) (w.alloc (.cells z.toArray t)):=by
 unfold zeroOf at hz
 split at hz
 ·rename_i i hi
  split at hz
  ·rename_i z' hz'
   simp at hz
   subst hz
   simp [execOp,ho,Instr.alloc,zeroValue,typeInfo,hi,hz',newVar,newRow]
  ·cases hz
 ·cases hz
theorem Sat.padd (h:Sat P N B F H V ρ a w) (x:Value):Sat P N B F (H++[.f x]) V ρ a w:=by
 have key:∀ j c,(H++[Box.f x])[j]?=some c→(j<H.length∧H[j]?=some c)∨(j=H.length∧c=.f x):=by
  intro j c hc
  by_cases hj:j<H.length
  ·rw [List.getElem?_append_left hj] at hc; exact .inl ⟨hj,hc⟩
  ·rw [List.getElem?_append_right (by omega)] at hc
   have hz:j-H.length=0:=by
    rcases Nat.eq_zero_or_pos (j-H.length) with h0 | h0
    ·exact h0
    ·rw [List.getElem?_eq_none (by simp; omega)] at hc; cases hc
   rw [hz] at hc
   simp at hc
   exact .inr ⟨by omega,hc.symm⟩
 have live:∀ (j:Nat) (c:Box),(H++[Box.f x])[j]?=some c→c.live=true→H[j]?=some c:=by
  intro j c hc hl
  rcases key j c hc with ⟨_,h1⟩ | ⟨_,rfl⟩
  ·exact h1
  ·cases hl
 refine⟨h.defers,h.size,fun t s y hF hx=>h.slot t s y hF (by rw [cv_append (fun _ _=>rfl) (h.wfF t s hF)] at hx; exact hx),?_,fun i j b c hb hc hbl hcl he=>h.inj i j b c (live i b hb hbl) (live j c hc hcl) hbl hcl he,
  fun i b hb hl=>h.base i b (live i b hb hl) hl,fun i b hb hl=>h.priv i b (live i b hb hl) hl,h.know,fun t s hF=>inb_mono (by simp) (h.wfF t s hF),?_⟩
 ·intro j c hc
  rcases key j c hc with ⟨hj,hc'⟩ | ⟨rfl,rfl⟩
  ·refine(h.box j c hc').moved rfl (fun cs t hcs s hs=>.inl (cv_append (fun _ _=>rfl) ?_)) (fun _=>rfl)
   subst hcs
   exact h.wfH j cs t hc' s hs
  ·trivial
 ·intro j cs t hj s hs
  rcases key j _ hj with ⟨_,hc'⟩ | ⟨rfl,hc'⟩
  ·exact inb_mono (by simp) (h.wfH j cs t hc' s hs)
  ·cases hc'
theorem Sat.padsS:∀ (l:List Box) {H:List Box},Sat P N B F H V ρ a w→(∀ b∈l,∃ x,b=.f x)→Sat P N B F (H++l) V ρ a w
 | [],_,h,_=>by rw [List.append_nil]; exact h
 | b :: r,H,h,hl=>by
  obtain⟨x,rfl⟩:=hl b (by simp)
  have:=Sat.padsS r (h.padd x) (fun c hc=>hl c (by simp [hc]))
  simpa using this
theorem pads_f {ops:Array Oper}:∀ b∈Sx.pads ops,∃ x,b=.f x:=by
 intro b hb
 simp only [Sx.pads,List.mem_filterMap] at hb
 obtain⟨o,_,ho⟩:=hb
 split at ho
 ·split at ho
  ·exact⟨_,(Option.some.inj ho).symm⟩
  ·cases ho
 ·cases ho
def anyRsv:Box→Bool
 | .f (.tuple _)=>true
 | _=>false
theorem anyRsv_of {d:Nat} {b:Box} (h:isRsv d b=true):anyRsv b=true:=by
 unfold isRsv at h
 split at h
 ·rfl
 ·cases h
theorem Inv.start {ops:Array Oper} (h:Sat P N B F H V ρ a w) (hH:H.all (fun b=>!anyRsv b)=true):Inv ops F H F (H++pads ops):=by
 refine⟨fun _ _=>rfl,fun i cs t hi=>⟨cs,t,by rw [List.getElem?_append_left (List.getElem?_eq_some_iff.1 hi).1]; exact hi⟩,fun k hk=>?_⟩
 have hlt:H.length≤k:=by
  obtain⟨b,d,h1,h2⟩:=hk
  by_cases hl:k<H.length
  ·exfalso
   rw [List.getElem?_append_left hl] at h1
   have:=List.all_eq_true.1 hH b (List.mem_of_getElem? h1)
   rw [anyRsv_of h2] at this
   cases this
  ·omega
 have nri:∀ {s:SV},inb H.length s→nr k s:=by
  intro s hs
  cases s with
  | v x=>trivial
  | k b=>trivial
  | p i off=>have hs:i<H.length:=hs; exact(show i≠k by omega)
  | o i=>have hs:i<H.length:=hs; exact(show i≠k by omega)
 refine⟨fun t s hs=>nri (h.wfF t s hs),fun i cs t hc s hs=>?_⟩
 by_cases hi:i<H.length
 ·rw [List.getElem?_append_left hi] at hc
  exact nri (h.wfH i cs t hc s hs)
 ·rw [List.getElem?_append_right (by omega)] at hc
  obtain⟨x,hx⟩:=pads_f _ (List.mem_of_getElem? hc)
  cases hx
theorem cellsOf_nr {k:Nat} {s:SV} {l:List SV} (hs:nr k s) (hl:cellsOf H s=some l):∀ u∈l,nr k u:=by
 intro u hu
 cases s with
 | v y =>
  simp only [cellsOf] at hl
  split at hl
  ·simp at hl; subst hl; simp at hu; obtain⟨_,_,rfl⟩:=hu; trivial
  ·cases hl
 | k b=>simp [cellsOf] at hl; subst hl; simp at hu; subst hu; trivial
 | p i off =>
  simp only [cellsOf] at hl
  split at hl
  ·simp at hl; subst hl; simp at hu; subst hu; exact hs
  ·cases hl
 | o i =>
  simp only [cellsOf] at hl
  split at hl
  ·simp at hl; subst hl; simp at hu; subst hu; exact hs
  ·cases hl
theorem NoR.app {k:Nat} (h:NoR k F H) {b:Box} (hb:∀ cs t,b=.c cs t→∀ s∈cs,nr k s):NoR k F (H++[b]):=by
 refine⟨h.nF,fun i cs t hc s hs=>?_⟩
 by_cases hi:i<H.length
 ·rw [List.getElem?_append_left hi] at hc
  exact h.nH i cs t hc s hs
 ·rw [List.getElem?_append_right (by omega)] at hc
  rcases Nat.eq_zero_or_pos (i-H.length) with h0 | h0
  ·rw [h0] at hc
   simp at hc
   exact hb cs t hc s hs
  ·rw [List.getElem?_eq_none (by simp; omega)] at hc; cases hc
theorem NoR.setB {k i:Nat} (h:NoR k F H) {b:Box} (hb:∀ cs t,b=.c cs t→∀ s∈cs,nr k s):NoR k F (H.set i b):=by
 refine⟨h.nF,fun j cs t hc s hs=>?_⟩
 by_cases e:j=i
 ·subst e
  by_cases hj:j<H.length
  ·rw [List.getElem?_set_self hj] at hc
   exact hb cs t (Option.some.inj hc) s hs
  ·rw [List.getElem?_eq_none (by simpa using hj)] at hc; cases hc
 ·rw [List.getElem?_set_ne (Ne.symm e)] at hc
  exact h.nH j cs t hc s hs
theorem isC_app {b:Box} (h:∀ (i:Nat) cs t,H0[i]?=some (.c cs t)→∃ cs' t',H[i]?=some (.c cs' t')):∀ (i:Nat) cs t,H0[i]?=some (.c cs t)→∃ cs' t',(H++[b])[i]?=some (.c cs' t'):=by
 intro i cs t hi
 obtain⟨cs',t',h1⟩:=h i cs t hi
 exact⟨cs',t',by rw [List.getElem?_append_left (List.getElem?_eq_some_iff.1 h1).1]; exact h1⟩
theorem isC_set {k:Nat} {b:Box} (h:∀ (i:Nat) cs t,H0[i]?=some (.c cs t)→∃ cs' t',H[i]?=some (.c cs' t')) (hb:(∃ cs t,b=.c cs t)∨∀ cs t,H[k]?≠some (.c cs t)):∀ (i:Nat) cs t,H0[i]?=some (.c cs t)→∃ cs' t',(H.set k b)[i]?=some (.c cs' t'):=by
 intro i cs t hi
 obtain⟨cs',t',h1⟩:=h i cs t hi
 by_cases e:i=k
 ·subst e
  rcases hb with ⟨cs2,t2,rfl⟩ | hb
  ·exact⟨cs2,t2,by rw [List.getElem?_set_self (List.getElem?_eq_some_iff.1 h1).1]⟩
  ·exact(hb _ _ h1).elim
 ·exact⟨cs',t',by rw [List.getElem?_set_ne (Ne.symm e)]; exact h1⟩
theorem Inv.putv {ops:Array Oper} {i:Nat} {o:Oper} {x:Value} (h:Inv ops F0 H0 F H) (ho:ops[i]?=some o):Inv ops F0 H0 (putF F o.dst (.v x)) H:=h.put ho (fun _ _=>trivial)
theorem Inv.appB {ops:Array Oper} {i:Nat} {o:Oper} {s:SV} (h:Inv ops F0 H0 F H) (ho:ops[i]?=some o) {b:Box} (hr:∀ d,isRsv d b=false) (hb:∀ k,k<H.length→∀ cs t,b=.c cs t→∀ s∈cs,nr k s)
  (hs:∀ k,k<H.length→nr k s):Inv ops F0 H0 (putF F o.dst s) (H++[b]):=by
 have h1:=h.put ho (s:=s) (fun k hk=>hs k hk.lt)
 refine⟨h1.agree,isC_app h.isC,fun k hk=>?_⟩
 have hk:=hk.of_app hr
 exact(h1.pend k hk).app (hb k hk.lt)
theorem Inv.setL {ops:Array Oper} {i j:Nat} {o:Oper} {s:SV} (h:Inv ops F0 H0 F H) (ho:ops[i]?=some o) {b b':Box} (hj:H[j]?=some b) (hr:∀ d,isRsv d b'=false) (hb:∀ k,Rsv H k→∀ cs t,b'=.c cs t→∀ s∈cs,nr k s)
  (hc:(∃ cs t,b'=.c cs t)∨∀ cs t,b≠.c cs t) (hs:∀ k,Rsv H k→nr k s):Inv ops F0 H0 (putF F o.dst s) (H.set j b'):=by
 have h1:=h.put ho (s:=s) hs
 refine⟨h1.agree,isC_set h.isC (hc.imp id fun hc cs t e=>hc cs t (by rw [hj] at e; exact Option.some.inj e)),fun k hk=>?_⟩
 obtain⟨_,hk⟩:=hk.of_set hr
 exact(h1.pend k hk).setB (hb k hk)
theorem Inv.eff {ops:Array Oper} {i:Nat} {o:Oper} {F':Fm} {H':List Box} {V':Know} (hI:Inv ops F0 H0 F H) (ho:ops[i]?=some o) (h:Eff P o F H V F' H' V'):Inv ops F0 H0 F' H':=by
 cases h with
 | box h1 h2=>exact hI.appB ho (fun _=>rfl) (fun k hk cs t e s hs=>by cases e; simp at hs; obtain⟨_,_,rfl⟩:=hs; trivial) (fun k hk=>(show H.length≠k by omega))
 | alloc h1 h2=>exact hI.appB ho (fun _=>rfl) (fun k hk cs t e s hs=>by cases e; simp at hs; obtain⟨_,_,rfl⟩:=hs; trivial) (fun k hk=>(show H.length≠k by omega))
 | stC h1 h2 h3 h4 h5 h6 h7 =>
  refine hI.setL ho h3 (fun _=>rfl) (fun k hk cs t e s hs=>?_) (.inl ⟨_,_,rfl⟩) (fun _ _=>trivial)
  cases e
  simp only [setl,List.mem_append] at hs
  rcases hs with (hs | hs) | hs
  ·exact(hI.pend k hk).nH _ _ _ h3 s (List.mem_of_mem_take hs)
  ·exact cellsOf_nr ((hI.pend k hk).ev h4) h5 s hs
  ·exact(hI.pend k hk).nH _ _ _ h3 s (List.mem_of_mem_drop hs)
 | stA h1 h2 h3=>exact hI.setL ho h3 (fun _=>rfl) (fun k hk cs t e=>by cases e) (.inr (fun _ _ e=>by cases e)) (fun _ _=>trivial)
 | stV=>exact hI.put ho (fun _ _=>trivial)
theorem Inv.mk' {ops:Array Oper} {i:Nat} {o:Oper} {F':Fm} {H':List Box} {V':Know} (hI:Inv ops F0 H0 F H) (ho:ops[i]?=some o) (h:Mk P o F H V F' H' V'):Inv ops F0 H0 F' H':=by
 cases h with
 | bs=>exact hI.appB ho (fun _=>rfl) (fun k hk cs t e=>by cases e) (fun k hk=>(show H.length≠k by omega))
 | mk=>exact hI.appB ho (fun _=>rfl) (fun k hk cs t e=>by cases e) (fun k hk=>(show H.length≠k by omega))
 | @ap c s x t e i z j n xs sx ys m h1 h2 h3 h4 h5 h6 h7 h8 h9 h10 hj =>
  have g1:Inv ops F0 H0 F (H.set j .x):=by
   refine⟨hI.agree,isC_set hI.isC (.inr fun cs t e=>by rw [hj] at e; cases e),fun k hk=>?_⟩
   exact(hI.pend k (hk.of_set (fun _=>rfl)).2).setB (fun cs t e=>by cases e)
  have:=g1.appB ho (s:=.o H.length) (b:=.a (n+m) (xs++ys) e) (fun _=>rfl) (fun k hk cs t e=>by cases e) (fun k hk=>by
   rw [List.length_set] at hk
   exact(show H.length≠k by omega))
  simpa using this
 | apnil=>exact hI.appB ho (fun _=>rfl) (fun k hk cs t e=>by cases e) (fun k hk=>(show H.length≠k by omega))
 | apzero=>exact hI.put ho (fun _ _=>trivial)
 | cp h1 h2 h3 h4 h5 h6 h7 h8 hj=>exact hI.setL ho hj (fun _=>rfl) (fun k hk cs t e=>by cases e) (.inr (fun _ _ e=>by cases e)) (fun _ _=>trivial)
theorem Inv.alx {ops:Array Oper} {i:Nat} {o:Oper} {k:Nat} {z:List Value} {t:TypeId} (hI:Inv ops F0 H0 F H) (ho:ops[i]?=some o):Inv ops F0 H0 (putF F o.dst (.p k 0)) (H.set k (.c (z.map .v) t)):=by
 refine⟨fun u hu=>?_,isC_set hI.isC (.inl ⟨_,_,rfl⟩),fun m hm=>?_⟩
 ·rw [putF_other (fun e=>by rw [dst_mem ho e] at hu; cases hu)]
  exact hI.agree u hu
 ·obtain⟨hne,hm⟩:=hm.of_set (fun _=>rfl)
  exact(hI.pend m hm).fill (Ne.symm hne)
end Sx
namespace Sx
open Go
variable {P:Program} {N:Nat} {w0:World} {F:Fm} {H:List Box} {Vs V V0:Know} {ρ:Nat→Nat × Nat} {a:Act} {w:World}
theorem maskOf_spec {acc:List Nat} {o:Oper} {j:Nat} (h:(maskOf acc o).testBit j=true):∃ e∈o.after.toList,Region.binds .any e=true∧(e.on=j∨(acc.getD e.on 0).testBit j=true):=by
 unfold maskOf at h
 have key:∀ (l:List Edge) (s:Nat),(l.foldl (fun s e=>if Region.binds .any e then s ||| 2 ^ e.on ||| acc.getD e.on 0 else s) s).testBit j=true →
   s.testBit j=true∨∃ e∈l,Region.binds .any e=true∧(e.on=j∨(acc.getD e.on 0).testBit j=true):=by
  intro l
  induction l with
  | nil=>intro s h; exact .inl h
  | cons e l ih =>
   intro s h
   simp only [List.foldl_cons] at h
   rcases ih _ h with h1 | ⟨e',he',h1⟩
   ·split at h1
    ·rename_i hb
     simp only [Nat.testBit_or,Nat.testBit_two_pow,Bool.or_eq_true,decide_eq_true_eq] at h1
     rcases h1 with (h1 | h1) | h1
     ·exact .inl h1
     ·exact .inr ⟨e,by simp,hb,.inl h1⟩
     ·exact .inr ⟨e,by simp,hb,.inr h1⟩
    ·exact .inl h1
   ·exact .inr ⟨e',by simp [he'],h1⟩
 rcases key _ _ h with h1 | h1
 ·simp at h1
 ·exact h1
theorem masks_append (l:List Oper) (o:Oper):masks (l++[o])=masks l++[maskOf (masks l) o]:=by simp [masks]
theorem length_masks (l:List Oper):(masks l).length=l.length:=by
 have:∀ (l:List Oper) (acc:List Nat),(l.foldl (fun acc o=>acc++[maskOf acc o]) acc).length=acc.length+l.length:=by
  intro l
  induction l with
  | nil=>intro acc; simp
  | cons o l ih=>intro acc; simp only [List.foldl_cons,ih]; simp; omega
 simp [masks,this]
theorem masks_prefix (l r:List Oper) (i:Nat) (h:i<l.length):(masks (l++r)).getD i 0=(masks l).getD i 0:=by
 induction r generalizing l with
 | nil=>simp
 | cons o r ih =>
  have:=ih (l++[o]) (by simp; omega)
  rw [List.append_assoc] at this
  simp only [List.cons_append,List.nil_append] at this
  rw [this,masks_append]
  simp only [List.getD_eq_getElem?_getD]
  rw [List.getElem?_append_left (by rw [length_masks]; exact h)]
theorem masks_at (l:List Oper) (i:Nat) (o:Oper) (h:l[i]?=some o):(masks l).getD i 0=maskOf (masks (l.take i)) o:=by
 have hlt:=(List.getElem?_eq_some_iff.1 h).1
 have e:l=l.take i++[o]++l.drop (i+1):=by
  have h2:=(List.getElem?_eq_some_iff.1 h).2
  rw [List.append_assoc,List.singleton_append,← h2,← List.drop_eq_getElem_cons hlt,List.take_append_drop]
 have hlen:(l.take i).length=i:=by simp; omega
 conv=>lhs; rw [e]
 rw [masks_prefix _ _ _ (by simp; omega),masks_append]
 simp only [List.getD_eq_getElem?_getD]
 rw [List.getElem?_append_right (by rw [length_masks,hlen]; exact Nat.le_refl _),length_masks,hlen]
 simp
theorem masks_listed {ops:Array Oper} {S:Nat→Prop} (back:∀ (i:Nat) (o:Oper),ops[i]?=some o→∀ e∈o.after.toList,Region.binds .any e=true→e.on<i)
  (closed:∀ (i:Nat) (o:Oper),S i→ops[i]?=some o→∀ e∈o.after.toList,Region.binds .any e=true→S e.on) :
  ∀ (i:Nat) (o:Oper) (j:Nat),ops[i]?=some o→(∀ e∈o.after.toList,Region.binds .any e=true→S e.on)→((masks ops.toList).getD i 0).testBit j=true→S j:=by
 intro i
 induction i using Nat.strongRecOn with
 | _ i ih =>
  intro o j ho hS hm
  rw [masks_at _ i o (by simpa using ho)] at hm
  obtain⟨e,he,hb,h1⟩:=maskOf_spec hm
  rcases h1 with h1 | h1
  ·subst h1; exact hS e he hb
  ·have hlt:=back i o ho e he hb
   have hi:=(Array.getElem?_eq_some_iff.1 ho).1
   have hx:∃ o',ops[e.on]?=some o':=⟨ops[e.on],by rw [Array.getElem?_eq_getElem (by omega)]⟩
   obtain⟨o',ho'⟩:=hx
   have hpre:(masks (ops.toList.take i)).getD e.on 0=(masks ops.toList).getD e.on 0:=by
    have:=masks_prefix (ops.toList.take i) (ops.toList.drop i) e.on (by simp; omega)
    rw [List.take_append_drop] at this
    exact this.symm
   rw [hpre] at h1
   exact ih e.on hlt o' j ho' (closed e.on o' (hS e he hb) ho') h1
def freeB (F0:Fm) (H0:List Box) (ops:Array Oper) (oj oi:Oper):Bool:=(oj.apart ops oi && kindR ops oj != 2 && kindR ops oi != 2 && (kindR ops oj == 0 || kindR ops oi == 0 || (kindR ops oj == 3 && kindR ops oi == 3) || (kindR ops oj == 1 && kindR ops oi == 3))) || (isAl oi && oj.apart ops oi && (kindR ops oj != 2 || isAl oj)) || (isStore oi && oj.apart ops oi && (isMv oj || isLd F0 H0 (dstsOf ops) oj oi)) || (isNew oi && !isX ops oi && oj.apart ops oi && kindR ops oj == 0)
def pairOk (F0:Fm) (H0:List Box) (ops:Array Oper) (m:Nat) (i:Nat) (oi:Oper):Nat→List Oper→Bool
 | _,[]=>true
 | j,oj :: r=>(i≤j || ((m.testBit j || freeB F0 H0 ops oj oi) && !(isStore oj && isLoad oi))) && pairOk F0 H0 ops m i oi (j+1) r
def rowsOk (F0:Fm) (H0:List Box) (ops:Array Oper) (ms:List Nat):Nat→List Oper→Bool
 | _,[]=>true
 | i,oi :: r=>oi.after.toList.all (fun e=>!Region.binds .any e || e.on<i) && pairOk F0 H0 ops (ms.getD i 0) i oi 0 ops.toList && rowsOk F0 H0 ops ms (i+1) r
def drawOk (F0:Fm) (H0:List Box) (ops:Array Oper):Bool:=H0.all (fun b=>!anyRsv b) && rowsOk F0 H0 ops (masks ops.toList) 0 ops.toList
theorem pairOk_spec {F0:Fm} {H0:List Box} {ops:Array Oper} {m i:Nat} {oi:Oper}:∀ {l:List Oper} {j:Nat},pairOk F0 H0 ops m i oi j l=true→∀ (k:Nat) (oj:Oper),l[k]?=some oj→j+k<i →
  (m.testBit (j+k)=true∨freeB F0 H0 ops oj oi=true)∧(isStore oj=true→isLoad oi=false)
 | [],_,_,k,oj,hk,_=>by simp at hk
 | o :: r,j,h,k,oj,hk,hlt=>by
  simp only [pairOk,Bool.and_eq_true] at h
  cases k with
  | zero =>
   simp at hk
   subst hk
   have h1:=h.1
   simp only [Nat.add_zero] at hlt ⊢
   simp only [Bool.or_eq_true,decide_eq_true_eq,Bool.and_eq_true,Bool.not_eq_true',Bool.and_eq_false_iff] at h1
   rcases h1 with h1 | ⟨h1,h2⟩
   ·omega
   ·refine⟨h1,fun hs=>?_⟩
    rcases h2 with h2 | h2
    ·rw [h2] at hs; cases hs
    ·exact h2
  | succ k =>
   have:=pairOk_spec h.2 k oj (by simpa using hk) (by omega)
   rwa [show j+1+k=j+(k+1) from by omega] at this
theorem rowsOk_spec {F0:Fm} {H0:List Box} {ops:Array Oper} {ms:List Nat}:∀ {l:List Oper} {i:Nat},rowsOk F0 H0 ops ms i l=true→∀ (k:Nat) (o:Oper),l[k]?=some o →
  (∀ e∈o.after.toList,Region.binds .any e=true→e.on<i+k)∧pairOk F0 H0 ops (ms.getD (i+k) 0) (i+k) o 0 ops.toList=true
 | [],_,_,k,o,hk=>by simp at hk
 | o' :: r,i,h,k,o,hk=>by
  simp only [rowsOk,Bool.and_eq_true] at h
  cases k with
  | zero =>
   simp at hk
   subst hk
   refine⟨fun e he hb=>?_,h.1.2⟩
   have:=(List.all_eq_true.1 h.1.1) e he
   simp only [hb,Bool.not_true,Bool.false_or,decide_eq_true_eq] at this
   simpa using this
  | succ k =>
   have:=rowsOk_spec h.2 k o (by simpa using hk)
   rwa [show i+1+k=i+(k+1) from by omega] at this
theorem al_store {o:Oper} (h:isAl o=true) (k:isStore o=true):False:=by
 unfold isAl at h
 split at h
 ·rename_i ho; simp [isStore,ho] at k
 ·cases h
theorem al_new {o:Oper} (h:isAl o=true) (k:isNew o=true):False:=by
 unfold isAl at h
 split at h
 ·rename_i ho; simp [isNew,ho] at k
 ·cases h
theorem new_kind {ops:Array Oper} {o:Oper} (h:isNew o=true) (hx:isX ops o=false):kindR ops o=2:=by
 unfold kindR
 rw [hx]
 unfold isNew at h
 split at h
 ·rename_i ho; simp [kind,ho]
 ·cases h
theorem new_noload {o:Oper} (h:isNew o=true):isLoad o=false:=by
 unfold isNew at h
 split at h
 ·rename_i ho; simp [isLoad,ho]
 ·cases h
theorem store_kind {ops:Array Oper} {o:Oper} (h:isStore o=true):kindR ops o=2:=by
 unfold isStore at h
 split at h
 ·rename_i ho; simp [kindR,isX,isXA,kind,ho]
 ·cases h
theorem store_noload {o:Oper} (h:isStore o=true):isLoad o=false:=by
 unfold isStore at h
 split at h
 ·rename_i ho; simp [isLoad,ho]
 ·cases h
theorem mv_noload {o:Oper} (hm:isMv o=true):isLoad o=false:=by
 unfold isMv at hm
 split at hm <;> rename_i ho
 all_goals first | (exact absurd hm (by decide)) | (simp [isLoad,ho])
theorem Sat.drew (h:Sat P N w0.heap.size F H V ρ a w):Sat P N w0.heap.size F H V ρ a { w with drawn:=w.drawn+1 } :=
 ⟨h.defers,h.size,h.slot,fun i b hb=>(h.box i b hb).of_heap rfl (fun _=>rfl),h.inj,h.base,h.priv,h.know,h.wfF,h.wfH⟩
theorem Fr.drew (h:Fr Vs V w0 w):Fr Vs V w0 { w with drawn:=w.drawn+1 }:=⟨h.os,h.tape,h.output,h.size,h.keep,h.dom⟩
structure Rem (ops:Array Oper) (listed:Array Bool) (L:List Nat):Prop where
 size:listed.size=ops.size
 sorted:L.Pairwise (·<·)
 mem:∀ i,i∈L↔i<ops.size∧listed.getD i true=false
 closed:∀ (i:Nat) (o:Oper),listed.getD i true=true→ops[i]?=some o→∀ e∈o.after.toList,Region.binds .any e=true→listed.getD e.on true=true
theorem getD_setIfInBounds (l:Array Bool) (i k:Nat) (hi:i<l.size):(l.setIfInBounds i true).getD k true=if k=i then true else l.getD k true:=by
 simp only [Array.getD_eq_getD_getElem?]
 by_cases e:k=i
 ·subst e; simp [hi]
 ·rw [Array.getElem?_setIfInBounds_ne (fun h=>e h.symm),if_neg e]
theorem any_sound {F0:Fm} {H0:List Box} {ops:Array Oper} {K:Kt} (hok:rowsOk F0 H0 ops (masks ops.toList) 0 ops.toList=true) (hN:∀ (i:Nat) (o:Oper) (d:Nat),ops[i]?=some o→o.dst=some d→d<N)
  {Q:Exit→Act→World→Prop} (hQ:∀ F H V ρ a w,Sat P N w0.heap.size F H V ρ a w→Fr Vs V w0 w→K F H V→Q .normal a w) :
  ∀ (n:Nat) (L:List Nat) (listed:Array Bool) (F:Fm) (H:List Box) (V:Know) (ρ:Nat→Nat × Nat) (a:Act) (w:World),L.length=n→Rem ops listed L→Inv ops F0 H0 F H→R P ops true V0 K L F H V →
   (V0.le V∨∀ (i:Nat) (o:Oper),i∈L→ops[i]?=some o→isLoad o=false)→Sat P N w0.heap.size F H V ρ a w→Fr Vs V w0 w→wpAny P .any ops Q n listed a w:=by
 have hrow:∀ (i:Nat) (o:Oper),ops[i]?=some o→(∀ e∈o.after.toList,Region.binds .any e=true→e.on<i)∧pairOk F0 H0 ops ((masks ops.toList).getD i 0) i o 0 ops.toList=true:=by
  intro i o ho
  have:=rowsOk_spec hok i o (by simpa using ho)
  simpa using this
 intro n
 induction n with
 | zero =>
  intro L listed F H V ρ a w hL hrem _ hR _ hS hF
  have:L=[]:=List.eq_nil_of_length_eq_zero hL
  subst this
  refine⟨?_,?_⟩
  ·apply List.eq_nil_iff_forall_not_mem.2
   intro i hi
   simp only [Region.ready,List.mem_filter,List.mem_range,Bool.and_eq_true,Bool.not_eq_true'] at hi
   have:=(hrem.mem i).2 ⟨hi.1,hi.2.1⟩
   cases this
  ·cases hR with
   | nil hk=>exact hQ _ _ _ _ _ _ hS hF hk
   | frz hd _ _=>cases hd
   | esc hd _ _ _=>cases hd
 | succ n ih =>
  intro L listed F H V ρ a w hL hrem hI hR hV0 hS hF
  refine⟨fun hnil=>?_,fun i hi=>?_⟩
  · -- the first of the rest is ready
   exfalso
   match L,hL with
   | i :: L',_ =>
    have hi:=(hrem.mem i).1 (by simp)
    obtain⟨o,ho⟩:∃ o,ops[i]?=some o:=⟨ops[i],by rw [Array.getElem?_eq_getElem hi.1]⟩
    have hin:i∈Region.ready .any ops listed:=by
     simp only [Region.ready,List.mem_filter,List.mem_range,Bool.and_eq_true,Bool.not_eq_true']
     refine⟨hi.1,hi.2,?_⟩
     simp only [ho,Option.map_some,Option.getD_some,Array.all_eq_true']
     intro e he
     by_cases hb:Region.binds .any e=true
     ·have hlt:=(hrow i o ho).1 e (by simpa using he) hb
      cases hl:listed.getD e.on true with
      | true =>
       have:listed.getD e.on false=true:=by
        simp only [Array.getD_eq_getD_getElem?] at hl ⊢
        rw [Array.getElem?_eq_getElem (by rw [hrem.size]; omega)] at hl ⊢
        simpa using hl
       simp [this]
      | false =>
       have hmem:=(hrem.mem e.on).2 ⟨by omega,hl⟩
       have hs:=hrem.sorted
       simp only [List.pairwise_cons] at hs
       rcases List.mem_cons.1 hmem with h1 | h1
       ·omega
       ·have:=hs.1 _ h1; omega
     ·simp [hb]
    rw [hnil] at hin
    cases hin
  ·simp only [Region.ready,List.mem_filter,List.mem_range,Bool.and_eq_true,Bool.not_eq_true'] at hi
   obtain⟨hlt,hnl,hall⟩:=hi
   obtain⟨o,ho⟩:∃ o,ops[i]?=some o:=⟨ops[i],by rw [Array.getElem?_eq_getElem hlt]⟩
   have hedges:∀ e∈o.after.toList,Region.binds .any e=true→listed.getD e.on true=true:=by
    intro e he hb
    simp only [ho,Option.map_some,Option.getD_some,Array.all_eq_true'] at hall
    have:=hall e (by simpa using he)
    simp only [hb,Bool.not_true,Bool.false_or] at this
    simp only [Array.getD_eq_getD_getElem?] at this ⊢
    cases hx:listed[e.on]? with
    | none=>rfl
    | some y=>rw [hx] at this; simpa using this
   have himem:=(hrem.mem i).2 ⟨hlt,hnl⟩
   obtain⟨A,C,rfl⟩:=List.append_of_mem himem
   have hsorted:=hrem.sorted
   rw [List.pairwise_append] at hsorted
   have hbefore:∀ j∈A,j<i:=fun j hj=>hsorted.2.2 j hj i (by simp)
   -- those ahead of it that have not come up are free of it
   have hfree:∀ j∈A,(free ops j i∨(isAl o=true∧freeA ops j i)∨(isStore o=true∧freeS ops F0 H0 j i)∨((isNew o=true∧isX ops o=false)∧freeN ops j i))∧(∀ oj,ops[j]?=some oj→isStore oj=true→isLoad o=false):=by
    intro j hj
    have hji:=hbefore j hj
    have hjm:=(hrem.mem j).1 (by simp [hj])
    obtain⟨oj,hoj⟩:∃ oj,ops[j]?=some oj:=⟨ops[j],by rw [Array.getElem?_eq_getElem hjm.1]⟩
    have hp:=pairOk_spec (hrow i o ho).2 j oj (by simpa using hoj) (by omega)
    simp only [Nat.zero_add] at hp
    refine⟨?_,fun oj' h1 h2=>by rw [hoj] at h1; cases h1; exact hp.2 h2⟩
    rcases hp.1 with h1 | h1
    ·exfalso
     have:=masks_listed (S:=fun k=>listed.getD k true=true) (fun i o ho=>(hrow i o ho).1) (fun k o' hk ho'=>hrem.closed k o' hk ho') i o j ho hedges h1
     rw [hjm.2] at this
     cases this
    ·simp only [freeB,Bool.and_eq_true,bne_iff_ne,ne_eq,Bool.or_eq_true,beq_iff_eq,Bool.not_eq_true'] at h1
     rcases h1 with ((h1 | h1) | h1) | h1
     ·left
      refine⟨oj,o,hoj,ho,h1.1.1.1,h1.1.1.2,h1.1.2,?_⟩
      rcases h1.2 with ((h2 | h2) | h2) | h2
      ·exact .inl h2
      ·exact .inr (.inl h2)
      ·exact .inr (.inr (.inl h2))
      ·exact .inr (.inr (.inr h2))
     ·exact .inr (.inl ⟨h1.1.1,oj,o,hoj,ho,h1.1.2,h1.2⟩)
     ·exact .inr (.inr (.inl ⟨h1.1.1,oj,o,hoj,ho,h1.1.2,h1.2⟩))
     ·exact .inr (.inr (.inr ⟨h1.1.1,oj,o,hoj,ho,h1.1.2,h1.2⟩))
   have hrem':Rem ops (listed.setIfInBounds i true) (A++C):=by
    have hsz:i<listed.size:=by rw [hrem.size]; exact hlt
    refine⟨by simp [hrem.size],?_,fun k=>?_,fun k o' hk ho' e he hb=>?_⟩
    ·rw [List.pairwise_append]
     have h2:=hsorted.2.1
     simp only [List.pairwise_cons] at h2
     exact⟨hsorted.1,h2.2,fun x hx y hy=>hsorted.2.2 x hx y (by simp [hy])⟩
    ·rw [getD_setIfInBounds _ _ _ hsz]
     by_cases e:k=i
     ·subst e
      simp only [if_true,Bool.true_eq_false,and_false,iff_false]
      intro hk
      rcases List.mem_append.1 hk with h1 | h1
      ·have:=hbefore k h1; omega
      ·have h2:=hsorted.2.1
       simp only [List.pairwise_cons] at h2
       have:=h2.1 k h1; omega
     ·rw [if_neg e,← hrem.mem k]
      simp [e]
    ·rw [getD_setIfInBounds _ _ _ hsz] at hk ⊢
     by_cases e1:k=i
     ·subst e1
      rw [ho] at ho'
      cases ho'
      have:=hedges e he hb
      split
      ·rfl
      ·exact this
     ·rw [if_neg e1] at hk
      have:=hrem.closed k o' hk ho' e he hb
      split
      ·rfl
      ·exact this
   have hlen:(A++C).length=n:=by simp at hL ⊢; omega
   have hV0':V0.le V∨∀ (k:Nat) (ok:Oper),k∈A++C→ops[k]?=some ok→isLoad ok=false:=by
    rcases hV0 with h1 | h1
    ·exact .inl h1
    ·exact .inr fun k ok hk=>h1 k ok (by simp at hk ⊢; rcases hk with h2 | h2 <;> simp [h2])
   by_cases hal:isAl o=true
   · -- a new box,made ahead of the rest
    have hAl:∀ j∈A,freeA ops j i:=by
     intro j hj
     rcases(hfree j hj).1 with ⟨oj,oi',h1,h2,h3,h4,_⟩ | ⟨_,h1⟩ | ⟨h1,_⟩ | ⟨h1,_⟩
     ·exact⟨oj,oi',h1,h2,h3,.inl h4⟩
     ·exact h1
     ·exact(al_store hal h1).elim
     ·exact(al_new hal h1.1).elim
    unfold wpOp
    rw [ho]
    simp only
    rcases pullA ho hal (fun d k _ hk=>hI.pend k (rsv_Rsv hk)) hR ⟨w,hS.know⟩ hAl with ⟨hw,hr⟩ | ⟨hw,t,z,d,k,hop,hz,hdd,hk,hr⟩
    ·rw [want_sound hS hw]
     exact ih _ _ _ _ _ ρ _ w hlen hrem' (hI.putv ho) hr hV0' (hS.put (s:=.v undef) (fun d hd=>hN _ _ d ho hd) trivial (fun x hx=>by simp [cv] at hx; exact hx.symm)) hF
    ·rw [want_sound hS hw]
     simp only [if_true]
     left
     obtain⟨ρ',hS',hF'⟩:=hS.fill hF (fun d hd=>hN _ _ d ho hd) (rsv_Rsv hk).lt (hI.pend k (rsv_Rsv hk)) z t
     simp only [Oper.wp,run_newbox (P:=P) (a:=a) (w:=w) hop hz,Oper.upon_value]
     exact ih _ _ _ _ _ ρ' _ _ hlen hrem' (hI.alx ho) hr hV0' hS' hF'
   by_cases hsto:isStore o=true
   · -- a store,ahead of what looks at slots alone
    have hSt:∀ j∈A,freeS ops F0 H0 j i:=by
     intro j hj
     rcases(hfree j hj).1 with ⟨oj,oi',h1,h2,h3,h4,h5,_⟩ | ⟨h1,_⟩ | ⟨_,h1⟩ | ⟨h0,h1⟩
     ·rw [ho] at h2; cases h2; exact(h5 (store_kind hsto)).elim
     ·exact(hal h1).elim
     ·exact h1
     ·exfalso
      obtain⟨h0,_⟩:=h0
      unfold isStore at hsto
      split at hsto
      ·rename_i hop; simp [isNew,hop] at h0
      ·cases hsto
    unfold wpOp
    rw [ho]
    simp only
    rcases pullS ho hsto hI hR hSt with ⟨hw,hr⟩ | ⟨hw,hsel,s,hs,hr⟩ | ⟨hw,H',V',he,hr⟩
    ·rw [want_sound hS hw]
     exact ih _ _ _ _ _ ρ _ w hlen hrem' (hI.putv ho) hr hV0' (hS.put (s:=.v undef) (fun d hd=>hN _ _ d ho hd) trivial (fun x hx=>by simp [cv] at hx; exact hx.symm)) hF
    ·rw [want_sound hS hw]
     simp only [if_true]
     left
     have hst:∃ y,(execOp a.eval o).run P w=.ok (.value y) w∧∀ x,cv ρ H s=some x→x=y:=by
      rw [stab_noload (V1:=V) (store_noload hsto)] at hs
      exact stab_sound hS hS.know hsel hs
     obtain⟨y,hy,hy2⟩:=hst
     simp only [Oper.wp,hy,Oper.upon_value]
     exact ih _ _ _ _ _ ρ _ w hlen hrem' (hI.put ho (fun k hk=>stab_nr (hI.pend k hk) hs)) hr hV0' (hS.put (fun d hd=>hN _ _ d ho hd) (stab_inb hS hs) hy2) hF
    ·rw [want_sound hS hw]
     simp only [if_true]
     left
     have hst:V0.le V'∨∀ (k:Nat) (ok:Oper),k∈A++C→ops[k]?=some ok→isLoad ok=false:=by
      by_cases hld:∃ b,stAt F0 H0 (dstsOf ops) o=some b
      ·obtain⟨b,hb⟩:=hld
       rw [(he.other hI hb).1]
       exact hV0'
      right
      intro k ok hk hok'
      rcases List.mem_append.1 hk with hk | hk
      ·obtain⟨oj,oi',h1,h2,_,h4⟩:=hSt k hk
       rw [hok'] at h1; cases h1
       rw [ho] at h2; cases h2
       rcases h4 with h4 | h4
       ·exact mv_noload h4
       ·obtain⟨_,b,_,hb,_⟩:=isLd_load h4
        exact(hld ⟨b,hb⟩).elim
      ·have h2:=hsorted.2.1
       simp only [List.pairwise_cons] at h2
       have hik:=h2.1 k hk
       have hp:=pairOk_spec (hrow k ok hok').2 i o (by simpa using ho) (by omega)
       exact hp.2 hsto
     obtain⟨y,ρ',w',hrun,hS',hF'⟩:=eff_sound he hS hF (fun d hd=>hN _ _ d ho hd)
     rcases hrun with hrun | ⟨hrun,rfl⟩
     ·simp only [Oper.wp,hrun,Oper.upon_value]
      exact ih _ _ _ _ _ ρ' _ w' hlen hrem' (hI.eff ho he) hr hst hS' hF'
     ·simp only [Oper.wp,hrun,Oper.upon_skip]
      exact ih _ _ _ _ _ ρ' _ w' hlen hrem' (hI.eff ho he) hr hst hS' hF'
   by_cases hnw:isNew o=true∧isX ops o=false
   · -- a new array,ahead of what looks at slots alone
    have hSt:∀ j∈A,freeN ops j i:=by
     intro j hj
     rcases(hfree j hj).1 with ⟨oj,oi',h1,h2,h3,h4,h5,_⟩ | ⟨h1,_⟩ | ⟨_,h1⟩ | ⟨_,h1⟩
     ·rw [ho] at h2; cases h2; exact(h5 (new_kind hnw.1 hnw.2)).elim
     ·exact(hal h1).elim
     ·rename_i h0; exact(hsto h0).elim
     ·exact h1
    unfold wpOp
    rw [ho]
    simp only
    rcases pullB ho hnw.1 hnw.2 hS.wfS hR hSt with ⟨hw,hr⟩ | ⟨hw,hsel,s,hs,hr⟩ | ⟨hw,b,he,hr⟩
    ·rw [want_sound hS hw]
     exact ih _ _ _ _ _ ρ _ w hlen hrem' (hI.putv ho) hr hV0' (hS.put (s:=.v undef) (fun d hd=>hN _ _ d ho hd) trivial (fun x hx=>by simp [cv] at hx; exact hx.symm)) hF
    ·rw [want_sound hS hw]
     simp only [if_true]
     left
     have hst:∃ y,(execOp a.eval o).run P w=.ok (.value y) w∧∀ x,cv ρ H s=some x→x=y:=by
      rw [stab_noload (V1:=V) (new_noload hnw.1)] at hs
      exact stab_sound hS hS.know hsel hs
     obtain⟨y,hy,hy2⟩:=hst
     simp only [Oper.wp,hy,Oper.upon_value]
     exact ih _ _ _ _ _ ρ _ w hlen hrem' (hI.put ho (fun k hk=>stab_nr (hI.pend k hk) hs)) hr hV0' (hS.put (fun d hd=>hN _ _ d ho hd) (stab_inb hS hs) hy2) hF
    ·rw [want_sound hS hw]
     simp only [if_true]
     left
     obtain⟨y,ρ',w',hrun,hS',hF'⟩:=mk_sound he hS hF (fun d hd=>hN _ _ d ho hd)
     simp only [Oper.wp,hrun,Oper.upon_value]
     exact ih _ _ _ _ _ ρ' _ w' hlen hrem' (hI.mk' ho he) hr hV0' hS' hF'
   obtain⟨o',ho',hcase⟩:=pull (fun o' h=>by rw [ho] at h; cases h; simpa using hal) hR ⟨w,hS.know⟩ (fun j hj=>((hfree j hj).1).resolve_right fun h=>h.elim (fun h=>hal h.1) (fun h=>h.elim (fun h=>hsto h.1) (fun h=>hnw h.1)))
   rw [ho] at ho'
   cases ho'
   unfold wpOp
   rw [ho]
   simp only
   rcases hcase with ⟨hw,hr⟩ | ⟨hw,hsel,_,s,hs,hr⟩ | ⟨hw,c,g,fs,cs,l,Q',h1,h2,h4,h5,h6⟩ | ⟨hA,hw,_,⟨F',H',V',he,hr⟩ | hak⟩ | ⟨hw,hxo,d,ha,k1,k2⟩
   ·rw [want_sound hS hw]
    exact ih _ _ _ _ _ ρ _ w hlen hrem' (hI.putv ho) hr hV0' (hS.put (s:=.v undef) (fun d hd=>hN _ _ d ho hd) trivial (fun x hx=>by simp [cv] at hx; exact hx.symm)) hF
   ·rw [want_sound hS hw]
    simp only [if_true]
    left
    have hst:∃ y,(execOp a.eval o).run P w=.ok (.value y) w∧∀ x,cv ρ H s=some x→x=y:=by
     rcases hV0 with hle | hno
     ·exact stab_sound hS (hS.know.le hle) hsel hs
     ·have:=hno i o himem ho
      rw [stab_noload (V1:=V) this] at hs
      exact stab_sound hS hS.know hsel hs
    obtain⟨y,hy,hy2⟩:=hst
    simp only [Oper.wp,hy,Oper.upon_value]
    exact ih _ _ _ _ _ ρ _ w hlen hrem' (hI.put ho (fun k hk=>stab_nr (hI.pend k hk) hs)) hr hV0' (hS.put (fun d hd=>hN _ _ d ho hd) (stab_inb hS hs) hy2) hF
   ·rw [want_sound hS hw]
    simp only [if_true]
    left
    have hl':=plainOps_spec hS h4
    have hrun:=run_call hS h1 h2 h5.1
    simp only [Oper.wp,hrun,Oper.upon_enter]
    have hargs:(fs++c.args.map a.eval++cs)=(fs.toList++l++cs.toList).toArray:=by
     rw [← hl']
     apply Array.ext'
     simp
    rw [hargs]
    refine(h5.2 w hS.know).mono ?_
    rintro e w' ⟨V',y,rfl,hf',hV',hq⟩
    obtain⟨hle,hr⟩:=h6 V' y hq
    refine ih _ _ _ _ _ ρ _ w' hlen hrem' (hI.putv ho) (hr ⟨w',hV'⟩) ?_ ((hS.call hf' hV').put (s:=.v y) (fun d hd=>hN _ _ d ho hd) trivial (fun x hx=>by simp [cv] at hx; exact hx.symm)) (hF.trans hf')
    rcases hle with (hle | hle) | hnl
    ·rcases hV0' with h7 | h7
     ·exact .inl (h7.trans hle)
     ·exact .inr h7
    ·exact .inl hle
    ·refine .inr fun k ok hk hok=>?_
     have hki:k≠i:=fun e=>by
      subst e
      rcases List.mem_append.1 hk with h | h
      ·have:=hbefore k h; omega
      ·have h2:=hsorted.2.1
       simp only [List.pairwise_cons] at h2
       have:=h2.1 k h; omega
     rcases nlAt_spec hnl k ok hok hki with h | ⟨hlt2,hbit⟩
     ·exact h
     ·exfalso
      rcases List.mem_append.1 hk with h | h
      ·have hjm:=(hrem.mem k).1 (by simp [h])
       have:=masks_listed (S:=fun k=>listed.getD k true=true) (fun i o ho=>(hrow i o ho).1) (fun k o' hk ho'=>hrem.closed k o' hk ho') i o k ho hedges hbit
       rw [hjm.2] at this
       cases this
      ·have h2:=hsorted.2.1
       simp only [List.pairwise_cons] at h2
       have:=h2.1 k h; omega
   ·subst hA
    simp only [List.nil_append] at *
    rw [want_sound hS hw]
    simp only [if_true]
    left
    have hst:V0.le V'∨∀ (k:Nat) (ok:Oper),k∈C→ops[k]?=some ok→isLoad ok=false:=by
     rcases hV0' with h7 | h7
     ·by_cases hs:isStore o=true
      ·right
       intro k ok hk hok'
       have h2:=hsorted.2.1
       simp only [List.pairwise_cons] at h2
       have hik:=h2.1 k hk
       have hp:=pairOk_spec (hrow k ok hok').2 i o (by simpa using ho) (by omega)
       exact hp.2 hs
      ·left
       rcases he with he | he
       ·cases he with
        | box=>exact h7
        | alloc=>exact h7
        | stC h8=>simp [isStore,h8] at hs
        | stA h8=>simp [isStore,h8] at hs
        | stV h8=>simp [isStore,h8] at hs
       ·obtain⟨_,he⟩:=he
        cases he <;> exact h7
     ·exact .inr h7
    rcases he with he | he
    ·obtain⟨y,ρ',w',hrun,hS',hF'⟩:=eff_sound he hS hF (fun d hd=>hN _ _ d ho hd)
     rcases hrun with hrun | ⟨hrun,rfl⟩
     ·simp only [Oper.wp,hrun,Oper.upon_value]
      exact ih _ _ _ _ _ ρ' _ w' hlen hrem' (hI.eff ho he) hr hst hS' hF'
     ·simp only [Oper.wp,hrun,Oper.upon_skip]
      exact ih _ _ _ _ _ ρ' _ w' hlen hrem' (hI.eff ho he) hr hst hS' hF'
    ·obtain⟨_,he⟩:=he
     obtain⟨y,ρ',w',hrun,hS',hF'⟩:=mk_sound he hS hF (fun d hd=>hN _ _ d ho hd)
     simp only [Oper.wp,hrun,Oper.upon_value]
     exact ih _ _ _ _ _ ρ' _ w' hlen hrem' (hI.mk' ho he) hr hst hS' hF'
   ·subst hA
    simp only [List.nil_append] at *
    rw [want_sound hS hw]
    simp only [if_true]
    left
    obtain⟨y,w',V',hrun,hS',hF',hr,hle⟩:=ak_sound hS hF hak
    have hfin:=ih _ _ _ _ _ ρ _ w' hlen hrem' (hI.putv ho) hr (by
     rcases hV0' with h7 | h7
     ·rcases hle with hle | hnl
      ·exact .inl (h7.trans hle)
      ·exact .inr fun k ok hk hok=>hnl k hk ok hok
     ·exact .inr h7) (hS'.put (s:=.v y) (fun d hd=>hN _ _ d ho hd) trivial (fun x hx=>by simp [cv] at hx; exact hx.symm)) hF'
    rcases hrun with hrun | ⟨hrun,rfl⟩
    ·simp only [Oper.wp,hrun,Oper.upon_value]
     exact hfin
    ·simp only [Oper.wp,hrun,Oper.upon_skip]
     exact hfin
   ·rw [want_sound hS hw]
    simp only [if_true]
    left
    have hall:∃ y w',(execOp a.eval o).run P w=.ok (.value y) w'∧((d.z=some y∧w'=w)∨(d.z=none∧∃ cap spare,y=.slice (some ⟨w.heap.size,0,none⟩) d.n cap∧d.n≤cap∧AlC P d cap spare ∧
      (∀ k:Nat,w'.heap[k]?=(w.alloc (.cells (d.ys++spare).toArray d.t)).heap[k]?)∧w'.heap.size=w.heap.size+1∧w'.os=w.os∧w'.tape=w.tape∧w'.output=w.output)):=by
     rcases hV0 with hle | hno
     ·exact al_sound hS (hS.know.le hle) ha
     ·have:=hno i o himem ho
      rw [alOf_noload (V1:=V) this] at ha
      exact al_sound hS hS.know ha
    obtain⟨y,w',hrun,hy⟩:=hall
    simp only [Oper.wp,hrun,Oper.upon_value]
    rcases hy with ⟨hz,rfl⟩ | ⟨hz,cap,spare,rfl,hcap,hex,q1,q2,q3,q4,q5⟩
    ·exact ih _ _ _ _ _ ρ _ w' hlen hrem' (hI.putv ho) (k1 y hz) hV0' (hS.put (s:=.v y) (fun d hd=>hN _ _ d ho hd) trivial (fun x hx=>by simp [cv] at hx; exact hx.symm)) hF
    ·obtain⟨hf',hV'⟩:=hS.alloc rfl q1 q2 q3 q4 q5
     have hb:=hS.know.size_none
     refine ih _ _ _ _ _ ρ _ w' hlen hrem' (hI.putv ho) (k2 hz _ cap spare hb hcap hex ⟨w',hV'⟩) ?_ ((hS.call hf' hV').put (s:=.v _) (fun d hd=>hN _ _ d ho hd) trivial (fun x hx=>by simp [cv] at hx; exact hx.symm)) (hF.trans hf')
     rcases hV0' with h7 | h7
     ·exact .inl (h7.trans (le_kset' hb))
     ·exact .inr h7
theorem rem_all (ops:Array Oper):Rem ops (Array.replicate ops.size false) (List.range ops.size):=by
 refine⟨by simp,List.pairwise_lt_range,fun i=>?_,fun i o hi ho=>?_⟩
 ·simp only [List.mem_range,Array.getD_eq_getD_getElem?]
  constructor
  ·intro h; exact⟨h,by simp [h]⟩
  ·exact fun h=>h.1
 ·exfalso
  have hlt:=(Array.getElem?_eq_some_iff.1 ho).1
  simp [Array.getD_eq_getD_getElem?,hlt] at hi
def padded (dr:Bool) (ops:Array Oper) (H:List Box):List Box:=match dr with | true=>H++pads ops | false=>H
theorem region_any {id:Nat} {ops:Array Oper} {K:Kt} (hm:P.follows .mixedOrders=true) (hok:drawOk F H ops=true)
  (hN:∀ (i:Nat) (o:Oper) (d:Nat),ops[i]?=some o→o.dst=some d→d<N)
  {Q:Exit→Act→World→Prop} (hQ:∀ F H V ρ a w,Sat P N w0.heap.size F H V ρ a w→Fr Vs V w0 w→K F H V→Q .normal a w) {U:Know} (hU:U.le V)
  (hR:R P ops true U K (List.range ops.size) F (padded true ops H) V) (hS:Sat P N w0.heap.size F H V ρ a w) (hF:Fr Vs V w0 w):(Code.region id ops true).wp P Q a w:=by
 simp only [drawOk,Bool.and_eq_true] at hok
 refine wp_region_any hm ?_
 exact any_sound (V0:=U) hok.2 hN hQ ops.size (List.range ops.size) _ F _ V ρ a _ (by simp) (rem_all ops) (Inv.start hS hok.1) hR (.inl hU) (hS.padsS _ pads_f).drew hF.drew
end Sx
