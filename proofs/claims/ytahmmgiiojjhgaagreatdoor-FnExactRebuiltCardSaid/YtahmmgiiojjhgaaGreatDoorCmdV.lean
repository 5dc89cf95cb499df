/-
  CmdText, in the program and in the reference.
-/
import Derived.Test.YtahmmgiiojjhgaaGreatDoorCopy
import Derived.WalkKit
import Derived.Test.YtahmmgiiojjhgaaGreatDoorTA
import Derived.Lib.ItoaNum
import Derived.Lib.ItoaLen
import Derived.Lib.Repeat
import Derived.Test.YtahmmgiiojjhgaaGreatDoorWr
import Derived.Test.YtahmmgiiojjhgaaGreatDoorRep
import Derived.Below
import Derived.Lib.LaidTab
import Derived.Shelf.Strings.Builder1
import Derived.Shelf.Strings.Builder2
import Derived.Shelf.Strings.OnBuilder
import Derived.Shelf.Small.Bits
import Derived.Shelf.Small.Strs
import Derived.Shelf.Strings.BuilderF
import Derived.Shelf.Strings.BuilderK
import Derived.Shelf.Strings.Builder2Cap
import Derived.Shelf.Strconv.Atoi
import Derived.Shelf.Strconv.Itoa0
import Derived.Shelf.Strconv.Itoa1
import Derived.Shelf.LaysM
import Derived.Shelf.Strconv.Itoa2
import Derived.Shelf.Strconv.Itoa3
import Derived.Shelf.Strconv.AtoiErrFast
import Derived.Shelf.Strconv.ParseIntEmpty
import Derived.Shelf.Strconv.AtoiFail
import Derived.Shelf.Strconv.Clone
import Derived.Shelf.Strconv.SyntaxError
import Derived.Shelf.LaysC
import Derived.Shelf.Strconv.ToError
import Derived.Shelf.Strconv.AtoiErr
import Derived.Shelf.Strconv.ErrVar
import Derived.Shelf.Strconv.Lower
import Derived.Shelf.Strconv.ParseUint10
import Derived.Shelf.Strconv.ParseUint10Empty
import Derived.Shelf.Strconv.ParseUint10Any
import Derived.Shelf.Strconv.ParseInt10
import Derived.Shelf.Strconv.AtoiLong
import Derived.Shelf.Strconv.AtoiInnerAll
import Derived.Shelf.Strconv.RangeError
import Derived.Shelf.Strconv.ToErrorRange
import Derived.Shelf.Strconv.AtoiAll
import Derived.Shelf.Strconv.ErrVarAll
import Derived.Shelf.Strings.Search1
import Derived.Shelf.Strings.Prefix
import Derived.Shelf.Bits.Mul64
import Derived.Shelf.Strings.Repeat
import Derived.Shelf.Strings.BuilderCap
import Derived.Ground.Names2Prog
import Derived.Shelf.Slices.SearchI
import Derived.Test.YtahmmgiiojjhgaaGreatDoorProg
import Derived.Lib.AppendIntMem
import Derived.Test.YtahmmgiiojjhgaaGreatDoorLoopT
import Derived.Lib.Join
namespace Go.Proofs.YtahmmgiiojjhgaaGreatDoor
open Go.Proofs.Tryz (prog)
open Go.IntKind
open Sx Go.MuLone
set_option maxRecDepth 100000
theorem Vo {P:Program} {n:Nat} (h:Sx.Enters P n) (args:Array Value) (w:World):(callFunc n args).run P w=.ok (.enter n args) w:=by
 obtain⟨fn,h1,h2,h3⟩:=h;have B7:fn.body≠none:=fun e=>by rw [e] at h2; cases h2
 have WL : ¬ fn.name = "runtime.NumGoroutine" := by simpa using h3
 simp [callFunc,h1,B7,WL]
set_option maxHeartbeats 800000 in
theorem P6 (b n:Nat) (cs:Array Value) (K:World->Bool->Prop) (w:World) (h0:w.cell? ⟨b,0,none⟩=some (.int .i32 0)) (f0:w.frozen? ⟨b,0,none⟩=false) (hn:Sx.Enters prog n)
  (hc:Calls prog n (#[.pointer (some ⟨b,2,none⟩)]++cs) (w.setCell ⟨b,0,none⟩ (.int .i32 1)) fun e w'=>∃ r,e=.returned (.bool r)/\w'.cell? ⟨b,0,none⟩=some (.int .i32 1)/\w'.frozen? ⟨b,0,none⟩=false/\K (w'.setCell ⟨b,0,none⟩ (.int .i32 0)) r) :
  Calls prog 420 #[.pointer (some ⟨b,0,none⟩),.func (.func n) #[] cs] w fun e w'=>∃ r,e=.returned (.bool r)/\K w' r:=by
 go_enter_defers Tryz.func420,Tryz.ntmps420
 go_wp2_with (go_at_call 423; refine(lock_free muLib ⟨b,0,none⟩ _ h0 f0).mono ?_; rintro e w' ⟨rfl,rfl⟩)
 rw [Vo hn];refine Calls.mono hc ?_
 rintro e w' ⟨r,rfl,h1,f1,hK⟩
 go_wp2
 refine leaves_cons (f:=424) (args:=#[.pointer (some ⟨b,0,none⟩)]) (by simp) (by simp [go_sem]) ?_
 refine(unlock_deferred muLib ⟨b,0,none⟩ .returning _ h1 f1).mono ?_
 rintro e u' w'' ⟨rfl,rfl,rfl⟩;exact⟨_,results_tmp rfl _ _ _,r,rfl,hK⟩
theorem Zr {V:aa} {w:World} (hV:V.on w) {b:Nat} {x y:Value} {l:List Value} {t:TypeId} (hb:V b=some (x :: l,(t,(0,0)))) :
  (aB V b (y :: l,(t,(0,0)))).on (w.setCell ⟨b,0,none⟩ y)/\Fr V (aB V b (y :: l,(t,(0,0)))) w (w.setCell ⟨b,0,none⟩ y)/\w.cell? ⟨b,0,none⟩=some x/\w.frozen? ⟨b,0,none⟩=false:=by
 have h0:w.heap[b]?=some (.cells (x :: l).toArray t (0,0)):=by rw [hV b _ _ hb,gJ]
 have aN:b<w.heap.size:=(Array.getElem?_eq_some_iff.1 h0).1;have hs:∀ k,k≠b->(w.setCell ⟨b,0,none⟩ y).heap[k]?=w.heap[k]?:=fun k hk=>by
  simp only [World.setCell,Array.getElem?_modify];rw [if_neg (fun e:b=k=>hk e.symm)]
 have hsb:(w.setCell ⟨b,0,none⟩ y).heap[b]?=some (.cells (y :: l).toArray t (0,0)):=by
  simp only [World.setCell,Array.getElem?_modify,if_true,h0];simp
 refine⟨fun k c u hk=>?_,⟨rfl,rfl,rfl,by simp [World.setCell],fun k _ hk=>hs k (fun e=>by rw [e,hb] at hk; cases hk),fun k _ hk=>?_⟩,?_,?_⟩
 ·by_cases e:k=b
  ·subst e
   rw [av] at hk;cases hk
   rw [hsb,gJ]
  rw [bh e] at hk;rw [hs k e]; exact hV k c u hk
 ·rw [bh (fun e=>by rw [e,hb] at hk; cases hk)]; exact hk
 ·simp [World.cell?,h0]
 simp [World.frozen?,h0]
abbrev Vp:TypeId:=411
theorem Gf {V:aa} {b n:Nat} {cs:List Value} {q s:Value} (hb:V b=some ([.int .i32 0,q,s],(Vp,(0,0)))) {K:aa->Bool->Prop}
  (hc:ae prog (aB V b ([.int .i32 1,q,s],(Vp,(0,0)))) n (.pointer (some ⟨b,2,none⟩) :: cs) fun V' r=>∃ e q' s',r=.bool e/\V' b=some ([.int .i32 1,q',s'],(Vp,(0,0)))/\K (aB V' b ([.int .i32 0,q',s'],(Vp,(0,0)))) e) :
  ae prog V 420 [.pointer (some ⟨b,0,none⟩),.func (.func n) #[] cs.toArray] fun V' r=>∃ e,r=.bool e/\K V' e:=by
 refine⟨⟨_,Tryz.func420,by kernel_rfl,by kernel_rfl⟩,fun w hw=>?_⟩
 obtain⟨on1,vv,c1,z1⟩:=Zr (y:=.int .i32 1) hw hb;refine(P6 b n cs.toArray (fun w' e=>∃ V',Fr V V' w w'/\V'.on w'/\K V' e) w c1 z1 hc.1 ?_).mono ?_
 ·have h2:=hc.2 _ on1
  have ea:(.pointer (some ⟨b,2,none⟩) :: cs).toArray=#[Value.pointer (some ⟨b,2,none⟩)]++cs.toArray:=by simp
  rw [ea] at h2;refine h2.mono ?_
  rintro e w' ⟨V',r,rfl,Hq,on2,e,q',s',rfl,ow,hK⟩;obtain⟨on3,FZ,c3,z3⟩:=Zr (y:=.int .i32 0) on2 ow;exact⟨e,rfl,c3,z3,_,(vv.trans Hq).trans FZ,on3,hK⟩
 rintro e w' ⟨r,rfl,V',h1,h2,h3⟩;exact⟨V',_,rfl,h1,h2,r,rfl,h3⟩
def Change (V:aa) (n:Nat) (cs:List Value) (l:List aE) (out:List aE) (ok:Bool):Prop :=
 ∀ (V1:aa) (b:Nat) (q:Value) (s:ar) (f:List Nat),V.le V1->V b=none->GR aw Zp V1 s l f->cQ V V1 f->l.length<=1048576->b ∉ f->V1 b=some ([.int .i32 1,q,.slice s.a s.n s.c],(Vp,(0,0))) ->
  ae prog V1 n (.pointer (some ⟨b,2,none⟩) :: cs) fun V2 r=>r=.bool ok/\V.le V2/\∃ s',V2 b=some ([.int .i32 1,q,.slice s'.a s'.n s'.c],(Vp,(0,0)))/\(ok=true->∃ f',LR aw V2 s' out f'/\cQ V V2 f'/\b ∉ f')
abbrev Bb (V:aa) (y:List aE × Bool):aa->Value->Prop:=fun V' v=>V.le V'/\∃ s f,v=.tuple #[dJ (s,()),.bool y.2]/\LR aw V' s y.1 f/\cQ V V' f
theorem pV {V:aa} {b:Nat} {y:List Value × vn} {g:List Nat} (h:b ∉ g):∀ b'∈g,aB V b y b'=V b':=fun b' gx=>bh (fun e=>h (by rw [<- e]; exact gx))
theorem nI {V V':aa} {b:Nat} {y:List Value × vn} (h:V.le V') (hb:V b=none):V.le (aB V' b y):=fun k z hk=>by
 rw [bh (fun e=>by rw [e,hb] at hk; cases hk)]
 exact h k z hk
theorem uH {V V':aa} {b:Nat} {y:List Value × vn} {f:List Nat} (h:cQ V V' f) (hb:b ∉ f):cQ V (aB V' b y) f :=
 ⟨h.1,h.2.1,fun k hk=>by obtain⟨c,t,q⟩:=h.2.2 k hk; exact⟨c,t,by rw [bh (fun e=>hb (by rw [<- e]; exact hk))]; exact q⟩⟩
theorem Bc {V:aa} (s:ar) (l:List aE) (f:List Nat) (h:LR aw V s l f) (ht:l.length+aC aw l<=1048576) (n:Nat) (cs:List Value) (out:List aE) (ok:Bool) (vC:one [.func (.func n) #[] cs.toArray]=true) (hc:Change V n cs l out ok) :
  ae prog V 417 [dJ (s,()),.func (.func n) #[] cs.toArray] (Bb V (if ok=true then out else [],ok)):=by
 refine aM (O' (s,()) ⟨_,vC⟩) fun _=>?_
 simp only [AM,T.wp];refine(Ba V (s,()) (l,()) _ (cC.mk h a8.mk) (by show l.length+aC aw l+0<=1048576; omega)).mono ?_
 rintro V1 _ ⟨aF,s1,f1,rfl,r1,O1⟩;refine⟨nofun,(s1,()),rfl,fun b hb=>?_⟩
 have hbV:V b=none:=cL aF hb;have Vq:b ∉ f1:=fun hm=>by
  obtain⟨c,t,k⟩:=O1.2.2 b hm;rw [hb] at k; cases k
 refine(Gf (s:=.slice s1.a s1.n s1.c) (q:=.int .u32 0) (cs:=cs) (K:=fun V' e=>e=ok/\V.le V'/\∃ s',V' b=some ([.int .i32 0,.int .u32 0,.slice s'.a s'.n s'.c],(Vp,(0,0)))/\(ok=true->∃ f',LR aw V' s' out f'/\cQ V V' f')) av ?_).mono ?_
 ·refine(hc _ b (.int .u32 0) s1 f1 ?_ hbV (r1.loc (fun y hy=>(pV Vq y hy).trans (pV Vq y hy))) ?_ (by omega) Vq av).mono ?_
  ·exact nI (nI aF hbV) hbV
  ·exact uH (uH O1 Vq) Vq
  rintro V2 _ ⟨rfl,bm,s',h2,eg⟩;refine⟨ok,_,_,rfl,h2,rfl,nI bm hbV,s',av,fun k=>?_⟩
  obtain⟨f',q1,q2,q3⟩:=eg k;exact⟨f',q1.loc (pV q3),uH q2 q3⟩
 rintro V2 _ ⟨e,rfl,rfl,bm,s',h2,eg⟩;refine⟨nofun,e,rfl,fun hf=>?_,fun hT=>?_⟩
 ·have:e=false:=by simpa using hf
  subst this;exact⟨bm,⟨none,0,0⟩,[],rfl,⟨rfl,Nat.le_refl _,by decide,.inl ⟨rfl,fun _=>rfl,rfl⟩⟩,cQ.nil⟩
 have:e=true:=by simpa using hT
 subst this;obtain⟨f',q1,q2⟩:=eg rfl;refine⟨(s',()),?_,bm,s',f',rfl,q1,q2⟩
 simp only [ah,aQ,Bool.false_eq_true,if_false,h2]
 rfl
theorem D9 {x y vs:List Value} {n:Nat}:aX (x++y) (x.length+n) vs=x++aX y n vs:=by
 simp only [aX,Nat.add_assoc];rw [List.take_length_add_append,List.drop_length_add_append,List.append_assoc,List.append_assoc,List.append_assoc]
theorem Vr {x y vs:List Value} {n:Nat} (h:n+vs.length<=x.length):aX (x++y) n vs=aX x n vs++y:=by
 simp only [aX];rw [List.take_append_of_le_length (by omega),List.drop_append_of_le_length h,List.append_assoc,List.append_assoc,List.append_assoc]
theorem Bd {x y:List Value} (h:y.length=x.length):y=aX x 0 y:=by
 simp only [aX,List.take_zero,List.nil_append,Nat.zero_add];rw [List.drop_of_length_le (by omega),List.append_nil]
section
variable {sh:List Sc} {α:Type}
theorem Kk {c':aH sh} {vs:List Value} {k:Nat}:∀ {cs:List (aH sh)} {i:Nat} (hi:i<cs.length) (post:List Value),k+vs.length<=sh.length->aH.aD sh c'=aX (aH.aD sh cs[i]) k vs ->
  aX (cs.flatMap (aH.aD sh)++post) (i*sh.length+k) vs=(cs.set i c').flatMap (aH.aD sh)++post
 | c :: cs,0,_,post,hk,e=>by
  have e:aH.aD sh c'=aX (aH.aD sh c) k vs:=e;rw [List.flatMap_cons,List.set_cons_zero,List.flatMap_cons,Nat.zero_mul,Nat.zero_add,List.append_assoc,Vr (by rw [cF]; exact hk),<- e,List.append_assoc]
 | c :: cs,i+1,hi,post,hk,e=>by
  have e2:(i+1)*sh.length+k=(aH.aD sh c).length+(i*sh.length+k):=by rw [cF,Nat.add_mul]; omega
  rw [List.flatMap_cons,List.append_assoc,e2,D9,Kk (cs:=cs) (by simpa using hi) post hk e,List.set_cons_succ,List.flatMap_cons,List.append_assoc]
theorem kS.set {r:Rp sh α} {V:aa} {c':aH sh} {x':α} {fx:List Nat} (hx:r.R V c' x' fx) (nx:fx.Nodup):∀ {cs:List (aH sh)} {l:List α} {fp:List Nat} {i:Nat},kS r V cs l fp->fp.Nodup->(∀ b∈fx,b ∉ fp)->i<l.length ->
  ∃ fp',kS r V (cs.set i c') (l.set i x') fp'/\fp'.Nodup/\∀ b∈fp',b∈fp\/b∈fx
 | c :: cs,x :: l,_,0,⟨f,g,rfl,h1,h2⟩,nd,dj,_=>by
  have n2:=(List.nodup_append.1 nd).2.1;refine⟨fx++g,⟨fx,g,rfl,hx,h2⟩,List.nodup_append.2 ⟨nx,n2,fun a ha b hb e=>dj a ha (by subst e; simp [hb])⟩,fun b hb=>?_⟩
  rcases List.mem_append.1 hb with h | h
  ·exact .inr h
  exact .inl (by simp [h])
 | c :: cs,x :: l,_,i+1,⟨f,g,rfl,h1,h2⟩,nd,dj,hi=>by
  obtain⟨n1,n2,n3⟩:=List.nodup_append.1 nd;obtain⟨g',k1,k2,k3⟩:=kS.set hx nx (i:=i) h2 n2 (fun b hb hg=>dj b hb (by simp [hg])) (by simpa using hi);refine⟨f++g',⟨f,g',rfl,h1,k1⟩,List.nodup_append.2 ⟨n1,k2,fun a ha b hb e=>?_⟩,fun b hb=>?_⟩
  ·subst e
   rcases k3 a hb with h | h
   ·exact n3 a ha a h rfl
   exact dj a h (by simp [ha])
  rcases List.mem_append.1 hb with h | h
  ·exact .inl (by simp [h])
  rcases k3 b h with h | h
  ·exact .inl (by simp [h])
  exact .inr h
 | [],[],_,_,_,_,_,h=>by simp at h
 | [],_ :: _,_,_,h,_,_,_=>h.elim
 | _ :: _,[],_,_,h,_,_,_=>h.elim
theorem cQ.perm {V V':aa} {f g:List Nat} (h:cQ V V' f) (p:g.Perm f):cQ V V' g:=⟨p.nodup_iff.2 h.1,fun b hb=>h.2.1 b (p.mem_iff.1 hb),fun b hb=>h.2.2 b (p.mem_iff.1 hb)⟩
theorem cQ.sub {V V':aa} {f g:List Nat} (h:cQ V V' f) (s:g.Sublist f):cQ V V' g:=⟨h.1.sublist s,fun b hb=>h.2.1 b (s.subset hb),fun b hb=>h.2.2 b (s.subset hb)⟩
theorem LR.putRow {r:Rp sh α} {V0 V:aa} {s:ar} {l:List α} {f:List Nat} (h:LR r V s l f) (hO:cQ V0 V f) {i:Nat} (hi:i<l.length) :
  ∃ b o cs u c fc,s.a=some ⟨b,o,none⟩/\V b=some (cs,(u,(0,0)))/\o+i*sh.length+sh.length<=cs.length/\aQ V ((⟨b,o,none⟩:Addr).add (i*sh.length)) sh.length=some (aH.aD sh c)/\r.R V c l[i] fc/\(∀ y∈fc,y∈f) /\
   ∀ {V2:aa} {c':aH sh} {x':α} {fx:List Nat} {k:Nat} {vs:List Value},V.le V2->V0.le V2->r.R V2 c' x' fx->cQ V0 V2 (f++fx)->k+vs.length<=sh.length->aH.aD sh c'=aX (aH.aD sh c) k vs ->
    ∃ f',LR r (aB V2 b (aX cs (o+i*sh.length+k) vs,(u,(0,0)))) s (l.set i x') f'/\cQ V0 (aB V2 b (aX cs (o+i*sh.length+k) vs,(u,(0,0)))) f'/\V0.le (aB V2 b (aX cs (o+i*sh.length+k) vs,(u,(0,0))))/\b∈f/\∀ y∈f',y∈f\/y∈fx:=by
 have h0:=h;obtain⟨h1,h2,h3,h4⟩:=h;rcases h4 with ⟨z,_,_⟩ | ⟨b,pre,post,t,fps,cs,ha,hb,he,rfl⟩
 ·omega
 obtain⟨cw,tw,hw⟩:=hO.2.2 b (by simp);obtain rfl:t=(tw,(0,0)):=by
  rw [hb] at hw;simp only [Option.some.injEq,Prod.mk.injEq] at hw;exact hw.2
 have eG:=he.len;have P7:i<cs.length:=by omega
 obtain⟨hi3,fc,g1,g2⟩:=he.at hi;have yj:(cs.flatMap (aH.aD sh)).length=cs.length*sh.length:=iM cs;have hmul:i*sh.length+sh.length<=cs.length*sh.length:=by
  have:=Nat.mul_le_mul_right sh.length (show i+1<=cs.length by omega);rw [Nat.add_mul,Nat.one_mul] at this;exact this
 refine⟨b,pre.length,_,tw,cs[i],fc,ha,hb,?_,?_,g1,fun y hy=>by simp [g2 y hy],?_⟩
 ·simp only [List.length_append]; omega
 ·simp only [ah,aQ,hb]
  rw [eH];exact qq (cF sh) P7 post
 intro V2 c' x' fx k vs hle iz hx JZ hk hc;have e1:aX (pre++(cs.flatMap (aH.aD sh)++post)) (pre.length+i*sh.length+k) vs=pre++((cs.set i c').flatMap (aH.aD sh)++post):=by
  rw [Nat.add_assoc,D9,Kk P7 post hk hc]
 rw [e1];obtain⟨n1,n2,n3⟩:=List.nodup_append.1 JZ.1;have nb:b ∉ fps:=(List.nodup_cons.1 n1).1;have nbx:b ∉ fx:=fun hm=>n3 b (by simp) b hm rfl
 have Ga:∀ (y:List Value × vn) (g:List Nat),b ∉ g->∀ b'∈g,aB V2 b y b'=V2 b':=fun y g hg b' gx=>by
  simp only [aB]; rw [if_neg (fun e:b'=b=>hg (by rw [<- e]; exact gx))]
 obtain⟨fp',k1,k2,k3⟩:=kS.set ((r.loc hx (Ga (pre++((cs.set i c').flatMap (aH.aD sh)++post),(tw,(0,0))) fx nbx))) n2 (i:=i) ((he.le hle).loc (Ga _ fps nb)) (List.nodup_cons.1 n1).2 (fun y hy hm=>n3 y (by simp [hm]) y hy rfl) hi;have nb':b ∉ fp':=fun hm=>by
  rcases k3 b hm with h | h
  ·exact nb h
  exact nbx h
 have gM:∀ y∈fp',y∈(b :: fps)++fx:=fun y hy=>by
  rcases k3 y hy with h | h
  ·simp [h]
  simp [h]
 refine⟨b :: fp',⟨by rw [List.length_set]; exact h1,h2,h3,.inr ⟨b,pre,post,_,fp',cs.set i c',ha,av,k1,rfl⟩⟩,⟨List.nodup_cons.2 ⟨nb',k2⟩,fun y hy=>?_,fun y hy=>?_⟩,fun y z hy=>?_,by simp,fun y hy=>?_⟩
 ·rcases List.mem_cons.1 hy with rfl | hy
  ·exact JZ.2.1 y (by simp)
  exact JZ.2.1 y (gM y hy)
 ·rcases List.mem_cons.1 hy with rfl | hy
  ·exact⟨_,_,av⟩
  obtain⟨u,v,Zn⟩:=JZ.2.2 y (gM y hy);exact⟨u,v,by rw [bh (fun e=>nb' (by rw [<- e]; exact hy))]; exact Zn⟩
 ·have bR:y≠b:=fun e=>by
   subst e;rw [JZ.2.1 y (by simp)] at hy; cases hy
  rw [bh bR]; exact iz y z hy
 rcases List.mem_cons.1 hy with rfl | hy
 ·exact .inl (by simp)
 rcases k3 y hy with h | h
 ·exact .inl (by simp [h])
 exact .inr h
end
abbrev gr:List Sc:=[.s,.b,.l]
theorem fG {V:aa} {c:aH gr} {x:a6} {f:List Nat} (h:aY.R V c x f):∃ s,c=(x.1,x.2.1,s,())/\LR rI V s x.2.2.1 f/\x.1.size<=9223372036854775807:=by
 obtain⟨c0,c1,c2,cu⟩:=c;obtain⟨⟨e0,z0⟩,e1,g,g',rfl,hs,hN⟩:=h;replace e0:c0=x.1:=e0;replace e1:c1=x.2.1:=e1;replace hN:g'=[]:=hN;subst e0 e1 hN;rw [List.append_nil];exact⟨c2,rfl,hs,z0⟩
theorem ko {V:aa} {e:Bool} {s:ar} {o:List aI} {f:List Nat} {n:ByteArray} (z:n.size<=9223372036854775807) (h:LR rI V s o f):aY.R V (n,e,s,()) (n,e,o,()) f:=⟨⟨rfl,z⟩,rfl,f,[],by simp,h,rfl⟩
theorem Zs (V:aa):aY.R V (ByteArray.empty,false,⟨none,0,0⟩,()) rY []:=ko (by decide) ⟨rfl,Nat.le_refl _,by decide,.inl ⟨rfl,fun _=>rfl,rfl⟩⟩
abbrev uI (V:aa) (x y:a6):aa->Value->Prop:=fun V' v=>V.le V'/\∃ c z ok f,v=.tuple #[ct c,.bool ok]/\aY.R V' c z f/\cQ V V' f/\Cu x y=(z,ok)
theorem Gg {V V':aa} {x y:a6} (le:V.le V') (h:¬ (A5 x y/\∃ z:a6,pR z/\z.1=x.1/\Hr z=Hr x+Hr y)):uI V x y V' (packed [ct (ByteArray.empty,false,⟨none,0,0⟩,()),.bool false]) :=
 ⟨le,(ByteArray.empty,false,⟨none,0,0⟩,()),rY,false,[],rfl,Zs V',cQ.nil,yB (.inr ⟨rfl,rfl,h⟩)⟩
theorem Zt {x y:a6} {e:Bool} {o:List aI} (q:known x.1=true/\∃ z:a6,pR z/\z.1=x.1/\Hr z=Hr x+Hr y) (C2:Can o) (p2:e=true->0<o.length) (v2:bQ e o=Hr x+Hr y):bp x.1 e o:=by
 obtain⟨kx,z,mz,z1,sz⟩:=q;have hl:o.length<=4:=by
  have:af o=af z.2.2.1:=by
   have a1:=aO C2.1;have a2:=aO mz.2.1.1.1.1;have b1:e=true->0<af o:=fun h=>(gX C2).1 (p2 h)
   have b2:z.2.1=true->0<af z.2.2.1:=fun h=>(gX mz.2.1.1.1).1 (mz.2.1.2 h)
   have key:bQ e o=bQ z.2.1 z.2.2.1:=v2.trans sz.symm;unfold bQ at key
   revert b1 b2 key
   cases e <;> cases z.2.1 <;> simp <;> omega
  have:=uv C2 mz.2.1.1.1 this;rw [this]; exact mz.2.2
 exact⟨kx,⟨⟨C2,by omega⟩,p2⟩,hl⟩
theorem Kl {V:aa} (hV:iS V) (c d:aH gr) (x y:a6) (f g:List Nat) (hx:aY.R V c x f) (hy:aY.R V d y g) :
  ae prog V 452 [ct c,ct d] (uI V x y):=by
 refine aM (JE _ _) fun _=>?_
 simp only [xR,T.wp];refine(Zj hV c d x y f g hx hy).mono ?_
 rintro V1 _ ⟨aF,e1,rfl,gB⟩;refine⟨nofun,e1,rfl,fun hf=>Gg aF fun k=>?_,fun h1=>?_⟩
 ·rw [gB.2 k.1] at hf; cases hf
 have al:=gB.1 (by simpa using h1);obtain⟨s,rfl,hl,z0⟩:=fG hx;obtain⟨s',rfl,BZ,z0'⟩:=fG hy;have al2:=al;obtain⟨ax,ay,_⟩:=al2;have nx:=ax.2.2;have ny:=ay.2.2;refine(UM V1 x.2.1 s y.2.1 s' x.2.2.1 y.2.2.1 f g (hl.le aF) (BZ.le aF) ax.2.1.1.1 ay.2.1.1.1 (by omega) (by omega)).mono ?_
 rintro V2 _ ⟨bm,e,t,o,k,rfl,L2,O2,C2,v2,p2,n2⟩;have l2:=aF.trans bm;refine⟨fun _=>bm,(e,t,()),rfl,?_⟩
 have hm:ae prog V2 454 [.string x.1,cV (e,t,())] (fun V' v=>V2.le V'/\uI V x y V' v):=by
  refine aM (Pb _ _) fun _=>?_
  simp only [AN,T.wp];refine(jv (iS.le hV l2) x.1 e t o k L2).mono ?_
  rintro V3 _ ⟨bS,e3,rfl,vw⟩;refine⟨nofun,e3,rfl,fun ht=>?_,fun hf=>⟨bS,Gg (l2.trans bS) fun q=>?_⟩⟩
  ·have ok:bp x.1 e o:=vw.1 ht
   exact⟨bS,l2.trans bS,(x.1,e,t,()),(x.1,e,o,()),true,k,rfl,ko z0 (L2.le bS),(O2.post bS).pre aF,yB (.inl ⟨rfl,al,ok,rfl,v2⟩)⟩
  rw [vw.2 (Zt ⟨ax.1,q.2⟩ C2 p2 v2)] at hf; cases hf
 refine hm.mono ?_
 rintro V3 _ ⟨bS,le03,c3,z3,uE,f3,rfl,R3,O3,h3⟩;exact⟨fun _=>bS,(c3,uE,()),rfl,le03,c3,z3,uE,f3,rfl,R3,O3,h3⟩
theorem Km {V:aa} (c d:aH gr) (x y:a6) (f g:List Nat) (hx:aY.R V c x f) (hy:aY.R V d y g) :
  ae prog V 333 [ct c,ct d] (uI V x y):=by
 refine aM (Jx _ _) fun _=>?_
 simp only [xM,T.wp];refine(PZ c d x y f g hx hy).mono ?_
 rintro V1 _ ⟨aF,e1,rfl,gB⟩;refine⟨nofun,e1,rfl,fun hf=>Gg aF fun k=>?_,fun h1=>?_⟩
 ·rw [gB.2 k.1] at hf; cases hf
 have al:=gB.1 (by simpa using h1);obtain⟨s,rfl,hl,z0⟩:=fG hx;obtain⟨s',rfl,BZ,z0'⟩:=fG hy;have al2:=al;obtain⟨ax,ay,_⟩:=al2;have nx:=ax.2.2;have ny:=ay.2.2;refine(Vk V1 x.2.1 s y.2.1 s' x.2.2.1 y.2.2.1 f g (hl.le aF) (BZ.le aF) ax.2.1 ay.2.1 (by omega) (by omega)).mono ?_
 rintro V2 _ ⟨bm,e,t,o,k,rfl,L2,O2,pe,v2,n2⟩;have l2:=aF.trans bm;refine⟨fun _=>bm,(e,t,()),rfl,?_⟩
 have hm:ae prog V2 196 [.string x.1,cV (e,t,())] (fun V' v=>V2.le V'/\uI V x y V' v):=by
  refine aM (Am _ _) fun _=>?_
  simp only [rR,T.wp];refine(ia x.1 e t o k L2).mono ?_
  rintro V3 _ ⟨bS,e3,rfl,vw⟩;refine⟨nofun,e3,rfl,fun hf=>⟨bS,Gg (l2.trans bS) fun q=>?_⟩,fun ht=>?_⟩
  ·rw [vw.2 (Zt ⟨ax.1,q.2⟩ pe.1.1 pe.2 v2)] at hf; cases hf
  have ok:bp x.1 e o:=vw.1 (by simpa using ht);exact⟨bS,l2.trans bS,(x.1,e,t,()),(x.1,e,o,()),true,k,rfl,ko z0 (L2.le bS),(O2.post bS).pre aF,yB (.inl ⟨rfl,al,ok,rfl,v2⟩)⟩
 refine hm.mono ?_
 rintro V3 _ ⟨bS,le03,c3,z3,uE,f3,rfl,R3,O3,h3⟩;exact⟨fun _=>bS,(c3,uE,()),rfl,le03,c3,z3,uE,f3,rfl,R3,O3,h3⟩
theorem Kn {sh:List Sc} {α:Type} {P:Program} {r:Rp sh α} {K:aa->List Value->Prop} {V V0:aa} {s:ar} {l:List α} {f:List Nat} {p:α->Prop} {body:cH [.o (.o (.i .i64))]->T} (h:LR r V s l f)
  (lB:∀ (i:Nat) (hi:i<l.length) (N:List LV->aa->Prop),(p l[i]->K V [.int .i64 i])->(¬ p l[i]->N [.v (.int .i64 (i64.wrap ((i:Int)+1)))] V)->(body ((i:Int),())).wp P K V V [N])
  (hK:∀ (i:Nat) (hi:i<l.length),p l[i]->(∀ (j:Nat) (hj:j<l.length),j<i->¬ p l[j])->K V [.int .i64 i]) (kb:(∀ (j:Nat) (hj:j<l.length),¬ p l[j])->K V [.int .i64 (-1)]) :
  (T.lp [.o (.o (.i .i64))] [.v (.int .i64 (0:Int))] fun y=>.br (decide (y.1<(s.n:Int))) (body y) (.ret [.int .i64 (-1:Int)])).wp P K V V0 []:=by
 have hn:=h.1;have jT:=h.2.2.1;simp only [T.wp];refine⟨fun y V'=>V'=V/\∃ i:Nat,y.1=(i:Int)/\i<=l.length/\∀ (j:Nat) (hj:j<l.length),j<i->¬ p l[j],fun y _=>((l.length:Int)-(y.1:Int)).toNat,⟨((0:Int),()),rfl,rfl,0,rfl,Nat.zero_le _,fun j _ h=>by omega⟩,?_⟩
 rintro⟨(i:Int),u⟩ V' ⟨rfl,k,hk,hle,bC⟩;replace hk:i=(k:Int):=hk;subst hk;refine⟨fun aN=>?_,fun cg=>?_⟩
 ·have hi:k<l.length:=by
   have:(k:Int)<(s.n:Int):=bq aN;omega
  refine lB k hi _ (fun hp=>hK k hi hp bC) fun hp=>?_
  refine⟨(((k+1:Nat):Int),()),by rw [kD hi (by omega)]; rfl,⟨rfl,k+1,rfl,hi,fun j hj h2=>?_⟩,?_⟩
  ·by_cases e:j=k
   ·subst e; exact hp
   exact bC j hj (by omega)
  show((l.length:Int)-((k+1:Nat):Int)).toNat<((l.length:Int)-(k:Int)).toNat
  omega
 have hi:k=l.length:=by
  have:¬ (k:Int)<(s.n:Int):=bU cg;omega
 subst hi;exact kb fun j hj=>bC j hj hj
abbrev Zu (V:aa) (n:ByteArray) (l:List aE):aa->Value->Prop:=fun V' r=>V.le V'/\r=.int .i64 (F7 n l)
theorem Zv {n:ByteArray} {l:List aE} {k:Nat} (h:k<l.length) (e:l[k].1=n) (hj:∀ (j:Nat) (hj:j<l.length),j<k->¬ l[j].1=n):F7 n l=k:=A8 (A6 h e hj)
theorem ax_no {n:ByteArray} {l:List aE} (h:∀ (j:Nat) (hj:j<l.length),¬ l[j].1=n):F7 n l=-1:=nG (A7 h)
theorem nJ {V:aa} {c:aH [.s,.s,.b,.l]} {x:aE} {f:List Nat} (h:aw.R V c x f):c.1=x.1:=h.1.1
theorem nK (V:aa) (s:ar) (l:List aE) (f:List Nat) (h:LR aw V s l f) (n:ByteArray):ae prog V 249 [dJ (s,()),.string n] (Zu V n l):=by
 refine aM (Uk _ _) fun _=>?_
 have hn:=h.1;rw [DC];refine Kn (p:=fun a=>a.1=n) h (fun i hi N hy hN=>?_) (fun i hi e hj=>⟨aa.le.refl _,by rw [Zv hi e hj]; rfl⟩) (fun kb=>⟨aa.le.refl _,by rw [ax_no kb]; rfl⟩)
 obtain⟨b1,o1,c1,fc,a1,l1,hR,_⟩:=h.at hi;have e0:(i:Int).toNat=i:=by omega
 simp only [T.wp];rw [e0];refine⟨_,a1,by omega,by omega,c1,l1,fun he=>?_,fun he=>⟨_,rfl,hN fun e=>?_⟩⟩
 ·exact hy ((nJ hR).symm.trans (aR.1 he))
 have:=aR.2 ((nJ hR).trans e);rw [this] at he; cases he
theorem nL (V:aa) (s:ar) (l:List aE) (f:List Nat) (h:LR aw V s l f) (n:ByteArray):ae prog V 413 [dJ (s,()),.string n] (Zu V n l):=by
 refine aM (Uy _ _) fun _=>?_
 simp only [DL,T.wp];intro b hb;have leb:=aG (x:=([Value.string n],((9:TypeId),((0,0):Nat × Nat)))) hb;have hv:aB V b ([Value.string n],((9:TypeId),((0,0):Nat × Nat))) b=some _:=av
 revert leb hv
 generalize aB V b ([Value.string n],((9:TypeId),((0,0):Nat × Nat)))=V1
 intro leb hv;have h1:=h.le leb;have hn:=h.1;have key:ae prog V1 415 [qL s,.func (.func 416) #[] #[.pointer (some ⟨b,0,none⟩)]] (fun V' r=>V'=V1/\r=.int .i64 (F7 n l)):=by
  refine aM (ug s (416,⟨b,0,none⟩)) fun _=>?_
  rw [my];refine Kn (p:=fun a=>a.1=n) h1 (fun i hi N hy hN=>?_) (fun i hi e hj=>⟨rfl,by rw [Zv hi e hj]; rfl⟩) (fun kb=>⟨rfl,by rw [ax_no kb]; rfl⟩)
  obtain⟨b1,o1,c1,fc,a1,l1,hR,_⟩:=h1.at hi;have e0:(i:Int).toNat=i:=by omega
  simp only [T.wp];rw [e0];refine⟨_,a1,by omega,by omega,c1,l1,?_⟩
  have hc:ae prog V1 416 [WO c1,.pointer (some ⟨b,0,none⟩)] (fun V' r=>V'=V1/\r=.bool (l[i].1.toList == n.toList)):=by
   refine aM (JB c1 ⟨b,0,none⟩) fun _=>?_
   simp only [xP,T.wp];refine⟨n,?_,trivial,?_⟩
   ·simp only [aQ,Bool.false_eq_true,if_false,hv]
    rfl
   rw [nJ hR]; rfl
  refine hc.mono ?_
  rintro V2 _ ⟨rfl,rfl⟩;refine⟨nofun,_,rfl,fun he=>hy (aR.1 he),fun he=>⟨_,rfl,hN fun e=>?_⟩⟩
  have:=aR.2 e;rw [this] at he; cases he
 refine key.mono ?_
 rintro V2 _ ⟨rfl,rfl⟩;exact⟨nofun,_,rfl,leb,rfl⟩
theorem jz {V:aa} {a:Addr} {m o n:Nat} {L l':List Value} (h:aQ V a m=some L) (hc:fj L o n=some l'):aQ V (a.add o) n=some l':=by
 obtain⟨b,off,sp⟩:=a;cases sp with
 | some _=>simp [aQ] at h
 | none =>
  simp only [ah,aQ] at h ⊢;cases hb:V b with
  | none=>rw [hb] at h; cases h
  | some y =>
   rw [hb] at h;simp only at h ⊢;unfold fj at h hc ⊢;split at h
   ·rename_i hle
    simp only [Option.some.injEq] at h;subst h;split at hc
    ·rename_i bG
     simp only [Option.some.injEq] at hc;simp only [List.length_take,List.length_drop] at bG;rw [if_pos (by omega)];simp only [Option.some.injEq];rw [<- hc,List.drop_take,List.take_take,List.drop_drop]
     congr 1
     omega
    cases hc
   cases h
theorem Ko (c:aH [.s,.s,.b,.l]) (z:aH gr):aH.aD [.s,.s,.b,.l] (c.1,z)=aX (aH.aD [.s,.s,.b,.l] c) 1 (aH.aD gr z):=rfl
theorem Be {V V':aa} (le:V.le V'):Bb V ([],false) V' (packed [dJ (⟨none,0,0⟩,()),.bool false]):=⟨le,⟨none,0,0⟩,[],rfl,⟨rfl,Nat.le_refl _,by decide,.inl ⟨rfl,fun _=>rfl,rfl⟩⟩,cQ.nil⟩
theorem jA {n:ByteArray} {l:List aE}:(F7 n l<0↔j8 n l=none):=by
 cases h:j8 n l with
 | none=>rw [nG h]; simp
 | some i=>rw [A8 h]; simp
theorem yC {n:ByteArray} {l:List aE} (h:¬ F7 n l<0):∃ (i:Nat) (hi:i<l.length),j8 n l=some i/\F7 n l=i/\l[i].1=n:=by
 cases hf:j8 n l with
 | none=>exact absurd (jA.2 hf) h
 | some i =>
  obtain⟨h1,h2⟩:=Zm hf;exact⟨i,h1,rfl,A8 hf,h2⟩
theorem Kp {V:aa} (hV:wc V) {b3 b4:Nat} {t3 t4:TypeId} {l:List aE} {i:Nat} (hi:i<l.length) {cm:aH gr} {x z:a6} {g:List Nat} {ok:Bool} (hx:aY.R V cm x g) (ha:Cu l[i].2 x=(z,ok))
  (h3:V b3=some ([.int .i64 (i:Int)],(t3,(0,0)))) (h4:V b4=some (aH.aD gr cm,(t4,(0,0)))):Change V 451 [.pointer (some ⟨b3,0,none⟩),.pointer (some ⟨b4,0,none⟩)] l (l.set i (l[i].1,z)) ok:=by
 intro V1 b q s f le hbV G O hl1 Vq lT;have L:=G.lr (show l.length<=9223372036854775807 by omega);refine aM (Cr ⟨b,2,none⟩ ⟨b3,0,none⟩ ⟨b4,0,none⟩) fun _=>?_
 simp only [rh,T.wp];obtain⟨bb,o,cs,u,c,fc,Sq,hbb,hlen,lZ,hR,hfc,vZ⟩:=L.putRow O hi;have hn:=L.1;have e0:(i:Int).toNat=i:=by omega
 refine⟨V1,aa.le.refl _,s,?_,(i:Int),?_,?_⟩
 ·simp only [ah,aQ,if_true,lT]; rfl
 ·simp only [aQ,if_true,le _ _ h3]; rfl
 rw [e0];refine⟨_,Sq,by omega,by omega,c.2,jz lZ rfl,cm,?_,(Kl (iS.le hV le) c.2 cm l[i].2 x fc g hR.2 (aY.le hx le)).mono ?_⟩
 ·simp only [aQ,if_true,le _ _ h4]; rfl
 rintro V2 _ ⟨bm,cz,z',ok',fz,rfl,Rz,Oz,sW⟩;obtain⟨rfl,rfl⟩:z'=z/\ok'=ok:=by
  have:=sW.symm.trans ha;simpa using this
 have l2:=le.trans bm;obtain⟨f',Lf,Of,lef,Vt,P1⟩:=vZ (c':=(c.1,cz)) (x':=(l[i].1,z')) (k:=1) (vs:=aH.aD gr cz) bm l2 ⟨hR.1,Rz⟩ (O.append Oz le bm) (by simp [cF]) (Ko c cz);refine⟨fun _=>bm,(cz,ok',()),rfl,s,?_,(i:Int),?_,?_⟩
 ·simp only [ah,aQ,if_true,bm _ _ lT]; rfl
 ·simp only [aQ,if_true,l2 _ _ h3]; rfl
 rw [e0];refine⟨_,Sq,by omega,by omega,cs,u,?_⟩
 simp only [ah];have bR:b≠bb:=fun e=>Vq (by rw [e]; exact Vt)
 refine⟨trivial,bm _ _ hbb,by omega,rfl,lef,s,?_,fun _=>⟨f',Lf,Of,fun hm=>?_⟩⟩
 ·rw [bh bR]; exact bm _ _ lT
 rcases P1 b hm with h | h
 ·exact Vq h
 rw [Oz.2.1 b h] at lT; cases lT
theorem Kq {V:aa} (hV:wc V) (s:ar) (l:List aE) (f:List Nat) (h:LR aw V s l f) (n:ByteArray) (cm:aH gr) (x:a6) (g:List Nat) (hx:aY.R V cm x g) :
  ae prog V 449 [dJ (s,()),.string n,ct cm] (Bb V (pS l n x)):=by
 refine aM (JD _ _ _) fun _=>?_
 simp only [xQ,T.wp];refine(nL V s l f h n).mono ?_
 rintro V1 _ ⟨aF,rfl⟩;refine⟨nofun,_,rfl,(qy (hV.le aF) s l f (h.le aF)).mono ?_⟩
 rintro V2 _ ⟨bm,e2,rfl,fq⟩;have l2:=aF.trans bm;refine⟨nofun,e2,rfl,fun hf=>?_,fun h2=>⟨fun aN=>?_,fun cg=>?_⟩⟩
 ·rw [Kd (fun k=>by rw [fq.2 k] at hf; cases hf)]
  exact Be l2
 ·rw [A9 (jA.1 (bq aN))]
  exact Be l2
 have pe:=fq.1 (by simpa using h2);obtain⟨i,hi,hfi,WN,gM⟩:=yC (bU cg);rw [WN];obtain⟨⟨z,ok⟩,ha⟩:∃ r,Cu l[i].2 x=r:=⟨_,rfl⟩;rw [r6 pe hfi hi ha];intro b3 im b4 hb4;have q3:=aG (x:=([Value.int .i64 (i:Int)],((3:TypeId),((0,0):Nat × Nat)))) im;have q4:=aG (x:=(aH.aD gr cm,((89:TypeId),((0,0):Nat × Nat)))) hb4;have v3:aB (aB V2 b3 ([Value.int .i64 (i:Int)],((3:TypeId),((0,0):Nat × Nat)))) b4 (aH.aD gr cm,((89:TypeId),((0,0):Nat × Nat))) b3=some _:=q4 _ _ av;have l4:=l2.trans (q3.trans q4);refine(Bc s l f (h.le l4) (by have:=pQ pe; omega) 451 [.pointer (some ⟨b3,0,none⟩),.pointer (some ⟨b4,0,none⟩)] (l.set i (l[i].1,z)) ok rfl (Kp (hV.le l4) hi (aY.le hx l4) ha v3 av)).mono ?_
 rintro V5 _ ⟨fu,s5,f5,rfl,L5,O5⟩;exact⟨nofun,((s5,()),ok,()),rfl,l4.trans fu,s5,f5,rfl,L5,O5.pre l4⟩
theorem Kr {V:aa} (hV:D4 V) (s:ar) (l:List aE) (f:List Nat) (h:LR aw V s l f) (n:ByteArray) (cm:aH gr) (x:a6) (g:List Nat) (hx:aY.R V cm x g) :
  ae prog V 298 [dJ (s,()),.string n,ct cm] (Bb V (pS l n x)):=by
 refine aM (Js _ _ _) fun _=>?_
 simp only [xJ,T.wp];refine(nK V s l f h n).mono ?_
 rintro V1 _ ⟨aF,rfl⟩;refine⟨nofun,_,rfl,(qx (hV.le aF) s l f (h.le aF)).mono ?_⟩
 rintro V2 _ ⟨bm,e2,rfl,fq⟩;have l2:=aF.trans bm;refine⟨nofun,e2,rfl,fun hf=>?_,fun h2=>⟨fun aN=>?_,fun cg=>?_⟩⟩
 ·rw [Kd (fun k=>by rw [fq.2 k] at hf; cases hf)]
  exact Be l2
 ·rw [A9 (jA.1 (bq aN))]
  exact Be l2
 have pe:=fq.1 (by simpa using h2);obtain⟨i,hi,hfi,WN,gM⟩:=yC (bU cg);have e0:(i:Int).toNat=i:=by omega
 rw [WN,e0];have hL:=h.le l2;have hn:=hL.1;obtain⟨b1,o1,c1,fc,a1,l1,hR,_⟩:=hL.at hi;refine⟨_,a1,by omega,by omega,c1.2,jz l1 rfl,(Km c1.2 cm l[i].2 x fc g hR.2 (aY.le hx l2)).mono ?_⟩
 rintro V3 _ ⟨bS,cz,z,ok,fz,rfl,Rz,Oz,ha⟩;have l3:=l2.trans bS;rw [r6 pe hfi hi ha];refine⟨fun _=>bS,(cz,ok,()),rfl,fun hf=>?_,fun ht=>?_⟩
 ·have:ok=false:=by simpa using hf
  subst this;exact Be l3
 have:ok=true:=by simpa using ht
 subst this;refine(sg V3 (s,()) (l,()) _ (cC.mk (h.le l3) a8.mk) (by show l.length+aC aw l+0<=1048576; have:=pQ pe; omega)).mono ?_
 rintro V4 _ ⟨jm,⟨s4,su⟩,f4,rfl,⟨g4,g5,e4,L4,hN⟩,O4⟩;replace L4:LR aw V4 s4 l g4:=L4;replace hN:g5=[]:=hN;subst hN;rw [List.append_nil] at e4;subst e4;have hn4:=L4.1;obtain⟨bb,o,cs,u,c,fc4,Sq,hbb,hlen,lZ,hR4,hfc,vZ⟩:=L4.putRow (O4.pre bS) hi;obtain⟨f',Lf,Of,lef,_⟩:=vZ (c':=(c.1,cz)) (x':=(l[i].1,z)) (k:=1) (vs:=aH.aD gr cz) (aa.le.refl _) (bS.trans jm) ⟨hR4.1,aY.le Rz jm⟩ ((Oz.append O4 bS jm).perm List.perm_append_comm) (by simp [cF]) (Ko c cz);refine⟨nofun,(s4,()),rfl,_,Sq,by omega,(by show(i:Int)<(s4.n:Int); omega),cs,u,?_⟩
 simp only [ah];exact⟨trivial,hbb,(by show o+i*4+1+3<=cs.length; have h4:o+i*4+4<=cs.length:=hlen; omega),l2.trans lef,s4,f',rfl,Lf,Of.pre l2⟩
theorem Bf {V:aa} {c:aH [.s,.l]} {x:iZ} {f:List Nat} (h:cZ.R V c x f):∃ s g,c=(x.1,s,())/\LR az V s x.2.1 g:=by
 obtain⟨c0,c1,cu⟩:=c;obtain⟨⟨e0,_⟩,g,r,rfl,hs,_⟩:=h;replace e0:c0=x.1:=e0;subst e0;exact⟨c1,g,rfl,hs⟩
theorem sl (V:aa) (c:aH [.s,.s,.b,.l,.i .i64]) (x:aW) (f:List Nat) (h:az.R V c x f) (ok:bJ x) :
  ae prog V 315 [fV c] (fun V' r=>V.le V'/\∃ c' f',r=fV c'/\az.R V' c' x f'/\cQ V V' f'):=by
 obtain⟨c0,c1,c2,c3,c4,cu⟩:=c;obtain⟨x0,x1,x2,x3,x4,xu⟩:=x;obtain⟨⟨e0,z0⟩,h⟩:=h;replace e0:c0=x0:=e0;subst e0;obtain⟨⟨e1,z1⟩,h⟩:=h;replace e1:c1=x1:=e1;subst e1;obtain⟨e2,h⟩:=h;replace e2:c2=x2:=e2;subst e2;obtain⟨g,g2,_,hs,h⟩:=h;replace hs:LR rI V c3 x3 g:=hs;obtain⟨e4,_⟩:=h;replace e4:c4=x4:=e4;subst e4;have oi:eD c2 x3:=ok.2.2.2.1.1;refine aM (OU _) fun _=>?_
 simp only [AG,T.wp];refine(oE V c2 c3 x3 g hs oi.1.1 oi.1.2).mono ?_
 rintro V1 _ ⟨aF,s1,f1,rfl,L1,O1⟩;refine⟨fun _=>aF,_,rfl,aF,(c0,c1,c2,s1,c4,()),_,?_,cr.mk z0 (cr.mk z1 (bB.mk (cC.mk L1 (np.mk a8.mk)))),by simpa using O1⟩
 have:(c2 && decide (0<x3.length))=c2:=by
  cases c2
  ·rfl
  have:=oi.2 rfl;simpa using this
 show fV (c0,c1,(c2 && decide (0<x3.length)),s1,c4,())=_
 rw [this]
theorem Ks (V:aa) (c:aH [.s,.l]) (x:iZ) (f:List Nat) (hx:cZ.R V c x f) (ht:cZ.cB x<=1048576) (ok:∀ i (h:i<x.2.1.length),bJ x.2.1[i]):ae prog V 314 [iK c] (Kj V x):=by
 obtain⟨p0,s,cu⟩:=c;obtain⟨q0,l,xu⟩:=x;obtain⟨⟨ep,zp⟩,hx⟩:=hx;replace ep:p0=q0:=ep;subst ep;obtain⟨f1,vv,ef,sc,hx⟩:=hx;subst ef;replace sc:LR az _ s l f1:=sc;replace hx:_=[]:=hx;subst hx;replace ht:(p0.size+(l.length+aC az l+0))<=1048576:=ht;have hn:=sc.1;refine aM (OT _) fun _=>?_
 simp only [AF,F9,T.wp];refine⟨fun y V'=>y.2.1=p0/\dV az pT V l y.1 y.2.2.1 V',fun y _=>((l.length:Int)-(y.1:Int)).toNat,⟨((0:Int),p0,⟨none,0,0⟩,()),rfl,rfl,dV.start⟩,?_⟩
 rintro⟨(i:Int),p1,s1,u⟩ V' ⟨hp,hI⟩;replace hp:p1=p0:=hp;subst hp;have wk:dV az pT V l i s1 V':=hI;refine⟨fun aN=>?_,fun cg=>?_⟩
 ·have Vm:=wk
  obtain⟨hle,k,f0,rfl,hk,_,_⟩:=wk;have h1:k<l.length:=by
   have:(k:Int)<(s.n:Int):=by simpa using aN
   omega
  obtain⟨b1,o1,c1,fc,a1,l1,r1,_⟩:=(sc.le hle).at h1;have htx:=iN az h1;refine⟨_,a1,(by omega:(0:Int)<=(k:Int)),(by omega:(k:Int)<(s.n:Int)),c1,l1,?_⟩
  refine(sl V' c1 l[k] fc r1 (ok k h1)).mono ?_
  rintro V2 r ⟨bG,⟨c2,c3,c4,c5,c6,cv⟩,f2,rfl,hR,hO⟩;refine⟨fun _=>bG,(c2,c3,c4,c5,c6,()),rfl,rfl,rfl,?_⟩
  refine lI (sh:=[.s,.s,.b,.l,.i .i64]) (c:=(c2,c3,c4,c5,c6,())) Vm h1 bG (e:=az) (bytes:=72) (fx:=f2) hR hO (by kernel_rfl) (by omega) (by omega) fun s' V3 h3=>?_
  refine⟨_,rfl,(((k+1:Nat):Int),p1,s',()),by rw [kD h1 (by omega)]; rfl,⟨rfl,h3⟩,?_⟩
  show((l.length:Int)-((k+1:Nat):Int)).toNat<((l.length:Int)-(k:Int)).toNat
  omega
 have hi:¬ i<(l.length:Int):=by
  have:¬ i<(s.n:Int):=by simpa using cg
  omega
 obtain⟨hle,f3,hL,hO⟩:=wk.finG hi;exact⟨hle,s1,f3,rfl,hL,hO⟩
theorem Ku:zy prog 80 cZ:=by
 rintro V ⟨p0,s,cu⟩ ⟨q0,l,xu⟩ f hx ht;obtain⟨⟨ep,zp⟩,hx⟩:=hx;replace ep:p0=q0:=ep;subst ep;obtain⟨f1,vv,ef,sc,hx⟩:=hx;subst ef;replace sc:LR az _ s l f1:=sc;replace hx:_=[]:=hx;subst hx;replace ht:(p0.size+(l.length+aC az l+0))<=1048576:=ht;have hn:=sc.1;refine aM (IF _) fun _=>?_
 show T.wp _ _ (T.lp [.o (.o (.i .i64)),.o (.o (.s)),.o (.o (.l))] [.v (.int .i64 (0:Int)),.v (.string p0),.v (.slice none 0 0)] fun y1=>.br (decide (y1.1<(s.n:Int))) (.el s.a s.n y1.1 fun y2=>.ld false (y2.add (Int.toNat y1.1*(5:Nat))) (.g [.s,.s,.b,.l,.i .i64]) fun y3=>.rg <| Zq y3.2.2.2.1 fun s5 =>
  .rq ([Value.string y3.1,.string y3.2.1,.bool y3.2.2.1,.slice s5.a s5.n s5.c,.int .i64 y3.2.2.2.2.1].length=(1:Nat)*(5:Nat)) <| .rq (one [Value.string y3.1,.string y3.2.1,.bool y3.2.2.1,.slice s5.a s5.n s5.c,.int .i64 y3.2.2.2.2.1]=true) <|
  apD y1.2.2.1 5 72 [Value.string y3.1,.string y3.2.1,.bool y3.2.2.1,.slice s5.a s5.n s5.c,.int .i64 y3.2.2.2.2.1] 1 pT fun y6=>.nx 0 [.v (.int .i64 (i64.wrap (y1.1+(1:Int)))),.v (.string y1.2.1),.v (qL y6)]) <| .ret [iK y1.2]) V V []
 simp only [T.wp];refine⟨fun y V'=>y.2.1=p0/\dV az pT V l y.1 y.2.2.1 V',fun y _=>((l.length:Int)-(y.1:Int)).toNat,⟨((0:Int),p0,⟨none,0,0⟩,()),rfl,rfl,dV.start⟩,?_⟩
 rintro⟨(i:Int),p1,s1,u⟩ V' ⟨hp,hI⟩;replace hp:p1=p0:=hp;subst hp;have wk:dV az pT V l i s1 V':=hI;refine⟨fun aN=>?_,fun cg=>?_⟩
 ·have Vm:=wk
  obtain⟨hle,k,f0,rfl,hk,_,_⟩:=wk;have h1:k<l.length:=by
   have:(k:Int)<(s.n:Int):=by simpa using aN
   omega
  obtain⟨b1,o1,c1,fc,a1,l1,r1,_⟩:=(sc.le hle).at h1;have htx:=iN az h1;refine⟨_,a1,(by omega:(0:Int)<=(k:Int)),(by omega:(k:Int)<(s.n:Int)),c1,l1,?_⟩
  obtain⟨c2,c3,c4,c5,c6,cv⟩:=c1;obtain⟨⟨e0,z0⟩,r2⟩:=r1;replace e0:c2=l[k].1:=e0;obtain⟨⟨e1,z1⟩,r2⟩:=r2;replace e1:c3=l[k].2.1:=e1;obtain⟨e2,r2⟩:=r2;replace e2:c4=l[k].2.2.1:=e2;obtain⟨g,g2,_,hs,r2⟩:=r2;replace hs:LR rI V' c5 l[k].2.2.2.1 g:=hs;obtain⟨e4,_⟩:=r2;replace e4:c6=l[k].2.2.2.2.1:=e4;have tq:l[k].2.2.2.1.length<=1048576:=by
   have e:az.cB l[k]=l[k].1.size+(l[k].2.1.size+(l[k].2.2.2.1.length+aC rI l[k].2.2.2.1+0)):=rfl;omega
  refine Ge hs tq fun V2 s' f2 bG L2 O2=>⟨rfl,rfl,?_⟩
  refine lI (sh:=[.s,.s,.b,.l,.i .i64]) (c:=(c2,c3,c4,s',c6,())) Vm h1 bG (e:=az) (bytes:=72) (fx:=f2++[]) ⟨⟨e0,z0⟩,⟨e1,z1⟩,e2,f2,[],rfl,L2,e4,rfl⟩ (by simpa using O2) (by kernel_rfl) (by omega) (by omega) fun s' V3 h3=>?_
  refine⟨_,rfl,(((k+1:Nat):Int),p1,s',()),by rw [kD h1 (by omega)]; rfl,⟨rfl,h3⟩,?_⟩
  show((l.length:Int)-((k+1:Nat):Int)).toNat<((l.length:Int)-(k:Int)).toNat
  omega
 have hi:¬ i<(l.length:Int):=by
  have:¬ i<(s.n:Int):=by simpa using cg
  omega
 obtain⟨hle,f3,hL,hO⟩:=wk.fin (by omega) hi;exact⟨hle,(p1,s1,()),f3++[],rfl,cr.mk zp (cC.mk hL a8.mk),by simpa using hO⟩
def Bg (r:aW):List aW->List aW
 | []=>[r]
 | x :: l=>if dn x=dn r then r :: l else x :: Bg r l
theorem Gh {r:aW}:∀ {l:List aW} {i:Nat} (h:i<l.length),dn l[i]=dn r->(∀ (j:Nat) (hj:j<l.length),j<i->dn l[j]≠dn r)->Bg r l=l.set i r
 | x :: l,0,_,e,_=>by
  have e:dn x=dn r:=e;rw [Bg,if_pos e,List.set_cons_zero]
 | x :: l,i+1,h,e,hj=>by
  have h0:dn x≠dn r:=hj 0 (by simp) (by omega);rw [Bg,if_neg h0,List.set_cons_succ,Gh (l:=l) (i:=i) (by simpa using h) (by simpa using e) fun j hj' WM=>by
   have:=hj (j+1) (by simpa using hj') (by omega);simpa using this]
theorem nM {r:aW}:∀ {l:List aW},(∀ (j:Nat) (hj:j<l.length),dn l[j]≠dn r)->Bg r l=l++[r]
 | [],_=>rfl
 | x :: l,h=>by
  have h0:dn x≠dn r:=h 0 (by simp);rw [Bg,if_neg h0,nM (l:=l) fun j hj=>by
   have:=h (j+1) (by simpa using hj);simpa using this]
  rfl
theorem Kv {p:ByteArray} {l:List aW} {r:aW} (h:fb p l) (hr:bJ r) {i:Nat} (hi:i<l.length) (e:dn l[i]=dn r):fb p (l.set i r):=by
 have hk:∀ (j:Nat) (hj:j<(l.set i r).length),dn (l.set i r)[j]=dn (l[j]'(by simpa using hj)):=fun j hj=>by
  rw [List.getElem_set];split
  ·rename_i ij; subst ij; exact e.symm
  rfl
 refine⟨h.1,by rw [List.length_set]; exact h.2.1,fun j hj=>?_⟩
 obtain⟨q0,q1,q2⟩:=h.2.2 j (by simpa using hj);refine⟨hj,?_,fun m hm hmj=>by rw [hk,hk]; exact q2 m (by simpa using hm) hmj⟩
 rw [List.getElem_set];split
 ·exact hr
 exact q1
theorem uJ {p:ByteArray} {l:List aW} {r:aW} (h:fb p l) (hr:bJ r) (hn:∀ (j:Nat) (hj:j<l.length),dn l[j]≠dn r):fb p (l++[r])↔l.length+1<=12:=by
 refine⟨fun k=>by simpa using k.2.1,fun k=>⟨h.1,by simpa using k,fun j hj=>?_⟩⟩
 by_cases c:j<l.length
 ·obtain⟨q0,q1,q2⟩:=h.2.2 j c
  refine⟨hj,by rw [List.getElem_append_left c]; exact q1,fun m hm hmj=>?_⟩
  rw [List.getElem_append_left c,List.getElem_append_left (by omega)];exact q2 m (by omega) hmj
 obtain rfl:j=l.length:=by simp at hj; omega
 refine⟨hj,by simpa using hr,fun m hm hmj=>?_⟩
 rw [List.getElem_append_left hmj];simpa using hn m hmj
def oY (p:ByteArray) (l:List aW) (r:aW):Prop:=fb p l/\bJ r/\(Bg r l).length<=12
open Classical in
noncomputable def Zw (x:iZ) (r:aW):iZ × Bool:=if oY x.1 x.2.1 r then ((x.1,Bg r x.2.1,()),true) else ((ByteArray.empty,[],()),false)
theorem qC {x:iZ} {r:aW} (h:oY x.1 x.2.1 r):Zw x r=((x.1,Bg r x.2.1,()),true):=if_pos h
theorem Gi {x:iZ} {r:aW} (h:¬ oY x.1 x.2.1 r):Zw x r=((ByteArray.empty,[],()),false):=if_neg h
abbrev Gj (V:aa) (y:iZ × Bool):aa->Value->Prop:=fun V' v=>V.le V'/\∃ c f,v=.tuple #[iK c,.bool y.2]/\cZ.R V' c y.1 f/\cQ V V' f
theorem Vu (V:aa):cZ.R V (ByteArray.empty,⟨none,0,0⟩,()) (ByteArray.empty,[],()) []:=cr.mk (by decide) (cC.mk (f:=[]) ⟨rfl,Nat.le_refl _,by decide,.inl ⟨rfl,fun _=>rfl,rfl⟩⟩ a8.mk)
theorem wm {V V':aa} {x:iZ} {r:aW} (le:V.le V') (h:¬ oY x.1 x.2.1 r):Gj V (Zw x r) V' (packed [iK (ByteArray.empty,⟨none,0,0⟩,()),.bool false]):=by
 rw [Gi h];exact⟨le,(ByteArray.empty,⟨none,0,0⟩,()),[],rfl,Vu V',cQ.nil⟩
theorem Vv {V:aa} {c:aH [.s,.s,.b,.l,.i .i64]} {x:aW} {f:List Nat} (h:az.R V c x f):c.1=x.1/\c.2.1=x.2.1:=⟨h.1.1,h.2.1.1⟩
theorem P8 {V:aa} (hV:D4 V) (c:aH [.s,.l]) (x:iZ) (f:List Nat) (h:cZ.R V c x f) (ht:cZ.cB x<=1048576) (d:aH [.s,.s,.b,.l,.i .i64]) (r:aW) (g:List Nat) (hr:az.R V d r g) (_:az.cB r<=1048576) :
  ae prog V 261 [iK c,fV d] (Gj V (Zw x r)):=by
 refine aM (OL _ _) fun _=>?_
 obtain⟨s,fl,rfl,hl⟩:=Bf h;have hn:=hl.1;obtain⟨s3,g3,rfl,hm⟩:=iq hr;simp only [AB,F9,T.wp];refine(oF x.1 s x.2.1 fl hl).mono ?_
 rintro V1 _ ⟨aF,e1,rfl,gB⟩;refine⟨nofun,e1,rfl,fun hf=>wm aF fun k=>?_,fun h1=>?_⟩
 ·rw [gB.2 k.1] at hf; cases hf
 have oH:=gB.1 (by simpa using h1);refine(kU (hV.le aF) r s3 g3 (hm.le aF)).mono ?_
 rintro V2 _ ⟨bm,e2,rfl,fq⟩;have l2:=aF.trans bm;refine⟨nofun,e2,rfl,fun hf=>wm l2 fun k=>?_,fun h2=>?_⟩
 ·rw [fq.2 k.2.1] at hf; cases hf
 have pe:=fq.1 (by simpa using h2);refine(Ks V2 _ x f (cZ.le h l2) ht (fun i hi=>by obtain⟨_,q,_⟩:=oH.2.2 i hi; exact q)).mono ?_
 rintro V3 _ ⟨bS,s',f',rfl,G3,O3⟩;have l3:=l2.trans bS;have qK:=oH.2.1;refine⟨nofun,(x.1,s',()),rfl,(D7 V3 s x.2.1 fl (hl.le l3) r.1 r.2.1).mono ?_⟩
 rintro V4 _ ⟨rfl,k,rfl,hk⟩;have L3:=G3.lr (show x.2.1.length<=9223372036854775807 by omega);refine⟨nofun,k,rfl,fun cg=>?_,fun aN=>?_⟩
 ·obtain⟨i,hi,rfl,Mt,hj⟩:∃ (i:Nat) (hi:i<x.2.1.length),k=(i:Int)/\dn x.2.1[i]=(r.1,r.2.1)/\∀ (j:Nat) (hj:j<x.2.1.length),j<i->dn x.2.1[j]≠(r.1,r.2.1):=by
   rcases hk with hk | ⟨rfl,_⟩
   ·exact hk
   exact absurd (show(-1:Int)>=0 from bq cg) (by omega)
  have wo:=Gh hi Mt hj;have eg:oY x.1 x.2.1 r:=⟨oH,pe,by rw [wo,List.length_set]; exact qK⟩
  refine(sl V4 _ r g (az.le hr l3) pe).mono ?_
  rintro V5 _ ⟨fu,c5,f5,rfl,R5,O5⟩;obtain⟨b,o,cs,u,c6,fc,ha,hb,hlen,_,_,_,vZ⟩:=(L3.le fu).putRow (V0:=V2) (O3.post fu) hi;have l5:=l3.trans fu;have H9:=L3.1;have e0:(i:Int).toNat=i:=by omega
  obtain⟨q0,q1,q2,q3,q4,qu⟩:=c5;obtain⟨fN,LN,ON,leN,_⟩:=vZ (k:=0) (vs:=aH.aD [.s,.s,.b,.l,.i .i64] (q0,q1,q2,q3,q4,())) (aa.le.refl _) (bS.trans fu) R5 (O3.append O5 bS fu) (by simp [cF]) (Bd (by rw [cF,cF]));refine⟨fun _=>fu,_,rfl,_,ha,(by omega:(0:Int)<=(i:Int)),(by show(i:Int)<(s'.n:Int); omega),?_⟩
  rw [e0];simp only [ah];refine⟨cs,u,trivial,hb,hlen,?_⟩
  refine(oF x.1 s' (x.2.1.set i r) fN LN).mono ?_
  rintro V6 _ ⟨rk,e6,rfl,he6⟩;obtain rfl:e6=true:=he6.2 (Kv oH pe hi Mt);refine⟨nofun,true,rfl,nofun,fun _=>?_⟩
  rw [qC eg,wo];exact⟨l2.trans (leN.trans rk),(x.1,s',()),fN++[],rfl,cr.mk (h.1.2) (cC.mk (LN.le rk) a8.mk),by simpa using (ON.post rk).pre l2⟩
 have kb:∀ (j:Nat) (hj:j<x.2.1.length),dn x.2.1[j]≠(r.1,r.2.1):=by
  rcases hk with ⟨i,_,rfl,_⟩ | ⟨_,hk⟩
  ·exact absurd (show ¬ (i:Int)>=0 from bU aN) (by omega)
  exact hk
 have wo:=nM (r:=r) kb;refine(sl V4 _ r g (az.le hr l3) pe).mono ?_
 rintro V5 _ ⟨fu,⟨q0,q1,q2,q3,q4,qu⟩,f5,rfl,R5,O5⟩;refine⟨fun _=>fu,_,rfl,rfl,rfl,?_⟩
 refine P0 (r:=az) (sh:=[.s,.s,.b,.l,.i .i64]) (c:=(q0,q1,q2,q3,q4,())) (V0:=V2) (G3.le fu) R5 (O3.append O5 bS fu) (bS.trans fu) (by kernel_rfl) (by omega) (by omega) fun s6 V6 f6 G6 O6 rk=>?_
 have L6:=G6.lr (by simp; omega)
 refine(oF x.1 s6 (x.2.1++[r]) f6 L6).mono ?_
 rintro V7 _ ⟨o8,e7,rfl,he7⟩;have hl7:=l2.trans (rk.trans o8);refine⟨nofun,e7,rfl,fun hf=>wm hl7 fun k=>?_,fun hT=>?_⟩
 ·have k3:=k.2.2
  rw [wo] at k3;rw [he7.2 ((uJ oH pe kb).2 (by simpa using k3))] at hf;cases hf
 have k7:=he7.1 (by simpa using hT);rw [qC ⟨oH,pe,by rw [wo]; exact k7.2.1⟩,wo]
 exact⟨hl7,(x.1,s6,()),f6++[],rfl,cr.mk (h.1.2) (cC.mk (L6.le o8) a8.mk),by simpa using (O6.post o8).pre l2⟩
theorem P9 {V:aa} (hV:wc V) (c:aH [.s,.l]) (x:iZ) (f:List Nat) (h:cZ.R V c x f) (ht:cZ.cB x<=1048576) (d:aH [.s,.s,.b,.l,.i .i64]) (r:aW) (g:List Nat) (hr:az.R V d r g) (tr:az.cB r<=1048576) :
  ae prog V 544 [iK c,fV d] (Gj V (Zw x r)):=by
 refine aM (Pd _ _) fun _=>?_
 obtain⟨s,fl,rfl,hl⟩:=Bf h;have hn:=hl.1;obtain⟨s3,g3,rfl,hm⟩:=iq hr;simp only [AP,F9,T.wp];refine(rX hV x.1 s x.2.1 fl hl).mono ?_
 rintro V1 _ ⟨aF,e1,rfl,gB⟩;refine⟨nofun,e1,rfl,fun hf=>wm aF fun k=>?_,fun h1=>?_⟩
 ·rw [gB.2 k.1] at hf; cases hf
 have oH:=gB.1 (by simpa using h1);refine(kV (hV.le aF) r s3 g3 (hm.le aF)).mono ?_
 rintro V2 _ ⟨bm,e2,rfl,fq⟩;have l2:=aF.trans bm;refine⟨nofun,e2,rfl,fun hf=>wm l2 fun k=>?_,fun h2=>?_⟩
 ·rw [fq.2 k.2.1] at hf; cases hf
 have pe:=fq.1 (by simpa using h2);refine(xX V2 _ x f (cZ.le h l2) ht).mono ?_
 rintro V3 _ ⟨bS,s',f',rfl,G3,O3⟩;have l3:=l2.trans bS;have qK:=oH.2.1;have L3:=G3.lr (show x.2.1.length<=9223372036854775807 by omega);have H9:=L3.1;refine⟨nofun,(x.1,s',()),rfl,?_⟩
 refine⟨fun y V'=>V'=V3/\y.2.2.2=(x.1,s',())/\∃ i:Nat,y.1=(i:Int)/\i<=x.2.1.length/\∀ (j:Nat) (hj:j<x.2.1.length),j<i->dn x.2.1[j]≠dn r,fun y _=>((x.2.1.length:Int)-(y.1:Int)).toNat,⟨((0:Int),ByteArray.empty,⟨none,0,0⟩,x.1,s',()),rfl,rfl,rfl,0,rfl,Nat.zero_le _,fun j _ h=>by omega⟩,?_⟩
 rintro⟨(i:Int),y1,y2,y3,y4,yu⟩ V' ⟨rfl,hy,k,hk,lV,bC⟩;replace hk:i=(k:Int):=hk;subst hk;replace hy:(y3,y4,())=(x.1,s',()):=hy;obtain⟨rfl,rfl⟩:y3=x.1/\y4=s':=by
  simp only [Prod.mk.injEq,and_true] at hy;exact hy
 have e0:(k:Int).toNat=k:=by omega
 refine⟨fun aN=>?_,fun cg=>?_⟩
 ·have hi:k<x.2.1.length:=by
   have:(k:Int)<(y4.n:Int):=bq aN;omega
  have next:dn x.2.1[k]≠dn r->∃ y':cH [.o (.o (.i .i64)),.o (.o (.s)),.o (.o (.l)),.o (.o (.s)),.o (.o (.l))],[LV.v (.int .i64 (i64.wrap ((k:Int)+1))),.v (.string y1),.v (qL y2),.v (.string x.1),.v (qL y4)]=cH.nf _ y'/\(V'=V'/\y'.2.2.2=(x.1,y4,())/\∃ i:Nat,y'.1=(i:Int)/\i<=x.2.1.length/\∀ (j:Nat) (hj:j<x.2.1.length),j<i->dn x.2.1[j]≠dn r)/\((x.2.1.length:Int)-(y'.1:Int)).toNat<((x.2.1.length:Int)-(k:Int)).toNat:=by
   intro hp;refine⟨(((k+1:Nat):Int),y1,y2,x.1,y4,()),by rw [kD hi (by omega)]; rfl,⟨rfl,rfl,k+1,rfl,hi,fun j hj h2=>?_⟩,?_⟩
   ·by_cases e:j=k
    ·subst e; exact hp
    exact bC j hj (by omega)
   show((x.2.1.length:Int)-((k+1:Nat):Int)).toNat<((x.2.1.length:Int)-(k:Int)).toNat
   omega
  obtain⟨bb,oo,cc,fcc,a1,part,rc,_⟩:=L3.part hi;obtain⟨rc0,rc1⟩:=Vv rc;obtain⟨cc0,cc1,cc2,cc3,cc4,ccu⟩:=cc;replace rc0:cc0=x.2.1[k].1:=rc0;replace rc1:cc1=x.2.1[k].2.1:=rc1;dsimp only;rw [e0];refine⟨_,a1,by omega,by omega,cc0,part 0 1 _ rfl,fun h1=>⟨_,a1,by omega,by omega,cc1,part 1 1 _ rfl,fun h2=>?_,fun h2=>⟨_,rfl,next fun e=>?_⟩⟩,fun h1=>⟨_,rfl,next fun e=>?_⟩⟩
  ·have Mt:dn x.2.1[k]=dn r:=qz.2 ⟨rc0.symm.trans (aR.1 h1),rc1.symm.trans (aR.1 h2)⟩
   have wo:=Gh hi Mt bC;have eg:oY x.1 x.2.1 r:=⟨oH,pe,by rw [wo,List.length_set]; exact qK⟩
   refine(pU V' _ r g (az.le hr l3) tr).mono ?_
   rintro V5 _ ⟨fu,⟨q0,q1,q2,q3,q4,qu⟩,f5,rfl,R5,O5⟩;obtain⟨b,o,cs,u,c6,fc,ha,hb,hlen,_,_,_,vZ⟩:=(L3.le fu).putRow (V0:=V2) (O3.post fu) hi;have l5:=l3.trans fu;obtain⟨fN,LN,ON,leN,_⟩:=vZ (k:=0) (vs:=aH.aD [.s,.s,.b,.l,.i .i64] (q0,q1,q2,q3,q4,())) (aa.le.refl _) (bS.trans fu) R5 (O3.append O5 bS fu) (by simp [cF]) (Bd (by rw [cF,cF]));refine⟨fun _=>fu,_,rfl,_,ha,by omega,by omega,?_⟩
   simp only [ah];refine⟨cs,u,trivial,hb,hlen,?_⟩
   rw [qC eg,wo];exact⟨l2.trans leN,(x.1,y4,()),fN++[],rfl,cr.mk (h.1.2) (cC.mk LN a8.mk),by rw [List.append_nil]; exact ON.pre l2⟩
  ·have:=aR.2 (rc1.trans (qz.1 e).2)
   rw [this] at h2; cases h2
  have:=aR.2 (rc0.trans (qz.1 e).1);rw [this] at h1; cases h1
 have hi:k=x.2.1.length:=by
  have:¬ (k:Int)<(y4.n:Int):=bU cg;omega
 subst hi;have kb:∀ (j:Nat) (hj:j<x.2.1.length),dn x.2.1[j]≠(r.1,r.2.1):=fun j hj=>bC j hj hj
 have wo:=nM (r:=r) kb;refine(pU V' _ r g (az.le hr l3) tr).mono ?_
 rintro V5 _ ⟨fu,⟨q0,q1,q2,q3,q4,qu⟩,f5,rfl,R5,O5⟩;refine⟨fun _=>fu,_,rfl,rfl,rfl,?_⟩
 refine P0 (r:=az) (sh:=[.s,.s,.b,.l,.i .i64]) (c:=(q0,q1,q2,q3,q4,())) (V0:=V2) (G3.le fu) R5 (O3.append O5 bS fu) (bS.trans fu) (by kernel_rfl) (by omega) (by omega) fun s6 V6 f6 G6 O6 rk=>?_
 have L6:=G6.lr (by simp; omega)
 refine(rX (hV.le (l2.trans rk)) x.1 s6 (x.2.1++[r]) f6 L6).mono ?_
 rintro V7 _ ⟨o8,e7,rfl,he7⟩;have hl7:=l2.trans (rk.trans o8);refine⟨nofun,e7,rfl,fun hf=>wm hl7 fun k=>?_,fun hT=>?_⟩
 ·have k3:=k.2.2
  rw [wo] at k3;rw [he7.2 ((uJ oH pe kb).2 (by simpa using k3))] at hf;cases hf
 have k7:=he7.1 (by simpa using hT);rw [qC ⟨oH,pe,by rw [wo]; exact k7.2.1⟩,wo]
 exact⟨hl7,(x.1,s6,()),f6++[],rfl,cr.mk (h.1.2) (cC.mk (L6.le o8) a8.mk),by simpa using (O6.post o8).pre l2⟩
abbrev dq:List Sc:=[.l,.l,.s,.l]
abbrev dt:ao:=([],[],ByteArray.empty,[],())
abbrev lJ:aH dq:=(⟨none,0,0⟩,⟨none,0,0⟩,ByteArray.empty,⟨none,0,0⟩,())
theorem Bh {sh:List Sc} {α:Type} {r:Rp sh α} {V:aa}:LR r V ⟨none,0,0⟩ [] []:=⟨rfl,Nat.le_refl _,by decide,.inl ⟨rfl,fun _=>rfl,rfl⟩⟩
theorem Gk (V:aa):aj.R V lJ dt []:=cC.mk (f:=[]) Bh (cC.mk (f:=[]) Bh (cr.mk (by decide) (cC.mk (f:=[]) Bh a8.mk)))
abbrev jc (V:aa) (y:ao × Int):aa->Value->Prop:=fun V' v=>V.le V'/\∃ c f,v=.tuple #[aU c,.int .i64 y.2]/\aj.R V' c y.1 f/\cQ V V' f
theorem gY {V V':aa} (le:V.le V') (n:Int):jc V (dt,n) V' (packed [aU lJ,.int .i64 n]):=⟨le,lJ,[],rfl,Gk V',cQ.nil⟩
open Classical in
noncomputable def pW (x:ao) (y:ao × Int):ao × Int:=if a7 x then y else (dt,1)
theorem j5 {x:ao} {y:ao × Int} (h:a7 x):pW x y=y:=if_pos h
theorem pX {x:ao} {y:ao × Int} (h:¬ a7 x):pW x y=(dt,1):=if_neg h
def Zx (g:Nat) (o:Value) (x0:aH dq):T :=
 .call false 21 [aU x0] (.v (.o .b)) fun y1 =>
 .br (!y1) (.ret [aU lJ,.int .i64 (1:Int)]) <|
 .rg <|
 .call false 53 [aU x0] (.v (.g [.l,.l,.s,.l])) fun y2 =>
 .call false g [o,aU y2] (.t [(.g [.l,.l,.s,.l]),(.o (.i .i64))]) fun y3 =>
 .br (y3.2.1 != (0:Int)) (.ret [aU lJ,.int .i64 y3.2.1]) <|
 .ret [aU y3.1,.int .i64 (0:Int)]
theorem Zy {V V0:aa} (hV:wc V) {c:aH dq} {x:ao} {f:List Nat} (h:aj.R V c x f) (ht:aj.cB x<=1048576) {g:Nat} {o:Value} {y:ao × Int}
  (cJ:a7 x->∀ V1 c1 f1,V.le V1->aj.R V1 c1 x f1->cQ V V1 f1->ae prog V1 g [o,aU c1] (fun V2 v=>jc V y V2 v)) (hy:y.2≠0->y.1=dt) :
  (Zx g o c).wp prog (fun V' vs=>jc V (pW x y) V' (packed vs)) V V0 []:=by
 simp only [Zx,T.wp];refine(pP hV c x f h).mono ?_
 rintro V1 _ ⟨aF,e1,rfl,gB⟩;refine⟨nofun,e1,rfl,fun hf=>?_,fun h1=>?_⟩
 ·rw [pX (fun k=>by rw [gB.2 k] at hf; cases hf)]
  exact gY aF 1
 have ok:=gB.1 (by simpa using h1);rw [j5 ok];refine(rl V1 c x f (aj.le h aF) ht).mono ?_
 rintro V2 _ ⟨bm,c2,f2,rfl,R2,O2⟩;have l2:=aF.trans bm;refine⟨fun _=>bm,c2,rfl,(cJ ok V2 c2 f2 l2 R2 (O2.pre aF)).mono ?_⟩
 rintro V3 _ ⟨bS,c3,f3,rfl,R3,O3⟩;refine⟨nofun,(c3,y.2,()),rfl,fun bR=>?_,fun he=>?_⟩
 ·have e:=hy (by simpa using bR)
  obtain⟨y1,y2⟩:=y;replace e:y1=dt:=e;subst e;exact gY bS y2
 have e:y.2=0:=by simpa using he
 obtain⟨y1,y2⟩:=y;replace e:y2=0:=e;subst e;exact⟨bS,c3,f3,rfl,R3,O3⟩
theorem Gl {V V0:aa} (hV:wc V) {c:aH dq} {x:ao} {f:List Nat} (h:aj.R V c x f) (ht:aj.cB x<=1048576) {g:Nat} {o:Value} {y:ao × Int}
  (cJ:a7 x->∀ V1 c1 f1,V.le V1->aj.R V1 c1 x f1->cQ V V1 f1->ae prog V1 g [o,aU c1] (fun V2 v=>V1.le V2/\jc V y V2 v)) (hy:y.2≠0->y.1=dt) :
  (Zx g o c).wp prog (fun V' vs=>jc V (pW x y) V' (packed vs)) V V0 [] :=
 Zy hV h ht (fun ok V1 c1 f1 aF R1 O1=>(cJ ok V1 c1 f1 aF R1 O1).mono fun _ _ h=>h.2) hy
theorem Kw (V:aa) (c:aH dq) (x:ao) (f:List Nat) (h:aj.R V c x f) (ht:aj.cB x<=1048576) :
  ae prog V 41 [aU c] (fun V' v=>V.le V'/\∃ c' f',v=aU c'/\aj.R V' c' x f'/\∃ q0 q3,LR aw V' c'.1 x.1 q0/\cQ V V' q0/\LR az V' c'.2.2.2.1 x.2.2.2.1 q3/\∀ b∈q0,b ∉ q3):=by
 obtain⟨c0,c1,c2,c3,cu⟩:=c;obtain⟨x0,x1,x2,x3,xu⟩:=x;obtain⟨f0,g0,_,h0,h⟩:=h;obtain⟨f1,g1,_,h1,h⟩:=h;obtain⟨⟨e2,z2⟩,h⟩:=h;replace e2:c2=x2:=e2;subst e2;obtain⟨f3,g3,_,h3,_⟩:=h;replace h0:LR aw V c0 x0 f0:=h0;replace h1:LR aS V c1 x1 f1:=h1;replace h3:LR az V c3 x3 f3:=h3;replace ht:(x0.length+aC aw x0+(x1.length+aC aS x1+(c2.size+(x3.length+aC az x3+0))))<=1048576:=ht;refine aM (Nq _) fun _=>?_
 simp only [zI,T.wp];refine(sg V (c0,()) (x0,()) _ (cC.mk h0 a8.mk) (by show(x0.length+aC aw x0+0)<=1048576; omega)).mono ?_
 rintro V1 _ ⟨aF,⟨d0,du⟩,k0,rfl,⟨a0,b0,ek,r0,hN⟩,O0⟩;refine⟨fun _=>aF,(d0,()),rfl,?_⟩
 refine(P5 V1 c1 x1 f1 (h1.le aF) (by omega)).mono ?_
 rintro V2 _ ⟨bm,d1,k1,rfl,r1,_⟩;refine⟨fun _=>bm,d1,rfl,?_⟩
 refine(Ku V2 (c2,c3,()) (c2,x3,()) _ (cr.mk z2 (cC.mk (h3.le (aF.trans bm)) a8.mk)) (by show(c2.size+(x3.length+aC az x3+0))<=1048576; omega)).mono ?_
 rintro V3 _ ⟨bS,⟨d2,d3,dv⟩,k3,rfl,R3,O3⟩;refine⟨fun _=>bS,(d2,d3,()),rfl,(aF.trans bm).trans bS,(d0,d1,d2,d3,()),a0++(k1++k3),rfl,?_,?_⟩
 ·exact cC.mk (r:=cC aS (cr (cC az a8))) (LR.le (show LR aw V1 d0 x0 a0 from r0) (bm.trans bS)) (cC.mk (r:=cr (cC az a8)) (r1.le bS) R3)
 replace hN:b0=[]:=hN;subst hN;rw [List.append_nil] at ek;subst ek;obtain⟨_,q3,q4,eq,r3,hN3⟩:=R3;replace hN3:q4=[]:=hN3;subst hN3;rw [List.append_nil] at eq;subst eq;exact⟨k0,k3,LR.le (show LR aw V1 d0 x0 k0 from r0) (bm.trans bS),O0.post (bm.trans bS),r3,fun b hb im=>by
  obtain⟨u,t,k⟩:=O0.2.2 b hb;have:=O3.2.1 b im;rw [bm _ _ k] at this; cases this⟩
theorem oJ (V:aa) (c:aH dq) (x:ao) (f:List Nat) (h:aj.R V c x f) (ht:aj.cB x<=1048576) :
  ae prog V 41 [aU c] (fun V' v=>V.le V'/\∃ c' f',v=aU c'/\aj.R V' c' x f') :=
 (Kw V c x f h ht).mono (by
  rintro V' v ⟨le,c',f',e,R,_⟩;exact⟨le,c',f',e,R⟩)
open Classical in
noncomputable def kK (x:ao) (r:aW):ao × Int:=if bJ r then (if oY x.2.2.1 x.2.2.2.1 r then ((x.1,x.2.1,x.2.2.1,Bg r x.2.2.2.1,()),0) else (dt,9)) else (dt,1)
theorem uK {x:ao} {r:aW} (h:¬ bJ r):kK x r=(dt,1):=if_neg h
theorem uL {x:ao} {r:aW} (h:bJ r) (k:¬ oY x.2.2.1 x.2.2.2.1 r):kK x r=(dt,9):=(if_pos h).trans (if_neg k)
theorem so {x:ao} {r:aW} (h:bJ r) (k:oY x.2.2.1 x.2.2.2.1 r):kK x r=((x.1,x.2.1,x.2.2.1,Bg r x.2.2.2.1,()),0):=(if_pos h).trans (if_pos k)
theorem Gm {x:ao} {r:aW} (h:(kK x r).2≠0):(kK x r).1=dt:=by
 unfold kK at h ⊢;split
 ·rename_i q
  rw [if_pos q] at h;split
  ·rename_i k
   rw [if_pos k] at h;exact absurd rfl h
  rfl
 rfl
theorem Vw {V0 V:aa} (hV:wc V) (c:aH dq) (x:ao) (f:List Nat) (h:aj.R V c x f) (ht:aj.cB x<=1048576) (O:cQ V0 V f) (iA:V0.le V) (d:aH [.s,.s,.b,.l,.i .i64]) (r:aW) (g:List Nat) (hr:az.R V d r g) (tr:az.cB r<=1048576) :
  ae prog V 543 [fV d,aU c] (fun V' v=>V.le V'/\jc V0 (kK x r) V' v):=by
 refine aM (AO _ _) fun _=>?_
 obtain⟨s3,g3,rfl,hm⟩:=iq hr;obtain⟨c0,c1,c2,c3,cu⟩:=c;obtain⟨x0,x1,x2,x3,xu⟩:=x;obtain⟨f0,g0,rfl,h0,h⟩:=h;obtain⟨f1,g1,rfl,h1,h⟩:=h;obtain⟨⟨e2,z2⟩,h⟩:=h;replace e2:c2=x2:=e2;subst e2;obtain⟨f3,g3',rfl,h3,hN⟩:=h;replace hN:g3'=[]:=hN;subst hN;replace h0:LR aw V c0 x0 f0:=h0;replace h1:LR aS V c1 x1 f1:=h1;replace h3:LR az V c3 x3 f3:=h3;replace ht:(x0.length+aC aw x0+(x1.length+aC aS x1+(c2.size+(x3.length+aC az x3+0))))<=1048576:=ht;simp only [pF,T.wp];refine(kV hV r s3 g3 hm).mono ?_
 rintro V1 _ ⟨aF,e1,rfl,gB⟩;refine⟨nofun,e1,rfl,fun hf=>?_,fun k1=>?_⟩
 ·rw [uK (fun k=>by rw [gB.2 k] at hf; cases hf)]
  exact⟨aF,gY (iA.trans aF) 1⟩
 have ok:=gB.1 (by simpa using k1);refine(P9 (hV.le aF) (c2,c3,()) (c2,x3,()) _ (cr.mk z2 (cC.mk (h3.le aF) a8.mk)) (by show(c2.size+(x3.length+aC az x3+0))<=1048576; omega) _ r g (az.le hr aF) tr).mono ?_
 rintro V2 _ ⟨bm,c5,f5,rfl,R5,O5⟩;have l2:=aF.trans bm
 by_cases k:oY c2 x3 r
 ·rw [qC (x:=(c2,x3,())) k] at R5 ⊢
  rw [so (x:=(x0,x1,c2,x3,xu)) ok k];refine⟨nofun,(c5,true,()),rfl,nofun,fun _=>⟨l2,iA.trans l2,(c0,c1,c5.1,c5.2.1,()),f0++(f1++f5),rfl,cC.mk (r:=cC aS (cr (cC az a8))) (h0.le l2) (cC.mk (r:=cr (cC az a8)) (h1.le l2) R5),?_⟩⟩
  have o1:cQ V0 V (f0++f1):=O.sub (by rw [<- List.append_assoc]; exact List.sublist_append_left _ _)
  rw [<- List.append_assoc];exact(o1.post aF).append O5 (iA.trans aF) bm
 rw [Gi (x:=(c2,x3,())) k] at R5 ⊢;rw [uL (x:=(x0,x1,c2,x3,xu)) ok k];exact⟨nofun,(c5,false,()),rfl,fun _=>⟨l2,gY (iA.trans l2) 9⟩,nofun⟩
abbrev DoS (V:aa) (y:ao × Int):aa->Value->Prop:=fun V' v=>V.le V'/\∃ c f,v=.tuple #[aU c,.int .i64 y.2]/\aj.R V' c y.1 f
theorem dD {V V':aa} (le:V.le V') (n:Int):DoS V (dt,n) V' (packed [aU lJ,.int .i64 n]):=⟨le,lJ,[],rfl,Gk V'⟩
theorem Vx {V:aa} (hV:D4 V) (c:aH dq) (x:ao) (f:List Nat) (h:aj.R V c x f) (ht:aj.cB x<=1048576) (d:aH [.s,.s,.b,.l,.i .i64]) (r:aW) (g:List Nat) (hr:az.R V d r g) (tr:az.cB r<=1048576) :
  ae prog V 206 [aU c,fV d] (DoS V (pW x (kK x r))):=by
 refine aM (Ua _ _) fun _=>?_
 obtain⟨s3,g3,rfl,hm⟩:=iq hr;simp only [Dw,T.wp];refine(iu hV c x f h).mono ?_
 rintro V1 _ ⟨aF,e1,rfl,gB⟩;refine⟨nofun,e1,rfl,fun hf=>?_,fun k1=>?_⟩
 ·rw [pX (fun k=>by rw [gB.2 k] at hf; cases hf)]
  exact dD aF 1
 have ok:=gB.1 (by simpa using k1);rw [j5 ok];refine(kU (hV.le aF) r s3 g3 (hm.le aF)).mono ?_
 rintro V2 _ ⟨bm,e2,rfl,fq⟩;have l2:=aF.trans bm;refine⟨nofun,e2,rfl,fun hf=>?_,fun k2=>?_⟩
 ·rw [uK (fun k=>by rw [fq.2 k] at hf; cases hf)]
  exact dD l2 1
 have pe:=fq.1 (by simpa using k2);obtain⟨c0,c1,c2,c3,cu⟩:=c;obtain⟨x0,x1,x2,x3,xu⟩:=x;have h':=aj.le h l2;obtain⟨f0,g0,_,h0,h'⟩:=h';obtain⟨f1,g1,_,h1,h'⟩:=h';obtain⟨⟨e2,z2⟩,h'⟩:=h';replace e2:c2=x2:=e2;subst e2;replace h':cZ.R V2 (c2,c3,()) (c2,x3,()) g1:=⟨⟨rfl,z2⟩,h'⟩;have ht':(x0.length+aC aw x0+(x1.length+aC aS x1+(c2.size+(x3.length+aC az x3+0))))<=1048576:=ht;refine(P8 (hV.le l2) (c2,c3,()) (c2,x3,()) _ h' (by show(c2.size+(x3.length+aC az x3+0))<=1048576; omega) _ r g (az.le hr l2) tr).mono ?_
 rintro V3 _ ⟨bS,c5,f5,rfl,R5,_⟩;have l3:=l2.trans bS
 by_cases k:oY c2 x3 r
 ·rw [qC (x:=(c2,x3,())) k] at R5 ⊢
  rw [so (x:=(x0,x1,c2,x3,xu)) pe k];refine⟨nofun,(c5,true,()),rfl,nofun,fun _=>(oJ V3 _ _ f (aj.le h l3) ht).mono ?_⟩
  rintro V4 _ ⟨jm,⟨d0,d1,d2,d3,du⟩,f6,rfl,q0,q1,_,r0,q2,q3,_,r1,_⟩;exact⟨nofun,(d0,d1,d2,d3,()),rfl,l3.trans jm,(d0,d1,c5.1,c5.2.1,()),q0++(q2++f5),rfl,cC.mk (r:=cC aS (cr (cC az a8))) (show LR aw V4 d0 x0 q0 from r0) (cC.mk (r:=cr (cC az a8)) (show LR aS V4 d1 x1 q2 from r1) (cZ.le R5 jm))⟩
 rw [Gi (x:=(c2,x3,())) k] at R5 ⊢;rw [uL (x:=(x0,x1,c2,x3,xu)) pe k];exact⟨nofun,(c5,false,()),rfl,fun _=>dD l3 9,nofun⟩
theorem yD {P:Program} {K:aa->List Value->Prop} {V V0:aa} {n:Nat} {rest:List mP} (z:cH rest) (p:Nat->Prop) (bad:List Value) {body tail:cH (.o (.o (.i .i64)) :: rest)->T} {Ns:List (List LV->aa->Prop)} (hn:n<=9223372036854775807)
  (lB:∀ (V':aa) (i:Nat) (N:List LV->aa->Prop),V.le V'->i<n->(∀ V2,V'.le V2->¬ p i->K V2 bad)->(∀ V2,V'.le V2->p i->N (.v (.int .i64 (i64.wrap ((i:Int)+1))) :: cH.nf rest z) V2)->(body ((i:Int),z)).wp P K V' V' (Ns++[N]))
  (JW:∀ V',V.le V'->(∀ i,i<n->p i)->∀ N,(tail ((n:Int),z)).wp P K V' V' (Ns++[N])) (v':∀ V' i,V.le V'->i<n->¬ p i->K V' bad) :
  (T.lp (.o (.o (.i .i64)) :: rest) (.v (.int .i64 (0:Int)) :: cH.nf rest z) fun y=>.br (decide ((y.1:Int)<(n:Int))) (body y) (tail y)).wp P K V V0 Ns:=by
 simp only [T.wp];refine⟨fun y V'=>V.le V'/\y.2=z/\∃ i:Nat,(y.1:Int)=(i:Int)/\i<=n/\∀ j,j<i->p j,fun y _=>((n:Int)-(y.1:Int)).toNat,⟨((0:Int),z),rfl,aa.le.refl _,rfl,0,rfl,by omega,fun j hj=>by omega⟩,?_⟩
 rintro⟨(i:Int),z'⟩ V' ⟨hV,hz,k,hk,hle,bC⟩;replace hk:i=(k:Int):=hk;replace hz:z'=z:=hz;subst hk hz;refine⟨fun aN=>?_,fun cg=>?_⟩
 ·have h1:k<n:=by
   have:(k:Int)<(n:Int):=bq aN;omega
  refine lB V' k _ hV h1 (fun V2 h2 bR=>v' V2 k (hV.trans h2) h1 bR) fun V2 h2 he=>?_
  refine⟨(((k+1:Nat):Int),z'),by rw [kD h1 (by omega)]; rfl,⟨hV.trans h2,rfl,k+1,rfl,h1,fun j hj=>?_⟩,?_⟩
  ·by_cases e:j=k
   ·subst e; exact he
   exact bC j (by omega)
  show((n:Int)-((k+1:Nat):Int)).toNat<((n:Int)-(k:Int)).toNat
  omega
 have h1:k=n:=by
  have:¬ (k:Int)<(n:Int):=bU cg;omega
 subst h1;exact JW V' hV bC _
def oK (l:List aE) (n:ByteArray):a6:=match j8 n l with
 | none=>rY
 | some i=>(l.getD i (n,rY)).2
theorem qD {l:List aE} {n:ByteArray} {i:Nat} (h:j8 n l=some i) (hi:i<l.length):oK l n=l[i].2:=by
 rw [oK,h];show(l.getD i (n,rY)).2=_
 rw [getD_at hi]
theorem Vy {l:List aE} {n:ByteArray} (h:j8 n l=none):oK l n=rY:=by rw [oK,h]
abbrev rNm:Rp [.s] (ByteArray × Unit):=cr a8
open Classical in
noncomputable def rm (l:List aE) (c:ByteArray) (ns:List ByteArray):Int:=if ∃ n∈ns,j8 n l=none then 3 else if ∃ n∈ns,(oK l n).1≠c then 5 else 0
noncomputable def mF (x:ao) (legs:List aE):ao × Int:=match mE x.1 legs with
 | none=>(dt,8)
 | some l=>((l,x.2),0)
open Classical in
noncomputable def oZ (x:ao) (legs:List aE):ao × Int:=if ∃ g∈legs,j8 g.1 x.1=none then (dt,3) else if ∃ g∈legs,(oK x.1 g.1).1≠g.2.1 then (dt,5) else mF x legs
theorem sq {l:List aE} {g:aE} {gs:List aE} {y:List aE} {ok:Bool} (h:pS l g.1 g.2=(y,ok)):mE l (g :: gs)=if ok=true then mE y gs else none:=by
 rw [mE,h];cases ok <;> rfl
theorem nm_at {V:aa} {t:ar} {ns:List (ByteArray × Unit)} {g:List Nat} (h:LR rNm V t ns g) {i:Nat} (hi:i<ns.length):∃ b o,t.a=some ⟨b,o,none⟩/\aQ V ((⟨b,o,none⟩:Addr).add (i*1)) 1=some [.string ns[i].1]:=by
 obtain⟨b1,o1,c1,fc,a1,l1,hR,_⟩:=h.at hi;refine⟨b1,o1,a1,?_⟩
 have e:c1.1=ns[i].1:=hR.1.1;rw [<- e]; exact l1
theorem uM {α:Type} {f:α->ByteArray} {p:ByteArray->Prop} {ns:List α}:(∃ n∈ns.map f,p n)↔∃ (i:Nat) (h:i<ns.length),p (f ns[i]):=by
 constructor
 ·rintro⟨n,hn,hp⟩
  obtain⟨x,hx,rfl⟩:=List.mem_map.1 hn;obtain⟨i,hi,rfl⟩:=List.mem_iff_getElem.1 hx;exact⟨i,hi,hp⟩
 rintro⟨i,hi,hp⟩;exact⟨_,List.mem_map_of_mem (List.getElem_mem hi),hp⟩
theorem Gn (V:aa) (s:ar) (l:List aE) (f:List Nat) (h:LR aw V s l f) (ht:aC aw l<=1048576) (n:ByteArray):ae prog V 450 [dJ (s,()),.string n]
  (fun V' v=>V.le V'/\∃ c f,v=.tuple #[ct c,.bool (decide (j8 n l≠none))]/\aY.R V' c (oK l n) f/\cQ V V' f):=by
 refine aM (FT _ _) fun _=>?_
 simp only [ui,T.wp];refine(nL V s l f h n).mono ?_
 rintro V1 _ ⟨aF,rfl⟩;refine⟨nofun,_,rfl,fun aN=>?_,fun cg=>?_⟩
 ·have hf:=jA.1 (bq aN)
  rw [Vy hf,hf];exact⟨aF,(ByteArray.empty,false,⟨none,0,0⟩,()),[],rfl,Zs V1,cQ.nil⟩
 obtain⟨i,hi,hfi,WN,_⟩:=yC (bU cg);have e0:(i:Int).toNat=i:=by omega
 rw [WN,e0,qD hfi hi,hfi];have hn:=h.1;obtain⟨b1,o1,c1,fc,a1,l1,hR,_⟩:=(h.le aF).at hi;have htx:=iN aw hi;have et:aw.cB l[i]=l[i].1.size+aY.cB l[i].2:=rfl;refine⟨_,a1,by omega,(by show(i:Int)<(s.n:Int); omega),c1.2,jz l1 rfl,(uG V1 c1.2 l[i].2 fc hR.2 (by omega)).mono ?_⟩
 rintro V2 _ ⟨bm,c2,f2,rfl,R2,O2⟩;exact⟨nofun,c2,rfl,aF.trans bm,c2,f2,rfl,R2,O2.pre aF⟩
theorem Gp (V:aa) (c:aH dq) (x:ao) (f:List Nat) (h:aj.R V c x f) (t:ar) (ns:List (ByteArray × Unit)) (g:List Nat) (hs:LR rNm V t ns g) :
  ae prog V 447 [aU c,qL t] (fun V' r=>V.le V'/\∃ k:Int,r=.int .i64 k/\((k=3/\∃ n∈ns.map (·.1),j8 n x.1=none)\/(k=0/\¬ ∃ n∈ns.map (·.1),j8 n x.1=none))):=by
 refine aM (FR _ _) fun _=>?_
 obtain⟨s0,s1,s3,f0,f1,f3,rfl,L0,_,_⟩:=fi h;have hn:=hs.1;have jT:=hs.2.2.1;rw [uh];refine yD () (fun i=>∀ (h:i<ns.length),j8 ns[i].1 x.1≠none) [.int .i64 3] (n:=t.n) jT (fun V1 i N aF hi v' hgo=>?_) (fun V1 aF bC N=>?_) (fun V1 i aF hi bR=>?_)
 ·have P7:i<ns.length:=by omega
  obtain⟨b,o,a1,l1⟩:=nm_at (hs.le aF) P7;have e0:(i:Int).toNat=i:=by omega
  simp only [T.wp];rw [e0];refine⟨_,a1,by omega,by omega,ns[i].1,l1,(nL V1 s0 x.1 f0 (L0.le aF) ns[i].1).mono ?_⟩
  rintro V2 _ ⟨bm,rfl⟩;refine⟨nofun,_,rfl,fun aN=>v' V2 bm fun k=>k P7 (jA.1 (bq aN)),fun cg=>⟨_,rfl,hgo V2 bm fun _ k=>(bU cg) (jA.2 k)⟩⟩
 ·refine⟨aF,0,rfl,.inr ⟨rfl,fun k=>?_⟩⟩
  obtain⟨i,hi,e⟩:=uM.1 k;exact bC i (by omega) hi e
 refine⟨aF,3,rfl,.inl ⟨rfl,uM.2 ⟨i,by omega,?_⟩⟩⟩
 exact Decidable.not_not.1 fun k=>bR fun _=>k
theorem Zz (V:aa) (c:aH dq) (x:ao) (f:List Nat) (h:aj.R V c x f) (ht:aj.cB x<=1048576) (cur:ByteArray) (t:ar) (ns:List (ByteArray × Unit)) (g:List Nat) (hs:LR rNm V t ns g) :
  ae prog V 448 [aU c,.string cur,qL t] (fun V' r=>V.le V'/\∃ k:Int,r=.int .i64 k/\((k=5/\∃ n∈ns.map (·.1),(oK x.1 n).1≠cur)\/(k=0/\¬ ∃ n∈ns.map (·.1),(oK x.1 n).1≠cur))):=by
 refine aM (YF _ _ _) fun _=>?_
 obtain⟨s0,s1,s3,f0,f1,f3,rfl,L0,_,_⟩:=fi h;have hn:=hs.1;have jT:=hs.2.2.1;have tt:aC aw x.1<=1048576:=by
  have e:aj.cB x=x.1.length+aC aw x.1+(x.2.1.length+aC aS x.2.1+cZ.cB x.2.2):=rfl;omega
 rw [JC];refine yD () (fun i=>∀ (h:i<ns.length),(oK x.1 ns[i].1).1=cur) [.int .i64 5] (n:=t.n) jT (fun V1 i N aF hi v' hgo=>?_) (fun V1 aF bC N=>?_) (fun V1 i aF hi bR=>?_)
 ·have P7:i<ns.length:=by omega
  obtain⟨b,o,a1,l1⟩:=nm_at (hs.le aF) P7;have e0:(i:Int).toNat=i:=by omega
  simp only [T.wp];rw [e0];refine⟨_,a1,by omega,by omega,ns[i].1,l1,(Gn V1 s0 x.1 f0 (L0.le aF) tt ns[i].1).mono ?_⟩
  rintro V2 _ ⟨bm,c2,f2,rfl,R2,_⟩;have e2:c2.1=(oK x.1 ns[i].1).1:=R2.1.1;refine⟨nofun,(c2,_,()),rfl,fun bR=>v' V2 bm fun k=>?_,fun he=>⟨_,rfl,hgo V2 bm fun _=>?_⟩⟩
  ·have:=aR.2 (e2.trans (k P7))
   rw [this] at bR; cases bR
  exact e2.symm.trans (aR.1 (by simpa using he))
 ·refine⟨aF,0,rfl,.inr ⟨rfl,fun k=>?_⟩⟩
  obtain⟨i,hi,e⟩:=uM.1 k;exact e (bC i (by omega) hi)
 refine⟨aF,5,rfl,.inl ⟨rfl,uM.2 ⟨i,by omega,fun k=>bR fun _=>k⟩⟩⟩
theorem cI_fits (V:aa) (c:aH dq) (x:ao) (f:List Nat) (h:aj.R V c x f) (ht:aj.cB x<=1048576) (cur:ByteArray) (t:ar) (ns:List (ByteArray × Unit)) (g:List Nat) (hs:LR rNm V t ns g) :
  ae prog V 445 [aU c,.string cur,qL t] (fun V' r=>V.le V'/\r=.int .i64 (rm x.1 cur (ns.map (·.1)))):=by
 refine aM (fI_fits _ _ _) fun _=>?_
 simp only [Rn,T.wp];refine(Gp V c x f h t ns g hs).mono ?_
 rintro V1 _ ⟨aF,k,rfl,hk⟩;refine⟨nofun,k,rfl,fun bR=>?_,fun he=>?_⟩
 ·rcases hk with ⟨rfl,hk⟩ | ⟨rfl,_⟩
  ·exact⟨aF,by rw [rm,if_pos hk]; rfl⟩
  simp at bR
 rcases hk with ⟨rfl,_⟩ | ⟨rfl,hk⟩
 ·simp at he
 refine(Zz V1 c x f (aj.le h aF) ht cur t ns g (hs.le aF)).mono ?_
 rintro V2 _ ⟨bm,k2,rfl,kv⟩;refine⟨nofun,k2,rfl,aF.trans bm,?_⟩
 rw [rm,if_neg hk];rcases kv with ⟨rfl,kv⟩ | ⟨rfl,kv⟩
 ·rw [if_pos kv]; rfl
 rw [if_neg kv]; rfl
theorem nN {V:aa} {s0 s1 s3:ar} {c2:ByteArray} {x:ao} {f0 f1 f3:List Nat} (h0:LR aw V s0 x.1 f0) (h1:LR aS V s1 x.2.1 f1) (hc:c2=x.2.2.1) (z:c2.size<=9223372036854775807) (h3:LR az V s3 x.2.2.2.1 f3) :
  aj.R V (s0,s1,c2,s3,()) x (f0++(f1++f3)):=by
 refine cC.mk (r:=cC aS (cr (cC az a8))) h0 (cC.mk (r:=cr (cC az a8)) h1 ⟨⟨hc,hc ▸ z⟩,f3,[],by simp,h3,rfl⟩)
theorem cI_post {V0 V:aa} (hV:wc V) (c:aH dq) (x:ao) (f:List Nat) (h:aj.R V c x f) (O:cQ V0 V f) (iA:V0.le V) (t:ar) (legs:List aE) (g:List Nat) (hs:LR aw V t legs g) :
  ae prog V 446 [aU c,qL t] (fun V' v=>V.le V'/\jc V0 (mF x legs) V' v):=by
 refine aM (fI_post _ _) fun _=>?_
 obtain⟨c0,c1,c2,c3,cu⟩:=c;obtain⟨x0,x1,x2,x3,xu⟩:=x;obtain⟨f0,g0,rfl,h0,h⟩:=h;obtain⟨f1,g1,rfl,h1,h⟩:=h;obtain⟨⟨e2,z2⟩,h⟩:=h;replace e2:c2=x2:=e2;subst e2;obtain⟨f3,g3,rfl,h3,hN⟩:=h;replace hN:g3=[]:=hN;subst hN;rw [List.append_nil] at O;replace h0:LR aw V c0 x0 f0:=h0;replace h1:LR aS V c1 x1 f1:=h1;replace h3:LR az V c3 x3 f3:=h3;have hn:=hs.1;have jT:=hs.2.2.1;simp only [Ro,T.wp];refine⟨fun y V'=>V.le V'/\y.2.2=(c1,c2,c3,⟨none,0,0⟩,⟨none,0,0⟩,ByteArray.empty,⟨none,0,0⟩,())/\∃ (k:Nat) (lk:List aE) (fk:List Nat),y.1=(k:Int)/\k<=legs.length/\LR aw V' y.2.1 lk fk/\cQ V0 V' (fk++(f1++f3))/\mE x0 legs=mE lk (legs.drop k),
  fun y _=>((legs.length:Int)-(y.1:Int)).toNat,⟨((0:Int),c0,c1,c2,c3,⟨none,0,0⟩,⟨none,0,0⟩,ByteArray.empty,⟨none,0,0⟩,()),rfl,aa.le.refl _,rfl,0,x0,f0,rfl,Nat.zero_le _,h0,O,by simp⟩,?_⟩
 rintro⟨(i:Int),sk,y1,y2,y3,y4,y5,y6,y7,yu⟩ V1 ⟨aF,hy,k,lk,fk,hk,lV,Lk,Ok,hp⟩;replace hk:i=(k:Int):=hk;subst hk;replace hy:(y1,y2,y3,y4,y5,y6,y7,yu)=(c1,c2,c3,(⟨none,0,0⟩:ar),(⟨none,0,0⟩:ar),ByteArray.empty,(⟨none,0,0⟩:ar),()):=hy;simp only [Prod.mk.injEq,and_true] at hy;obtain⟨rfl,rfl,rfl,rfl,rfl,rfl,rfl⟩:=hy;replace Lk:LR aw V1 sk lk fk:=Lk;have e0:(k:Int).toNat=k:=by omega
 refine⟨fun aN=>?_,fun cg=>?_⟩
 ·have hi:k<legs.length:=by
   have:(k:Int)<(t.n:Int):=bq aN;omega
  obtain⟨b,o,cl,fc,a1,l1,hR,_⟩:=(hs.le aF).at hi;dsimp only;rw [e0];have en:cl.1=legs[k].1:=hR.1.1;refine⟨_,a1,by omega,(by show(k:Int)<(t.n:Int); omega),cl,l1,(Kq (hV.le aF) sk lk fk Lk cl.1 cl.2 legs[k].2 fc hR.2).mono ?_⟩
  rintro V2 _ ⟨bm,s2,f2,rfl,L2,O2⟩;rw [en] at L2 ⊢;have l2:=aF.trans bm;obtain⟨⟨l',ok⟩,XQ⟩:∃ r,pS lk legs[k].1 legs[k].2=r:=⟨_,rfl⟩;rw [XQ] at L2 ⊢;rw [List.drop_eq_getElem_cons hi,sq XQ] at hp;refine⟨nofun,((s2,()),ok,()),rfl,fun hf=>?_,fun hT=>?_⟩
  ·have:ok=false:=by simpa using hf
   subst this;refine⟨l2,?_⟩
   rw [mF,hp];exact gY (iA.trans l2) 8
  have:ok=true:=by simpa using hT
  subst this;refine⟨_,rfl,(((k+1:Nat):Int),s2,y1,y2,y3,⟨none,0,0⟩,⟨none,0,0⟩,ByteArray.empty,⟨none,0,0⟩,()),by rw [kD hi (by omega)]; rfl,⟨l2,rfl,k+1,l',f2,rfl,hi,L2,?_,hp⟩,?_⟩
  ·exact(((Ok.sub (List.sublist_append_right fk (f1++f3))).append O2 (iA.trans aF) bm).perm List.perm_append_comm)
  show((legs.length:Int)-((k+1:Nat):Int)).toNat<((legs.length:Int)-(k:Int)).toNat
  omega
 have hi:k=legs.length:=by
  have:¬ (k:Int)<(t.n:Int):=bU cg;omega
 subst hi;rw [List.drop_length,mE] at hp;refine⟨aF,?_⟩
 rw [mF,hp];exact⟨iA.trans aF,(sk,y1,y2,y3,()),fk++(f1++f3),rfl,nN (x:=(lk,x1,y2,x3,())) Lk (h1.le aF) rfl z2 (h3.le aF),Ok⟩
def Vz (x:a6):Prop:=pR x/\x.2.1=false
abbrev Kx (V:aa) (p:Prop):aa->Value->Prop:=fun V' r=>V.le V'/\∃ e,r=.bool e/\(e=true↔p)
theorem Bi {V:aa} (hV:wc V) (c:aH gr) (x:a6) (f:List Nat) (h:aY.R V c x f):ae prog V 229 [ct c] (Kx V (Vz x)):=by
 refine aM (OB _) fun _=>?_
 obtain⟨s,rfl,hl,_⟩:=fG h;simp only [Au,T.wp];refine(jv hV x.1 x.2.1 s x.2.2.1 f hl).mono ?_
 rintro V1 _ ⟨aF,e,rfl,he⟩;refine⟨nofun,e,rfl,fun ht=>⟨aF,_,rfl,?_⟩,fun hf=>⟨aF,_,rfl,?_⟩⟩
 ·have:e=true:=ht
  rw [Bool.not_eq_true'];exact⟨fun k=>⟨he.1 this,k⟩,fun k=>k.2⟩
 exact⟨(fun k=>by cases k),(fun k=>by rw [he.2 k.1] at hf; cases hf)⟩
theorem pY {V:aa} (c:aH gr) (x:a6) (f:List Nat) (h:aY.R V c x f):ae prog V 147 [ct c] (Kx V (Vz x)):=by
 refine aM (I4 _) fun _=>?_
 obtain⟨s,rfl,hl,_⟩:=fG h;simp only [xy,T.wp];refine(ia x.1 x.2.1 s x.2.2.1 f hl).mono ?_
 rintro V1 _ ⟨aF,e,rfl,he⟩;refine⟨nofun,e,rfl,fun ht=>⟨aF,_,rfl,?_⟩,fun hf=>⟨aF,_,rfl,?_⟩⟩
 ·have:e=true:=ht
  rw [Bool.not_eq_true'];exact⟨fun k=>⟨he.1 this,k⟩,fun k=>k.2⟩
 exact⟨(fun k=>by cases k),(fun k=>by rw [he.2 k.1] at hf; cases hf)⟩
def Bj (x:a6):a6:=(x.1,(!x.2.1 && decide (0<x.2.2.1.length)),x.2.2.1,())
abbrev Gq (V:aa) (x:a6):aa->Value->Prop:=fun V' v=>V.le V'/\∃ c f,v=ct c/\aY.R V' c x f/\cQ V V' f
theorem Ky (V:aa) (c:aH gr) (x:a6) (f:List Nat) (h:aY.R V c x f) (hl:x.2.2.1.length<=1048576):ae prog V 57 [ct c] (Gq V (Bj x)):=by
 refine aM (XZ _) fun _=>?_
 obtain⟨s,rfl,BZ,z⟩:=fG h;simp only [It,T.wp];refine(UL V x.2.1 s x.2.2.1 f BZ hl).mono ?_
 rintro V1 _ ⟨aF,s1,f1,rfl,L1,O1⟩;exact⟨fun _=>aF,_,rfl,aF,(x.1,_,s1,()),f1,rfl,ko z L1,O1⟩
theorem Bk (V:aa) (c:aH gr) (x:a6) (f:List Nat) (h:aY.R V c x f) (ok:pR x):ae prog V 45 [ct c] (Gq V (Bj x)):=by
 refine aM (Nv _) fun _=>?_
 obtain⟨s,rfl,BZ,z⟩:=fG h;simp only [zL,T.wp];refine(Vl V x.2.1 s x.2.2.1 f BZ ok.2.1).mono ?_
 rintro V1 _ ⟨aF,s1,f1,rfl,L1,O1⟩;exact⟨fun _=>aF,_,rfl,aF,(x.1,_,s1,()),f1,rfl,ko z L1,O1⟩
theorem Gr {sh:List Sc} {α:Type} {r:Rp sh α} {V:aa} {b n cap:Nat} {cs:List (aH sh)} {l:List α} {fps:List Nat} {post:List Value} {t:vn} (h:kS r V cs l fps) (hb:V b=some (cs.flatMap (aH.aD sh)++post,t)) (hn:n=l.length) (hc:l.length<=cap) (hl:l.length<=9223372036854775807) :
  LR r V ⟨some ⟨b,0,none⟩,n,cap⟩ l (b :: fps):=by
 subst hn;exact⟨rfl,hc,hl,.inr ⟨b,[],post,t,fps,cs,rfl,by simpa using hb,h,rfl⟩⟩
theorem ZA {V:aa}:∀ {ns:List ByteArray},(∀ n∈ns,n.size<=9223372036854775807)->kS rNm V (ns.map fun n=>(n,())) (ns.map fun n=>(n,())) []
 | [],_=>rfl
 | n :: ns,h=>⟨[],[],rfl,⟨⟨rfl,h n (by simp)⟩,rfl⟩,ZA fun m hm=>h m (by simp [hm])⟩
open Classical in
noncomputable def mU (x:ao) (n:ByteArray) (m:a6) (take:Bool):ao × Int:=if gH n/\Vz m then oZ x [(n,if take=true then Bj m else m)] else (dt,1)
theorem kW {x:ao} {n:ByteArray} {m:a6} {take:Bool} (h:¬ (gH n/\Vz m)):mU x n m take=(dt,1):=if_neg h
theorem qE {x:ao} {n:ByteArray} {m:a6} {take:Bool} (h:gH n/\Vz m):mU x n m take=oZ x [(n,if take=true then Bj m else m)]:=if_pos h
theorem VA {x:ao} {c:ByteArray} {legs:List aE} (hc:∀ g∈legs,g.2.1=c):oZ x legs=if rm x.1 c (legs.map (·.1))≠0 then (dt,rm x.1 c (legs.map (·.1))) else mF x legs:=by
 have e1:(∃ n∈legs.map (·.1),j8 n x.1=none)↔∃ g∈legs,j8 g.1 x.1=none:=by simp
 have e2:(∃ n∈legs.map (·.1),(oK x.1 n).1≠c)↔∃ g∈legs,(oK x.1 g.1).1≠g.2.1:=by
  constructor
  ·rintro⟨n,hn,hp⟩
   obtain⟨g,hg,rfl⟩:=List.mem_map.1 hn;exact⟨g,hg,by rw [hc g hg]; exact hp⟩
  rintro⟨g,hg,hp⟩;exact⟨g.1,List.mem_map_of_mem hg,by rw [<- hc g hg]; exact hp⟩
 unfold oZ rm
 by_cases h1:∃ g∈legs,j8 g.1 x.1=none
 ·rw [if_pos h1,if_pos (e1.2 h1)]; simp
 rw [if_neg h1,if_neg (fun k=>h1 (e1.1 k))]
 by_cases h2:∃ g∈legs,(oK x.1 g.1).1≠g.2.1
 ·rw [if_pos h2,if_pos (e2.2 h2)]; simp
 rw [if_neg h2,if_neg (fun k=>h2 (e2.1 k))]; simp
theorem VB {x:ao} {legs:List aE}:(mF x legs).2≠0->(mF x legs).1=dt:=by
 unfold mF;cases mE x.1 legs with
 | none=>intro _; rfl
 | some l=>intro h; exact absurd rfl h
theorem P' {x:ao} {legs:List aE}:(oZ x legs).2≠0->(oZ x legs).1=dt:=by
 unfold oZ;split
 ·intro _; rfl
 split
 ·intro _; rfl
 exact VB
theorem Kz {x:ao} {n:ByteArray} {m:a6} {take:Bool}:(mU x n m take).2≠0->(mU x n m take).1=dt:=by
 unfold mU;split
 ·exact P'
 intro _; rfl
theorem jB {n:ByteArray} (h:gH n):n.size<=9223372036854775807:=by
 have:=h.2.1;omega
theorem ZB {V0 V:aa} (hV:wc V) (c:aH dq) (x:ao) (f:List Nat) (h:aj.R V c x f) (ht:aj.cB x<=1048576) (O:cQ V0 V f) (iA:V0.le V) (n:ByteArray) (hz:n.size<=9223372036854775807) (cm:aH gr) (m:a6) (g:List Nat) (hm:aY.R V cm m g) (take:Bool) :
  ae prog V 444 [E3 (n,cm.1,cm.2.1,cm.2.2.1,take,()),aU c] (fun V' v=>V.le V'/\jc V0 (mU x n m take) V' v):=by
 refine aM (Cq _ _) fun _=>?_
 obtain⟨s,rfl,hl,z0⟩:=fG hm;simp only [re,T.wp];refine(qw V n hz).mono ?_
 rintro V1 _ ⟨rfl,e1,rfl,gB⟩;refine⟨nofun,e1,rfl,fun hf=>?_,fun k1=>?_⟩
 ·rw [kW (fun k=>by rw [gB.2 k.1] at hf; cases hf)]
  exact⟨aa.le.refl _,gY iA 1⟩
 have w1:=gB.1 (by simpa using k1);refine(Bi hV (m.1,m.2.1,s,()) m g hm).mono ?_
 rintro V2 _ ⟨bm,e2,rfl,fq⟩;refine⟨nofun,e2,rfl,fun hf=>?_,fun k2=>?_⟩
 ·rw [kW (fun k=>by rw [fq.2 k.2] at hf; cases hf)]
  exact⟨bm,gY (iA.trans bm) 1⟩
 have w2:=fq.1 (by simpa using k2);rw [qE ⟨w1,w2⟩];intro b3 c3 sp3 im yi _;have q3:=aG (x:=([Value.string n]++sp3,((9:TypeId),((0,0):Nat × Nat)))) im;have l3:=bm.trans q3;refine(cI_fits _ c x f (aj.le h l3) ht m.1 ⟨some ⟨b3,0,none⟩,1,c3⟩ [(n,())] [b3] (Gr (fps:=[]) (ZA (ns:=[n]) (fun k hk=>by
  obtain rfl:k=n:=by simpa using hk
  exact hz)) av rfl yi (by simp))).mono ?_
 rintro V4 _ ⟨jm,rfl⟩;have l4:=l3.trans jm;have pq:∀ y:a6,y.1=m.1->oZ x [(n,y)]=if rm x.1 m.1 [n]≠0 then (dt,rm x.1 m.1 [n]) else mF x [(n,y)]:=fun y hy=>VA (legs:=[(n,y)]) (fun g hg=>by
  obtain rfl:g=(n,y):=by simpa using hg
  exact hy)
 refine⟨nofun,_,rfl,fun bR=>?_,fun he=>?_⟩
 ·have JJ:rm x.1 m.1 [n]≠0:=by simpa using bR
  rw [pq _ (by cases take <;> rfl),if_pos JJ]
  exact⟨l4,gY (iA.trans l4) _⟩
 have Md:¬ rm x.1 m.1 [n]≠0:=by simpa using he
 rw [pq _ (by cases take <;> rfl),if_neg Md]
 have fin:∀ {V5:aa} {cy:aH gr} {y:a6} {fy:List Nat},V1.le V5->aY.R V5 cy y fy->∀ b cp sp,V5 b=none->1<=cp->ae prog (aB V5 b ([.string n,.string cy.1,.bool cy.2.1,.slice cy.2.2.1.a cy.2.2.1.n cy.2.2.1.c]++sp,(261,(0,0)))) 446 [aU c,.slice (some ⟨b,0,none⟩) 1 cp] (fun V' v=>V5.le V'/\jc V0 (mF x [(n,y)]) V' v):=by
  intro V5 cy y fy l5 hy b cp sp hb hcp;have q:=aG (x:=([Value.string n,.string cy.1,.bool cy.2.1,.slice cy.2.2.1.a cy.2.2.1.n cy.2.2.1.c]++sp,((261:TypeId),((0,0):Nat × Nat)))) hb;have l6:=l5.trans q;have hel:kS aw _ [((n,cy):aH [.s,.s,.b,.l])] [((n,y):aE)] (fy++[]):=⟨fy,[],rfl,⟨⟨rfl,hz⟩,aY.le hy q⟩,rfl⟩;refine(cI_post (V0:=V0) (hV.le l6) c x f (aj.le h l6) (O.post l6) (iA.trans l6) ⟨some ⟨b,0,none⟩,1,cp⟩ [(n,y)] _ (Gr hel av rfl hcp (by simp))).mono ?_
  rintro V7 _ ⟨o8,h7⟩;exact⟨q.trans o8,h7⟩
 refine⟨fun htk=>?_,fun htk=>?_⟩
 ·have htk':take=true:=htk
  subst htk';refine(Ky V4 (m.1,m.2.1,s,()) m g (aY.le hm l4) (by have:=w2.1.2.2; omega)).mono ?_
  rintro V5 _ ⟨fu,cy,fy,rfl,Ry,_⟩;have l5:=l4.trans fu;refine⟨nofun,cy,rfl,fun b cp sp hb hcp _=>(fin l5 Ry b cp sp hb hcp).mono ?_⟩
  rintro V6 _ ⟨rk,le06,c6,f6,rfl,R6,O6⟩;exact⟨nofun,(c6,_,()),rfl,l5.trans rk,le06,c6,f6,rfl,R6,O6⟩
 have htk':take=false:=htk;subst htk';intro b cp sp hb hcp _;refine(fin l4 (aY.le hm l4) b cp sp hb hcp).mono ?_
 rintro V6 _ ⟨rk,le06,c6,f6,rfl,R6,O6⟩;exact⟨nofun,(c6,_,()),rfl,l4.trans rk,le06,c6,f6,rfl,R6,O6⟩
theorem Qa {V:aa} (hV:wc V) (c:aH dq) (x:ao) (f:List Nat) (h:aj.R V c x f) (ht:aj.cB x<=1048576) (n:ByteArray) (hz:n.size<=9223372036854775807) (cm:aH gr) (m:a6) (g:List Nat) (hm:aY.R V cm m g) (take:Bool) :
  ae prog V 223 [aU c,.iface 286 (E3 (n,cm.1,cm.2.1,cm.2.2.1,take,()))] (jc V (pW x (mU x n m take))) :=
 aM (vR c (n,cm.1,cm.2.1,cm.2.2.1,take,())) fun _=>Gl (g:=444) (o:=E3 (n,cm.1,cm.2.1,cm.2.2.1,take,())) hV h ht (fun _ _ c1 f1 aF R1 O1=>ZB (hV.le aF) c1 x f1 R1 ht O1 aF n hz cm m g (aY.le hm aF) take) Kz
theorem Qb {x:ao} {legs:List aE} (h:∃ g∈legs,j8 g.1 x.1=none):oZ x legs=(dt,3):=if_pos h
theorem KA {x:ao} {legs:List aE} (h:¬ ∃ g∈legs,j8 g.1 x.1=none) (k:∃ g∈legs,(oK x.1 g.1).1≠g.2.1):oZ x legs=(dt,5):=(if_neg h).trans (if_pos k)
theorem Bl {x:ao} {legs:List aE} (h:¬ ∃ g∈legs,j8 g.1 x.1=none) (k:¬ ∃ g∈legs,(oK x.1 g.1).1≠g.2.1):oZ x legs=mF x legs:=(if_neg h).trans (if_neg k)
theorem yE {p:aE->Prop} {legs:List aE}:(∃ g∈legs,p g)↔∃ (i:Nat) (h:i<legs.length),p legs[i]:=by
 constructor
 ·rintro⟨g,hg,hp⟩
  obtain⟨i,hi,rfl⟩:=List.mem_iff_getElem.1 hg;exact⟨i,hi,hp⟩
 rintro⟨i,hi,hp⟩;exact⟨_,List.getElem_mem hi,hp⟩
theorem Bm {V:aa} (_:D4 V) (c:aH dq) (x:ao) (f:List Nat) (h:aj.R V c x f) (ht:aj.cB x<=1048576) (t:ar) (legs:List aE) (g:List Nat) (hs:LR aw V t legs g) :
  ae prog V 251 [aU c,qL t] (DoS V (oZ x legs)):=by
 refine aM (OK _ _) fun _=>?_
 obtain⟨s0,s1,s3,f0,f1,f3,rfl,L0,_,_⟩:=fi h;have hn:=hs.1;have UE:=L0.1;have jT:=hs.2.2.1;rw [AA];refine yD (rest:=[.o (.o .l),.o (.o .l),.o (.o .s),.o (.o .l)]) (⟨none,0,0⟩,⟨none,0,0⟩,ByteArray.empty,⟨none,0,0⟩,()) (fun i=>∀ (h:i<legs.length),j8 legs[i].1 x.1≠none) [aU lJ,.int .i64 3] (n:=t.n) jT (fun V1 i N aF hi v' hgo=>?_) (fun V1 aF bC N1=>?_) (fun V1 i aF hi bR=>?_)
 ·have P7:i<legs.length:=by omega
  obtain⟨b,o,cl,fc,a1,l1,hR,_⟩:=(hs.le aF).at P7;have en:cl.1=legs[i].1:=hR.1.1;have e0:(i:Int).toNat=i:=by omega
  simp only [T.wp];rw [e0];refine⟨_,a1,by omega,by omega,cl,l1,(nK V1 s0 x.1 f0 (L0.le aF) cl.1).mono ?_⟩
  rintro V2 _ ⟨bm,rfl⟩;rw [en];refine⟨nofun,_,rfl,fun aN=>v' V2 bm fun k=>k P7 (jA.1 (bq aN)),fun cg=>⟨_,rfl,hgo V2 bm fun _ k=>(bU cg) (jA.2 k)⟩⟩
 rotate_left
 ·have hf:j8 (legs[i]'(by omega)).1 x.1=none:=Decidable.not_not.1 fun k=>bR fun _=>k
  rw [Qb (yE.2 ⟨i,by omega,hf⟩)];exact dD aF 3
 have hacct:¬ ∃ g∈legs,j8 g.1 x.1=none:=fun k=>by
  obtain⟨i,hi,e⟩:=yE.1 k;exact bC i (by omega) hi e
 refine yD (rest:=[.o (.o .l),.o (.o .l),.o (.o .s),.o (.o .l)]) (⟨none,0,0⟩,⟨none,0,0⟩,ByteArray.empty,⟨none,0,0⟩,()) (fun i=>∀ (h:i<legs.length),(oK x.1 legs[i].1).1=legs[i].2.1) [aU lJ,.int .i64 5] (n:=t.n) jT (fun V2 i N bm hi v' hgo=>?_) (fun V2 bm hall2 N2=>?_) (fun V2 i bm hi bR=>?_)
 ·have P7:i<legs.length:=by omega
  have l2:=aF.trans bm;obtain⟨b,o,cl,fc,a1,l1,hR,_⟩:=(hs.le l2).at P7;have en:cl.1=legs[i].1:=hR.1.1;have ec:cl.2.1=legs[i].2.1:=hR.2.1.1;have e0:(i:Int).toNat=i:=by omega
  simp only [T.wp];rw [e0];refine⟨_,a1,by omega,by omega,cl,l1,(nK V2 s0 x.1 f0 (L0.le l2) cl.1).mono ?_⟩
  rintro V3 _ ⟨bS,rfl⟩;rw [en,ec];obtain⟨j,hj,hfj,WN,_⟩:=yC (n:=legs[i].1) (l:=x.1) (fun k=>bC i (by omega) P7 (jA.1 k));have e1:(j:Int).toNat=j:=by omega
  rw [WN];obtain⟨b2,o2,c2,fc2,a2,l2',Mh,_⟩:=(L0.le l2).at hj;have e2:c2.2.1=x.1[j].2.1:=Mh.2.1.1;refine⟨fun _=>bS,(j:Int),rfl,?_⟩
  rw [e1];refine⟨_,a2,by omega,(by show(j:Int)<(s0.n:Int); omega),c2.2.1,?_,fun bR=>v' V3 bS fun k=>?_,fun he=>⟨_,rfl,hgo V3 bS fun _=>?_⟩⟩
  ·rw [if_pos trivial]
   exact jz (jz l2' (o:=1) (n:=3) rfl) (o:=0) (n:=1) rfl
  ·have:=aR.2 (e2.trans ((congrArg (·.1) (qD hfj hj)).symm.trans (k P7)))
   rw [this] at bR; cases bR
  rw [qD hfj hj];exact e2.symm.trans (aR.1 (by simpa using he))
 rotate_left
 ·have l2:=aF.trans bm
  rw [KA hacct (yE.2 ⟨i,by omega,fun k=>bR fun _=>k⟩)];exact dD l2 5
 have pq:¬ ∃ g∈legs,(oK x.1 g.1).1≠g.2.1:=fun k=>by
  obtain⟨i,hi,e⟩:=yE.1 k;exact e (hall2 i (by omega) hi)
 have l2:=aF.trans bm;rw [Bl hacct pq];simp only [T.wp];refine(oJ V2 _ x f (aj.le h l2) ht).mono ?_
 rintro V3 _ ⟨bS,c3,f3',rfl,R3⟩;have l3:=l2.trans bS;obtain⟨x0,x1,x2,x3,xu⟩:=x;obtain⟨q0,q1,q2,q3,qu⟩:=c3;obtain⟨k0,k0',rfl,r0,R3⟩:=R3;obtain⟨k1,k1',rfl,r1,R3⟩:=R3;obtain⟨⟨e2,z2⟩,R3⟩:=R3;replace e2:q2=x2:=e2;obtain⟨k3,k3',rfl,r3,hN⟩:=R3;replace r0:LR aw V3 q0 x0 k0:=r0;replace r1:LR aS V3 q1 x1 k1:=r1;replace r3:LR az V3 q3 x3 k3:=r3;subst e2;refine⟨nofun,(q0,q1,q2,q3,()),rfl,?_⟩
 refine⟨fun y V'=>V3.le V'/\y.2.1=⟨none,0,0⟩/\y.2.2.1=⟨none,0,0⟩/\y.2.2.2.1=ByteArray.empty/\y.2.2.2.2.1=⟨none,0,0⟩/\y.2.2.2.2.2.2=(q1,q2,q3,())/\∃ (k:Nat) (lk:List aE) (fk:List Nat),y.1=(k:Int)/\k<=legs.length/\LR aw V' y.2.2.2.2.2.1 lk fk/\mE x0 legs=mE lk (legs.drop k),
  fun y _=>((legs.length:Int)-(y.1:Int)).toNat,⟨((0:Int),⟨none,0,0⟩,⟨none,0,0⟩,ByteArray.empty,⟨none,0,0⟩,q0,q1,q2,q3,()),rfl,aa.le.refl _,rfl,rfl,rfl,rfl,rfl,0,x0,k0,rfl,Nat.zero_le _,r0,by simp⟩,?_⟩
 rintro⟨(i:Int),y1,y2,y3,y4,sk,y5,y6,y7,yu⟩ V4 ⟨jm,hy1,yQ,hy3,hy4,hy,k,lk,fk,hk,lV,Lk,hp⟩;replace hk:i=(k:Int):=hk;replace hy1:y1=(⟨none,0,0⟩:ar):=hy1;replace yQ:y2=(⟨none,0,0⟩:ar):=yQ;replace hy3:y3=ByteArray.empty:=hy3;replace hy4:y4=(⟨none,0,0⟩:ar):=hy4;subst hk hy1 yQ hy3 hy4;replace hy:(y5,y6,y7,yu)=(q1,q2,q3,()):=hy;simp only [Prod.mk.injEq,and_true] at hy;obtain⟨rfl,rfl,rfl⟩:=hy;replace Lk:LR aw V4 sk lk fk:=Lk;have l4:=l3.trans jm;have e0:(k:Int).toNat=k:=by omega
 refine⟨fun aN=>?_,fun cg=>?_⟩
 ·have hi:k<legs.length:=by
   have:(k:Int)<(t.n:Int):=bq aN;omega
  obtain⟨b,o,cl,fc,a1,l1,hR,_⟩:=(hs.le l4).at hi;dsimp only;rw [e0];have en:cl.1=legs[k].1:=hR.1.1;refine⟨_,a1,by omega,(by show(k:Int)<(t.n:Int); omega),cl,l1,(Kr (V:=V4) trivial sk lk fk Lk cl.1 cl.2 legs[k].2 fc hR.2).mono ?_⟩
  rintro V5 _ ⟨fu,s5,f5,rfl,L5,_⟩;rw [en] at L5 ⊢;obtain⟨⟨l',ok⟩,XQ⟩:∃ r,pS lk legs[k].1 legs[k].2=r:=⟨_,rfl⟩;rw [XQ] at L5 ⊢;rw [List.drop_eq_getElem_cons hi,sq XQ] at hp;refine⟨nofun,((s5,()),ok,()),rfl,fun hf=>?_,fun hT=>?_⟩
  ·have:ok=false:=by simpa using hf
   subst this;rw [mF,hp];exact dD (l4.trans fu) 8
  have:ok=true:=by simpa using hT
  subst this;refine⟨_,rfl,(((k+1:Nat):Int),⟨none,0,0⟩,⟨none,0,0⟩,ByteArray.empty,⟨none,0,0⟩,s5,y5,y6,y7,()),by rw [kD hi (by omega)]; rfl,⟨jm.trans fu,rfl,rfl,rfl,rfl,rfl,k+1,l',f5,rfl,hi,L5,hp⟩,?_⟩
  show((legs.length:Int)-((k+1:Nat):Int)).toNat<((legs.length:Int)-(k:Int)).toNat
  omega
 have hi:k=legs.length:=by
  have:¬ (k:Int)<(t.n:Int):=bU cg;omega
 subst hi;rw [List.drop_length,mE] at hp;rw [mF,hp];exact⟨l4,(sk,y5,y6,y7,()),fk++(k1++k3),rfl,nN (x:=(lk,x1,y6,x3,())) Lk (r1.le jm) rfl z2 (r3.le jm)⟩
theorem ZC {V:aa} (hV:D4 V) (c:aH dq) (x:ao) (f:List Nat) (h:aj.R V c x f) (ht:aj.cB x<=1048576) (n:ByteArray) (hz:n.size<=9223372036854775807) (cm:aH gr) (m:a6) (g:List Nat) (hm:aY.R V cm m g) :
  ae prog V 199 [aU c,.string n,ct cm] (DoS V (pW x (mU x n m false))):=by
 refine aM (Yu _ _ _) fun _=>?_
 obtain⟨s,rfl,hl,z0⟩:=fG hm;simp only [Je,T.wp];refine(iu hV c x f h).mono ?_
 rintro V1 _ ⟨aF,e1,rfl,gB⟩;refine⟨nofun,e1,rfl,fun hf=>?_,fun k1=>?_⟩
 ·rw [pX (fun k=>by rw [gB.2 k] at hf; cases hf)]
  exact dD aF 1
 rw [j5 (gB.1 (by simpa using k1))];refine(jy V1 n hz).mono ?_
 rintro V2 _ ⟨rfl,e2,rfl,fq⟩;refine⟨nofun,e2,rfl,fun hf=>?_,fun k2=>?_⟩
 ·rw [kW (fun k=>by rw [fq.2 k.1] at hf; cases hf)]
  exact dD aF 1
 refine(pY (m.1,m.2.1,s,()) m g (aY.le hm aF)).mono ?_
 rintro V3 _ ⟨bS,e3,rfl,vw⟩;have l3:=aF.trans bS;refine⟨nofun,e3,rfl,fun hf=>?_,fun k3=>?_⟩
 ·rw [kW (fun k=>by rw [vw.2 k.2] at hf; cases hf)]
  exact dD l3 1
 rw [qE ⟨fq.1 (by simpa using k2),vw.1 (by simpa using k3)⟩];intro b cp sp hb hcp _;have q:=aG (x:=([Value.string n,.string m.1,.bool m.2.1,qL s]++sp,((261:TypeId),((0,0):Nat × Nat)))) hb;have l4:=l3.trans q;have hel:kS aw _ [((n,m.1,m.2.1,s,()):aH [.s,.s,.b,.l])] [((n,m):aE)] (g++[]):=⟨g,[],rfl,⟨⟨rfl,hz⟩,aY.le hm l4⟩,rfl⟩;refine(Bm (hV.le l4) c x f (aj.le h l4) ht ⟨some ⟨b,0,none⟩,1,cp⟩ [(n,m)] _ (Gr hel av rfl hcp (by simp))).mono ?_
 rintro V5 _ ⟨fu,c5,f5,rfl,R5⟩;exact⟨nofun,(c5,_,()),rfl,l4.trans fu,c5,f5,rfl,R5⟩
theorem VC {V:aa} (hV:D4 V) (c:aH dq) (x:ao) (f:List Nat) (h:aj.R V c x f) (ht:aj.cB x<=1048576) (n:ByteArray) (hz:n.size<=9223372036854775807) (cm:aH gr) (m:a6) (g:List Nat) (hm:aY.R V cm m g) :
  ae prog V 200 [aU c,.string n,ct cm] (DoS V (pW x (mU x n m true))):=by
 refine aM (T' _ _ _) fun _=>?_
 obtain⟨s,rfl,hl,z0⟩:=fG hm;simp only [Dv,T.wp];refine(iu hV c x f h).mono ?_
 rintro V1 _ ⟨aF,e1,rfl,gB⟩;refine⟨nofun,e1,rfl,fun hf=>?_,fun k1=>?_⟩
 ·rw [pX (fun k=>by rw [gB.2 k] at hf; cases hf)]
  exact dD aF 1
 rw [j5 (gB.1 (by simpa using k1))];refine(jy V1 n hz).mono ?_
 rintro V2 _ ⟨rfl,e2,rfl,fq⟩;refine⟨nofun,e2,rfl,fun hf=>?_,fun k2=>?_⟩
 ·rw [kW (fun k=>by rw [fq.2 k.1] at hf; cases hf)]
  exact dD aF 1
 refine(pY (m.1,m.2.1,s,()) m g (aY.le hm aF)).mono ?_
 rintro V3 _ ⟨bS,e3,rfl,vw⟩;have l3:=aF.trans bS;refine⟨nofun,e3,rfl,fun hf=>?_,fun k3=>?_⟩
 ·rw [kW (fun k=>by rw [vw.2 k.2] at hf; cases hf)]
  exact dD l3 1
 have w3:=vw.1 (by simpa using k3);rw [qE ⟨fq.1 (by simpa using k2),w3⟩];refine(Bk V3 (m.1,m.2.1,s,()) m g (aY.le hm l3) w3.1).mono ?_
 rintro V4 _ ⟨jm,cy,fy,rfl,Ry,_⟩;have l4:=l3.trans jm;refine⟨fun _=>jm,cy,rfl,fun b hb=>?_⟩
 have q:=aG (x:=([Value.string n,.string cy.1,.bool cy.2.1,qL cy.2.2.1],((261:TypeId),((0,0):Nat × Nat)))) hb;have l5:=l4.trans q;have hel:kS aw _ [((n,cy):aH [.s,.s,.b,.l])] [((n,Bj m):aE)] (fy++[]):=⟨fy,[],rfl,⟨⟨rfl,hz⟩,aY.le Ry q⟩,rfl⟩;refine(Bm (hV.le l5) c x f (aj.le h l5) ht ⟨some ⟨b,0,none⟩,1,1⟩ [(n,Bj m)] _ (Gr (post:=[]) hel (by rw [av]; rfl) rfl (by simp) (by simp))).mono ?_
 rintro V6 _ ⟨rk,c6,f6,rfl,R6⟩;exact⟨fun _=>rk,(c6,_,()),rfl,l5.trans rk,c6,f6,rfl,R6⟩
theorem ZD {l:List aE} (h:cq l) {i:Nat} (hi:i<l.length) {z:a6} (hz:pR z):cq (l.set i (l[i].1,z)):=by
 have hk:∀ (j:Nat) (hj:j<(l.set i (l[i].1,z)).length),(l.set i (l[i].1,z))[j].1=(l[j]'(by simpa using hj)).1:=fun j hj=>by
  rw [List.getElem_set];split
  ·rename_i ij; subst ij; rfl
  rfl
 refine⟨by rw [List.length_set]; exact h.1,fun j hj=>?_⟩
 obtain⟨q0,q1,q2,q3⟩:=h.2 j (by simpa using hj);refine⟨hj,by rw [hk]; exact q1,?_,fun h0=>by rw [hk,hk]; exact q3 h0⟩
 rw [List.getElem_set];split
 ·exact hz
 exact q2
theorem KB:XS prog 324 rI:=fun _ s s' _ _ _ _ h h'=>aM (xL s s') fun _=>E6 h h'
theorem Qc:SW prog 277 dA:=by
 rintro V ⟨c0,c1,cu⟩ ⟨d0,d1,du⟩ ⟨x0,x1,xu⟩ ⟨y0,y1,yu⟩ f f' hx hy;obtain⟨bL,hx⟩:=hx;replace bL:c0=x0:=bL;subst bL;obtain⟨f1,vv,cj,ee,hx⟩:=hx;subst cj;replace ee:LR rI _ c1 x1 f1:=ee;replace hx:_=[]:=hx;subst hx;obtain⟨gq,hy⟩:=hy;replace gq:d0=y0:=gq;subst gq;obtain⟨g1,gr1,ja,jw,hy⟩:=hy;subst ja;replace jw:LR rI _ d1 y1 g1:=jw;replace hy:_=[]:=hy;subst hy;refine aM (AE _ _) fun _=>?_
 simp only [rS,T.wp];refine⟨fun h0=>?_,fun h=>⟨by trivial,false,rfl,⟨(fun h=>by cases h),(fun e=>by cases e; simp at h)⟩⟩⟩
 refine(KB _ _ _ _ _ _ _ ee jw).mono ?_
 rintro V1 r ⟨rfl,b1,rfl,fW⟩;refine⟨nofun,b1,rfl,by trivial,b1,rfl,⟨fun h1=>?_,fun e=>by cases e; exact fW.2 rfl⟩⟩
 have q0:c0=d0:=by simpa using h0
 subst q0;have q1:x1=y1:=fW.1 h1;cases q1
 rfl
theorem Gs:SW prog 225 aY:=by
 rintro V ⟨c0,c1,c2,cu⟩ ⟨d0,d1,d2,du⟩ ⟨x0,x1,x2,xu⟩ ⟨y0,y1,y2,yu⟩ f f' hx hy;obtain⟨⟨bL,dz⟩,hx⟩:=hx;replace bL:c0=x0:=bL;subst bL;replace dz:c0.size<=9223372036854775807:=dz;obtain⟨cj,hx⟩:=hx;replace cj:c1=x1:=cj;subst cj;obtain⟨f2,Hq,cW,dU,hx⟩:=hx;subst cW;replace dU:LR rI _ c2 x2 f2:=dU;replace hx:_=[]:=hx;subst hx;obtain⟨⟨gq,AX⟩,hy⟩:=hy;replace gq:d0=y0:=gq;subst gq;replace AX:d0.size<=9223372036854775807:=AX;obtain⟨ja,hy⟩:=hy;replace ja:d1=y1:=ja;subst ja;obtain⟨g2,gr2,ki,pO,hy⟩:=hy;subst ki;replace pO:LR rI _ d2 y2 g2:=pO;replace hy:_=[]:=hy;subst hy;refine aM (FJ _ _) fun _=>?_
 simp only [tZ,T.wp];refine⟨fun h0=>?_,fun h=>⟨by trivial,false,rfl,⟨(fun h=>by cases h),(fun e=>by cases e; simp at h)⟩⟩⟩
 refine(Qc _ _ _ _ _ _ _ (bB.mk (cC.mk dU a8.mk)) (bB.mk (cC.mk pO a8.mk))).mono ?_
 rintro V1 r ⟨rfl,b1,rfl,fW⟩;refine⟨nofun,b1,rfl,by trivial,b1,rfl,⟨fun h1=>?_,fun e=>by cases e; exact fW.2 rfl⟩⟩
 have q0:c0=d0:=aR.1 h0;subst q0;have q1:(c1,x2,())=(d1,y2,()):=fW.1 h1;cases q1
 rfl
def dE (k:Int):ByteArray:=⟨(Go.Lib.itoa k).toArray⟩
def dig (k:Nat):ByteArray:=⟨#[UInt8.ofNat (48+k)]⟩
theorem KC (k:Nat):(dig k).size=1:=rfl
theorem qF (l m:List UInt8):(⟨l.toArray⟩:ByteArray)++⟨m.toArray⟩=⟨(l++m).toArray⟩:=by
 apply ByteArray.ext
 rw [ByteArray.data_append];simp
theorem Bn {k:Int} (h0:0<=k) (h:k<10):dE k=dig k.toNat:=by
 unfold dE Go.Lib.itoa;rw [if_neg (by omega),Go.Lib.decDigits,dif_pos (by omega)]
 rfl
theorem KD {k:Int} (h:9<k):dE k=dE (k / 10)++dig (k % 10).toNat:=by
 unfold dE Go.Lib.itoa;rw [if_neg (by omega),if_neg (by omega),Go.Lib.decDigits,dif_neg (by omega)];have e1:k.toNat / 10=(k / 10).toNat:=by omega
 have e2:k.toNat % 10=(k % 10).toNat:=by omega
 rw [e1,e2,<- qF]
 rfl
theorem KE (k:Int) (h0:-9223372036854775808<=k) (h1:k<=9223372036854775807):(dE k).size<=21:=by
 have:=Go.Lib.itoa_length_le k h0 h1;show(Go.Lib.itoa k).toArray.size<=21
 simpa using this
def rj (k:Nat):ByteArray:=⟨(List.replicate k 48).toArray⟩
theorem sr (k:Nat):(rj k).size=k:=by
 show(List.replicate k (48:UInt8)).toArray.size=k
 simp
theorem Qd (k:Nat):rj (k+1)=rj k++⟨#[48]⟩:=by
 unfold rj;rw [List.replicate_succ',<- qF]
theorem uN:∀ k:Nat,Go.Lib.repeatL [48] k=List.replicate k 48
 | 0=>rfl
 | k+1=>by rw [Go.Lib.repeatL,uN k,List.replicate_succ]; rfl
def dK (s:ByteArray) (n:Int):ByteArray:=if n > 2000 then s else rj (n-(s.size:Int)).toNat++s
theorem o4 (s:ByteArray):(⟨#[]⟩:ByteArray)++s=s:=by
 apply ByteArray.ext
 rw [ByteArray.data_append];simp
theorem Ea {s:ByteArray} {n:Int} (h:n<=s.size):dK s n=s:=by
 unfold dK
 by_cases hn:n > 2000
 ·rw [if_pos hn]
 rw [if_neg hn];have e:(n-(s.size:Int)).toNat=0:=by omega
 rw [e];exact o4 s
theorem VD {s:ByteArray} {n:Int} (hn:¬ n > 2000) (h:(s.size:Int)<n):dK s n=dK ((⟨#[48]⟩:ByteArray)++s) n:=by
 unfold dK;rw [if_neg hn,if_neg hn,ByteArray.size_append];have e:(n-(s.size:Int)).toNat=(n-((1+s.size:Nat):Int)).toNat+1:=by omega
 rw [e,Qd,ByteArray.append_assoc]
 rfl
theorem kX (s:ByteArray) (n:Int):(dK s n).size<=s.size+2000/\(¬ n > 2000->n<=(dK s n).size)/\((dK s n).size:Int)<=max (s.size:Int) n/\s.size<=(dK s n).size:=by
 unfold dK
 by_cases hn:n > 2000
 ·rw [if_pos hn]
  exact⟨by omega,fun h=>absurd hn h,by omega,by omega⟩
 rw [if_neg hn,ByteArray.size_append,sr];exact⟨by omega,fun _=>by omega,by omega,by omega⟩
def kq (l:List aI):Nat->ByteArray->ByteArray
 | 0,s=>s
 | i+1,s=>kq l i (s++dK (dE (ab l i)) 9)
def dw (l:List aI):ByteArray:=if l.length=0 then ⟨#[48]⟩ else kq l (l.length-1) (dE (ab l (l.length-1)))
theorem Bo {l:List aI} (hl:bK l) (i:Nat):(dE (ab l i)).size<=21:=by
 have:=hl i;exact KE _ (by omega) (by omega)
theorem Eb {l:List aI} (hl:bK l) (i:Nat):(dK (dE (ab l i)) 9).size<=21:=by
 have h1:=Bo hl i;have h2:=(kX (dE (ab l i)) 9).2.2.1;omega
theorem Bp {l:List aI} (hl:bK l):∀ (i:Nat) (s:ByteArray),(kq l i s).size<=s.size+21*i
 | 0,s=>by simp [kq]
 | i+1,s=>by
  have ih:=Bp hl i (s++dK (dE (ab l i)) 9);have hp:=Eb hl i;rw [kq];rw [ByteArray.size_append] at ih;omega
theorem wq {l:List aI} (hl:bK l):(dw l).size<=21*l.length+1:=by
 unfold dw
 by_cases h:l.length=0
 ·rw [if_pos h]
  show 1<=_
  omega
 rw [if_neg h];have h1:=Bp hl (l.length-1) (dE (ab l (l.length-1)));have h2:=Bo hl (l.length-1);omega
def eN (s:ByteArray) (sc:Int):ByteArray:=if sc > 0 then (s.extract 0 (s.size-sc.toNat)++(⟨#[46]⟩:ByteArray))++s.extract (s.size-sc.toNat) s.size else s
def dF (neg:Bool) (l:List aI) (sc:Int):ByteArray:=if neg=true then (⟨#[45]⟩:ByteArray)++eN (dK (dw l) (sc+1)) sc else eN (dK (dw l) (sc+1)) sc
theorem mG (s:ByteArray) (sc:Int):(eN s sc).size<=s.size+1:=by
 unfold eN;split
 ·rw [ByteArray.size_append,ByteArray.size_append,ByteArray.size_extract,ByteArray.size_extract]
  show _+1+_<=_
  omega
 omega
theorem kY {neg:Bool} {l:List aI} {sc:Int} (hl:bK l):(dF neg l sc).size<=21*l.length+2003:=by
 have h1:=wq hl;have h2:=(kX (dw l) (sc+1)).1;have h3:=mG (dK (dw l) (sc+1)) sc;unfold dF;split
 ·rw [ByteArray.size_append]
  show 1+_<=_
  omega
 omega
def ten (k:Nat):Int:=10 ^ k
abbrev DecD:Type:=Bool × List aI × Int × Unit
structure Same10 (m:List aI) (s:Int) (m':List aI) (s':Int):Prop where
 eq:af m'*ten s.toNat=af m*ten s'.toNat
def Goes (n:Bool) (m:List aI) (sc s:Int) (y:List aI):Prop:=cG n m sc/\cG n y s/\Same10 m sc y s
def At (n:Bool) (m:List aI) (sc s:Int) (x:DecD) (e:Bool):Prop:=(e=true/\∃ y,x=(n,y,s,())/\Goes n m sc s y)\/(e=false/\x=(false,[],0,())/\∀ y,¬ Goes n m sc s y)
theorem jd {V:aa}:LR rI V ⟨none,0,0⟩ [] []:=⟨rfl,Nat.le_refl _,by simp,.inl ⟨rfl,fun _=>rfl,rfl⟩⟩
abbrev decV (n:Bool) (s:ar) (x:Int):Value:=cA (n,s,x,())
abbrev VE (V:aa) (p:Prop):aa->Value->Prop:=fun V' r=>V'=V/\∃ e,r=.bool e/\(e=true↔p)
theorem pZ {V:aa} {p:Prop} (k:¬ p):VE V p V (.bool false):=⟨rfl,false,rfl,⟨(fun e=>by cases e),fun e=>absurd e k⟩⟩
theorem okE_yes {V:aa} {p:Prop} (k:p):VE V p V (.bool true):=⟨rfl,true,rfl,⟨fun _=>k,fun _=>rfl⟩⟩
theorem RF {V:aa} {p q:Prop} [Decidable q] (h:q↔p):VE V p V (.bool (decide q)):=⟨rfl,decide q,rfl,by rw [decide_eq_true_eq]; exact h⟩
theorem KF {V:aa} {p:Prop} {e:Bool} (h:e=true↔p):VE V p V (.bool e):=⟨rfl,e,rfl,h⟩
theorem ZE {l:List aI} {x:Int}:(x,())∈l↔∃ i,i<l.length/\ab l i=x:=by
 constructor
 ·intro h
  obtain⟨i,hi,e⟩:=List.getElem_of_mem h;exact⟨i,hi,by rw [aV hi,e]⟩
 rintro⟨i,hi,e⟩;rw [aV hi] at e;have:l[i]=(x,()):=Prod.ext e rfl;rw [<- this];exact List.getElem_mem hi
theorem find_wp {P:Program} {K:aa->List Value->Prop} {V V0:aa} {s:ar} {l:List aI} {f:List Nat} {p:Int->Prop} {body:cH [.o (.o (.i .i64))]->T} (h:LR rI V s l f)
  (lB:∀ (i:Nat) (_:i<l.length) (N:List LV->aa->Prop),(p (ab l i)->K V [.int .i64 (i:Int)])->(¬ p (ab l i)->N [.v (.int .i64 (i64.wrap ((i:Int)+1)))] V)->(body ((i:Int),())).wp P K V V [N])
  (mT:∀ i:Nat,i<l.length->p (ab l i)->K V [.int .i64 (i:Int)]) (kb:(∀ i,i<l.length->¬ p (ab l i))->K V [.int .i64 (-1:Int)]) :
  (T.lp [.o (.o (.i .i64))] [.v (.int .i64 (0:Int))] fun y=>.br (decide (y.fst<(s.n:Int))) (body y) (.ret [.int .i64 (-1:Int)])).wp P K V V0 []:=by
 simp only [T.wp];have hn:=h.1;have hb:=h.2.2.1;refine⟨fun y V'=>V'=V/\∃ i:Nat,y.1=(i:Int)/\i<=l.length/\∀ j,j<i->¬ p (ab l j),fun y=>((l.length:Int)-(y.1:Int)).toNat,⟨((0:Int),()),rfl,rfl,0,rfl,by omega,fun j hj=>by omega⟩,?_⟩
 rintro⟨(i:Int),u⟩ V' ⟨rfl,k,hk,hle,bC⟩;replace hk:i=(k:Int):=hk;subst hk;refine⟨fun aN=>?_,fun cg=>?_⟩
 ·have h1:k<l.length:=by
   have:(k:Int)<(s.n:Int):=bq aN;omega
  refine lB k h1 _ (mT k h1) fun he=>?_
  refine⟨(((k+1:Nat):Int),()),by rw [kD h1 (by omega)]; rfl,⟨rfl,k+1,rfl,h1,fun j hj=>?_⟩,?_⟩
  ·by_cases e:j=k
   ·subst e; exact he
   exact bC j (by omega)
  show((l.length:Int)-((k+1:Nat):Int)).toNat<((l.length:Int)-(k:Int)).toNat
  omega
 have h1:k=l.length:=by
  have:¬ (k:Int)<(s.n:Int):=bU cg;omega
 subst h1;exact kb bC
def AtOf (l:List aI) (p:Int->Prop) (n:Int):Prop:=(0<=n/\∃ i,i<l.length/\p (ab l i))\/(n=-1/\∀ i,i<l.length->¬ p (ab l i))
theorem ZF {l:List aI} {p:Int->Prop} {n:Int} (h:AtOf l p n):n>=0↔∃ i,i<l.length/\p (ab l i):=by
 rcases h with ⟨h1,h2⟩ | ⟨h1,h2⟩
 ·exact⟨fun _=>h2,fun _=>h1⟩
 subst h1;exact⟨fun h=>by omega,fun⟨i,hi,hp⟩=>absurd hp (h2 i hi)⟩
theorem ZG (V:aa) (s:ar) (l:List aI) (f:List Nat) (x:Int) (h:LR rI V s l f):ae prog V 227 [qL s,.int .i64 x] (fun V' r=>V'=V/\∃ n,r=.int .i64 n/\AtOf l (fun y=>x=y) n):=by
 refine aM (FM _ _) fun _=>?_
 rw [uc];refine find_wp (p:=fun y=>x=y) h (fun i hi N hy hN=>?_) (fun i hi he=>⟨rfl,_,rfl,.inl ⟨by omega,i,hi,he⟩⟩) (fun kb=>⟨rfl,_,rfl,.inr ⟨rfl,kb⟩⟩)
 obtain⟨b,o,a1,l1⟩:=h.int hi;have hn:=h.1;have e1:l[i].1=ab l i:=(aV hi).symm;rw [e1] at l1;refine⟨_,a1,(by omega:(0:Int)<=(i:Int)),(by omega:(i:Int)<(s.n:Int)),ab l i,l1,fun he=>hy (by simpa using he),fun he=>⟨_,rfl,hN (by simpa using he)⟩⟩
theorem KG (V:aa) (s:ar) (l:List aI) (f:List Nat) (x:Int) (h:LR rI V s l f):ae prog V 179 [qL s,.int .i64 x] (VE V ((x,())∈l)):=by
 refine aM (yk _ _) fun _=>?_
 simp only [oX,T.wp];refine(ZG V s l f x h).mono ?_
 rintro V1 r ⟨rfl,n,rfl,hn⟩;refine⟨nofun,n,rfl,RF ?_⟩
 rw [ZF hn,ZE];exact⟨fun⟨i,hi,e⟩=>⟨i,hi,e.symm⟩,fun⟨i,hi,e⟩=>⟨i,hi,e.symm⟩⟩
def Ec (s:ByteArray):Prop:=s.size=3/\∀ i,i<3->65<=de s i/\de s i<=90
theorem VF (V:aa) (s:ByteArray):ae prog V 228 [.string s] (VE V (Ec s)):=by
 refine aM (Ug _) fun _=>?_
 simp only [DA,T.wp];refine⟨fun h=>pZ fun k=>?_,fun h=>?_⟩
 ·have:¬ (s.size:Int)=3:=by simpa using h
  have:=k.1;omega
 have q:(s.size:Int)=3:=by simpa using h
 refine⟨fun y V'=>V'=V/\∃ i:Nat,y.1=(i:Int)/\i<=3/\∀ j,j<i->65<=de s j/\de s j<=90,fun y=>(3-(y.1:Int)).toNat,⟨((0:Int),()),rfl,rfl,0,rfl,by omega,fun j hj=>by omega⟩,?_⟩
 rintro⟨(i:Int),u⟩ V' ⟨rfl,k,hk,hle,bC⟩;replace hk:i=(k:Int):=hk;subst hk;refine⟨fun aN=>?_,fun cg=>?_⟩
 ·have h3:(k:Int)<3:=bq aN
  have e0:(k:Int).toNat=k:=by omega
  dsimp only;rw [e0];have gM:(0:Int)<=(k:Int)/\(k:Int)<(s.size:Int):=⟨by omega,by omega⟩;refine⟨gM,fun h1=>pZ fun kk=>?_,fun h1=>⟨gM,fun h2=>pZ fun kk=>?_,fun h2=>?_⟩⟩
  ·have:=bq h1
   have:=(kk.2 k (by omega)).1;omega
  ·have:=bq h2
   have:=(kk.2 k (by omega)).2;omega
  refine⟨_,rfl,(((k+1:Nat):Int),()),by rw [wrap_i64 (by omega)]; rfl,⟨rfl,k+1,rfl,by omega,fun j hj=>?_⟩,?_⟩
  ·by_cases e:j=k
   ·subst e
    have:=bU h1;have:=bU h2;omega
   exact bC j (by omega)
  show(3-((k+1:Nat):Int)).toNat<(3-(k:Int)).toNat
  omega
 have h3:¬ (k:Int)<3:=bU cg;exact okE_yes ⟨by omega,fun i hi=>bC i (by omega)⟩
theorem VG (V:aa) (s:ByteArray) (hs:s.size<=9223372036854775807):ae prog V 146 [.string s] (VE V (Ec s)):=by
 refine aM (TS _) fun _=>?_
 simp only [Dm,T.wp];refine(wg V s 65 90 65 90 hs).mono ?_
 rintro V1 r ⟨rfl,e,rfl,he⟩;refine⟨nofun,e,rfl,fun ht=>?_,fun hf=>pZ fun k=>?_⟩
 ·obtain⟨g1,g2⟩:=he.1 ht
  refine KF ⟨fun h3=>?_,fun k=>?_⟩
  ·have q:(s.size:Int)=3:=by simpa using h3
   exact⟨by omega,fun i hi=>(g1 i (by omega)).elim id id⟩
  have:=k.1;simp [this]
 have k1:=k.1;rw [he.2 ⟨fun i hi=>.inl (k.2 i (by omega)),by omega⟩] at hf;cases hf
theorem Gt (V:aa) (s s':ar) (l l':List aI) (f f':List Nat) (h:LR rI V s l f) (h':LR rI V s' l' f'):ae prog V 324 [qL s,qL s'] (VE V (l=l')):=aM (xL s s') fun _=>E6 h h'
theorem KH (V:aa) (n n':Bool) (s s':ar) (l l':List aI) (f f':List Nat) (h:LR rI V s l f) (h':LR rI V s' l' f'):ae prog V 277 [cV (n,s,()),cV (n',s',())] (VE V (n=n'/\l=l')):=by
 refine aM (AE _ _) fun _=>?_
 simp only [rS,T.wp];refine⟨fun h1=>(Gt V s s' l l' f f' h h').mono ?_,fun h1=>pZ fun k=>?_⟩
 ·have q:n=n':=by simpa using h1
  rintro V1 r ⟨rfl,e,rfl,he⟩;exact⟨nofun,e,rfl,KF ⟨fun hh=>⟨q,he.1 hh⟩,fun k=>he.2 k.2⟩⟩
 have q:¬ n=n':=by simpa using h1
 exact q k.1
theorem KI (V:aa) (n n':Bool) (s s':ar) (x x':Int) (l l':List aI) (f f':List Nat) (h:LR rI V s l f) (h':LR rI V s' l' f'):ae prog V 232 [decV n s x,decV n' s' x'] (VE V ((n=n'/\l=l')/\x=x')):=by
 refine aM (OC _ _) fun _=>?_
 simp only [Av,T.wp];refine(KH V n n' s s' l l' f f' h h').mono ?_
 rintro V1 r ⟨rfl,e,rfl,he⟩;refine⟨nofun,e,rfl,fun ht=>KF ⟨fun hh=>⟨he.1 ht,by simpa using hh⟩,fun k=>by simp [k.2]⟩,fun hf=>pZ fun k=>?_⟩
 rw [he.2 k.1] at hf; cases hf
def ZeroD (n:Bool) (l:List aI) (x:Int):Prop:=(n=false/\l=[])/\x=0
theorem uO (V:aa) (n:Bool) (s:ar) (x:Int) (l:List aI) (f:List Nat) (h:LR rI V s l f):ae prog V 226 [decV n s x] (VE V (ZeroD n l x)):=by
 refine aM (FK _) fun _=>?_
 simp only [ub,T.wp];refine(KI V n false s ⟨none,0,0⟩ x 0 l [] f [] h jd).mono ?_
 rintro V1 r ⟨rfl,e,rfl,he⟩;exact⟨nofun,e,rfl,KF he⟩
theorem len_nil {s:ar} {V:aa} {l:List aI} {f:List Nat} (h:LR rI V s l f):(s.n:Int)=0↔l=[]:=by
 have:=h.1;constructor
 ·intro k
  exact List.eq_nil_of_length_eq_zero (by omega)
 rintro rfl;simp at this;omega
theorem Bq (V:aa) (n:Bool) (s:ar) (x:Int) (l:List aI) (f:List Nat) (h:LR rI V s l f):ae prog V 153 [decV n s x] (VE V (ZeroD n l x)):=by
 refine aM (Ob _) fun _=>?_
 simp only [Ab,T.wp];refine⟨fun h1=>⟨fun h2=>KF ?_,fun h2=>pZ fun k=>?_⟩,fun h1=>pZ fun k=>?_⟩
 ·have q1:x=0:=by simpa using h1
  have q2:n=false:=by simpa using h2
  rw [beq_iff_eq,len_nil h];exact⟨fun k=>⟨⟨q2,k⟩,q1⟩,fun k=>k.1.2⟩
 ·rw [k.1.1] at h2; cases h2
 have q1:¬ x=0:=by simpa using h1
 exact q1 k.2
theorem KJ (V:aa) (x:Int):ae prog V 145 [.int .i64 x] (VE V (1<=x/\x<=9)):=by
 refine aM (Ym _) fun _=>?_
 simp only [I3,T.wp];refine(pJ V x 1 9).mono ?_
 rintro V1 r ⟨rfl,rfl⟩;exact⟨nofun,_,rfl,RF Iff.rfl⟩
theorem wu (V:aa) (x:Int):ae prog V 85 [.int .i64 x] (fun V' r=>V'=V /\
  r=.tuple #[.bool (decide (x=4\/x=5\/x=7)),.bool (decide (x=7)),.bool (decide (2<=x/\x<=7)),.bool (decide (x=5\/x=7\/x=8))]):=by
 refine aM (Tr _) fun _=>?_
 simp only [CZ,T.wp];have key:∀ {a b c d:Bool},(a=true↔(x=4\/x=5\/x=7))->(b=true↔x=7)->(c=true↔(2<=x/\x<=7))->(d=true↔(x=5\/x=7\/x=8)) ->
   Value.tuple #[.bool a,.bool b,.bool c,.bool d]=.tuple #[.bool (decide (x=4\/x=5\/x=7)),.bool (decide (x=7)),.bool (decide (2<=x/\x<=7)),.bool (decide (x=5\/x=7\/x=8))]:=by
  intro a b c d ha hb hc hd;rw [show a=decide (x=4\/x=5\/x=7) from Bool.eq_iff_iff.2 (by rw [decide_eq_true_eq]; exact ha),show b=decide (x=7) from Bool.eq_iff_iff.2 (by rw [decide_eq_true_eq]; exact hb),
   show c=decide (2<=x/\x<=7) from Bool.eq_iff_iff.2 (by rw [decide_eq_true_eq]; exact hc),show d=decide (x=5\/x=7\/x=8) from Bool.eq_iff_iff.2 (by rw [decide_eq_true_eq]; exact hd)]
 refine⟨fun h4=>?_,fun h4=>⟨fun h5=>?_,fun h5=>?_⟩⟩
 all_goals
  refine(pJ V x 2 7).mono ?_
  rintro V1 r ⟨rfl,rfl⟩;refine⟨nofun,_,rfl,?_⟩
  simp only [beq_iff_eq,beq_eq_false_iff_ne,ne_eq] at *;refine⟨fun h5=>⟨by trivial,?_⟩,fun h5=>⟨fun h7=>⟨by trivial,?_⟩,fun h7=>⟨by trivial,?_⟩⟩⟩
  all_goals (refine key ?_ ?_ ?_ ?_ <;> simp only [beq_iff_eq,decide_eq_true_eq,true_iff] <;> omega)
def aL (op:Int):List aI :=
 if op=1 then [(0,()),(3,())] else if op=2 then [(0,()),(4,())] else if op=3 then [(0,()),(4,())] else if op=4 then [(0,()),(1,()),(4,())] else
 if op=5 then [(0,()),(1,()),(4,()),(7,())] else if op=6 then [(0,()),(4,()),(5,())] else if op=7 then [(0,()),(1,()),(2,()),(4,()),(6,()),(7,())] else
 if op=8 then [(0,()),(7,())] else if op=9 then [(8,())] else []
theorem p5 (V:aa) (op:Int):ae prog V 112 [.int .i64 op] (fun V' r=>V.le V'/\∃ s f,r=qL s/\LR rI V' s (aL op) f/\cQ V V' f):=by
 refine aM (IQ _) fun _=>?_
 have go:∀ (o:List aI),aL op=o->o.length<=6->∀ b cap spare,V b=none->o.length<=cap ->
   V.le (aB V b (o.map ag++spare,(3,(0,0))))/\∃ s f,Value.slice (some ⟨b,0,none⟩) o.length cap=qL s/\LR rI (aB V b (o.map ag++spare,(3,(0,0)))) s (aL op) f/\cQ V (aB V b (o.map ag++spare,(3,(0,0)))) f:=by
  intro o ho hl b cap spare hb hc;have k:=ju (V:=V) (b:=b) (cap:=cap) (o:=o) (spare:=spare) (t:=3) hb hc (by omega);exact⟨aG hb,⟨some ⟨b,0,none⟩,o.length,cap⟩,[b],rfl,by rw [ho]; exact k.1,k.2⟩
 simp only [xp,T.wp];refine⟨fun h1=>?_,fun h1=>⟨fun h2=>?_,fun h2=>⟨fun h3=>?_,fun h3=>⟨fun h4=>?_,fun h4=>⟨fun h5=>?_,fun h5=>⟨fun h6=>?_,fun h6=>⟨fun h7=>?_,fun h7=>⟨fun h8=>?_,fun h8=>⟨fun h9=>?_,fun h9=>?_⟩⟩⟩⟩⟩⟩⟩⟩⟩
 ·obtain rfl:op=1:=by simpa using h1
  exact fun b cap spare hb hc _=>go [(0,()),(3,())] rfl (by decide) b cap spare hb hc
 ·obtain rfl:op=2:=by simpa using h2
  exact fun b cap spare hb hc _=>go [(0,()),(4,())] rfl (by decide) b cap spare hb hc
 ·obtain rfl:op=3:=by simpa using h3
  exact fun b cap spare hb hc _=>go [(0,()),(4,())] rfl (by decide) b cap spare hb hc
 ·obtain rfl:op=4:=by simpa using h4
  exact fun b cap spare hb hc _=>go [(0,()),(1,()),(4,())] rfl (by decide) b cap spare hb hc
 ·obtain rfl:op=5:=by simpa using h5
  exact fun b cap spare hb hc _=>go [(0,()),(1,()),(4,()),(7,())] rfl (by decide) b cap spare hb hc
 ·obtain rfl:op=6:=by simpa using h6
  exact fun b cap spare hb hc _=>go [(0,()),(4,()),(5,())] rfl (by decide) b cap spare hb hc
 ·obtain rfl:op=7:=by simpa using h7
  exact fun b cap spare hb hc _=>go [(0,()),(1,()),(2,()),(4,()),(6,()),(7,())] rfl (by decide) b cap spare hb hc
 ·obtain rfl:op=8:=by simpa using h8
  exact fun b cap spare hb hc _=>go [(0,()),(7,())] rfl (by decide) b cap spare hb hc
 ·obtain rfl:op=9:=by simpa using h9
  exact fun b cap spare hb hc _=>go [(8,())] rfl (by decide) b cap spare hb hc
 refine⟨aa.le.refl _,⟨none,0,0⟩,[],rfl,?_,cQ.nil⟩
 have e:aL op=[]:=by
  simp only [beq_eq_false_iff_ne,ne_eq] at h1 h2 h3 h4 h5 h6 h7 h8 h9;unfold aL;rw [if_neg h1,if_neg h2,if_neg h3,if_neg h4,if_neg h5,if_neg h6,if_neg h7,if_neg h8,if_neg h9]
 rw [e];exact jd
abbrev fQ:ByteArray:=⟨⟨[]⟩⟩
theorem fw {V:aa} {b:Nat} {cs l:List Value} {t:vn} (hV:V b=some (cs,t)) {k n:Nat} (h:fj cs k n=some l):aQ V ((⟨b,0,none⟩:Addr).add k) n=some l:=by
 simp only [aQ,ah,hV,Nat.zero_add];exact h
theorem Qe {V:aa} {b:Nat} {cs l:List Value} {t:vn} (hV:V b=some (cs,t)) {j k n:Nat} (h:fj cs (j+k) n=some l):aQ V (((⟨b,0,none⟩:Addr).add j).add k) n=some l:=by
 simp only [aQ,ah,hV,Nat.zero_add];exact h
open Go.RowKit
theorem ae.nO {P:Program} {V:aa} {g:FuncId} {args:List Value} {v:Value} (he:Sx.Enters P g)
  (h:∀ w,V.on w->Calls P g args.toArray w fun e w'=>e=.returned v/\Below w.heap.size w w'):ae P V g args (fun V' r=>V'=V/\r=v) :=
 ⟨he,fun w hw=>(h w hw).mono fun _ _ ⟨he,hb⟩=>⟨V,v,he,⟨hb.os,hb.tape,hb.output,hb.size,fun b gx _=>hb.block b gx,fun _ _ h=>h⟩,fun b c t hv=>by
  have hk:=hw b c t hv;have aN:b<w.heap.size:=(Array.getElem?_eq_some_iff.1 hk).1;rw [hb.block b aN]; exact hk,rfl,rfl⟩⟩
theorem Br (k:IntKind):∀ zs:List Int,fA (zs.map fun z=>Value.int k z)=true
 | []=>rfl
 | z :: l=>by
  have ih:=Br k l;unfold fA at ih ⊢;rw [List.map_cons,List.all_cons,ih]; rfl
theorem tab_of {P:Program} {V:aa} {w:World} {name:String} {k:IntKind} {zs:List Int} {g:Nat} {t:TypeId × Nat × Nat} (hg:P.globalNamed name=some g) (hV:V g=some (zs.map fun z=>Value.int k z,t)) (hw:V.on w):Go.Lib.TabIs P w name k zs:=by
 have h:=hw g _ _ hV;unfold Go.Lib.TabIs World.var?;rw [hg];simp only [Option.bind_some,h];rw [wQ (Br k zs)]
end Go.Proofs.YtahmmgiiojjhgaaGreatDoor
namespace Go.Proofs
open Go.Proofs.Tryz (prog)
open Go.IntKind
open Go.Shelf
def Tryz.Gu:Go.Shelf.Ren:=⟨fun | 171=>285 | 243=>330 | 246=>358 | 283=>377 | 284=>378 | 285=>379 | 286=>380 | 129=>386 | 317=>385 | 318=>387 | 319=>388 | 320=>389 | 337=>392 | 338=>393 | n=>n,fun | 3=>3 | 9=>9 | 2=>2 | 4=>4 | 171=>361 | 0=>0 | 53=>302 | 37=>162 | 5=>5 | 173=>364 | 212=>374 | 51=>356 | 20=>20 | 213=>375 | 46=>341 | 232=>382 | 233=>383 | n=>n,fun | 17=>4 | 18=>5 | 19=>6 | n=>n⟩
theorem Tryz.ZH:Go.Proofs.LaysM.n171 prog Tryz.Gu:={
 mixed:=by kernel_rfl
 f129:=Tryz.func386.trans (congrArg some (by kernel_rfl))
 f171:=Tryz.func285.trans (congrArg some (by kernel_rfl))
 f243:=Tryz.func330.trans (congrArg some (by kernel_rfl))
 f246:=Tryz.func358.trans (congrArg some (by kernel_rfl))
 f283:=Tryz.func377.trans (congrArg some (by kernel_rfl))
 f284:=Tryz.func378.trans (congrArg some (by kernel_rfl))
 f285:=Tryz.func379.trans (congrArg some (by kernel_rfl))
 f286:=Tryz.func380.trans (congrArg some (by kernel_rfl))
 f317:=Tryz.func385.trans (congrArg some (by kernel_rfl))
 f318:=Tryz.func387.trans (congrArg some (by kernel_rfl))
 f319:=Tryz.func388.trans (congrArg some (by kernel_rfl))
 f320:=Tryz.func389.trans (congrArg some (by kernel_rfl))
 f337:=Tryz.func392.trans (congrArg some (by kernel_rfl))
 f338:=Tryz.func393.trans (congrArg some (by kernel_rfl))
 t0:=Tryz.underlying0
 a0:=Tryz.isAgg0
 z0:=Tryz.sizeOf0
 v0:=Tryz.zeroValue0
 t2:=Tryz.underlying2
 a2:=Tryz.isAgg2
 z2:=Tryz.sizeOf2
 v2:=Tryz.zeroValue2
 t3:=Tryz.underlying3
 a3:=Tryz.isAgg3
 z3:=Tryz.sizeOf3
 v3:=Tryz.zeroValue3
 t4:=Tryz.underlying4
 a4:=Tryz.isAgg4
 z4:=Tryz.sizeOf4
 v4:=Tryz.zeroValue4
 t5:=Tryz.underlying5
 a5:=Tryz.isAgg5
 z5:=Tryz.sizeOf5
 v5:=Tryz.zeroValue5
 t9:=Tryz.underlying9
 a9:=Tryz.isAgg9
 z9:=Tryz.sizeOf9
 v9:=Tryz.zeroValue9
 t20:=Tryz.underlying20
 a20:=Tryz.isAgg20
 z20:=Tryz.sizeOf20
 v20:=Tryz.zeroValue20
 t37:=Tryz.underlying162
 a37:=Tryz.isAgg162
 z37:=Tryz.sizeOf162
 v37:=Tryz.zeroValue162
 t46:=Tryz.underlying341
 a46:=Tryz.isAgg341
 z46:=Tryz.sizeOf341
 v46:=Tryz.zeroValue341
 t51:=Tryz.underlying356
 a51:=Tryz.isAgg356
 z51:=Tryz.sizeOf356
 v51:=Tryz.zeroValue356
 t53:=Tryz.underlying302
 a53:=Tryz.isAgg302
 z53:=Tryz.sizeOf302
 v53:=Tryz.zeroValue302
 t171:=Tryz.underlying361
 a171:=Tryz.isAgg361
 z171:=Tryz.sizeOf361
 v171:=Tryz.zeroValue361
 t173:=Tryz.underlying364
 a173:=Tryz.isAgg364
 z173:=Tryz.sizeOf364
 v173:=Tryz.zeroValue364
 t212:=Tryz.underlying374
 a212:=Tryz.isAgg374
 z212:=Tryz.sizeOf374
 v212:=Tryz.zeroValue374
 t213:=Tryz.underlying375
 a213:=Tryz.isAgg375
 z213:=Tryz.sizeOf375
 t232:=Tryz.underlying382
 a232:=Tryz.isAgg382
 z232:=Tryz.sizeOf382
 v232:=Tryz.zeroValue382
 t233:=Tryz.underlying383
 a233:=Tryz.isAgg383
 z233:=Tryz.sizeOf383
 v233:=Tryz.zeroValue383
 g17:=by kernel_rfl
 g18:=by kernel_rfl
 g19:=by kernel_rfl
 i0:=by kernel_rfl
 i2:=by kernel_rfl
 i3:=by kernel_rfl
 i4:=by kernel_rfl
 i5:=by kernel_rfl
 i9:=by kernel_rfl
 i20:=by kernel_rfl
 i37:=by kernel_rfl
 i46:=by kernel_rfl
 i51:=by kernel_rfl
 i53:=by kernel_rfl
 i171:=by kernel_rfl
 i173:=by kernel_rfl
 i212:=by kernel_rfl
 i232:=by kernel_rfl
 i233:=by kernel_rfl
 m17:=by kernel_rfl
 m18:=by kernel_rfl
 m19:=by kernel_rfl }
open Go.RowKit Go.Sort Go.Lib in
theorem Tryz.strconv_Itoa (n : Int) (h0 : -9223372036854775808 ≤ n) (h1 : n ≤ 9223372036854775807) (w : World) (htab : Lib.TabIs prog w "internal/strconv.uint64pow10" .u64 Lib.pow10Tab) :
  Calls prog 285 #[.int .i64 n] w fun e w'=>e=.returned (.string ⟨(Lib.itoa n).toArray⟩)/\∃ k os,w'=grow (w.drewN k) os:=Any.strconv_Itoa Tryz.ZH n h0 h1 w htab
def Tryz.xY:Go.Shelf.Ren:=⟨fun | 105=>329 | 212=>355 | 99=>356 | 165=>241 | 166=>242 | 170=>357 | 169=>243 | 263=>374 | 264=>375 | 206=>376 | 240=>296 | 241=>297 | 276=>331 | 277=>332 | n=>n,fun | 9=>9 | 3=>3 | 4=>4 | 20=>20 | 0=>0 | 46=>341 | 109=>342 | 5=>5 | 72=>246 | 76=>250 | 51=>356 | 146=>357 | 53=>302 | 148=>359 | 70=>244 | 37=>162 | 75=>249 | 127=>303 | 164=>327 | 80=>252 | n=>n,fun | n=>n⟩
theorem Tryz.lays105:Go.Proofs.Lays.n105 prog Tryz.xY:={
 mixed:=by kernel_rfl
 f99:=Tryz.func356.trans (congrArg some (by kernel_rfl))
 f105:=Tryz.func329.trans (congrArg some (by kernel_rfl))
 f165:=Tryz.func241.trans (congrArg some (by kernel_rfl))
 f166:=Tryz.func242.trans (congrArg some (by kernel_rfl))
 f169:=Tryz.func243.trans (congrArg some (by kernel_rfl))
 f170:=Tryz.func357.trans (congrArg some (by kernel_rfl))
 f206:=Tryz.func376.trans (congrArg some (by kernel_rfl))
 f212:=Tryz.func355.trans (congrArg some (by kernel_rfl))
 f240:=Tryz.func296.trans (congrArg some (by kernel_rfl))
 f241:=Tryz.func297.trans (congrArg some (by kernel_rfl))
 f263:=Tryz.func374.trans (congrArg some (by kernel_rfl))
 f264:=Tryz.func375.trans (congrArg some (by kernel_rfl))
 f276:=Tryz.func331.trans (congrArg some (by kernel_rfl))
 f277:=Tryz.func332.trans (congrArg some (by kernel_rfl))
 t0:=Tryz.underlying0
 a0:=Tryz.isAgg0
 z0:=Tryz.sizeOf0
 v0:=Tryz.zeroValue0
 t3:=Tryz.underlying3
 a3:=Tryz.isAgg3
 z3:=Tryz.sizeOf3
 v3:=Tryz.zeroValue3
 t4:=Tryz.underlying4
 a4:=Tryz.isAgg4
 z4:=Tryz.sizeOf4
 v4:=Tryz.zeroValue4
 t5:=Tryz.underlying5
 a5:=Tryz.isAgg5
 z5:=Tryz.sizeOf5
 v5:=Tryz.zeroValue5
 t9:=Tryz.underlying9
 a9:=Tryz.isAgg9
 z9:=Tryz.sizeOf9
 v9:=Tryz.zeroValue9
 t20:=Tryz.underlying20
 a20:=Tryz.isAgg20
 z20:=Tryz.sizeOf20
 v20:=Tryz.zeroValue20
 t37:=Tryz.underlying162
 a37:=Tryz.isAgg162
 z37:=Tryz.sizeOf162
 v37:=Tryz.zeroValue162
 t46:=Tryz.underlying341
 a46:=Tryz.isAgg341
 z46:=Tryz.sizeOf341
 v46:=Tryz.zeroValue341
 t51:=Tryz.underlying356
 a51:=Tryz.isAgg356
 z51:=Tryz.sizeOf356
 v51:=Tryz.zeroValue356
 t53:=Tryz.underlying302
 a53:=Tryz.isAgg302
 z53:=Tryz.sizeOf302
 v53:=Tryz.zeroValue302
 t70:=Tryz.underlying244
 a70:=Tryz.isAgg244
 z70:=Tryz.sizeOf244
 v70:=Tryz.zeroValue244
 t72:=Tryz.underlying246
 a72:=Tryz.isAgg246
 z72:=Tryz.sizeOf246
 v72:=Tryz.zeroValue246
 t75:=Tryz.underlying249
 a75:=Tryz.isAgg249
 z75:=Tryz.sizeOf249
 v75:=Tryz.zeroValue249
 t76:=Tryz.underlying250
 a76:=Tryz.isAgg250
 z76:=Tryz.sizeOf250
 v76:=Tryz.zeroValue250
 t109:=Tryz.underlying342
 a109:=Tryz.isAgg342
 z109:=Tryz.sizeOf342
 v109:=Tryz.zeroValue342
 t127:=Tryz.underlying303
 a127:=Tryz.isAgg303
 z127:=Tryz.sizeOf303
 v127:=Tryz.zeroValue303
 t146:=Tryz.underlying357
 a146:=Tryz.isAgg357
 z146:=Tryz.sizeOf357
 v146:=Tryz.zeroValue357
 t148:=Tryz.underlying359
 a148:=Tryz.isAgg359
 z148:=Tryz.sizeOf359
 v148:=Tryz.zeroValue359
 t164:=Tryz.underlying327
 a164:=Tryz.isAgg327
 z164:=Tryz.sizeOf327
 v164:=Tryz.zeroValue327 }
theorem Tryz.uP:Builder.Extra prog Tryz.xY:={
 sizeBuilder:=by kernel_rfl
 liesBuilder:=by kernel_rfl
 t5:=Tryz.underlying5
 a5:=Tryz.isAgg5
 z5:=Tryz.sizeOf5
 v5:=Tryz.zeroValue5
 infoByte:=by kernel_rfl
 cellsByte:=by kernel_rfl
 sizeByte:=by kernel_rfl
 neB5:=by decide }
open Go.RowKit Go.Lib in
theorem Tryz.strings_Repeat (s:ByteArray) (c:Nat) (w:World) (hc:c<=9223372036854775807) (hlen:s.size*c<=140737488355328) :
  Calls prog 329 #[.string s,.int .i64 c] w fun e w'=>e=.returned (.string ⟨(Lib.repeatL s.data.toList c).toArray⟩)/\Below w.heap.size w w':=Any.strings_Repeat Tryz.lays105 Tryz.uP s c w hc hlen
def Tryz.KK:Go.Shelf.Ren:=⟨fun | 137=>271 | 217=>320 | 266=>349 | n=>n,fun | 9=>9 | 5=>5 | 3=>3 | n=>n,fun | n=>n⟩
theorem Tryz.lays137:Go.Proofs.Lays.n137 prog Tryz.KK:={
 mixed:=by kernel_rfl
 f137:=Tryz.func271.trans (congrArg some (by kernel_rfl))
 f217:=Tryz.func320.trans (congrArg some (by kernel_rfl))
 f266:=Tryz.func349.trans (congrArg some (by kernel_rfl))
 t3:=Tryz.underlying3
 a3:=Tryz.isAgg3
 z3:=Tryz.sizeOf3
 v3:=Tryz.zeroValue3
 t5:=Tryz.underlying5
 a5:=Tryz.isAgg5
 z5:=Tryz.sizeOf5
 v5:=Tryz.zeroValue5
 t9:=Tryz.underlying9
 a9:=Tryz.isAgg9
 z9:=Tryz.sizeOf9
 v9:=Tryz.zeroValue9 }
open Go.RowKit in
theorem Tryz.strings_IndexByte (s:ByteArray) (c:Int) (w:World) :
  Calls prog 271 #[.string s,.int .u8 c] w fun e w'=>e=.returned (.int .i64 (Lib.indexByte s.data.toList c.toNat.toUInt8))/\w'=w:=Any.strings_IndexByte Tryz.lays137 s c w
def Tryz.xZ:Go.Shelf.Ren:=⟨fun | 156=>186 | 165=>241 | 166=>242 | 169=>243 | 240=>296 | 241=>297 | 276=>331 | 277=>332 | n=>n,fun | 31=>52 | 9=>9 | 3=>3 | 4=>4 | 0=>0 | 20=>20 | 72=>246 | 76=>250 | 70=>244 | 37=>162 | 75=>249 | 127=>303 | 164=>327 | 5=>5 | 80=>252 | n=>n,fun | n=>n⟩
theorem Tryz.RG:Go.Proofs.Lays.n156 prog Tryz.xZ:={
 mixed:=by kernel_rfl
 f156:=Tryz.func186.trans (congrArg some (by kernel_rfl))
 f165:=Tryz.func241.trans (congrArg some (by kernel_rfl))
 f166:=Tryz.func242.trans (congrArg some (by kernel_rfl))
 f169:=Tryz.func243.trans (congrArg some (by kernel_rfl))
 f240:=Tryz.func296.trans (congrArg some (by kernel_rfl))
 f241:=Tryz.func297.trans (congrArg some (by kernel_rfl))
 f276:=Tryz.func331.trans (congrArg some (by kernel_rfl))
 f277:=Tryz.func332.trans (congrArg some (by kernel_rfl))
 t0:=Tryz.underlying0
 a0:=Tryz.isAgg0
 z0:=Tryz.sizeOf0
 v0:=Tryz.zeroValue0
 t3:=Tryz.underlying3
 a3:=Tryz.isAgg3
 z3:=Tryz.sizeOf3
 v3:=Tryz.zeroValue3
 t4:=Tryz.underlying4
 a4:=Tryz.isAgg4
 z4:=Tryz.sizeOf4
 v4:=Tryz.zeroValue4
 t9:=Tryz.underlying9
 a9:=Tryz.isAgg9
 z9:=Tryz.sizeOf9
 v9:=Tryz.zeroValue9
 t20:=Tryz.underlying20
 a20:=Tryz.isAgg20
 z20:=Tryz.sizeOf20
 v20:=Tryz.zeroValue20
 t31:=Tryz.underlying52
 a31:=Tryz.isAgg52
 z31:=Tryz.sizeOf52
 v31:=Tryz.zeroValue52
 t37:=Tryz.underlying162
 a37:=Tryz.isAgg162
 z37:=Tryz.sizeOf162
 v37:=Tryz.zeroValue162
 t70:=Tryz.underlying244
 a70:=Tryz.isAgg244
 z70:=Tryz.sizeOf244
 v70:=Tryz.zeroValue244
 t72:=Tryz.underlying246
 a72:=Tryz.isAgg246
 z72:=Tryz.sizeOf246
 v72:=Tryz.zeroValue246
 t75:=Tryz.underlying249
 a75:=Tryz.isAgg249
 z75:=Tryz.sizeOf249
 v75:=Tryz.zeroValue249
 t76:=Tryz.underlying250
 a76:=Tryz.isAgg250
 z76:=Tryz.sizeOf250
 v76:=Tryz.zeroValue250
 t127:=Tryz.underlying303
 a127:=Tryz.isAgg303
 z127:=Tryz.sizeOf303
 v127:=Tryz.zeroValue303
 t164:=Tryz.underlying327
 a164:=Tryz.isAgg327
 z164:=Tryz.sizeOf327
 v164:=Tryz.zeroValue327 }
theorem Tryz.mH:Builder.Extra prog Tryz.xZ:={
 sizeBuilder:=by kernel_rfl
 liesBuilder:=by kernel_rfl
 t5:=Tryz.underlying5
 a5:=Tryz.isAgg5
 z5:=Tryz.sizeOf5
 v5:=Tryz.zeroValue5
 infoByte:=by kernel_rfl
 cellsByte:=by kernel_rfl
 sizeByte:=by kernel_rfl
 neB5:=by decide }
open Go.RowKit in
theorem Tryz.strings_Join (bk o c:Nat) (xs:List ByteArray) (sep:ByteArray) (w:World) (zq:∀ (j:Nat) x,xs[j]?=some x->w.cell? ⟨bk,o+j,none⟩=some (.string x)) (lT:bk<w.heap.size) (hN:xs.length<=140737488355328) (dd:xs.length<=c) (hlen:(Lib.join (xs.map (·.data.toList)) sep.data.toList).length<=140737488355328) :
  Calls prog 186 #[.slice (some ⟨bk,o,none⟩) xs.length c,.string sep] w fun e w'=>e=.returned (.string ⟨(Lib.join (xs.map (·.data.toList)) sep.data.toList).toArray⟩)/\Below w.heap.size w w':=Any.strings_Join Tryz.RG Tryz.mH bk o c xs sep w zq lT hN dd hlen
open Go.RowKit in
theorem Tryz.strings_Join_none (a:Option Addr) (c:Nat) (sep:ByteArray) (w:World) :
  Calls prog 186 #[.slice a 0 c,.string sep] w fun e w'=>e=.returned (.string ⟨#[]⟩)/\w'=w:=Any.strings_Join_none Tryz.RG Tryz.mH a c sep w
end Go.Proofs
namespace Go.Proofs.YtahmmgiiojjhgaaGreatDoor
open Go.Proofs.Tryz (prog)
open Go.IntKind
open Sx Go.RowKit
set_option maxRecDepth 100000
noncomputable def ZI (p:Prop) (t:ByteArray):ByteArray:=by classical exact if p then t else ⟨#[]⟩
theorem dG {p:Prop} {t:ByteArray} (h:p):ZI p t=t:=by unfold ZI; rw [if_pos h]
theorem oM {p:Prop} {t:ByteArray} (h:¬ p):ZI p t=⟨#[]⟩:=by unfold ZI; rw [if_neg h]
abbrev eF (V:aa) (t:ByteArray):aa->Value->Prop:=fun V' r=>V.le V'/\r=.string t
def ZJ (V:aa):Prop:=∃ t,V 4=some (Go.Lib.pow10Tab.map fun z=>Value.int .u64 z,t)
def VH (_:aa):Prop:=True
def nW (V:aa):Prop:=iS V/\ZJ V
theorem VH.le {V V':aa} (h:VH V) (_:V.le V'):VH V':=h
theorem nW.le {V V':aa} (h:nW V) (hle:V.le V'):nW V':=⟨h.1.le hle,let ⟨t,ht⟩:=h.2; ⟨t,hle _ _ ht⟩⟩
theorem VH.c {V:aa} (_:VH V):D4 V:=trivial
theorem nW.c {V:aa} (h:nW V):wc V:=h.1
theorem KL {k:Int} (h0:0<=k) (h9:k<=9):hJ [.int .u8 (IntKind.u8.wrap (i64.wrap (48+k)))]=dig k.toNat:=by
 rw [wrap_i64 (by omega)];have e:IntKind.u8.wrap (48+k)=48+k:=by
  show(48+k) % 2 ^ 8=48+k
  exact Int.emod_eq_of_lt (by omega) (by omega)
 rw [e];have e2:(48+k).toNat=48+k.toNat:=by omega
 show(⟨#[UInt8.ofNat (48+k).toNat]⟩:ByteArray)=_
 rw [e2]; rfl
theorem Qf (V:aa) (k:Int) (h0:0<=k) (h1:k<=9223372036854775807):ae prog V 155 [.int .i64 k] (eF V (dE k)):=by
 refine aM (Od _) fun _=>?_
 simp only [Ac,T.wp];have hnn:¬ k<0:=by omega
 refine⟨fun h=>absurd (bq h) hnn,fun _=>?_⟩
 have hk:=KE k (by omega) h1;refine⟨fun y V'=>V.le V'/\0<=(y.1:Int)/\(y.1:Int)<=k/\dE (y.1:Int)++y.2.1=dE k,fun y _=>(y.1:Int).toNat,⟨(k,⟨#[]⟩,()),rfl,aa.le.refl _,h0,Int.le_refl _,ByteArray.append_empty⟩,?_⟩
 rintro⟨(j:Int),out,u⟩ V' ⟨hle,hj,hjk,hd⟩;replace hj:0<=j:=hj;replace hjk:j<=k:=hjk;replace hd:dE j++out=dE k:=hd;have gv:(dE j).size+ByteArray.size out<=21:=by
  have:=congrArg ByteArray.size hd;rw [ByteArray.size_append] at this;omega
 refine⟨fun hp=>?_,fun hz=>?_⟩
 ·have WK:j > 9:=bq hp
  have et:Int.tmod j 10=j % 10:=Int.tmod_eq_emod_of_nonneg (by omega);have eq:Int.tdiv j 10=j / 10:=Int.tdiv_eq_ediv_of_nonneg (by omega);rw [et,eq];refine⟨by decide,fun b cap spare hb hc _=>?_⟩
  have hV:=aG (x:=([Value.int .u8 (IntKind.u8.wrap (i64.wrap (48+j % 10)))]++spare,((5:TypeId),((0,0):Nat × Nat)))) hb;have ed:=KL (k:=j % 10) (by omega) (by omega);have en:=KD WK;refine⟨[.int .u8 (IntKind.u8.wrap (i64.wrap (48+j % 10)))],.inr ⟨_,rfl,?_⟩,rfl,by simp [bytesOf,jJ],?_,by decide,_,rfl,(j / 10,dig (j % 10).toNat++out,()),?_,⟨hle.trans hV,?_,?_,?_⟩,?_⟩
  ·simp only [aQ,av]
   exact fK (x:=[Value.int .u8 (IntKind.u8.wrap (i64.wrap (48+j % 10)))])
  ·rw [ed,KC]
   show 1+ByteArray.size out<=_
   omega
  ·rw [ed,wrap_i64 (by omega)]; rfl
  ·show(0:Int)<=j / 10
   omega
  ·show j / 10<=k
   omega
  ·show dE (j / 10)++(dig (j % 10).toNat++out)=dE k
   rw [<- ByteArray.append_assoc,<- en,hd]
  show(j / 10).toNat<j.toNat
  omega
 have EJ:¬ j > 9:=bU hz;intro b cap spare hb hc _;have hV:=aG (x:=([Value.int .u8 (IntKind.u8.wrap (i64.wrap (48+j)))]++spare,((5:TypeId),((0,0):Nat × Nat)))) hb;have ed:=KL (k:=j) (by omega) (by omega);have en:=Bn hj (by omega);refine⟨[.int .u8 (IntKind.u8.wrap (i64.wrap (48+j)))],.inr ⟨_,rfl,?_⟩,rfl,by simp [bytesOf,jJ],?_,hle.trans hV,?_⟩
 ·simp only [aQ,av]
  exact fK (x:=[Value.int .u8 (IntKind.u8.wrap (i64.wrap (48+j)))])
 ·rw [ed,KC]
  show 1+ByteArray.size out<=_
  omega
 rw [ed,<- en,hd]; rfl
theorem cI_Itoa {V:aa} (hV:nW V) (k:Int) (h0:-9223372036854775808<=k) (h1:k<=9223372036854775807):ae prog V 285 [.int .i64 k] (fun V' r=>V'=V/\r=.string (dE k)):=by
 obtain⟨t,ht⟩:=hV.2;refine ae.nO ⟨_,Tryz.func285,by kernel_rfl,by kernel_rfl⟩ fun w hw=>?_
 refine(Tryz.strconv_Itoa k h0 h1 w (tab_of (by kernel_rfl) ht hw)).mono ?_
 rintro e w' ⟨rfl,n,os,rfl⟩;exact⟨rfl,Go.Lib.below_grow _ _ (Nat.le_refl _) _ _⟩
theorem Qg {V:aa} (hV:nW V) (k:Int) (h0:-9223372036854775808<=k) (h1:k<=9223372036854775807):ae prog V 237 [.int .i64 k] (eF V (dE k)):=by
 refine aM (OE _) fun _=>?_
 simp only [Ax,T.wp];refine(cI_Itoa hV k h0 h1).mono ?_
 rintro V1 _ ⟨rfl,rfl⟩;exact⟨nofun,_,rfl,aa.le.refl _,rfl⟩
theorem ZK (V:aa) (s:ByteArray) (n:Int):ae prog V 209 [.string s,.int .i64 n] (eF V (dK s n)):=by
 refine aM (fS_Pad _ _) fun _=>?_
 simp only [Yv,T.wp];refine⟨fun h=>⟨aa.le.refl _,?_⟩,fun h=>?_⟩
 ·have h':n > 2000:=bq h
  unfold dK;rw [if_pos h']; rfl
 have h':¬ n > 2000:=bU h;refine⟨fun y V'=>V'=V/\dK y.1 n=dK s n,fun y _=>(n-(ByteArray.size y.1:Int)).toNat,⟨(s,()),rfl,rfl,rfl⟩,?_⟩
 rintro⟨t,u⟩ V' ⟨rfl,ht⟩;replace ht:dK t n=dK s n:=ht;refine⟨fun hp=>?_,fun hz=>⟨aa.le.refl _,?_⟩⟩
 ·have WK:(ByteArray.size t:Int)<n:=bq hp
  refine⟨?_,_,rfl,((⟨#[48]⟩:ByteArray)++t,()),rfl,⟨rfl,?_⟩,?_⟩
  ·show 1+ByteArray.size t<=_
   omega
  ·show dK ((⟨#[48]⟩:ByteArray)++t) n=dK s n
   rw [<- VD h' WK,ht]
  show(n-(((⟨#[48]⟩:ByteArray)++t).size:Int)).toNat<(n-(ByteArray.size t:Int)).toNat
  rw [ByteArray.size_append,show(⟨#[48]⟩:ByteArray).size=1 from rfl];omega
 have EJ:¬ (ByteArray.size t:Int)<n:=bU hz;rw [<- ht,Ea (by omega)]; rfl
theorem ZL (V:aa) (s:ByteArray) (n:Int):ae prog V 283 [.string s,.int .i64 n] (eF V (dK s n)):=by
 refine aM (fI_Pad _ _) fun _=>?_
 simp only [YB,T.wp];refine⟨fun h=>⟨aa.le.refl _,?_⟩,fun h=>⟨fun h2=>⟨aa.le.refl _,?_⟩,fun h2=>?_⟩⟩
 ·have h':(s.size:Int)>=n:=bq h
  rw [Ea h']; rfl
 ·have h':n > 2000:=bq h2
  unfold dK;rw [if_pos h']; rfl
 have h1':¬ (s.size:Int)>=n:=bU h;have B7:¬ n > 2000:=bU h2;obtain⟨c,hc⟩:∃ c:Nat,n-(s.size:Int)=c:=⟨(n-(s.size:Int)).toNat,by omega⟩;rw [hc,wrap_i64 (by omega)];have hcall:ae prog V 329 [.string ⟨#[48]⟩,.int .i64 c] (fun V' r=>V'=V/\r=.string (rj c)):=by
  refine ae.nO ⟨_,Tryz.func329,by kernel_rfl,by kernel_rfl⟩ fun w _=>?_
  refine(Tryz.strings_Repeat ⟨#[48]⟩ c w (by omega) (by show 1*c<=_; omega)).mono ?_
  rintro e w' ⟨rfl,hb⟩;refine⟨?_,hb⟩
  show Ending.returned (.string ⟨(Go.Lib.repeatL [48] c).toArray⟩)=_
  rw [uN]; rfl
 refine hcall.mono ?_
 rintro V1 _ ⟨rfl,rfl⟩;refine⟨nofun,rj c,rfl,?_,aa.le.refl _,?_⟩
 ·rw [sr]; omega
 unfold dK;rw [if_neg B7,hc,Int.toNat_natCast]; rfl
def Gv (x0:ar) (gi gp:Nat):T :=
 .br ((x0.n:Int) == (0:Int)) (
  .ret [.string ({ data:={ toList:=[(48:UInt8)]:Array UInt8 }:ByteArray })]) <|
 .el (x0.a) (x0.n) (i64.wrap ((x0.n:Int)-(1:Int))) fun y1 =>
 .ld false (y1.add ((i64.wrap ((x0.n:Int)-(1:Int))).toNat*(1:Nat))) (.o (.i .i64)) fun y2 =>
 .call false gi [.int .i64 (y2)] (.v (.o (.s))) fun y3 =>
 .lp [.o (.o (.s)),.o (.o (.i .i64))] [.v (.string (y3)),.v (.int .i64 (i64.wrap ((x0.n:Int)-(2:Int))))] fun y4 =>
 .br (decide (y4.2.fst>=(0:Int))) (
  .el (x0.a) (x0.n) (y4.2.fst) fun y5 =>
  .ld false (y5.add (Int.toNat y4.2.fst*(1:Nat))) (.o (.i .i64)) fun y6 =>
  .call false gi [.int .i64 (y6)] (.v (.o (.s))) fun y7 =>
  .call false gp [.string (y7),.int .i64 ((9:Int))] (.v (.o (.s))) fun y8 =>
  .rq (ByteArray.size y4.fst+y8.size<=(9223372036854775807:Nat)) <|
  .nx 0 [.v (.string (y4.fst++y8)),.v (.int .i64 (i64.wrap (y4.2.fst-(1:Int))))]) <|
 .ret [.string (y4.fst)]
theorem Bs {V:aa} {gi gp:Nat} {s:ar} {l:List aI} {f:List Nat} (h:LR rI V s l f) (hl:bK l) (h50:l.length<=50) {K:aa->List Value->Prop}
  (ci:∀ V' k,V.le V'->0<=k->k<1000000000->ae prog V' gi [.int .i64 k] (eF V' (dE k)))
  (cp:∀ V' t n,ae prog V' gp [.string t,.int .i64 n] (eF V' (dK t n))) (hK:∀ V',V.le V'->K V' [.string (dw l)]):(Gv s gi gp).wp prog K V V []:=by
 simp only [Gv,T.wp];have hn:=h.1;refine⟨fun h0=>?_,fun h0=>?_⟩
 ·have UK:(s.n:Int)=0:=by simpa using h0
  have:=hK V (aa.le.refl _);unfold dw at this;rw [if_pos (by omega)] at this;exact this
 have UK:¬ (s.n:Int)=0:=by simpa using h0
 have ht:dw l=kq l (l.length-1) (dE (ab l (l.length-1))):=by
  unfold dw;rw [if_neg (by omega)]
 have e1:i64.wrap ((s.n:Int)-1)=((l.length-1:Nat):Int):=by rw [wrap_i64 (by omega)]; omega
 have e2:i64.wrap ((s.n:Int)-2)=((l.length-1:Nat):Int)-1:=by rw [wrap_i64 (by omega)]; omega
 rw [e1,e2];have hi:l.length-1<l.length:=by omega
 obtain⟨b,o,a1,l1⟩:=h.int hi;refine⟨_,a1,(by omega),(by omega),_,l1,?_⟩
 have fW:=hl (l.length-1);rw [aV hi] at fW;refine(ci V _ (aa.le.refl _) fW.1 fW.2).mono ?_
 rintro V1 _ ⟨aF,rfl⟩;refine⟨nofun,_,rfl,?_⟩
 rw [<- aV hi];have hsz0:=Bo hl (l.length-1);refine⟨fun y V'=>V.le V'/\∃ i:Nat,(y.2.1:Int)=(i:Int)-1/\i<=l.length-1/\kq l i y.1=dw l/\ByteArray.size y.1+21*i<=21*l.length,fun y _=>((y.2.1:Int)+1).toNat,
  ⟨(dE (ab l (l.length-1)),((l.length-1:Nat):Int)-1,()),rfl,aF,l.length-1,rfl,Nat.le_refl _,ht.symm,(by show(dE (ab l (l.length-1))).size+_<=_; omega)⟩,?_⟩
 rintro⟨t,(q:Int),u⟩ V' ⟨hle,i,hq,hil,hg,gv⟩;replace hq:q=(i:Int)-1:=hq;replace hg:kq l i t=dw l:=hg;replace gv:ByteArray.size t+21*i<=21*l.length:=gv;subst hq;refine⟨fun hp=>?_,fun hz=>?_⟩
 ·have WK:(i:Int)-1>=0:=bq hp
  obtain⟨j,rfl⟩:∃ j,i=j+1:=⟨i-1,by omega⟩;have ej:((j+1:Nat):Int)-1=(j:Int):=by omega
  rw [ej];have hj:j<l.length:=by omega
  obtain⟨b,o,a1,l1⟩:=(h.le hle).int hj;have ow:=hl j;rw [aV hj] at ow;refine⟨_,a1,(by omega:(0:Int)<=(j:Int)),(by omega:(j:Int)<(s.n:Int)),_,l1,(ci V' _ hle ow.1 ow.2).mono ?_⟩
  rintro V2 _ ⟨bm,rfl⟩;refine⟨nofun,_,rfl,(cp V2 _ _).mono ?_⟩
  rintro V3 _ ⟨bS,rfl⟩;rw [<- aV hj];have hps:=Eb hl j;refine⟨nofun,_,rfl,?_,_,rfl,(t++dK (dE (ab l j)) 9,(j:Int)-1,()),?_,⟨hle.trans (bm.trans bS),j,rfl,by omega,?_,?_⟩,?_⟩
  ·show ByteArray.size t+(dK (dE (ab l j)) 9).size<=_
   omega
  ·have ew:i64.wrap ((j:Int)-1)=(j:Int)-1:=wrap_i64 (by omega)
   show [LV.v (.string (t++dK (dE (ab l j)) 9)),LV.v (.int .i64 (i64.wrap ((j:Int)-1)))]=_
   rw [ew]; rfl
  ·show kq l j (t++dK (dE (ab l j)) 9)=dw l
   rw [<- hg]; rfl
  ·show(t++dK (dE (ab l j)) 9).size+_<=_
   rw [ByteArray.size_append];omega
  show(((j:Int)-1)+1).toNat<(((j:Int))+1).toNat
  omega
 have EJ:¬ (i:Int)-1>=0:=bU hz;have hi0:i=0:=by omega
 subst hi0;have:=hK V' hle;rw [<- hg] at this;exact this
theorem cS_nat {V:aa} (_:VH V) (s:ar) (l:List aI) (f:List Nat) (h:LR rI V s l f) (ok:hZ l):ae prog V 210 [qL s] (eF V (dw l)):=by
 refine aM (Ov _) fun _=>?_
 unfold Ao
 change ae _ _ _ _ (fun V' r=>_/\∃ y,_/\(_->T.wp _ _ _ _ _ _)/\(_->T.wp _ _ (Gv s _ _) _ _ _))
 refine(pK V s l f h).mono ?_
 rintro _ r ⟨rfl,e,rfl,he⟩;refine⟨nofun,e,rfl,fun hf=>?_,fun _=>?_⟩
 ·have:=he.2 ok
  simp [this] at hf
 exact Bs h ok.1.1 ok.2 (fun V' k _ h0 h1=>Qf V' k h0 (by omega)) ZK fun V' hle=>⟨hle,rfl⟩
theorem cI_nat {V:aa} (hV:nW V) (s:ar) (l:List aI) (f:List Nat) (h:LR rI V s l f) (ok:hZ l):ae prog V 284 [qL s] (eF V (dw l)):=by
 refine aM (OR _) fun _=>?_
 exact Bs h ok.1.1 ok.2 (fun V' k hle h0 h1=>Qg (hV.le hle) k (by omega) (by omega)) ZL fun V' hle=>⟨hle,rfl⟩
theorem ss {V:aa} (hV:VH V) (c0:Bool) (c1:ar) (x:Int) (l:List aI) (f:List Nat) (h:LR rI V c1 l f) :
  ae prog V 151 [cA (c0,c1,x,())] (eF V (ZI (cG c0 l x) (dF c0 l x))):=by
 refine aM (Oa _) fun _=>?_
 simp only [Aa,T.wp];refine(A2 V c0 c1 x l f h).mono ?_
 rintro _ r ⟨rfl,e,rfl,he⟩;refine⟨nofun,e,rfl,fun hf=>⟨aa.le.refl _,by rw [oM (fun k=>by rw [he.2 k] at hf; cases hf)]; rfl⟩,fun ht=>?_⟩
 have ok:=he.1 (by simpa using ht);rw [dG ok];refine(cS_nat hV c1 l f h ok.1.1).mono ?_
 rintro V1 _ ⟨aF,rfl⟩;have hx30:=ok.2.2;have e1:i64.wrap (x+1)=x+1:=wrap_i64 (by omega);rw [e1];refine⟨fun _=>aF,_,rfl,(ZK V1 (dw l) (x+1)).mono ?_⟩
 rintro V2 _ ⟨bm,rfl⟩;have hle:=aF.trans bm;refine⟨fun _=>bm,_,rfl,?_⟩
 have BW:=wq ok.1.1.1.1;have h6:=ok.2.1;have hp:=kX (dw l) (x+1);have hd:dF c0 l x=if c0=true then (⟨#[45]⟩:ByteArray)++eN (dK (dw l) (x+1)) x else eN (dK (dw l) (x+1)) x:=rfl
 rw [hd]
 generalize dK (dw l) (x+1)=p at hp ⊢
 refine⟨fun hx=>?_,fun hx=>?_⟩
 ·have mK:x > 0:=bq hx
  have e2:i64.wrap ((p.size:Int)-x)=((p.size-x.toNat:Nat):Int):=by rw [wrap_i64 (by omega)]; omega
  rw [e2];have hq:eN p x=(p.extract 0 (p.size-x.toNat)++(⟨#[46]⟩:ByteArray))++p.extract (p.size-x.toNat) p.size:=by
   unfold eN;rw [if_pos mK]
  have hqs:=mG p x;rw [hq] at hqs ⊢;simp only [Int.toNat_natCast,Int.toNat_zero];have s1:(p.extract 0 (p.size-x.toNat)).size<=p.size:=by rw [ByteArray.size_extract]; omega
  refine⟨by omega,?_,by omega,?_,fun hc=>⟨?_,hle,?_⟩,fun hc=>⟨hle,?_⟩⟩
  ·show(p.extract 0 (p.size-x.toNat)).size+1<=_
   omega
  ·rw [<- ByteArray.size_append]
   exact Nat.le_trans hqs (by omega)
  ·refine Nat.le_trans (Nat.add_le_add_left hqs _) ?_
   show 1+(p.size+1)<=_
   omega
  ·have ic:c0=true:=hc
   rw [if_pos ic]; rfl
  have ic:¬ c0=true:=by simpa using hc
  rw [if_neg ic]; rfl
 have mK:¬ x > 0:=bU hx;have hq:eN p x=p:=by
  unfold eN;rw [if_neg mK]
 rw [hq];refine⟨fun hc=>⟨?_,hle,?_⟩,fun hc=>⟨hle,?_⟩⟩
 ·show 1+p.size<=_
  omega
 ·have ic:c0=true:=hc
  rw [if_pos ic]; rfl
 have ic:¬ c0=true:=by simpa using hc
 rw [if_neg ic]; rfl
theorem sv {V:aa} (hV:nW V) (c0:Bool) (c1:ar) (x:Int) (l:List aI) (f:List Nat) (h:LR rI V c1 l f) :
  ae prog V 235 [cA (c0,c1,x,())] (eF V (ZI (cG c0 l x) (dF c0 l x))):=by
 refine aM (OD _) fun _=>?_
 simp only [Aw,T.wp];refine(J' V c0 c1 x l f h).mono ?_
 rintro _ r ⟨rfl,e,rfl,he⟩;refine⟨nofun,e,rfl,fun hf=>⟨aa.le.refl _,by rw [oM (fun k=>by rw [he.2 k] at hf; cases hf)]; rfl⟩,fun ht=>?_⟩
 have ok:=he.1 (by simpa using ht);rw [dG ok];refine(cI_nat hV c1 l f h ok.1.1).mono ?_
 rintro V1 _ ⟨aF,rfl⟩;have hx30:=ok.2.2;have e1:i64.wrap (x+1)=x+1:=wrap_i64 (by omega);rw [e1];refine⟨fun _=>aF,_,rfl,(ZL V1 (dw l) (x+1)).mono ?_⟩
 rintro V2 _ ⟨bm,rfl⟩;have hle:=aF.trans bm;refine⟨fun _=>bm,_,rfl,?_⟩
 have BW:=wq ok.1.1.1.1;have h6:=ok.2.1;have hp:=kX (dw l) (x+1);have hd:dF c0 l x=if c0=true then (⟨#[45]⟩:ByteArray)++eN (dK (dw l) (x+1)) x else eN (dK (dw l) (x+1)) x:=rfl
 rw [hd]
 generalize dK (dw l) (x+1)=p at hp ⊢
 refine⟨fun hx=>?_,fun hx=>?_⟩
 ·have mK:x > 0:=bq hx
  have e2:i64.wrap ((p.size:Int)-x)=((p.size-x.toNat:Nat):Int):=by rw [wrap_i64 (by omega)]; omega
  rw [e2];have hq:eN p x=(p.extract 0 (p.size-x.toNat)++(⟨#[46]⟩:ByteArray))++p.extract (p.size-x.toNat) p.size:=by
   unfold eN;rw [if_pos mK]
  have hqs:=mG p x;rw [hq] at hqs ⊢;simp only [Int.toNat_natCast,Int.toNat_zero];have s1:(p.extract 0 (p.size-x.toNat)).size<=p.size:=by rw [ByteArray.size_extract]; omega
  refine⟨by omega,?_,by omega,?_,fun hc=>⟨?_,hle,?_⟩,fun hc=>⟨hle,?_⟩⟩
  ·show(p.extract 0 (p.size-x.toNat)).size+1<=_
   omega
  ·rw [<- ByteArray.size_append]
   exact Nat.le_trans hqs (by omega)
  ·refine Nat.le_trans (Nat.add_le_add_left hqs _) ?_
   show 1+(p.size+1)<=_
   omega
  ·have ic:c0=true:=hc
   rw [if_pos ic]; rfl
  have ic:¬ c0=true:=by simpa using hc
  rw [if_neg ic]; rfl
 have mK:¬ x > 0:=bU hx;have hq:eN p x=p:=by
  unfold eN;rw [if_neg mK]
 rw [hq];refine⟨fun hc=>⟨?_,hle,?_⟩,fun hc=>⟨hle,?_⟩⟩
 ·show 1+p.size<=_
  omega
 ·have ic:c0=true:=hc
  rw [if_pos ic]; rfl
 have ic:¬ c0=true:=by simpa using hc
 rw [if_neg ic]; rfl
theorem bt {p:Prop} {e:Bool} (h:e=true↔p) (k:(!e)=false):p:=h.1 (by simpa using k)
theorem bf {p:Prop} {e:Bool} (h:e=true↔p) (k:(!e)=true):¬ p:=fun q=>by rw [h.2 q] at k; cases k
theorem bf' {p:Prop} {e:Bool} (h:e=true↔p) (k:e=false):¬ p:=fun q=>by rw [h.2 q] at k; cases k
def places (x:ByteArray):Int:=(eY x).2.2.1
theorem qG (x:ByteArray):0<=places x/\places x<=4:=by
 unfold places eY;cases h:cK eX x 0 with
 | none=>exact⟨by decide,by decide⟩
 | some r =>
  have hm:r∈eX:=List.mem_of_find?_eq_some h;have:∀ r∈eX,0<=r.2.2.1/\r.2.2.1<=4:=by decide +kernel
  exact this r hm
theorem bH {x:ByteArray} (h:known x=true):x.size=3:=by
 unfold known at h;cases h2:cK eX x 0 with
 | none=>rw [h2] at h; cases h
 | some r =>
  have hm:r∈eX:=List.mem_of_find?_eq_some h2;have hx:(r.1.toList == x.toList)=true:=List.find?_some (p:=om x) h2;have:∀ r∈eX,r.1.size=3:=by decide +kernel
  rw [<- aR.1 hx];exact this r hm
theorem Gw {V:aa} (_:VH V) (x:ByteArray):ae prog V 154 [.string x] (fun V' r=>V.le V'/\r=.int .i64 (places x)):=by
 refine aM (FE _) fun _=>?_
 simp only [tV,T.wp];refine(AQ V x).mono ?_
 rintro V1 _ ⟨aF,rfl⟩;exact⟨nofun,eY x,rfl,aF,rfl⟩
theorem Gx {V:aa} (hV:nW V) (x:ByteArray):ae prog V 236 [.string x] (fun V' r=>V.le V'/\r=.int .i64 (places x)):=by
 refine aM (FN _) fun _=>?_
 simp only [ud,T.wp];refine(ri hV.1 x).mono ?_
 rintro V1 _ ⟨rfl,rfl⟩;exact⟨nofun,(eY x,known x,()),rfl,aa.le.refl _,rfl⟩
noncomputable def dW (cur:ByteArray) (neg:Bool) (l:List aI):ByteArray:=(cur++(⟨#[32]⟩:ByteArray))++dF neg l (places cur)
def fH (r:aW):ByteArray:=(((r.1++(⟨#[32]⟩:ByteArray))++r.2.1)++(⟨#[32]⟩:ByteArray))++dF r.2.2.1 r.2.2.2.1 r.2.2.2.2.1
theorem x5 {cur:ByteArray} {neg:Bool} {l:List aI} (h:bp cur neg l):(dW cur neg l).size<=2200:=by
 have h1:=kY (neg:=neg) (sc:=places cur) h.2.1.1.1.1;have h2:=bH h.1;have l1:=h.2.2;unfold dW;rw [ByteArray.size_append,ByteArray.size_append];show _+1+_<=_
 omega
theorem sw {r:aW} (h:bJ r):(fH r).size<=2200:=by
 have h1:=kY (neg:=r.2.2.1) (sc:=r.2.2.2.2.1) h.2.2.2.1.1.1.1.1;have h2:=bH h.1;have h3:=bH h.2.1;have l1:=h.2.2.2.1.2.1;unfold fH;rw [ByteArray.size_append,ByteArray.size_append,ByteArray.size_append,ByteArray.size_append];show _+1+_+1+_<=_
 omega
theorem KM {V:aa} (_:VH V) (c0:ByteArray) (c1:Bool) (c2:ar) (l:List aI) (f:List Nat) (h:LR rI V c2 l f):ae prog V 73 [ct (c0,c1,c2,())] (fun V' r=>V.le V'/\∃ e,r=.bool e/\(e=true↔bp c0 c1 l)):=ia c0 c1 c2 l f h
theorem KN {V:aa} (hV:nW V) (c0:ByteArray) (c1:Bool) (c2:ar) (l:List aI) (f:List Nat) (h:LR rI V c2 l f):ae prog V 99 [ct (c0,c1,c2,())] (fun V' r=>V.le V'/\∃ e,r=.bool e/\(e=true↔bp c0 c1 l)):=jv hV.1 c0 c1 c2 l f h
theorem uQ {V:aa} (hV:VH V) (c0:ByteArray) (c1:Bool) (c2:ar) (l:List aI) (f:List Nat) (h:LR rI V c2 l f) (hz:c0.size<=1048576) :
  ae prog V 88 [ct (c0,c1,c2,())] (eF V (ZI (bp c0 c1 l) (dW c0 c1 l))):=by
 refine aM (Fy _) fun _=>?_
 simp only [tR,T.wp];refine(KM hV c0 c1 c2 l f h).mono ?_
 rintro V1 r ⟨aF,e,rfl,he⟩;refine⟨nofun,e,rfl,fun hf=>⟨aF,by rw [oM (fun k=>by rw [he.2 k] at hf; cases hf)]; rfl⟩,fun ht=>?_⟩
 have ok:=he.1 (by simpa using ht);rw [dG ok];refine⟨by show ByteArray.size c0+1<=_; omega,(Gw (hV.le aF) c0).mono ?_⟩
 rintro V2 _ ⟨bm,rfl⟩;have l2:=aF.trans bm;have hp:=qG c0;refine⟨fun _=>bm,_,rfl,(ss (hV.le l2) c1 c2 (places c0) l f (h.le l2)).mono ?_⟩
 rintro V3 _ ⟨bS,rfl⟩;have dok:cG c1 l (places c0):=⟨ok.2.1,by have:=ok.2.2; omega,hp.1,by omega⟩
 rw [dG dok];have hs:=kY (neg:=c1) (sc:=places c0) ok.2.1.1.1.1;have h4:=ok.2.2;refine⟨fun _=>bS,_,rfl,?_,l2.trans bS,rfl⟩
 rw [ByteArray.size_append];show ByteArray.size c0+1+(dF c1 l (places c0)).size<=_
 omega
theorem x6 {V:aa} (hV:VH V) (x:aW) (s:ar) (f:List Nat) (h:LR rI V s x.2.2.2.1 f) :
  ae prog V 87 [fV (x.1,x.2.1,x.2.2.1,s,x.2.2.2.2.1,())] (eF V (ZI (bJ x) (fH x))):=by
 refine aM (II _) fun _=>?_
 simp only [xn,T.wp];refine(kU hV.c x s f h).mono ?_
 rintro V1 r ⟨aF,e,rfl,he⟩;refine⟨nofun,e,rfl,fun hf=>⟨aF,by rw [oM (fun k=>by rw [he.2 k] at hf; cases hf)]; rfl⟩,fun ht=>?_⟩
 have ok:=he.1 (by simpa using ht);rw [dG ok];have k1:=bH ok.1;have k2:=bH ok.2.1;have hs:=kY (neg:=x.2.2.1) (sc:=x.2.2.2.2.1) ok.2.2.2.1.1.1.1.1;have h4:=ok.2.2.2.1.2.1;refine⟨by show ByteArray.size x.1+1<=_; omega,?_,?_,?_⟩
 ·rw [ByteArray.size_append]
  show ByteArray.size x.1+1+ByteArray.size x.2.1<=_
  omega
 ·rw [ByteArray.size_append,ByteArray.size_append]
  show ByteArray.size x.1+1+ByteArray.size x.2.1+1<=_
  omega
 refine(ss (hV.le aF) x.2.2.1 s x.2.2.2.2.1 x.2.2.2.1 f (h.le aF)).mono ?_
 rintro V3 _ ⟨bS,rfl⟩;rw [dG ok.2.2.2.1];refine⟨fun _=>bS,_,rfl,?_,aF.trans bS,rfl⟩
 rw [ByteArray.size_append,ByteArray.size_append,ByteArray.size_append];show ByteArray.size x.1+1+ByteArray.size x.2.1+1+(dF x.2.2.1 x.2.2.2.1 x.2.2.2.2.1).size<=_
 omega
theorem uR {V:aa} (hV:nW V) (c0:ByteArray) (c1:Bool) (c2:ar) (l:List aI) (f:List Nat) (h:LR rI V c2 l f) (hz:c0.size<=1048576) :
  ae prog V 181 [ct (c0,c1,c2,())] (eF V (ZI (bp c0 c1 l) (dW c0 c1 l))):=by
 refine aM (FI _) fun _=>?_
 simp only [tY,T.wp];refine(KN hV c0 c1 c2 l f h).mono ?_
 rintro V1 r ⟨aF,e,rfl,he⟩;refine⟨nofun,e,rfl,fun hf=>⟨aF,by rw [oM (fun k=>by rw [he.2 k] at hf; cases hf)]; rfl⟩,fun ht=>?_⟩
 have ok:=he.1 (by simpa using ht);rw [dG ok];refine⟨by show ByteArray.size c0+1<=_; omega,(Gx (hV.le aF) c0).mono ?_⟩
 rintro V2 _ ⟨bm,rfl⟩;have l2:=aF.trans bm;have hp:=qG c0;refine⟨fun _=>bm,_,rfl,(sv (hV.le l2) c1 c2 (places c0) l f (h.le l2)).mono ?_⟩
 rintro V3 _ ⟨bS,rfl⟩;have dok:cG c1 l (places c0):=⟨ok.2.1,by have:=ok.2.2; omega,hp.1,by omega⟩
 rw [dG dok];have hs:=kY (neg:=c1) (sc:=places c0) ok.2.1.1.1.1;have h4:=ok.2.2;refine⟨fun _=>bS,_,rfl,?_,l2.trans bS,rfl⟩
 rw [ByteArray.size_append];show ByteArray.size c0+1+(dF c1 l (places c0)).size<=_
 omega
theorem KO {V:aa} (hV:nW V) (x:aW) (s:ar) (f:List Nat) (h:LR rI V s x.2.2.2.1 f) :
  ae prog V 185 [fV (x.1,x.2.1,x.2.2.1,s,x.2.2.2.2.1,())] (eF V (ZI (bJ x) (fH x))):=by
 refine aM (Ja _) fun _=>?_
 simp only [xB,T.wp];refine(kV hV.c x s f h).mono ?_
 rintro V1 r ⟨aF,e,rfl,he⟩;refine⟨nofun,e,rfl,fun hf=>⟨aF,by rw [oM (fun k=>by rw [he.2 k] at hf; cases hf)]; rfl⟩,fun ht=>?_⟩
 have ok:=he.1 (by simpa using ht);rw [dG ok];have k1:=bH ok.1;have k2:=bH ok.2.1;have hs:=kY (neg:=x.2.2.1) (sc:=x.2.2.2.2.1) ok.2.2.2.1.1.1.1.1;have h4:=ok.2.2.2.1.2.1;refine⟨by show ByteArray.size x.1+1<=_; omega,?_,?_,?_⟩
 ·rw [ByteArray.size_append]
  show ByteArray.size x.1+1+ByteArray.size x.2.1<=_
  omega
 ·rw [ByteArray.size_append,ByteArray.size_append]
  show ByteArray.size x.1+1+ByteArray.size x.2.1+1<=_
  omega
 refine(sv (hV.le aF) x.2.2.1 s x.2.2.2.2.1 x.2.2.2.1 f (h.le aF)).mono ?_
 rintro V3 _ ⟨bS,rfl⟩;rw [dG ok.2.2.2.1];refine⟨fun _=>bS,_,rfl,?_,aF.trans bS,rfl⟩
 rw [ByteArray.size_append,ByteArray.size_append,ByteArray.size_append];show ByteArray.size x.1+1+ByteArray.size x.2.1+1+(dF x.2.2.1 x.2.2.2.1 x.2.2.2.2.1).size<=_
 omega
abbrev Tx:Type:=ByteArray × Unit
def gI (l:List Tx):List (List UInt8):=l.map fun x=>x.1.data.toList
def eK (l:List Tx) (by':ByteArray):ByteArray:=⟨(Go.Lib.join (gI l) by'.data.toList).toArray⟩
def qR (l:List Tx):Nat:=Go.Lib.lens (gI l)
theorem ba_mk (x:ByteArray):(⟨x.data.toList.toArray⟩:ByteArray)=x:=by simp
theorem wv (x:Tx) (b:ByteArray):eK [x] b=x.1:=by
 unfold eK gI;rw [List.map_cons,List.map_nil,Go.Lib.join_one]
theorem sy {l:List Tx} (h:l≠[]) (x:Tx) (b:ByteArray):eK (l++[x]) b=eK l b++b++x.1:=by
 cases l with
 | nil=>exact absurd rfl h
 | cons a r =>
  have e:Go.Lib.join (gI (a :: r++[x])) b.data.toList=Go.Lib.join (gI (a :: r)) b.data.toList++b.data.toList++x.1.data.toList:=by
   unfold gI;rw [List.cons_append,List.map_cons,List.map_cons,Go.Lib.join_cons,Go.Lib.join_cons,List.map_append];simp [Go.Lib.joinTail]
  unfold eK;rw [e,<- qF,<- qF,ba_mk,ba_mk]
theorem VI (l:List Tx) (x:Tx):qR (x :: l)=x.1.size+qR l:=by
 unfold qR gI Go.Lib.lens;simp
theorem VJ (l:List Tx) (k:Nat):qR (l.take k)<=qR l:=by
 unfold qR gI;rw [List.map_take];exact Go.Lib.lens_take_le _ _
theorem RH {B:Nat}:∀ (l:List Tx),(∀ x∈l,x.1.size<=B)->qR l<=B*l.length
 | [],_=>Nat.le_refl _
 | x :: l,h=>by
  have h1:=RH l fun y hy=>h y (by simp [hy])
  have h2:=h x (by simp);rw [VI,List.length_cons,Nat.mul_add];omega
theorem sA (l:List Tx) (b:ByteArray):(eK l b).size<=qR l+l.length*b.size:=by
 cases l with
 | nil=>exact Nat.zero_le _
 | cons a r =>
  have e:(eK (a :: r) b).size=(Go.Lib.join (gI (a :: r)) b.data.toList).length:=by
   show(Go.Lib.join (gI (a :: r)) b.data.toList).toArray.size=_
   simp
  rw [e];unfold gI;rw [List.map_cons,Go.Lib.join_length,List.length_map,List.length_cons];have h1:b.data.toList.length=b.size:=by
   show b.data.toList.length=b.data.size
   simp
  have h2:qR (a :: r)=Go.Lib.lens (a.1.data.toList :: List.map (fun x=>x.1.data.toList) r):=rfl;rw [h1,h2,Nat.add_mul,Nat.mul_comm r.length];omega
def dO (x:Tx):Value:=.string x.1
theorem yF {V:aa}:∀ o:List Tx,(∀ x∈o,x.1.size<=9223372036854775807)->kS bE V o o []
 | [],_=>rfl
 | x :: o,h=>⟨[],[],rfl,⟨⟨rfl,h x (by simp)⟩,rfl⟩,yF o fun y hy=>h y (by simp [hy])⟩
theorem oN {V:aa}:∀ {cs l:List Tx} {f:List Nat},kS bE V cs l f->cs=l/\f=[]
 | [],[],_,h=>⟨rfl,h⟩
 | (c,()) :: cs,(x,()) :: l,_,⟨f,g,rfl,h1,h2⟩=>by
  obtain⟨rfl,rfl⟩:=oN h2;have e1:c=x:=h1.1.1;have e2:f=[]:=h1.2;subst e1; subst e2
  exact⟨rfl,rfl⟩
theorem uS:∀ o:List Tx,o.flatMap (aH.aD [.s])=o.map dO
 | []=>rfl
 | x :: o=>by rw [List.flatMap_cons,uS o]; rfl
theorem ZM {V:aa} {b cap:Nat} {o:List Tx} {spare:List Value} {t:TypeId} (hb:V b=none) (hc:o.length<=cap) (hl:o.length<=9223372036854775807) (hz:∀ x∈o,x.1.size<=9223372036854775807) :
  LR bE (aB V b (o.map dO++spare,(t,(0,0)))) ⟨some ⟨b,0,none⟩,o.length,cap⟩ o [b]/\cQ V (aB V b (o.map dO++spare,(t,(0,0)))) [b]:=by
 refine⟨⟨rfl,hc,hl,.inr ⟨b,[],spare,(t,(0,0)),[],o,rfl,?_,yF o hz,rfl⟩⟩,by simp,?_,?_⟩
 ·rw [av,uS]; rfl
 ·intro b' gx; simp at gx; subst gx; exact hb
 intro b' gx; simp at gx; subst gx; exact⟨_,_,av⟩
theorem RI {l:List Tx} {k:Nat} (h0:0<k) (h:k<=l.length):l.take k≠[]:=by
 intro e;have:(l.take k).length=0:=by rw [e]; rfl
 rw [List.length_take] at this;omega
theorem RJ (V:aa) (s:ar) (l:List Tx) (f:List Nat) (b:ByteArray) (h:LR bE V s l f) (hs:qR l+l.length*b.size<=1099511627776) :
  ae prog V 92 [qL s,.string b] (fun V' r=>V'=V/\r=.string (eK l b)):=by
 refine aM (fS_Join _ _) fun _=>?_
 simp only [Rk,T.wp];have hn:=h.1;have jT:=h.2.2.1;have gv:∀ k,k<=l.length->(eK (l.take k) b).size<=1099511627776:=by
  intro k hk;have h1:=sA (l.take k) b;have h2:=VJ l k;have h3:(l.take k).length*b.size<=l.length*b.size:=Nat.mul_le_mul_right _ (by rw [List.length_take]; omega)
  omega
 refine⟨fun y V'=>V'=V/\∃ i:Nat,y.2.1=(i:Int)/\i<=l.length/\y.1=eK (l.take i) b,fun y=>((l.length:Int)-(y.2.1:Int)).toNat,⟨(⟨#[]⟩,(0:Int),()),rfl,rfl,0,rfl,by omega,rfl⟩,?_⟩
 rintro⟨(t:ByteArray),(i:Int),u⟩ V' ⟨rfl,k,hk,lV,ht⟩;replace hk:i=(k:Int):=hk;replace ht:t=eK (l.take k) b:=ht;subst hk ht;refine⟨fun aN=>?_,fun cg=>?_⟩
 ·have h1:k<l.length:=by
   have:(k:Int)<(s.n:Int):=bq aN;omega
  obtain⟨⟨bk,o,a1,l1⟩,z1⟩:=h.txt h1;have e1:l.take (k+1)=l.take k++[l[k]]:=List.take_succ_eq_append_getElem h1;have s1:=gv (k+1) (by omega);have s0:=gv k (by omega);have fin:∀ t:ByteArray,t=eK (l.take (k+1)) b->∃ N,([fun vs Ma=>∃ y',vs=cH.nf [.o (.o .s),.o (.o (.i .i64))] y'/\(Ma=V'/\∃ i:Nat,y'.2.1=(i:Int)/\i<=l.length/\y'.1=eK (l.take i) b)/\((l.length:Int)-(y'.2.1:Int)).toNat<((l.length:Int)-(k:Int)).toNat]:List (List LV->aa->Prop))[0]?=some N/\N [.v (.string t),.v (.int .i64 (i64.wrap ((k:Int)+1)))] V':=by
   intro t ht;refine⟨_,rfl,(t,((k+1:Nat):Int),()),by rw [kD h1 (by omega)]; rfl,⟨rfl,k+1,rfl,h1,ht⟩,?_⟩
   show((l.length:Int)-((k+1:Nat):Int)).toNat<((l.length:Int)-(k:Int)).toNat
   omega
  refine⟨_,a1,(by omega:(0:Int)<=(k:Int)),(by omega:(k:Int)<(s.n:Int)),l[k].1,l1,fun hp=>?_,fun hz=>?_⟩
  ·have WK:(k:Int) > 0:=bq hp
   rw [e1,sy (RI (by omega) (by omega)),ByteArray.size_append,ByteArray.size_append] at s1;refine⟨?_,?_,fin _ ?_⟩
   ·show(eK (l.take k) b).size+b.size<=_
    omega
   ·show(eK (l.take k) b++b).size+l[k].1.size<=_
    rw [ByteArray.size_append];omega
   rw [e1,sy (RI (by omega) (by omega))]
  have EJ:¬ (k:Int) > 0:=bU hz;obtain rfl:k=0:=by omega
  rw [e1] at s1;have e2:eK (List.take 0 l++[l[0]]) b=l[0].1:=wv _ _;rw [e2] at s1;refine⟨?_,fin _ ?_⟩
  ·show(eK (l.take 0) b).size+l[0].1.size<=_
   omega
  rw [e1,e2];exact o4 _
 have h1:k=l.length:=by
  have:¬ (k:Int)<(s.n:Int):=bU cg;omega
 subst h1;refine⟨rfl,?_⟩
 rw [List.take_length]
 rfl
theorem txt_obj {pre post:List Value} {cs:List Tx} {t:vn} {x:Tx} (hx:x∈cs):oU (pre++(cs.map dO++post)) t=.cells (pre++(cs.map dO++post)).toArray t.1 t.2:=by
 unfold oU;split
 ·rename_i es he
  exfalso
  have hm:dO x∈pre++(cs.map dO++post):=List.mem_append.2 (.inr (List.mem_append.2 (.inl (List.mem_map_of_mem hx))));rw [he] at hm;simp [dO] at hm
 rfl
theorem ZN (V:aa) (s:ar) (l:List Tx) (f:List Nat) (b:ByteArray) (h:LR bE V s l f) (hs:qR l+l.length*b.size<=1099511627776) (hl:l.length<=1099511627776) :
  ae prog V 186 [qL s,.string b] (fun V' r=>V'=V/\r=.string (eK l b)):=by
 have he:Sx.Enters prog 186:=⟨_,Tryz.func186,by kernel_rfl,by kernel_rfl⟩;obtain⟨hn,hc,jT,⟨h0,_,_⟩ | ⟨bk,pre,post,t,fps,cs,ha,hV,hE,_⟩⟩:=h
 ·have:l=[]:=List.eq_nil_of_length_eq_zero (by omega)
  subst this;refine ae.nO he fun w _=>?_
  have k:=Tryz.strings_Join_none s.a s.c b w;have e:([qL s,.string b]:List Value).toArray=#[.slice s.a 0 s.c,.string b]:=by
   show #[Value.slice s.a s.n s.c,_]=_
   rw [h0]
  rw [e];refine k.mono ?_
  rintro e w' ⟨rfl,rfl⟩;exact⟨rfl,Below.refl _ _⟩
 obtain⟨rfl,_⟩:=oN hE;rw [uS] at hV
 by_cases hemp:cs=[]
 ·subst hemp
  refine ae.nO he fun w _=>?_
  have k:=Tryz.strings_Join_none s.a s.c b w;have h0:s.n=0:=hn;have e:([qL s,.string b]:List Value).toArray=#[.slice s.a 0 s.c,.string b]:=by
   show #[Value.slice s.a s.n s.c,_]=_
   rw [h0]
  rw [e];refine k.mono ?_
  rintro e w' ⟨rfl,rfl⟩;exact⟨rfl,Below.refl _ _⟩
 refine ae.nO he fun w hw=>?_
 have hw':=hw _ _ _ hV;obtain⟨x0,hx0⟩:∃ x,x∈cs:=List.exists_mem_of_ne_nil cs hemp;rw [txt_obj hx0] at hw';have aN:bk<w.heap.size:=(Array.getElem?_eq_some_iff.1 hw').1;have hj:=sA cs b;have hlen:(Go.Lib.join ((cs.map (·.1)).map (·.data.toList)) b.data.toList).length<=140737488355328:=by
  have e:(eK cs b).size=(Go.Lib.join ((cs.map (·.1)).map (·.data.toList)) b.data.toList).length:=by
   show(Go.Lib.join (gI cs) b.data.toList).toArray.size=_
   rw [List.map_map];simp [gI]
   rfl
  rw [<- e];omega
 have k:=Tryz.strings_Join bk pre.length s.c (cs.map (·.1)) b w (fun j x hx=>?_) aN (by rw [List.length_map]; omega) (by rw [List.length_map]; omega) hlen
 ·have e:([qL s,.string b]:List Value).toArray=#[.slice (some ⟨bk,pre.length,none⟩) (cs.map (·.1)).length s.c,.string b]:=by
   show #[Value.slice s.a s.n s.c,_]=_
   rw [ha,hn,List.length_map]
  rw [e];refine k.mono ?_
  rintro e w' ⟨rfl,hb⟩;refine⟨?_,hb⟩
  have:eK cs b=⟨(Go.Lib.join ((cs.map (·.1)).map (·.data.toList)) b.data.toList).toArray⟩:=by
   unfold eK gI;rw [List.map_map]
   rfl
  rw [this]
 unfold World.cell?;rw [hw'];have BY:j<cs.length:=by
  by_cases q:j<cs.length
  ·exact q
  rw [List.getElem?_eq_none (by rw [List.length_map]; omega)] at hx; cases hx
 have mK:cs[j].1=x:=by
  rw [List.getElem?_map,List.getElem?_eq_getElem BY] at hx;simpa using hx
 have q:(pre++(cs.map dO++post))[pre.length+j]?=some (.string x):=by
  rw [List.getElem?_append_right (by omega),Nat.add_sub_cancel_left,List.getElem?_append_left (by rw [List.length_map]; exact BY),List.getElem?_map,List.getElem?_eq_getElem BY]
  show some (Value.string cs[j].1)=_
  rw [mK]
 simpa using q
theorem yG (V:aa) (s:ar) (l:List Tx) (f:List Nat) (b:ByteArray) (h:LR bE V s l f) (hs:qR l+l.length*b.size<=1099511627776) (hl:l.length<=1099511627776) :
  ae prog V 114 [qL s,.string b] (fun V' r=>V'=V/\r=.string (eK l b)):=by
 refine aM (fI_Join _ _) fun _=>?_
 simp only [Rl,T.wp];refine(ZN V s l f b h hs hl).mono ?_
 rintro V1 r ⟨rfl,rfl⟩;exact⟨nofun,_,rfl,by trivial,rfl⟩
def opL:List Tx:=[(⟨⟨[]⟩⟩,()),(⟨⟨[111,112,101,110]⟩⟩,()),(⟨⟨[112,117,116]⟩⟩,()),(⟨⟨[116,97,107,101]⟩⟩,()),(⟨⟨[109,111,118,101]⟩⟩,()),(⟨⟨[115,119,97,112]⟩⟩,()),(⟨⟨[100,101,97,108]⟩⟩,()),(⟨⟨[116,97,120]⟩⟩,()),(⟨⟨[99,97,115,104]⟩⟩,()),(⟨⟨[114,97,116,101]⟩⟩,())]
def qV (op:Int):ByteArray:=(opL.getD op.toNat (fQ,())).1
theorem KP {op:Int} (h:1<=op/\op<=9):(qV op).size<=4:=by
 have:op=1\/op=2\/op=3\/op=4\/op=5\/op=6\/op=7\/op=8\/op=9:=by omega
 rcases this with rfl | rfl | rfl | rfl | rfl | rfl | rfl | rfl | rfl <;> decide
theorem ZO:∀ x∈opL,x.1.size<=9223372036854775807:=by
 intro x hx;have:x.1.size<=4:=by
  simp only [opL,List.mem_cons,List.not_mem_nil,or_false] at hx;rcases hx with rfl | rfl | rfl | rfl | rfl | rfl | rfl | rfl | rfl | rfl <;> decide
 omega
theorem wx (V:aa) (op:Int) (h:1<=op/\op<=9):ae prog V 86 [.int .i64 op] (fun V' r=>V'=V/\r=.string (qV op)):=by
 have h9:op=1\/op=2\/op=3\/op=4\/op=5\/op=6\/op=7\/op=8\/op=9:=by omega
 refine aM (Ts _) fun _=>?_
 simp only [C0,T.wp];refine(KJ V op).mono ?_
 rintro V1 r ⟨rfl,e,rfl,he⟩;refine⟨nofun,e,rfl,fun hf=>absurd h (bf he hf),fun _=>⟨⟨by omega,by show op<10; omega⟩,qV op,?_,by trivial,rfl⟩⟩
 rcases h9 with rfl | rfl | rfl | rfl | rfl | rfl | rfl | rfl | rfl <;> rfl
theorem Ed (V:aa) (s:ar) (l:List Tx) (f:List Nat) (i:Nat) (h:LR bE V s l f) (hi:i<l.length):ae prog V 176 [.int .i64 (i:Int),qL s] (fun V' r=>V'=V/\r=.string l[i].1):=by
 refine aM (T0 _ _) fun _=>?_
 simp only [Dq,T.wp];have hn:=h.1;obtain⟨⟨b,o,a1,l1⟩,_⟩:=h.txt hi;refine⟨fun h0=>?_,fun _=>⟨fun h0=>?_,fun _=>⟨_,a1,by omega,by omega,l[i].1,l1,by trivial,rfl⟩⟩⟩
 ·have:=bq h0
  omega
 have:=bq h0;omega
theorem Ee (V:aa) (op:Int) (h:1<=op/\op<=9):ae prog V 111 [.int .i64 op] (fun V' r=>V.le V'/\r=.string (qV op)):=by
 refine aM (TC _) fun _=>?_
 simp only [Db,T.wp];intro b cap spare hb hc _;have k:=ZM (V:=V) (b:=b) (cap:=cap) (o:=opL) (spare:=spare) (t:=9) hb hc (by decide) ZO;have ei:op=((op.toNat:Nat):Int):=by omega
 have hi:op.toNat<opL.length:=by show op.toNat<10; omega
 have key:=Ed _ _ opL _ op.toNat k.1 hi;rw [<- ei] at key;refine key.mono ?_
 rintro V1 _ ⟨rfl,rfl⟩;refine⟨nofun,_,rfl,aG hb,?_⟩
 show Value.string _=Value.string _
 rw [qV,List.getD_eq_getElem?_getD,List.getElem?_eq_getElem hi]
 rfl
def VK (e:Bool) (t:ByteArray) (l:List Tx):List Tx:=if e=true then l++[(t,())] else l
theorem ZP {e:Bool} {t:ByteArray} {l:List Tx} (h:e=true):VK e t l=l++[(t,())]:=if_pos h
theorem addB_f {e:Bool} {t:ByteArray} {l:List Tx} (h:e=false):VK e t l=l:=by rw [h]; rfl
theorem ZQ (e:Bool) (t:ByteArray) (l:List Tx):(VK e t l).length<=l.length+1:=by
 unfold VK;split
 ·simp
 omega
def Wd (V1:aa) (l:List Tx) (k:Nat):cH [.a 9]->aa->Prop:=fun y V'=>V1.le V'/\y.1.1=l.length/\y.1.2=l.map dO/\l.length<=k
theorem Wd.add {V1 V':aa} {l:List Tx} {k n:Nat} {ys:List Value} {e:Bool} {t:ByteArray} (hle:V1.le V') (hn:n=l.length) (dZ:ys=l.map dO) (hl:l.length<=k) (he:e=true):Wd V1 (VK e t l) (k+1) ((n+1,ys++[.string t]),()) V':=by
 refine⟨hle,?_,?_,?_⟩
 ·rw [ZP he,hn]; simp
 ·rw [ZP he,dZ,List.map_append]; rfl
 have:=ZQ e t l;omega
theorem Wd.j9 {V1 V':aa} {l:List Tx} {k n:Nat} {ys:List Value} {e:Bool} {t:ByteArray} (hle:V1.le V') (hn:n=l.length) (dZ:ys=l.map dO) (hl:l.length<=k) (he:e=false):Wd V1 (VK e t l) (k+1) ((n,ys),()) V':=by
 rw [addB_f he];exact⟨hle,hn,dZ,by omega⟩
end Go.Proofs.YtahmmgiiojjhgaaGreatDoor
