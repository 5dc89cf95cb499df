/-
  What each function comes to, as a tree.
-/
import Derived.Test.YtahmmgiiojjhgaaGreatDoorRep
import Derived.Test.YtahmmgiiojjhgaaGreatDoorChecked
import Derived.KernelRfl
namespace Go.Proofs.YtahmmgiiojjhgaaGreatDoor
open Go.IntKind
open Sx
section
variable {sh:List Sc} {α:Type}
def SW (P:Program) (g:Nat) (e:Rp sh α):Prop:=∀ (V:aa) (c d:aH sh) (x y:α) (f f':List Nat),e.R V c x f->e.R V d y f' ->
 ae P V g [dx.val (.g sh) c,dx.val (.g sh) d] (fun V' r=>V'=V/\∃ b,r=.bool b/\(b=true↔x=y))
def XS (P:Program) (g:Nat) (e:Rp sh α) (ex:List Value:=[]):Prop:=∀ (V:aa) (s s':ar) (l l':List α) (f f':List Nat),LR e V s l f->LR e V s' l' f' ->
 ae P V g ([qL s,qL s']++ex) (fun V' r=>V'=V/\∃ b,r=.bool b/\(b=true↔l=l'))
def XT (P:Program) (g:Nat) (e:Rp sh α):Prop:=∀ (V:aa) (c:aH sh) (x:α) (f:List Nat) (left:Int),e.R V c x f->0<=left->left<=1048576 ->
 ae P V g [dx.val (.g sh) c,.int .i64 left] (fun V' r=>V'=V/\r=.int .i64 (gy (e.cB x) left))
def SzSC (P:Program) (g:Nat) (e:Rp sh α):Prop:=∀ (V:aa) (s:ar) (l:List α) (f:List Nat) (left:Int),LR e V s l f->0<=left->left<=1048576 ->
 ae P V g [qL s,.int .i64 left] (fun V' r=>V'=V/\r=.int .i64 (gy (l.length+aC e l) left))
def zy (P:Program) (g:Nat) (e:Rp sh α):Prop:=∀ (V:aa) (c:aH sh) (x:α) (f:List Nat),e.R V c x f->e.cB x<=1048576 ->
 ae P V g [dx.val (.g sh) c] (fun V' r=>V.le V'/\∃ c' f',r=dx.val (.g sh) c'/\e.R V' c' x f'/\cQ V V' f')
def MT (P:Program) (g:Nat) (e:Rp sh α):Prop:=∀ (V:aa) (s:ar) (l:List α) (f:List Nat),LR e V s l f->l.length+aC e l<=1048576 ->
 ae P V g [qL s] (fun V' r=>V.le V'/\∃ s' f',r=qL s'/\LR e V' s' l f'/\cQ V V' f')
end
def tEq (n n':Nat) (body:cH [.o (.o (.i .i64))]->T):T :=
 .br ((n:Int) != (n':Int)) (.ret [.bool false]) <|
 .lp [.o (.o (.i .i64))] [.v (.int .i64 (0:Int))] fun y =>
 .br (decide (y.fst<(n:Int))) (body y) <|
 .ret [.bool true]
theorem kD {i n:Nat} (h:i<n) (hn:n<=9223372036854775807):i64.wrap ((i:Int)+1)=((i+1:Nat):Int):=by
 rw [wrap_i64 (by omega)]; omega
theorem XU {α:Type} {P:Program} {body:cH [.o (.o (.i .i64))]->T} {V V0:aa} {l l':List α} {n n':Nat} (hn:n=l.length) (H9:n'=l'.length) (gv:n<=9223372036854775807)
  (lB:∀ (i:Nat) (h:i<l.length) (h':i<l'.length) (K:aa->List Value->Prop) (N:List LV->aa->Prop),(l[i]≠l'[i]->K V [.bool false]) ->
   (l[i]=l'[i]->N [.v (.int .i64 (i64.wrap ((i:Int)+1)))] V)->(body ((i:Int),())).wp P K V V [N]) :
  (tEq n n' body).wp P (fun V' vs=>V'=V/\∃ b,packed vs=.bool b/\(b=true↔l=l')) V V0 []:=by
 subst hn H9;simp only [tEq,T.wp];refine⟨fun h=>⟨trivial,false,rfl,?_⟩,fun h=>?_⟩
 ·refine⟨(fun h=>by cases h),(fun e=>?_)⟩
  subst e;simp at h
 have hlen:l.length=l'.length:=by
  have:¬ (((l.length:Nat):Int)≠((l'.length:Nat):Int)):=by simpa using h
  omega
 refine⟨fun y V'=>V'=V/\∃ i:Nat,y.1=(i:Int)/\i<=l.length/\l.take i=l'.take i,fun y=>((l.length:Int)-(y.1:Int)).toNat,⟨((0:Int),()),rfl,rfl,0,rfl,by omega,by simp⟩,?_⟩
 rintro⟨(i:Int),u⟩ V' ⟨rfl,k,hk,hle,heq⟩;replace hk:i=(k:Int):=hk;subst hk;refine⟨fun h=>?_,fun h=>?_⟩
 ·have h1:k<l.length:=by
   have:(k:Int)<(l.length:Int):=by simpa using h
   omega
  refine lB k h1 (by omega) _ _ (fun bR=>⟨rfl,false,rfl,⟨(fun h=>by cases h),(fun e=>(bR (by subst e; rfl)).elim)⟩⟩) fun he=>?_
  refine⟨(((k+1:Nat):Int),()),by rw [kD h1 gv]; rfl,⟨rfl,k+1,rfl,h1,?_⟩,?_⟩
  ·rw [List.take_succ_eq_append_getElem h1,List.take_succ_eq_append_getElem (by omega),heq,he]
  show((l.length:Int)-((k+1:Nat):Int)).toNat<((l.length:Int)-(k:Int)).toNat
  omega
 have h1:k=l.length:=by
  have:¬ (k:Int)<(l.length:Int):=by simpa using h
  omega
 subst h1;refine⟨rfl,true,rfl,fun _=>?_,fun _=>rfl⟩
 rw [List.take_length] at heq;rw [heq,hlen,List.take_length]
section
variable {sh:List Sc} {α:Type} {P:Program} {e:Rp sh α} {V V0:aa} {s s':ar} {l l':List α} {f f':List Nat}
def tEqS (g:Nat) (sh:List Sc) (m:Nat) (x0 x1:ar):T:=tEq x0.n x1.n fun y1 =>
 .rg <| .el x0.a x0.n y1.fst fun y2=>.ld true (y2.add (Int.toNat y1.fst*m)) (.g sh) fun y3 =>
 .el x1.a x1.n y1.fst fun y4=>.ld true (y4.add (Int.toNat y1.fst*m)) (.g sh) fun y5 =>
 .call false g [dx.val (.g sh) y3,dx.val (.g sh) y5] (.v (.o .b)) fun y6 =>
 .br (!y6) (.ret [.bool false]) <| .nx 0 [.v (.int .i64 (i64.wrap (y1.fst+(1:Int))))]
def tEqI (x0 x1:ar):T:=tEq x0.n x1.n fun y1 =>
 .rg <| .el x0.a x0.n y1.fst fun y2=>.ld true (y2.add (Int.toNat y1.fst*(1:Nat))) (.o (.i .i64)) fun y3 =>
 .el x1.a x1.n y1.fst fun y4=>.ld true (y4.add (Int.toNat y1.fst*(1:Nat))) (.o (.i .i64)) fun y5 =>
 .br (y3 != y5) (.ret [.bool false]) <| .nx 0 [.v (.int .i64 (i64.wrap (y1.fst+(1:Int))))]
theorem E5 {g m:Nat} (hm:m=sh.length) (hg:SW P g e) (h:LR e V s l f) (h':LR e V s' l' f') :
  (tEqS g sh m s s').wp P (fun V' vs=>V'=V/\∃ b,packed vs=.bool b/\(b=true↔l=l')) V V0 []:=by
 subst hm;refine XU h.1 h'.1 (h.2.2.1) fun i hi qp K N hK hN=>?_
 obtain⟨b1,o1,c1,f1,a1,l1,r1,_⟩:=h.at hi;obtain⟨b2,o2,c2,f2,a2,l2,r2,_⟩:=h'.at qp;have gm:=h.1;have sN:=h'.1;refine⟨_,a1,by omega,(by omega:(i:Int)<(s.n:Int)),c1,l1,_,a2,by omega,(by omega:(i:Int)<(s'.n:Int)),c2,l2,(hg V _ _ _ _ _ _ r1 r2).mono ?_⟩
 rintro V' r ⟨rfl,b,rfl,hb⟩;refine⟨fun _=>aa.le.refl _,b,rfl,fun h=>hK fun e=>?_,fun h=>⟨_,rfl,hN (hb.1 ?_)⟩⟩
 ·rw [hb.2 e] at h; cases h
 cases b
 ·cases h
 rfl
end
abbrev rI:Rp [.i .i64] (Int × Unit):=np a8
theorem LR.int {V:aa} {s:ar} {l:List (Int × Unit)} {f:List Nat} (h:LR rI V s l f) {i:Nat} (hi:i<l.length) :
  ∃ b o,s.a=some ⟨b,o,none⟩/\aQ V ((⟨b,o,none⟩:Addr).add (i*1)) 1=some [.int .i64 l[i].1]:=by
 obtain⟨b1,o1,c1,f1,a1,l1,r1,_⟩:=h.at hi;refine⟨b1,o1,a1,?_⟩
 have e:c1.1=l[i].1:=r1.1;rw [<- e]; exact l1
theorem E6 {P:Program} {V V0:aa} {s s':ar} {l l':List (Int × Unit)} {f f':List Nat} (h:LR rI V s l f) (h':LR rI V s' l' f') :
  (tEqI s s').wp P (fun V' vs=>V'=V/\∃ b,packed vs=.bool b/\(b=true↔l=l')) V V0 []:=by
 refine XU h.1 h'.1 (h.2.2.1) fun i hi qp K N hK hN=>?_
 obtain⟨b1,o1,a1,l1⟩:=h.int hi;obtain⟨b2,o2,a2,l2⟩:=h'.int qp;have gm:=h.1;have sN:=h'.1;refine⟨_,a1,by omega,(by omega:(i:Int)<(s.n:Int)),l[i].1,l1,_,a2,by omega,(by omega:(i:Int)<(s'.n:Int)),l'[i].1,l2,fun h=>hK fun e=>?_,fun h=>⟨_,rfl,hN ?_⟩⟩
 ·rw [e] at h; simp at h
 have:l[i].1=l'[i].1:=by simpa using h
 exact Prod.ext this rfl
def tSzS (g:Nat) (sh:List Sc) (m:Nat) (x0:ar) (x1:Int):T :=
 .br (decide (i64.wrap (x1-(x0.n:Int))<(0:Int))) (.ret [.int .i64 (-1:Int)]) <|
 .lp [.o (.o (.i .i64)),.o (.o (.i .i64))] [.v (.int .i64 (i64.wrap (x1-(x0.n:Int)))),.v (.int .i64 (0:Int))] fun y1 =>
 .br (decide (y1.2.fst<(x0.n:Int))) (
  .el x0.a x0.n y1.2.fst fun y2 =>
  .ld false (y2.add (Int.toNat y1.2.fst*m)) (.g sh) fun y3 =>
  .call false g [dx.val (.g sh) y3,.int .i64 y1.fst] (.v (.o (.i .i64))) fun y4 =>
  .br (decide (y4<(0:Int))) (.ret [.int .i64 (-1:Int)]) <|
  .nx 0 [.v (.int .i64 y4),.v (.int .i64 (i64.wrap (y1.2.fst+(1:Int))))]) <|
 .ret [.int .i64 y1.fst]
theorem SX {sh:List Sc} {α:Type} (e:Rp sh α) {l:List α} {i:Nat} (h:i<l.length):aC e (l.drop i)=e.cB l[i]+aC e (l.drop (i+1)):=by
 rw [List.drop_eq_getElem_cons h]; rfl
theorem E7 {sh:List Sc} {α:Type} {P:Program} {e:Rp sh α} {V V0:aa} {s:ar} {l:List α} {f:List Nat} {g m:Nat} {left:Int} (hm:m=sh.length) (hg:XT P g e) (h:LR e V s l f) (h0:0<=left) (h1:left<=1048576) :
  (tSzS g sh m s left).wp P (fun V' vs=>V'=V/\packed vs=.int .i64 (gy (l.length+aC e l) left)) V V0 []:=by
 subst hm;have hn:=h.1;have hb:=h.2.2.1;have hw:i64.wrap (left-(s.n:Int))=left-(l.length:Int):=by rw [wrap_i64 (by omega),hn]
 simp only [tSzS,T.wp];rw [hw];refine⟨fun aN=>⟨trivial,?_⟩,fun cg=>?_⟩
 ·have:left-(l.length:Int)<0:=by simpa using aN
  rw [Ri (by omega)]; rfl
 have hle:(l.length:Int)<=left:=by
  have:¬ left-(l.length:Int)<0:=by simpa using cg
  omega
 refine⟨fun y V'=>V'=V/\∃ i:Nat,y.2.1=(i:Int)/\i<=l.length/\0<=(y.1:Int)/\(y.1:Int)<=1048576/\gy (aC e (l.drop i)) y.1=gy (l.length+aC e l) left,
  fun y=>((l.length:Int)-(y.2.1:Int)).toNat,⟨(left-(l.length:Int),(0:Int),()),rfl,rfl,0,rfl,by omega,(by omega:(0:Int)<=left-(l.length:Int)),(by omega:left-(l.length:Int)<=1048576),?_⟩,?_⟩
 ·rw [Rh hle,dC hle]; rfl
 rintro⟨(k:Int),(i:Int),u⟩ V' ⟨rfl,j,hj,BY,ix,lP,hs⟩;replace hj:i=(j:Int):=hj;replace ix:0<=k:=ix;replace lP:k<=1048576:=lP;replace hs:gy (aC e (l.drop j)) k=gy (l.length+aC e l) left:=hs;subst hj;refine⟨fun aN=>?_,fun cg=>?_⟩
 ·have hi:j<l.length:=by
   have:(j:Int)<(s.n:Int):=by simpa using aN
   omega
  obtain⟨b1,o1,c1,f1,a1,l1,r1,_⟩:=h.at hi;refine⟨_,a1,(by omega:(0:Int)<=(j:Int)),(by omega:(j:Int)<(s.n:Int)),c1,l1,(hg _ _ _ _ k r1 ix lP).mono ?_⟩
  rintro V' r ⟨rfl,rfl⟩;rw [SX e hi] at hs;refine⟨nofun,gy (e.cB l[j]) k,rfl,fun dN=>⟨rfl,?_⟩,fun df=>?_⟩
  ·have:gy (e.cB l[j]) k<0:=by simpa using dN
   rw [<- hs,Ri (dk.1 this)]; rfl
  have hp:(e.cB l[j]:Int)<=k:=by
   have:¬ gy (e.cB l[j]) k<0:=by simpa using df
   exact Decidable.not_not.1 fun h=>this (dk.2 h)
  have gv:=dC hp;refine⟨_,rfl,(gy (e.cB l[j]) k,((j+1:Nat):Int),()),by rw [kD hi (by omega)]; rfl,⟨rfl,j+1,rfl,hi,?_,?_,?_⟩,?_⟩
  ·show 0<=gy (e.cB l[j]) k
   omega
  ·show gy (e.cB l[j]) k<=1048576
   omega
  ·show gy (aC e (l.drop (j+1))) (gy (e.cB l[j]) k)=_
   rw [<- Rh hp]; exact hs
  show((l.length:Int)-((j+1:Nat):Int)).toNat<((l.length:Int)-(j:Int)).toNat
  omega
 have hi:j=l.length:=by
  have:¬ (j:Int)<(s.n:Int):=by simpa using cg
  omega
 subst hi;refine⟨rfl,?_⟩
 rw [List.drop_length] at hs;rw [<- hs];have:gy 0 k=k:=by unfold gy; rw [if_pos (by omega)]; omega
 show Value.int .i64 k=Value.int .i64 (gy 0 k)
 rw [this]
def tToS (ty:TypeId) (bytes:Nat) (z:List Value) (g:Nat) (sh:List Sc) (m:Nat) (x0:ar):T :=
 .rq ((0:Int)<=(x0.n:Int)/\(x0.n:Int)<=(x0.n:Int)/\((bytes:Nat):Int)*(x0.n:Int)<=(281474976710656:Int)/\(x0.n:Int)<=(9223372036854775807:Int)) <|
 .lp [.a ty,.o (.o (.i .i64))] [.a ty ((x0.n:Int).toNat) ((madeCells ⟨z⟩ ((x0.n:Int).toNat*m)).toList),.v (.int .i64 (0:Int))] fun y1 =>
 .br (decide (y1.2.fst<(x0.n:Int))) (
  .el x0.a x0.n y1.2.fst fun y2 =>
  .ld false (y2.add (Int.toNat y1.2.fst*m)) (.g sh) fun y3 =>
  .call false g [dx.val (.g sh) y3] (.v (.g sh)) fun y4 =>
  .rq ((0:Int)<=y1.2.fst/\y1.2.fst<(y1.1.fst:Int)) <|
  .rq (Int.toNat y1.2.fst*m+(aH.aD sh y4).length<=y1.1.snd.length) <|
  .nx 0 [.a ty y1.1.fst (aX y1.1.snd (Int.toNat y1.2.fst*m) (aH.aD sh y4)),.v (.int .i64 (i64.wrap (y1.2.fst+(1:Int))))]) <|
 .fz y1.1.fst y1.1.snd ty fun b2 c2 =>
 .ret [.slice (some { block:=b2,off:=0:Addr }) y1.1.fst c2]
def tToI (ty:TypeId) (x0:ar):T :=
 .rq ((0:Int)<=(x0.n:Int)/\(x0.n:Int)<=(x0.n:Int)/\((8:Nat):Int)*(x0.n:Int)<=(281474976710656:Int)/\(x0.n:Int)<=(9223372036854775807:Int)) <|
 .lp [.a ty,.o (.o (.i .i64))] [.a ty ((x0.n:Int).toNat) ((madeCells ⟨[.int .i64 (0:Int)]⟩ ((x0.n:Int).toNat*(1:Nat))).toList),.v (.int .i64 (0:Int))] fun y1 =>
 .br (decide (y1.2.fst<(x0.n:Int))) (
  .el x0.a x0.n y1.2.fst fun y2 =>
  .ld false (y2.add (Int.toNat y1.2.fst*(1:Nat))) (.o (.i .i64)) fun y3 =>
  .rq ((0:Int)<=y1.2.fst/\y1.2.fst<(y1.1.fst:Int)) <|
  .rq (Int.toNat y1.2.fst*(1:Nat)+[(dx.o (.i .i64)).val y3].length<=y1.1.snd.length) <|
  .nx 0 [.a ty y1.1.fst (aX y1.1.snd (Int.toNat y1.2.fst*(1:Nat)) [(dx.o (.i .i64)).val y3]),.v (.int .i64 (i64.wrap (y1.2.fst+(1:Int))))]) <|
 .fz y1.1.fst y1.1.snd ty fun b2 c2 =>
 .ret [.slice (some { block:=b2,off:=0:Addr }) y1.1.fst c2]
theorem tD (z:Array Value) (n:Nat):(madeCells z n).toList.length=n:=by
 unfold madeCells;simp
theorem iL {x y z:List Value} {n:Nat} (h:n=x.length) (_:z.length<=y.length):aX (x++y) n z=x++(z++y.drop z.length):=by
 subst h;simp only [aX];rw [List.take_left,<- List.drop_drop,List.drop_left,List.append_assoc]
theorem iM {sh:List Sc}:∀ cs:List (aH sh),(cs.flatMap (aH.aD sh)).length=cs.length*sh.length
 | []=>by simp
 | c :: cs=>by rw [List.flatMap_cons,List.length_append,cF,iM cs,List.length_cons,Nat.add_mul,Nat.one_mul,Nat.add_comm]
theorem XV {sh:List Sc} {α:Type} {P:Program} {e:Rp sh α} {V V0:aa} {n:Nat} {l:List α} {ty:TypeId} {z:Array Value} {body:cH [.a ty,.o (.o (.i .i64))]->T}
  (hn:n=l.length) (gv:n<=9223372036854775807)
  (lB:∀ (V':aa) (i:Nat) (hi:i<l.length) (ys:List Value) (K:aa->List Value->Prop) (N:List LV->aa->Prop),V.le V'->i*sh.length+sh.length<=ys.length ->
   (∀ V2 c f,V'.le V2->e.R V2 c l[i] f->cQ V' V2 f->N [.a ty n (aX ys (i*sh.length) (aH.aD sh c)),.v (.int .i64 (i64.wrap ((i:Int)+1)))] V2)->(body ((n,ys),(i:Int),())).wp P K V' V' [N]) :
  (T.lp [.a ty,.o (.o (.i .i64))] [.a ty n ((madeCells z (n*sh.length)).toList),.v (.int .i64 (0:Int))] fun y1 =>
   .br (decide (y1.2.fst<(n:Int))) (body y1) <| .fz y1.1.fst y1.1.snd ty fun b2 c2=>.ret [.slice (some { block:=b2,off:=0:Addr }) y1.1.fst c2]).wp P
   (fun V' vs=>V.le V'/\∃ s' f',packed vs=qL s'/\LR e V' s' l f'/\cQ V V' f') V V0 []:=by
 subst hn;simp only [T.wp];refine⟨fun y V'=>V.le V'/\∃ (i:Nat) (cs:List (aH sh)) (fps:List Nat) (rest:List Value),y.2.1=(i:Int)/\i<=l.length/\y.1.1=l.length/\y.1.2=cs.flatMap (aH.aD sh)++rest/\rest.length=(l.length-i)*sh.length /\
   kS e V' cs (l.take i) fps/\cQ V V' fps,fun y=>((l.length:Int)-(y.2.1:Int)).toNat,
  ⟨((l.length,(madeCells z (l.length*sh.length)).toList),(0:Int),()),rfl,aa.le.refl _,0,[],[],_,rfl,by omega,rfl,rfl,by rw [tD]; simp,by simp [kS],cQ.nil⟩,?_⟩
 rintro⟨⟨n1,ys⟩,(i:Int),u⟩ V' ⟨hle,j,cs,fps,rest,hj,BY,gm,dZ,pA,Ia,fB⟩;replace hj:i=(j:Int):=hj;replace gm:n1=l.length:=gm;replace dZ:ys=cs.flatMap (aH.aD sh)++rest:=dZ;subst hj gm;have eG:cs.length=j:=by rw [Ia.len]; simp; omega
 have yj:(cs.flatMap (aH.aD sh)).length=j*sh.length:=by
  rw [<- eG];exact iM cs
 refine⟨fun aN=>?_,fun cg=>?_⟩
 ·have hi:j<l.length:=by
   have:(j:Int)<(l.length:Int):=by simpa using aN
   omega
  have jk:sh.length<=rest.length:=by
   rw [pA];exact Nat.le_mul_of_pos_left _ (by omega)
  refine lB V' j hi ys _ _ hle (by rw [dZ]; simp only [List.length_append]; omega) fun V2 c fc bG hR hO=>?_
  refine⟨((l.length,aX ys (j*sh.length) (aH.aD sh c)),((j+1:Nat):Int),()),by rw [kD hi gv]; rfl,⟨hle.trans bG,j+1,cs++[c],fps++fc,rest.drop sh.length,rfl,hi,rfl,?_,?_,?_,fB.append hO hle bG⟩,?_⟩
  ·show aX ys (j*sh.length) (aH.aD sh c)=_
   rw [dZ,iL yj.symm (by rw [cF]; exact jk),cF]
   simp
  ·rw [List.length_drop,pA,<- Nat.sub_one_mul]
   congr 1
  ·rw [List.take_succ_eq_append_getElem hi]
   exact(Ia.le bG).snoc hR
  show((l.length:Int)-((j+1:Nat):Int)).toNat<((l.length:Int)-(j:Int)).toNat
  omega
 have hi:j=l.length:=by
  have:¬ (j:Int)<(l.length:Int):=by simpa using cg
  omega
 subst hi;have gw:rest=[]:=List.eq_nil_of_length_eq_zero (by rw [pA,Nat.sub_self,Nat.zero_mul]);subst gw;rw [List.take_length] at Ia;intro b cap spare hb dd _;have hV:=aG (x:=(ys++spare,(ty,(0,0)))) hb;refine⟨hle.trans hV,⟨some ⟨b,0,none⟩,l.length,cap⟩,b :: fps,rfl,⟨rfl,dd,gv,.inr ⟨b,[],spare,(ty,(0,0)),fps,cs,rfl,?_,Ia.le hV,rfl⟩⟩,?_,?_,?_⟩
 ·rw [av,dZ]; simp
 ·refine List.nodup_cons.2 ⟨fun hm=>?_,fB.1⟩
  obtain⟨c,t,hk⟩:=fB.2.2 b hm;rw [hb] at hk; cases hk
 ·intro b' gx
  rcases List.mem_cons.1 gx with rfl | gx
  ·exact cL hle hb
  exact fB.2.1 b' gx
 intro b' gx;rcases List.mem_cons.1 gx with rfl | gx
 ·exact⟨_,_,av⟩
 exact fB.2.2.le hV b' gx
theorem Ib {n bytes:Nat} (h:n<=1048576) (hb:bytes<=4096):(0:Int)<=(n:Int)/\(n:Int)<=(n:Int)/\((bytes:Nat):Int)*(n:Int)<=(281474976710656:Int)/\(n:Int)<=(9223372036854775807:Int):=by
 have h1:bytes*n<=4096*1048576:=Nat.mul_le_mul hb h;have h2:((bytes:Nat):Int)*(n:Int)=((bytes*n:Nat):Int):=by rw [Int.natCast_mul]
 rw [h2];omega
theorem iN {sh:List Sc} {α:Type} (e:Rp sh α) {l:List α} {i:Nat} (h:i<l.length):e.cB l[i]<=aC e l:=by
 induction l generalizing i with
 | nil=>simp at h
 | cons a l ih =>
  cases i with
  | zero=>simp [aC]
  | succ i =>
   have:=ih (i:=i) (by simpa using h);simp only [List.getElem_cons_succ,aC];omega
theorem E8 {sh:List Sc} {α:Type} {P:Program} {e:Rp sh α} {V V0:aa} {s:ar} {l:List α} {f:List Nat} {g m bytes:Nat} {ty:TypeId} {z:List Value} (hm:m=sh.length) (Mr:bytes<=4096) (hg:zy P g e) (h:LR e V s l f) (ht:l.length+aC e l<=1048576) :
  (tToS ty bytes z g sh m s).wp P (fun V' vs=>V.le V'/\∃ s' f',packed vs=qL s'/\LR e V' s' l f'/\cQ V V' f') V V0 []:=by
 subst hm;have hn:=h.1;unfold tToS;refine⟨Ib (by omega) Mr,?_⟩
 refine XV (e:=e) hn h.2.2.1 fun V' i hi ys K N hle dY hN=>?_
 obtain⟨b1,o1,c1,f1,a1,l1,r1,_⟩:=(h.le hle).at hi;have htx:=iN e hi;refine⟨_,a1,(by omega:(0:Int)<=(i:Int)),(by omega:(i:Int)<(s.n:Int)),c1,l1,(hg V' c1 l[i] f1 r1 (by omega)).mono ?_⟩
 rintro V2 r ⟨bG,c',f',rfl,hR,hO⟩;refine⟨nofun,c',rfl,⟨(by omega:(0:Int)<=(i:Int)),(by omega:(i:Int)<(s.n:Int))⟩,?_,_,rfl,hN V2 c' f' bG hR hO⟩
 rw [cF];exact dY
theorem tToI_wp {P:Program} {V V0:aa} {s:ar} {l:List (Int × Unit)} {f:List Nat} {ty:TypeId} (h:LR rI V s l f) (ht:l.length+aC rI l<=1048576) :
  (tToI ty s).wp P (fun V' vs=>V.le V'/\∃ s' f',packed vs=qL s'/\LR rI V' s' l f'/\cQ V V' f') V V0 []:=by
 have hn:=h.1;unfold tToI;refine⟨Ib (by omega) (by omega),?_⟩
 refine XV (e:=rI) hn h.2.2.1 fun V' i hi ys K N hle dY hN=>?_
 obtain⟨b1,o1,a1,l1⟩:=(h.le hle).int hi;refine⟨_,a1,(by omega:(0:Int)<=(i:Int)),(by omega:(i:Int)<(s.n:Int)),l[i].1,l1,⟨(by omega:(0:Int)<=(i:Int)),(by omega:(i:Int)<(s.n:Int))⟩,dY,_,rfl,?_⟩
 exact hN V' (l[i].1,()) [] (aa.le.refl _) ⟨rfl,rfl⟩ cQ.nil
abbrev aI:=Int × Unit
def ab (l:List aI) (i:Nat):Int:=(l.getD i (0,())).1
def ak (l:List aI):Nat->Int
 | 0=>0
 | i+1=>ak l i+ab l i*1000000000 ^ i
def af (l:List aI):Int:=ak l l.length
def bK (l:List aI):Prop:=∀ i,0<=ab l i/\ab l i<1000000000
def Can (l:List aI):Prop:=bK l/\(l.length=0\/ab l (l.length-1)≠0)
theorem aV {l:List aI} {i:Nat} (h:i<l.length):ab l i=l[i].1:=by simp [ab,h]
theorem eQ {l:List aI} {i:Nat} (h:l.length<=i):ab l i=0:=by simp [ab,List.getD_eq_getElem?_getD,List.getElem?_eq_none h]
theorem dp (i:Nat):(1000000000:Int) ^ (i+1)=1000000000*1000000000 ^ i:=by rw [Int.pow_succ,Int.mul_comm]
theorem pC:∀ i:Nat,(0:Int)<1000000000 ^ i
 | 0=>by decide
 | i+1=>by rw [dp]; have:=pC i; omega
theorem fE {l:List aI} {i:Nat} (h:l.length<=i):ak l i=af l:=by
 induction i with
 | zero =>
  have:l.length=0:=by omega
  rw [af,this]
 | succ i ih =>
  by_cases e:l.length=i+1
  ·rw [af,e]
  rw [ak,eQ (by omega),ih (by omega)]; simp
theorem fL {x:Int} (h:0<=x) (i:Nat):0<=x*1000000000 ^ i:=Int.mul_nonneg h (Int.le_of_lt (pC i))
theorem dQ {x y:Int} (h:x<=y) (i:Nat):x*1000000000 ^ i<=y*1000000000 ^ i:=Int.mul_le_mul_of_nonneg_right h (Int.le_of_lt (pC i))
theorem ch {l:List aI} (h:bK l):∀ i,0<=ak l i/\ak l i<1000000000 ^ i
 | 0=>by simp [ak]
 | i+1=>by
  have ih:=ch h i;have hl:=h i;have h1:=fL hl.1 i;have h2:=dQ (show ab l i<=999999999 by omega) i;rw [ak,dp];constructor
  ·omega
  omega
theorem aO {l:List aI} (h:bK l):0<=af l:=(ch h _).1
def mu (l l':List aI):Nat->Int
 | 0=>0
 | n+1=>if ab l n<ab l' n then -1 else if ab l n > ab l' n then 1 else mu l l' n
def cmpL (l l':List aI):Int:=if l.length≠l'.length then (if l.length<l'.length then -1 else 1) else mu l l' l.length
def Cmps (c:Int) (x y:Int):Prop:=(c=-1/\x<y)\/(c=0/\x=y)\/(c=1/\y<x)
theorem CL {l l':List aI} (h:bK l) (h':bK l'):∀ n,Cmps (mu l l' n) (ak l n) (ak l' n)
 | 0=>.inr (.inl ⟨rfl,rfl⟩)
 | n+1=>by
  have ih:=CL h h' n;have b1:=ch h n;have b2:=ch h' n;unfold mu ak
  by_cases c1:ab l n<ab l' n
  ·rw [if_pos c1]
   have:=dQ (show ab l n+1<=ab l' n by omega) n;rw [Int.add_mul,Int.one_mul] at this;exact .inl ⟨rfl,by omega⟩
  rw [if_neg c1]
  by_cases c2:ab l n > ab l' n
  ·rw [if_pos c2]
   have:=dQ (show ab l' n+1<=ab l n by omega) n;rw [Int.add_mul,Int.one_mul] at this;exact .inr (.inr ⟨rfl,by omega⟩)
  rw [if_neg c2];have e:ab l n=ab l' n:=by omega
  rw [e];rcases ih with ⟨i1,i2⟩ | ⟨i1,i2⟩ | ⟨i1,i2⟩
  ·exact .inl ⟨i1,by omega⟩
  ·exact .inr (.inl ⟨i1,by omega⟩)
  exact .inr (.inr ⟨i1,by omega⟩)
theorem gD {i j:Nat} (h:i<=j):(1000000000:Int) ^ i<=1000000000 ^ j:=by
 induction j with
 | zero =>
  have:i=0:=by omega
  subst this; exact Int.le_refl _
 | succ j ih =>
  by_cases e:i=j+1
  ·subst e; exact Int.le_refl _
  have:=ih (by omega);have:=pC j;rw [dp]; omega
theorem iO {l:List aI} (h:Can l) (hp:0<l.length):(1000000000:Int) ^ (l.length-1)<=af l:=by
 obtain⟨k,hk⟩:∃ k,l.length=k+1:=⟨l.length-1,by omega⟩;have h1:=h.1 k;have h2:ab l k≠0:=by
  rcases h.2 with h | h
  ·omega
  rw [hk] at h; simpa using h
 have h3:=(ch h.1 k).1;have h4:=dQ (show 1<=ab l k by omega) k;rw [af,hk,ak];simp only [Nat.add_sub_cancel];omega
theorem iP {l l':List aI} (h:Can l) (h':Can l'):Cmps (cmpL l l') (af l) (af l'):=by
 unfold cmpL
 by_cases e:l.length=l'.length
 ·rw [if_neg (by simpa using e)]
  have:=CL h.1 h'.1 l.length;unfold af;rw [<- e]; exact this
 rw [if_pos e]
 by_cases c:l.length<l'.length
 ·rw [if_pos c]
  have h1:=iO h' (by omega);have h2:=(ch h.1 l.length).2;have h3:=gD (show l.length<=l'.length-1 by omega);exact .inl ⟨rfl,by unfold af at h1 ⊢; omega⟩
 rw [if_neg c];have h1:=iO h (by omega);have h2:=(ch h'.1 l'.length).2;have h3:=gD (show l'.length<=l.length-1 by omega);exact .inr (.inr ⟨rfl,by unfold af at h1 ⊢; omega⟩)
theorem vK {l:List aI} (h:Can l):l.length=0↔af l=0:=by
 constructor
 ·intro e; rw [af,e]; rfl
 intro e;cases hl:l.length with
 | zero=>rfl
 | succ k =>
  have:=iO h (by omega);have:=pC (l.length-1);omega
def tl (l:List aI):Nat->Nat
 | 0=>0
 | n+1=>if ab l n=0 then tl l n else n+1
def db (l:List aI):List aI:=l.take (tl l l.length)
theorem zz (l:List aI):∀ n,tl l n<=n
 | 0=>Nat.le_refl _
 | n+1=>by
  have:=zz l n;unfold tl;split <;> omega
theorem Ic (l:List aI):∀ n,ak l (tl l n)=ak l n
 | 0=>rfl
 | n+1=>by
  unfold tl
  by_cases h:ab l n=0
  ·rw [if_pos h,Ic l n,ak,h]; simp
  rw [if_neg h]
theorem XW (l:List aI):∀ n,tl l n=0\/ab l (tl l n-1)≠0
 | 0=>.inl rfl
 | n+1=>by
  unfold tl
  by_cases h:ab l n=0
  ·rw [if_pos h]; exact XW l n
  rw [if_neg h]; exact .inr h
theorem vM {l:List aI} {n i:Nat} (h:i<n):ab (l.take n) i=ab l i:=by
 simp [ab,List.getD_eq_getElem?_getD,h]
theorem rP {l:List aI} {n:Nat}:∀ {i:Nat},i<=n->ak (l.take n) i=ak l i
 | 0,_=>rfl
 | i+1,h=>by rw [ak,ak,rP (by omega),vM (by omega)]
theorem vN {l:List aI} (h:bK l) (n:Nat):bK (l.take n):=by
 intro i
 by_cases hi:i<n
 ·rw [vM hi]; exact h i
 rw [eQ (by simp; omega)]; omega
theorem dS {l:List aI} (h:bK l):Can (db l)/\af (db l)=af l:=by
 have hle:=zz l l.length;have hlen:(db l).length=tl l l.length:=by simp [db]; omega
 refine⟨⟨vN h _,?_⟩,?_⟩
 ·rw [hlen]
  rcases XW l l.length with h1 | h1
  ·exact .inl h1
  by_cases h0:tl l l.length=0
  ·exact .inl h0
  right
  unfold db;rw [vM (by omega)]; exact h1
 unfold af;rw [hlen];unfold db;rw [rP (Nat.le_refl _),Ic]
theorem tE {l:List aI} {x:aI} {i:Nat} (h:i<l.length):ab (l++[x]) i=ab l i:=by
 simp [ab,List.getD_eq_getElem?_getD,List.getElem?_append_left h]
theorem ik {l:List aI} {x:aI}:ab (l++[x]) l.length=x.1:=by simp [ab]
theorem lC {l:List aI} {x:aI}:∀ {i:Nat},i<=l.length->ak (l++[x]) i=ak l i
 | 0,_=>rfl
 | i+1,h=>by rw [ak,ak,lC (by omega),tE (by omega)]
theorem fM {l:List aI} {x:aI} (h:bK l) (hx:0<=x.1/\x.1<1000000000):bK (l++[x]):=by
 intro i
 by_cases h1:i<l.length
 ·rw [tE h1]; exact h i
 by_cases h2:i=l.length
 ·subst h2; rw [ik]; exact hx
 rw [eQ (by simp; omega)]; omega
theorem eU:bK []:=fun i=>by rw [eQ (by simp)]; omega
theorem Ie {o a b:List aI} {c d e:Int} {i:Nat} (ho:o.length=i) (hv:ak o i+c*1000000000 ^ i=ak a i+ak b i) (hs:c+ab a i+ab b i=d+1000000000*e) :
  ak (o++[(d,())]) (i+1)+e*1000000000 ^ (i+1)=ak a (i+1)+ak b (i+1):=by
 subst ho;rw [ak,ak,ak,lC (Nat.le_refl _),ik,dp];have h1:(c+ab a o.length+ab b o.length)*1000000000 ^ o.length=(d+1000000000*e)*1000000000 ^ o.length:=by rw [hs]
 rw [Int.add_mul,Int.add_mul,Int.add_mul,Int.mul_assoc] at h1;have h2:e*(1000000000*1000000000 ^ o.length)=1000000000*(e*1000000000 ^ o.length):=by rw [<- Int.mul_assoc,Int.mul_comm e,Int.mul_assoc]
 show ak o o.length+d*_+_=_
 omega
theorem Ig {o a b:List aI} {c d e:Int} {i:Nat} (ho:o.length=i) (hv:ak o i=ak a i-ak b i+c*1000000000 ^ i) (hs:d=ab a i-c-ab b i+1000000000*e) :
  ak (o++[(d,())]) (i+1)=ak a (i+1)-ak b (i+1)+e*1000000000 ^ (i+1):=by
 subst ho;rw [ak,ak,ak,lC (Nat.le_refl _),ik,dp];have h1:d*1000000000 ^ o.length=(ab a o.length-c-ab b o.length+1000000000*e)*1000000000 ^ o.length:=by rw [hs]
 rw [Int.add_mul,Int.sub_mul,Int.sub_mul,Int.mul_assoc] at h1;have h2:e*(1000000000*1000000000 ^ o.length)=1000000000*(e*1000000000 ^ o.length):=by rw [<- Int.mul_assoc,Int.mul_comm e,Int.mul_assoc]
 show ak o o.length+d*_=_
 omega
set_option maxRecDepth 100000
noncomputable section
abbrev aP:=@fits Tryz.prog
abbrev bX:An:=⟨[],[],[]⟩
abbrev _root_.Sx.T.rF:T:=.ret [.bool false]
abbrev _root_.Sx.T.rT:T:=.ret [.bool true]
abbrev _root_.Sx.T.rM:T:=.ret [.int .i64 (-1)]
abbrev _root_.Sx.T.bF (b:Bool) (y:T):T:=.br (!b) (.ret [.bool false]) y
abbrev _root_.Sx.T.bn (b:Bool) (x:T) (y:T):T:=.br (!b) x y
noncomputable abbrev qA (b:Nat):Option Addr:=some ⟨b,0,none⟩
noncomputable abbrev ba:ByteArray:=⟨⟨[]⟩⟩
noncomputable abbrev _root_.Sx.mP.oI:mP:=.o (.o (.i .i64))
noncomputable abbrev _root_.Sx.mP.oS:mP:=.o (.o (.s))
noncomputable abbrev _root_.Sx.mP.oL:mP:=.o (.o (.l))
noncomputable abbrev _root_.Sx.mP.oB:mP:=.o (.o (.b))
noncomputable abbrev _root_.Sx.LV.vI (n:Int):LV:=.v (.int .i64 n)
noncomputable abbrev _root_.Sx.LV.vS (s:ByteArray):LV:=.v (.string s)
noncomputable abbrev _root_.Sx.T.rI (i:Int) (n:Int) (k:T):T:=.rq ((0:Int)<=i/\i<n) k
noncomputable abbrev _root_.Sx.LV.vL (x:ar):LV:=.v (qL x)
noncomputable abbrev _root_.Sx.T.bd (p:Prop) [Decidable p] (x y:T):T:=.br (decide p) x y
noncomputable abbrev _root_.Sx.T.rO (l:List Value) (n z:Nat) (k:T):T:=.rq (one l=true/\n*z<=(140737488355328:Nat)/\n<=(9223372036854775807:Nat)) k
noncomputable abbrev _root_.Sx.T.rL (l:List Value) (a b:Nat) (k:T):T:=.rq (l.length=a*b) k
noncomputable abbrev _root_.Sx.T.rZ (n:Int) (k:T):T:=.rq (n≠(0:Int)) k
noncomputable abbrev _root_.Sx.T.rN (n:Nat) (k:T):T:=.rq (n<=(9223372036854775807:Nat)) k
abbrev _root_.Sx.T.eR (g:Nat) (l:List Value) (k:Sh.ty (.v (.o (.i .i64)))->T):T:=.call false g l (.v (.o (.i .i64))) k
abbrev _root_.Sx.T.SY (g:Nat) (l:List Value) (k:Sh.ty (.v (.g [.l,.l,.s,.l]))->T):T:=.call false g l (.v (.g [.l,.l,.s,.l])) k
abbrev _root_.Sx.T.qc2 (g:Nat) (l:List Value) (k:Sh.ty (.t [(.g [.l,.l,.s,.l]),(.o (.b))])->T):T:=.call false g l (.t [(.g [.l,.l,.s,.l]),(.o (.b))]) k
abbrev _root_.Sx.T.bN (g:Nat) (l:List Value) (k:Sh.ty (.v (.o (.b)))->T):T:=.call false g l (.v (.o (.b))) k
abbrev _root_.Sx.T.qc4 (g:Nat) (l:List Value) (k:Sh.ty (.v (.g [.l,.l,.s,.l]))->T):T:=.call true g l (.v (.g [.l,.l,.s,.l])) k
abbrev _root_.Sx.T.Rj (g:Nat) (l:List Value) (k:Sh.ty (.v (.o (.l)))->T):T:=.call true g l (.v (.o (.l))) k
abbrev _root_.Sx.T.qc6 (g:Nat) (l:List Value) (k:Sh.ty (.t [(.g [.l,.l,.s,.l]),(.o (.l))])->T):T:=.call false g l (.t [(.g [.l,.l,.s,.l]),(.o (.l))]) k
abbrev _root_.Sx.T.qc7 (g:Nat) (l:List Value) (k:Sh.ty (.v (.g [.l]))->T):T:=.call false g l (.v (.g [.l])) k
abbrev _root_.Sx.T.jl (g:Nat) (l:List Value) (k:Sh.ty (.v (.o (.l)))->T):T:=.call false g l (.v (.o (.l))) k
abbrev _root_.Sx.T.qc9 (g:Nat) (l:List Value) (k:Sh.ty (.v (.g [.s,.l]))->T):T:=.call false g l (.v (.g [.s,.l])) k
abbrev _root_.Sx.T.SZ (a:Addr) (k:dx.ty (.g [.s,.b,.l,.l])->T):T:=.ld false a (.g [.s,.b,.l,.l]) k
abbrev _root_.Sx.T.iy (a:Addr) (k:dx.ty (.o (.s))->T):T:=.ld false a (.o (.s)) k
abbrev _root_.Sx.T.qc12 (g:Nat) (l:List Value) (k:Sh.ty (.t [(.g [.l,.l,.s,.l]),(.o (.s))])->T):T:=.call false g l (.t [(.g [.l,.l,.s,.l]),(.o (.s))]) k
abbrev _root_.Sx.T.zA (a:Addr) (k:dx.ty (.g [.s,.s,.b,.l,.i .i64])->T):T:=.ld false a (.g [.s,.s,.b,.l,.i .i64]) k
abbrev _root_.Sx.T.cM (g:Nat) (l:List Value) (k:Sh.ty (.v (.o (.s)))->T):T:=.call false g l (.v (.o (.s))) k
abbrev _root_.Sx.T.vO (a:Addr) (k:dx.ty (.g [.s,.s,.b,.l])->T):T:=.ld false a (.g [.s,.s,.b,.l]) k
abbrev _root_.Sx.T.qc16 (g:Nat) (l:List Value) (k:Sh.ty (.v (.g [.s,.b,.l]))->T):T:=.call true g l (.v (.g [.s,.b,.l])) k
abbrev _root_.Sx.T.qO (g:Nat) (l:List Value) (k:Sh.ty (.v (.o (.s)))->T):T:=.call true g l (.v (.o (.s))) k
abbrev _root_.Sx.T.qc18 (g:Nat) (l:List Value) (k:Sh.ty (.v (.g [.s,.b,.l,.l]))->T):T:=.call false g l (.v (.g [.s,.b,.l,.l])) k
abbrev _root_.Sx.T.ql19 (a:Addr) (k:dx.ty (.g [.s,.b,.l,.l])->T):T:=.ld true a (.g [.s,.b,.l,.l]) k
abbrev _root_.Sx.T.Cf (a:Addr) (k:dx.ty (.o (.l))->T):T:=.ld false a (.o (.l)) k
abbrev _root_.Sx.T.mQ (a:Addr) (k:dx.ty (.o (.s))->T):T:=.ld true a (.o (.s)) k
abbrev _root_.Sx.T.ql22 (a:Addr) (k:dx.ty (.o (.b))->T):T:=.ld false a (.o (.b)) k
abbrev _root_.Sx.T.qc23 (g:Nat) (l:List Value) (k:Sh.ty (.v (.g [.s,.s,.i .i64,.i .i64]))->T):T:=.call false g l (.v (.g [.s,.s,.i .i64,.i .i64])) k
abbrev _root_.Sx.T.vP (g:Nat) (l:List Value) (k:Sh.ty (.v (.o (.b)))->T):T:=.call true g l (.v (.o (.b))) k
abbrev _root_.Sx.T.XX (g:Nat) (l:List Value) (k:Sh.ty (.v (.o (.i .i64)))->T):T:=.call true g l (.v (.o (.i .i64))) k
abbrev _root_.Sx.T.qc26 (g:Nat) (l:List Value) (k:Sh.ty (.v (.g [.l]))->T):T:=.call true g l (.v (.g [.l])) k
abbrev _root_.Sx.T.qc27 (g:Nat) (l:List Value) (k:Sh.ty (.t [(.g [.i .i64,.s,.s,.s,.s,.s,.b,.l,.i .i64,.l,.l,.b,.l,.i .i64,.s,.s,.b,.l,.i .i64]),(.o (.b))])->T):T:=.call false g l (.t [(.g [.i .i64,.s,.s,.s,.s,.s,.b,.l,.i .i64,.l,.l,.b,.l,.i .i64,.s,.s,.b,.l,.i .i64]),(.o (.b))]) k
abbrev _root_.Sx.T.nq (g:Nat) (l:List Value) (k:Sh.ty (.t [(.g [.l,.l,.s,.l]),(.o (.i .i64))])->T):T:=.call false g l (.t [(.g [.l,.l,.s,.l]),(.o (.i .i64))]) k
abbrev _root_.Sx.T.qc29 (g:Nat) (l:List Value) (k:Sh.ty (.t [(.o (.b)),(.o (.b)),(.o (.b)),(.o (.b))])->T):T:=.call false g l (.t [(.o (.b)),(.o (.b)),(.o (.b)),(.o (.b))]) k
abbrev _root_.Sx.T.Ih (g:Nat) (l:List Value) (k:Sh.ty (.v (.g [.b,.l]))->T):T:=.call true g l (.v (.g [.b,.l])) k
abbrev _root_.Sx.T.qc31 (g:Nat) (l:List Value) (k:Sh.ty (.v (.g [.s,.s,.b,.l]))->T):T:=.call false g l (.v (.g [.s,.s,.b,.l])) k
abbrev _root_.Sx.T.qc32 (g:Nat) (l:List Value) (k:Sh.ty (.v (.g [.b,.l,.l]))->T):T:=.call false g l (.v (.g [.b,.l,.l])) k
abbrev _root_.Sx.T.qc33 (g:Nat) (l:List Value) (k:Sh.ty (.v (.g [.s,.s,.b,.l,.i .i64]))->T):T:=.call false g l (.v (.g [.s,.s,.b,.l,.i .i64])) k
abbrev _root_.Sx.T.qc34 (g:Nat) (l:List Value) (k:Sh.ty (.t [(.g [.s,.s,.i .i64,.i .i64]),(.o (.b))])->T):T:=.call false g l (.t [(.g [.s,.s,.i .i64,.i .i64]),(.o (.b))]) k
abbrev _root_.Sx.T.dy (a:Addr) (k:dx.ty (.o (.i .i64))->T):T:=.ld false a (.o (.i .i64)) k
abbrev _root_.Sx.T.ql36 (a:Addr) (k:dx.ty (.g [.s,.s,.b,.l])->T):T:=.ld true a (.g [.s,.s,.b,.l]) k
abbrev _root_.Sx.T.ql37 (a:Addr) (k:dx.ty (.g [.s,.s,.b,.l,.i .i64])->T):T:=.ld true a (.g [.s,.s,.b,.l,.i .i64]) k
abbrev _root_.Sx.T.ql38 (a:Addr) (k:dx.ty (.g [.s,.s,.i .i64,.i .i64])->T):T:=.ld false a (.g [.s,.s,.i .i64,.i .i64]) k
abbrev _root_.Sx.T.qc39 (g:Nat) (l:List Value) (k:Sh.ty (.v (.g [.b,.l,.l]))->T):T:=.call true g l (.v (.g [.b,.l,.l])) k
abbrev _root_.Sx.T.Cg (g:Nat) (l:List Value) (k:Sh.ty (.t [(.o (.s)),(.o (.l))])->T):T:=.call false g l (.t [(.o (.s)),(.o (.l))]) k
abbrev _root_.Sx.T.qc41 (g:Nat) (l:List Value) (k:Sh.ty (.t [(.o (.i .i64)),(.o (.b))])->T):T:=.call false g l (.t [(.o (.i .i64)),(.o (.b))]) k
abbrev _root_.Sx.T.Ch (g:Nat) (l:List Value) (k:Sh.ty (.t [(.g [.b,.l,.i .i64]),(.o (.b))])->T):T:=.call false g l (.t [(.g [.b,.l,.i .i64]),(.o (.b))]) k
abbrev _root_.Sx.T.Ii (g:Nat) (l:List Value) (k:Sh.ty (.t [(.g [.s,.b,.l]),(.o (.b))])->T):T:=.call false g l (.t [(.g [.s,.b,.l]),(.o (.b))]) k
abbrev _root_.Sx.T.qc44 (g:Nat) (l:List Value) (k:Sh.ty (.t [(.g [.s,.s,.b,.l,.i .i64]),(.o (.b))])->T):T:=.call false g l (.t [(.g [.s,.s,.b,.l,.i .i64]),(.o (.b))]) k
abbrev _root_.Sx.T.qc45 (g:Nat) (l:List Value) (k:Sh.ty (.v (.g [.b,.l,.i .i64]))->T):T:=.call true g l (.v (.g [.b,.l,.i .i64])) k
abbrev _root_.Sx.T.kg (g:Nat) (l:List Value) (k:Sh.ty (.v (.g [.b,.l]))->T):T:=.call false g l (.v (.g [.b,.l])) k
abbrev _root_.Sx.T.qc47 (g:Nat) (l:List Value) (k:Sh.ty (.v (.g [.s,.b,.l]))->T):T:=.call false g l (.v (.g [.s,.b,.l])) k
abbrev _root_.Sx.T.qc48 (g:Nat) (l:List Value) (k:Sh.ty (.v (.g [.b,.l,.i .i64]))->T):T:=.call false g l (.v (.g [.b,.l,.i .i64])) k
abbrev _root_.Sx.T.ql49 (a:Addr) (k:dx.ty (.g [.s,.s,.i .i64,.i .i64,.s,.s,.i .i64,.i .i64,.s,.s,.i .i64,.i .i64,.s,.s,.i .i64,.i .i64,.s,.s,.i .i64,.i .i64,.s,.s,.i .i64,.i .i64,.s,.s,.i .i64,.i .i64,.s,.s,.i .i64,.i .i64,.s,.s,.i .i64,.i .i64,.s,.s,.i .i64,.i .i64,.s,.s,.i .i64,.i .i64,.s,.s,.i .i64,.i .i64,.s,.s,.i .i64,.i .i64,.s,.s,.i .i64,.i .i64,.s,.s,.i .i64,.i .i64,.s,.s,.i .i64,.i .i64,.s,.s,.i .i64,.i .i64,.s,.s,.i .i64,.i .i64,.s,.s,.i .i64,.i .i64,.s,.s,.i .i64,.i .i64])->T):T:=.ld false a (.g [.s,.s,.i .i64,.i .i64,.s,.s,.i .i64,.i .i64,.s,.s,.i .i64,.i .i64,.s,.s,.i .i64,.i .i64,.s,.s,.i .i64,.i .i64,.s,.s,.i .i64,.i .i64,.s,.s,.i .i64,.i .i64,.s,.s,.i .i64,.i .i64,.s,.s,.i .i64,.i .i64,.s,.s,.i .i64,.i .i64,.s,.s,.i .i64,.i .i64,.s,.s,.i .i64,.i .i64,.s,.s,.i .i64,.i .i64,.s,.s,.i .i64,.i .i64,.s,.s,.i .i64,.i .i64,.s,.s,.i .i64,.i .i64,.s,.s,.i .i64,.i .i64,.s,.s,.i .i64,.i .i64,.s,.s,.i .i64,.i .i64,.s,.s,.i .i64,.i .i64]) k
abbrev _root_.Sx.T.S0 (g:Nat) (l:List Value) (k:Sh.ty (.v (.g [.s,.s,.b,.l,.i .i64]))->T):T:=.call true g l (.v (.g [.s,.s,.b,.l,.i .i64])) k
abbrev _root_.Sx.T.ql51 (a:Addr) (k:dx.ty (.g [.i .i64,.s,.s,.s,.s,.s,.b,.l,.i .i64,.l,.l,.b,.l,.i .i64,.s,.s,.b,.l,.i .i64])->T):T:=.ld false a (.g [.i .i64,.s,.s,.s,.s,.s,.b,.l,.i .i64,.l,.l,.b,.l,.i .i64,.s,.s,.b,.l,.i .i64]) k
abbrev _root_.Sx.T.ql52 (a:Addr) (k:dx.ty (.g [.s,.b,.l])->T):T:=.ld false a (.g [.s,.b,.l]) k
abbrev _root_.Sx.T.Ci (a:Addr) (k:dx.ty (.o (.l))->T):T:=.ld true a (.o (.l)) k
abbrev _root_.Sx.T.ql54 (a:Addr) (k:dx.ty (.g [.b,.l,.i .i64])->T):T:=.ld false a (.g [.b,.l,.i .i64]) k
abbrev _root_.Sx.T.o7 (a:Addr) (k:dx.ty (.o (.i .i64))->T):T:=.ld true a (.o (.i .i64)) k
abbrev _root_.Sx.T.qc56 (g:Nat) (l:List Value) (k:Sh.ty (.t [(.o (.l)),(.o (.l))])->T):T:=.call false g l (.t [(.o (.l)),(.o (.l))]) k
abbrev _root_.Sx.T.qc57 (g:Nat) (l:List Value) (k:Sh.ty (.v (.o (.x)))->T):T:=.call false g l (.v (.o (.x))) k
abbrev _root_.Sx.T.qc58 (g:Nat) (l:List Value) (k:Sh.ty (.t [(.o (.l)),(.o (.l)),(.o (.b))])->T):T:=.call false g l (.t [(.o (.l)),(.o (.l)),(.o (.b))]) k
abbrev _root_.Sx.T.qc59 (g:Nat) (l:List Value) (k:Sh.ty (.v (.o (.x)))->T):T:=.call true g l (.v (.o (.x))) k
abbrev _root_.Sx.T.ql60 (a:Addr) (k:dx.ty (.g [.b,.l,.i .i64])->T):T:=.ld true a (.g [.b,.l,.i .i64]) k
abbrev _root_.Sx.T.qc61 (g:Nat) (l:List Value) (k:Sh.ty (.t [(.o (.l)),(.o (.i .i64))])->T):T:=.call false g l (.t [(.o (.l)),(.o (.i .i64))]) k
abbrev _root_.Sx.T.tF (g:Nat) (l:List Value) (k:Sh.ty (.t [(.o (.l)),(.o (.b))])->T):T:=.call false g l (.t [(.o (.l)),(.o (.b))]) k
abbrev _root_.Sx.T.S1 (g:Nat) (l:List Value) (k:Sh.ty (.t [(.g [.l]),(.o (.b))])->T):T:=.call false g l (.t [(.g [.l]),(.o (.b))]) k
abbrev _root_.Sx.T.qc64 (g:Nat) (l:List Value) (k:Sh.ty (.t [(.g [.s,.l]),(.o (.b))])->T):T:=.call false g l (.t [(.g [.s,.l]),(.o (.b))]) k
abbrev _root_.Sx.T.qc65 (g:Nat) (l:List Value) (k:Sh.ty (.t [])->T):T:=.call false g l (.t []) k
abbrev _root_.Sx.T.ql66 (a:Addr) (k:dx.ty (.g [.s,.b,.l])->T):T:=.ld true a (.g [.s,.b,.l]) k
abbrev _root_.Sx.T.ql67 (a:Addr) (k:dx.ty (.o (.i .u8))->T):T:=.ld false a (.o (.i .u8)) k
abbrev _root_.Sx.T.ql68 (a:Addr) (k:dx.ty (.g [.l])->T):T:=.ld false a (.g [.l]) k
def tAll (gK gA:Nat) (x0:nn) (x1:ar):T:=
 .SY gK [aU x0] fun y1 =>
 .lp [.a 9,.oI,.oL,.oL,.oS,.oL] [.a 9 ((0:Nat)) [],.vI 0,.vL y1.1,.vL y1.2.1,.vS y1.2.2.1,.vL y1.2.2.2.1] fun y2 =>
 .bd (y2.2.1<(↑x1.n:Int)) (
 .el x1.1 (x1.n) y2.2.1 fun y3 =>
 .iy (y3.add (Int.toNat y2.2.1*(1:Nat))) fun y4 =>
 .qc12 gA [aU y2.2.2,.string y4] fun y5 =>
 .rL [Value.string y5.2.1] 1 1 <|
 .rq (Sx.one [Value.string y5.2.1]=true/\(y2.1.1+(1:Nat))*(16:Nat)<=(140737488355328:Nat)/\y2.1.1+(1:Nat)<=(9223372036854775807:Nat)) <|
 .nx 0 [.a 9 (y2.1.1+(1:Nat)) (y2.1.2++[Value.string y5.2.1]),.vI (i64.wrap (y2.2.1+(1:Int))),.vL y5.1.1,.vL y5.1.2.1,.vS y5.1.2.2.1,.vL y5.1.2.2.2.1]) <|
 .fz y2.1.1 y2.1.2 9 fun b3 c3 =>
 .ret [aU y2.2.2,.slice (qA b3) y2.1.1 (c3)]
def tAns (gT gK gL gP:Nat) (x0:nn) (x1:ByteArray):T:=
 .qc27 gT [.string x1] fun y1 =>
 .bn y1.2.1 (.SY gK [aU x0] fun y2 =>
 .cM gL [.int .i64 1] fun y3 =>
 .ret [aU y2,.string y3]) <|
 .nq gP [aU x0,l8 y1.1] fun y2 =>
 .rg <|
 .qO gL [.int .i64 y2.2.1] fun y3 =>
 .ret [aU y2.1,.string y3]
def tScr (gO gC gS gN:Nat) (z:T) (x0:nn):T:=
 .bN gO [aU x0] fun y1 =>
 .bn y1 (z) <|
 .lp [.a 9,.oI] [.a 9 ((0:Nat)) [],.vI 0] fun y2 =>
 .bd (y2.2.1<(↑x0.2.2.2.1.n:Int)) (
 .el x0.2.2.2.1.1 (x0.2.2.2.1.n) y2.2.1 fun y3 =>
 .zA (y3.add (Int.toNat y2.2.1*(5:Nat))) fun y4 =>
 .cM gC [l8 ((((9:Int)):Int),ba,ba,ba,ba,ba,(false),ai,(((0:Int)):Int),ai,ai,(false),ai,(((0:Int)):Int),y4.1,y4.2.1,y4.2.2.1,y4.2.2.2.1,((y4.2.2.2.2.1):Int),())] fun y5 =>
 .rL [Value.string y5] 1 1 <|
 .rq (Sx.one [Value.string y5]=true/\(y2.1.1+(1:Nat))*(16:Nat)<=(140737488355328:Nat)/\y2.1.1+(1:Nat)<=(9223372036854775807:Nat)) <|
 .nx 0 [.a 9 (y2.1.1+(1:Nat)) (y2.1.2++[Value.string y5]),.vI (i64.wrap (y2.2.1+(1:Int)))]) <|
 .lp [.a 9,.oI] [.a 9 y2.1.1 y2.1.2,.vI 0] fun y3 =>
 .bd (y3.2.1<(↑x0.1.n:Int)) (
 .el x0.1.1 (x0.1.n) y3.2.1 fun y4 =>
 .vO (y4.add (Int.toNat y3.2.1*(4:Nat))) fun y5 =>
 .cM gC [l8 ((((1:Int)):Int),y5.1,ba,ba,y5.2.1,ba,(false),ai,(((0:Int)):Int),ai,ai,(false),ai,(((0:Int)):Int),ba,ba,(false),ai,(((0:Int)):Int),())] fun y6 =>
 .rL [Value.string y6] 1 1 <|
 .rq (Sx.one [Value.string y6]=true/\(y3.1.1+(1:Nat))*(16:Nat)<=(140737488355328:Nat)/\y3.1.1+(1:Nat)<=(9223372036854775807:Nat)) <|
 .eR gS [cV y5.2.2] fun y7 =>
 .br (y7 == (1:Int)) (
  .cM gC [l8 ((((2:Int)):Int),y5.1,ba,ba,ba,y5.2.1,y5.2.2.1,y5.2.2.2.1,(((0:Int)):Int),ai,ai,(false),ai,(((0:Int)):Int),ba,ba,(false),ai,(((0:Int)):Int),())] fun y8 =>
  .rL [Value.string y8] 1 1 <|
 .rq (Sx.one [Value.string y8]=true/\(y3.1.1+(1:Nat)+(1:Nat))*(16:Nat)<=(140737488355328:Nat)/\y3.1.1+(1:Nat)+(1:Nat)<=(9223372036854775807:Nat)) <|
 .nx 1 [.a 9 (y3.1.1+(1:Nat)+(1:Nat)) (y3.1.2++[Value.string y6]++[Value.string y8]),.vI (i64.wrap (y3.2.1+(1:Int)))]) <|
 .br (y7 == (-1:Int)) (
  .rg <|
 .qc16 gN [ct y5.2] fun y8 =>
  .qO gC [l8 ((((3:Int)):Int),y5.1,ba,ba,ba,y8.1,y8.2.1,y8.2.2.1,(((0:Int)):Int),ai,ai,(false),ai,(((0:Int)):Int),ba,ba,(false),ai,(((0:Int)):Int),())] fun y9 =>
  .rL [Value.string y9] 1 1 <|
 .rq (Sx.one [Value.string y9]=true/\(y3.1.1+(1:Nat)+(1:Nat))*(16:Nat)<=(140737488355328:Nat)/\y3.1.1+(1:Nat)+(1:Nat)<=(9223372036854775807:Nat)) <|
 .nx 1 [.a 9 (y3.1.1+(1:Nat)+(1:Nat)) (y3.1.2++[Value.string y6]++[Value.string y9]),.vI (i64.wrap (y3.2.1+(1:Int)))]) <|
 .nx 1 [.a 9 (y3.1.1+(1:Nat)) (y3.1.2++[Value.string y6]),.vI (i64.wrap (y3.2.1+(1:Int)))]) <|
 .fz y3.1.1 y3.1.2 9 fun b4 c4 =>
 .ret [.slice (qA b4) y3.1.1 (c4)]
def mw (x0:nn):T :=
 .eR 4 [aU x0,.int .i64 1048576] fun y1 =>
 .bd (y1<(0:Int)) (
  .rT) <|
 .SY 6 [aU x0] fun y2 =>
 .qc2 5 [aU y2] fun y3 =>
 .SY 6 [aU x0] fun y4 =>
 .qc2 7 [aU y4] fun y5 =>
 .bN 8 [aU y5.1,aU y3.1] fun y6 =>
 .bF y6 <|
 .br (!y5.2.1 == y3.2.1) (
  .rF) <|
 .rg <|
 .qc4 6 [aU x0] fun y7 =>
 .bN 8 [aU y4,aU y7] fun y8 =>
 .bF y8 <|
 .eR 9 [aU y4,.int .i64 1] fun y9 =>
 .bd (y9<(0:Int)) (
  .rF) <|
 .bN 8 [aU y5.1,aU y3.1] fun dM =>
 .bF dM <|
 .br (!y5.2.1 == y3.2.1) (
  .rF) <|
 .eR 9 [aU y5.1,.int .i64 1] fun gz =>
 .eR 10 [aU y5.1,.int .i64 1] fun fe =>
 .bd (fe<(0:Int)) (
  .rF) <|
 .br (fe != gz) (
  .rF) <|
 .SY 6 [aU x0] fun MU =>
 .qc2 7 [aU MU] fun y14 =>
 .bN 8 [aU y14.1,aU y3.1] fun y15 =>
 .bF y15 <|
 .br (!y14.2.1 == y3.2.1) (
  .rF) <|
 .eR 10 [aU y5.1,.int .i64 1] fun XY =>
 .bd (XY<(0:Int)) (
  .rF) <|
 .br (XY != gz) (
  .rF) <|
 .rT
theorem tG x0:aP bX 3 [aU x0] (mw x0) :=aq
def w9 (x0:nn) (x1:Int):T :=
 .eR 11 [dJ (x0.1,()),.int .i64 x1] fun y1 =>
 .bd (y1<(0:Int)) (
  .rM) <|
 .eR 12 [qL x0.2.1,.int .i64 y1] fun y2 =>
 .bd (y2<(0:Int)) (
  .rM) <|
 .eR 13 [iK x0.2.2,.int .i64 y2] fun y3 =>
 .bd (y3<(0:Int)) (
  .rM) <|
 .ret [.int .i64 y3]
theorem Ij x0 x1:aP bX 4 [aU x0,.int .i64 x1] (w9 x0 x1) :=aq
def zB (x0:nn):T :=
 .qc2 14 [.string x0.2.2.1] fun y1 =>
 .bn y1.2.1 (.ret [aU (ai,ai,ba,ai,()),.bool (false)]) <|
 .bN 15 [aU x0] fun y2 =>
 .bn y2 (.ret [aU (ai,ai,ba,ai,()),.bool (false)]) <|
 .rg <|
 .Rj 17 [aU x0] fun y3 =>
 .qc6 16 [aU y1.1,qL y3] fun y4 =>
 .ret [aU y4.1,.bool (true)]
theorem MV x0:aP bX 5 [aU x0] (zB x0) :=aq
def xb (x0:nn):T :=
 .qc7 18 [dJ (x0.1,())] fun y1 =>
 .jl 19 [qL x0.2.1] fun y2 =>
 .qc9 20 [iK x0.2.2] fun y3 =>
 .ret [aU (y1.1,y2,y3.1,y3.2.1,())]
theorem Ik x0:aP bX 6 [aU x0] (xb x0) :=aq
def zC (x0:nn):T :=
 .bN 21 [aU x0] fun y1 =>
 .bn y1 (.ret [aU (ai,ai,ba,ai,()),.bool (false)]) <|
 .qc2 22 [.string x0.2.2.1] fun y2 =>
 .rg <|
 .Rj 24 [aU x0] fun y3 =>
 .qc6 23 [aU y2.1,qL y3] fun y4 =>
 .ret [aU y4.1,.bool (true)]
theorem MW x0:aP bX 7 [aU x0] (zC x0) :=aq
def xc (x0:nn) (x1:nn):T :=
 .bN 25 [dJ (x0.1,()),dJ (x1.1,())] fun y1 =>
 .bF y1 <|
 .bN 26 [qL x0.2.1,qL x1.2.1] fun y2 =>
 .bF y2 <|
 .bN 27 [iK x0.2.2,iK x1.2.2] fun y3 =>
 .bF y3 <|
 .rT
theorem Il x0 x1:aP bX 8 [aU x0,aU x1] (xc x0 x1) :=aq
def qX (x0:nn) (x1:Int):T :=
 .eR 28 [dJ (x0.1,()),.int .i64 x1] fun y1 =>
 .eR 29 [qL x0.2.1,.int .i64 y1] fun y2 =>
 .eR 30 [iK x0.2.2,.int .i64 y2] fun y3 =>
 .ret [.int .i64 y3]
theorem Cj x0 x1:aP bX 9 [aU x0,.int .i64 x1] (qX x0 x1) :=aq
def qY (x0:nn) (x1:Int):T :=
 .eR 31 [dJ (x0.1,()),.int .i64 x1] fun y1 =>
 .bd (y1<(0:Int)) (
  .rM) <|
 .eR 32 [qL x0.2.1,.int .i64 y1] fun y2 =>
 .bd (y2<(0:Int)) (
  .rM) <|
 .eR 33 [iK x0.2.2,.int .i64 y2] fun y3 =>
 .bd (y3<(0:Int)) (
  .rM) <|
 .ret [.int .i64 y3]
theorem Ck x0 x1:aP bX 10 [aU x0,.int .i64 x1] (qY x0 x1) :=aq
def CM (x0:Ho) (x1:Int):T :=
 .eR 34 [qL x0.1,.int .i64 x1] fun y1 =>
 .bd (y1<(0:Int)) (
  .rM) <|
 .ret [.int .i64 y1]
theorem S2 x0 x1:aP bX 11 [dJ x0,.int .i64 x1] (CM x0 x1) :=aq
def MX:An:=⟨[(5,[.s 1,.s 5],[.oI,.oI])],[],[]⟩
def MY (x0:ar) (x1:Int):T :=
 .bd (i64.wrap (x1-(↑x0.n:Int))<(0:Int)) (
  .rM) <|
 .lp [.oI,.oI] [.vI (i64.wrap (x1-(↑x0.n:Int))),.vI 0] fun y1 =>
 .bd (y1.2.1<(↑x0.n:Int)) (
  .el x0.1 (x0.n) y1.2.1 fun y2 =>
  .SZ (y2.add (Int.toNat y1.2.1*(4:Nat))) fun y3 =>
  .eR 35 [E1 y3,.int .i64 y1.1] fun y4 =>
  .bd (y4<(0:Int)) (
   .rM) <|
 .nx 0 [.vI y4,.vI (i64.wrap (y1.2.1+(1:Int)))]) <|
 .ret [.int .i64 y1.1]
theorem MZ x0 x1:aP MX 12 [qL x0,.int .i64 x1] (MY x0 x1) :=aq
def zD (x0:SS) (x1:Int):T :=
 .bd (i64.wrap (x1-(↑(ByteArray.size x0.1):Int))<(0:Int)) (
  .rM) <|
 .eR 36 [qL x0.2.1,.int .i64 (i64.wrap (x1-(↑(ByteArray.size x0.1):Int)))] fun y1 =>
 .bd (y1<(0:Int)) (
  .rM) <|
 .ret [.int .i64 y1]
theorem M4 x0 x1:aP bX 13 [iK x0,.int .i64 x1] (zD x0 x1) :=aq
def tH (x0:ByteArray):T :=
 .bN 37 [.string x0] fun y1 =>
 .bn y1 (.ret [aU (ai,ai,ba,ai,()),.bool (false)]) <|
 .ret [aU (ai,ai,x0,ai,()),.bool (true)]
theorem E9 x0:aP bX 14 [.string x0] (tH x0) :=aq
def xd (x0:nn):T :=
 .bN 38 [dJ (x0.1,())] fun y1 =>
 .br y1 (
  .bN 39 [qL x0.2.1] fun y2 =>
  .br y2 (
   .bN 40 [iK x0.2.2] fun y3 =>
   .ret [.bool y3]) <|
 .rF) <|
 .rF
theorem Im x0:aP bX 15 [aU x0] (xd x0) :=aq
def E':An:=⟨[(4,[.s 7,.s 17,.c 6 0,.c 6 1,.c 6 2,.c 6 3],[.a 9,.oI,.oL,.oL,.oS,.oL])],[],[]⟩
def Fa (x0:nn) (x1:ar):T :=tAll 41 42 x0 x1
theorem Fb x0 x1:aP E' 16 [aU x0,qL x1] (Fa x0 x1) :=aq
def S3:An:=⟨[(5,[.s 3,.s 17],[.a 9,.oI]),(10,[.s 3,.s 32],[.a 9,.oI])],[],[]⟩
def S4 (x0:nn):T :=tScr 15 43 44 45 (.fz 0 [] 9 fun b2 c2 => .ret [.slice (qA b2) 0 c2]) x0
theorem S5 x0:aP S3 17 [aU x0] (S4 x0) :=aq
def CN (x0:Ho):T :=
 .jl 46 [qL x0.1] fun y1 =>
 .ret [dJ (y1,())]
theorem S6 x0:aP bX 18 [dJ x0] (CN x0) :=aq
def M5:An:=⟨[(3,[.s 3,.s 4],[.a 100,.oI])],[],[]⟩
def M6 (x0:ar):T :=
 .rq ((0:Int)<=(↑x0.n:Int)/\(↑x0.n:Int)<=(↑x0.n:Int)/\(↑(72:Nat):Int)*(↑x0.n:Int)<=(281474976710656:Int)/\(↑x0.n:Int)<=(9223372036854775807:Int)) <|
 .lp [.a 100,.oI] [.a 100 ((↑x0.n:Int).toNat) ((madeCells { toList:=[Value.string ba,Value.bool false,Value.slice none (0:Nat) (0:Nat),Value.slice none (0:Nat) (0:Nat)]:Array Value } ((↑x0.n:Int).toNat*(4:Nat))).toList),.vI 0] fun y1 =>
 .bd (y1.2.1<(↑x0.n:Int)) (
  .el x0.1 (x0.n) y1.2.1 fun y2 =>
  .SZ (y2.add (Int.toNat y1.2.1*(4:Nat))) fun y3 =>
  .qc18 47 [E1 y3] fun y4 =>
  .rI y1.2.1 (↑y1.1.1:Int) <|
 .rq (Int.toNat y1.2.1*(4:Nat)+[Value.string y4.1,Value.bool y4.2.1,Value.slice y4.2.2.1.1 y4.2.2.1.n y4.2.2.1.c,Value.slice y4.2.2.2.1.1 y4.2.2.2.1.n y4.2.2.2.1.c].length<=y1.1.2.length) <|
 .nx 0 [.a 100 y1.1.1 (aX y1.1.2 (Int.toNat y1.2.1*(4:Nat)) [Value.string y4.1,Value.bool y4.2.1,Value.slice y4.2.2.1.1 y4.2.2.1.n y4.2.2.1.c,Value.slice y4.2.2.2.1.1 y4.2.2.2.1.n y4.2.2.2.1.c]),.vI (i64.wrap (y1.2.1+(1:Int)))]) <|
 .fz y1.1.1 y1.1.2 100 fun b2 c2 =>
 .ret [.slice (qA b2) y1.1.1 (c2)]
theorem M7 x0:aP M5 19 [qL x0] (M6 x0) :=aq
def zE (x0:SS):T :=
 .jl 48 [qL x0.2.1] fun y1 =>
 .ret [iK (x0.1,y1,())]
theorem M8 x0:aP bX 20 [iK x0] (zE x0) :=aq
def xe (x0:nn):T :=
 .bN 49 [dJ (x0.1,())] fun y1 =>
 .br y1 (
  .bN 50 [qL x0.2.1] fun y2 =>
  .br y2 (
   .bN 51 [iK x0.2.2] fun y3 =>
   .ret [.bool y3]) <|
 .rF) <|
 .rF
theorem Io x0:aP bX 21 [aU x0] (xe x0) :=aq
def tI (x0:ByteArray):T :=
 .bN 52 [.string x0] fun y1 =>
 .bn y1 (.ret [aU (ai,ai,ba,ai,()),.bool (false)]) <|
 .ret [aU (ai,ai,x0,ai,()),.bool (true)]
theorem Fc x0:aP bX 22 [.string x0] (tI x0) :=aq
def Fe:An:=⟨[(4,[.s 7,.s 17,.c 6 0,.c 6 1,.c 6 2,.c 6 3],[.a 9,.oI,.oL,.oL,.oS,.oL])],[],[]⟩
def Ff (x0:nn) (x1:ar):T :=tAll 53 54 x0 x1
theorem Fg x0 x1:aP Fe 23 [aU x0,qL x1] (Ff x0 x1) :=aq
def S7:An:=⟨[(5,[.s 3,.s 16],[.a 9,.oI]),(10,[.s 3,.s 31],[.a 9,.oI])],[],[]⟩
def S8 (x0:nn):T :=tScr 21 55 56 57 (.ret [.slice none 0 0]) x0
theorem S9 x0:aP S7 24 [aU x0] (S8 x0) :=aq
def CO (x0:Ho) (x1:Ho):T :=
 .bN 58 [qL x0.1,qL x1.1] fun y1 =>
 .bF y1 <|
 .rT
theorem S' x0 x1:aP bX 25 [dJ x0,dJ x1] (CO x0 x1) :=aq
def M9:An:=⟨[(4,[.s 5],[.oI])],[],[]⟩
def M' (x0:ar) (x1:ar):T :=
 .br ((↑x0.n:Int) != (↑x1.n:Int)) (
  .rF) <|
 .lp [.oI] [.vI 0] fun y1 =>
 .bd (y1.1<(↑x0.n:Int)) (
  .rg <|
 .el x0.1 (x0.n) y1.1 fun y2 =>
  .ql19 (y2.add (Int.toNat y1.1*(4:Nat))) fun y3 =>
  .el x1.1 (x1.n) y1.1 fun y4 =>
  .ql19 (y4.add (Int.toNat y1.1*(4:Nat))) fun y5 =>
  .bN 59 [E1 y3,E1 y5] fun y6 =>
  .bF y6 <|
 .nx 0 [.vI (i64.wrap (y1.1+(1:Int)))]) <|
 .rT
theorem Nb x0 x1:aP M9 26 [qL x0,qL x1] (M' x0 x1) :=aq
def zF (x0:SS) (x1:SS):T :=
 .br (!ByteArray.toList x0.1 == ByteArray.toList x1.1) (
  .rF) <|
 .bN 60 [qL x0.2.1,qL x1.2.1] fun y1 =>
 .bF y1 <|
 .rT
theorem Nc x0 x1:aP bX 27 [iK x0,iK x1] (zF x0 x1) :=aq
def xf (x0:Ho) (x1:Int):T :=
 .eR 61 [qL x0.1,.int .i64 x1] fun y1 =>
 .ret [.int .i64 y1]
theorem Ip x0 x1:aP bX 28 [dJ x0,.int .i64 x1] (xf x0 x1) :=aq
def Fh:An:=⟨[(2,[.s 1,.s 5],[.oI,.oI])],[],[]⟩
def tJ (x0:ar) (x1:Int):T :=
 .lp [.oI,.oI] [.vI x1,.vI 0] fun y1 =>
 .bd (y1.2.1<(↑x0.n:Int)) (
  .cM 62 [.int .i64 y1.1] fun y2 =>
  .el x0.1 (x0.n) y1.2.1 fun y3 =>
  .st ((y3.add (Int.toNat y1.2.1*(4:Nat))).add (0:Nat)) [.string y2] <|
 .rZ (3:Int) <|
 .el x0.1 (x0.n) y1.2.1 fun y4 =>
  .st ((((y4.add (Int.toNat y1.2.1*(4:Nat))).add (1:Nat)).add (0:Nat)).add (0:Nat)) [.bool ((i64.wrap (y1.1+(1:Int))).tmod (3:Int) == (0:Int))] <|
 .el x0.1 (x0.n) y1.2.1 fun y5 =>
  .Cf ((((y5.add (Int.toNat y1.2.1*(4:Nat))).add (1:Nat)).add (0:Nat)).add (1:Nat)) fun y6 =>
  .eR 63 [qL y6,.int .i64 (i64.wrap (i64.wrap (y1.1+(1:Int))+(1:Int)))] fun y7 =>
  .el x0.1 (x0.n) y1.2.1 fun y8 =>
  .Cf (((y8.add (Int.toNat y1.2.1*(4:Nat))).add (1:Nat)).add (2:Nat)) fun y9 =>
  .eR 63 [qL y9,.int .i64 y7] fun dM =>
  .nx 0 [.vI dM,.vI (i64.wrap (y1.2.1+(1:Int)))]) <|
 .ret [.int .i64 y1.1]
theorem Fi x0 x1:aP Fh 29 [qL x0,.int .i64 x1] (tJ x0 x1) :=aq
def tK (x0:SS) (x1:Int):T :=
 .eR 64 [qL x0.2.1,.int .i64 x1] fun y1 =>
 .ret [.int .i64 y1]
theorem Fj x0 x1:aP bX 30 [iK x0,.int .i64 x1] (tK x0 x1) :=aq
def xg (x0:Ho) (x1:Int):T :=
 .eR 65 [qL x0.1,.int .i64 x1] fun y1 =>
 .bd (y1<(0:Int)) (
  .rM) <|
 .ret [.int .i64 y1]
theorem Iq x0 x1:aP bX 31 [dJ x0,.int .i64 x1] (xg x0 x1) :=aq
def Fk:An:=⟨[(2,[.s 1,.s 5],[.oI,.oI])],[],[]⟩
def tL (x0:ar) (x1:Int):T :=
 .lp [.oI,.oI] [.vI x1,.vI 0] fun y1 =>
 .bd (y1.2.1<(↑x0.n:Int)) (
  .rg <|
 .el x0.1 (x0.n) y1.2.1 fun y2 =>
  .mQ ((y2.add (Int.toNat y1.2.1*(4:Nat))).add (0:Nat)) fun y3 =>
  .qO 62 [.int .i64 y1.1] fun y4 =>
  .br (!y3.toList == y4.toList) (
   .rM) <|
 .el x0.1 (x0.n) y1.2.1 fun y5 =>
  .ql22 ((((y5.add (Int.toNat y1.2.1*(4:Nat))).add (1:Nat)).add (0:Nat)).add (0:Nat)) fun y6 =>
  .rZ (3:Int) <|
 .br (!y6 == ((i64.wrap (y1.1+(1:Int))).tmod (3:Int) == (0:Int))) (
   .rM) <|
 .el x0.1 (x0.n) y1.2.1 fun y7 =>
  .Cf ((((y7.add (Int.toNat y1.2.1*(4:Nat))).add (1:Nat)).add (0:Nat)).add (1:Nat)) fun y8 =>
  .eR 66 [qL y8,.int .i64 (i64.wrap (i64.wrap (y1.1+(1:Int))+(1:Int)))] fun y9 =>
  .bd (y9<(0:Int)) (
   .rM) <|
 .el x0.1 (x0.n) y1.2.1 fun dM =>
  .Cf (((dM.add (Int.toNat y1.2.1*(4:Nat))).add (1:Nat)).add (2:Nat)) fun gz =>
  .eR 66 [qL gz,.int .i64 y9] fun fe =>
  .bd (fe<(0:Int)) (
   .rM) <|
 .nx 0 [.vI fe,.vI (i64.wrap (y1.2.1+(1:Int)))]) <|
 .ret [.int .i64 y1.1]
theorem Fl x0 x1:aP Fk 32 [qL x0,.int .i64 x1] (tL x0 x1) :=aq
def tM (x0:SS) (x1:Int):T :=
 .eR 67 [qL x0.2.1,.int .i64 x1] fun y1 =>
 .bd (y1<(0:Int)) (
  .rM) <|
 .ret [.int .i64 y1]
theorem Fo x0 x1:aP bX 33 [iK x0,.int .i64 x1] (tM x0 x1) :=aq
def Nd:An:=⟨[(5,[.s 1,.s 5],[.oI,.oI])],[],[]⟩
def Nf (x0:ar) (x1:Int):T :=
 .bd (i64.wrap (x1-(↑x0.n:Int))<(0:Int)) (
  .rM) <|
 .lp [.oI,.oI] [.vI (i64.wrap (x1-(↑x0.n:Int))),.vI 0] fun y1 =>
 .bd (y1.2.1<(↑x0.n:Int)) (
  .el x0.1 (x0.n) y1.2.1 fun y2 =>
  .vO (y2.add (Int.toNat y1.2.1*(4:Nat))) fun y3 =>
  .eR 68 [WO y3,.int .i64 y1.1] fun y4 =>
  .bd (y4<(0:Int)) (
   .rM) <|
 .nx 0 [.vI y4,.vI (i64.wrap (y1.2.1+(1:Int)))]) <|
 .ret [.int .i64 y1.1]
theorem Ng x0 x1:aP Nd 34 [qL x0,.int .i64 x1] (Nf x0 x1) :=aq
def CP (x0:qy10) (x1:Int):T :=
 .bd (i64.wrap (x1-(↑(ByteArray.size x0.1):Int))<(0:Int)) (
  .rM) <|
 .eR 69 [lS x0.2,.int .i64 (i64.wrap (x1-(↑(ByteArray.size x0.1):Int)))] fun y1 =>
 .bd (y1<(0:Int)) (
  .rM) <|
 .ret [.int .i64 y1]
theorem Ta x0 x1:aP bX 35 [E1 x0,.int .i64 x1] (CP x0 x1) :=aq
def Nh:An:=⟨[(5,[.s 1,.s 5],[.oI,.oI])],[],[]⟩
def Ni (x0:ar) (x1:Int):T :=
 .bd (i64.wrap (x1-(↑x0.n:Int))<(0:Int)) (
  .rM) <|
 .lp [.oI,.oI] [.vI (i64.wrap (x1-(↑x0.n:Int))),.vI 0] fun y1 =>
 .bd (y1.2.1<(↑x0.n:Int)) (
  .el x0.1 (x0.n) y1.2.1 fun y2 =>
  .zA (y2.add (Int.toNat y1.2.1*(5:Nat))) fun y3 =>
  .eR 70 [fV y3,.int .i64 y1.1] fun y4 =>
  .bd (y4<(0:Int)) (
   .rM) <|
 .nx 0 [.vI y4,.vI (i64.wrap (y1.2.1+(1:Int)))]) <|
 .ret [.int .i64 y1.1]
theorem Nj x0 x1:aP Nh 36 [qL x0,.int .i64 x1] (Ni x0 x1) :=aq
def xh (x0:ByteArray):T :=
 .qc23 71 [.string x0] fun y1 =>
 .ret [.bool (!ByteArray.toList y1.1 == ba.toList)]
theorem Ir x0:aP bX 37 [.string x0] (xh x0) :=aq
def Tb:An:=⟨[(2,[.s 8],[.oI])],[],[]⟩
def CQ (x0:Ho):T :=
 .lp [.oI] [.vI 0] fun y1 =>
 .bd (y1.1<(↑x0.1.n:Int)) (
  .el x0.1.1 (x0.1.n) y1.1 fun y2 =>
  .vO (y2.add (Int.toNat y1.1*(4:Nat))) fun y3 =>
  .rg <|
 .vP 72 [.string y3.1] fun y4 =>
  .bF y4 <|
 .vP 73 [ct y3.2] fun y5 =>
  .bF y5 <|
 .bd (y1.1 > (0:Int)) (
   .el x0.1.1 (x0.1.n) (i64.wrap (y1.1-(1:Int))) fun y6 =>
   .mQ ((y6.add ((i64.wrap (y1.1-(1:Int))).toNat*(4:Nat))).add (0:Nat)) fun y7 =>
   .br (!Op.bytesLess y7.toList (ByteArray.toList y3.1)) (
    .rF) <|
 .nx 0 [.vI (i64.wrap (y1.1+(1:Int)))]) <|
 .nx 0 [.vI (i64.wrap (y1.1+(1:Int)))]) <|
 .ret [.bool (decide ((↑x0.1.n:Int)<=(12:Int)))]
theorem Tc x0:aP Tb 38 [dJ x0] (CQ x0) :=aq
def Nk:An:=⟨[(2,[.s 7],[.oI])],[],[]⟩
def zG (x0:ar):T :=
 .lp [.oI] [.vI 0] fun y1 =>
 .bd (y1.1<(↑x0.n:Int)) (
  .el x0.1 (x0.n) y1.1 fun y2 =>
  .SZ (y2.add (Int.toNat y1.1*(4:Nat))) fun y3 =>
  .rg <|
 .vP 37 [.string y3.1] fun y4 =>
  .bF y4 <|
 .vP 74 [lS y3.2] fun y5 =>
  .bF y5 <|
 .XX 75 [lS y3.2] fun y6 =>
  .br (y6 == (0:Int)) (
   .rF) <|
 .bd (y1.1 > (0:Int)) (
   .el x0.1 (x0.n) (i64.wrap (y1.1-(1:Int))) fun y7 =>
   .mQ ((y7.add ((i64.wrap (y1.1-(1:Int))).toNat*(4:Nat))).add (0:Nat)) fun y8 =>
   .br (!Op.bytesLess y8.toList (ByteArray.toList y3.1)) (
    .rF) <|
 .nx 0 [.vI (i64.wrap (y1.1+(1:Int)))]) <|
 .nx 0 [.vI (i64.wrap (y1.1+(1:Int)))]) <|
 .rT
theorem Nl x0:aP Nk 39 [qL x0] (zG x0) :=aq
def No:An:=⟨[(4,[.s 18],[.oI])],[],[]⟩
def zH (x0:SS):T :=
 .bN 37 [.string x0.1] fun y1 =>
 .bF y1 <|
 .bd ((↑x0.2.1.n:Int) > (12:Int)) (
  .rF) <|
 .lp [.oI] [.vI 0] fun y2 =>
 .bd (y2.1<(↑x0.2.1.n:Int)) (
  .el x0.2.1.1 (x0.2.1.n) y2.1 fun y3 =>
  .zA (y3.add (Int.toNat y2.1*(5:Nat))) fun y4 =>
  .bN 76 [fV y4] fun y5 =>
  .bF y5 <|
 .eR 77 [qL x0.2.1,.string y4.1,.string y4.2.1] fun y6 =>
  .br (y6 != y2.1) (
   .rF) <|
 .nx 0 [.vI (i64.wrap (y2.1+(1:Int)))]) <|
 .rT
theorem Np x0:aP No 40 [iK x0] (zH x0) :=aq
def zI (x0:nn):T :=
 .rg <|
 .qc26 78 [dJ (x0.1,())] fun y1 =>
 .Rj 79 [qL x0.2.1] fun y2 =>
 .qc9 80 [iK x0.2.2] fun y3 =>
 .ret [aU (y1.1,y2,y3.1,y3.2.1,())]
theorem Nq x0:aP bX 41 [aU x0] (zI x0) :=aq
def Td (x0:nn) (x1:ByteArray):T :=tAns 81 41 82 83 x0 x1
theorem Te x0 x1:aP bX 42 [aU x0,.string x1] (Td x0 x1) :=aq
def Nr:An:=⟨[],[(10,[.s 7],[.a 9]),(12,[.s 7],[.a 9]),(14,[.s 7],[.a 9]),(16,[.s 7],[.a 9]),(18,[.s 7],[.a 9]),(20,[.s 7],[.a 9]),(22,[.s 7],[.a 9])],[]⟩
def zJ (x0:qy8):T :=
 .bN 84 [l8 x0] fun y1 =>
 .bn y1 (.ret [.string ba]) <|
 .qc29 85 [.int .i64 x0.1] fun y2 =>
 .cM 86 [.int .i64 x0.1] fun y3 =>
 .br (x0.1 == (9:Int)) (
  .rg <|
 .qO 86 [.int .i64 x0.1] fun y4 =>
  .rN (y4.size+(⟨⟨[32]⟩⟩:ByteArray).size) <|
 .cM 87 [fV x0.2.2.2.2.2.2.2.2.2.2.2.2.2.2] fun y5 =>
  .rN ((y4++(⟨⟨[32]⟩⟩:ByteArray)).size+y5.size) <|
 .ret [.string (y4++(⟨⟨[32]⟩⟩:ByteArray)++y5)]) <|
 .rL [Value.string x0.2.1] 1 1 <|
 .rO [Value.string x0.2.1] ((1:Nat)+(1:Nat)) 16 <|
 .jn [.a 9] (fun y4 =>
  .jn [.a 9] (fun y5 =>
   .jn [.a 9] (fun y6 =>
    .jn [.a 9] (fun y7 =>
     .jn [.a 9] (fun y8 =>
      .jn [.a 9] (fun y9 =>
       .jn [.a 9] (fun dM =>
        .fz dM.1.1 dM.1.2 9 fun b11 Tf =>
        .cM 92 [.slice (qA b11) dM.1.1 (Tf),.string ⟨⟨[32]⟩⟩] fun fe =>
        .ret [.string fe]) <|
 .br y2.2.2.2.1 (
        .cM 91 [.int .i64 x0.2.2.2.2.2.2.2.2.1] fun dM =>
        .rL [Value.string dM] 1 1 <|
 .rO [Value.string dM] (y9.1.1+(1:Nat)) 16 <|
 .nx 6 [.a 9 (y9.1.1+(1:Nat)) (y9.1.2++[Value.string dM])]) <|
 .nx 6 [.a 9 y9.1.1 y9.1.2]) <|
 .br y2.2.1 (
       .cM 90 [cA (x0.2.2.2.2.2.2.2.2.2.2.2.1,x0.2.2.2.2.2.2.2.2.2.2.2.2.1,((x0.2.2.2.2.2.2.2.2.2.2.2.2.2.1):Int),())] fun y9 =>
       .rL [Value.string y9] 1 1 <|
 .rO [Value.string y9] (y8.1.1+(1:Nat)) 16 <|
 .nx 5 [.a 9 (y8.1.1+(1:Nat)) (y8.1.2++[Value.string y9])]) <|
 .nx 5 [.a 9 y8.1.1 y8.1.2]) <|
 .br (x0.1 == (6:Int)) (
      .cM 89 [qL x0.2.2.2.2.2.2.2.2.2.1,qL x0.2.2.2.2.2.2.2.2.2.2.1] fun y8 =>
      .rL [Value.string y8] 1 1 <|
 .rO [Value.string y8] (y7.1.1+(1:Nat)) 16 <|
 .nx 4 [.a 9 (y7.1.1+(1:Nat)) (y7.1.2++[Value.string y8])]) <|
 .nx 4 [.a 9 y7.1.1 y7.1.2]) <|
 .br y2.2.2.1 (
     .cM 88 [ct (x0.2.2.2.2.2.1,x0.2.2.2.2.2.2.1,x0.2.2.2.2.2.2.2.1,())] fun y7 =>
     .rL [Value.string y7] 1 1 <|
 .rO [Value.string y7] (y6.1.1+(1:Nat)) 16 <|
 .nx 3 [.a 9 (y6.1.1+(1:Nat)) (y6.1.2++[Value.string y7])]) <|
 .nx 3 [.a 9 y6.1.1 y6.1.2]) <|
 .br (x0.1 == (1:Int)) (
    .rL [Value.string x0.2.2.2.2.1] 1 1 <|
 .rO [Value.string x0.2.2.2.2.1] (y5.1.1+(1:Nat)) 16 <|
 .nx 2 [.a 9 (y5.1.1+(1:Nat)) (y5.1.2++[Value.string x0.2.2.2.2.1])]) <|
 .nx 2 [.a 9 y5.1.1 y5.1.2]) <|
 .br y2.2.1 (
   .rL [Value.string x0.2.2.2.1] 1 1 <|
 .rO [Value.string x0.2.2.2.1] (y4.1.1+(1:Nat)) 16 <|
 .nx 1 [.a 9 (y4.1.1+(1:Nat)) (y4.1.2++[Value.string x0.2.2.2.1])]) <|
 .nx 1 [.a 9 y4.1.1 y4.1.2]) <|
 .br y2.1 (
  .rL [Value.string x0.2.2.1] 1 1 <|
 .rO [Value.string x0.2.2.1] ((1:Nat)+(1:Nat)+(1:Nat)) 16 <|
 .nx 0 [.a 9 ((1:Nat)+(1:Nat)+(1:Nat)) [.string y3,.string x0.2.1,.string x0.2.2.1]]) <|
 .nx 0 [.a 9 ((1:Nat)+(1:Nat)) [.string y3,.string x0.2.1]]
theorem Nt x0:aP Nr 43 [l8 x0] (zJ x0) :=aq
def zK (x0:yv):T :=
 .eR 93 [cV x0,cV ((false),ai,())] fun y1 =>
 .ret [.int .i64 y1]
theorem Nu x0:aP bX 44 [cV x0] (zK x0) :=aq
def zL (x0:vr):T :=
 .rg <|
 .Ih 94 [cV x0.2] fun y1 =>
 .ret [ct (x0.1,y1.1,y1.2.1,())]
theorem Nv x0:aP bX 45 [ct x0] (zL x0) :=aq
def Ny:An:=⟨[(3,[.s 3,.s 4],[.a 93,.oI])],[],[]⟩
def Nz (x0:ar):T :=
 .rq ((0:Int)<=(↑x0.n:Int)/\(↑x0.n:Int)<=(↑x0.n:Int)/\(↑(64:Nat):Int)*(↑x0.n:Int)<=(281474976710656:Int)/\(↑x0.n:Int)<=(9223372036854775807:Int)) <|
 .lp [.a 93,.oI] [.a 93 ((↑x0.n:Int).toNat) ((madeCells { toList:=[Value.string ba,Value.string ba,Value.bool false,Value.slice none (0:Nat) (0:Nat)]:Array Value } ((↑x0.n:Int).toNat*(4:Nat))).toList),.vI 0] fun y1 =>
 .bd (y1.2.1<(↑x0.n:Int)) (
  .el x0.1 (x0.n) y1.2.1 fun y2 =>
  .vO (y2.add (Int.toNat y1.2.1*(4:Nat))) fun y3 =>
  .qc31 95 [WO y3] fun y4 =>
  .rI y1.2.1 (↑y1.1.1:Int) <|
 .rq (Int.toNat y1.2.1*(4:Nat)+[Value.string y4.1,Value.string y4.2.1,Value.bool y4.2.2.1,Value.slice y4.2.2.2.1.1 y4.2.2.2.1.n y4.2.2.2.1.c].length<=y1.1.2.length) <|
 .nx 0 [.a 93 y1.1.1 (aX y1.1.2 (Int.toNat y1.2.1*(4:Nat)) [Value.string y4.1,Value.string y4.2.1,Value.bool y4.2.2.1,Value.slice y4.2.2.2.1.1 y4.2.2.2.1.n y4.2.2.2.1.c]),.vI (i64.wrap (y1.2.1+(1:Int)))]) <|
 .fz y1.1.1 y1.1.2 93 fun b2 c2 =>
 .ret [.slice (qA b2) y1.1.1 (c2)]
theorem NA x0:aP Ny 46 [qL x0] (Nz x0) :=aq
def CR (x0:qy10):T :=
 .qc32 96 [lS x0.2] fun y1 =>
 .ret [E1 (x0.1,y1.1,y1.2.1,y1.2.2.1,())]
theorem Tg x0:aP bX 47 [E1 x0] (CR x0) :=aq
def NB:An:=⟨[(3,[.s 3,.s 4],[.a 86,.oI])],[],[]⟩
def NC (x0:ar):T :=
 .rq ((0:Int)<=(↑x0.n:Int)/\(↑x0.n:Int)<=(↑x0.n:Int)/\(↑(72:Nat):Int)*(↑x0.n:Int)<=(281474976710656:Int)/\(↑x0.n:Int)<=(9223372036854775807:Int)) <|
 .lp [.a 86,.oI] [.a 86 ((↑x0.n:Int).toNat) ((madeCells { toList:=[Value.string ba,Value.string ba,Value.bool false,Value.slice none (0:Nat) (0:Nat),Value.int IntKind.i64 (0:Int)]:Array Value } ((↑x0.n:Int).toNat*(5:Nat))).toList),.vI 0] fun y1 =>
 .bd (y1.2.1<(↑x0.n:Int)) (
  .el x0.1 (x0.n) y1.2.1 fun y2 =>
  .zA (y2.add (Int.toNat y1.2.1*(5:Nat))) fun y3 =>
  .qc33 97 [fV y3] fun y4 =>
  .rI y1.2.1 (↑y1.1.1:Int) <|
 .rq (Int.toNat y1.2.1*(5:Nat)+[Value.string y4.1,Value.string y4.2.1,Value.bool y4.2.2.1,Value.slice y4.2.2.2.1.1 y4.2.2.2.1.n y4.2.2.2.1.c,Value.int IntKind.i64 y4.2.2.2.2.1].length<=y1.1.2.length) <|
 .nx 0 [.a 86 y1.1.1 (aX y1.1.2 (Int.toNat y1.2.1*(5:Nat)) [Value.string y4.1,Value.string y4.2.1,Value.bool y4.2.2.1,Value.slice y4.2.2.2.1.1 y4.2.2.2.1.n y4.2.2.2.1.c,Value.int IntKind.i64 y4.2.2.2.2.1]),.vI (i64.wrap (y1.2.1+(1:Int)))]) <|
 .fz y1.1.1 y1.1.2 86 fun b2 c2 =>
 .ret [.slice (qA b2) y1.1.1 (c2)]
theorem ND x0:aP NB 48 [qL x0] (NC x0) :=aq
def Th:An:=⟨[(4,[.s 12],[.oI])],[],[]⟩
def CS (x0:Ho):T :=
 .bd ((↑x0.1.n:Int) > (12:Int)) (
  .rF) <|
 .lp [.oI] [.vI 0] fun y1 =>
 .bd (y1.1<(↑x0.1.n:Int)) (
  .el x0.1.1 (x0.1.n) y1.1 fun y2 =>
  .vO (y2.add (Int.toNat y1.1*(4:Nat))) fun y3 =>
  .rg <|
 .vP 98 [.string y3.1] fun y4 =>
  .bF y4 <|
 .vP 99 [ct y3.2] fun y5 =>
  .bF y5 <|
 .bd (y1.1 > (0:Int)) (
   .el x0.1.1 (x0.1.n) (i64.wrap (y1.1-(1:Int))) fun y6 =>
   .mQ ((y6.add ((i64.wrap (y1.1-(1:Int))).toNat*(4:Nat))).add (0:Nat)) fun y7 =>
   .br (!Op.bytesLess y7.toList (ByteArray.toList y3.1)) (
    .rF) <|
 .nx 0 [.vI (i64.wrap (y1.1+(1:Int)))]) <|
 .nx 0 [.vI (i64.wrap (y1.1+(1:Int)))]) <|
 .rT
theorem Ti x0:aP Th 49 [dJ x0] (CS x0) :=aq
def NF:An:=⟨[(2,[.s 7],[.oI])],[],[]⟩
def zM (x0:ar):T :=
 .lp [.oI] [.vI 0] fun y1 =>
 .bd (y1.1<(↑x0.n:Int)) (
  .el x0.1 (x0.n) y1.1 fun y2 =>
  .SZ (y2.add (Int.toNat y1.1*(4:Nat))) fun y3 =>
  .rg <|
 .vP 52 [.string y3.1] fun y4 =>
  .bF y4 <|
 .vP 100 [lS y3.2] fun y5 =>
  .bF y5 <|
 .XX 101 [lS y3.2] fun y6 =>
  .br (y6 == (0:Int)) (
   .rF) <|
 .bd (y1.1 > (0:Int)) (
   .el x0.1 (x0.n) (i64.wrap (y1.1-(1:Int))) fun y7 =>
   .mQ ((y7.add ((i64.wrap (y1.1-(1:Int))).toNat*(4:Nat))).add (0:Nat)) fun y8 =>
   .br (!Op.bytesLess y8.toList (ByteArray.toList y3.1)) (
    .rF) <|
 .nx 0 [.vI (i64.wrap (y1.1+(1:Int)))]) <|
 .nx 0 [.vI (i64.wrap (y1.1+(1:Int)))]) <|
 .rT
theorem NG x0:aP NF 50 [qL x0] (zM x0) :=aq
def NH:An:=⟨[(5,[.s 21],[.oI])],[],[]⟩
def zN (x0:SS):T :=
 .bN 52 [.string x0.1] fun y1 =>
 .bF y1 <|
 .bd ((↑x0.2.1.n:Int) > (12:Int)) (
  .rF) <|
 .mo (.mk 149) (.v (.o (.x))) fun y2 =>
 .lp [.oI] [.vI 0] fun y3 =>
 .bd (y3.1<(↑x0.2.1.n:Int)) (
  .el x0.2.1.1 (x0.2.1.n) y3.1 fun y4 =>
  .zA (y4.add (Int.toNat y3.1*(5:Nat))) fun y5 =>
  .bN 102 [fV y5] fun y6 =>
  .bF y6 <|
 .mo (.lk 149 (y2.1) (E2 (y5.1,y5.2.1,())) false) (.v (.o (.b))) fun y7 =>
  .br y7 (
   .rF) <|
 .mo (.up 149 (y2.1) (E2 (y5.1,y5.2.1,())) (.bool (true))) (.t []) fun _ =>
  .nx 0 [.vI (i64.wrap (y3.1+(1:Int)))]) <|
 .rT
theorem NI x0:aP NH 51 [iK x0] (zN x0) :=aq
def xi (x0:ByteArray):T :=
 .qc34 103 [.string x0] fun y1 =>
 .ret [.bool y1.2.1]
theorem Is x0:aP bX 52 [.string x0] (xi x0) :=aq
def qZ (x0:nn):T :=
 .rg <|
 .qc26 104 [dJ (x0.1,())] fun y1 =>
 .Rj 105 [qL x0.2.1] fun y2 =>
 .qc9 106 [iK x0.2.2] fun y3 =>
 .ret [aU (y1.1,y2,y3.1,y3.2.1,())]
theorem Cl x0:aP bX 53 [aU x0] (qZ x0) :=aq
def Tj (x0:nn) (x1:ByteArray):T :=tAns 107 53 108 109 x0 x1
theorem Tk x0 x1:aP bX 54 [aU x0,.string x1] (Tj x0 x1) :=aq
def NJ:An:=⟨[(5,[.s 3,.s 17],[.a 9,.oI])],[],[(2000005,[.s 1])]⟩
def zO (x0:qy8):T :=
 .bN 110 [l8 x0] fun y1 =>
 .bn y1 (.ret [.string ba]) <|
 .cM 111 [.int .i64 x0.1] fun y2 =>
 .jl 112 [.int .i64 x0.1] fun y3 =>
 .es [.int .i64 x0.1,.string x0.2.1,.string x0.2.2.1,.string x0.2.2.2.1,.string x0.2.2.2.2.1,.string x0.2.2.2.2.2.1,.bool x0.2.2.2.2.2.2.1,qL x0.2.2.2.2.2.2.2.1,.int .i64 x0.2.2.2.2.2.2.2.2.1,qL x0.2.2.2.2.2.2.2.2.2.1,qL x0.2.2.2.2.2.2.2.2.2.2.1,.bool x0.2.2.2.2.2.2.2.2.2.2.2.1,qL x0.2.2.2.2.2.2.2.2.2.2.2.2.1,.int .i64 x0.2.2.2.2.2.2.2.2.2.2.2.2.2.1,.string x0.2.2.2.2.2.2.2.2.2.2.2.2.2.2.1,.string x0.2.2.2.2.2.2.2.2.2.2.2.2.2.2.2.1,.bool x0.2.2.2.2.2.2.2.2.2.2.2.2.2.2.2.2.1,qL x0.2.2.2.2.2.2.2.2.2.2.2.2.2.2.2.2.2.1,.int .i64 x0.2.2.2.2.2.2.2.2.2.2.2.2.2.2.2.2.2.2.1] 91 fun b4 =>
 .lp [.a 9,.oI] [.a 9 ((1:Nat)) [.string y2],.vI 0] fun y5 =>
 .bd (y5.2.1<(↑y3.n:Int)) (
  .el y3.1 (y3.n) y5.2.1 fun y6 =>
  .dy (y6.add (Int.toNat y5.2.1*(1:Nat))) fun y7 =>
  .cM 113 [.pointer (qA b4),.int .i64 y7] fun y8 =>
  .rL [Value.string y8] 1 1 <|
 .rO [Value.string y8] (y5.1.1+(1:Nat)) 16 <|
 .nx 0 [.a 9 (y5.1.1+(1:Nat)) (y5.1.2++[Value.string y8]),.vI (i64.wrap (y5.2.1+(1:Int)))]) <|
 .fz y5.1.1 y5.1.2 9 fun b6 c6 =>
 .cM 114 [.slice (qA b6) y5.1.1 (c6),.string ⟨⟨[32]⟩⟩] fun y7 =>
 .ret [.string y7]
theorem NK x0:aP NJ 55 [l8 x0] (zO x0) :=aq
def zP (x0:yv):T :=
 .br ((↑x0.2.1.n:Int) == (0:Int)) (
  .ret [.int .i64 0]) <|
 .br x0.1 (
  .rM) <|
 .ret [.int .i64 1]
theorem NL x0:aP bX 56 [cV x0] (zP x0) :=aq
def It (x0:vr):T :=
 .rg <|
 .Ih 115 [cV x0.2] fun y1 =>
 .ret [ct (x0.1,y1.1,y1.2.1,())]
theorem XZ x0:aP bX 57 [ct x0] (It x0) :=aq
def NM:An:=⟨[(4,[.s 5],[.oI])],[],[]⟩
def NN (x0:ar) (x1:ar):T :=
 .br ((↑x0.n:Int) != (↑x1.n:Int)) (
  .rF) <|
 .lp [.oI] [.vI 0] fun y1 =>
 .bd (y1.1<(↑x0.n:Int)) (
  .rg <|
 .el x0.1 (x0.n) y1.1 fun y2 =>
  .ql36 (y2.add (Int.toNat y1.1*(4:Nat))) fun y3 =>
  .el x1.1 (x1.n) y1.1 fun y4 =>
  .ql36 (y4.add (Int.toNat y1.1*(4:Nat))) fun y5 =>
  .bN 116 [WO y3,WO y5] fun y6 =>
  .bF y6 <|
 .nx 0 [.vI (i64.wrap (y1.1+(1:Int)))]) <|
 .rT
theorem NO x0 x1:aP NM 58 [qL x0,qL x1] (NN x0 x1) :=aq
def CT (x0:qy10) (x1:qy10):T :=
 .br (!ByteArray.toList x0.1 == ByteArray.toList x1.1) (
  .rF) <|
 .bN 117 [lS x0.2,lS x1.2] fun y1 =>
 .bF y1 <|
 .rT
theorem Tl x0 x1:aP bX 59 [E1 x0,E1 x1] (CT x0 x1) :=aq
def NP:An:=⟨[(4,[.s 5],[.oI])],[],[]⟩
def NQ (x0:ar) (x1:ar):T :=
 .br ((↑x0.n:Int) != (↑x1.n:Int)) (
  .rF) <|
 .lp [.oI] [.vI 0] fun y1 =>
 .bd (y1.1<(↑x0.n:Int)) (
  .rg <|
 .el x0.1 (x0.n) y1.1 fun y2 =>
  .ql37 (y2.add (Int.toNat y1.1*(5:Nat))) fun y3 =>
  .el x1.1 (x1.n) y1.1 fun y4 =>
  .ql37 (y4.add (Int.toNat y1.1*(5:Nat))) fun y5 =>
  .bN 118 [fV y3,fV y5] fun y6 =>
  .bF y6 <|
 .nx 0 [.vI (i64.wrap (y1.1+(1:Int)))]) <|
 .rT
theorem NR x0 x1:aP NP 60 [qL x0,qL x1] (NQ x0 x1) :=aq
def Fp:An:=⟨[(2,[.s 1,.s 5],[.oI,.oI])],[],[]⟩
def tN (x0:ar) (x1:Int):T :=
 .lp [.oI,.oI] [.vI x1,.vI 0] fun y1 =>
 .bd (y1.2.1<(↑x0.n:Int)) (
  .cM 62 [.int .i64 y1.1] fun y2 =>
  .el x0.1 (x0.n) y1.2.1 fun y3 =>
  .st ((y3.add (Int.toNat y1.2.1*(4:Nat))).add (0:Nat)) [.string y2] <|
 .cM 62 [.int .i64 (i64.wrap (y1.1+(1:Int)))] fun y4 =>
  .el x0.1 (x0.n) y1.2.1 fun y5 =>
  .st (((y5.add (Int.toNat y1.2.1*(4:Nat))).add (1:Nat)).add (0:Nat)) [.string y4] <|
 .rZ (3:Int) <|
 .el x0.1 (x0.n) y1.2.1 fun y6 =>
  .st ((((y6.add (Int.toNat y1.2.1*(4:Nat))).add (1:Nat)).add (1:Nat)).add (0:Nat)) [.bool ((i64.wrap (i64.wrap (y1.1+(1:Int))+(1:Int))).tmod (3:Int) == (0:Int))] <|
 .el x0.1 (x0.n) y1.2.1 fun y7 =>
  .Cf ((((y7.add (Int.toNat y1.2.1*(4:Nat))).add (1:Nat)).add (1:Nat)).add (1:Nat)) fun y8 =>
  .eR 63 [qL y8,.int .i64 (i64.wrap (i64.wrap (i64.wrap (y1.1+(1:Int))+(1:Int))+(1:Int)))] fun y9 =>
  .nx 0 [.vI y9,.vI (i64.wrap (y1.2.1+(1:Int)))]) <|
 .ret [.int .i64 y1.1]
theorem Fq x0 x1:aP Fp 61 [qL x0,.int .i64 x1] (tN x0 x1) :=aq
def Iu:An:=⟨[(4,[.s 0,.s 3],[.oI,.oS])],[],[]⟩
def xj (x0:Int):T :=
 .bd (x0<=(0:Int)) (
  .ret [.string ⟨⟨[109,48]⟩⟩]) <|
 .lp [.oI,.oS] [.vI x0,.vS ba] fun y1 =>
 .bd (y1.1 > (0:Int)) (
  .rZ (10:Int) <|
 .fz 1 [.int .u8 (IntKind.u8.wrap (i64.wrap ((48:Int)+Int.tmod y1.1 (10:Int))))] 5 fun b2 c2 =>
  .rd ({ a:=some { block:=b2,off:=(0:Nat):Addr },n:=(1:Nat),c:=c2:ar }) ((1:Nat)) fun y3 =>
  .rq (bytesOf y3≠none) <|
 .rN ((hJ y3).size+ByteArray.size y1.2.1) <|
 .rZ (10:Int) <|
 .nx 0 [.vI (i64.wrap (Int.tdiv y1.1 (10:Int))),.vS (hJ y3++y1.2.1)]) <|
 .rN ((⟨⟨[109]⟩⟩:ByteArray).size+ByteArray.size y1.2.1) <|
 .ret [.string ((⟨⟨[109]⟩⟩:ByteArray)++y1.2.1)]
theorem Iv x0:aP Iu 62 [.int .i64 x0] (xj x0) :=aq
def Iw:An:=⟨[(2,[.s 1,.s 5],[.oI,.oI])],[],[]⟩
def xk (x0:ar) (x1:Int):T :=
 .lp [.oI,.oI] [.vI x1,.vI 0] fun y1 =>
 .bd (y1.2.1<(↑x0.n:Int)) (
  .el x0.1 (x0.n) y1.2.1 fun y2 =>
  .st (y2.add (Int.toNat y1.2.1*(1:Nat))) [.int .i64 y1.1] <|
 .nx 0 [.vI (i64.wrap (y1.1+(1:Int))),.vI (i64.wrap (y1.2.1+(1:Int)))]) <|
 .ret [.int .i64 y1.1]
theorem Ix x0 x1:aP Iw 63 [qL x0,.int .i64 x1] (xk x0 x1) :=aq
def Fs:An:=⟨[(2,[.s 1,.s 5],[.oI,.oI])],[],[]⟩
def tO (x0:ar) (x1:Int):T :=
 .lp [.oI,.oI] [.vI x1,.vI 0] fun y1 =>
 .bd (y1.2.1<(↑x0.n:Int)) (
  .cM 62 [.int .i64 y1.1] fun y2 =>
  .el x0.1 (x0.n) y1.2.1 fun y3 =>
  .st ((y3.add (Int.toNat y1.2.1*(5:Nat))).add (0:Nat)) [.string y2] <|
 .cM 62 [.int .i64 (i64.wrap (y1.1+(1:Int)))] fun y4 =>
  .el x0.1 (x0.n) y1.2.1 fun y5 =>
  .st ((y5.add (Int.toNat y1.2.1*(5:Nat))).add (1:Nat)) [.string y4] <|
 .rZ (3:Int) <|
 .el x0.1 (x0.n) y1.2.1 fun y6 =>
  .st ((((y6.add (Int.toNat y1.2.1*(5:Nat))).add (2:Nat)).add (0:Nat)).add (0:Nat)) [.bool ((i64.wrap (i64.wrap (y1.1+(1:Int))+(1:Int))).tmod (3:Int) == (0:Int))] <|
 .el x0.1 (x0.n) y1.2.1 fun y7 =>
  .Cf ((((y7.add (Int.toNat y1.2.1*(5:Nat))).add (2:Nat)).add (0:Nat)).add (1:Nat)) fun y8 =>
  .eR 63 [qL y8,.int .i64 (i64.wrap (i64.wrap (i64.wrap (y1.1+(1:Int))+(1:Int))+(1:Int)))] fun y9 =>
  .el x0.1 (x0.n) y1.2.1 fun dM =>
  .st (((dM.add (Int.toNat y1.2.1*(5:Nat))).add (2:Nat)).add (2:Nat)) [.int .i64 y9] <|
 .nx 0 [.vI (i64.wrap (y9+(1:Int))),.vI (i64.wrap (y1.2.1+(1:Int)))]) <|
 .ret [.int .i64 y1.1]
theorem Ft x0 x1:aP Fs 64 [qL x0,.int .i64 x1] (tO x0 x1) :=aq
def Fu:An:=⟨[(2,[.s 1,.s 5],[.oI,.oI])],[],[]⟩
def tP (x0:ar) (x1:Int):T :=
 .lp [.oI,.oI] [.vI x1,.vI 0] fun y1 =>
 .bd (y1.2.1<(↑x0.n:Int)) (
  .rg <|
 .el x0.1 (x0.n) y1.2.1 fun y2 =>
  .mQ ((y2.add (Int.toNat y1.2.1*(4:Nat))).add (0:Nat)) fun y3 =>
  .qO 62 [.int .i64 y1.1] fun y4 =>
  .br (!y3.toList == y4.toList) (
   .rM) <|
 .rg <|
 .el x0.1 (x0.n) y1.2.1 fun y5 =>
  .mQ (((y5.add (Int.toNat y1.2.1*(4:Nat))).add (1:Nat)).add (0:Nat)) fun y6 =>
  .qO 62 [.int .i64 (i64.wrap (y1.1+(1:Int)))] fun y7 =>
  .br (!y6.toList == y7.toList) (
   .rM) <|
 .el x0.1 (x0.n) y1.2.1 fun y8 =>
  .ql22 ((((y8.add (Int.toNat y1.2.1*(4:Nat))).add (1:Nat)).add (1:Nat)).add (0:Nat)) fun y9 =>
  .rZ (3:Int) <|
 .br (!y9 == ((i64.wrap (i64.wrap (y1.1+(1:Int))+(1:Int))).tmod (3:Int) == (0:Int))) (
   .rM) <|
 .el x0.1 (x0.n) y1.2.1 fun dM =>
  .Cf ((((dM.add (Int.toNat y1.2.1*(4:Nat))).add (1:Nat)).add (1:Nat)).add (1:Nat)) fun gz =>
  .eR 66 [qL gz,.int .i64 (i64.wrap (i64.wrap (i64.wrap (y1.1+(1:Int))+(1:Int))+(1:Int)))] fun fe =>
  .bd (fe<(0:Int)) (
   .rM) <|
 .nx 0 [.vI fe,.vI (i64.wrap (y1.2.1+(1:Int)))]) <|
 .ret [.int .i64 y1.1]
theorem Fv x0 x1:aP Fu 65 [qL x0,.int .i64 x1] (tP x0 x1) :=aq
def Iy:An:=⟨[(2,[.s 1,.s 5],[.oI,.oI])],[],[]⟩
def xm (x0:ar) (x1:Int):T :=
 .lp [.oI,.oI] [.vI x1,.vI 0] fun y1 =>
 .bd (y1.2.1<(↑x0.n:Int)) (
  .el x0.1 (x0.n) y1.2.1 fun y2 =>
  .dy (y2.add (Int.toNat y1.2.1*(1:Nat))) fun y3 =>
  .br (y3 != y1.1) (
   .rM) <|
 .nx 0 [.vI (i64.wrap (y1.1+(1:Int))),.vI (i64.wrap (y1.2.1+(1:Int)))]) <|
 .ret [.int .i64 y1.1]
theorem Iz x0 x1:aP Iy 66 [qL x0,.int .i64 x1] (xm x0 x1) :=aq
def Fw:An:=⟨[(2,[.s 1,.s 5],[.oI,.oI])],[],[]⟩
def tQ (x0:ar) (x1:Int):T :=
 .lp [.oI,.oI] [.vI x1,.vI 0] fun y1 =>
 .bd (y1.2.1<(↑x0.n:Int)) (
  .rg <|
 .el x0.1 (x0.n) y1.2.1 fun y2 =>
  .mQ ((y2.add (Int.toNat y1.2.1*(5:Nat))).add (0:Nat)) fun y3 =>
  .qO 62 [.int .i64 y1.1] fun y4 =>
  .br (!y3.toList == y4.toList) (
   .rM) <|
 .rg <|
 .el x0.1 (x0.n) y1.2.1 fun y5 =>
  .mQ ((y5.add (Int.toNat y1.2.1*(5:Nat))).add (1:Nat)) fun y6 =>
  .qO 62 [.int .i64 (i64.wrap (y1.1+(1:Int)))] fun y7 =>
  .br (!y6.toList == y7.toList) (
   .rM) <|
 .el x0.1 (x0.n) y1.2.1 fun y8 =>
  .ql22 ((((y8.add (Int.toNat y1.2.1*(5:Nat))).add (2:Nat)).add (0:Nat)).add (0:Nat)) fun y9 =>
  .rZ (3:Int) <|
 .br (!y9 == ((i64.wrap (i64.wrap (y1.1+(1:Int))+(1:Int))).tmod (3:Int) == (0:Int))) (
   .rM) <|
 .el x0.1 (x0.n) y1.2.1 fun dM =>
  .Cf ((((dM.add (Int.toNat y1.2.1*(5:Nat))).add (2:Nat)).add (0:Nat)).add (1:Nat)) fun gz =>
  .eR 66 [qL gz,.int .i64 (i64.wrap (i64.wrap (i64.wrap (y1.1+(1:Int))+(1:Int))+(1:Int)))] fun fe =>
  .bd (fe<(0:Int)) (
   .rM) <|
 .el x0.1 (x0.n) y1.2.1 fun MU =>
  .dy (((MU.add (Int.toNat y1.2.1*(5:Nat))).add (2:Nat)).add (2:Nat)) fun y14 =>
  .br (y14 != fe) (
   .rM) <|
 .nx 0 [.vI (i64.wrap (fe+(1:Int))),.vI (i64.wrap (y1.2.1+(1:Int)))]) <|
 .ret [.int .i64 y1.1]
theorem Fx x0 x1:aP Fw 67 [qL x0,.int .i64 x1] (tQ x0 x1) :=aq
def CU (x0:qy9) (x1:Int):T :=
 .bd (i64.wrap (x1-(↑(ByteArray.size x0.1):Int))<(0:Int)) (
  .rM) <|
 .eR 119 [ct x0.2,.int .i64 (i64.wrap (x1-(↑(ByteArray.size x0.1):Int)))] fun y1 =>
 .bd (y1<(0:Int)) (
  .rM) <|
 .ret [.int .i64 y1]
theorem Tm x0 x1:aP bX 68 [WO x0,.int .i64 x1] (CU x0 x1) :=aq
def IA (x0:WQ) (x1:Int):T :=
 .eR 120 [cV (x0.1,x0.2.1,()),.int .i64 x1] fun y1 =>
 .bd (y1<(0:Int)) (
  .rM) <|
 .eR 121 [qL x0.2.2.1,.int .i64 y1] fun y2 =>
 .bd (y2<(0:Int)) (
  .rM) <|
 .ret [.int .i64 y2]
theorem X1 x0 x1:aP bX 69 [lS x0,.int .i64 x1] (IA x0 x1) :=aq
def CV (x0:MS) (x1:Int):T :=
 .bd (i64.wrap (x1-(↑(ByteArray.size x0.1):Int))<(0:Int)) (
  .rM) <|
 .bd (i64.wrap (i64.wrap (x1-(↑(ByteArray.size x0.1):Int))-(↑(ByteArray.size x0.2.1):Int))<(0:Int)) (
  .rM) <|
 .eR 122 [cA x0.2.2,.int .i64 (i64.wrap (i64.wrap (x1-(↑(ByteArray.size x0.1):Int))-(↑(ByteArray.size x0.2.1):Int)))] fun y1 =>
 .bd (y1<(0:Int)) (
  .rM) <|
 .ret [.int .i64 y1]
theorem Tn x0 x1:aP bX 70 [fV x0,.int .i64 x1] (CV x0 x1) :=aq
def NS:An:=⟨[(2,[.s 7,.c 2 0,.c 2 1,.c 2 2,.c 2 3],[.oI,.oS,.oS,.oI,.oI])],[],[]⟩
def zR (x0:ByteArray):T :=
 .jl 123 [] fun y1 =>
 .lp [.oI,.oS,.oS,.oI,.oI] [.vI 0,.vS ba,.vS ba,.vI 0,.vI 0] fun y2 =>
 .bd (y2.1<(↑y1.n:Int)) (
  .el y1.1 (y1.n) y2.1 fun y3 =>
  .ql38 (y3.add (Int.toNat y2.1*(4:Nat))) fun y4 =>
  .br (ByteArray.toList y4.1 == x0.toList) (
   .ret [SR y4]) <|
 .nx 0 [.vI (i64.wrap (y2.1+(1:Int))),.vS y2.2.1,.vS y2.2.2.1,.vI y2.2.2.2.1,.vI y2.2.2.2.2.1]) <|
 .ret [SR (ba,ba,(((0:Int)):Int),(((0:Int)):Int),())]
theorem NT x0:aP NS 71 [.string x0] (zR x0) :=aq
def CW (x0:ByteArray):T :=
 .bN 124 [.string x0,.int .u8 ((97:Int)),.int .u8 ((122:Int)),.int .u8 ((48:Int)),.int .u8 ((57:Int))] fun y1 =>
 .br y1 (
  .bd ((↑x0.size:Int)<=(12:Int)) (
   .rI (0:Int) (↑x0.size:Int) <|
 .ret [.bool (decide (de x0 (Int.toNat (0:Int))>=(97:Int)))]) <|
 .rF) <|
 .rF
theorem To x0:aP bX 72 [.string x0] (CW x0) :=aq
def zS (x0:vr):T :=
 .bN 37 [.string x0.1] fun y1 =>
 .br y1 (
  .bN 125 [cV x0.2] fun y2 =>
  .br y2 (
   .ret [.bool (decide ((↑x0.2.2.1.n:Int)<=(4:Int)))]) <|
 .rF) <|
 .rF
theorem NU x0:aP bX 73 [ct x0] (zS x0) :=aq
def IB (x0:WQ):T :=
 .bN 125 [cV (x0.1,x0.2.1,())] fun y1 =>
 .bF y1 <|
 .bN 126 [qL x0.2.2.1] fun y2 =>
 .bF y2 <|
 .br ((↑x0.2.2.1.n:Int) == (0:Int)) (
  .rF) <|
 .bd ((↑x0.2.2.1.n:Int) > (18:Int)) (
  .rF) <|
 .bd ((↑x0.2.1.n:Int) > (18:Int)) (
  .rF) <|
 .jl 128 [qL x0.2.1,qL x0.2.2.1] fun y3 =>
 .fz 1 [.int .i64 1] 3 fun b4 c4 =>
 .eR 127 [qL y3,.slice (qA b4) 1 c4] fun y5 =>
 .ret [.bool (y5 == (0:Int))]
theorem X2 x0:aP bX 74 [lS x0] (IB x0) :=aq
def zT (x0:WQ):T :=
 .rg <|
 .qc39 130 [] fun y1 =>
 .eR 129 [lS x0,lS y1] fun y2 =>
 .ret [.int .i64 y2]
theorem NV x0:aP bX 75 [lS x0] (zT x0) :=aq
def CX (x0:MS):T :=
 .bN 37 [.string x0.1] fun y1 =>
 .br y1 (
  .bN 37 [.string x0.2.1] fun y2 =>
  .br y2 (
   .br (!ByteArray.toList x0.1 == ByteArray.toList x0.2.1) (
    .bN 131 [cA x0.2.2] fun y3 =>
    .br y3 (
     .eR 44 [cV (x0.2.2.1,x0.2.2.2.1,())] fun y4 =>
     .bd (y4 > (0:Int)) (
      .ret [.bool (decide ((↑x0.2.2.2.1.n:Int)<=(2:Int)))]) <|
 .rF) <|
 .rF) <|
 .rF) <|
 .rF) <|
 .rF
theorem Tp x0:aP bX 76 [fV x0] (CX x0) :=aq
def X3:An:=⟨[(2,[.s 11],[.oI])],[],[]⟩
def IC (x0:ar) (x1:ByteArray) (x2:ByteArray):T :=
 .lp [.oI] [.vI 0] fun y1 =>
 .bd (y1.1<(↑x0.n:Int)) (
  .el x0.1 (x0.n) y1.1 fun y2 =>
  .zA (y2.add (Int.toNat y1.1*(5:Nat))) fun y3 =>
  .br (ByteArray.toList y3.1 == x1.toList) (
   .br (ByteArray.toList y3.2.1 == x2.toList) (
    .ret [.int .i64 y1.1]) <|
 .nx 0 [.vI (i64.wrap (y1.1+(1:Int)))]) <|
 .nx 0 [.vI (i64.wrap (y1.1+(1:Int)))]) <|
 .rM
theorem X4 x0 x1 x2:aP X3 77 [qL x0,.string x1,.string x2] (IC x0 x1 x2) :=aq
def NW:An:=⟨[(3,[.s 10,.c 3 0],[.oI,.oL])],[],[]⟩
def zU (x0:Ho):T :=
 .lp [.oI,.oL] [.vI 0,.v (.slice none 0 0)] fun y1 =>
 .bd (y1.1<(↑x0.1.n:Int)) (
  .el x0.1.1 (x0.1.n) y1.1 fun y2 =>
  .vO (y2.add (Int.toNat y1.1*(4:Nat))) fun y3 =>
  .rg <|
 .qc16 132 [ct y3.2] fun y4 =>
  .rL [Value.string y3.1,Value.string y4.1,Value.bool y4.2.1,Value.slice y4.2.2.1.1 y4.2.2.1.n y4.2.2.1.c] 1 4 <|
 .rq (one [Value.string y3.1,Value.string y4.1,Value.bool y4.2.1,Value.slice y4.2.2.1.1 y4.2.2.1.n y4.2.2.1.c]=true) <|
 .ap ({ a:=y1.2.1.1,n:=y1.2.1.n,c:=y1.2.1.c:ar }) 4 64 [.string y3.1,.string y4.1,.bool y4.2.1,qL y4.2.2.1] ((1:Nat)) 93 fun y5 =>
  .nx 0 [.vI (i64.wrap (y1.1+(1:Int))),.vL y5]) <|
 .ret [dJ y1.2]
theorem NX x0:aP NW 78 [dJ x0] (zU x0) :=aq
def NY:An:=⟨[(3,[.s 3,.s 9],[.oL,.oI])],[],[]⟩
def zV (x0:ar):T :=
 .fz 0 [] 100 fun b1 c1 =>
 .lp [.oL,.oI] [.v (.slice (qA b1) 0 c1),.vI 0] fun y2 =>
 .bd (y2.2.1<(↑x0.n:Int)) (
  .el x0.1 (x0.n) y2.2.1 fun y3 =>
  .SZ (y3.add (Int.toNat y2.2.1*(4:Nat))) fun y4 =>
  .rg <|
 .qc39 133 [lS y4.2] fun y5 =>
  .rL [Value.string y4.1,Value.bool y5.1,Value.slice y5.2.1.1 y5.2.1.n y5.2.1.c,Value.slice y5.2.2.1.1 y5.2.2.1.n y5.2.2.1.c] 1 4 <|
 .rq (one [Value.string y4.1,Value.bool y5.1,Value.slice y5.2.1.1 y5.2.1.n y5.2.1.c,Value.slice y5.2.2.1.1 y5.2.2.1.n y5.2.2.1.c]=true) <|
 .ap ({ a:=y2.1.1,n:=y2.1.n,c:=y2.1.c:ar }) 4 72 [.string y4.1,.bool y5.1,qL y5.2.1,qL y5.2.2.1] ((1:Nat)) 100 fun y6 =>
  .nx 0 [.vL y6,.vI (i64.wrap (y2.2.1+(1:Int)))]) <|
 .ret [qL y2.1]
theorem NZ x0:aP NY 79 [qL x0] (zV x0) :=aq
def ID:An:=⟨[(3,[.s 12,.c 3 0,.c 3 1],[.oI,.oS,.oL])],[],[]⟩
def IE (x0:SS):T :=
 .lp [.oI,.oS,.oL] [.vI 0,.vS x0.1,.v (.slice none 0 0)] fun y1 =>
 .bd (y1.1<(↑x0.2.1.n:Int)) (
  .el x0.2.1.1 (x0.2.1.n) y1.1 fun y2 =>
  .zA (y2.add (Int.toNat y1.1*(5:Nat))) fun y3 =>
  .rg <|
 .es [] 3 fun b4 =>
  .ra ({ a:=y3.2.2.2.1.1,n:=y3.2.2.2.1.n,c:=y3.2.2.2.1.c:ar }) ((1:Nat)) fun y5 =>
  .rq (one y5=true/\y3.2.2.2.1.n*(8:Nat)<=(140737488355328:Nat)/\y3.2.2.2.1.n<=(9223372036854775807:Nat)) <|
 .bd (y3.2.2.2.1.n=(0:Nat)) (
   .rL [Value.string y3.1,Value.string y3.2.1,Value.bool y3.2.2.1,Value.slice (qA b4) (0:Nat) (0:Nat),Value.int IntKind.i64 y3.2.2.2.2.1] 1 5 <|
 .rq (one [Value.string y3.1,Value.string y3.2.1,Value.bool y3.2.2.1,Value.slice (qA b4) (0:Nat) (0:Nat),Value.int IntKind.i64 y3.2.2.2.2.1]=true) <|
 .ap ({ a:=y1.2.2.1.1,n:=y1.2.2.1.n,c:=y1.2.2.1.c:ar }) 5 72 [.string y3.1,.string y3.2.1,.bool y3.2.2.1,.slice (qA b4) ((0:Nat)) ((0:Nat)),.int .i64 y3.2.2.2.2.1] ((1:Nat)) 86 fun y6 =>
   .nx 0 [.vI (i64.wrap (y1.1+(1:Int))),.vS y1.2.1,.vL y6]) <|
 .fz (y3.2.2.2.1.n) y5 3 fun b6 c6 =>
  .rL [Value.string y3.1,Value.string y3.2.1,Value.bool y3.2.2.1,Value.slice (qA b6) y3.2.2.2.1.n c6,Value.int IntKind.i64 y3.2.2.2.2.1] 1 5 <|
 .rq (one [Value.string y3.1,Value.string y3.2.1,Value.bool y3.2.2.1,Value.slice (qA b6) y3.2.2.2.1.n c6,Value.int IntKind.i64 y3.2.2.2.2.1]=true) <|
 .ap ({ a:=y1.2.2.1.1,n:=y1.2.2.1.n,c:=y1.2.2.1.c:ar }) 5 72 [.string y3.1,.string y3.2.1,.bool y3.2.2.1,.slice (qA b6) (y3.2.2.2.1.n) (c6),.int .i64 y3.2.2.2.2.1] ((1:Nat)) 86 fun y7 =>
  .nx 0 [.vI (i64.wrap (y1.1+(1:Int))),.vS y1.2.1,.vL y7]) <|
 .ret [iK y1.2]
theorem IF x0:aP ID 80 [iK x0] (IE x0) :=aq
def N0:An:=⟨[(22,[.s 115,.c 6 0,.c 6 1,.c 6 2,.c 6 3,.c 6 4,.c 6 5,.c 6 6,.c 6 7,.c 6 8,.c 6 9,.c 6 10,.c 6 11,.c 6 12,.c 6 13,.c 6 14,.c 6 15,.c 6 16,.c 6 17,.c 6 18],[.oI,.oI,.oS,.oS,.oS,.oS,.oS,.oB,.oL,.oI,.oL,.oL,.oB,.oL,.oI,.oS,.oS,.oB,.oL,.oI])],[(7,[.s 5,.c 6 0,.c 6 1,.c 6 2,.c 6 3,.c 6 4,.c 6 5,.c 6 6,.c 6 7,.c 6 8,.c 6 9,.c 6 10,.c 6 11,.c 6 12,.c 6 13,.c 6 14,.c 6 15,.c 6 16,.c 6 17,.c 6 18],[.oL,.oI,.oS,.oS,.oS,.oS,.oS,.oB,.oL,.oI,.oL,.oL,.oB,.oL,.oI,.oS,.oS,.oB,.oL,.oI]),(9,[.s 5,.c 6 0,.c 6 1,.c 6 2,.c 6 3,.c 6 4,.c 6 5,.c 6 6,.c 6 7,.c 6 8,.c 6 9,.c 6 10,.c 6 11,.c 6 12,.c 6 13,.c 6 14,.c 6 15,.c 6 16,.c 6 17,.c 6 18],[.oL,.oI,.oS,.oS,.oS,.oS,.oS,.oB,.oL,.oI,.oL,.oL,.oB,.oL,.oI,.oS,.oS,.oB,.oL,.oI]),(11,[.s 5,.c 6 0,.c 6 1,.c 6 2,.c 6 3,.c 6 4,.c 6 5,.c 6 6,.c 6 7,.c 6 8,.c 6 9,.c 6 10,.c 6 11,.c 6 12,.c 6 13,.c 6 14,.c 6 15,.c 6 16,.c 6 17,.c 6 18],[.oL,.oI,.oS,.oS,.oS,.oS,.oS,.oB,.oL,.oI,.oL,.oL,.oB,.oL,.oI,.oS,.oS,.oB,.oL,.oI]),(13,[.s 5,.c 6 0,.c 6 1,.c 6 2,.c 6 3,.c 6 4,.c 6 5,.c 6 6,.c 6 7,.c 6 8,.c 6 9,.c 6 10,.c 6 11,.c 6 12,.c 6 13,.c 6 14,.c 6 15,.c 6 16,.c 6 17,.c 6 18],[.oL,.oI,.oS,.oS,.oS,.oS,.oS,.oB,.oL,.oI,.oL,.oL,.oB,.oL,.oI,.oS,.oS,.oB,.oL,.oI]),(18,[.s 5,.c 6 0,.c 6 1,.c 6 2,.c 6 3,.c 6 4,.c 6 5,.c 6 6,.c 6 7,.c 6 8,.c 6 9,.c 6 10,.c 6 11,.c 6 12,.c 6 13,.c 6 14,.c 6 15,.c 6 16,.c 6 17,.c 6 18],[.oL,.oI,.oS,.oS,.oS,.oS,.oS,.oB,.oL,.oI,.oL,.oL,.oB,.oL,.oI,.oS,.oS,.oB,.oL,.oI]),(29,[.s 5,.c 6 0,.c 6 1,.c 6 2,.c 6 3,.c 6 4,.c 6 5,.c 6 6,.c 6 7,.c 6 8,.c 6 9,.c 6 10,.c 6 11,.c 6 12,.c 6 13,.c 6 14,.c 6 15,.c 6 16,.c 6 17,.c 6 18],[.oL,.oI,.oS,.oS,.oS,.oS,.oS,.oB,.oL,.oI,.oL,.oL,.oB,.oL,.oI,.oS,.oS,.oB,.oL,.oI]),(33,[.s 5,.c 6 0,.c 6 1,.c 6 2,.c 6 3,.c 6 4,.c 6 5,.c 6 6,.c 6 7,.c 6 8,.c 6 9,.c 6 10,.c 6 11,.c 6 12,.c 6 13,.c 6 14,.c 6 15,.c 6 16,.c 6 17,.c 6 18],[.oL,.oI,.oS,.oS,.oS,.oS,.oS,.oB,.oL,.oI,.oL,.oL,.oB,.oL,.oI,.oS,.oS,.oB,.oL,.oI]),(36,[.c 6 0,.c 6 1,.c 6 2,.c 6 3,.c 6 4,.c 6 5,.c 6 6,.c 6 7,.c 6 8,.c 6 9,.c 6 10,.c 6 11,.c 6 12,.c 6 13,.c 6 14,.c 6 15,.c 6 16,.c 6 17,.c 6 18],[.oI,.oS,.oS,.oS,.oS,.oS,.oB,.oL,.oI,.oL,.oL,.oB,.oL,.oI,.oS,.oS,.oB,.oL,.oI])],[]⟩
def zW (x0:ByteArray):T :=
 .jl 135 [.string x0] fun y1 =>
 .Cg 134 [qL y1] fun y2 =>
 .eR 136 [.string y2.1] fun y3 =>
 .qc29 85 [.int .i64 y3] fun y4 =>
 .jn [.oL,.oI,.oS,.oS,.oS,.oS,.oS,.oB,.oL,.oI,.oL,.oL,.oB,.oL,.oI,.oS,.oS,.oB,.oL,.oI] (fun y5 =>
  .jn [.oL,.oI,.oS,.oS,.oS,.oS,.oS,.oB,.oL,.oI,.oL,.oL,.oB,.oL,.oI,.oS,.oS,.oB,.oL,.oI] (fun y6 =>
   .jn [.oL,.oI,.oS,.oS,.oS,.oS,.oS,.oB,.oL,.oI,.oL,.oL,.oB,.oL,.oI,.oS,.oS,.oB,.oL,.oI] (fun y7 =>
    .jn [.oL,.oI,.oS,.oS,.oS,.oS,.oS,.oB,.oL,.oI,.oL,.oL,.oB,.oL,.oI,.oS,.oS,.oB,.oL,.oI] (fun y8 =>
     .jn [.oL,.oI,.oS,.oS,.oS,.oS,.oS,.oB,.oL,.oI,.oL,.oL,.oB,.oL,.oI,.oS,.oS,.oB,.oL,.oI] (fun y9 =>
      .jn [.oL,.oI,.oS,.oS,.oS,.oS,.oS,.oB,.oL,.oI,.oL,.oL,.oB,.oL,.oI,.oS,.oS,.oB,.oL,.oI] (fun dM =>
       .jn [.oL,.oI,.oS,.oS,.oS,.oS,.oS,.oB,.oL,.oI,.oL,.oL,.oB,.oL,.oI,.oS,.oS,.oB,.oL,.oI] (fun gz =>
        .jn [.oI,.oS,.oS,.oS,.oS,.oS,.oB,.oL,.oI,.oL,.oL,.oB,.oL,.oI,.oS,.oS,.oB,.oL,.oI] (fun fe =>
         .bN 84 [l8 fe] fun MU =>
         .bn MU (.ret [l8 ((((0:Int)):Int),ba,ba,ba,ba,ba,(false),ai,(((0:Int)):Int),ai,ai,(false),ai,(((0:Int)):Int),ba,ba,(false),ai,(((0:Int)):Int),()),.bool (false)]) <|
 .cM 43 [l8 fe] fun y14 =>
         .br (!y14.toList == x0.toList) (
          .ret [l8 ((((0:Int)):Int),ba,ba,ba,ba,ba,(false),ai,(((0:Int)):Int),ai,ai,(false),ai,(((0:Int)):Int),ba,ba,(false),ai,(((0:Int)):Int),()),.bool (false)]) <|
 .ret [l8 fe,.bool (true)]) <|
 .br y4.2.2.2.1 (
         .Cg 134 [qL gz.1] fun fe =>
         .qc41 142 [.string fe.1] fun MU =>
         .nx 7 [.vI gz.2.1,.vS gz.2.2.1,.vS gz.2.2.2.1,.vS gz.2.2.2.2.1,.vS gz.2.2.2.2.2.1,.vS gz.2.2.2.2.2.2.1,.v (.bool gz.2.2.2.2.2.2.2.1),.vL gz.2.2.2.2.2.2.2.2.1,.vI MU.1,.vL gz.2.2.2.2.2.2.2.2.2.2.1,.vL gz.2.2.2.2.2.2.2.2.2.2.2.1,.v (.bool gz.2.2.2.2.2.2.2.2.2.2.2.2.1),.vL gz.2.2.2.2.2.2.2.2.2.2.2.2.2.1,.vI gz.2.2.2.2.2.2.2.2.2.2.2.2.2.2.1,.vS gz.2.2.2.2.2.2.2.2.2.2.2.2.2.2.2.1,.vS gz.2.2.2.2.2.2.2.2.2.2.2.2.2.2.2.2.1,.v (.bool gz.2.2.2.2.2.2.2.2.2.2.2.2.2.2.2.2.2.1),.vL gz.2.2.2.2.2.2.2.2.2.2.2.2.2.2.2.2.2.2.1,.vI gz.2.2.2.2.2.2.2.2.2.2.2.2.2.2.2.2.2.2.2.1]) <|
 .nx 7 [.vI gz.2.1,.vS gz.2.2.1,.vS gz.2.2.2.1,.vS gz.2.2.2.2.1,.vS gz.2.2.2.2.2.1,.vS gz.2.2.2.2.2.2.1,.v (.bool gz.2.2.2.2.2.2.2.1),.vL gz.2.2.2.2.2.2.2.2.1,.vI gz.2.2.2.2.2.2.2.2.2.1,.vL gz.2.2.2.2.2.2.2.2.2.2.1,.vL gz.2.2.2.2.2.2.2.2.2.2.2.1,.v (.bool gz.2.2.2.2.2.2.2.2.2.2.2.2.1),.vL gz.2.2.2.2.2.2.2.2.2.2.2.2.2.1,.vI gz.2.2.2.2.2.2.2.2.2.2.2.2.2.2.1,.vS gz.2.2.2.2.2.2.2.2.2.2.2.2.2.2.2.1,.vS gz.2.2.2.2.2.2.2.2.2.2.2.2.2.2.2.2.1,.v (.bool gz.2.2.2.2.2.2.2.2.2.2.2.2.2.2.2.2.2.1),.vL gz.2.2.2.2.2.2.2.2.2.2.2.2.2.2.2.2.2.2.1,.vI gz.2.2.2.2.2.2.2.2.2.2.2.2.2.2.2.2.2.2.2.1]) <|
 .br y4.2.1 (
        .Cg 134 [qL dM.1] fun gz =>
        .Ch 141 [.string gz.1] fun fe =>
        .nx 6 [.vL gz.2.1,.vI dM.2.1,.vS dM.2.2.1,.vS dM.2.2.2.1,.vS dM.2.2.2.2.1,.vS dM.2.2.2.2.2.1,.vS dM.2.2.2.2.2.2.1,.v (.bool dM.2.2.2.2.2.2.2.1),.vL dM.2.2.2.2.2.2.2.2.1,.vI dM.2.2.2.2.2.2.2.2.2.1,.vL dM.2.2.2.2.2.2.2.2.2.2.1,.vL dM.2.2.2.2.2.2.2.2.2.2.2.1,.v (.bool fe.1.1),.vL fe.1.2.1,.vI fe.1.2.2.1,.vS dM.2.2.2.2.2.2.2.2.2.2.2.2.2.2.2.1,.vS dM.2.2.2.2.2.2.2.2.2.2.2.2.2.2.2.2.1,.v (.bool dM.2.2.2.2.2.2.2.2.2.2.2.2.2.2.2.2.2.1),.vL dM.2.2.2.2.2.2.2.2.2.2.2.2.2.2.2.2.2.2.1,.vI dM.2.2.2.2.2.2.2.2.2.2.2.2.2.2.2.2.2.2.2.1]) <|
 .nx 6 [.vL dM.1,.vI dM.2.1,.vS dM.2.2.1,.vS dM.2.2.2.1,.vS dM.2.2.2.2.1,.vS dM.2.2.2.2.2.1,.vS dM.2.2.2.2.2.2.1,.v (.bool dM.2.2.2.2.2.2.2.1),.vL dM.2.2.2.2.2.2.2.2.1,.vI dM.2.2.2.2.2.2.2.2.2.1,.vL dM.2.2.2.2.2.2.2.2.2.2.1,.vL dM.2.2.2.2.2.2.2.2.2.2.2.1,.v (.bool dM.2.2.2.2.2.2.2.2.2.2.2.2.1),.vL dM.2.2.2.2.2.2.2.2.2.2.2.2.2.1,.vI dM.2.2.2.2.2.2.2.2.2.2.2.2.2.2.1,.vS dM.2.2.2.2.2.2.2.2.2.2.2.2.2.2.2.1,.vS dM.2.2.2.2.2.2.2.2.2.2.2.2.2.2.2.2.1,.v (.bool dM.2.2.2.2.2.2.2.2.2.2.2.2.2.2.2.2.2.1),.vL dM.2.2.2.2.2.2.2.2.2.2.2.2.2.2.2.2.2.2.1,.vI dM.2.2.2.2.2.2.2.2.2.2.2.2.2.2.2.2.2.2.2.1]) <|
 .br (y9.2.1 == (6:Int)) (
       .Cg 134 [qL y9.1] fun dM =>
       .jl 139 [.string dM.1,.string ⟨⟨[44]⟩⟩] fun gz =>
       .lp [.oI,.oI,.oS,.oS,.oS,.oS,.oS,.oB,.oL,.oI,.oL,.oL,.oB,.oL,.oI,.oS,.oS,.oB,.oL,.oI] [.vI 0,.vI y9.2.1,.vS y9.2.2.1,.vS y9.2.2.2.1,.vS y9.2.2.2.2.1,.vS y9.2.2.2.2.2.1,.vS y9.2.2.2.2.2.2.1,.v (.bool y9.2.2.2.2.2.2.2.1),.vL y9.2.2.2.2.2.2.2.2.1,.vI y9.2.2.2.2.2.2.2.2.2.1,.vL y9.2.2.2.2.2.2.2.2.2.2.1,.vL y9.2.2.2.2.2.2.2.2.2.2.2.1,.v (.bool y9.2.2.2.2.2.2.2.2.2.2.2.2.1),.vL y9.2.2.2.2.2.2.2.2.2.2.2.2.2.1,.vI y9.2.2.2.2.2.2.2.2.2.2.2.2.2.2.1,.vS y9.2.2.2.2.2.2.2.2.2.2.2.2.2.2.2.1,.vS y9.2.2.2.2.2.2.2.2.2.2.2.2.2.2.2.2.1,.v (.bool y9.2.2.2.2.2.2.2.2.2.2.2.2.2.2.2.2.2.1),.vL y9.2.2.2.2.2.2.2.2.2.2.2.2.2.2.2.2.2.2.1,.vI y9.2.2.2.2.2.2.2.2.2.2.2.2.2.2.2.2.2.2.2.1] fun fe =>
       .bd (fe.1<(↑gz.n:Int)) (
        .el gz.1 (gz.n) fe.1 fun MU =>
        .iy (MU.add (Int.toNat fe.1*(1:Nat))) fun y14 =>
        .jl 139 [.string y14,.string ⟨⟨[58]⟩⟩] fun y15 =>
        .rL [Value.string ba] 1 1 <|
 .rq (one [Value.string ba]=true) <|
 .ap ({ a:=y15.1,n:=y15.n,c:=y15.c:ar }) 1 16 [.string ba] ((1:Nat)) 9 fun XY =>
        .el XY.1 (XY.n) ((1:Int)) fun y17 =>
        .iy (y17.add (Int.toNat (1:Int)*(1:Nat))) fun y18 =>
        .qc41 140 [.string y18] fun y19 =>
        .rg <|
 .el XY.1 (XY.n) ((0:Int)) fun y20 =>
        .mQ (y20.add (Int.toNat (0:Int)*(1:Nat))) fun y21 =>
        .rL [Value.string y21] 1 1 <|
 .rq (one [Value.string y21]=true) <|
 .ap ({ a:=fe.2.2.2.2.2.2.2.2.2.2.1.1,n:=fe.2.2.2.2.2.2.2.2.2.2.1.n,c:=fe.2.2.2.2.2.2.2.2.2.2.1.c:ar }) 1 16 [.string y21] ((1:Nat)) 9 fun y22 =>
        .rL [Value.int IntKind.i64 y19.1] 1 1 <|
 .rq (one [Value.int IntKind.i64 y19.1]=true) <|
 .ap ({ a:=fe.2.2.2.2.2.2.2.2.2.2.2.1.1,n:=fe.2.2.2.2.2.2.2.2.2.2.2.1.n,c:=fe.2.2.2.2.2.2.2.2.2.2.2.1.c:ar }) 1 8 [.int .i64 y19.1] ((1:Nat)) 3 fun y23 =>
        .nx 6 [.vI (i64.wrap (fe.1+(1:Int))),.vI fe.2.1,.vS fe.2.2.1,.vS fe.2.2.2.1,.vS fe.2.2.2.2.1,.vS fe.2.2.2.2.2.1,.vS fe.2.2.2.2.2.2.1,.v (.bool fe.2.2.2.2.2.2.2.1),.vL fe.2.2.2.2.2.2.2.2.1,.vI fe.2.2.2.2.2.2.2.2.2.1,.vL y22,.vL y23,.v (.bool fe.2.2.2.2.2.2.2.2.2.2.2.2.1),.vL fe.2.2.2.2.2.2.2.2.2.2.2.2.2.1,.vI fe.2.2.2.2.2.2.2.2.2.2.2.2.2.2.1,.vS fe.2.2.2.2.2.2.2.2.2.2.2.2.2.2.2.1,.vS fe.2.2.2.2.2.2.2.2.2.2.2.2.2.2.2.2.1,.v (.bool fe.2.2.2.2.2.2.2.2.2.2.2.2.2.2.2.2.2.1),.vL fe.2.2.2.2.2.2.2.2.2.2.2.2.2.2.2.2.2.2.1,.vI fe.2.2.2.2.2.2.2.2.2.2.2.2.2.2.2.2.2.2.2.1]) <|
 .nx 5 [.vL dM.2.1,.vI fe.2.1,.vS fe.2.2.1,.vS fe.2.2.2.1,.vS fe.2.2.2.2.1,.vS fe.2.2.2.2.2.1,.vS fe.2.2.2.2.2.2.1,.v (.bool fe.2.2.2.2.2.2.2.1),.vL fe.2.2.2.2.2.2.2.2.1,.vI fe.2.2.2.2.2.2.2.2.2.1,.vL fe.2.2.2.2.2.2.2.2.2.2.1,.vL fe.2.2.2.2.2.2.2.2.2.2.2.1,.v (.bool fe.2.2.2.2.2.2.2.2.2.2.2.2.1),.vL fe.2.2.2.2.2.2.2.2.2.2.2.2.2.1,.vI fe.2.2.2.2.2.2.2.2.2.2.2.2.2.2.1,.vS fe.2.2.2.2.2.2.2.2.2.2.2.2.2.2.2.1,.vS fe.2.2.2.2.2.2.2.2.2.2.2.2.2.2.2.2.1,.v (.bool fe.2.2.2.2.2.2.2.2.2.2.2.2.2.2.2.2.2.1),.vL fe.2.2.2.2.2.2.2.2.2.2.2.2.2.2.2.2.2.2.1,.vI fe.2.2.2.2.2.2.2.2.2.2.2.2.2.2.2.2.2.2.2.1]) <|
 .nx 5 [.vL y9.1,.vI y9.2.1,.vS y9.2.2.1,.vS y9.2.2.2.1,.vS y9.2.2.2.2.1,.vS y9.2.2.2.2.2.1,.vS y9.2.2.2.2.2.2.1,.v (.bool y9.2.2.2.2.2.2.2.1),.vL y9.2.2.2.2.2.2.2.2.1,.vI y9.2.2.2.2.2.2.2.2.2.1,.vL y9.2.2.2.2.2.2.2.2.2.2.1,.vL y9.2.2.2.2.2.2.2.2.2.2.2.1,.v (.bool y9.2.2.2.2.2.2.2.2.2.2.2.2.1),.vL y9.2.2.2.2.2.2.2.2.2.2.2.2.2.1,.vI y9.2.2.2.2.2.2.2.2.2.2.2.2.2.2.1,.vS y9.2.2.2.2.2.2.2.2.2.2.2.2.2.2.2.1,.vS y9.2.2.2.2.2.2.2.2.2.2.2.2.2.2.2.2.1,.v (.bool y9.2.2.2.2.2.2.2.2.2.2.2.2.2.2.2.2.2.1),.vL y9.2.2.2.2.2.2.2.2.2.2.2.2.2.2.2.2.2.2.1,.vI y9.2.2.2.2.2.2.2.2.2.2.2.2.2.2.2.2.2.2.2.1]) <|
 .br y4.2.2.1 (
      .Cg 134 [qL y8.1] fun y9 =>
      .Cg 134 [qL y9.2.1] fun dM =>
      .rN (ByteArray.size y9.1+(⟨⟨[32]⟩⟩:ByteArray).size) <|
 .rN ((y9.1++(⟨⟨[32]⟩⟩:ByteArray)).size+ByteArray.size dM.1) <|
 .Ii 138 [.string (y9.1++(⟨⟨[32]⟩⟩:ByteArray)++dM.1)] fun gz =>
      .nx 4 [.vL dM.2.1,.vI y8.2.1,.vS y8.2.2.1,.vS y8.2.2.2.1,.vS y8.2.2.2.2.1,.vS y8.2.2.2.2.2.1,.vS gz.1.1,.v (.bool gz.1.2.1),.vL gz.1.2.2.1,.vI y8.2.2.2.2.2.2.2.2.2.1,.vL y8.2.2.2.2.2.2.2.2.2.2.1,.vL y8.2.2.2.2.2.2.2.2.2.2.2.1,.v (.bool y8.2.2.2.2.2.2.2.2.2.2.2.2.1),.vL y8.2.2.2.2.2.2.2.2.2.2.2.2.2.1,.vI y8.2.2.2.2.2.2.2.2.2.2.2.2.2.2.1,.vS y8.2.2.2.2.2.2.2.2.2.2.2.2.2.2.2.1,.vS y8.2.2.2.2.2.2.2.2.2.2.2.2.2.2.2.2.1,.v (.bool y8.2.2.2.2.2.2.2.2.2.2.2.2.2.2.2.2.2.1),.vL y8.2.2.2.2.2.2.2.2.2.2.2.2.2.2.2.2.2.2.1,.vI y8.2.2.2.2.2.2.2.2.2.2.2.2.2.2.2.2.2.2.2.1]) <|
 .nx 4 [.vL y8.1,.vI y8.2.1,.vS y8.2.2.1,.vS y8.2.2.2.1,.vS y8.2.2.2.2.1,.vS y8.2.2.2.2.2.1,.vS y8.2.2.2.2.2.2.1,.v (.bool y8.2.2.2.2.2.2.2.1),.vL y8.2.2.2.2.2.2.2.2.1,.vI y8.2.2.2.2.2.2.2.2.2.1,.vL y8.2.2.2.2.2.2.2.2.2.2.1,.vL y8.2.2.2.2.2.2.2.2.2.2.2.1,.v (.bool y8.2.2.2.2.2.2.2.2.2.2.2.2.1),.vL y8.2.2.2.2.2.2.2.2.2.2.2.2.2.1,.vI y8.2.2.2.2.2.2.2.2.2.2.2.2.2.2.1,.vS y8.2.2.2.2.2.2.2.2.2.2.2.2.2.2.2.1,.vS y8.2.2.2.2.2.2.2.2.2.2.2.2.2.2.2.2.1,.v (.bool y8.2.2.2.2.2.2.2.2.2.2.2.2.2.2.2.2.2.1),.vL y8.2.2.2.2.2.2.2.2.2.2.2.2.2.2.2.2.2.2.1,.vI y8.2.2.2.2.2.2.2.2.2.2.2.2.2.2.2.2.2.2.2.1]) <|
 .br (y7.2.1 == (1:Int)) (
     .Cg 134 [qL y7.1] fun y8 =>
     .nx 3 [.vL y8.2.1,.vI y7.2.1,.vS y7.2.2.1,.vS y7.2.2.2.1,.vS y7.2.2.2.2.1,.vS y8.1,.vS y7.2.2.2.2.2.2.1,.v (.bool y7.2.2.2.2.2.2.2.1),.vL y7.2.2.2.2.2.2.2.2.1,.vI y7.2.2.2.2.2.2.2.2.2.1,.vL y7.2.2.2.2.2.2.2.2.2.2.1,.vL y7.2.2.2.2.2.2.2.2.2.2.2.1,.v (.bool y7.2.2.2.2.2.2.2.2.2.2.2.2.1),.vL y7.2.2.2.2.2.2.2.2.2.2.2.2.2.1,.vI y7.2.2.2.2.2.2.2.2.2.2.2.2.2.2.1,.vS y7.2.2.2.2.2.2.2.2.2.2.2.2.2.2.2.1,.vS y7.2.2.2.2.2.2.2.2.2.2.2.2.2.2.2.2.1,.v (.bool y7.2.2.2.2.2.2.2.2.2.2.2.2.2.2.2.2.2.1),.vL y7.2.2.2.2.2.2.2.2.2.2.2.2.2.2.2.2.2.2.1,.vI y7.2.2.2.2.2.2.2.2.2.2.2.2.2.2.2.2.2.2.2.1]) <|
 .nx 3 [.vL y7.1,.vI y7.2.1,.vS y7.2.2.1,.vS y7.2.2.2.1,.vS y7.2.2.2.2.1,.vS y7.2.2.2.2.2.1,.vS y7.2.2.2.2.2.2.1,.v (.bool y7.2.2.2.2.2.2.2.1),.vL y7.2.2.2.2.2.2.2.2.1,.vI y7.2.2.2.2.2.2.2.2.2.1,.vL y7.2.2.2.2.2.2.2.2.2.2.1,.vL y7.2.2.2.2.2.2.2.2.2.2.2.1,.v (.bool y7.2.2.2.2.2.2.2.2.2.2.2.2.1),.vL y7.2.2.2.2.2.2.2.2.2.2.2.2.2.1,.vI y7.2.2.2.2.2.2.2.2.2.2.2.2.2.2.1,.vS y7.2.2.2.2.2.2.2.2.2.2.2.2.2.2.2.1,.vS y7.2.2.2.2.2.2.2.2.2.2.2.2.2.2.2.2.1,.v (.bool y7.2.2.2.2.2.2.2.2.2.2.2.2.2.2.2.2.2.1),.vL y7.2.2.2.2.2.2.2.2.2.2.2.2.2.2.2.2.2.2.1,.vI y7.2.2.2.2.2.2.2.2.2.2.2.2.2.2.2.2.2.2.2.1]) <|
 .br y4.2.1 (
    .Cg 134 [qL y6.1] fun y7 =>
    .nx 2 [.vL y7.2.1,.vI y6.2.1,.vS y6.2.2.1,.vS y6.2.2.2.1,.vS y7.1,.vS y6.2.2.2.2.2.1,.vS y6.2.2.2.2.2.2.1,.v (.bool y6.2.2.2.2.2.2.2.1),.vL y6.2.2.2.2.2.2.2.2.1,.vI y6.2.2.2.2.2.2.2.2.2.1,.vL y6.2.2.2.2.2.2.2.2.2.2.1,.vL y6.2.2.2.2.2.2.2.2.2.2.2.1,.v (.bool y6.2.2.2.2.2.2.2.2.2.2.2.2.1),.vL y6.2.2.2.2.2.2.2.2.2.2.2.2.2.1,.vI y6.2.2.2.2.2.2.2.2.2.2.2.2.2.2.1,.vS y6.2.2.2.2.2.2.2.2.2.2.2.2.2.2.2.1,.vS y6.2.2.2.2.2.2.2.2.2.2.2.2.2.2.2.2.1,.v (.bool y6.2.2.2.2.2.2.2.2.2.2.2.2.2.2.2.2.2.1),.vL y6.2.2.2.2.2.2.2.2.2.2.2.2.2.2.2.2.2.2.1,.vI y6.2.2.2.2.2.2.2.2.2.2.2.2.2.2.2.2.2.2.2.1]) <|
 .nx 2 [.vL y6.1,.vI y6.2.1,.vS y6.2.2.1,.vS y6.2.2.2.1,.vS y6.2.2.2.2.1,.vS y6.2.2.2.2.2.1,.vS y6.2.2.2.2.2.2.1,.v (.bool y6.2.2.2.2.2.2.2.1),.vL y6.2.2.2.2.2.2.2.2.1,.vI y6.2.2.2.2.2.2.2.2.2.1,.vL y6.2.2.2.2.2.2.2.2.2.2.1,.vL y6.2.2.2.2.2.2.2.2.2.2.2.1,.v (.bool y6.2.2.2.2.2.2.2.2.2.2.2.2.1),.vL y6.2.2.2.2.2.2.2.2.2.2.2.2.2.1,.vI y6.2.2.2.2.2.2.2.2.2.2.2.2.2.2.1,.vS y6.2.2.2.2.2.2.2.2.2.2.2.2.2.2.2.1,.vS y6.2.2.2.2.2.2.2.2.2.2.2.2.2.2.2.2.1,.v (.bool y6.2.2.2.2.2.2.2.2.2.2.2.2.2.2.2.2.2.1),.vL y6.2.2.2.2.2.2.2.2.2.2.2.2.2.2.2.2.2.2.1,.vI y6.2.2.2.2.2.2.2.2.2.2.2.2.2.2.2.2.2.2.2.1]) <|
 .br y4.1 (
   .Cg 134 [qL y5.1] fun y6 =>
   .nx 1 [.vL y6.2.1,.vI y5.2.1,.vS y5.2.2.1,.vS y6.1,.vS y5.2.2.2.2.1,.vS y5.2.2.2.2.2.1,.vS y5.2.2.2.2.2.2.1,.v (.bool y5.2.2.2.2.2.2.2.1),.vL y5.2.2.2.2.2.2.2.2.1,.vI y5.2.2.2.2.2.2.2.2.2.1,.vL y5.2.2.2.2.2.2.2.2.2.2.1,.vL y5.2.2.2.2.2.2.2.2.2.2.2.1,.v (.bool y5.2.2.2.2.2.2.2.2.2.2.2.2.1),.vL y5.2.2.2.2.2.2.2.2.2.2.2.2.2.1,.vI y5.2.2.2.2.2.2.2.2.2.2.2.2.2.2.1,.vS y5.2.2.2.2.2.2.2.2.2.2.2.2.2.2.2.1,.vS y5.2.2.2.2.2.2.2.2.2.2.2.2.2.2.2.2.1,.v (.bool y5.2.2.2.2.2.2.2.2.2.2.2.2.2.2.2.2.2.1),.vL y5.2.2.2.2.2.2.2.2.2.2.2.2.2.2.2.2.2.2.1,.vI y5.2.2.2.2.2.2.2.2.2.2.2.2.2.2.2.2.2.2.2.1]) <|
 .nx 1 [.vL y5.1,.vI y5.2.1,.vS y5.2.2.1,.vS y5.2.2.2.1,.vS y5.2.2.2.2.1,.vS y5.2.2.2.2.2.1,.vS y5.2.2.2.2.2.2.1,.v (.bool y5.2.2.2.2.2.2.2.1),.vL y5.2.2.2.2.2.2.2.2.1,.vI y5.2.2.2.2.2.2.2.2.2.1,.vL y5.2.2.2.2.2.2.2.2.2.2.1,.vL y5.2.2.2.2.2.2.2.2.2.2.2.1,.v (.bool y5.2.2.2.2.2.2.2.2.2.2.2.2.1),.vL y5.2.2.2.2.2.2.2.2.2.2.2.2.2.1,.vI y5.2.2.2.2.2.2.2.2.2.2.2.2.2.2.1,.vS y5.2.2.2.2.2.2.2.2.2.2.2.2.2.2.2.1,.vS y5.2.2.2.2.2.2.2.2.2.2.2.2.2.2.2.2.1,.v (.bool y5.2.2.2.2.2.2.2.2.2.2.2.2.2.2.2.2.2.1),.vL y5.2.2.2.2.2.2.2.2.2.2.2.2.2.2.2.2.2.2.1,.vI y5.2.2.2.2.2.2.2.2.2.2.2.2.2.2.2.2.2.2.2.1]) <|
 .br (y3 == (9:Int)) (
  .cM 92 [qL y2.2.1,.string ⟨⟨[32]⟩⟩] fun y5 =>
  .qc44 137 [.string y5] fun y6 =>
  .nx 0 [.vL y2.2.1,.vI y3,.vS ba,.vS ba,.vS ba,.vS ba,.vS ba,.v (.bool (false)),.v (.slice none 0 0),.vI 0,.v (.slice none 0 0),.v (.slice none 0 0),.v (.bool (false)),.v (.slice none 0 0),.vI 0,.vS y6.1.1,.vS y6.1.2.1,.v (.bool y6.1.2.2.1),.vL y6.1.2.2.2.1,.vI y6.1.2.2.2.2.1]) <|
 .Cg 134 [qL y2.2.1] fun y5 =>
 .nx 0 [.vL y5.2.1,.vI y3,.vS y5.1,.vS ba,.vS ba,.vS ba,.vS ba,.v (.bool (false)),.v (.slice none 0 0),.vI 0,.v (.slice none 0 0),.v (.slice none 0 0),.v (.bool (false)),.v (.slice none 0 0),.vI 0,.vS ba,.vS ba,.v (.bool (false)),.v (.slice none 0 0),.vI 0]
theorem N3 x0:aP N0 81 [.string x0] (zW x0) :=aq
def CY (x0:Int):T :=
 .bN 143 [.int .i64 x0,.int .i64 0,.int .i64 9] fun y1 =>
 .bn y1 (.ret [.string ba]) <|
 .rI x0 (↑(10:Nat):Int) <|
 .xs [.string ⟨⟨[111,107]⟩⟩,.string ⟨⟨[102,111,114,109]⟩⟩,.string ⟨⟨[99,117,114]⟩⟩,.string ⟨⟨[97,99,99,116]⟩⟩,.string ⟨⟨[104,97,118,101]⟩⟩,.string ⟨⟨[109,97,116,99,104]⟩⟩,.string ⟨⟨[114,97,116,101]⟩⟩,.string ⟨⟨[119,101,105,103,104,116]⟩⟩,.string ⟨⟨[108,97,114,103,101]⟩⟩,.string ⟨⟨[102,117,108,108]⟩⟩] (x0.toNat*(1:Nat)) (.o (.s)) fun y2 =>
 .ret [.string y2]
theorem Tq x0:aP bX 82 [.int .i64 x0] (CY x0) :=aq
def IG (x0:nn) (x1:qy8):T :=
 .nq 144 [aU x0,l8 x1] fun y1 =>
 .br (y1.2.1 != (0:Int)) (
  .SY 41 [aU x0] fun y2 =>
  .ret [aU y2,.int .i64 y1.2.1]) <|
 .ret [aU y1.1,.int .i64 y1.2.1]
theorem X5 x0 x1:aP bX 83 [aU x0,l8 x1] (IG x0 x1) :=aq
def X6:An:=⟨[],[(4,[],[]),(6,[],[]),(8,[],[]),(10,[],[]),(12,[],[]),(14,[],[]),(16,[],[]),(18,[],[])],[]⟩
def IH (x0:qy8):T :=
 .qc29 85 [.int .i64 x0.1] fun y1 =>
 .jn [] (fun _ =>
  .jn [] (fun _ =>
   .jn [] (fun _ =>
    .jn [] (fun _ =>
     .jn [] (fun _ =>
      .jn [] (fun _ =>
       .jn [] (fun _ =>
        .jn [] (fun _ =>
         .br (ByteArray.toList x0.2.2.2.2.2.2.2.2.2.2.2.2.2.2.1 == ba.toList) (
          .br (ByteArray.toList x0.2.2.2.2.2.2.2.2.2.2.2.2.2.2.2.1 == ba.toList) (
           .bN 153 [cA x0.2.2.2.2.2.2.2.2.2.2.2.2.2.2.2.2] fun dM =>
           .ret [.bool dM]) <|
 .rF) <|
 .rF) <|
 .br (x0.1 == (9:Int)) (
         .bN 76 [fV x0.2.2.2.2.2.2.2.2.2.2.2.2.2.2] fun y9 =>
         .ret [.bool y9]) <|
 .nx 7 []) <|
 .rg <|
 .br y1.2.1 (
        .vP 150 [cA (x0.2.2.2.2.2.2.2.2.2.2.2.1,x0.2.2.2.2.2.2.2.2.2.2.2.2.1,((x0.2.2.2.2.2.2.2.2.2.2.2.2.2.1):Int),())] fun y8 =>
        .bF y8 <|
 .qc45 152 [cA (x0.2.2.2.2.2.2.2.2.2.2.2.1,x0.2.2.2.2.2.2.2.2.2.2.2.2.1,((x0.2.2.2.2.2.2.2.2.2.2.2.2.2.1):Int),())] fun y9 =>
        .qO 151 [cA y9] fun dM =>
        .qO 151 [cA (x0.2.2.2.2.2.2.2.2.2.2.2.1,x0.2.2.2.2.2.2.2.2.2.2.2.2.1,((x0.2.2.2.2.2.2.2.2.2.2.2.2.2.1):Int),())] fun gz =>
        .br (!dM.toList == gz.toList) (
         .rF) <|
 .bn y1.2.1 (.bN 153 [cA (x0.2.2.2.2.2.2.2.2.2.2.2.1,x0.2.2.2.2.2.2.2.2.2.2.2.2.1,((x0.2.2.2.2.2.2.2.2.2.2.2.2.2.1):Int),())] fun fe =>
         .bF fe <|
 .nx 6 []) <|
 .nx 6 []) <|
 .bn y1.2.1 (.bN 153 [cA (x0.2.2.2.2.2.2.2.2.2.2.2.1,x0.2.2.2.2.2.2.2.2.2.2.2.2.1,((x0.2.2.2.2.2.2.2.2.2.2.2.2.2.1):Int),())] fun y8 =>
        .bF y8 <|
 .nx 6 []) <|
 .nx 6 []) <|
 .br (x0.1 == (6:Int)) (
       .bN 149 [qL x0.2.2.2.2.2.2.2.2.2.1,qL x0.2.2.2.2.2.2.2.2.2.2.1] fun y7 =>
       .bF y7 <|
 .br (x0.1 != (6:Int)) (
        .bd (i64.wrap ((↑x0.2.2.2.2.2.2.2.2.2.1.n:Int)+(↑x0.2.2.2.2.2.2.2.2.2.2.1.n:Int)) > (0:Int)) (
         .rF) <|
 .nx 5 []) <|
 .nx 5 []) <|
 .br (x0.1 != (6:Int)) (
       .bd (i64.wrap ((↑x0.2.2.2.2.2.2.2.2.2.1.n:Int)+(↑x0.2.2.2.2.2.2.2.2.2.2.1.n:Int)) > (0:Int)) (
        .rF) <|
 .nx 5 []) <|
 .nx 5 []) <|
 .br y1.2.2.2.1 (
      .bN 148 [.int .i64 x0.2.2.2.2.2.2.2.2.1] fun y6 =>
      .bF y6 <|
 .bn y1.2.2.2.1 (.br (x0.2.2.2.2.2.2.2.2.1 != (0:Int)) (
        .rF) <|
 .nx 4 []) <|
 .nx 4 []) <|
 .bn y1.2.2.2.1 (.br (x0.2.2.2.2.2.2.2.2.1 != (0:Int)) (
       .rF) <|
 .nx 4 []) <|
 .nx 4 []) <|
 .br y1.2.2.1 (
     .bN 147 [ct (x0.2.2.2.2.2.1,x0.2.2.2.2.2.2.1,x0.2.2.2.2.2.2.2.1,())] fun y5 =>
     .bF y5 <|
 .bn y1.2.2.1 (.br (!ByteArray.toList x0.2.2.2.2.2.1 == ba.toList) (
       .rF) <|
 .br x0.2.2.2.2.2.2.1 (
       .rF) <|
 .bd ((↑x0.2.2.2.2.2.2.2.1.n:Int) > (0:Int)) (
       .rF) <|
 .nx 3 []) <|
 .nx 3 []) <|
 .bn y1.2.2.1 (.br (!ByteArray.toList x0.2.2.2.2.2.1 == ba.toList) (
      .rF) <|
 .br x0.2.2.2.2.2.2.1 (
      .rF) <|
 .bd ((↑x0.2.2.2.2.2.2.2.1.n:Int) > (0:Int)) (
      .rF) <|
 .nx 3 []) <|
 .nx 3 []) <|
 .rg <|
 .vP 146 [.string x0.2.2.2.2.1] fun y4 =>
   .br (!(x0.1 == (1:Int)) == y4) (
    .rF) <|
 .br (x0.1 != (1:Int)) (
    .br (!ByteArray.toList x0.2.2.2.2.1 == ba.toList) (
     .rF) <|
 .nx 2 []) <|
 .nx 2 []) <|
 .bN 72 [.string x0.2.2.1] fun y3 =>
  .br (!y1.1 == y3) (
   .rF) <|
 .bn y1.1 (.br (!ByteArray.toList x0.2.2.1 == ba.toList) (
    .rF) <|
 .bN 72 [.string x0.2.2.2.1] fun y4 =>
   .br (!y1.2.1 == y4) (
    .rF) <|
 .bn y1.2.1 (.br (!ByteArray.toList x0.2.2.2.1 == ba.toList) (
     .rF) <|
 .nx 1 []) <|
 .nx 1 []) <|
 .bN 72 [.string x0.2.2.2.1] fun y4 =>
  .br (!y1.2.1 == y4) (
   .rF) <|
 .bn y1.2.1 (.br (!ByteArray.toList x0.2.2.2.1 == ba.toList) (
    .rF) <|
 .nx 1 []) <|
 .nx 1 []) <|
 .rg <|
 .vP 145 [.int .i64 x0.1] fun y2 =>
 .bF y2 <|
 .vP 72 [.string x0.2.1] fun y3 =>
 .br ((x0.1 == (9:Int)) == y3) (
  .rF) <|
 .br (x0.1 == (9:Int)) (
  .br (!ByteArray.toList x0.2.1 == ba.toList) (
   .rF) <|
 .nx 0 []) <|
 .nx 0 []
theorem X7 x0:aP X6 84 [l8 x0] (IH x0) :=aq
def CZ (x0:Int):T :=
 .br (x0 == (4:Int)) (
  .bN 143 [.int .i64 x0,.int .i64 2,.int .i64 7] fun y1 =>
  .br (x0 == (5:Int)) (
   .ret [.bool (true),.bool (x0 == (7:Int)),.bool y1,.bool (true)]) <|
 .br (x0 == (7:Int)) (
   .ret [.bool (true),.bool (x0 == (7:Int)),.bool y1,.bool (true)]) <|
 .ret [.bool (true),.bool (x0 == (7:Int)),.bool y1,.bool (x0 == (8:Int))]) <|
 .br (x0 == (5:Int)) (
  .bN 143 [.int .i64 x0,.int .i64 2,.int .i64 7] fun y1 =>
  .br (x0 == (5:Int)) (
   .ret [.bool (true),.bool (x0 == (7:Int)),.bool y1,.bool (true)]) <|
 .br (x0 == (7:Int)) (
   .ret [.bool (true),.bool (x0 == (7:Int)),.bool y1,.bool (true)]) <|
 .ret [.bool (true),.bool (x0 == (7:Int)),.bool y1,.bool (x0 == (8:Int))]) <|
 .bN 143 [.int .i64 x0,.int .i64 2,.int .i64 7] fun y1 =>
 .br (x0 == (5:Int)) (
  .ret [.bool (x0 == (7:Int)),.bool (x0 == (7:Int)),.bool y1,.bool (true)]) <|
 .br (x0 == (7:Int)) (
  .ret [.bool (x0 == (7:Int)),.bool (x0 == (7:Int)),.bool y1,.bool (true)]) <|
 .ret [.bool (x0 == (7:Int)),.bool (x0 == (7:Int)),.bool y1,.bool (x0 == (8:Int))]
theorem Tr x0:aP bX 85 [.int .i64 x0] (CZ x0) :=aq
def C0 (x0:Int):T :=
 .bN 145 [.int .i64 x0] fun y1 =>
 .bn y1 (.ret [.string ba]) <|
 .rI x0 (↑(10:Nat):Int) <|
 .xs [.string ba,.string ⟨⟨[111,112,101,110]⟩⟩,.string ⟨⟨[112,117,116]⟩⟩,.string ⟨⟨[116,97,107,101]⟩⟩,.string ⟨⟨[109,111,118,101]⟩⟩,.string ⟨⟨[115,119,97,112]⟩⟩,.string ⟨⟨[100,101,97,108]⟩⟩,.string ⟨⟨[116,97,120]⟩⟩,.string ⟨⟨[99,97,115,104]⟩⟩,.string ⟨⟨[114,97,116,101]⟩⟩] (x0.toNat*(1:Nat)) (.o (.s)) fun y2 =>
 .ret [.string y2]
theorem Ts x0:aP bX 86 [.int .i64 x0] (C0 x0) :=aq
def xn (x0:MS):T :=
 .bN 76 [fV x0] fun y1 =>
 .bn y1 (.ret [.string ba]) <|
 .rg <|
 .rN (ByteArray.size x0.1+(⟨⟨[32]⟩⟩:ByteArray).size) <|
 .rN ((x0.1++(⟨⟨[32]⟩⟩:ByteArray)).size+ByteArray.size x0.2.1) <|
 .rN ((x0.1++(⟨⟨[32]⟩⟩:ByteArray)++x0.2.1).size+(⟨⟨[32]⟩⟩:ByteArray).size) <|
 .qO 151 [cA x0.2.2] fun y2 =>
 .rN ((x0.1++(⟨⟨[32]⟩⟩:ByteArray)++x0.2.1++(⟨⟨[32]⟩⟩:ByteArray)).size+y2.size) <|
 .ret [.string (x0.1++(⟨⟨[32]⟩⟩:ByteArray)++x0.2.1++(⟨⟨[32]⟩⟩:ByteArray)++y2)]
theorem II x0:aP bX 87 [fV x0] (xn x0) :=aq
def tR (x0:vr):T :=
 .bN 73 [ct x0] fun y1 =>
 .bn y1 (.ret [.string ba]) <|
 .rg <|
 .rN (ByteArray.size x0.1+(⟨⟨[32]⟩⟩:ByteArray).size) <|
 .XX 154 [.string x0.1] fun y2 =>
 .qO 151 [cA (x0.2.1,x0.2.2.1,((y2):Int),())] fun y3 =>
 .rN ((x0.1++(⟨⟨[32]⟩⟩:ByteArray)).size+y3.size) <|
 .ret [.string (x0.1++(⟨⟨[32]⟩⟩:ByteArray)++y3)]
theorem Fy x0:aP bX 88 [ct x0] (tR x0) :=aq
def aS_Join:An:=⟨[(3,[.s 5,.s 10],[.oS,.oI])],[],[]⟩
def Rk (x0:ar) (x1:ByteArray):T :=
 .lp [.oS,.oI] [.vS ba,.vI 0] fun y1 =>
 .bd (y1.2.1<(↑x0.n:Int)) (
  .el x0.1 (x0.n) y1.2.1 fun y2 =>
  .iy (y2.add (Int.toNat y1.2.1*(1:Nat))) fun y3 =>
  .bd (y1.2.1 > (0:Int)) (
   .rN (ByteArray.size y1.1+x1.size) <|
 .rN ((y1.1++x1).size+y3.size) <|
 .nx 0 [.vS (y1.1++x1++y3),.vI (i64.wrap (y1.2.1+(1:Int)))]) <|
 .rN (ByteArray.size y1.1+y3.size) <|
 .nx 0 [.vS (y1.1++y3),.vI (i64.wrap (y1.2.1+(1:Int)))]) <|
 .ret [.string y1.1]
theorem fS_Join x0 x1:aP aS_Join 92 [qL x0,.string x1] (Rk x0 x1) :=aq
def C4 (x0:yv) (x1:yv):T :=
 .bN 125 [cV x0] fun y1 =>
 .bn y1 (.ret [.int .i64 0]) <|
 .bN 125 [cV x1] fun y2 =>
 .bn y2 (.ret [.int .i64 0]) <|
 .br x0.1 (
  .br (!x1.1) (
   .rM) <|
 .br (!x0.1) (
   .br x1.1 (
    .ret [.int .i64 1]) <|
 .br x0.1 (
    .eR 127 [qL x1.2.1,qL x0.2.1] fun y3 =>
    .ret [.int .i64 y3]) <|
 .eR 127 [qL x0.2.1,qL x1.2.1] fun y3 =>
   .ret [.int .i64 y3]) <|
 .br x0.1 (
   .eR 127 [qL x1.2.1,qL x0.2.1] fun y3 =>
   .ret [.int .i64 y3]) <|
 .eR 127 [qL x0.2.1,qL x1.2.1] fun y3 =>
  .ret [.int .i64 y3]) <|
 .br (!x0.1) (
  .br x1.1 (
   .ret [.int .i64 1]) <|
 .br x0.1 (
   .eR 127 [qL x1.2.1,qL x0.2.1] fun y3 =>
   .ret [.int .i64 y3]) <|
 .eR 127 [qL x0.2.1,qL x1.2.1] fun y3 =>
  .ret [.int .i64 y3]) <|
 .br x0.1 (
  .eR 127 [qL x1.2.1,qL x0.2.1] fun y3 =>
  .ret [.int .i64 y3]) <|
 .eR 127 [qL x0.2.1,qL x1.2.1] fun y3 =>
 .ret [.int .i64 y3]
theorem Tt x0 x1:aP bX 93 [cV x0,cV x1] (C4 x0 x1) :=aq
def C6 (x0:yv):T :=
 .bN 125 [cV x0] fun y1 =>
 .bn y1 (.ret [cV ((false),ai,())]) <|
 .kg 158 [.bool (!x0.1),qL x0.2.1] fun y2 =>
 .ret [cV y2]
theorem Tu x0:aP bX 94 [cV x0] (C6 x0) :=aq
def C7 (x0:qy9):T :=
 .qc47 159 [ct x0.2] fun y1 =>
 .ret [WO (x0.1,y1.1,y1.2.1,y1.2.2.1,())]
theorem Tv x0:aP bX 95 [WO x0] (C7 x0) :=aq
def IJ (x0:WQ):T :=
 .kg 160 [cV (x0.1,x0.2.1,())] fun y1 =>
 .jl 161 [qL x0.2.2.1] fun y2 =>
 .ret [lS (y1.1,y1.2.1,y2,())]
theorem X8 x0:aP bX 96 [lS x0] (IJ x0) :=aq
def C8 (x0:MS):T :=
 .qc48 162 [cA x0.2.2] fun y1 =>
 .ret [fV (x0.1,x0.2.1,y1.1,y1.2.1,((y1.2.2.1):Int),())]
theorem Tw x0:aP bX 97 [fV x0] (C8 x0) :=aq
def Ty:An:=⟨[(4,[.s 3],[.oI])],[],[]⟩
def C9 (x0:ByteArray):T :=
 .bd ((↑x0.size:Int)<(1:Int)) (
  .rF) <|
 .bd ((↑x0.size:Int) > (12:Int)) (
  .rF) <|
 .rI (0:Int) (↑x0.size:Int) <|
 .bN 163 [.int .u8 (de x0 (Int.toNat (0:Int)))] fun y1 =>
 .bF y1 <|
 .lp [.oI] [.vI 1] fun y2 =>
 .bd (y2.1<(↑x0.size:Int)) (
  .rI y2.1 (↑x0.size:Int) <|
 .bN 163 [.int .u8 (de x0 (Int.toNat y2.1))] fun y3 =>
  .bn y3 (.rI y2.1 (↑x0.size:Int) <|
 .bN 164 [.int .u8 (de x0 (Int.toNat y2.1))] fun y4 =>
   .bF y4 <|
 .nx 0 [.vI (i64.wrap (y2.1+(1:Int)))]) <|
 .nx 0 [.vI (i64.wrap (y2.1+(1:Int)))]) <|
 .rT
theorem Tz x0:aP Ty 98 [.string x0] (C9 x0) :=aq
def zX (x0:vr):T :=
 .bN 52 [.string x0.1] fun y1 =>
 .br y1 (
  .bN 165 [cV x0.2] fun y2 =>
  .br y2 (
   .ret [.bool (decide ((↑x0.2.2.1.n:Int)<=(4:Int)))]) <|
 .rF) <|
 .rF
theorem N4 x0:aP bX 99 [ct x0] (zX x0) :=aq
def IK (x0:WQ):T :=
 .bN 165 [cV (x0.1,x0.2.1,())] fun y1 =>
 .bF y1 <|
 .bN 166 [qL x0.2.2.1] fun y2 =>
 .bF y2 <|
 .br ((↑x0.2.2.1.n:Int) == (0:Int)) (
  .rF) <|
 .bd ((↑x0.2.2.1.n:Int) > (18:Int)) (
  .rF) <|
 .bd ((↑x0.2.1.n:Int) > (18:Int)) (
  .rF) <|
 .jl 167 [qL x0.2.1,qL x0.2.2.1] fun y3 =>
 .br ((↑y3.n:Int) == (1:Int)) (
  .el y3.1 (y3.n) ((0:Int)) fun y4 =>
  .dy (y4.add (Int.toNat (0:Int)*(1:Nat))) fun y5 =>
  .ret [.bool (y5 == (1:Int))]) <|
 .rF
theorem X9 x0:aP bX 100 [lS x0] (IK x0) :=aq
def zY (x0:WQ):T :=
 .bN 100 [lS x0] fun y1 =>
 .bn y1 (.ret [.int .i64 0]) <|
 .eR 56 [cV (x0.1,x0.2.1,())] fun y2 =>
 .ret [.int .i64 y2]
theorem N5 x0:aP bX 101 [lS x0] (zY x0) :=aq
def C' (x0:MS):T :=
 .bN 52 [.string x0.1] fun y1 =>
 .br y1 (
  .bN 52 [.string x0.2.1] fun y2 =>
  .br y2 (
   .br (!ByteArray.toList x0.1 == ByteArray.toList x0.2.1) (
    .bN 168 [cA x0.2.2] fun y3 =>
    .br y3 (
     .eR 56 [cV (x0.2.2.1,x0.2.2.2.1,())] fun y4 =>
     .bd (y4 > (0:Int)) (
      .ret [.bool (decide ((↑x0.2.2.2.1.n:Int)<=(2:Int)))]) <|
 .rF) <|
 .rF) <|
 .rF) <|
 .rF) <|
 .rF
theorem TA x0:aP bX 102 [fV x0] (C' x0) :=aq
def Cm:An:=⟨[(2,[.s 7,.c 2 0,.c 2 1,.c 2 2,.c 2 3],[.oI,.oS,.oS,.oI,.oI])],[],[]⟩
def q8 (x0:ByteArray):T :=
 .ql49 ({ block:=(0:Nat),off:=(0:Nat):Addr }) fun y1 =>
 .lp [.oI,.oS,.oS,.oI,.oI] [.vI 0,.vS ba,.vS ba,.vI 0,.vI 0] fun y2 =>
 .bd (y2.1<(20:Int)) (
  .rI y2.1 (↑(20:Nat):Int) <|
 .xs [.string y1.1,.string y1.2.1,.int .i64 y1.2.2.1,.int .i64 y1.2.2.2.1,.string y1.2.2.2.2.1,.string y1.2.2.2.2.2.1,.int .i64 y1.2.2.2.2.2.2.1,.int .i64 y1.2.2.2.2.2.2.2.1,.string y1.2.2.2.2.2.2.2.2.1,.string y1.2.2.2.2.2.2.2.2.2.1,.int .i64 y1.2.2.2.2.2.2.2.2.2.2.1,.int .i64 y1.2.2.2.2.2.2.2.2.2.2.2.1,.string y1.2.2.2.2.2.2.2.2.2.2.2.2.1,.string y1.2.2.2.2.2.2.2.2.2.2.2.2.2.1,.int .i64 y1.2.2.2.2.2.2.2.2.2.2.2.2.2.2.1,.int .i64 y1.2.2.2.2.2.2.2.2.2.2.2.2.2.2.2.1,.string y1.2.2.2.2.2.2.2.2.2.2.2.2.2.2.2.2.1,.string y1.2.2.2.2.2.2.2.2.2.2.2.2.2.2.2.2.2.1,.int .i64 y1.2.2.2.2.2.2.2.2.2.2.2.2.2.2.2.2.2.2.1,.int .i64 y1.2.2.2.2.2.2.2.2.2.2.2.2.2.2.2.2.2.2.2.1,.string y1.2.2.2.2.2.2.2.2.2.2.2.2.2.2.2.2.2.2.2.2.1,.string y1.2.2.2.2.2.2.2.2.2.2.2.2.2.2.2.2.2.2.2.2.2.1,.int .i64 y1.2.2.2.2.2.2.2.2.2.2.2.2.2.2.2.2.2.2.2.2.2.2.1,.int .i64 y1.2.2.2.2.2.2.2.2.2.2.2.2.2.2.2.2.2.2.2.2.2.2.2.1,.string y1.2.2.2.2.2.2.2.2.2.2.2.2.2.2.2.2.2.2.2.2.2.2.2.2.1,.string y1.2.2.2.2.2.2.2.2.2.2.2.2.2.2.2.2.2.2.2.2.2.2.2.2.2.1,.int .i64 y1.2.2.2.2.2.2.2.2.2.2.2.2.2.2.2.2.2.2.2.2.2.2.2.2.2.2.1,.int .i64 y1.2.2.2.2.2.2.2.2.2.2.2.2.2.2.2.2.2.2.2.2.2.2.2.2.2.2.2.1,.string y1.2.2.2.2.2.2.2.2.2.2.2.2.2.2.2.2.2.2.2.2.2.2.2.2.2.2.2.2.1,.string y1.2.2.2.2.2.2.2.2.2.2.2.2.2.2.2.2.2.2.2.2.2.2.2.2.2.2.2.2.2.1,.int .i64 y1.2.2.2.2.2.2.2.2.2.2.2.2.2.2.2.2.2.2.2.2.2.2.2.2.2.2.2.2.2.2.1,.int .i64 y1.2.2.2.2.2.2.2.2.2.2.2.2.2.2.2.2.2.2.2.2.2.2.2.2.2.2.2.2.2.2.2.1,.string y1.2.2.2.2.2.2.2.2.2.2.2.2.2.2.2.2.2.2.2.2.2.2.2.2.2.2.2.2.2.2.2.2.1,.string y1.2.2.2.2.2.2.2.2.2.2.2.2.2.2.2.2.2.2.2.2.2.2.2.2.2.2.2.2.2.2.2.2.2.1,.int .i64 y1.2.2.2.2.2.2.2.2.2.2.2.2.2.2.2.2.2.2.2.2.2.2.2.2.2.2.2.2.2.2.2.2.2.2.1,.int .i64 y1.2.2.2.2.2.2.2.2.2.2.2.2.2.2.2.2.2.2.2.2.2.2.2.2.2.2.2.2.2.2.2.2.2.2.2.1,.string y1.2.2.2.2.2.2.2.2.2.2.2.2.2.2.2.2.2.2.2.2.2.2.2.2.2.2.2.2.2.2.2.2.2.2.2.2.1,.string y1.2.2.2.2.2.2.2.2.2.2.2.2.2.2.2.2.2.2.2.2.2.2.2.2.2.2.2.2.2.2.2.2.2.2.2.2.2.1,.int .i64 y1.2.2.2.2.2.2.2.2.2.2.2.2.2.2.2.2.2.2.2.2.2.2.2.2.2.2.2.2.2.2.2.2.2.2.2.2.2.2.1,.int .i64 y1.2.2.2.2.2.2.2.2.2.2.2.2.2.2.2.2.2.2.2.2.2.2.2.2.2.2.2.2.2.2.2.2.2.2.2.2.2.2.2.1,.string y1.2.2.2.2.2.2.2.2.2.2.2.2.2.2.2.2.2.2.2.2.2.2.2.2.2.2.2.2.2.2.2.2.2.2.2.2.2.2.2.2.1,.string y1.2.2.2.2.2.2.2.2.2.2.2.2.2.2.2.2.2.2.2.2.2.2.2.2.2.2.2.2.2.2.2.2.2.2.2.2.2.2.2.2.2.1,.int .i64 y1.2.2.2.2.2.2.2.2.2.2.2.2.2.2.2.2.2.2.2.2.2.2.2.2.2.2.2.2.2.2.2.2.2.2.2.2.2.2.2.2.2.2.1,.int .i64 y1.2.2.2.2.2.2.2.2.2.2.2.2.2.2.2.2.2.2.2.2.2.2.2.2.2.2.2.2.2.2.2.2.2.2.2.2.2.2.2.2.2.2.2.1,.string y1.2.2.2.2.2.2.2.2.2.2.2.2.2.2.2.2.2.2.2.2.2.2.2.2.2.2.2.2.2.2.2.2.2.2.2.2.2.2.2.2.2.2.2.2.1,.string y1.2.2.2.2.2.2.2.2.2.2.2.2.2.2.2.2.2.2.2.2.2.2.2.2.2.2.2.2.2.2.2.2.2.2.2.2.2.2.2.2.2.2.2.2.2.1,.int .i64 y1.2.2.2.2.2.2.2.2.2.2.2.2.2.2.2.2.2.2.2.2.2.2.2.2.2.2.2.2.2.2.2.2.2.2.2.2.2.2.2.2.2.2.2.2.2.2.1,.int .i64 y1.2.2.2.2.2.2.2.2.2.2.2.2.2.2.2.2.2.2.2.2.2.2.2.2.2.2.2.2.2.2.2.2.2.2.2.2.2.2.2.2.2.2.2.2.2.2.2.1,.string y1.2.2.2.2.2.2.2.2.2.2.2.2.2.2.2.2.2.2.2.2.2.2.2.2.2.2.2.2.2.2.2.2.2.2.2.2.2.2.2.2.2.2.2.2.2.2.2.2.1,.string y1.2.2.2.2.2.2.2.2.2.2.2.2.2.2.2.2.2.2.2.2.2.2.2.2.2.2.2.2.2.2.2.2.2.2.2.2.2.2.2.2.2.2.2.2.2.2.2.2.2.1,.int .i64 y1.2.2.2.2.2.2.2.2.2.2.2.2.2.2.2.2.2.2.2.2.2.2.2.2.2.2.2.2.2.2.2.2.2.2.2.2.2.2.2.2.2.2.2.2.2.2.2.2.2.2.1,.int .i64 y1.2.2.2.2.2.2.2.2.2.2.2.2.2.2.2.2.2.2.2.2.2.2.2.2.2.2.2.2.2.2.2.2.2.2.2.2.2.2.2.2.2.2.2.2.2.2.2.2.2.2.2.1,.string y1.2.2.2.2.2.2.2.2.2.2.2.2.2.2.2.2.2.2.2.2.2.2.2.2.2.2.2.2.2.2.2.2.2.2.2.2.2.2.2.2.2.2.2.2.2.2.2.2.2.2.2.2.1,.string y1.2.2.2.2.2.2.2.2.2.2.2.2.2.2.2.2.2.2.2.2.2.2.2.2.2.2.2.2.2.2.2.2.2.2.2.2.2.2.2.2.2.2.2.2.2.2.2.2.2.2.2.2.2.1,.int .i64 y1.2.2.2.2.2.2.2.2.2.2.2.2.2.2.2.2.2.2.2.2.2.2.2.2.2.2.2.2.2.2.2.2.2.2.2.2.2.2.2.2.2.2.2.2.2.2.2.2.2.2.2.2.2.2.1,.int .i64 y1.2.2.2.2.2.2.2.2.2.2.2.2.2.2.2.2.2.2.2.2.2.2.2.2.2.2.2.2.2.2.2.2.2.2.2.2.2.2.2.2.2.2.2.2.2.2.2.2.2.2.2.2.2.2.2.1,.string y1.2.2.2.2.2.2.2.2.2.2.2.2.2.2.2.2.2.2.2.2.2.2.2.2.2.2.2.2.2.2.2.2.2.2.2.2.2.2.2.2.2.2.2.2.2.2.2.2.2.2.2.2.2.2.2.2.1,.string y1.2.2.2.2.2.2.2.2.2.2.2.2.2.2.2.2.2.2.2.2.2.2.2.2.2.2.2.2.2.2.2.2.2.2.2.2.2.2.2.2.2.2.2.2.2.2.2.2.2.2.2.2.2.2.2.2.2.1,.int .i64 y1.2.2.2.2.2.2.2.2.2.2.2.2.2.2.2.2.2.2.2.2.2.2.2.2.2.2.2.2.2.2.2.2.2.2.2.2.2.2.2.2.2.2.2.2.2.2.2.2.2.2.2.2.2.2.2.2.2.2.1,.int .i64 y1.2.2.2.2.2.2.2.2.2.2.2.2.2.2.2.2.2.2.2.2.2.2.2.2.2.2.2.2.2.2.2.2.2.2.2.2.2.2.2.2.2.2.2.2.2.2.2.2.2.2.2.2.2.2.2.2.2.2.2.1,.string y1.2.2.2.2.2.2.2.2.2.2.2.2.2.2.2.2.2.2.2.2.2.2.2.2.2.2.2.2.2.2.2.2.2.2.2.2.2.2.2.2.2.2.2.2.2.2.2.2.2.2.2.2.2.2.2.2.2.2.2.2.1,.string y1.2.2.2.2.2.2.2.2.2.2.2.2.2.2.2.2.2.2.2.2.2.2.2.2.2.2.2.2.2.2.2.2.2.2.2.2.2.2.2.2.2.2.2.2.2.2.2.2.2.2.2.2.2.2.2.2.2.2.2.2.2.1,.int .i64 y1.2.2.2.2.2.2.2.2.2.2.2.2.2.2.2.2.2.2.2.2.2.2.2.2.2.2.2.2.2.2.2.2.2.2.2.2.2.2.2.2.2.2.2.2.2.2.2.2.2.2.2.2.2.2.2.2.2.2.2.2.2.2.1,.int .i64 y1.2.2.2.2.2.2.2.2.2.2.2.2.2.2.2.2.2.2.2.2.2.2.2.2.2.2.2.2.2.2.2.2.2.2.2.2.2.2.2.2.2.2.2.2.2.2.2.2.2.2.2.2.2.2.2.2.2.2.2.2.2.2.2.1,.string y1.2.2.2.2.2.2.2.2.2.2.2.2.2.2.2.2.2.2.2.2.2.2.2.2.2.2.2.2.2.2.2.2.2.2.2.2.2.2.2.2.2.2.2.2.2.2.2.2.2.2.2.2.2.2.2.2.2.2.2.2.2.2.2.2.1,.string y1.2.2.2.2.2.2.2.2.2.2.2.2.2.2.2.2.2.2.2.2.2.2.2.2.2.2.2.2.2.2.2.2.2.2.2.2.2.2.2.2.2.2.2.2.2.2.2.2.2.2.2.2.2.2.2.2.2.2.2.2.2.2.2.2.2.1,.int .i64 y1.2.2.2.2.2.2.2.2.2.2.2.2.2.2.2.2.2.2.2.2.2.2.2.2.2.2.2.2.2.2.2.2.2.2.2.2.2.2.2.2.2.2.2.2.2.2.2.2.2.2.2.2.2.2.2.2.2.2.2.2.2.2.2.2.2.2.1,.int .i64 y1.2.2.2.2.2.2.2.2.2.2.2.2.2.2.2.2.2.2.2.2.2.2.2.2.2.2.2.2.2.2.2.2.2.2.2.2.2.2.2.2.2.2.2.2.2.2.2.2.2.2.2.2.2.2.2.2.2.2.2.2.2.2.2.2.2.2.2.1,.string y1.2.2.2.2.2.2.2.2.2.2.2.2.2.2.2.2.2.2.2.2.2.2.2.2.2.2.2.2.2.2.2.2.2.2.2.2.2.2.2.2.2.2.2.2.2.2.2.2.2.2.2.2.2.2.2.2.2.2.2.2.2.2.2.2.2.2.2.2.1,.string y1.2.2.2.2.2.2.2.2.2.2.2.2.2.2.2.2.2.2.2.2.2.2.2.2.2.2.2.2.2.2.2.2.2.2.2.2.2.2.2.2.2.2.2.2.2.2.2.2.2.2.2.2.2.2.2.2.2.2.2.2.2.2.2.2.2.2.2.2.2.1,.int .i64 y1.2.2.2.2.2.2.2.2.2.2.2.2.2.2.2.2.2.2.2.2.2.2.2.2.2.2.2.2.2.2.2.2.2.2.2.2.2.2.2.2.2.2.2.2.2.2.2.2.2.2.2.2.2.2.2.2.2.2.2.2.2.2.2.2.2.2.2.2.2.2.1,.int .i64 y1.2.2.2.2.2.2.2.2.2.2.2.2.2.2.2.2.2.2.2.2.2.2.2.2.2.2.2.2.2.2.2.2.2.2.2.2.2.2.2.2.2.2.2.2.2.2.2.2.2.2.2.2.2.2.2.2.2.2.2.2.2.2.2.2.2.2.2.2.2.2.2.1,.string y1.2.2.2.2.2.2.2.2.2.2.2.2.2.2.2.2.2.2.2.2.2.2.2.2.2.2.2.2.2.2.2.2.2.2.2.2.2.2.2.2.2.2.2.2.2.2.2.2.2.2.2.2.2.2.2.2.2.2.2.2.2.2.2.2.2.2.2.2.2.2.2.2.1,.string y1.2.2.2.2.2.2.2.2.2.2.2.2.2.2.2.2.2.2.2.2.2.2.2.2.2.2.2.2.2.2.2.2.2.2.2.2.2.2.2.2.2.2.2.2.2.2.2.2.2.2.2.2.2.2.2.2.2.2.2.2.2.2.2.2.2.2.2.2.2.2.2.2.2.1,.int .i64 y1.2.2.2.2.2.2.2.2.2.2.2.2.2.2.2.2.2.2.2.2.2.2.2.2.2.2.2.2.2.2.2.2.2.2.2.2.2.2.2.2.2.2.2.2.2.2.2.2.2.2.2.2.2.2.2.2.2.2.2.2.2.2.2.2.2.2.2.2.2.2.2.2.2.2.1,.int .i64 y1.2.2.2.2.2.2.2.2.2.2.2.2.2.2.2.2.2.2.2.2.2.2.2.2.2.2.2.2.2.2.2.2.2.2.2.2.2.2.2.2.2.2.2.2.2.2.2.2.2.2.2.2.2.2.2.2.2.2.2.2.2.2.2.2.2.2.2.2.2.2.2.2.2.2.2.1,.string y1.2.2.2.2.2.2.2.2.2.2.2.2.2.2.2.2.2.2.2.2.2.2.2.2.2.2.2.2.2.2.2.2.2.2.2.2.2.2.2.2.2.2.2.2.2.2.2.2.2.2.2.2.2.2.2.2.2.2.2.2.2.2.2.2.2.2.2.2.2.2.2.2.2.2.2.2.1,.string y1.2.2.2.2.2.2.2.2.2.2.2.2.2.2.2.2.2.2.2.2.2.2.2.2.2.2.2.2.2.2.2.2.2.2.2.2.2.2.2.2.2.2.2.2.2.2.2.2.2.2.2.2.2.2.2.2.2.2.2.2.2.2.2.2.2.2.2.2.2.2.2.2.2.2.2.2.2.1,.int .i64 y1.2.2.2.2.2.2.2.2.2.2.2.2.2.2.2.2.2.2.2.2.2.2.2.2.2.2.2.2.2.2.2.2.2.2.2.2.2.2.2.2.2.2.2.2.2.2.2.2.2.2.2.2.2.2.2.2.2.2.2.2.2.2.2.2.2.2.2.2.2.2.2.2.2.2.2.2.2.2.1,.int .i64 y1.2.2.2.2.2.2.2.2.2.2.2.2.2.2.2.2.2.2.2.2.2.2.2.2.2.2.2.2.2.2.2.2.2.2.2.2.2.2.2.2.2.2.2.2.2.2.2.2.2.2.2.2.2.2.2.2.2.2.2.2.2.2.2.2.2.2.2.2.2.2.2.2.2.2.2.2.2.2.2.1] (Int.toNat y2.1*(4:Nat)) (.g [.s,.s,.i .i64,.i .i64]) fun y3 =>
  .br (ByteArray.toList y3.1 == x0.toList) (
   .ret [SR y3,.bool (true)]) <|
 .nx 0 [.vI (i64.wrap (y2.1+(1:Int))),.vS y2.2.1,.vS y2.2.2.1,.vI y2.2.2.2.1,.vI y2.2.2.2.2.1]) <|
 .ret [SR (ba,ba,(((0:Int)):Int),(((0:Int)):Int),()),.bool (false)]
theorem Cn x0:aP Cm 103 [.string x0] (q8 x0) :=aq
def IL:An:=⟨[(3,[.s 15,.c 3 0],[.oI,.oL])],[],[]⟩
def xo (x0:Ho):T :=
 .rq ((0:Int)<=(0:Int)/\(0:Int)<=i64.wrap ((↑x0.1.n:Int)+(1:Int))/\(↑(64:Nat):Int)*i64.wrap ((↑x0.1.n:Int)+(1:Int))<=(281474976710656:Int)/\i64.wrap ((↑x0.1.n:Int)+(1:Int))<=(9223372036854775807:Int)) <|
 .fz (Int.toNat (0:Int)) [] 93 fun b1 c1 =>
 .lp [.oI,.oL] [.vI 0,.v (.slice (qA b1) (Int.toNat (0:Int)) (c1))] fun y2 =>
 .bd (y2.1<(↑x0.1.n:Int)) (
  .el x0.1.1 (x0.1.n) y2.1 fun y3 =>
  .vO (y3.add (Int.toNat y2.1*(4:Nat))) fun y4 =>
  .rg <|
 .qc16 169 [ct y4.2] fun y5 =>
  .rL [Value.string y4.1,Value.string y5.1,Value.bool y5.2.1,Value.slice y5.2.2.1.1 y5.2.2.1.n y5.2.2.1.c] 1 4 <|
 .rq (one [Value.string y4.1,Value.string y5.1,Value.bool y5.2.1,Value.slice y5.2.2.1.1 y5.2.2.1.n y5.2.2.1.c]=true) <|
 .ap ({ a:=y2.2.1.1,n:=y2.2.1.n,c:=y2.2.1.c:ar }) 4 64 [.string y4.1,.string y5.1,.bool y5.2.1,qL y5.2.2.1] ((1:Nat)) 93 fun y6 =>
  .nx 0 [.vI (i64.wrap (y2.1+(1:Int))),.vL y6]) <|
 .ret [dJ y2.2]
theorem IM x0:aP IL 104 [dJ x0] (xo x0) :=aq
def Fz:An:=⟨[(3,[.s 3,.s 9],[.oL,.oI])],[],[]⟩
def tS (x0:ar):T :=
 .fz 0 [] 100 fun b1 c1 =>
 .lp [.oL,.oI] [.v (.slice (qA b1) 0 c1),.vI 0] fun y2 =>
 .bd (y2.2.1<(↑x0.n:Int)) (
  .el x0.1 (x0.n) y2.2.1 fun y3 =>
  .SZ (y3.add (Int.toNat y2.2.1*(4:Nat))) fun y4 =>
  .rg <|
 .qc39 170 [lS y4.2] fun y5 =>
  .rL [Value.string y4.1,Value.bool y5.1,Value.slice y5.2.1.1 y5.2.1.n y5.2.1.c,Value.slice y5.2.2.1.1 y5.2.2.1.n y5.2.2.1.c] 1 4 <|
 .rq (one [Value.string y4.1,Value.bool y5.1,Value.slice y5.2.1.1 y5.2.1.n y5.2.1.c,Value.slice y5.2.2.1.1 y5.2.2.1.n y5.2.2.1.c]=true) <|
 .ap ({ a:=y2.1.1,n:=y2.1.n,c:=y2.1.c:ar }) 4 72 [.string y4.1,.bool y5.1,qL y5.2.1,qL y5.2.2.1] ((1:Nat)) 100 fun y6 =>
  .nx 0 [.vL y6,.vI (i64.wrap (y2.2.1+(1:Int)))]) <|
 .ret [qL y2.1]
theorem FA x0:aP Fz 105 [qL x0] (tS x0) :=aq
def FB:An:=⟨[(3,[.s 12,.c 3 0,.c 3 1],[.oI,.oS,.oL])],[],[]⟩
def tT (x0:SS):T :=
 .lp [.oI,.oS,.oL] [.vI 0,.vS x0.1,.v (.slice none 0 0)] fun y1 =>
 .bd (y1.1<(↑x0.2.1.n:Int)) (
  .el x0.2.1.1 (x0.2.1.n) y1.1 fun y2 =>
  .zA (y2.add (Int.toNat y1.1*(5:Nat))) fun y3 =>
  .rg <|
 .S0 171 [fV y3] fun y4 =>
  .rL [Value.string y4.1,Value.string y4.2.1,Value.bool y4.2.2.1,Value.slice y4.2.2.2.1.1 y4.2.2.2.1.n y4.2.2.2.1.c,Value.int IntKind.i64 y4.2.2.2.2.1] 1 5 <|
 .rq (one [Value.string y4.1,Value.string y4.2.1,Value.bool y4.2.2.1,Value.slice y4.2.2.2.1.1 y4.2.2.2.1.n y4.2.2.2.1.c,Value.int IntKind.i64 y4.2.2.2.2.1]=true) <|
 .ap ({ a:=y1.2.2.1.1,n:=y1.2.2.1.n,c:=y1.2.2.1.c:ar }) 5 72 [.string y4.1,.string y4.2.1,.bool y4.2.2.1,qL y4.2.2.2.1,.int .i64 y4.2.2.2.2.1] ((1:Nat)) 86 fun y5 =>
  .nx 0 [.vI (i64.wrap (y1.1+(1:Int))),.vS y1.2.1,.vL y5]) <|
 .ret [iK y1.2]
theorem FC x0:aP FB 106 [iK x0] (tT x0) :=aq
def N6:An:=⟨[(5,[.s 4,.s 22],[.oL,.oI])],[],[(2000005,[.s 5])]⟩
noncomputable def zZ (x0:ByteArray):T :=
 .jl 172 [.string x0] fun y1 =>
 .el y1.1 (y1.n) ((0:Int)) fun y2 =>
 .iy (y2.add (Int.toNat (0:Int)*(1:Nat))) fun y3 =>
 .eR 173 [.string y3] fun y4 =>
 .rq ((0:Int)<=(1:Int)/\(1:Int)<=(↑y1.n:Int)/\(↑y1.n:Int)<=(↑y1.c:Int)/\(↑y1.c:Int)<=(↑y1.c:Int)) <|
 .jl 112 [.int .i64 y4] fun y5 =>
 .es [.int .i64 y4,.string ba,.string ba,.string ba,.string ba,.string ba,.bool (false),.slice none 0 0,.int .i64 0,.slice none 0 0,.slice none 0 0,.bool (false),.slice none 0 0,.int .i64 0,.string ba,.string ba,.bool (false),.slice none 0 0,.int .i64 0] 91 fun b6 =>
 .lp [.oL,.oI] [.v (.slice (if (↑y1.c:Int).toNat=Int.toNat (1:Int) then y1.1 else Option.map (fun x=>x.add (Int.toNat (1:Int)*Go.Proofs.Tryz.prog.types[(9:Nat)].size)) y1.1) ((↑y1.n:Int).toNat-Int.toNat (1:Int)) ((↑y1.c:Int).toNat-Int.toNat (1:Int))),.vI 0] fun y7 =>
 .bd (y7.2.1<(↑y5.n:Int)) (
  .el y5.1 (y5.n) y7.2.1 fun y8 =>
  .dy (y8.add (Int.toNat y7.2.1*(1:Nat))) fun y9 =>
  .eR 174 [.int .i64 y9] fun dM =>
  .bd ((↑y7.1.n:Int)<dM) (
   .ret [l8 ((((0:Int)):Int),ba,ba,ba,ba,ba,(false),ai,(((0:Int)):Int),ai,ai,(false),ai,(((0:Int)):Int),ba,ba,(false),ai,(((0:Int)):Int),()),.bool (false)]) <|
 .rq ((0:Int)<=(0:Int)/\(0:Int)<=dM/\dM<=(↑y7.1.c:Int)/\(↑y7.1.c:Int)<=(↑y7.1.c:Int)) <|
 .cM 114 [.slice (if (↑y7.1.c:Int).toNat=Int.toNat (0:Int) then y7.1.1 else Option.map (fun x=>x.add (Int.toNat (0:Int)*Go.Proofs.Tryz.prog.types[(9:Nat)].size)) y7.1.1) (dM.toNat-Int.toNat (0:Int)) ((↑y7.1.c:Int).toNat-Int.toNat (0:Int)),.string ⟨⟨[32]⟩⟩] fun gz =>
  .bN 175 [.pointer (qA b6),.string gz,.int .i64 y9] fun fe =>
  .bn fe (.ret [l8 ((((0:Int)):Int),ba,ba,ba,ba,ba,(false),ai,(((0:Int)):Int),ai,ai,(false),ai,(((0:Int)):Int),ba,ba,(false),ai,(((0:Int)):Int),()),.bool (false)]) <|
 .rq ((0:Int)<=dM/\dM<=(↑y7.1.n:Int)/\(↑y7.1.n:Int)<=(↑y7.1.c:Int)/\(↑y7.1.c:Int)<=(↑y7.1.c:Int)) <|
 .nx 0 [.v (.slice (if (↑y7.1.c:Int).toNat=dM.toNat then y7.1.1 else Option.map (fun x=>x.add (dM.toNat*Go.Proofs.Tryz.prog.types[(9:Nat)].size)) y7.1.1) ((↑y7.1.n:Int).toNat-dM.toNat) ((↑y7.1.c:Int).toNat-dM.toNat)),.vI (i64.wrap (y7.2.1+(1:Int)))]) <|
 .bd ((↑y7.1.n:Int) > (0:Int)) (
  .ret [l8 ((((0:Int)):Int),ba,ba,ba,ba,ba,(false),ai,(((0:Int)):Int),ai,ai,(false),ai,(((0:Int)):Int),ba,ba,(false),ai,(((0:Int)):Int),()),.bool (false)]) <|
 .ql51 ({ block:=b6,off:=(0:Nat):Addr }) fun y8 =>
 .bN 110 [l8 y8] fun y9 =>
 .bn y9 (.ret [l8 ((((0:Int)):Int),ba,ba,ba,ba,ba,(false),ai,(((0:Int)):Int),ai,ai,(false),ai,(((0:Int)):Int),ba,ba,(false),ai,(((0:Int)):Int),()),.bool (false)]) <|
 .ql51 ({ block:=b6,off:=(0:Nat):Addr }) fun dM =>
 .ret [l8 dM,.bool (true)]
theorem N7 x0:aP N6 107 [.string x0] (zZ x0) :=aq
def Da (x0:Int):T :=
 .fz 10 [.string ⟨⟨[111,107]⟩⟩,.string ⟨⟨[102,111,114,109]⟩⟩,.string ⟨⟨[99,117,114]⟩⟩,.string ⟨⟨[97,99,99,116]⟩⟩,.string ⟨⟨[104,97,118,101]⟩⟩,.string ⟨⟨[109,97,116,99,104]⟩⟩,.string ⟨⟨[114,97,116,101]⟩⟩,.string ⟨⟨[119,101,105,103,104,116]⟩⟩,.string ⟨⟨[108,97,114,103,101]⟩⟩,.string ⟨⟨[102,117,108,108]⟩⟩] 9 fun b1 c1 =>
 .cM 176 [.int .i64 x0,.slice (qA b1) 10 c1] fun y2 =>
 .ret [.string y2]
theorem TB x0:aP bX 108 [.int .i64 x0] (Da x0) :=aq
def IN (x0:nn) (x1:qy8):T :=
 .nq 177 [aU x0,l8 x1] fun y1 =>
 .br (y1.2.1 != (0:Int)) (
  .SY 53 [aU x0] fun y2 =>
  .ret [aU y2,.int .i64 y1.2.1]) <|
 .ret [aU y1.1,.int .i64 0]
theorem X' x0 x1:aP bX 109 [aU x0,l8 x1] (IN x0 x1) :=aq
end
end Go.Proofs.YtahmmgiiojjhgaaGreatDoor
