/-
  Loops over lists that lie in memory: two lists compared, a list measured, a list copied.
-/
import Derived.Test.YtccnjccabllcaaaGreatDoorRep
namespace Go.Proofs.YtccnjccabllcaaaGreatDoor
open Sx
section
variable {sh:List Sc} {α:Type}
def EqC (P:Program) (g:Nat) (e:Rp sh α):Prop:=∀ (V:Know) (c d:Scs sh) (x y:α) (f f':List Nat),e.R V c x f→e.R V d y f' →
 CallX P V g [Sh1.val (.g sh) c,Sh1.val (.g sh) d] (fun V' r=>V'=V∧∃ b,r=.bool b∧(b=true↔x=y))
def EqSC (P:Program) (g:Nat) (e:Rp sh α) (ex:List Value:=[]):Prop:=∀ (V:Know) (s s':SlV) (l l':List α) (f f':List Nat),LR e V s l f→LR e V s' l' f' →
 CallX P V g ([Sc.val .l s,Sc.val .l s']++ex) (fun V' r=>V'=V∧∃ b,r=.bool b∧(b=true↔l=l'))
def SzC (P:Program) (g:Nat) (e:Rp sh α):Prop:=∀ (V:Know) (c:Scs sh) (x:α) (f:List Nat) (left:Int),e.R V c x f→0≤left→left≤1048576 →
 CallX P V g [Sh1.val (.g sh) c,.int .i64 left] (fun V' r=>V'=V∧r=.int .i64 (szr (e.tot x) left))
def SzSC (P:Program) (g:Nat) (e:Rp sh α):Prop:=∀ (V:Know) (s:SlV) (l:List α) (f:List Nat) (left:Int),LR e V s l f→0≤left→left≤1048576 →
 CallX P V g [Sc.val .l s,.int .i64 left] (fun V' r=>V'=V∧r=.int .i64 (szr (l.length+totE e l) left))
def ToC (P:Program) (g:Nat) (e:Rp sh α):Prop:=∀ (V:Know) (c:Scs sh) (x:α) (f:List Nat),e.R V c x f→e.tot x≤1048576 →
 CallX P V g [Sh1.val (.g sh) c] (fun V' r=>V.le V'∧∃ c' f',r=Sh1.val (.g sh) c'∧e.R V' c' x f'∧Own V V' f')
def ToSC (P:Program) (g:Nat) (e:Rp sh α):Prop:=∀ (V:Know) (s:SlV) (l:List α) (f:List Nat),LR e V s l f→l.length+totE e l≤1048576 →
 CallX P V g [Sc.val .l s] (fun V' r=>V.le V'∧∃ s' f',r=Sc.val .l s'∧LR e V' s' l f'∧Own V V' f')
end
def tEq (n n':Nat) (body:LShs [.o (.o (.i .i64))]→T):T :=
 .br ((n:Int) != (n':Int)) (.ret [.bool false]) <|
 .lp [.o (.o (.i .i64))] [.v (.int .i64 (0:Int))] fun y =>
 .br (decide (y.fst<(n:Int))) (body y) <|
 .ret [.bool true]
theorem nxt {i n:Nat} (h:i<n) (hn:n≤9223372036854775807):IntKind.i64.wrap ((i:Int)+1)=((i+1:Nat):Int):=by
 rw [wrap_i64 (by omega)]; omega
theorem tEq_wp {α:Type} {P:Program} {body:LShs [.o (.o (.i .i64))]→T} {V V0:Know} {l l':List α} {n n':Nat} (hn:n=l.length) (hn':n'=l'.length) (hsz:n≤9223372036854775807)
  (hbody:∀ (i:Nat) (h:i<l.length) (h':i<l'.length) (K:Know→List Value→Prop) (N:List LV→Know→Prop),(l[i]≠l'[i]→K V [.bool false]) →
   (l[i]=l'[i]→N [.v (.int .i64 (IntKind.i64.wrap ((i:Int)+1)))] V)→(body ((i:Int),())).wp P K V V [N]) :
  (tEq n n' body).wp P (fun V' vs=>V'=V∧∃ b,packed vs=.bool b∧(b=true↔l=l')) V V0 []:=by
 subst hn hn'
 simp only [tEq,T.wp]
 refine⟨fun h=>⟨trivial,false,rfl,?_⟩,fun h=>?_⟩
 ·refine⟨(fun h=>by cases h),(fun e=>?_)⟩
  subst e
  simp at h
 have hlen:l.length=l'.length:=by
  have:¬ (((l.length:Nat):Int)≠((l'.length:Nat):Int)):=by simpa using h
  omega
 refine⟨fun y V'=>V'=V∧∃ i:Nat,y.1=(i:Int)∧i≤l.length∧l.take i=l'.take i,fun y=>((l.length:Int)-(y.1:Int)).toNat,⟨((0:Int),()),rfl,rfl,0,rfl,by omega,by simp⟩,?_⟩
 rintro⟨(i:Int),u⟩ V' ⟨rfl,k,hk,hle,heq⟩
 replace hk:i=(k:Int):=hk
 subst hk
 refine⟨fun h=>?_,fun h=>?_⟩
 ·have h1:k<l.length:=by
   have:(k:Int)<(l.length:Int):=by simpa using h
   omega
  refine hbody k h1 (by omega) _ _ (fun hne=>⟨rfl,false,rfl,⟨(fun h=>by cases h),(fun e=>(hne (by subst e; rfl)).elim)⟩⟩) fun he=>?_
  refine⟨(((k+1:Nat):Int),()),by rw [nxt h1 hsz]; rfl,⟨rfl,k+1,rfl,h1,?_⟩,?_⟩
  ·rw [List.take_succ_eq_append_getElem h1,List.take_succ_eq_append_getElem (by omega),heq,he]
  ·show((l.length:Int)-((k+1:Nat):Int)).toNat<((l.length:Int)-(k:Int)).toNat
   omega
 ·have h1:k=l.length:=by
   have:¬ (k:Int)<(l.length:Int):=by simpa using h
   omega
  subst h1
  refine⟨rfl,true,rfl,fun _=>?_,fun _=>rfl⟩
  rw [List.take_length] at heq
  rw [heq,hlen,List.take_length]
section
variable {sh:List Sc} {α:Type} {P:Program} {e:Rp sh α} {V V0:Know} {s s':SlV} {l l':List α} {f f':List Nat}
def tEqS (g:Nat) (sh:List Sc) (m:Nat) (x0 x1:SlV):T:=tEq x0.n x1.n fun y1 =>
 .rg <| .el x0.a x0.n y1.fst fun y2=>.ld true (y2.add (Int.toNat y1.fst*m)) (.g sh) fun y3 =>
 .el x1.a x1.n y1.fst fun y4=>.ld true (y4.add (Int.toNat y1.fst*m)) (.g sh) fun y5 =>
 .call false g [Sh1.val (.g sh) y3,Sh1.val (.g sh) y5] (.v (.o .b)) fun y6 =>
 .br (!y6) (.ret [.bool false]) <| .nx 0 [.v (.int .i64 (IntKind.i64.wrap (y1.fst+(1:Int))))]
def tEqI (x0 x1:SlV):T:=tEq x0.n x1.n fun y1 =>
 .rg <| .el x0.a x0.n y1.fst fun y2=>.ld true (y2.add (Int.toNat y1.fst*(1:Nat))) (.o (.i .i64)) fun y3 =>
 .el x1.a x1.n y1.fst fun y4=>.ld true (y4.add (Int.toNat y1.fst*(1:Nat))) (.o (.i .i64)) fun y5 =>
 .br (y3 != y5) (.ret [.bool false]) <| .nx 0 [.v (.int .i64 (IntKind.i64.wrap (y1.fst+(1:Int))))]
theorem tEqS_wp {g m:Nat} (hm:m=sh.length) (hg:EqC P g e) (h:LR e V s l f) (h':LR e V s' l' f') :
  (tEqS g sh m s s').wp P (fun V' vs=>V'=V∧∃ b,packed vs=.bool b∧(b=true↔l=l')) V V0 []:=by
 subst hm
 refine tEq_wp h.1 h'.1 (h.2.2.1) fun i hi hi' K N hK hN=>?_
 obtain⟨b1,o1,c1,f1,a1,l1,r1,_⟩:=h.at hi
 obtain⟨b2,o2,c2,f2,a2,l2,r2,_⟩:=h'.at hi'
 have hn1:=h.1
 have hn2:=h'.1
 refine⟨_,a1,by omega,(by omega:(i:Int)<(s.n:Int)),c1,l1,_,a2,by omega,(by omega:(i:Int)<(s'.n:Int)),c2,l2,(hg V _ _ _ _ _ _ r1 r2).mono ?_⟩
 rintro V' r ⟨rfl,b,rfl,hb⟩
 refine⟨fun _=>Know.le.refl _,b,rfl,fun h=>hK fun e=>?_,fun h=>⟨_,rfl,hN (hb.1 ?_)⟩⟩
 ·rw [hb.2 e] at h; cases h
 ·cases b
  ·cases h
  ·rfl
end
abbrev rI:Rp [.i .i64] (Int × Unit):=rInt rNil
theorem LR.int {V:Know} {s:SlV} {l:List (Int × Unit)} {f:List Nat} (h:LR rI V s l f) {i:Nat} (hi:i<l.length) :
  ∃ b o,s.a=some ⟨b,o,none⟩∧loadV V ((⟨b,o,none⟩:Addr).add (i*1)) 1=some [.int .i64 l[i].1]:=by
 obtain⟨b1,o1,c1,f1,a1,l1,r1,_⟩:=h.at hi
 refine⟨b1,o1,a1,?_⟩
 have e:c1.1=l[i].1:=r1.1
 rw [← e]; exact l1
theorem tEqI_wp {P:Program} {V V0:Know} {s s':SlV} {l l':List (Int × Unit)} {f f':List Nat} (h:LR rI V s l f) (h':LR rI V s' l' f') :
  (tEqI s s').wp P (fun V' vs=>V'=V∧∃ b,packed vs=.bool b∧(b=true↔l=l')) V V0 []:=by
 refine tEq_wp h.1 h'.1 (h.2.2.1) fun i hi hi' K N hK hN=>?_
 obtain⟨b1,o1,a1,l1⟩:=h.int hi
 obtain⟨b2,o2,a2,l2⟩:=h'.int hi'
 have hn1:=h.1
 have hn2:=h'.1
 refine⟨_,a1,by omega,(by omega:(i:Int)<(s.n:Int)),l[i].1,l1,_,a2,by omega,(by omega:(i:Int)<(s'.n:Int)),l'[i].1,l2,fun h=>hK fun e=>?_,fun h=>⟨_,rfl,hN ?_⟩⟩
 ·rw [e] at h; simp at h
 ·have:l[i].1=l'[i].1:=by simpa using h
  exact Prod.ext this rfl
def tSzS (g:Nat) (sh:List Sc) (m:Nat) (x0:SlV) (x1:Int):T :=
 .br (decide (IntKind.i64.wrap (x1-(x0.n:Int))<(0:Int))) (.ret [.int .i64 (-1:Int)]) <|
 .lp [.o (.o (.i .i64)),.o (.o (.i .i64))] [.v (.int .i64 (IntKind.i64.wrap (x1-(x0.n:Int)))),.v (.int .i64 (0:Int))] fun y1 =>
 .br (decide (y1.2.fst<(x0.n:Int))) (
  .el x0.a x0.n y1.2.fst fun y2 =>
  .ld false (y2.add (Int.toNat y1.2.fst*m)) (.g sh) fun y3 =>
  .call false g [Sh1.val (.g sh) y3,.int .i64 y1.fst] (.v (.o (.i .i64))) fun y4 =>
  .br (decide (y4<(0:Int))) (.ret [.int .i64 (-1:Int)]) <|
  .nx 0 [.v (.int .i64 y4),.v (.int .i64 (IntKind.i64.wrap (y1.2.fst+(1:Int))))]) <|
 .ret [.int .i64 y1.fst]
theorem totE_drop {sh:List Sc} {α:Type} (e:Rp sh α) {l:List α} {i:Nat} (h:i<l.length):totE e (l.drop i)=e.tot l[i]+totE e (l.drop (i+1)):=by
 rw [List.drop_eq_getElem_cons h]; rfl
theorem tSzS_wp {sh:List Sc} {α:Type} {P:Program} {e:Rp sh α} {V V0:Know} {s:SlV} {l:List α} {f:List Nat} {g m:Nat} {left:Int} (hm:m=sh.length) (hg:SzC P g e) (h:LR e V s l f) (h0:0≤left) (h1:left≤1048576) :
  (tSzS g sh m s left).wp P (fun V' vs=>V'=V∧packed vs=.int .i64 (szr (l.length+totE e l) left)) V V0 []:=by
 subst hm
 have hn:=h.1
 have hb:=h.2.2.1
 have hw:IntKind.i64.wrap (left-(s.n:Int))=left-(l.length:Int):=by rw [wrap_i64 (by omega),hn]
 simp only [tSzS,T.wp]
 rw [hw]
 refine⟨fun hlt=>⟨trivial,?_⟩,fun hge=>?_⟩
 ·have:left-(l.length:Int)<0:=by simpa using hlt
  rw [szr_neg (by omega)]; rfl
 have hle:(l.length:Int)≤left:=by
  have:¬ left-(l.length:Int)<0:=by simpa using hge
  omega
 refine⟨fun y V'=>V'=V∧∃ i:Nat,y.2.1=(i:Int)∧i≤l.length∧0≤(y.1:Int)∧(y.1:Int)≤1048576∧szr (totE e (l.drop i)) y.1=szr (l.length+totE e l) left,
  fun y=>((l.length:Int)-(y.2.1:Int)).toNat,⟨(left-(l.length:Int),(0:Int),()),rfl,rfl,0,rfl,by omega,(by omega:(0:Int)≤left-(l.length:Int)),(by omega:left-(l.length:Int)≤1048576),?_⟩,?_⟩
 ·rw [szr_add hle,szr_ge hle]; rfl
 rintro⟨(k:Int),(i:Int),u⟩ V' ⟨rfl,j,hj,hjl,hk0,hk1,hs⟩
 replace hj:i=(j:Int):=hj
 replace hk0:0≤k:=hk0
 replace hk1:k≤1048576:=hk1
 replace hs:szr (totE e (l.drop j)) k=szr (l.length+totE e l) left:=hs
 subst hj
 refine⟨fun hlt=>?_,fun hge=>?_⟩
 ·have hi:j<l.length:=by
   have:(j:Int)<(s.n:Int):=by simpa using hlt
   omega
  obtain⟨b1,o1,c1,f1,a1,l1,r1,_⟩:=h.at hi
  refine⟨_,a1,(by omega:(0:Int)≤(j:Int)),(by omega:(j:Int)<(s.n:Int)),c1,l1,(hg _ _ _ _ k r1 hk0 hk1).mono ?_⟩
  rintro V' r ⟨rfl,rfl⟩
  rw [totE_drop e hi] at hs
  refine⟨nofun,szr (e.tot l[j]) k,rfl,fun hneg=>⟨rfl,?_⟩,fun hpos=>?_⟩
  ·have:szr (e.tot l[j]) k<0:=by simpa using hneg
   rw [← hs,szr_neg (szr_lt.1 this)]; rfl
  ·have hp:(e.tot l[j]:Int)≤k:=by
    have:¬ szr (e.tot l[j]) k<0:=by simpa using hpos
    exact Decidable.not_not.1 fun h=>this (szr_lt.2 h)
   have hsz:=szr_ge hp
   refine⟨_,rfl,(szr (e.tot l[j]) k,((j+1:Nat):Int),()),by rw [nxt hi (by omega)]; rfl,⟨rfl,j+1,rfl,hi,?_,?_,?_⟩,?_⟩
   ·show 0≤szr (e.tot l[j]) k
    omega
   ·show szr (e.tot l[j]) k≤1048576
    omega
   ·show szr (totE e (l.drop (j+1))) (szr (e.tot l[j]) k)=_
    rw [← szr_add hp]; exact hs
   ·show((l.length:Int)-((j+1:Nat):Int)).toNat<((l.length:Int)-(j:Int)).toNat
    omega
 ·have hi:j=l.length:=by
   have:¬ (j:Int)<(s.n:Int):=by simpa using hge
   omega
  subst hi
  refine⟨rfl,?_⟩
  rw [List.drop_length] at hs
  rw [← hs]
  have:szr 0 k=k:=by unfold szr; rw [if_pos (by omega)]; omega
  show Value.int .i64 k=Value.int .i64 (szr 0 k)
  rw [this]
def tToS (ty:TypeId) (bytes:Nat) (z:List Value) (g:Nat) (sh:List Sc) (m:Nat) (x0:SlV):T :=
 .rq ((0:Int)≤(x0.n:Int)∧(x0.n:Int)≤(x0.n:Int)∧((bytes:Nat):Int)*(x0.n:Int)≤(281474976710656:Int)∧(x0.n:Int)≤(9223372036854775807:Int)) <|
 .lp [.a ty,.o (.o (.i .i64))] [.a ty ((x0.n:Int).toNat) ((madeCells ⟨z⟩ ((x0.n:Int).toNat*m)).toList),.v (.int .i64 (0:Int))] fun y1 =>
 .br (decide (y1.2.fst<(x0.n:Int))) (
  .el x0.a x0.n y1.2.fst fun y2 =>
  .ld false (y2.add (Int.toNat y1.2.fst*m)) (.g sh) fun y3 =>
  .call false g [Sh1.val (.g sh) y3] (.v (.g sh)) fun y4 =>
  .rq ((0:Int)≤y1.2.fst∧y1.2.fst<(y1.1.fst:Int)) <|
  .rq (Int.toNat y1.2.fst*m+(Scs.vals sh y4).length≤y1.1.snd.length) <|
  .nx 0 [.a ty y1.1.fst (setl y1.1.snd (Int.toNat y1.2.fst*m) (Scs.vals sh y4)),.v (.int .i64 (IntKind.i64.wrap (y1.2.fst+(1:Int))))]) <|
 .fz y1.1.fst y1.1.snd ty fun b2 c2 =>
 .ret [.slice (some { block:=b2,off:=0:Addr }) y1.1.fst c2]
def tToI (ty:TypeId) (x0:SlV):T :=
 .rq ((0:Int)≤(x0.n:Int)∧(x0.n:Int)≤(x0.n:Int)∧((8:Nat):Int)*(x0.n:Int)≤(281474976710656:Int)∧(x0.n:Int)≤(9223372036854775807:Int)) <|
 .lp [.a ty,.o (.o (.i .i64))] [.a ty ((x0.n:Int).toNat) ((madeCells ⟨[.int .i64 (0:Int)]⟩ ((x0.n:Int).toNat*(1:Nat))).toList),.v (.int .i64 (0:Int))] fun y1 =>
 .br (decide (y1.2.fst<(x0.n:Int))) (
  .el x0.a x0.n y1.2.fst fun y2 =>
  .ld false (y2.add (Int.toNat y1.2.fst*(1:Nat))) (.o (.i .i64)) fun y3 =>
  .rq ((0:Int)≤y1.2.fst∧y1.2.fst<(y1.1.fst:Int)) <|
  .rq (Int.toNat y1.2.fst*(1:Nat)+[(Sh1.o (.i .i64)).val y3].length≤y1.1.snd.length) <|
  .nx 0 [.a ty y1.1.fst (setl y1.1.snd (Int.toNat y1.2.fst*(1:Nat)) [(Sh1.o (.i .i64)).val y3]),.v (.int .i64 (IntKind.i64.wrap (y1.2.fst+(1:Int))))]) <|
 .fz y1.1.fst y1.1.snd ty fun b2 c2 =>
 .ret [.slice (some { block:=b2,off:=0:Addr }) y1.1.fst c2]
theorem made_len (z:Array Value) (n:Nat):(madeCells z n).toList.length=n:=by
 unfold madeCells
 simp
theorem setl_mid {x y z:List Value} {n:Nat} (h:n=x.length) (_:z.length≤y.length):setl (x++y) n z=x++(z++y.drop z.length):=by
 subst h
 simp only [setl]
 rw [List.take_left,← List.drop_drop,List.drop_left,List.append_assoc]
theorem flat_len {sh:List Sc}:∀ cs:List (Scs sh),(cs.flatMap (Scs.vals sh)).length=cs.length*sh.length
 | []=>by simp
 | c :: cs=>by rw [List.flatMap_cons,List.length_append,vals_len,flat_len cs,List.length_cons,Nat.add_mul,Nat.one_mul,Nat.add_comm]
theorem toLoop {sh:List Sc} {α:Type} {P:Program} {e:Rp sh α} {V V0:Know} {n:Nat} {l:List α} {ty:TypeId} {z:Array Value} {body:LShs [.a ty,.o (.o (.i .i64))]→T}
  (hn:n=l.length) (hsz:n≤9223372036854775807)
  (hbody:∀ (V':Know) (i:Nat) (hi:i<l.length) (ys:List Value) (K:Know→List Value→Prop) (N:List LV→Know→Prop),V.le V'→i*sh.length+sh.length≤ys.length →
   (∀ V2 c f,V'.le V2→e.R V2 c l[i] f→Own V' V2 f→N [.a ty n (setl ys (i*sh.length) (Scs.vals sh c)),.v (.int .i64 (IntKind.i64.wrap ((i:Int)+1)))] V2)→(body ((n,ys),(i:Int),())).wp P K V' V' [N]) :
  (T.lp [.a ty,.o (.o (.i .i64))] [.a ty n ((madeCells z (n*sh.length)).toList),.v (.int .i64 (0:Int))] fun y1 =>
   .br (decide (y1.2.fst<(n:Int))) (body y1) <| .fz y1.1.fst y1.1.snd ty fun b2 c2=>.ret [.slice (some { block:=b2,off:=0:Addr }) y1.1.fst c2]).wp P
   (fun V' vs=>V.le V'∧∃ s' f',packed vs=Sc.val .l s'∧LR e V' s' l f'∧Own V V' f') V V0 []:=by
 subst hn
 simp only [T.wp]
 refine⟨fun y V'=>V.le V'∧∃ (i:Nat) (cs:List (Scs sh)) (fps:List Nat) (rest:List Value),y.2.1=(i:Int)∧i≤l.length∧y.1.1=l.length∧y.1.2=cs.flatMap (Scs.vals sh)++rest∧rest.length=(l.length-i)*sh.length ∧
   Els e V' cs (l.take i) fps∧Own V V' fps,fun y=>((l.length:Int)-(y.2.1:Int)).toNat,
  ⟨((l.length,(madeCells z (l.length*sh.length)).toList),(0:Int),()),rfl,Know.le.refl _,0,[],[],_,rfl,by omega,rfl,rfl,by rw [made_len]; simp,by simp [Els],Own.nil⟩,?_⟩
 rintro⟨⟨n1,ys⟩,(i:Int),u⟩ V' ⟨hle,j,cs,fps,rest,hj,hjl,hn1,hys,hrest,hels,hown⟩
 replace hj:i=(j:Int):=hj
 replace hn1:n1=l.length:=hn1
 replace hys:ys=cs.flatMap (Scs.vals sh)++rest:=hys
 subst hj hn1
 have hcl:cs.length=j:=by rw [hels.len]; simp; omega
 have hfl:(cs.flatMap (Scs.vals sh)).length=j*sh.length:=by
  rw [← hcl]
  exact flat_len cs
 refine⟨fun hlt=>?_,fun hge=>?_⟩
 ·have hi:j<l.length:=by
   have:(j:Int)<(l.length:Int):=by simpa using hlt
   omega
  have hr1:sh.length≤rest.length:=by
   rw [hrest]
   exact Nat.le_mul_of_pos_left _ (by omega)
  refine hbody V' j hi ys _ _ hle (by rw [hys]; simp only [List.length_append]; omega) fun V2 c fc hle2 hR hO=>?_
  refine⟨((l.length,setl ys (j*sh.length) (Scs.vals sh c)),((j+1:Nat):Int),()),by rw [nxt hi hsz]; rfl,⟨hle.trans hle2,j+1,cs++[c],fps++fc,rest.drop sh.length,rfl,hi,rfl,?_,?_,?_,hown.append hO hle hle2⟩,?_⟩
  ·show setl ys (j*sh.length) (Scs.vals sh c)=_
   rw [hys,setl_mid hfl.symm (by rw [vals_len]; exact hr1),vals_len]
   simp
  ·rw [List.length_drop,hrest,← Nat.sub_one_mul]
   congr 1
  ·rw [List.take_succ_eq_append_getElem hi]
   exact(hels.le hle2).snoc hR
  ·show((l.length:Int)-((j+1:Nat):Int)).toNat<((l.length:Int)-(j:Int)).toNat
   omega
 ·have hi:j=l.length:=by
   have:¬ (j:Int)<(l.length:Int):=by simpa using hge
   omega
  subst hi
  have hr0:rest=[]:=List.eq_nil_of_length_eq_zero (by rw [hrest,Nat.sub_self,Nat.zero_mul])
  subst hr0
  rw [List.take_length] at hels
  intro b cap spare hb hcap _
  have hV:=kset_le (x:=(ys++spare,(ty,(0,0)))) hb
  refine⟨hle.trans hV,⟨some ⟨b,0,none⟩,l.length,cap⟩,b :: fps,rfl,⟨rfl,hcap,hsz,.inr ⟨b,[],spare,(ty,(0,0)),fps,cs,rfl,?_,hels.le hV,rfl⟩⟩,?_,?_,?_⟩
  ·rw [kset_same,hys]; simp
  ·refine List.nodup_cons.2 ⟨fun hm=>?_,hown.1⟩
   obtain⟨c,t,hk⟩:=hown.2.2 b hm
   rw [hb] at hk; cases hk
  ·intro b' hb'
   rcases List.mem_cons.1 hb' with rfl | hb'
   ·exact none_of_le hle hb
   ·exact hown.2.1 b' hb'
  ·intro b' hb'
   rcases List.mem_cons.1 hb' with rfl | hb'
   ·exact⟨_,_,kset_same⟩
   ·exact hown.2.2.le hV b' hb'
theorem guard_ok {n bytes:Nat} (h:n≤1048576) (hb:bytes≤4096):(0:Int)≤(n:Int)∧(n:Int)≤(n:Int)∧((bytes:Nat):Int)*(n:Int)≤(281474976710656:Int)∧(n:Int)≤(9223372036854775807:Int):=by
 have h1:bytes*n≤4096*1048576:=Nat.mul_le_mul hb h
 have h2:((bytes:Nat):Int)*(n:Int)=((bytes*n:Nat):Int):=by rw [Int.natCast_mul]
 rw [h2]
 omega
theorem totE_mem {sh:List Sc} {α:Type} (e:Rp sh α) {l:List α} {i:Nat} (h:i<l.length):e.tot l[i]≤totE e l:=by
 induction l generalizing i with
 | nil=>simp at h
 | cons a l ih =>
  cases i with
  | zero=>simp [totE]
  | succ i =>
   have:=ih (i:=i) (by simpa using h)
   simp only [List.getElem_cons_succ,totE]
   omega
theorem tToS_wp {sh:List Sc} {α:Type} {P:Program} {e:Rp sh α} {V V0:Know} {s:SlV} {l:List α} {f:List Nat} {g m bytes:Nat} {ty:TypeId} {z:List Value} (hm:m=sh.length) (hby:bytes≤4096) (hg:ToC P g e) (h:LR e V s l f) (ht:l.length+totE e l≤1048576) :
  (tToS ty bytes z g sh m s).wp P (fun V' vs=>V.le V'∧∃ s' f',packed vs=Sc.val .l s'∧LR e V' s' l f'∧Own V V' f') V V0 []:=by
 subst hm
 have hn:=h.1
 unfold tToS
 refine⟨guard_ok (by omega) hby,?_⟩
 refine toLoop (e:=e) hn h.2.2.1 fun V' i hi ys K N hle hfit hN=>?_
 obtain⟨b1,o1,c1,f1,a1,l1,r1,_⟩:=(h.le hle).at hi
 have htx:=totE_mem e hi
 refine⟨_,a1,(by omega:(0:Int)≤(i:Int)),(by omega:(i:Int)<(s.n:Int)),c1,l1,(hg V' c1 l[i] f1 r1 (by omega)).mono ?_⟩
 rintro V2 r ⟨hle2,c',f',rfl,hR,hO⟩
 refine⟨nofun,c',rfl,⟨(by omega:(0:Int)≤(i:Int)),(by omega:(i:Int)<(s.n:Int))⟩,?_,_,rfl,hN V2 c' f' hle2 hR hO⟩
 rw [vals_len]
 exact hfit
theorem tToI_wp {P:Program} {V V0:Know} {s:SlV} {l:List (Int × Unit)} {f:List Nat} {ty:TypeId} (h:LR rI V s l f) (ht:l.length+totE rI l≤1048576) :
  (tToI ty s).wp P (fun V' vs=>V.le V'∧∃ s' f',packed vs=Sc.val .l s'∧LR rI V' s' l f'∧Own V V' f') V V0 []:=by
 have hn:=h.1
 unfold tToI
 refine⟨guard_ok (by omega) (by omega),?_⟩
 refine toLoop (e:=rI) hn h.2.2.1 fun V' i hi ys K N hle hfit hN=>?_
 obtain⟨b1,o1,a1,l1⟩:=(h.le hle).int hi
 refine⟨_,a1,(by omega:(0:Int)≤(i:Int)),(by omega:(i:Int)<(s.n:Int)),l[i].1,l1,⟨(by omega:(0:Int)≤(i:Int)),(by omega:(i:Int)<(s.n:Int))⟩,hfit,_,rfl,?_⟩
 exact hN V' (l[i].1,()) [] (Know.le.refl _) ⟨rfl,rfl⟩ Own.nil
end Go.Proofs.YtccnjccabllcaaaGreatDoor
