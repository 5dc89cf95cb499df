/-
  Loops over lists of texts.
-/
import Derived.Test.YtahmmgiiojjhgaaGreatDoorWr
import Derived.Test.YtahmmgiiojjhgaaGreatDoorTA
namespace Go.Proofs.YtahmmgiiojjhgaaGreatDoor
open Go.Proofs.Tryz (prog)
open Go.IntKind
open Sx
set_option maxRecDepth 100000
theorem wrap_u64 {n:Int} (h:0<=n/\n<=9223372036854775807):IntKind.u64.wrap n=n:=by
 simp only [IntKind.wrap];have h2:IntKind.u64.bits=64:=rfl;have h4:IntKind.u64.signed=false:=rfl;simp only [h2,h4,Bool.false_and];have h3:n % 2 ^ 64=n:=Int.emod_eq_of_lt h.1 (by omega);rw [h3]; rfl
theorem il {o:List aI} {i:Nat} {x:Int} (h:i<o.length):aX (o.map ag) i [.int .i64 x]=(o.set i (x,())).map ag:=by
 have e1:o.map ag=(o.take i).map ag++(o.drop i).map ag:=by rw [<- List.map_append,List.take_append_drop]
 have e3:(o.drop i).map ag=ag o[i] :: (o.drop (i+1)).map ag:=by rw [List.drop_eq_getElem_cons h]; rfl
 rw [e1,iL (by simp; omega) (by simp; omega),List.set_eq_take_append_cons_drop,if_pos h,e3]
 simp [ag]
theorem AT {o:List aI} {i:Nat} (h:i<o.length):fj (o.map ag) i 1=some [.int .i64 (ab o i)]:=by
 have e1:o.map ag=(o.take i).map ag++(o.drop i).map ag:=by rw [<- List.map_append,List.take_append_drop]
 have e3:(o.drop i).map ag=[ag o[i]]++(o.drop (i+1)).map ag:=by rw [List.drop_eq_getElem_cons h]; rfl
 have:=eH (x:=(o.take i).map ag) (y:=(o.drop i).map ag) (o:=0) (n:=1);rw [show((o.take i).map ag).length+0=i by simp; omega] at this
 rw [e1,this,e3,aV h];exact fK
theorem nB (n:Nat):(madeCells ⟨[.int .i64 (0:Int)]⟩ n).toList=(Rs n).map ag:=by
 refine List.ext_getElem (by rw [tD,List.length_map,ot]) fun i h1 h2=>?_
 simp [madeCells,Rs,ag,Nat.mod_one]
theorem Rt {a:Option Addr} {k:Nat}:(if k=Int.toNat (0:Int) then a else Option.map (fun x=>x.add (Int.toNat (0:Int)*prog.types[(3:Nat)].size)) a)=a:=by
 split
 ·rfl
 cases a with
 | none=>rfl
 | some ad=>simp [Addr.add]
abbrev JN (V:aa) (s:ar) (l:List aI) (f:List Nat):aa->Value->Prop:=fun V' r=>V'=V/\∃ s',r=qL s'/\s'=⟨s.a,tl l l.length,s.c⟩/\LR rI V s' (db l) f
theorem uw (V:aa) (s:ar) (l:List aI) (f:List Nat) (h:LR rI V s l f) :
  ae prog V 270 [qL s] (JN V s l f):=by
 refine aM (Rm s) fun _=>?_
 simp only [FO,T.wp];refine⟨fun y V'=>V'=V/\∃ m:Nat,m<=l.length/\tl l m=tl l l.length/\y.1=⟨s.a,m,s.c⟩,fun y=>y.1.n,
  ⟨(s,()),rfl,rfl,l.length,Nat.le_refl _,rfl,by rw [<- h.1]⟩,?_⟩
 rintro⟨s1,u⟩ V' ⟨rfl,m,hm,vT,BW⟩;replace BW:s1=⟨s.a,m,s.c⟩:=BW;subst BW;have hL:=h.shrink hm;have dd:=hL.2.1;have jT:=hL.2.2.1;replace dd:m<=s.c:=dd;replace jT:m<=9223372036854775807:=jT;refine⟨fun df=>?_,fun hz=>?_⟩
 ·have hp:(m:Int) > 0:=bq df
  obtain⟨j,rfl⟩:∃ j,m=j+1:=⟨m-1,by omega⟩;have BY:j<l.length:=by omega
  obtain⟨b,o,a1,l1⟩:=h.int BY;have hw:i64.wrap (((j+1:Nat):Int)-1)=(j:Int):=by rw [wrap_i64 (by omega)]; omega
  show ∃ ad,s.a=some ad/\_
  rw [hw];refine⟨_,a1,(by omega:(0:Int)<=(j:Int)),(by omega:(j:Int)<((j+1:Nat):Int)),l[j].1,l1,fun h0=>?_,fun h0=>?_⟩
  ·have e0:ab l j=0:=by
    rw [aV BY];simpa using h0
   refine⟨⟨(by omega:(0:Int)<=0),(by omega:(0:Int)<=(j:Int)),(by omega:(j:Int)<=(s.c:Int)),(by omega:(s.c:Int)<=(s.c:Int))⟩,_,rfl,((⟨if (s.c:Int).toNat=Int.toNat (0:Int) then s.a else Option.map (fun x=>x.add (Int.toNat (0:Int)*prog.types[(3:Nat)].size)) s.a,(j:Int).toNat-Int.toNat (0:Int),(s.c:Int).toNat-Int.toNat (0:Int)⟩:ar),()),rfl,⟨rfl,j,by omega,by rw [<- vT,tl,if_pos e0],?_⟩,?_⟩
   ·show(⟨_,_,_⟩:ar)=_
    rw [Rt]
    congr 1
   show(j:Int).toNat-Int.toNat (0:Int)<j+1
   omega
  have e0:ab l j≠0:=by
   rw [aV BY];simpa using h0
  rw [tl,if_neg e0] at vT;refine⟨rfl,_,rfl,by rw [<- vT],?_⟩
  unfold db;rw [<- vT]; exact hL
 have EJ:¬ (m:Int) > 0:=bU hz;have:m=0:=by omega
 subst this;rw [tl] at vT;refine⟨rfl,_,rfl,by rw [<- vT],?_⟩
 unfold db;rw [<- vT]; exact hL
theorem hY (V:aa) (s:ar) (l:List aI) (f:List Nat) (h:LR rI V s l f) :
  ae prog V 245 [qL s] (JN V s l f):=by
 refine aM (OG s) fun _=>?_
 have hn:=h.1;have dd:=h.2.1;have jT:=h.2.2.1;simp only [Ay,T.wp,Rt];refine⟨fun y V'=>V'=V/\∃ m:Nat,m<=l.length/\tl l m=tl l l.length/\y.1=(m:Int),fun y=>(y.1:Int).toNat,
  ⟨((s.n:Int),()),rfl,rfl,l.length,Nat.le_refl _,rfl,by rw [<- hn]⟩,?_⟩
 rintro⟨(i:Int),u⟩ V' ⟨rfl,m,hm,vT,hi⟩;replace hi:i=(m:Int):=hi;subst hi;have hL:=h.shrink hm;have fin:∀ k:Nat,k<=l.length->(m:Int)=(k:Int)->tl l l.length=k->(0:Int)<=0/\(0:Int)<=(m:Int)/\(m:Int)<=(s.c:Int)/\(s.c:Int)<=(s.c:Int):=by
  intro k hk e _;exact⟨by omega,by omega,by omega,by omega⟩
 have fin2:tl l l.length=m->(Value.slice s.a ((m:Int).toNat-Int.toNat (0:Int)) ((s.c:Int).toNat-Int.toNat (0:Int))=qL ⟨s.a,m,s.c⟩)/\(⟨s.a,m,s.c⟩:ar)=⟨s.a,tl l l.length,s.c⟩/\LR rI V' ⟨s.a,m,s.c⟩ (db l) f:=by
  intro e;refine⟨rfl,by rw [e],?_⟩
  unfold db;rw [e]; exact hL
 refine⟨fun df=>?_,fun hz=>?_⟩
 ·have hp:(m:Int) > 0:=bq df
  obtain⟨j,rfl⟩:∃ j,m=j+1:=⟨m-1,by omega⟩;have BY:j<l.length:=by omega
  obtain⟨b,o,a1,l1⟩:=h.int BY;have hw:i64.wrap (((j+1:Nat):Int)-1)=(j:Int):=by rw [wrap_i64 (by omega)]; omega
  show ∃ ad,s.a=some ad/\_
  rw [hw];refine⟨_,a1,(by omega:(0:Int)<=(j:Int)),(by omega:(j:Int)<(s.n:Int)),l[j].1,l1,fun h0=>?_,fun h0=>?_⟩
  ·have e0:ab l j=0:=by
    rw [aV BY];simpa using h0
   refine⟨_,rfl,((j:Int),()),rfl,⟨rfl,j,by omega,by rw [<- vT,tl,if_pos e0],rfl⟩,?_⟩
   show(j:Int).toNat<((j+1:Nat):Int).toNat
   omega
  have e0:ab l j≠0:=by
   rw [aV BY];simpa using h0
  rw [tl,if_neg e0] at vT;exact⟨fin _ hm rfl vT.symm,rfl,_,fin2 vT.symm⟩
 have EJ:¬ (m:Int) > 0:=bU hz;have:m=0:=by omega
 subst this;rw [tl] at vT;exact⟨fin _ hm rfl vT.symm,rfl,_,fin2 vT.symm⟩
abbrev DR (V:aa) (a:List aI) (d:Int):aa->Value->Prop:=fun V' r=>V.le V'/\∃ s' q r' f',r=.tuple #[qL s',.int .i64 r']/\LR rI V' s' q f'/\cQ V V' f'/\Can q/\af a=af q*d+r'/\0<=r'/\r'<d/\q.length<=a.length
theorem xU (V:aa) (s:ar) (a:List aI) (f:List Nat) (d:Int) (h:LR rI V s a f) (ha:bK a) (la:a.length<=1000000) (hd:0<d/\d<=1000000000) :
  ae prog V 266 [qL s,.int .i64 d] (DR V a d):=by
 refine aM (Jo _ _) fun _=>?_
 have hn:=h.1;simp only [xH,T.wp];refine⟨⟨by omega,by omega,by omega,by omega⟩,?_⟩
 refine⟨fun y V'=>V'=V/\∃ (k:Nat) (o:List aI),y.2.2.1=(k:Int)-1/\k<=a.length/\0<=(y.2.1:Int)/\(y.2.1:Int)<d/\y.1.1=a.length/\y.1.2=o.map ag/\o.length=a.length/\bK o/\(∀ j,j<k->ab o j=0)/\af o*d+(y.2.1:Int)*1000000000 ^ k+ak a k=af a,
  fun y=>((y.2.2.1:Int)+1).toNat,⟨(((s.n:Int).toNat,(madeCells ⟨[.int .i64 (0:Int)]⟩ ((s.n:Int).toNat*1)).toList),(0:Int),(s.n:Int)-1,()),by rw [wrap_i64 (by omega)]; rfl,rfl,a.length,Rs a.length,by rw [<- hn],Nat.le_refl _,(by omega:(0:Int)<=0),hd.1,(by omega:(s.n:Int).toNat=a.length),by rw [show(s.n:Int).toNat*1=a.length by omega]; exact nB _,ot _,nz _,fun j _=>nu _ j,?_⟩,?_⟩
 ·rw [nv]
  show 0*d+(0:Int)*1000000000 ^ a.length+af a=af a
  simp
 rintro⟨⟨n1,ys⟩,(r:Int),(i:Int),u⟩ V' ⟨rfl,k,o,hi,hk,gw,jk,gm,dZ,gR,jh,hz,hv⟩;replace hi:i=(k:Int)-1:=hi;replace gw:0<=r:=gw;replace jk:r<d:=jk;replace gm:n1=a.length:=gm;replace dZ:ys=o.map ag:=dZ;replace hv:af o*d+r*1000000000 ^ k+ak a k=af a:=hv;subst gm dZ;refine⟨fun cg=>?_,fun aN=>?_⟩
 ·have rU:i>=0:=bq cg
  obtain⟨m,rfl⟩:∃ m,k=m+1:=⟨k-1,by omega⟩;have hi:i=(m:Int):=by omega
  subst hi;have hm:m<a.length:=by omega
  obtain⟨b1,o1,a1,l1⟩:=h.int hm;have ea:a[m].1=ab a m:=(aV hm).symm;have la1:=ha m;have t0:0<=r*1000000000+ab a m:=by omega
  have t1:r*1000000000+ab a m<1000000000*d:=by omega
  have e1:i64.wrap (r*1000000000)=r*1000000000:=wrap_i64 (by omega);have e2:i64.wrap (r*1000000000+ab a m)=r*1000000000+ab a m:=wrap_i64 (by omega);have x0:0<=(r*1000000000+ab a m) / d:=Int.ediv_nonneg t0 (by omega);have x1:(r*1000000000+ab a m) / d<1000000000:=Int.ediv_lt_of_lt_mul hd.1 t1;have e3:i64.wrap ((r*1000000000+ab a m).tdiv d)=(r*1000000000+ab a m) / d:=by rw [Int.tdiv_eq_ediv_of_nonneg t0]; exact wrap_i64 (by omega)
  have e4:(r*1000000000+ab a m).tmod d=(r*1000000000+ab a m) % d:=Int.tmod_eq_emod_of_nonneg t0;have e5:i64.wrap ((m:Int)-1)=(m:Int)-1:=wrap_i64 (by omega);have y0:=Int.emod_nonneg (r*1000000000+ab a m) (show d≠0 by omega);have y1:=Int.emod_lt_of_pos (r*1000000000+ab a m) hd.1;have hdm:=Int.mul_ediv_add_emod (r*1000000000+ab a m) d;have hd0:d≠0:=by omega
  refine⟨_,a1,(by omega:(0:Int)<=(m:Int)),(by omega:(m:Int)<(s.n:Int)),ab a m,by rw [<- ea]; exact l1,hd0,⟨by omega,(by omega:(m:Int)<((a.length:Nat):Int))⟩,?_,hd0,_,rfl,?_⟩
  ·show(m:Int).toNat*1+1<=(o.map ag).length
   rw [List.length_map]; omega
  rw [e1,e2,e3,e4,e5];refine⟨((a.length,(o.set m ((r*1000000000+ab a m) / d,())).map ag),(r*1000000000+ab a m) % d,(m:Int)-1,()),?_,⟨rfl,m,_,rfl,by omega,y0,y1,rfl,rfl,by rw [List.length_set]; exact gR,iU jh (by omega) ⟨x0,x1⟩,fun j hj=>?_,?_⟩,?_⟩
  ·show [LV.a 3 a.length (aX (o.map ag) ((m:Int).toNat*1) [_]),_,_]=_
   rw [show(m:Int).toNat*1=m by omega,il (by omega)]
   rfl
  ·rw [eZ (by omega),if_neg (by omega)]
   exact hz j (by omega)
  ·exact vV (by omega) (hz m (by omega)) hv (by rw [Int.mul_comm ((r*1000000000+ab a m) / d) d]; exact hdm.symm)
  show((m:Int)-1+1).toNat<((m:Int)+1).toNat
  omega
 have vW:¬ i>=0:=bU aN;have ix:k=0:=by omega
 subst ix;intro bk cap spare lT dd _;have ux:a.length<=cap:=dd;have hk:=ju (V:=V') (b:=bk) (cap:=cap) (o:=o) (spare:=spare) (t:=3) lT (by omega) (by omega);have hle:=aG (x:=(o.map ag++spare,((3:TypeId),((0,0):Nat × Nat)))) lT;obtain⟨vX,kI⟩:=dS jh;have key:=uw _ _ _ _ hk.1;rw [gR] at key;refine key.mono ?_
 rintro V2 r2 ⟨rfl,s2,rfl,-,hL⟩;refine⟨nofun,s2,rfl,hle,s2,_,r,_,rfl,hL,hk.2,vX,?_,gw,jk,?_⟩
 ·rw [kI]
  simp [ak] at hv;omega
 have:=zz o o.length;unfold db;rw [List.length_take];omega
theorem JO (V:aa) (s:ar) (a:List aI) (f:List Nat) (d:Int) (h:LR rI V s a f) (ha:bK a) (la:a.length<=1000000) (hd:0<d/\d<=1000000000) :
  ae prog V 244 [qL s,.int .i64 d] (DR V a d):=by
 refine aM (Ji _ _) fun _=>?_
 have hn:=h.1;simp only [xE,T.wp];refine⟨⟨by omega,by omega,by omega,by omega⟩,?_⟩
 refine⟨fun y V'=>V'=V/\∃ (k:Nat) (o:List aI),y.2.2.1=(k:Int)-1/\k<=a.length/\0<=(y.2.1:Int)/\(y.2.1:Int)<d/\y.1.1=a.length/\y.1.2=o.map ag/\o.length=a.length/\bK o/\(∀ j,j<k->ab o j=0)/\af o*d+(y.2.1:Int)*1000000000 ^ k+ak a k=af a,
  fun y=>((y.2.2.1:Int)+1).toNat,⟨(((s.n:Int).toNat,(madeCells ⟨[.int .i64 (0:Int)]⟩ ((s.n:Int).toNat*1)).toList),(0:Int),(s.n:Int)-1,()),by rw [wrap_i64 (by omega)]; rfl,rfl,a.length,Rs a.length,by rw [<- hn],Nat.le_refl _,(by omega:(0:Int)<=0),hd.1,(by omega:(s.n:Int).toNat=a.length),by rw [show(s.n:Int).toNat*1=a.length by omega]; exact nB _,ot _,nz _,fun j _=>nu _ j,?_⟩,?_⟩
 ·rw [nv]
  show 0*d+(0:Int)*1000000000 ^ a.length+af a=af a
  simp
 rintro⟨⟨n1,ys⟩,(r:Int),(i:Int),u⟩ V' ⟨rfl,k,o,hi,hk,gw,jk,gm,dZ,gR,jh,hz,hv⟩;replace hi:i=(k:Int)-1:=hi;replace gw:0<=r:=gw;replace jk:r<d:=jk;replace gm:n1=a.length:=gm;replace dZ:ys=o.map ag:=dZ;replace hv:af o*d+r*1000000000 ^ k+ak a k=af a:=hv;subst gm dZ;refine⟨fun cg=>?_,fun aN=>?_⟩
 ·have rU:i>=0:=bq cg
  obtain⟨m,rfl⟩:∃ m,k=m+1:=⟨k-1,by omega⟩;have hi:i=(m:Int):=by omega
  subst hi;have hm:m<a.length:=by omega
  obtain⟨b1,o1,a1,l1⟩:=h.int hm;have ea:a[m].1=ab a m:=(aV hm).symm;have la1:=ha m;have t0:0<=r*1000000000+ab a m:=by omega
  have t1:r*1000000000+ab a m<1000000000*d:=by omega
  have e1:i64.wrap (r*1000000000)=r*1000000000:=wrap_i64 (by omega);have e2:i64.wrap (r*1000000000+ab a m)=r*1000000000+ab a m:=wrap_i64 (by omega);have x0:0<=(r*1000000000+ab a m) / d:=Int.ediv_nonneg t0 (by omega);have x1:(r*1000000000+ab a m) / d<1000000000:=Int.ediv_lt_of_lt_mul hd.1 t1;have e3:i64.wrap ((r*1000000000+ab a m).tdiv d)=(r*1000000000+ab a m) / d:=by rw [Int.tdiv_eq_ediv_of_nonneg t0]; exact wrap_i64 (by omega)
  have e4:(r*1000000000+ab a m).tmod d=(r*1000000000+ab a m) % d:=Int.tmod_eq_emod_of_nonneg t0;have e5:i64.wrap ((m:Int)-1)=(m:Int)-1:=wrap_i64 (by omega);have y0:=Int.emod_nonneg (r*1000000000+ab a m) (show d≠0 by omega);have y1:=Int.emod_lt_of_pos (r*1000000000+ab a m) hd.1;have hdm:=Int.mul_ediv_add_emod (r*1000000000+ab a m) d;have hd0:d≠0:=by omega
  refine⟨_,a1,(by omega:(0:Int)<=(m:Int)),(by omega:(m:Int)<(s.n:Int)),ab a m,by rw [<- ea]; exact l1,hd0,⟨by omega,(by omega:(m:Int)<((a.length:Nat):Int))⟩,?_,hd0,_,rfl,?_⟩
  ·show(m:Int).toNat*1+1<=(o.map ag).length
   rw [List.length_map]; omega
  rw [e1,e2,e3,e4,e5];refine⟨((a.length,(o.set m ((r*1000000000+ab a m) / d,())).map ag),(r*1000000000+ab a m) % d,(m:Int)-1,()),?_,⟨rfl,m,_,rfl,by omega,y0,y1,rfl,rfl,by rw [List.length_set]; exact gR,iU jh (by omega) ⟨x0,x1⟩,fun j hj=>?_,?_⟩,?_⟩
  ·show [LV.a 3 a.length (aX (o.map ag) ((m:Int).toNat*1) [_]),_,_]=_
   rw [show(m:Int).toNat*1=m by omega,il (by omega)]
   rfl
  ·rw [eZ (by omega),if_neg (by omega)]
   exact hz j (by omega)
  ·exact vV (by omega) (hz m (by omega)) hv (by rw [Int.mul_comm ((r*1000000000+ab a m) / d) d]; exact hdm.symm)
  show((m:Int)-1+1).toNat<((m:Int)+1).toNat
  omega
 have vW:¬ i>=0:=bU aN;have ix:k=0:=by omega
 subst ix;intro bk cap spare lT dd _;have ux:a.length<=cap:=dd;have hk:=ju (V:=V') (b:=bk) (cap:=cap) (o:=o) (spare:=spare) (t:=3) lT (by omega) (by omega);have hle:=aG (x:=(o.map ag++spare,((3:TypeId),((0,0):Nat × Nat)))) lT;obtain⟨vX,kI⟩:=dS jh;have key:=hY _ _ _ _ hk.1;rw [gR] at key;refine key.mono ?_
 rintro V2 r2 ⟨rfl,s2,rfl,-,hL⟩;refine⟨nofun,s2,rfl,hle,s2,_,r,_,rfl,hL,hk.2,vX,?_,gw,jk,?_⟩
 ·rw [kI]
  simp [ak] at hv;omega
 have:=zz o o.length;unfold db;rw [List.length_take];omega
abbrev Ph (V:aa) (x:Int):aa->Value->Prop:=fun V' r=>V.le V'/\∃ s o f,r=qL s/\LR rI V' s o f/\cQ V V' f/\Can o/\af o=x/\o.length<=3
theorem YP (V:aa) (x:Int) (hx:0<=x/\x<=9223372036854775807) :
  ae prog V 288 [.int .u64 x] (Ph V x):=by
 refine aM (YD _) fun _=>?_
 simp only [Jr,T.wp];refine⟨fun y V'=>V'=V/\∃ (k:Nat) (o:List aI),y.2.1.1=k/\y.2.1.2=o.map ag/\o.length=k/\bK o/\0<=(y.1:Int)/\(y.1:Int)<=9223372036854775807/\af o+(y.1:Int)*1000000000 ^ k=x/\(0<(y.1:Int)\/k=0\/ab o (k-1)≠0),
  fun y=>(y.1:Int).toNat,⟨(x,(0,[]),()),rfl,rfl,0,[],rfl,rfl,rfl,eU,hx.1,hx.2,by simp [af,ak],.inr (.inl rfl)⟩,?_⟩
 rintro⟨(n:Int),⟨n1,ys⟩,u⟩ V' ⟨rfl,k,o,gm,dZ,gR,jh,h0,h1,hv,ma⟩;replace h0:0<=n:=h0;replace h1:n<=9223372036854775807:=h1;replace gm:n1=k:=gm;replace dZ:ys=o.map ag:=dZ;replace hv:af o+n*1000000000 ^ k=x:=hv;replace ma:0<n\/k=0\/ab o (k-1)≠0:=ma;subst gm dZ;have JP:n1<=3:=by
  by_cases e:n1<=3
  ·exact e
  exfalso
  have hp:=gD (show 4<=n1 by omega);have hnn:=aO jh;rcases ma with ht | ht | ht
  ·have:=dQ (show 1<=n by omega) n1
   omega
  ·omega
  have hc:Can o:=⟨jh,.inr (by rw [gR]; exact ht)⟩
  have h2:=iO hc (by omega);have h3:=gD (show 3<=o.length-1 by omega);have h4:=fL h0 n1;omega
 refine⟨fun DN=>?_,fun iz=>?_⟩
 ·have df:n > 0:=bq DN
  have e1:n.tmod 1000000000=n % 1000000000:=Int.tmod_eq_emod_of_nonneg h0;have e2:IntKind.u64.wrap (n.tdiv 1000000000)=n / 1000000000:=by rw [Int.tdiv_eq_ediv_of_nonneg h0]; exact wrap_u64 (by omega)
  have e3:i64.wrap (n % 1000000000)=n % 1000000000:=wrap_i64 (by omega);have hB:(1000000000:Int)≠0:=by decide
  refine⟨hB,rfl,⟨rfl,(by omega:(n1+1)*8<=140737488355328),(by omega:n1+1<=9223372036854775807)⟩,hB,_,rfl,?_⟩
  show ∃ y',[_,LV.a 3 (n1+1) (o.map ag++[.int .i64 (i64.wrap (n.tmod 1000000000))])]=_/\_
  rw [e1,e2,e3];refine⟨(n / 1000000000,(n1+1,(o++[(n % 1000000000,())]).map ag),()),by simp [cH.nf,mP.lv,dx.val,Sc.val,ag],⟨rfl,n1+1,o++[(n % 1000000000,())],rfl,rfl,by simp [gR],fM jh ⟨(by omega:(0:Int)<=n % 1000000000),(by omega:n % 1000000000<1000000000)⟩,(by omega:(0:Int)<=n / 1000000000),(by omega:n / 1000000000<=9223372036854775807),?_,?_⟩,?_⟩
  ·show af (o++[(n % 1000000000,())])+n / 1000000000*1000000000 ^ (n1+1)=x
   have hdm:n=n % 1000000000+1000000000*(n / 1000000000):=by omega
   have e:n*1000000000 ^ n1=(n % 1000000000+1000000000*(n / 1000000000))*1000000000 ^ n1:=by rw [<- hdm]
   rw [iV,gR,iW,dp]
   grind
  ·show 0<n / 1000000000\/n1+1=0\/ab (o++[(n % 1000000000,())]) (n1+1-1)≠0
   by_cases hd:0<n / 1000000000
   ·exact .inl hd
   right; right
   rw [show n1+1-1=o.length by omega,ik];show n % 1000000000≠0
   omega
  show(n / 1000000000).toNat<n.toNat
  omega
 have hz:¬ n > 0:=bU iz;have UE:n=0:=by omega
 subst UE;intro bk cap spare lT dd _;have ux:n1<=cap:=dd;have hk:=ju (V:=V') (b:=bk) (cap:=cap) (o:=o) (spare:=spare) (t:=3) lT (by omega) (by omega);have hle:=aG (x:=(o.map ag++spare,((3:TypeId),((0,0):Nat × Nat)))) lT;refine⟨hle,⟨some ⟨bk,0,none⟩,n1,cap⟩,o,[bk],rfl,by rw [<- gR]; exact hk.1,hk.2,⟨jh,?_⟩,by simpa using hv,by omega⟩
 rw [gR];rcases ma with ht | ht | ht
 ·omega
 ·exact .inl ht
 exact .inr ht
theorem AU (V:aa) (x:Int) (hx:0<=x/\x<=9223372036854775807) :
  ae prog V 214 [.int .i64 x] (Ph V x):=by
 refine aM (Yx _) fun _=>?_
 simp only [Jf,T.wp];refine⟨fun y V'=>V'=V/\∃ (k:Nat) (o:List aI),y.2.1.1=k/\y.2.1.2=o.map ag/\o.length=k/\bK o/\0<=(y.1:Int)/\(y.1:Int)<=9223372036854775807/\af o+(y.1:Int)*1000000000 ^ k=x/\(0<(y.1:Int)\/k=0\/ab o (k-1)≠0),
  fun y=>(y.1:Int).toNat,⟨(x,(0,[]),()),rfl,rfl,0,[],rfl,rfl,rfl,eU,hx.1,hx.2,by simp [af,ak],.inr (.inl rfl)⟩,?_⟩
 rintro⟨(n:Int),⟨n1,ys⟩,u⟩ V' ⟨rfl,k,o,gm,dZ,gR,jh,h0,h1,hv,ma⟩;replace h0:0<=n:=h0;replace h1:n<=9223372036854775807:=h1;replace gm:n1=k:=gm;replace dZ:ys=o.map ag:=dZ;replace hv:af o+n*1000000000 ^ k=x:=hv;replace ma:0<n\/k=0\/ab o (k-1)≠0:=ma;subst gm dZ;have JP:n1<=3:=by
  by_cases e:n1<=3
  ·exact e
  exfalso
  have hp:=gD (show 4<=n1 by omega);have hnn:=aO jh;rcases ma with ht | ht | ht
  ·have:=dQ (show 1<=n by omega) n1
   omega
  ·omega
  have hc:Can o:=⟨jh,.inr (by rw [gR]; exact ht)⟩
  have h2:=iO hc (by omega);have h3:=gD (show 3<=o.length-1 by omega);have h4:=fL h0 n1;omega
 refine⟨fun DN=>?_,fun iz=>?_⟩
 ·have df:n > 0:=bq DN
  have e1:n.tmod 1000000000=n % 1000000000:=Int.tmod_eq_emod_of_nonneg h0;have e2:i64.wrap (n.tdiv 1000000000)=n / 1000000000:=by rw [Int.tdiv_eq_ediv_of_nonneg h0]; exact wrap_i64 (by omega)
  have e3:i64.wrap (n % 1000000000)=n % 1000000000:=wrap_i64 (by omega);have hB:(1000000000:Int)≠0:=by decide
  refine⟨hB,rfl,⟨rfl,(by omega:(n1+1)*8<=140737488355328),(by omega:n1+1<=9223372036854775807)⟩,hB,_,rfl,?_⟩
  show ∃ y',[_,LV.a 3 (n1+1) (o.map ag++[.int .i64 (n.tmod 1000000000)])]=_/\_
  rw [e1,e2];refine⟨(n / 1000000000,(n1+1,(o++[(n % 1000000000,())]).map ag),()),by simp [cH.nf,mP.lv,dx.val,Sc.val,ag],⟨rfl,n1+1,o++[(n % 1000000000,())],rfl,rfl,by simp [gR],fM jh ⟨(by omega:(0:Int)<=n % 1000000000),(by omega:n % 1000000000<1000000000)⟩,(by omega:(0:Int)<=n / 1000000000),(by omega:n / 1000000000<=9223372036854775807),?_,?_⟩,?_⟩
  ·show af (o++[(n % 1000000000,())])+n / 1000000000*1000000000 ^ (n1+1)=x
   have hdm:n=n % 1000000000+1000000000*(n / 1000000000):=by omega
   have e:n*1000000000 ^ n1=(n % 1000000000+1000000000*(n / 1000000000))*1000000000 ^ n1:=by rw [<- hdm]
   rw [iV,gR,iW,dp]
   grind
  ·show 0<n / 1000000000\/n1+1=0\/ab (o++[(n % 1000000000,())]) (n1+1-1)≠0
   by_cases hd:0<n / 1000000000
   ·exact .inl hd
   right; right
   rw [show n1+1-1=o.length by omega,ik];show n % 1000000000≠0
   omega
  show(n / 1000000000).toNat<n.toNat
  omega
 have hz:¬ n > 0:=bU iz;have UE:n=0:=by omega
 subst UE;intro bk cap spare lT dd _;have ux:n1<=cap:=dd;have hk:=ju (V:=V') (b:=bk) (cap:=cap) (o:=o) (spare:=spare) (t:=3) lT (by omega) (by omega);have hle:=aG (x:=(o.map ag++spare,((3:TypeId),((0,0):Nat × Nat)))) lT;refine⟨hle,⟨some ⟨bk,0,none⟩,n1,cap⟩,o,[bk],rfl,by rw [<- gR]; exact hk.1,hk.2,⟨jh,?_⟩,by simpa using hv,by omega⟩
 rw [gR];rcases ma with ht | ht | ht
 ·omega
 ·exact .inl ht
 exact .inr ht
theorem YQ (V:aa) (x:Int) (hx:0<=x/\x<=9223372036854775807):ae prog V 267 [.int .i64 x] (Ph V x):=by
 refine aM (YA _) fun _=>?_
 simp only [Jp,T.wp,wrap_u64 hx];refine⟨fun dN=>?_,fun _=>(YP V x hx).mono ?_⟩
 ·have:x<0:=bq dN
  omega
 rintro V1 r ⟨hle,s,o,f,rfl,h1,h2,h3⟩;exact⟨nofun,s,rfl,hle,s,o,f,rfl,h1,h2,h3⟩
def Nw (V:aa) (s:ar) (o:List aI) (b:Nat):Prop :=
 ∃ spare,s=⟨some ⟨b,0,none⟩,o.length,o.length+spare.length⟩/\V b=some (o.map ag++spare,(3,(0,0)))/\o.length<=9223372036854775807
theorem Nw.lr {V:aa} {s:ar} {o:List aI} {b:Nat} (h:Nw V s o b):LR rI V s o [b]:=by
 obtain⟨spare,rfl,h1,h2⟩:=h;refine⟨rfl,(by omega:o.length<=o.length+spare.length),h2,.inr ⟨b,[],spare,(3,(0,0)),[],o,rfl,?_,uq o,rfl⟩⟩
 rw [h1,lE]; rfl
theorem Nw.trim {V:aa} {s:ar} {o:List aI} {b:Nat} (h:Nw V s o b):Nw V ⟨s.a,tl o o.length,s.c⟩ (db o) b:=by
 obtain⟨spare,rfl,h1,h2⟩:=h;have hle:=zz o o.length;have hlen:(db o).length=tl o o.length:=by simp [db]; omega
 refine⟨(o.drop (tl o o.length)).map ag++spare,?_,?_,by omega⟩
 ·rw [hlen]
  show(⟨_,_,_⟩:ar)=_
  congr 1
  simp;omega
 rw [h1,<- List.append_assoc,<- List.map_append];unfold db;rw [List.take_append_drop]
theorem UF:prog.cellsOf 3=1:=by kernel_rfl
theorem nwI {V:aa} {b cap:Nat} {o:List aI} {spare:List Value} (hc:o.length<=cap) (hs:spare.length=(cap-o.length)*prog.cellsOf 3) (hl:o.length<=9223372036854775807) :
  Nw (aB V b (o.map ag++spare,(3,(0,0)))) ⟨some ⟨b,0,none⟩,o.length,cap⟩ o b:=by
 rw [UF] at hs;refine⟨spare,?_,av,hl⟩
 rw [show o.length+spare.length=cap by omega]
theorem Pj {a b C D:Int} (ha:0<=a/\a<C) (hb:0<=b/\b<D):0<=a*b/\a*b<C*D:=by
 refine⟨Int.mul_nonneg ha.1 hb.1,?_⟩
 have h1:a*b<=a*D:=Int.mul_le_mul_of_nonneg_left (by omega) ha.1;have h2:a*D<C*D:=Int.mul_lt_mul_of_pos_right ha.2 (by omega);omega
theorem yx {x y:Int} (hx:0<=x/\x<1000000000) (hy:0<=y/\y<1000000000):0<=x*y/\x*y<=999999998000000001:=by
 refine⟨Int.mul_nonneg hx.1 hy.1,?_⟩
 have:x*y<=999999999*999999999:=Int.mul_le_mul (by omega) (by omega) hy.1 (by omega);omega
theorem Ru {a b o:List aI} (hb:Can b) (ho:Can o) (ha:bK a) (h:af o=af a*af b):o.length<=a.length+b.length:=by
 by_cases e:o.length<=a.length+b.length
 ·exact e
 exfalso
 have h1:=iO ho (by omega);have h2:=Pj (ch ha a.length) (ch hb.1 b.length);rw [<- vU] at h2;have h3:=gD (show a.length+b.length<=o.length-1 by omega);have:af a*af b<1000000000 ^ (a.length+b.length):=h2.2;omega
abbrev MulPost (V:aa) (a b:List aI) (m:Nat):aa->Value->Prop:=fun V' r=>V.le V'/\∃ s o bk,r=qL s/\Nw V' s o bk/\V bk=none/\Can o/\af o=af a*af b/\m<=s.c
theorem DS (V:aa) (s s':ar) (a b:List aI) (f f':List Nat) (h:LR rI V s a f) (h':LR rI V s' b f') (ha:bK a) (hb:bK b) (la:a.length<=1000000) (lb:b.length<=1000000) :
  ae prog V 268 [qL s,qL s'] (MulPost V a b (a.length+b.length+1)):=by
 refine aM (Uo _ _) fun _=>?_
 have hn:=h.1;have H9:=h'.1;have w1:i64.wrap (i64.wrap ((s.n:Int)+(s'.n:Int))+1)=((a.length+b.length+1:Nat):Int):=by
  rw [show i64.wrap ((s.n:Int)+(s'.n:Int))=(s.n:Int)+(s'.n:Int) from wrap_i64 (by omega),wrap_i64 (by omega)];omega
 have hB:(1000000000:Int)≠0:=by decide
 simp only [DE,T.wp,w1];obtain⟨N,hN⟩:∃ N:Nat,N=a.length+b.length+1:=⟨_,rfl⟩;rw [<- hN];refine⟨⟨by omega,by omega,by omega,by omega⟩,?_⟩
 refine⟨fun y V'=>V'=V/\∃ (i:Nat) (o:List aI),y.2.1=(i:Int)/\i<=a.length/\y.1.1=N/\y.1.2=o.map ag/\o.length=N/\bK o/\af o=ak a i*af b,
  fun y=>((a.length:Int)-(y.2.1:Int)).toNat,⟨((((N:Nat):Int).toNat,(madeCells ⟨[.int .i64 (0:Int)]⟩ (((N:Nat):Int).toNat*1)).toList),(0:Int),()),rfl,rfl,0,Rs N,rfl,by omega,(by omega:((N:Nat):Int).toNat=N),by rw [show((N:Nat):Int).toNat*1=N by omega]; exact nB _,ot _,nz _,by rw [nv]; simp [ak]⟩,?_⟩
 rintro⟨⟨n1,ys⟩,(i:Int),u⟩ V' ⟨rfl,k,o,hi,hk,gm,dZ,gR,jh,hv⟩;replace hi:i=(k:Int):=hi;replace gm:n1=N:=gm;replace dZ:ys=o.map ag:=dZ;subst gm dZ hi;refine⟨fun aN=>?_,fun cg=>?_⟩
 ·have nU:k<a.length:=by
   have:(k:Int)<(s.n:Int):=bq aN;omega
  obtain⟨b1,o1,a1,l1⟩:=h.int nU;have ea:a[k].1=ab a k:=(aV nU).symm;have lax:=ha k;refine⟨_,a1,(by omega:(0:Int)<=(k:Int)),(by omega:(k:Int)<(s.n:Int)),ab a k,by rw [<- ea]; exact l1,?_⟩
  refine⟨fun y Ma=>Ma=V'/\∃ (j:Nat) (o:List aI),y.2.2.1=(j:Int)/\j<=b.length/\0<=(y.2.1:Int)/\(y.2.1:Int)<1000000000/\y.1.1=n1/\y.1.2=o.map ag/\o.length=n1/\bK o/\af o+(y.2.1:Int)*1000000000 ^ (k+j)=ak a k*af b+ab a k*ak b j*1000000000 ^ k,
   fun y=>((b.length:Int)-(y.2.2.1:Int)).toNat,⟨((n1,o.map ag),(0:Int),(0:Int),()),rfl,rfl,0,o,rfl,by omega,(by omega:(0:Int)<=0),(by omega:(0:Int)<1000000000),rfl,rfl,gR,jh,by rw [hv]; simp [ak]⟩,?_⟩
  rintro⟨⟨n2,ys⟩,(c:Int),(i:Int),u⟩ Ma ⟨rfl,j,o2,hi,hj,nV,nT,sN,dZ,YR,Pk,yl⟩;replace hi:i=(j:Int):=hi;replace nV:0<=c:=nV;replace nT:c<1000000000:=nT;replace sN:n2=n1:=sN;replace dZ:ys=o2.map ag:=dZ;replace yl:af o2+c*1000000000 ^ (k+j)=ak a k*af b+ab a k*ak b j*1000000000 ^ k:=yl;subst sN dZ hi;refine⟨fun MH=>?_,fun UG=>?_⟩
  ·have UH:j<b.length:=by
    have:(j:Int)<(s'.n:Int):=bq MH;omega
   obtain⟨b2,q2,a2,l2⟩:=h'.int UH;have eb:b[j].1=ab b j:=(aV UH).symm;have lbx:=hb j;have lox:=Pk (k+j);have hxy:=yx lax lbx;have hw:i64.wrap ((k:Int)+(j:Int))=((k+j:Nat):Int):=by rw [wrap_i64 (by omega)]; omega
   have Mb:k+j<o2.length:=by omega
   have gM:(0:Int)<=((k+j:Nat):Int)/\((k+j:Nat):Int)<((n2:Nat):Int):=⟨by omega,by omega⟩;refine⟨_,a2,(by omega:(0:Int)<=(j:Int)),(by omega:(j:Int)<(s'.n:Int)),ab b j,by rw [<- eb]; exact l2,?_⟩
   show((0:Int)<=i64.wrap ((k:Int)+(j:Int))/\i64.wrap ((k:Int)+(j:Int))<((n2:Nat):Int))/\_
   rw [hw];have e0:((k+j:Nat):Int).toNat*1=k+j:=by omega
   refine⟨gM,ab o2 (k+j),by rw [e0]; exact AT Mb,hB,gM,?_,hB,_,rfl,?_⟩
   ·show((k+j:Nat):Int).toNat*1+1<=(o2.map ag).length
    rw [List.length_map]; omega
   have e1:i64.wrap (ab a k*ab b j)=ab a k*ab b j:=wrap_i64 (by omega);have e2:i64.wrap (ab o2 (k+j)+ab a k*ab b j)=ab o2 (k+j)+ab a k*ab b j:=wrap_i64 (by omega);have e3:i64.wrap (c+(ab o2 (k+j)+ab a k*ab b j))=c+(ab o2 (k+j)+ab a k*ab b j):=wrap_i64 (by omega);have e6:i64.wrap ((j:Int)+1)=((j+1:Nat):Int):=kD UH (by omega);rw [e1,e2,e3,e6];obtain⟨t,ht⟩:∃ t,t=c+(ab o2 (k+j)+ab a k*ab b j):=⟨_,rfl⟩;rw [<- ht];have t0:0<=t:=by omega
   have t1:t<1000000000000000000:=by omega
   have e4:t.tmod 1000000000=t % 1000000000:=Int.tmod_eq_emod_of_nonneg t0;have e5:i64.wrap (t.tdiv 1000000000)=t / 1000000000:=by rw [Int.tdiv_eq_ediv_of_nonneg t0]; exact wrap_i64 (by omega)
   rw [e4,e5,e0];refine⟨((n2,(o2.set (k+j) (t % 1000000000,())).map ag),t / 1000000000,((j+1:Nat):Int),()),?_,⟨rfl,j+1,_,rfl,UH,(by omega:(0:Int)<=t / 1000000000),(by omega:t / 1000000000<1000000000),rfl,rfl,by rw [List.length_set]; exact YR,iU Pk Mb ⟨by omega,by omega⟩,?_⟩,?_⟩
   ·rw [il Mb]
    rfl
   ·exact JL (d:=t % 1000000000) (e:=t / 1000000000) Mb yl (by omega)
   show((b.length:Int)-((j+1:Nat):Int)).toNat<((b.length:Int)-(j:Int)).toNat
   omega
  have UH:j=b.length:=by
   have:¬ (j:Int)<(s'.n:Int):=bU UG;omega
  subst UH;obtain⟨T,hT⟩:∃ T,T=ak a (k+1)*af b:=⟨_,rfl⟩;have hT1:af o2+c*1000000000 ^ (k+b.length)=T:=by
   rw [yl,hT,ak,show ak b b.length=af b from rfl]
   grind
  have hTb:T<1000000000 ^ (k+1+b.length):=by
   have:=(Pj (ch ha (k+1)) (ch hb b.length)).2;rw [<- vU] at this;rw [hT]; exact this
  have w2:i64.wrap ((k:Int)+(s'.n:Int))=((k+b.length:Nat):Int):=by rw [wrap_i64 (by omega)]; omega
  rw [w2];refine⟨fun y V3=>V3=Ma/\∃ (j:Nat) (o:List aI),y.2.2.1=(j:Int)/\0<=(y.2.1:Int)/\(y.2.1:Int)<1000000000/\y.1.1=n2/\y.1.2=o.map ag/\o.length=n2/\bK o/\af o+(y.2.1:Int)*1000000000 ^ j=T,
   fun y=>((n2:Int)-(y.2.2.1:Int)).toNat,⟨((n2,o2.map ag),c,((k+b.length:Nat):Int),()),rfl,rfl,k+b.length,o2,rfl,nV,nT,rfl,rfl,YR,Pk,hT1⟩,?_⟩
  rintro⟨⟨n3,ys⟩,(c:Int),(i:Int),u⟩ V3 ⟨rfl,j,o,hi,nV,nT,Rv,dZ,gR,jh,hv⟩;replace hi:i=(j:Int):=hi;replace nV:0<=c:=nV;replace nT:c<1000000000:=nT;replace Rv:n3=n2:=Rv;replace dZ:ys=o.map ag:=dZ;replace hv:af o+c*1000000000 ^ j=T:=hv;subst Rv dZ hi;have hnn:=aO jh;refine⟨fun DN=>?_,fun hle=>?_⟩
  ·have df:c > 0:=bq DN
   have hjlt:j<k+1+b.length:=by
    by_cases e:j<k+1+b.length
    ·exact e
    exfalso
    have p1:=gD (show k+1+b.length<=j by omega);have p2:=dQ (show 1<=c by omega) j;omega
   have hjo:j<o.length:=by omega
   have lox:=jh j;have gM:(0:Int)<=(j:Int)/\(j:Int)<((n3:Nat):Int):=⟨by omega,by omega⟩;have e0:(j:Int).toNat*1=j:=by omega
   refine⟨gM,ab o j,by show fj _ ((j:Int).toNat*1) _=_; rw [e0]; exact AT hjo,hB,gM,?_,hB,_,rfl,?_⟩
   ·show(j:Int).toNat*1+1<=(o.map ag).length
    rw [List.length_map]; omega
   have e1:i64.wrap (c+ab o j)=c+ab o j:=wrap_i64 (by omega);have e6:i64.wrap ((j:Int)+1)=((j+1:Nat):Int):=kD hjo (by omega);rw [e1,e6];obtain⟨t,ht⟩:∃ t,t=c+ab o j:=⟨_,rfl⟩;rw [<- ht];have t0:0<=t:=by omega
   have e4:t.tmod 1000000000=t % 1000000000:=Int.tmod_eq_emod_of_nonneg t0;have e5:i64.wrap (t.tdiv 1000000000)=t / 1000000000:=by rw [Int.tdiv_eq_ediv_of_nonneg t0]; exact wrap_i64 (by omega)
   rw [e4,e5];refine⟨((n3,(o.set j (t % 1000000000,())).map ag),t / 1000000000,((j+1:Nat):Int),()),?_,⟨rfl,j+1,_,rfl,(by omega:(0:Int)<=t / 1000000000),(by omega:t / 1000000000<1000000000),rfl,rfl,by rw [List.length_set]; exact gR,iU jh hjo ⟨by omega,by omega⟩,?_⟩,?_⟩
   ·show [LV.a 3 n3 (aX (o.map ag) ((j:Int).toNat*1) [_]),_,_]=_
    rw [e0,il hjo]
    rfl
   ·exact Pf (d:=t % 1000000000) (e:=t / 1000000000) hjo hv (by omega)
   show((n3:Int)-((j+1:Nat):Int)).toNat<((n3:Int)-(j:Int)).toNat
   omega
  have hz:¬ c > 0:=bU hle;have hc:c=0:=by omega
  subst hc;have e6:i64.wrap ((k:Int)+1)=((k+1:Nat):Int):=kD nU (by omega);refine⟨_,rfl,((n3,o.map ag),((k+1:Nat):Int),()),by rw [e6]; rfl,⟨rfl,k+1,o,rfl,nU,rfl,rfl,gR,jh,?_⟩,?_⟩
  ·rw [<- hT,<- hv]; simp
  show((a.length:Int)-((k+1:Nat):Int)).toNat<((a.length:Int)-(k:Int)).toNat
  omega
 have nU:k=a.length:=by
  have:¬ (k:Int)<(s.n:Int):=bU cg;omega
 subst nU;intro bk cap spare lT dd oV;have ux:n1<=cap:=dd;have hsp':spare.length=(cap-n1)*prog.cellsOf 3:=oV;have hk:=nwI (V:=V') (b:=bk) (cap:=cap) (o:=o) (spare:=spare) (by omega) (by rw [gR]; exact hsp') (by omega)
 have hle:=aG (x:=(o.map ag++spare,((3:TypeId),((0,0):Nat × Nat)))) lT;obtain⟨vX,kI⟩:=dS jh;have key:=uw _ _ _ _ hk.lr;rw [gR] at key;refine key.mono ?_
 rintro V2 r2 ⟨rfl,s2,rfl,Hl,hL⟩;refine⟨nofun,s2,rfl,hle,s2,_,bk,rfl,?_,lT,vX,?_,?_⟩
 ·have:=hk.trim
  rw [gR] at this;rw [Hl,gR]; exact this
 ·rw [kI,hv]; rfl
 rw [Hl];show n1<=cap
 omega
theorem qt (V:aa) (s s':ar) (a b:List aI) (f f':List Nat) (h:LR rI V s a f) (h':LR rI V s' b f') (ha:bK a) (hb:bK b) (la:a.length<=1000000) (lb:b.length<=1000000) :
  ae prog V 194 [qL s,qL s'] (fun V' r=>V.le V'/\∃ s o f,r=qL s/\LR rI V' s o f/\cQ V V' f/\Can o/\af o=af a*af b):=by
 refine aM (T8 _ _) fun _=>?_
 have hn:=h.1;have H9:=h'.1;have w1:i64.wrap ((s.n:Int)+(s'.n:Int))=((a.length+b.length:Nat):Int):=by rw [wrap_i64 (by omega)]; omega
 have hB:(1000000000:Int)≠0:=by decide
 simp only [Dt,T.wp,w1];have nil:∀ x:Int,x=0->V.le V/\∃ s o f,packed [Value.slice none 0 0]=qL s/\LR rI V s o f/\cQ V V f/\Can o/\af o=x:=by
  intro x hx;exact⟨aa.le.refl _,⟨none,0,0⟩,[],[],rfl,⟨rfl,Nat.le_refl _,by simp,.inl ⟨rfl,fun _=>rfl,rfl⟩⟩,cQ.nil,⟨eU,.inl rfl⟩,by rw [hx]; rfl⟩
 refine⟨fun hz=>nil _ ?_,fun hz=>⟨fun SJ=>nil _ ?_,fun SJ=>?_⟩⟩
 ·have:(s.n:Int)=0:=by simpa using hz
  have:a=[]:=List.eq_nil_of_length_eq_zero (by omega);rw [this,jX,Int.zero_mul]
 ·have:(s'.n:Int)=0:=by simpa using SJ
  have:b=[]:=List.eq_nil_of_length_eq_zero (by omega);rw [this,jX,Int.mul_zero]
 obtain⟨N,hN⟩:∃ N:Nat,N=a.length+b.length:=⟨_,rfl⟩;rw [<- hN];refine⟨⟨by omega,by omega,by omega,by omega⟩,?_⟩
 refine⟨fun y V'=>V'=V/\∃ (i:Nat) (o:List aI),y.2.1=(i:Int)/\i<=a.length/\y.1.1=N/\y.1.2=o.map ag/\o.length=N/\bK o/\af o=ak a i*af b,
  fun y=>((a.length:Int)-(y.2.1:Int)).toNat,⟨((((N:Nat):Int).toNat,(madeCells ⟨[.int .i64 (0:Int)]⟩ (((N:Nat):Int).toNat*1)).toList),(0:Int),()),rfl,rfl,0,Rs N,rfl,by omega,(by omega:((N:Nat):Int).toNat=N),by rw [show((N:Nat):Int).toNat*1=N by omega]; exact nB _,ot _,nz _,by rw [nv]; simp [ak]⟩,?_⟩
 rintro⟨⟨n1,ys⟩,(i:Int),u⟩ V' ⟨rfl,k,o,hi,hk,gm,dZ,gR,jh,hv⟩;replace hi:i=(k:Int):=hi;replace gm:n1=N:=gm;replace dZ:ys=o.map ag:=dZ;subst gm dZ hi;refine⟨fun aN=>?_,fun cg=>?_⟩
 ·have nU:k<a.length:=by
   have:(k:Int)<(s.n:Int):=bq aN;omega
  obtain⟨b1,o1,a1,l1⟩:=h.int nU;have ea:a[k].1=ab a k:=(aV nU).symm;have lax:=ha k;have hvlt:af o<1000000000 ^ (k+b.length):=by
   have:=(Pj (ch ha k) (ch hb b.length)).2;rw [<- vU] at this;rw [hv]; exact this
  refine⟨_,a1,(by omega:(0:Int)<=(k:Int)),(by omega:(k:Int)<(s.n:Int)),ab a k,by rw [<- ea]; exact l1,?_⟩
  refine⟨fun y Ma=>Ma=V'/\∃ (j:Nat) (o:List aI),y.2.2.1=(j:Int)/\j<=b.length/\0<=(y.2.1:Int)/\(y.2.1:Int)<1000000000/\y.1.1=n1/\y.1.2=o.map ag/\o.length=n1/\bK o/\ab o (k+b.length)=0/\af o+(y.2.1:Int)*1000000000 ^ (k+j)=ak a k*af b+ab a k*ak b j*1000000000 ^ k,
   fun y=>((b.length:Int)-(y.2.2.1:Int)).toNat,⟨((n1,o.map ag),(0:Int),(0:Int),()),rfl,rfl,0,o,rfl,by omega,(by omega:(0:Int)<=0),(by omega:(0:Int)<1000000000),rfl,rfl,gR,jh,AR jh hvlt (Nat.le_refl _),by rw [hv]; simp [ak]⟩,?_⟩
  rintro⟨⟨n2,ys⟩,(c:Int),(i:Int),u⟩ Ma ⟨rfl,j,o2,hi,hj,nV,nT,sN,dZ,YR,Pk,ma,yl⟩;replace hi:i=(j:Int):=hi;replace nV:0<=c:=nV;replace nT:c<1000000000:=nT;replace sN:n2=n1:=sN;replace dZ:ys=o2.map ag:=dZ;replace yl:af o2+c*1000000000 ^ (k+j)=ak a k*af b+ab a k*ak b j*1000000000 ^ k:=yl;subst sN dZ hi;refine⟨fun MH=>?_,fun UG=>?_⟩
  ·have UH:j<b.length:=by
    have:(j:Int)<(s'.n:Int):=bq MH;omega
   obtain⟨b2,q2,a2,l2⟩:=h'.int UH;have eb:b[j].1=ab b j:=(aV UH).symm;have lbx:=hb j;have lox:=Pk (k+j);have hxy:=yx lax lbx;have hw:i64.wrap ((k:Int)+(j:Int))=((k+j:Nat):Int):=by rw [wrap_i64 (by omega)]; omega
   have Mb:k+j<o2.length:=by omega
   have gM:(0:Int)<=((k+j:Nat):Int)/\((k+j:Nat):Int)<((n2:Nat):Int):=⟨by omega,by omega⟩;refine⟨_,a2,(by omega:(0:Int)<=(j:Int)),(by omega:(j:Int)<(s'.n:Int)),ab b j,by rw [<- eb]; exact l2,?_⟩
   show((0:Int)<=i64.wrap ((k:Int)+(j:Int))/\i64.wrap ((k:Int)+(j:Int))<((n2:Nat):Int))/\_
   rw [hw];have e0:((k+j:Nat):Int).toNat*1=k+j:=by omega
   refine⟨gM,ab o2 (k+j),by rw [e0]; exact AT Mb,hB,gM,?_,hB,_,rfl,?_⟩
   ·show((k+j:Nat):Int).toNat*1+1<=(o2.map ag).length
    rw [List.length_map]; omega
   have e1:i64.wrap (ab a k*ab b j)=ab a k*ab b j:=wrap_i64 (by omega);have e2:i64.wrap (ab o2 (k+j)+ab a k*ab b j)=ab o2 (k+j)+ab a k*ab b j:=wrap_i64 (by omega);have e3:i64.wrap (ab o2 (k+j)+ab a k*ab b j+c)=ab o2 (k+j)+ab a k*ab b j+c:=wrap_i64 (by omega);have e6:i64.wrap ((j:Int)+1)=((j+1:Nat):Int):=kD UH (by omega);rw [e1,e2,e3,e6];obtain⟨t,ht⟩:∃ t,t=ab o2 (k+j)+ab a k*ab b j+c:=⟨_,rfl⟩;rw [<- ht];have t0:0<=t:=by omega
   have t1:t<1000000000000000000:=by omega
   have e4:t.tmod 1000000000=t % 1000000000:=Int.tmod_eq_emod_of_nonneg t0;have e5:i64.wrap (t.tdiv 1000000000)=t / 1000000000:=by rw [Int.tdiv_eq_ediv_of_nonneg t0]; exact wrap_i64 (by omega)
   rw [e4,e5,e0];refine⟨((n2,(o2.set (k+j) (t % 1000000000,())).map ag),t / 1000000000,((j+1:Nat):Int),()),?_,⟨rfl,j+1,_,rfl,UH,(by omega:(0:Int)<=t / 1000000000),(by omega:t / 1000000000<1000000000),rfl,rfl,by rw [List.length_set]; exact YR,iU Pk Mb ⟨by omega,by omega⟩,?_,?_⟩,?_⟩
   ·rw [il Mb]
    rfl
   ·rw [eZ Mb,if_neg (by omega)]; exact ma
   ·exact JL (d:=t % 1000000000) (e:=t / 1000000000) Mb yl (by omega)
   show((b.length:Int)-((j+1:Nat):Int)).toNat<((b.length:Int)-(j:Int)).toNat
   omega
  have UH:j=b.length:=by
   have:¬ (j:Int)<(s'.n:Int):=bU UG;omega
  subst UH;have w2:i64.wrap ((k:Int)+(s'.n:Int))=((k+b.length:Nat):Int):=by rw [wrap_i64 (by omega)]; omega
  have Mb:k+b.length<o2.length:=by omega
  have e0:((k+b.length:Nat):Int).toNat*1=k+b.length:=by omega
  have e6:i64.wrap ((k:Int)+1)=((k+1:Nat):Int):=kD nU (by omega);rw [w2,e0,e6];refine⟨⟨by omega,(by omega:((k+b.length:Nat):Int)<((n2:Nat):Int))⟩,?_,_,rfl,((n2,(o2.set (k+b.length) (c,())).map ag),((k+1:Nat):Int),()),?_,⟨rfl,k+1,_,rfl,nU,rfl,rfl,by rw [List.length_set]; exact YR,iU Pk Mb ⟨nV,nT⟩,?_⟩,?_⟩
  ·show k+b.length+1<=(o2.map ag).length
   rw [List.length_map]; omega
  ·show [LV.a 3 n2 (aX (o2.map ag) (k+b.length) [Value.int .i64 c]),_]=_
   rw [il Mb]
   rfl
  ·rw [iT Mb,ma,ak]
   rw [show ak b b.length=af b from rfl] at yl
   grind
  show((a.length:Int)-((k+1:Nat):Int)).toNat<((a.length:Int)-(k:Int)).toNat
  omega
 have nU:k=a.length:=by
  have:¬ (k:Int)<(s.n:Int):=bU cg;omega
 subst nU;intro bk cap spare lT dd _;have ux:n1<=cap:=dd;have hk:=ju (V:=V') (b:=bk) (cap:=cap) (o:=o) (spare:=spare) (t:=3) lT (by omega) (by omega);have hle:=aG (x:=(o.map ag++spare,((3:TypeId),((0,0):Nat × Nat)))) lT;obtain⟨vX,kI⟩:=dS jh;have key:=hY _ _ _ _ hk.1;rw [gR] at key;refine key.mono ?_
 rintro V2 r2 ⟨rfl,s2,rfl,Hl,hL⟩;exact⟨nofun,s2,rfl,hle,s2,_,_,rfl,hL,hk.2,vX,by rw [kI,hv]; rfl⟩
theorem vY (V:aa) (s s':ar) (a b:List aI) (f f':List Nat) (h:LR rI V s a f) (h':LR rI V s' b f') (ha:bK a) (hb:bK b) (la:a.length<=1000000) (lb:b.length<=a.length) (hge0:af b<=af a) :
  ae prog V 247 [qL s,qL s'] (fun V' r=>V.le V'/\∃ YS o DT,r=qL YS/\LR rI V' YS o DT/\cQ V V' DT/\Can o/\af o=af a-af b):=by
 refine aM (Ui _ _) fun _=>?_
 have hn:=h.1;have H9:=h'.1;simp only [DB,T.wp];refine⟨fun y V'=>V'=V/\∃ (k:Nat) (o:List aI),y.2.2.1=(k:Int)/\k<=a.length/\0<=(y.2.1:Int)/\(y.2.1:Int)<=1/\y.1.1=k/\y.1.2=o.map ag/\o.length=k/\bK o/\ak o k=ak a k-ak b k+(y.2.1:Int)*1000000000 ^ k,
  fun y=>((a.length:Int)-(y.2.2.1:Int)).toNat,
  ⟨((0,[]),(0:Int),(0:Int),()),rfl,rfl,0,[],rfl,by omega,(by omega:(0:Int)<=0),(by omega:(0:Int)<=1),rfl,rfl,rfl,eU,rfl⟩,?_⟩
 rintro⟨⟨n1,ys⟩,(c:Int),(i:Int),u⟩ V' ⟨rfl,k,o,hi,hk,nV,nT,gm,dZ,gR,jh,hv⟩;replace hi:i=(k:Int):=hi;replace nV:0<=c:=nV;replace nT:c<=1:=nT;replace gm:n1=k:=gm;replace dZ:ys=o.map ag:=dZ;replace hv:ak o k=ak a k-ak b k+c*1000000000 ^ k:=hv;subst hi gm dZ;have la1:=ha n1;have lb1:=hb n1;refine⟨fun aN=>?_,fun cg=>?_⟩
 ·have nU:n1<a.length:=by
   have:(n1:Int)<(s.n:Int):=bq aN;omega
  have jU:i64.wrap ((n1:Int)+1)=((n1+1:Nat):Int):=kD nU (by omega);have next:∀ t e:Int,t=ab a n1-c-ab b n1+1000000000*e->0<=t->t<1000000000->0<=e->e<=1->∃ y':cH [.a 3,.o (.o (.i .i64)),.o (.o (.i .i64))],
    [LV.a 3 (n1+1) (o.map ag++[.int .i64 t]),.v (.int .i64 e),.v (.int .i64 (i64.wrap ((n1:Int)+1)))]=cH.nf _ y' /\
    (V'=V'/\∃ (k:Nat) (o:List aI),y'.2.2.1=(k:Int)/\k<=a.length/\0<=(y'.2.1:Int)/\(y'.2.1:Int)<=1/\y'.1.1=k/\y'.1.2=o.map ag/\o.length=k/\bK o/\ak o k=ak a k-ak b k+(y'.2.1:Int)*1000000000 ^ k) /\
    ((a.length:Int)-(y'.2.2.1:Int)).toNat<((a.length:Int)-(n1:Int)).toNat:=by
   intro t e ht JQ ht1 he0 gB;rw [jU];refine⟨((n1+1,(o++[(t,())]).map ag),e,((n1+1:Nat):Int),()),by simp [cH.nf,mP.lv,dx.val,Sc.val,ag],⟨rfl,n1+1,o++[(t,())],rfl,nU,he0,gB,rfl,rfl,by simp [gR],fM jh ⟨JQ,ht1⟩,Ig gR hv ht⟩,?_⟩
   show((a.length:Int)-((n1+1:Nat):Int)).toNat<_
   omega
  have dY:∀ v:Int,one [Value.int .i64 v]=true/\(n1+1)*8<=140737488355328/\n1+1<=9223372036854775807:=fun v=>⟨rfl,by omega,by omega⟩
  obtain⟨b1,o1,a1,l1⟩:=h.int nU;have ea:a[n1].1=ab a n1:=(aV nU).symm;have e1:i64.wrap (ab a n1-c)=ab a n1-c:=wrap_i64 (by omega);refine⟨_,a1,(by omega:(0:Int)<=(n1:Int)),(by omega:(n1:Int)<(s.n:Int)),ab a n1,by rw [<- ea]; exact l1,?_⟩
  show(_->_)/\(_->_)
  rw [e1];refine⟨fun ov=>?_,fun ov=>?_⟩
  ·have uy:n1<b.length:=by
    have:(n1:Int)<(s'.n:Int):=bq ov;omega
   obtain⟨b2,o2,a2,l2⟩:=h'.int uy;have eb:b[n1].1=ab b n1:=(aV uy).symm;have e2:i64.wrap (ab a n1-c-ab b n1)=ab a n1-c-ab b n1:=wrap_i64 (by omega);refine⟨_,a2,(by omega:(0:Int)<=(n1:Int)),(by omega:(n1:Int)<(s'.n:Int)),ab b n1,by rw [<- eb]; exact l2,?_⟩
   show(_->_)/\(_->_)
   rw [e2];refine⟨fun dN=>?_,fun df=>?_⟩
   ·have JR:ab a n1-c-ab b n1<0:=bq dN
    have e3:i64.wrap (ab a n1-c-ab b n1+1000000000)=ab a n1-c-ab b n1+1000000000:=wrap_i64 (by omega);rw [e3];exact⟨rfl,dY _,_,rfl,next _ 1 (by omega) (by omega) (by omega) (by omega) (by omega)⟩
   have JS:¬ ab a n1-c-ab b n1<0:=bU df;exact⟨rfl,dY _,_,rfl,next _ 0 (by omega) (by omega) (by omega) (by omega) (by omega)⟩
  have uy:b.length<=n1:=by
   have:¬ (n1:Int)<(s'.n:Int):=bU ov;omega
  have z:=eQ uy;refine⟨fun dN=>?_,fun df=>?_⟩
  ·have JR:ab a n1-c<0:=bq dN
   have e3:i64.wrap (ab a n1-c+1000000000)=ab a n1-c+1000000000:=wrap_i64 (by omega);rw [e3];exact⟨rfl,dY _,_,rfl,next _ 1 (by omega) (by omega) (by omega) (by omega) (by omega)⟩
  have JS:¬ ab a n1-c<0:=bU df;exact⟨rfl,dY _,_,rfl,next _ 0 (by omega) (by omega) (by omega) (by omega) (by omega)⟩
 have hkm:n1=a.length:=by
  have:¬ (n1:Int)<(s.n:Int):=bU cg;omega
 intro bk cap spare lT dd _;have ux:n1<=cap:=dd;have hk:=ju (V:=V') (b:=bk) (cap:=cap) (o:=o) (spare:=spare) (t:=3) lT (by omega) (by omega);have hle:=aG (x:=(o.map ag++spare,((3:TypeId),((0,0):Nat × Nat)))) lT;obtain⟨vX,kI⟩:=dS jh;have key:=hY _ _ _ _ hk.1;rw [gR] at key;refine key.mono ?_
 rintro V2 r ⟨rfl,s2,rfl,Hl,hL⟩;refine⟨nofun,s2,rfl,hle,s2,_,_,rfl,hL,hk.2,vX,?_⟩
 rw [kI,af,gR,hv];have hbd:=ch jh n1;rw [hv] at hbd;rw [fE (show a.length<=n1 by omega),fE (show b.length<=n1 by omega)] at hbd ⊢;have hc:c=0:=by
  rcases(show c=0\/c=1 by omega) with hc | hc
  ·exact hc
  exfalso
  rw [hc,Int.one_mul] at hbd;omega
 rw [hc]; simp
theorem DU {V:aa} {b:Nat} {x y}:aB (aB V b x) b y=aB V b y:=by
 funext k
 simp only [aB];split <;> rfl
theorem UI {V:aa} {b:Nat} {x} (h:V b=some x):aB V b x=V:=by
 funext k
 simp only [aB];split
 ·rename_i e; rw [e,h]
 rfl
def gn (V:aa) (b:Nat) (pre:List Value) (w:List aI) (post:List Value):aa:=aB V b (pre++(w.map ag++post),(3,(0,0)))
theorem Pm {V:aa} {b:Nat} {pre post:List Value} {w:List aI}:gn V b pre w post b=some (pre++(w.map ag++post),(3,(0,0))):=av
theorem pH {V:aa} {b:Nat} {pre post:List Value} {w:List aI} {i:Nat} (h:i<w.length):aQ (gn V b pre w post) ((⟨b,pre.length,none⟩:Addr).add (i*1)) 1=some [.int .i64 (ab w i)]:=by
 simp only [ah,aQ,Pm];rw [eH,Nat.mul_one];have e1:w.map ag++post=(w.take i).map ag++((w.drop i).map ag++post):=by rw [<- List.append_assoc,<- List.map_append,List.take_append_drop]
 have e3:(w.drop i).map ag++post=[ag w[i]]++((w.drop (i+1)).map ag++post):=by rw [List.drop_eq_getElem_cons h]; rfl
 have:=eH (x:=(w.take i).map ag) (y:=(w.drop i).map ag++post) (o:=0) (n:=1);rw [show((w.take i).map ag).length+0=i by simp; omega] at this
 rw [e1,this,e3,aV h];exact fK
theorem uz {V:aa} {b k:Nat} {pre post:List Value} {w:List aI}:gn V b pre w post ((⟨b,pre.length,none⟩:Addr).add k).block=some (pre++(w.map ag++post),(3,(0,0))):=by
 rw [ah]; exact av
theorem pI {b p k:Nat}:((⟨b,p,none⟩:Addr).add k).spot=none:=by rw [ah]
theorem uA {b:Nat} {pre post:List Value} {w:List aI} {i:Nat} {x:Value} (h:i<w.length):((⟨b,pre.length,none⟩:Addr).add (i*1)).off+[x].length<=(pre++(w.map ag++post)).length:=by
 rw [ah];show pre.length+i*1+1<=_
 simp;omega
theorem uB {V:aa} {b:Nat} {pre post:List Value} {w:List aI} {i:Nat} {x:Int} (h:i<w.length) :
  aB (gn V b pre w post) ((⟨b,pre.length,none⟩:Addr).add (i*1)).block (aX (pre++(w.map ag++post)) ((⟨b,pre.length,none⟩:Addr).add (i*1)).off [.int .i64 x],(3,(0,0)))=gn V b pre (w.set i (x,())) post:=by
 rw [ah];show aB (aB V b _) b (aX (pre++(w.map ag++post)) (pre.length+i*1) _,_)=aB V b _
 rw [DU];have e1:pre++(w.map ag++post)=(pre++(w.take i).map ag)++((w.drop i).map ag++post):=by
  rw [List.append_assoc,<- List.append_assoc ((w.take i).map ag),<- List.map_append,List.take_append_drop]
 have e3:(w.drop i).map ag++post=ag w[i] :: ((w.drop (i+1)).map ag++post):=by rw [List.drop_eq_getElem_cons h]; rfl
 have e2:w.set i (x,())=w.take i++(x,()) :: w.drop (i+1):=by rw [List.set_eq_take_append_cons_drop,if_pos h]
 rw [e1,e3,iL (by simp; omega) (by simp),e2]
 simp only [List.length_singleton,List.drop_succ_cons,List.drop_zero,List.map_append,List.map_cons,List.append_assoc,List.cons_append,List.nil_append]
 rfl
theorem Pn {V:aa} {b:Nat} {pre post:List Value} {w:List aI} {s:ar} {l:List aI} {f:List Nat} (h:LR rI V s l f) (hb:b ∉ f):LR rI (gn V b pre w post) s l f :=
 h.loc fun c hc=>bh (fun e=>hb (by rw [<- e]; exact hc))
def Low (w:List aI) (n:Nat):Prop:=∀ j,j<n->0<=ab w j/\ab w j<1000000000
theorem Low.val {w:List aI} {n:Nat} (h:Low w n):0<=ak w n/\ak w n<1000000000 ^ n:=by
 induction n with
 | zero=>simp [ak]
 | succ n ih =>
  have h0:=ih (fun j hj=>h j (by omega));have hl:=h n (by omega);have h1:=fL hl.1 n;have h2:=dQ (show ab w n<=999999999 by omega) n;rw [ak,dp];constructor
  ·omega
  omega
theorem JT {w:List aI} {n:Nat} (hw:w.length=n+1) (h:Low w n) (h0:0<=af w) (h1:af w<1000000000 ^ n):bK w:=by
 have hv:=h.val;rw [af,hw,ak] at h0 h1;have ht:ab w n=0:=by
  rcases(show ab w n<=-1\/ab w n=0\/1<=ab w n by omega) with e | e | e
  ·have:=dQ e n
   omega
  ·exact e
  have:=dQ e n;omega
 intro j
 by_cases e:j<n
 ·exact h j e
 by_cases e2:j=n
 ·rw [e2,ht]; omega
 rw [eQ (by omega)]; omega
theorem JU {V:aa} {b cap:Nat} {pre post:List Value} {w v:List aI} {s:ar} {f:List Nat} {q:Int} (hw:bK w) (hl:w.length=v.length+1) (hv:LR rI V s v f) (hb:b ∉ f) (lv:bK v) (lw:v.length<=1000000) (hq:0<=q/\q<1000000000) :
  ae prog (gn V b pre w post) 318 [qL ⟨some ⟨b,pre.length,none⟩,w.length,cap⟩,qL s,.int .i64 q]
   (fun V' r=>∃ w',V'=gn V b pre w' post/\w'.length=w.length/\Low w' v.length/\af w'=af w-q*af v/\-1000000000<ab w' v.length/\ab w' v.length<1000000000/\r=.bool (decide (ab w' v.length<0))):=by
 refine aM (Ju _ _ _) fun _=>?_
 have hn:=hv.1;have hB:(1000000000:Int)≠0:=by decide
 simp only [xK,T.wp];refine⟨fun y V'=>∃ (k:Nat) (o:List aI),V'=gn V b pre o post/\y.1=⟨some ⟨b,pre.length,none⟩,w.length,cap⟩/\y.2.2.1=(k:Int)/\k<=v.length/\0<=(y.2.1:Int)/\(y.2.1:Int)<1000000000/\o.length=w.length/\bK o/\af o=af w+(y.2.1:Int)*1000000000 ^ k-q*ak v k,
  fun y=>((v.length:Int)-(y.2.2.1:Int)).toNat,⟨((⟨some ⟨b,pre.length,none⟩,w.length,cap⟩:ar),(0:Int),(0:Int),()),rfl,0,w,rfl,rfl,rfl,by omega,(by omega:(0:Int)<=0),(by omega:(0:Int)<1000000000),rfl,hw,by simp [ak]⟩,?_⟩
 rintro⟨s1,(c:Int),(i:Int),u⟩ V' ⟨k,o,rfl,BW,hi,hk,nV,nT,gR,jh,hvo⟩;replace BW:s1=⟨some ⟨b,pre.length,none⟩,w.length,cap⟩:=BW;replace hi:i=(k:Int):=hi;replace nV:0<=c:=nV;replace nT:c<1000000000:=nT;replace hvo:af o=af w+c*1000000000 ^ k-q*ak v k:=hvo;subst BW hi;refine⟨fun aN=>?_,fun cg=>?_⟩
 ·have Rw:k<v.length:=by
   have:(k:Int)<(s.n:Int):=bq aN;omega
  obtain⟨b1,o1,a1,l1⟩:=(Pn (pre:=pre) (post:=post) (w:=o) hv hb).int Rw;have ev:v[k].1=ab v k:=(aV Rw).symm;have lvx:=lv k;have lox:=jh k;have vu:k<o.length:=by omega
  have hxq:=yx lvx hq;have e0:(k:Int).toNat=k:=by omega
  have ix:(0:Int)<=(k:Int):=by omega
  have JV:(k:Int)<((w.length:Nat):Int):=by omega
  have wi:i64.wrap ((k:Int)+1)=((k+1:Nat):Int):=kD Rw (by omega);refine⟨_,a1,ix,(by omega:(k:Int)<(s.n:Int)),ab v k,by rw [<- ev]; exact l1,_,rfl,ix,JV,ab o k,pH vu,?_⟩
  have e1:i64.wrap (ab v k*q)=ab v k*q:=wrap_i64 (by omega);have e2:i64.wrap (ab o k-ab v k*q)=ab o k-ab v k*q:=wrap_i64 (by omega);have e3:i64.wrap (ab o k-ab v k*q-c)=ab o k-ab v k*q-c:=wrap_i64 (by omega);show(_->_)/\(_->_)
  rw [e1,e2,e3];obtain⟨d,hd⟩:∃ d,d=ab o k-ab v k*q-c:=⟨_,rfl⟩;rw [<- hd];have next:∀ t e:Int,t=d+e*1000000000->0<=t->t<1000000000->0<=e->e<1000000000->∃ y':cH [.o (.o .l),.o (.o (.i .i64)),.o (.o (.i .i64))],
    [LV.v (qL ⟨some ⟨b,pre.length,none⟩,w.length,cap⟩),.v (.int .i64 e),.v (.int .i64 (i64.wrap ((k:Int)+1)))]=cH.nf _ y' /\
    (∃ (k':Nat) (o':List aI),gn V b pre (o.set k (t,())) post=gn V b pre o' post/\y'.1=⟨some ⟨b,pre.length,none⟩,w.length,cap⟩/\y'.2.2.1=(k':Int)/\k'<=v.length/\0<=(y'.2.1:Int)/\(y'.2.1:Int)<1000000000/\o'.length=w.length/\bK o'/\af o'=af w+(y'.2.1:Int)*1000000000 ^ k'-q*ak v k') /\
    ((v.length:Int)-(y'.2.2.1:Int)).toNat<((v.length:Int)-(k:Int)).toNat:=by
   intro t e ht JQ ht1 he0 gB;rw [wi];refine⟨((⟨some ⟨b,pre.length,none⟩,w.length,cap⟩:ar),e,((k+1:Nat):Int),()),rfl,⟨k+1,_,rfl,rfl,rfl,Rw,he0,gB,by rw [List.length_set]; exact gR,iU jh vu ⟨JQ,ht1⟩,UC (b':=e) vu hvo (by omega)⟩,?_⟩
   show((v.length:Int)-((k+1:Nat):Int)).toNat<_
   omega
  refine⟨fun dN=>?_,fun df=>?_⟩
  ·have JR:d<0:=bq dN
   have g1:i64.wrap (0-d)=-d:=by rw [wrap_i64 (by omega)]; omega
   have g2:i64.wrap (-d+1000000000)=-d+1000000000:=wrap_i64 (by omega);have g3:i64.wrap (-d+1000000000-1)=-d+999999999:=by rw [wrap_i64 (by omega)]; omega
   have g4:i64.wrap ((-d+999999999).tdiv 1000000000)=(-d+999999999) / 1000000000:=by rw [Int.tdiv_eq_ediv_of_nonneg (by omega)]; exact wrap_i64 (by omega)
   obtain⟨e,he⟩:∃ e,e=(-d+999999999) / 1000000000:=⟨_,rfl⟩;have g5:i64.wrap (e*1000000000)=e*1000000000:=wrap_i64 (by omega);have g6:i64.wrap (d+e*1000000000)=d+e*1000000000:=wrap_i64 (by omega);rw [g1,g2,g3,g4,<- he,g5,g6];refine⟨hB,_,rfl,ix,JV,?_⟩
   rw [e0];refine⟨_,_,pI,uz,uA vu,?_⟩
   rw [uB vu];exact⟨_,rfl,next _ e rfl (by omega) (by omega) (by omega) (by omega)⟩
  have JS:¬ d<0:=bU df;refine⟨_,rfl,ix,JV,?_⟩
  rw [e0];refine⟨_,_,pI,uz,uA vu,?_⟩
  rw [uB vu];exact⟨_,rfl,next d 0 (by omega) (by omega) (by omega) (by omega) (by omega)⟩
 have Rw:k=v.length:=by
  have:¬ (k:Int)<(s.n:Int):=bU cg;omega
 subst Rw;have vu:v.length<o.length:=by omega
 have lox:=jh v.length;have e0:(s.n:Int).toNat=v.length:=by omega
 have ix:(0:Int)<=(s.n:Int):=by omega
 have JV:(s.n:Int)<((w.length:Nat):Int):=by omega
 rw [e0];have e1:i64.wrap (ab o v.length-c)=ab o v.length-c:=wrap_i64 (by omega);refine⟨_,rfl,ix,JV,ab o v.length,pH vu,_,rfl,ix,JV,?_⟩
 show ∃ cs u,_/\_
 rw [e1];have hx:ab (o.set v.length (ab o v.length-c,())) v.length=ab o v.length-c:=by rw [eZ vu,if_pos rfl]
 refine⟨_,_,pI,uz,uA vu,?_⟩
 rw [uB vu];refine⟨_,rfl,ix,JV,ab (o.set v.length (ab o v.length-c,())) v.length,pH (by rw [List.length_set]; exact vu),?_⟩
 refine⟨_,rfl,by rw [List.length_set]; exact gR,fun j hj=>?_,?_,?_,?_,rfl⟩
 ·rw [eZ vu,if_neg (by omega)]; exact jh j
 ·rw [iT vu,hvo]
  show _=af w-q*ak v v.length
  grind
 ·rw [hx]; omega
 rw [hx]; omega
theorem Po {V:aa} {b cap:Nat} {pre post:List Value} {w v:List aI} {s:ar} {f:List Nat} (hw:Low w v.length) (hl:w.length=v.length+1) (hv:LR rI V s v f) (hb:b ∉ f) (lv:bK v) (lw:v.length<=1000000) (ma:-1000000000<ab w v.length/\ab w v.length<1000000000) :
  ae prog (gn V b pre w post) 319 [qL ⟨some ⟨b,pre.length,none⟩,w.length,cap⟩,qL s]
   (fun V' r=>∃ w',V'=gn V b pre w' post/\w'.length=w.length/\Low w' v.length/\af w'=af w+af v/\r=.tuple #[]):=by
 refine aM (OW _ _) fun _=>?_
 have hn:=hv.1;have hB:(1000000000:Int)≠0:=by decide
 simp only [AH,T.wp];refine⟨fun y V'=>∃ (k:Nat) (o:List aI),V'=gn V b pre o post/\y.1=⟨some ⟨b,pre.length,none⟩,w.length,cap⟩/\y.2.2.1=(k:Int)/\k<=v.length/\0<=(y.2.1:Int)/\(y.2.1:Int)<=1/\o.length=w.length/\Low o v.length/\ab o v.length=ab w v.length/\af o+(y.2.1:Int)*1000000000 ^ k=af w+ak v k,
  fun y=>((v.length:Int)-(y.2.2.1:Int)).toNat,⟨((⟨some ⟨b,pre.length,none⟩,w.length,cap⟩:ar),(0:Int),(0:Int),()),rfl,0,w,rfl,rfl,rfl,by omega,(by omega:(0:Int)<=0),(by omega:(0:Int)<=1),rfl,hw,rfl,by simp [ak]⟩,?_⟩
 rintro⟨s1,(c:Int),(i:Int),u⟩ V' ⟨k,o,rfl,BW,hi,hk,nV,nT,gR,jh,hto,hvo⟩;replace BW:s1=⟨some ⟨b,pre.length,none⟩,w.length,cap⟩:=BW;replace hi:i=(k:Int):=hi;replace nV:0<=c:=nV;replace nT:c<=1:=nT;replace hvo:af o+c*1000000000 ^ k=af w+ak v k:=hvo;subst BW hi;refine⟨fun aN=>?_,fun cg=>?_⟩
 ·have Rw:k<v.length:=by
   have:(k:Int)<(s.n:Int):=bq aN;omega
  obtain⟨b1,o1,a1,l1⟩:=(Pn (pre:=pre) (post:=post) (w:=o) hv hb).int Rw;have ev:v[k].1=ab v k:=(aV Rw).symm;have lvx:=lv k;have lox:=jh k Rw;have vu:k<o.length:=by omega
  have e0:(k:Int).toNat=k:=by omega
  have ix:(0:Int)<=(k:Int):=by omega
  have JV:(k:Int)<((w.length:Nat):Int):=by omega
  have wi:i64.wrap ((k:Int)+1)=((k+1:Nat):Int):=kD Rw (by omega);have e1:i64.wrap (ab o k+ab v k)=ab o k+ab v k:=wrap_i64 (by omega);have e2:i64.wrap (c+(ab o k+ab v k))=c+(ab o k+ab v k):=wrap_i64 (by omega);obtain⟨t,ht⟩:∃ t,t=c+(ab o k+ab v k):=⟨_,rfl⟩;have t0:0<=t:=by omega
  have e4:t.tmod 1000000000=t % 1000000000:=Int.tmod_eq_emod_of_nonneg t0;have e5:i64.wrap (t.tdiv 1000000000)=t / 1000000000:=by rw [Int.tdiv_eq_ediv_of_nonneg t0]; exact wrap_i64 (by omega)
  refine⟨_,a1,ix,(by omega:(k:Int)<(s.n:Int)),ab v k,by rw [<- ev]; exact l1,_,rfl,ix,JV,ab o k,pH vu,hB,_,rfl,ix,JV,?_⟩
  show ∃ cs u,_/\_
  rw [e1,e2,<- ht,e4,e5,wi,e0];refine⟨_,_,pI,uz,uA vu,?_⟩
  rw [uB vu];refine⟨hB,_,rfl,((⟨some ⟨b,pre.length,none⟩,w.length,cap⟩:ar),t / 1000000000,((k+1:Nat):Int),()),rfl,⟨k+1,_,rfl,rfl,rfl,Rw,(by omega:(0:Int)<=t / 1000000000),(by omega:t / 1000000000<=1),by rw [List.length_set]; exact gR,fun j hj=>?_,?_,UD (d:=t % 1000000000) (e:=t / 1000000000) vu hvo (by omega)⟩,?_⟩
  ·rw [eZ vu]
   split
   ·constructor <;> omega
   exact jh j hj
  ·rw [eZ vu,if_neg (by omega)]; exact hto
  show((v.length:Int)-((k+1:Nat):Int)).toNat<((v.length:Int)-(k:Int)).toNat
  omega
 have Rw:k=v.length:=by
  have:¬ (k:Int)<(s.n:Int):=bU cg;omega
 subst Rw;have vu:v.length<o.length:=by omega
 have e0:(s.n:Int).toNat=v.length:=by omega
 have ix:(0:Int)<=(s.n:Int):=by omega
 have JV:(s.n:Int)<((w.length:Nat):Int):=by omega
 rw [e0];have e1:i64.wrap (ab o v.length+c)=ab o v.length+c:=wrap_i64 (by omega);refine⟨_,rfl,ix,JV,ab o v.length,pH vu,_,rfl,ix,JV,?_⟩
 show ∃ cs u,_/\_
 rw [e1];refine⟨_,_,pI,uz,uA vu,?_⟩
 rw [uB vu];refine⟨_,rfl,by rw [List.length_set]; exact gR,fun j hj=>?_,?_,rfl⟩
 ·rw [eZ vu,if_neg (by omega)]; exact jh j hj
 rw [iT vu];show _=af w+ak v v.length
 rw [<- hvo]
 grind
theorem UJ (V:aa) (s s':ar) (a b:List aI) (f f':List Nat) (h:LR rI V s a f) (h':LR rI V s' b f') (ha:bK a) (hb:bK b) (la:a.length<=1000000) (lb:b.length<=1000000) :
  ae prog V 372 [qL s,qL s'] (fun V' r=>V.le V'/\∃ YS o DT,r=qL YS/\LR rI V' YS o DT/\cQ V V' DT/\Can o/\af o=af a+af b/\o.length<=1000001):=by
 refine aM (Uv _ _) fun _=>?_
 have hn:=h.1;have H9:=h'.1;obtain⟨m,hm,hm1,hm2,hm3⟩:∃ m:Nat,(if (s'.n:Int) > (s.n:Int) then (s'.n:Int) else (s.n:Int))=(m:Int)/\a.length<=m/\b.length<=m/\m<=1000000:=by
  by_cases DN:(s'.n:Int) > (s.n:Int)
  ·exact⟨s'.n,by rw [if_pos DN],by omega,by omega,by omega⟩
  exact⟨s.n,by rw [if_neg DN],by omega,by omega,by omega⟩
 simp only [DJ,T.wp,hm];have hw:i64.wrap ((m:Int)+1)=(m:Int)+1:=wrap_i64 (by omega);rw [hw];refine⟨⟨by omega,by omega,by omega,by omega⟩,?_⟩
 refine⟨fun y V'=>V'=V/\∃ (k:Nat) (o:List aI),y.2.2.1=(k:Int)/\k<=m/\0<=(y.2.1:Int)/\(y.2.1:Int)<=1/\y.1.1=k/\y.1.2=o.map ag/\o.length=k/\bK o/\ak o k+(y.2.1:Int)*1000000000 ^ k=ak a k+ak b k,
  fun y=>((m:Int)-(y.2.2.1:Int)).toNat,⟨((0,[]),(0:Int),(0:Int),()),rfl,rfl,0,[],rfl,by omega,by decide,by decide,rfl,rfl,rfl,eU,rfl⟩,?_⟩
 rintro⟨⟨n1,ys⟩,(c:Int),(i:Int),u⟩ V' ⟨rfl,k,o,hi,hk,nV,nT,gm,dZ,gR,jh,hv⟩;replace hi:i=(k:Int):=hi;replace nV:0<=c:=nV;replace nT:c<=1:=nT;replace gm:n1=k:=gm;replace dZ:ys=o.map ag:=dZ;replace hv:ak o k+c*1000000000 ^ k=ak a k+ak b k:=hv;subst hi gm dZ;have la1:=ha n1;have lb1:=hb n1;refine⟨fun aN=>?_,fun cg=>?_⟩
 ·have hkm:n1<m:=by
   have:(n1:Int)<(m:Int):=bq aN;omega
  have jU:i64.wrap ((n1:Int)+1)=((n1+1:Nat):Int):=kD hkm (by omega);have next:∀ t:Int,t=c+ab a n1+ab b n1->∃ y':cH [.a 3,.o (.o (.i .i64)),.o (.o (.i .i64))],
    [LV.a 3 (n1+1) (o.map ag++[.int .i64 (t.tmod (1000000000:Int))]),.v (.int .i64 (i64.wrap (t.tdiv (1000000000:Int)))),.v (.int .i64 (i64.wrap ((n1:Int)+1)))]=cH.nf _ y' /\
    (V'=V'/\∃ (k:Nat) (o:List aI),y'.2.2.1=(k:Int)/\k<=m/\0<=(y'.2.1:Int)/\(y'.2.1:Int)<=1/\y'.1.1=k/\y'.1.2=o.map ag/\o.length=k/\bK o/\ak o k+(y'.2.1:Int)*1000000000 ^ k=ak a k+ak b k) /\
    ((m:Int)-(y'.2.2.1:Int)).toNat<((m:Int)-(n1:Int)).toNat:=by
   intro t ht;have JQ:0<=t:=by omega
   have htm:t.tmod 1000000000=t % 1000000000:=Int.tmod_eq_emod_of_nonneg JQ;have htd:t.tdiv 1000000000=t / 1000000000:=Int.tdiv_eq_ediv_of_nonneg JQ;have hwd:i64.wrap (t / 1000000000)=t / 1000000000:=wrap_i64 (by omega);rw [htm,htd,jU,hwd];refine⟨((n1+1,(o++[(t % 1000000000,())]).map ag),t / 1000000000,((n1+1:Nat):Int),()),?_,⟨rfl,n1+1,o++[(t % 1000000000,())],rfl,hkm,(by omega:(0:Int)<=t / 1000000000),(by omega:t / 1000000000<=1),rfl,rfl,by simp [gR],fM jh ⟨(by omega:(0:Int)<=t % 1000000000),(by omega:t % 1000000000<1000000000)⟩,?_⟩,?_⟩
   ·simp [cH.nf,mP.lv,dx.val,Sc.val,ag]
   ·have:=Ie (d:=t % 1000000000) (e:=t / 1000000000) gR hv (by omega)
    exact this
   show((m:Int)-((n1+1:Nat):Int)).toNat<_
   omega
  have hB:(1000000000:Int)≠0:=by decide
  refine⟨fun Hp=>?_,fun Hp=>?_⟩
  ·have nU:n1<a.length:=by
    have:(n1:Int)<(s.n:Int):=bq Hp;omega
   obtain⟨b1,o1,a1,l1⟩:=h.int nU;have ea:a[n1].1=ab a n1:=(aV nU).symm;have e1:i64.wrap (c+ab a n1)=c+ab a n1:=wrap_i64 (by omega);refine⟨_,a1,(by omega:(0:Int)<=(n1:Int)),(by omega:(n1:Int)<(s.n:Int)),ab a n1,by rw [<- ea]; exact l1,?_⟩
   show(_->_)/\(_->_)
   refine⟨fun ov=>?_,fun ov=>?_⟩
   ·have uy:n1<b.length:=by
     have:(n1:Int)<(s'.n:Int):=bq ov;omega
    obtain⟨b2,o2,a2,l2⟩:=h'.int uy;have eb:b[n1].1=ab b n1:=(aV uy).symm;have e2:i64.wrap (c+ab a n1+ab b n1)=c+ab a n1+ab b n1:=wrap_i64 (by omega);refine⟨_,a2,(by omega:(0:Int)<=(n1:Int)),(by omega:(n1:Int)<(s'.n:Int)),ab b n1,by rw [<- eb]; exact l2,hB,rfl,⟨rfl,(by omega:(n1+1)*8<=140737488355328),(by omega:n1+1<=9223372036854775807)⟩,hB,_,rfl,?_⟩
    have:=next _ (rfl:c+ab a n1+ab b n1=_);rw [<- e2,<- e1] at this;exact this
   have uy:b.length<=n1:=by
    have:¬ (n1:Int)<(s'.n:Int):=bU ov;omega
   refine⟨hB,rfl,⟨rfl,(by omega:(n1+1)*8<=140737488355328),(by omega:n1+1<=9223372036854775807)⟩,hB,_,rfl,?_⟩
   have:=next (c+ab a n1) (by rw [eQ uy]; omega)
   rw [<- e1] at this;exact this
  have nU:a.length<=n1:=by
   have:¬ (n1:Int)<(s.n:Int):=bU Hp;omega
  refine⟨fun ov=>?_,fun ov=>?_⟩
  ·have uy:n1<b.length:=by
    have:(n1:Int)<(s'.n:Int):=bq ov;omega
   obtain⟨b2,o2,a2,l2⟩:=h'.int uy;have eb:b[n1].1=ab b n1:=(aV uy).symm;have e2:i64.wrap (c+ab b n1)=c+ab b n1:=wrap_i64 (by omega);refine⟨_,a2,(by omega:(0:Int)<=(n1:Int)),(by omega:(n1:Int)<(s'.n:Int)),ab b n1,by rw [<- eb]; exact l2,hB,rfl,⟨rfl,(by omega:(n1+1)*8<=140737488355328),(by omega:n1+1<=9223372036854775807)⟩,hB,_,rfl,?_⟩
   have:=next (c+ab b n1) (by rw [eQ nU]; omega)
   rw [<- e2] at this;exact this
  have uy:b.length<=n1:=by
   have:¬ (n1:Int)<(s'.n:Int):=bU ov;omega
  refine⟨hB,rfl,⟨rfl,(by omega:(n1+1)*8<=140737488355328),(by omega:n1+1<=9223372036854775807)⟩,hB,_,rfl,?_⟩
  exact next c (by rw [eQ nU,eQ uy]; omega)
 have hkm:n1=m:=by
  have:¬ (n1:Int)<(m:Int):=bU cg;omega
 refine⟨rfl,⟨rfl,(by omega:(n1+1)*8<=140737488355328),(by omega:n1+1<=9223372036854775807)⟩,?_⟩
 intro bk cap spare lT dd _;have ux:n1+1<=cap:=dd;have hO:bK (o++[(c,())]):=fM jh ⟨nV,(by omega:c<1000000000)⟩;have hk:=ju (V:=V') (b:=bk) (cap:=cap) (o:=o++[(c,())]) (spare:=spare) (t:=3) lT (by simp [gR]; omega) (by simp [gR]; omega)
 have hlen:(o++[((c:Int),())]).length=n1+1:=by simp [gR]
 have dZ:o.map ag++[(dx.o (.i .i64)).val c]=(o++[(c,())]).map ag:=by simp [dx.val,Sc.val,ag]
 have hle:=aG (x:=((o++[((c:Int),())]).map ag++spare,((3:TypeId),((0,0):Nat × Nat)))) lT;obtain⟨vX,kI⟩:=dS hO;have key:=FU _ _ _ _ hk.1;rw [hlen] at key;have e0:aB V' bk (o.map ag++[(dx.o (.i .i64)).val c]++spare,((3:TypeId),((0,0):Nat × Nat)))=aB V' bk ((o++[(c,())]).map ag++spare,(3,(0,0))):=by rw [dZ]
 show ae _ (aB V' bk (o.map ag++[(dx.o (.i .i64)).val c]++spare,((3:TypeId),((0,0):Nat × Nat)))) _ _ _
 rw [e0];refine key.mono ?_
 rintro V2 r ⟨rfl,s2,rfl,hL⟩;refine⟨nofun,s2,rfl,hle,s2,_,_,rfl,hL,hk.2,vX,?_,?_⟩
 ·rw [kI,af,hlen,ak,lC (by omega),<- gR,ik,gR]
  show ak o n1+c*1000000000 ^ n1=_
  rw [hv,fE (by omega),fE (by omega)]
 have:=zz (o++[((c:Int),())]) (o++[((c:Int),())]).length;unfold db;rw [List.length_take];omega
theorem DV (V:aa) (s s':ar) (a b:List aI) (f f':List Nat) (h:LR rI V s a f) (h':LR rI V s' b f') (ha:bK a) (hb:bK b) (la:a.length<=1000000) (lb:b.length<=a.length) (hge0:af b<=af a) :
  ae prog V 373 [qL s,qL s'] (fun V' r=>V.le V'/\∃ YS o DT,r=qL YS/\LR rI V' YS o DT/\cQ V V' DT/\Can o/\af o=af a-af b/\o.length<=1000000):=by
 refine aM (Ux _ _) fun _=>?_
 have hn:=h.1;have H9:=h'.1;simp only [DK,T.wp];refine⟨⟨by omega,by omega,by omega,by omega⟩,?_⟩
 refine⟨fun y V'=>V'=V/\∃ (k:Nat) (o:List aI) (rest:List Value),y.2.2.1=(k:Int)/\k<=a.length/\0<=(y.2.1:Int)/\(y.2.1:Int)<=1/\y.1.1=a.length/\y.1.2=o.map ag++rest/\rest.length=a.length-k/\o.length=k/\bK o/\ak o k=ak a k-ak b k+(y.2.1:Int)*1000000000 ^ k,
  fun y=>((a.length:Int)-(y.2.2.1:Int)).toNat,
  ⟨(((s.n:Int).toNat,(madeCells ⟨[.int .i64 (0:Int)]⟩ ((s.n:Int).toNat*1)).toList),(0:Int),(0:Int),()),rfl,rfl,0,[],_,rfl,by omega,(by omega:(0:Int)<=0),(by omega:(0:Int)<=1),(by omega:(s.n:Int).toNat=a.length),rfl,by rw [tD]; omega,rfl,eU,rfl⟩,?_⟩
 rintro⟨⟨n1,ys⟩,(c:Int),(i:Int),u⟩ V' ⟨rfl,k,o,rest,hi,hk,nV,nT,gm,dZ,pA,gR,jh,hv⟩;replace hi:i=(k:Int):=hi;replace nV:0<=c:=nV;replace nT:c<=1:=nT;replace gm:n1=a.length:=gm;replace dZ:ys=o.map ag++rest:=dZ;replace hv:ak o k=ak a k-ak b k+c*1000000000 ^ k:=hv;subst hi gm dZ;have la1:=ha k;have lb1:=hb k;refine⟨fun aN=>?_,fun cg=>?_⟩
 ·have nU:k<a.length:=by
   have:(k:Int)<(s.n:Int):=bq aN;omega
  have jU:i64.wrap ((k:Int)+1)=((k+1:Nat):Int):=kD nU (by omega);have dY:(k:Int).toNat*1+1<=(o.map ag++rest).length:=by simp [gR]; omega
  have next:∀ t e:Int,t=ab a k-c-ab b k+1000000000*e->0<=t->t<1000000000->0<=e->e<=1->∃ y':cH [.a 3,.o (.o (.i .i64)),.o (.o (.i .i64))],
    [LV.a 3 a.length (aX (o.map ag++rest) ((k:Int).toNat*1) [.int .i64 t]),.v (.int .i64 e),.v (.int .i64 (i64.wrap ((k:Int)+1)))]=cH.nf _ y' /\
    (V'=V'/\∃ (k:Nat) (o:List aI) (rest:List Value),y'.2.2.1=(k:Int)/\k<=a.length/\0<=(y'.2.1:Int)/\(y'.2.1:Int)<=1/\y'.1.1=a.length/\y'.1.2=o.map ag++rest/\rest.length=a.length-k/\o.length=k/\bK o/\ak o k=ak a k-ak b k+(y'.2.1:Int)*1000000000 ^ k) /\
    ((a.length:Int)-(y'.2.2.1:Int)).toNat<((a.length:Int)-(k:Int)).toNat:=by
   intro t e ht JQ ht1 he0 gB;rw [jU];have vZ:aX (o.map ag++rest) ((k:Int).toNat*1) [.int .i64 t]=(o++[(t,())]).map ag++rest.drop 1:=by
    rw [iL (by simp [gR]) (by simp; omega)]
    simp [ag]
   rw [vZ];refine⟨((a.length,(o++[(t,())]).map ag++rest.drop 1),e,((k+1:Nat):Int),()),rfl,⟨rfl,k+1,o++[(t,())],rest.drop 1,rfl,nU,he0,gB,rfl,rfl,by simp [pA]; omega,by simp [gR],fM jh ⟨JQ,ht1⟩,Ig gR hv ht⟩,?_⟩
   show((a.length:Int)-((k+1:Nat):Int)).toNat<_
   omega
  obtain⟨b1,o1,a1,l1⟩:=h.int nU;have ea:a[k].1=ab a k:=(aV nU).symm;have e1:i64.wrap (ab a k-c)=ab a k-c:=wrap_i64 (by omega);refine⟨_,a1,(by omega:(0:Int)<=(k:Int)),(by omega:(k:Int)<(s.n:Int)),ab a k,by rw [<- ea]; exact l1,?_⟩
  have gM:(0:Int)<=(k:Int)/\(k:Int)<((a.length:Nat):Int):=⟨by omega,by omega⟩;show(_->_)/\(_->_)
  rw [e1];refine⟨fun ov=>?_,fun ov=>?_⟩
  ·have uy:k<b.length:=by
    have:(k:Int)<(s'.n:Int):=bq ov;omega
   obtain⟨b2,o2,a2,l2⟩:=h'.int uy;have eb:b[k].1=ab b k:=(aV uy).symm;have e2:i64.wrap (ab a k-c-ab b k)=ab a k-c-ab b k:=wrap_i64 (by omega);refine⟨_,a2,(by omega:(0:Int)<=(k:Int)),(by omega:(k:Int)<(s'.n:Int)),ab b k,by rw [<- eb]; exact l2,?_⟩
   show(_->_)/\(_->_)
   rw [e2];refine⟨fun dN=>?_,fun df=>?_⟩
   ·have JR:ab a k-c-ab b k<0:=bq dN
    have e3:i64.wrap (ab a k-c-ab b k+1000000000)=ab a k-c-ab b k+1000000000:=wrap_i64 (by omega);rw [e3];exact⟨gM,dY,_,rfl,next _ 1 (by omega) (by omega) (by omega) (by omega) (by omega)⟩
   have JS:¬ ab a k-c-ab b k<0:=bU df;exact⟨gM,dY,_,rfl,next _ 0 (by omega) (by omega) (by omega) (by omega) (by omega)⟩
  have uy:b.length<=k:=by
   have:¬ (k:Int)<(s'.n:Int):=bU ov;omega
  have z:=eQ uy;refine⟨fun dN=>?_,fun df=>?_⟩
  ·have JR:ab a k-c<0:=bq dN
   have e3:i64.wrap (ab a k-c+1000000000)=ab a k-c+1000000000:=wrap_i64 (by omega);rw [e3];exact⟨gM,dY,_,rfl,next _ 1 (by omega) (by omega) (by omega) (by omega) (by omega)⟩
  have JS:¬ ab a k-c<0:=bU df;exact⟨gM,dY,_,rfl,next _ 0 (by omega) (by omega) (by omega) (by omega) (by omega)⟩
 have hkm:k=a.length:=by
  have:¬ (k:Int)<(s.n:Int):=bU cg;omega
 have gw:rest=[]:=List.eq_nil_of_length_eq_zero (by omega);subst gw;intro bk cap spare lT dd _;have ux:a.length<=cap:=dd;have hk:=ju (V:=V') (b:=bk) (cap:=cap) (o:=o) (spare:=spare) (t:=3) lT (by omega) (by omega);have hle:=aG (x:=(o.map ag++spare,((3:TypeId),((0,0):Nat × Nat)))) lT;obtain⟨vX,kI⟩:=dS jh;have key:=FU _ _ _ _ hk.1;rw [show o.length=a.length by omega] at key;show ae _ (aB V' bk (o.map ag++[]++spare,((3:TypeId),((0,0):Nat × Nat)))) _ _ _
 rw [List.append_nil];refine key.mono ?_
 rintro V2 r ⟨rfl,s2,rfl,hL⟩;refine⟨nofun,s2,rfl,hle,s2,_,_,rfl,hL,hk.2,vX,?_,?_⟩
 ·rw [kI,af,show o.length=k by omega,hv]
  have hbd:=ch jh k;rw [hv] at hbd;rw [fE (show a.length<=k by omega),fE (show b.length<=k by omega)] at hbd ⊢;have hc:c=0:=by
   rcases(show c=0\/c=1 by omega) with hc | hc
   ·exact hc
   exfalso
   rw [hc,Int.one_mul] at hbd;omega
  rw [hc]; simp
 have:=zz o o.length;unfold db;rw [List.length_take];omega
def hZ (l:List aI):Prop:=Can l/\l.length<=50
def eD (neg:Bool) (l:List aI):Prop:=hZ l/\(neg=true->0<l.length)
def bQ (neg:Bool) (l:List aI):Int:=if neg=true then -af l else af l
def pd (z:Int):Int:=if z<0 then -1 else if z=0 then 0 else 1
def bp (cur:ByteArray) (neg:Bool) (l:List aI):Prop:=known cur=true/\eD neg l/\l.length<=4
theorem YT {l:List aI}:bK l↔∀ i,i<l.length->0<=ab l i/\ab l i<1000000000 :=
 ⟨fun h i _=>h i,fun h i=>by
  by_cases hi:i<l.length
  ·exact h i hi
  rw [eQ (by omega)]; omega⟩
theorem YU {P:Program} {K:aa->List Value->Prop} {V V0:aa} {s:ar} {l:List aI} {f:List Nat} {p:Int->Prop} {body:cH [.o (.o (.i .i64))]->T} {tail:T} (h:LR rI V s l f)
  (lB:∀ (i:Nat) (_:i<l.length) (N:List LV->aa->Prop),(¬ p (ab l i)->K V [.bool false])->(p (ab l i)->N [.v (.int .i64 (i64.wrap ((i:Int)+1)))] V)->(body ((i:Int),())).wp P K V V [N])
  (JW:(∀ i,i<l.length->p (ab l i))->∀ N,tail.wp P K V V [N]) (Pp:(∃ i,i<l.length/\¬ p (ab l i))->K V [.bool false]) :
  (T.lp [.o (.o (.i .i64))] [.v (.int .i64 (0:Int))] fun y=>.br (decide (y.fst<(s.n:Int))) (body y) tail).wp P K V V0 []:=by
 simp only [T.wp];have hn:=h.1;have hb:=h.2.2.1;refine⟨fun y V'=>V'=V/\∃ i:Nat,y.1=(i:Int)/\i<=l.length/\∀ j,j<i->p (ab l j),fun y=>((l.length:Int)-(y.1:Int)).toNat,⟨((0:Int),()),rfl,rfl,0,rfl,by omega,fun j hj=>by omega⟩,?_⟩
 rintro⟨(i:Int),u⟩ V' ⟨rfl,k,hk,hle,bC⟩;replace hk:i=(k:Int):=hk;subst hk;refine⟨fun aN=>?_,fun cg=>?_⟩
 ·have h1:k<l.length:=by
   have:(k:Int)<(s.n:Int):=bq aN;omega
  refine lB k h1 _ (fun bR=>Pp ⟨k,h1,bR⟩) fun he=>?_
  refine⟨(((k+1:Nat):Int),()),by rw [kD h1 (by omega)]; rfl,⟨rfl,k+1,rfl,h1,fun j hj=>?_⟩,?_⟩
  ·by_cases e:j=k
   ·subst e; exact he
   exact bC j (by omega)
  show((l.length:Int)-((k+1:Nat):Int)).toNat<((l.length:Int)-(k:Int)).toNat
  omega
 have h1:k=l.length:=by
  have:¬ (k:Int)<(s.n:Int):=bU cg;omega
 subst h1;exact JW bC _
theorem gE {l:List aI}:hZ l↔(∀ i,i<l.length->0<=ab l i/\ab l i<1000000000)/\l.length<=50/\(l.length=0\/ab l (l.length-1)≠0):=by
 unfold hZ Can;rw [YT];exact⟨fun h=>⟨h.1.1,h.2,h.1.2⟩,fun h=>⟨⟨h.1,h.2.2⟩,h.2.1⟩⟩
theorem pJ (V:aa) (x y z:Int):ae prog V 143 [.int .i64 x,.int .i64 y,.int .i64 z] (fun V' r=>V'=V/\r=.bool (decide (y<=x/\x<=z))):=by
 refine aM (Yl x y z) fun _=>?_
 simp only [I2,T.wp,packed,decide_eq_true_eq,decide_eq_false_iff_not];refine⟨fun h=>⟨by trivial,?_⟩,fun h=>⟨by trivial,?_⟩⟩
 ·congr 1
  exact decide_eq_decide.2 ⟨fun k=>⟨by omega,k⟩,fun k=>k.2⟩
 congr 1
 exact(decide_eq_false (by omega)).symm
theorem DW {V:aa} {s:ar} {l:List aI} {f:List Nat} (h:LR rI V s l f) (hp:0<l.length):i64.wrap ((s.n:Int)-1)=((l.length-1:Nat):Int) /\
  ∃ b o,s.a=some ⟨b,o,none⟩/\aQ V ((⟨b,o,none⟩:Addr).add ((l.length-1)*1)) 1=some [.int .i64 (ab l (l.length-1))]:=by
 have hn:=h.1;have hb:=h.2.2.1;refine⟨by rw [wrap_i64 (by omega)]; omega,?_⟩
 obtain⟨b,o,a1,l1⟩:=h.int (i:=l.length-1) (by omega);exact⟨b,o,a1,by rw [aV (by omega)]; exact l1⟩
theorem pK (V:aa) (s:ar) (l:List aI) (f:List Nat) (h:LR rI V s l f):ae prog V 126 [qL s] (fun V' r=>V'=V/\∃ e,r=.bool e/\(e=true↔hZ l)):=by
 refine aM (Yg s) fun _=>?_
 unfold IX;have hn:=h.1;refine YU (p:=fun x=>0<=x/\x<1000000000) h (fun i hi N h1 h2=>?_) (fun bC N=>?_) (fun⟨i,hi,bR⟩=>⟨rfl,false,rfl,⟨(fun h=>by cases h),(fun e=>(bR ((gE.1 e).1 i hi)).elim)⟩⟩)
 ·obtain⟨b,o,a1,l1⟩:=h.int hi
  have e1:l[i].1=ab l i:=(aV hi).symm;refine⟨_,a1,(by omega:(0:Int)<=(i:Int)),(by omega:(i:Int)<(s.n:Int)),ab l i,by rw [<- e1]; exact l1,(pJ V (ab l i) 0 999999999).mono ?_⟩
  rintro V' r ⟨rfl,rfl⟩;refine⟨nofun,_,rfl,fun hf=>h1 fun hp=>?_,fun ht=>⟨_,rfl,h2 ?_⟩⟩
  ·have:decide (0<=ab l i/\ab l i<=999999999)=true:=decide_eq_true (by omega)
   rw [this] at hf; cases hf
  have:0<=ab l i/\ab l i<=999999999:=by simpa using ht
  omega
 refine⟨fun hle=>?_,fun DN=>⟨rfl,false,rfl,⟨(fun h=>by cases h),(fun e=>?_)⟩⟩⟩
 ·have v7:(s.n:Int)<=50:=bq hle
  refine⟨fun h0=>⟨rfl,true,rfl,⟨fun _=>?_,fun _=>rfl⟩⟩,fun h0=>?_⟩
  ·have:(s.n:Int)=0:=by simpa using h0
   exact gE.2 ⟨bC,by omega,.inl (by omega)⟩
  have UK:¬ (s.n:Int)=0:=by simpa using h0
  obtain⟨hw,b,o,a1,l1⟩:=DW h (by omega);rw [hw];refine⟨_,a1,(by omega:(0:Int)<=((l.length-1:Nat):Int)),(by omega:((l.length-1:Nat):Int)<(s.n:Int)),ab l (l.length-1),l1,rfl,_,rfl,⟨fun hb=>?_,fun e=>?_⟩⟩
  ·have:ab l (l.length-1)≠0:=by simpa using hb
   exact gE.2 ⟨bC,by omega,.inr this⟩
  have:=(gE.1 e).2.2;have:ab l (l.length-1)≠0:=by
   rcases this with h | h
   ·omega
   exact h
  simpa using this
 have hgt':¬ (s.n:Int)<=50:=bU DN;have:=(gE.1 e).2.1;omega
theorem JX (V:aa) (s:ar) (l:List aI) (f:List Nat) (h:LR rI V s l f):ae prog V 166 [qL s] (fun V' r=>V'=V/\∃ e,r=.bool e/\(e=true↔hZ l)):=by
 refine aM (Yq s) fun _=>?_
 unfold I8;have hn:=h.1;have body:∀ (hlen:l.length<=50) (ma:l.length=0\/ab l (l.length-1)≠0),(T.lp [.o (.o (.i .i64))] [.v (.int .i64 (0:Int))] fun y3 =>
   .br (decide (y3.fst<(s.n:Int))) (
    .el (s.a) (s.n) (y3.fst) fun y4=>.ld false (y4.add (Int.toNat y3.fst*(1:Nat))) (.o (.i .i64)) fun y5 =>
    .br (decide (y5<(0:Int))) (.ret [.bool (false)]) <| .br (decide (y5>=(1000000000:Int))) (.ret [.bool (false)]) <|
    .nx 0 [.v (.int .i64 (i64.wrap (y3.fst+(1:Int))))]) <| .ret [.bool (true)]).wp prog (fun V' vs=>V'=V/\∃ e,packed vs=.bool e/\(e=true↔hZ l)) V V []:=by
  intro hlen ma;refine YU (p:=fun x=>0<=x/\x<1000000000) h (fun i hi N h1 h2=>?_) (fun bC N=>⟨rfl,true,rfl,⟨fun _=>gE.2 ⟨bC,hlen,ma⟩,fun _=>rfl⟩⟩) (fun⟨i,hi,bR⟩=>⟨rfl,false,rfl,⟨(fun h=>by cases h),(fun e=>(bR ((gE.1 e).1 i hi)).elim)⟩⟩)
  obtain⟨b,o,a1,l1⟩:=h.int hi;have e1:l[i].1=ab l i:=(aV hi).symm;refine⟨_,a1,(by omega:(0:Int)<=(i:Int)),(by omega:(i:Int)<(s.n:Int)),ab l i,by rw [<- e1]; exact l1,fun aN=>h1 fun hp=>?_,fun cg=>⟨fun Pq=>h1 fun hp=>?_,fun hsm=>⟨_,rfl,h2 ?_⟩⟩⟩
  ·have:ab l i<0:=bq aN
   omega
  ·have:ab l i>=1000000000:=bq Pq
   omega
  have q1:¬ ab l i<0:=bU cg;have q2:¬ ab l i>=1000000000:=bU hsm;omega
 refine⟨fun DN=>⟨rfl,false,rfl,⟨(fun h=>by cases h),(fun e=>?_)⟩⟩,fun hle=>?_⟩
 ·have:(s.n:Int) > 50:=bq DN
  have:=(gE.1 e).2.1;omega
 have hlen:l.length<=50:=by
  have:¬ (s.n:Int) > 50:=bU hle;omega
 refine⟨fun df=>?_,fun hz=>?_⟩
 ·have hp:(s.n:Int) > 0:=bq df
  obtain⟨hw,b,o,a1,l1⟩:=DW h (by omega);rw [hw];refine⟨_,a1,(by omega:(0:Int)<=((l.length-1:Nat):Int)),(by omega:((l.length-1:Nat):Int)<(s.n:Int)),ab l (l.length-1),l1,fun h0=>⟨rfl,false,rfl,⟨(fun h=>by cases h),(fun e=>?_)⟩⟩,fun h0=>?_⟩
  ·have UK:ab l (l.length-1)=0:=by simpa using h0
   rcases(gE.1 e).2.2 with h1 | h1
   ·omega
   exact(h1 UK).elim
  have UK:¬ ab l (l.length-1)=0:=by simpa using h0
  exact body hlen (.inr UK)
 have hp:¬ (s.n:Int) > 0:=bU hz;exact body hlen (.inl (by omega))
theorem jY (V:aa) (c0:Bool) (c1:ar) (l:List aI) (f:List Nat) (h:LR rI V c1 l f):ae prog V 125 [cV (c0,c1,())] (fun V' r=>V'=V/\∃ e,r=.bool e/\(e=true↔eD c0 l)):=by
 refine aM (Ye _) fun _=>?_
 simp only [IW,T.wp];have hn:=h.1;refine(pK V c1 l f h).mono ?_
 rintro V' r ⟨rfl,e,rfl,he⟩;refine⟨nofun,e,rfl,fun ht=>?_,fun hf=>⟨by trivial,false,rfl,⟨(fun h=>by cases h),(fun k=>by rw [he.2 k.1] at hf; cases hf)⟩⟩⟩
 refine⟨fun dN=>⟨by trivial,true,rfl,⟨fun _=>⟨he.1 ht,fun hc=>?_⟩,fun _=>rfl⟩⟩,fun dN=>⟨by trivial,_,rfl,⟨fun hd=>⟨he.1 ht,fun _=>?_⟩,fun k=>?_⟩⟩⟩
 ·rw [hc] at dN; cases dN
 ·have:(c1.n:Int) > 0:=bq hd
  omega
 have hc:c0=true:=by simpa using dN
 have:=k.2 hc;exact decide_eq_true (by omega)
theorem AV (V:aa) (c0:Bool) (c1:ar) (l:List aI) (f:List Nat) (h:LR rI V c1 l f):ae prog V 165 [cV (c0,c1,())] (fun V' r=>V'=V/\∃ e,r=.bool e/\(e=true↔eD c0 l)):=by
 refine aM (Yo _) fun _=>?_
 simp only [I7,T.wp];have hn:=h.1;refine(JX V c1 l f h).mono ?_
 rintro V' r ⟨rfl,e,rfl,he⟩;refine⟨nofun,e,rfl,fun ht=>?_,fun hf=>⟨by trivial,false,rfl,⟨(fun h=>by cases h),(fun k=>by rw [he.2 k.1] at hf; cases hf)⟩⟩⟩
 refine⟨fun dN=>⟨by trivial,true,rfl,⟨fun _=>⟨he.1 ht,fun hc=>?_⟩,fun _=>rfl⟩⟩,fun dN=>⟨by trivial,_,rfl,⟨fun hd=>⟨he.1 ht,fun _=>?_⟩,fun k=>?_⟩⟩⟩
 ·rw [hc] at dN; cases dN
 ·have:(c1.n:Int) > 0:=bq hd
  omega
 have hc:c0=true:=by simpa using dN
 have:=k.2 hc;exact decide_eq_true (by omega)
theorem ia {V:aa} (c0:ByteArray) (c1:Bool) (c2:ar) (l:List aI) (f:List Nat) (h:LR rI V c2 l f):ae prog V 73 [ct (c0,c1,c2,())] (fun V' r=>V.le V'/\∃ e,r=.bool e/\(e=true↔bp c0 c1 l)):=by
 refine aM (NU _) fun _=>?_
 simp only [zS,T.wp];refine(mA V c0).mono ?_
 rintro V1 r ⟨hle,rfl⟩;replace hle:V.le V1:=by first | exact hle | (subst hle; exact aa.le.refl _)
 refine⟨nofun,known c0,rfl,fun hk=>?_,fun hk=>⟨hle,false,rfl,⟨(fun h=>by cases h),(fun k=>by rw [k.1] at hk; cases hk)⟩⟩⟩
 have h1:=h.le hle;have hn:=h1.1;refine(jY V1 c1 c2 l f h1).mono ?_
 rintro V' r ⟨rfl,e,rfl,he⟩;refine⟨nofun,e,rfl,fun ht=>⟨hle,_,rfl,⟨fun hd=>⟨hk,he.1 ht,?_⟩,fun k=>?_⟩⟩,fun hf=>⟨hle,false,rfl,⟨(fun h=>by cases h),(fun k=>by rw [he.2 k.2.1] at hf; cases hf)⟩⟩⟩
 ·have:(c2.n:Int)<=4:=bq hd
  omega
 have:=k.2.2;exact decide_eq_true (by omega)
theorem jv {V:aa} (hV:iS V) (c0:ByteArray) (c1:Bool) (c2:ar) (l:List aI) (f:List Nat) (h:LR rI V c2 l f):ae prog V 99 [ct (c0,c1,c2,())] (fun V' r=>V.le V'/\∃ e,r=.bool e/\(e=true↔bp c0 c1 l)):=by
 refine aM (N4 _) fun _=>?_
 simp only [zX,T.wp];refine(pG hV c0).mono ?_
 rintro V1 r ⟨hle,rfl⟩;replace hle:V.le V1:=by first | exact hle | (subst hle; exact aa.le.refl _)
 refine⟨nofun,known c0,rfl,fun hk=>?_,fun hk=>⟨hle,false,rfl,⟨(fun h=>by cases h),(fun k=>by rw [k.1] at hk; cases hk)⟩⟩⟩
 have h1:=h.le hle;have hn:=h1.1;refine(AV V1 c1 c2 l f h1).mono ?_
 rintro V' r ⟨rfl,e,rfl,he⟩;refine⟨nofun,e,rfl,fun ht=>⟨hle,_,rfl,⟨fun hd=>⟨hk,he.1 ht,?_⟩,fun k=>?_⟩⟩,fun hf=>⟨hle,false,rfl,⟨(fun h=>by cases h),(fun k=>by rw [he.2 k.2.1] at hf; cases hf)⟩⟩⟩
 ·have:(c2.n:Int)<=4:=bq hd
  omega
 have:=k.2.2;exact decide_eq_true (by omega)
theorem nC (V:aa) (b:Bool) (s:ar):ae prog V 187 [.bool b,qL s] (fun V' r=>V'=V/\r=cV (b && decide ((s.n:Int) > 0),s,())):=by
 refine aM (T1 _ _) fun _=>?_
 simp only [Dr,T.wp];refine⟨fun h=>⟨by trivial,by rw [h]; rfl⟩,fun h=>⟨by trivial,by rw [h]; rfl⟩⟩
theorem UL (V:aa) (c0:Bool) (c1:ar) (l:List aI) (f:List Nat) (h:LR rI V c1 l f) (hl:l.length<=1048576) :
  ae prog V 115 [cV (c0,c1,())] (fun V' r=>V.le V'/\∃ s f',r=cV (!c0 && decide (0<l.length),s,())/\LR rI V' s l f'/\cQ V V' f'):=by
 refine aM (TD _) fun _=>?_
 simp only [Dc,T.wp];refine(lF V c1 l f h hl).mono ?_
 rintro V1 r ⟨hle,s,f',rfl,hL,hO⟩;refine⟨fun _=>hle,s,rfl,(nC V1 (!c0) s).mono ?_⟩
 rintro V2 r ⟨rfl,rfl⟩;refine⟨fun _=>aa.le.refl _,_,rfl,hle,s,f',?_,hL,hO⟩
 have hn:=hL.1;have:decide ((s.n:Int) > 0)=decide (0<l.length):=decide_eq_decide.2 (by omega);show cV (!c0 && decide ((s.n:Int) > 0),s,())=_
 rw [this]
theorem gW {a b:List aI} (ha:Can a) (hb:Can b) (h:af b<=af a):b.length<=a.length:=by
 by_cases e:b.length<=a.length
 ·exact e
 have h1:=iO hb (by omega);have h2:=(ch ha.1 a.length).2;have h3:=gD (show a.length<=b.length-1 by omega);unfold af at h h1;omega
theorem gX {l:List aI} (h:Can l):0<l.length↔0<af l:=by
 have h1:=vK h;have h2:=aO h.1;omega
theorem UM (V:aa) (c0:Bool) (c1:ar) (d0:Bool) (d1:ar) (a b:List aI) (f g:List Nat) (h:LR rI V c1 a f) (h':LR rI V d1 b g) (ha:Can a) (hb:Can b) (la:a.length<=1000000) (lb:b.length<=1000000) :
  ae prog V 354 [cV (c0,c1,()),cV (d0,d1,())] (fun V' r=>V.le V'/\∃ e s o f',r=cV (e,s,())/\LR rI V' s o f'/\cQ V V' f'/\Can o/\bQ e o=bQ c0 a+bQ d0 b/\(e=true->0<o.length)/\o.length<=1000001):=by
 refine aM (Ut _ _) fun _=>?_
 simp only [DI,T.wp];have na:=aO ha.1;have nb:=aO hb.1;have fin:∀ (q:Bool) (s:ar) (o:List aI),Can o->s.n=o.length->bQ (q && decide ((s.n:Int) > 0)) o=bQ q o/\((q && decide ((s.n:Int) > 0))=true->0<o.length):=by
  intro q s o hc hn;have hp:=gX hc;have h0:=aO hc.1;cases q with
  | false=>exact⟨rfl,fun h=>by cases h⟩
  | true =>
   by_cases hz:0<o.length
   ·have:decide ((s.n:Int) > 0)=true:=decide_eq_true (by omega)
    rw [this];exact⟨rfl,fun _=>hz⟩
   have:decide ((s.n:Int) > 0)=false:=decide_eq_false (by omega);rw [this];refine⟨?_,fun h=>by cases h⟩
   have:af o=0:=by omega
   simp [bQ,this]
 refine⟨fun heq=>?_,fun bR=>?_⟩
 ·have hcd:c0=d0:=by simpa using heq
  subst hcd;refine(UJ V c1 d1 a b f g h h' ha.1 hb.1 la lb).mono ?_
  rintro V1 r ⟨hle,s,o,DT,rfl,hL,hO,hc,hv,hlen⟩;refine⟨fun _=>hle,s,rfl,(nC V1 c0 s).mono ?_⟩
  rintro V2 r ⟨rfl,rfl⟩;obtain⟨q1,q2⟩:=fin c0 s o hc hL.1;refine⟨fun _=>aa.le.refl _,_,rfl,hle,_,s,o,DT,rfl,hL,hO,hc,?_,q2,hlen⟩
  rw [q1];unfold bQ;cases c0 <;> simp <;> omega
 have hcd:c0=!d0:=by
  cases c0 <;> cases d0 <;> simp_all
 refine(DM V c1 d1 a b f g h h').mono ?_
 rintro V0 r ⟨rfl,rfl⟩;have JY:=iP ha hb;refine⟨nofun,_,rfl,fun aN=>?_,fun cg=>?_⟩
 ·have vW:cmpL a b<0:=bq aN
  have UN:af a<af b:=by
   rcases JY with ⟨c,k⟩ | ⟨c,k⟩ | ⟨c,k⟩ <;> omega
  refine(DV V0 d1 c1 b a g f h' h hb.1 ha.1 lb (gW hb ha (by omega)) (by omega)).mono ?_
  rintro V1 r ⟨hle,s,o,DT,rfl,hL,hO,hc,hv,hlen⟩;refine⟨fun _=>hle,s,rfl,(nC V1 d0 s).mono ?_⟩
  rintro V2 r ⟨rfl,rfl⟩;obtain⟨q1,q2⟩:=fin d0 s o hc hL.1;refine⟨fun _=>aa.le.refl _,_,rfl,hle,_,s,o,DT,rfl,hL,hO,hc,?_,q2,by omega⟩
  rw [q1];unfold bQ;subst hcd;cases d0 <;> simp <;> omega
 have rU:¬ cmpL a b<0:=bU cg;have UN:af b<=af a:=by
  rcases JY with ⟨c,k⟩ | ⟨c,k⟩ | ⟨c,k⟩ <;> omega
 refine(DV V0 c1 d1 a b f g h h' ha.1 hb.1 la (gW ha hb UN) UN).mono ?_
 rintro V1 r ⟨hle,s,o,DT,rfl,hL,hO,hc,hv,hlen⟩;refine⟨fun _=>hle,s,rfl,(nC V1 c0 s).mono ?_⟩
 rintro V2 r ⟨rfl,rfl⟩;obtain⟨q1,q2⟩:=fin c0 s o hc hL.1;refine⟨fun _=>aa.le.refl _,_,rfl,hle,_,s,o,DT,rfl,hL,hO,hc,?_,q2,by omega⟩
 rw [q1];unfold bQ;subst hcd;cases d0 <;> simp <;> omega
theorem rV (V:aa) (c0:Bool) (c1:ar) (l:List aI) (f:List Nat) (h:LR rI V c1 l f) (hc:Can l):ae prog V 56 [cV (c0,c1,())] (fun V' r=>V'=V/\r=.int .i64 (pd (bQ c0 l))):=by
 refine aM (NL _) fun _=>?_
 simp only [zP,T.wp];have hn:=h.1;have h0:=vK hc;have h1:=aO hc.1;refine⟨fun hz=>⟨by trivial,?_⟩,fun hz=>⟨fun dN=>⟨by trivial,?_⟩,fun df=>⟨by trivial,?_⟩⟩⟩
 ·have:(c1.n:Int)=0:=by simpa using hz
  have:af l=0:=h0.1 (by omega);simp [bQ,this,pd,packed]
 ·have:¬ (c1.n:Int)=0:=by simpa using hz
  have:af l≠0:=fun e=>by have:=h0.2 e; omega
  have nV:c0=true:=dN;subst nV;have e:pd (bQ true l)=-1:=by unfold pd bQ; simp; omega
  rw [e]; rfl
 have:¬ (c1.n:Int)=0:=by simpa using hz
 have:af l≠0:=fun e=>by have:=h0.2 e; omega
 have nV:c0=false:=df;subst nV;have e:pd (bQ false l)=1:=by unfold pd bQ; simp; omega
 rw [e]; rfl
theorem Rx {x y:Int} {c:Int} (h:Cmps c x y):c=pd (x-y):=by
 unfold pd;rcases h with ⟨rfl,h⟩ | ⟨rfl,h⟩ | ⟨rfl,h⟩
 ·rw [if_pos (by omega)]
 ·rw [if_neg (by omega),if_pos (by omega)]
 rw [if_neg (by omega),if_neg (by omega)]
theorem DX (V:aa) (c0:Bool) (c1:ar) (d0:Bool) (d1:ar) (a b:List aI) (f g:List Nat) (h:LR rI V c1 a f) (h':LR rI V d1 b g) (ha:eD c0 a) (hb:eD d0 b) :
  ae prog V 93 [cV (c0,c1,()),cV (d0,d1,())] (fun V' r=>V'=V/\r=.int .i64 (pd (bQ c0 a-bQ d0 b))):=by
 refine aM (Tt _ _) fun _=>?_
 simp only [C4,T.wp];have na:=aO ha.1.1.1;have nb:=aO hb.1.1.1;have pa:=gX ha.1.1;have pb:=gX hb.1.1;refine(jY V c0 c1 a f h).mono ?_
 rintro V1 r ⟨rfl,e,rfl,he⟩;have gB:=he.2 ha;subst gB;refine⟨nofun,true,rfl,nofun,fun _=>(jY V1 d0 d1 b g h').mono ?_⟩
 rintro V2 r ⟨rfl,e,rfl,fq⟩;have fq:=fq.2 hb;subst fq;refine⟨nofun,true,rfl,nofun,fun _=>?_⟩
 have fwd:∀ {K:aa->Value->Prop},(∀ r,r=.int .i64 (pd (af a-af b))->K V2 r)->ae prog V2 127 [qL c1,qL d1] K:=fun hK=>(kT V2 c1 d1 a b f g h h').mono (by
  rintro V' r ⟨rfl,rfl⟩;exact hK _ (by rw [Rx (iP ha.1.1 hb.1.1)]))
 have bwd:∀ {K:aa->Value->Prop},(∀ r,r=.int .i64 (pd (af b-af a))->K V2 r)->ae prog V2 127 [qL d1,qL c1] K:=fun hK=>(kT V2 d1 c1 b a g f h' h).mono (by
  rintro V' r ⟨rfl,rfl⟩;exact hK _ (by rw [Rx (iP hb.1.1 ha.1.1)]))
 cases c0 with
 | true =>
  have a1:=pa.1 (ha.2 rfl);cases d0 with
  | true =>
   refine⟨fun _=>⟨nofun,fun _=>⟨nofun,fun _=>⟨fun _=>bwd ?_,nofun⟩⟩⟩,nofun⟩
   rintro r rfl;refine⟨nofun,_,rfl,by trivial,?_⟩
   have:bQ true a-bQ true b=af b-af a:=by simp [bQ]; omega
   rw [this]; rfl
  | false =>
   refine⟨fun _=>⟨fun _=>⟨by trivial,?_⟩,nofun⟩,nofun⟩
   have:pd (bQ true a-bQ false b)=-1:=by unfold pd bQ; simp; omega
   rw [this]; rfl
 | false =>
  cases d0 with
  | true =>
   have b1:=pb.1 (hb.2 rfl);refine⟨nofun,fun _=>⟨fun _=>⟨fun _=>⟨by trivial,?_⟩,nofun⟩,nofun⟩⟩
   have:pd (bQ false a-bQ true b)=1:=by unfold pd bQ; simp; omega
   rw [this]; rfl
  | false =>
   refine⟨nofun,fun _=>⟨fun _=>⟨nofun,fun _=>⟨nofun,fun _=>fwd ?_⟩⟩,nofun⟩⟩
   rintro r rfl;exact⟨nofun,_,rfl,by trivial,rfl⟩
abbrev AW (V:aa) (b:Nat) (pre:List Value) (w v:List aI) (post:List Value):aa->Value->Prop:=fun V' r=>∃ w' x,V'=gn V b pre w' post/\w'.length=w.length/\bK w'/\af w'=af w-x*af v/\0<=af w'/\af w'<af v/\0<=x/\x<1000000000/\r=.int .i64 x
noncomputable def DY (u v:ar) (q:Int):T :=
 .call false 318 [qL u,qL v,.int .i64 q] (.v (.o .b)) fun XY =>
 .br XY (
  .call false 319 [qL u,qL v] (.t []) fun _ =>
  .ret [.int .i64 (i64.wrap (q-(1:Int)))]) <|
 .ret [.int .i64 q]
theorem YV {V V0:aa} {Ns:List (List LV->aa->Prop)} {b cap:Nat} {pre post:List Value} {w v:List aI} {s:ar} {f:List Nat} {q:Int} (hw:bK w) (hl:w.length=v.length+1) (hv:LR rI V s v f) (hb:b ∉ f) (lv:bK v) (lw:v.length<=1000000)
  (hq:0<=q/\q<1000000000) (h1:(q-1)*af v<=af w) (h2:af w<(q+1)*af v) (_:0<af v) :
  (DY ⟨some ⟨b,pre.length,none⟩,w.length,cap⟩ s q).wp prog (fun V' vs=>AW V b pre w v post V' (packed vs)) (gn V b pre w post) V0 Ns:=by
 simp only [DY,T.wp];have h0:=aO hw;have YW:af v<1000000000 ^ v.length:=(ch lv v.length).2;refine(JU hw hl hv hb lv lw hq).mono ?_
 rintro V1 r ⟨w1,rfl,l1,low1,val1,t0,t1,rfl⟩;have hval1:af w1=ak w1 v.length+ab w1 v.length*1000000000 ^ v.length:=by rw [af,l1,hl,ak]
 have Pr:=low1.val;rw [Int.sub_mul,Int.one_mul] at h1;rw [Int.add_mul,Int.one_mul] at h2;refine⟨nofun,_,rfl,fun dN=>?_,fun df=>?_⟩
 ·have JR:ab w1 v.length<0:=bq dN
  have hm:=dQ (show ab w1 v.length<=-1 by omega) v.length;have QW:1<=q:=by
   by_cases e:1<=q
   ·exact e
   exfalso
   have:q=0:=by omega
   subst this;omega
  rw [<- l1];refine(Po low1 (by omega) hv hb lv lw ⟨t0,t1⟩).mono ?_
  rintro V2 r ⟨w2,rfl,l2,low2,val2,rfl⟩;refine⟨nofun,(),rfl,w2,q-1,rfl,l2.trans l1,?_,?_,by omega,by omega,by omega,by omega,?_⟩
  ·exact JT (by omega) low2 (by omega) (by omega)
  ·rw [val2,val1,Int.sub_mul,Int.one_mul]; omega
  show Value.int .i64 (i64.wrap (q-1))=_
  rw [wrap_i64 (by omega)]
 have JS:¬ ab w1 v.length<0:=bU df;have hm:=fL (show 0<=ab w1 v.length by omega) v.length;exact⟨w1,q,rfl,l1,JT (by omega) low1 (by omega) (by omega),val1,by omega,by omega,hq.1,hq.2,rfl⟩
theorem Ps {V:aa} {b cap:Nat} {pre post:List Value} {w v:List aI} {s:ar} {f:List Nat} (hw:bK w) (hl:w.length=v.length+1) (hv:LR rI V s v f) (hb:b ∉ f) (lv:bK v) (h2:2<=v.length) (lw:v.length<=1000000)
  (ma:ab v (v.length-1)≠0) (aN:af w<1000000000*af v) :
  ae prog (gn V b pre w post) 269 [qL ⟨some ⟨b,pre.length,none⟩,w.length,cap⟩,qL s] (AW V b pre w v post):=by
 refine aM (OO _ _) fun _=>?_
 obtain⟨m,hm⟩:∃ m,v.length=m+2:=⟨v.length-2,by omega⟩;have hn:=hv.1;have hB:(1000000000:Int)≠0:=by decide
 have hvS:=Pn (pre:=pre) (post:=post) (w:=w) hv hb;have hvp:0<af v:=by
  have:Can v:=⟨lv,.inr ma⟩;exact(gX this).1 (by omega)
 rw [show v.length-1=m+1 by omega] at ma;have eV:=YL (v:=v) (m:=m) (by omega);have eW:=YM (v:=w) (m:=m) (by omega);have bV:=ch lv m;have bW:=ch hw m;have hP:=pC m;obtain⟨P,hPe⟩:∃ P:Int,P=1000000000 ^ m:=⟨_,rfl⟩;rw [<- hPe] at eV eW bV bW hP;have hw0:=aO hw;have v1b:=lv (m+1);have v2b:=lv m;have u3b:=hw (m+2);have u1b:=hw (m+1);have u2b:=hw m;obtain⟨b1,o1,a1,l1⟩:=hvS.int (i:=m+1) (by omega);obtain⟨b2,o2,a2,l2⟩:=hvS.int (i:=m) (by omega);rw [<- aV (show m+1<v.length by omega)] at l1;rw [<- aV (show m<v.length by omega)] at l2;obtain⟨top,hT⟩:∃ top,top=ab w (m+2)*1000000000+ab w (m+1):=⟨_,rfl⟩;rw [<- hT] at eW;obtain⟨v1,hv1⟩:∃ x,x=ab v (m+1):=⟨_,rfl⟩;obtain⟨v2,yl⟩:∃ x,x=ab v m:=⟨_,rfl⟩;obtain⟨u2,hu2⟩:∃ x,x=ab w m:=⟨_,rfl⟩;rw [<- hv1] at ma v1b eV l1;rw [<- yl] at v2b eV l2;rw [<- hu2] at u2b eW;have hv1p:0<v1:=by omega
 have JQ:0<=top:=by omega
 have ht1:top<1000000000000000000:=by omega
 have w1:i64.wrap ((s.n:Int)-1)=((m+1:Nat):Int):=by rw [wrap_i64 (by omega)]; omega
 have w2:i64.wrap ((s.n:Int)-2)=(m:Int):=by rw [wrap_i64 (by omega)]; omega
 have wl:w.length=m+3:=by omega
 have e1:i64.wrap (ab w (m+2)*1000000000)=ab w (m+2)*1000000000:=wrap_i64 (by omega);have e2:i64.wrap (ab w (m+2)*1000000000+ab w (m+1))=top:=by rw [hT]; exact wrap_i64 (by omega)
 have i0:(s.n:Int).toNat=m+2:=by omega
 have i1:((m+1:Nat):Int).toNat=m+1:=by omega
 have i2:(m:Int).toNat=m:=by omega
 simp only [AD,T.wp,w1,w2,i0,i1,i2];refine⟨_,rfl,by omega,(by omega:(s.n:Int)<((w.length:Nat):Int)),ab w (m+2),pH (by omega),_,rfl,by omega,(by omega:((m+1:Nat):Int)<((w.length:Nat):Int)),ab w (m+1),pH (by omega),_,a1,by omega,by omega,v1,l1,ma,?_⟩
 have d0:0<=top / v1:=Int.ediv_nonneg JQ (by omega);have d1:top / v1<=top:=Int.ediv_le_self _ JQ;have d2:=Int.mul_ediv_add_emod top v1;have d3:=Int.emod_nonneg top (show v1≠0 by omega);have d4:=Int.emod_lt_of_pos top hv1p;have e3:i64.wrap (top.tdiv v1)=top / v1:=by rw [Int.tdiv_eq_ediv_of_nonneg JQ]; exact wrap_i64 (by omega)
 simp only [e1,e2,e3];obtain⟨q0,hq0⟩:∃ q0,q0=(if (999999999:Int)<top / v1 then 999999999 else top / v1):=⟨_,rfl⟩;rw [<- hq0];have est:∀ q,0<=q->q<1000000000->af w<(q+1)*af v->(q=0\/top-q*v1>=1000000000\/q*v2<=(top-q*v1)*1000000000+u2) ->
   ∀ {V0:aa} {Ns:List (List LV->aa->Prop)},(DY ⟨some ⟨b,pre.length,none⟩,w.length,cap⟩ s q).wp prog (fun V' vs=>AW V b pre w v post V' (packed vs)) (gn V b pre w post) V0 Ns:=by
  intro q hq0 QW hup hk V0 Ns;refine YV hw hl hv hb lv lw ⟨hq0,QW⟩ ?_ hup hvp
  exact YO hP eV bV (by omega) v2b eW bW.1 u2b.1 ⟨hq0,QW⟩ hk hw0
 refine⟨fun y V'=>V'=gn V b pre w post/\0<=(y.1:Int)/\(y.1:Int)<1000000000/\(y.1:Int)*v1<=top/\af w<((y.1:Int)+1)*af v,fun y=>(y.1:Int).toNat,⟨(q0,()),rfl,rfl,?_,?_,?_,?_⟩,?_⟩
 ·show 0<=q0
  rw [hq0]; split <;> omega
 ·show q0<1000000000
  rw [hq0]; split <;> omega
 ·show q0*v1<=top
  have h1:top / v1*v1<=top:=Int.ediv_mul_le top (by omega);have h2:q0*v1<=top / v1*v1:=Int.mul_le_mul_of_nonneg_right (by rw [hq0]; split <;> omega) (by omega)
  omega
 ·show af w<(q0+1)*af v
  rw [hq0];split
  ·exact aN
  refine UB (top:=top) (u2:=u2) hP eV bV.1 v2b.1 eW bW.2 (by omega) d0 ?_
  rw [Int.add_mul,Int.one_mul,Int.mul_comm];omega
 rintro⟨(q:Int),u⟩ V' ⟨rfl,hq,QW,hqv,hup⟩;replace hq:0<=q:=hq;replace QW:q<1000000000:=QW;replace hqv:q*v1<=top:=hqv;replace hup:af w<(q+1)*af v:=hup;have hqv0:0<=q*v1:=Int.mul_nonneg hq (by omega);have g1:i64.wrap (q*v1)=q*v1:=wrap_i64 (by omega);have g2:i64.wrap (top-q*v1)=top-q*v1:=wrap_i64 (by omega);refine⟨fun DN=>?_,fun hz=>?_⟩
 ·have hgt':q > 0:=bq DN
  refine⟨_,a1,by omega,by omega,v1,l1,?_⟩
  show(_->_)/\(_->_)
  rw [g1,g2];refine⟨fun hsm=>?_,fun Pq=>?_⟩
  ·have hsm':top-q*v1<1000000000:=bq hsm
   have hqv2:=yx ⟨hq,QW⟩ v2b;have g3:i64.wrap (q*v2)=q*v2:=wrap_i64 (by omega);have g4:i64.wrap ((top-q*v1)*1000000000)=(top-q*v1)*1000000000:=wrap_i64 (by omega);have g5:i64.wrap ((top-q*v1)*1000000000+u2)=(top-q*v1)*1000000000+u2:=wrap_i64 (by omega);refine⟨_,a2,by omega,by omega,v2,l2,_,a1,by omega,by omega,v1,l1,_,rfl,by omega,(by omega:(m:Int)<((w.length:Nat):Int)),u2,by rw [hu2]; exact pH (by omega),?_⟩
   show(_->_)/\(_->_)
   rw [g1,g2,g3,g4,g5];refine⟨fun RA=>?_,fun uC=>?_⟩
   ·have hmore':q*v2 > (top-q*v1)*1000000000+u2:=bq RA
    have g6:i64.wrap (q-1)=q-1:=wrap_i64 (by omega);refine⟨_,rfl,(q-1,()),by rw [g6]; rfl,⟨rfl,(by omega:0<=q-1),(by omega:q-1<1000000000),?_,?_⟩,?_⟩
    ·show(q-1)*v1<=top
     rw [Int.sub_mul,Int.one_mul]; omega
    ·show af w<(q-1+1)*af v
     rw [show q-1+1=q by omega];exact YN hP eV bV.1 eW bW.2 hq hmore'
    show(q-1).toNat<q.toNat
    omega
   have hless':¬ q*v2 > (top-q*v1)*1000000000+u2:=bU uC;have:=est q hq QW hup (.inr (.inr (by omega))) (V0:=gn V b pre w post) (Ns:=[]);simp only [DY,T.wp] at this;exact this
  have hbig':¬ top-q*v1<1000000000:=bU Pq;have:=est q hq QW hup (.inr (.inl (by omega))) (V0:=gn V b pre w post) (Ns:=[]);simp only [DY,T.wp] at this;exact this
 have EJ:¬ q > 0:=bU hz;have:=est q hq QW hup (.inl (by omega)) (V0:=gn V b pre w post) (Ns:=[]);simp only [DY,T.wp] at this;exact this
abbrev RB (V:aa) (a b:List aI):aa->Value->Prop:=fun V' ret=>V.le V'/\∃ s1 s2 q r f1 f2,ret=.tuple #[qL s1,qL s2]/\LR rI V' s1 q f1/\LR rI V' s2 r f2/\cQ V V' f1/\cQ V V' f2/\Can q/\Can r/\af a=af q*af b+af r/\af r<af b
theorem YX:prog.types[(3:Nat)].size=1:=by kernel_rfl
theorem Nw.seg {V:aa} {s:ar} {o:List aI} {b:Nat} {post:List Value} (hs:s=⟨some ⟨b,0,none⟩,o.length,o.length+post.length⟩) (hl:o.length<=9223372036854775807):Nw (gn V b [] o post) s o b :=
 ⟨post,hs,Pm,hl⟩
theorem UO {V:aa} {b j n:Nat} {U:List aI} {post:List Value}:gn V b [] U post=gn V b ((U.take j).map ag) ((U.drop j).take n) ((U.drop (j+n)).map ag++post):=by
 unfold gn;have e:U=U.take j++((U.drop j).take n++U.drop (j+n)):=by
  rw [<- List.drop_drop,List.take_append_drop,List.take_append_drop]
 conv=>lhs; rw [e]
 simp only [List.map_append,List.nil_append,List.append_assoc]
theorem YY {V:aa} {b j n:Nat} {U w:List aI} {post:List Value}:gn V b ((U.take j).map ag) w ((U.drop (j+n)).map ag++post)=gn V b [] (U.take j++(w++U.drop (j+n))) post:=by
 unfold gn;simp only [List.map_append,List.nil_append,List.append_assoc]
theorem seg_le {V V1:aa} {b:Nat} {pre post:List Value} {w:List aI} (h:V.le V1) (hb:V b=none):V.le (gn V1 b pre w post):=by
 intro k x hk;unfold gn;rw [bh (fun e=>by rw [e,hb] at hk; cases hk)]
 exact h k x hk
theorem none_le {V V1:aa} {b:Nat} (h:V.le V1) (hb:V1 b=none):V b=none:=cL h hb
theorem YZ {b:List aI} {c:Int} (hb:bK b) (hl:0<b.length) (hc:0<c) (hcb:c*(ab b (b.length-1)+1)<=1000000000):af b*c<1000000000 ^ b.length:=by
 obtain⟨k,hk⟩:∃ k,b.length=k+1:=⟨b.length-1,by omega⟩;rw [hk] at hcb ⊢;simp only [Nat.add_sub_cancel] at hcb;have h1:=(ch hb k).2;have h2:af b=ak b k+ab b k*1000000000 ^ k:=by rw [af,hk,ak]
 have h3:af b<(ab b k+1)*1000000000 ^ k:=by rw [h2,Int.add_mul,Int.one_mul]; omega
 have h4:af b*c<(ab b k+1)*1000000000 ^ k*c:=Int.mul_lt_mul_of_pos_right h3 hc;have h5:=dQ hcb k;rw [dp];have h6:(ab b k+1)*1000000000 ^ k*c=c*(ab b k+1)*1000000000 ^ k:=by grind
 omega
theorem unscale {a b u q r r0 c:Int} (hc:0<c) (h:q*(b*c)+u=a*c) (hu:u<b*c) (hr:u=r*c+r0) (h0:0<=r0) (h1:r0<c):a=q*b+r/\r<b:=by
 have e:u=(a-q*b)*c+0:=by grind
 obtain⟨e1,e2⟩:=JM hr e ⟨h0,h1⟩ ⟨Int.le_refl _,hc⟩;refine⟨by omega,?_⟩
 have:r*c<b*c:=by omega
 exact Int.lt_of_mul_lt_mul_right this (Int.le_of_lt hc)
set_option maxHeartbeats 2000000 in
theorem UP (V:aa) (s s':ar) (a b:List aI) (f f':List Nat) (h:LR rI V s a f) (h':LR rI V s' b f') (ha:Can a) (hb:Can b) (la:a.length<=900000) (lb:0<b.length) :
  ae prog V 216 [qL s,qL s'] (RB V a b):=by
 refine aM (Ue _ _) fun _=>?_
 have hn:=h.1;have H9:=h'.1;have jT:=h'.2.2.1;simp only [Dz,T.wp];refine(DM V s s' a b f f' h h').mono ?_
 rintro V0 r0 ⟨rfl,rfl⟩;have JY:=iP ha hb;have hbp:=(gX hb).1 lb;refine⟨nofun,_,rfl,fun aN=>?_,fun cg=>?_⟩
 ·have vW:cmpL a b<0:=bq aN
  have UN:af a<af b:=by rcases JY with ⟨c,k⟩ | ⟨c,k⟩ | ⟨c,k⟩ <;> omega
  refine(lF V0 s a f h (by omega)).mono ?_
  rintro V1 r ⟨hle,s1,f1,rfl,hL,hO⟩;refine⟨nofun,s1,rfl,?_⟩
  intro b3 c3 spare im _ _;have hV:=aG (x:=(([]:List Value)++spare,((3:TypeId),((0,0):Nat × Nat)))) im;exact⟨hle.trans hV,⟨some ⟨b3,0,none⟩,0,c3⟩,s1,[],a,[],f1,rfl,⟨rfl,Nat.zero_le _,Nat.zero_le _,.inl ⟨rfl,(fun h=>by cases h),rfl⟩⟩,hL.le hV,cQ.nil,hO.post hV,⟨eU,.inl rfl⟩,ha,by rw [jX]; simp,UN⟩
 have rU:¬ cmpL a b<0:=bU cg;have UN:af b<=af a:=by rcases JY with ⟨c,k⟩ | ⟨c,k⟩ | ⟨c,k⟩ <;> omega
 have lba:=gW ha hb UN;refine⟨fun vC=>?_,fun RA=>?_⟩
 ·have fW:b.length=1:=by
   have:(s'.n:Int)=1:=by simpa using vC
   omega
  obtain⟨b1,o1,a1,l1⟩:=h'.int lb;rw [<- aV lb] at l1;have YW:af b=ab b 0:=by rw [af,fW]; simp [ak]
  have lx:=hb.1 0;refine⟨_,a1,Int.le_refl _,(by omega:(0:Int)<(s'.n:Int)),ab b 0,l1,?_⟩
  refine(xU V0 s a f (ab b 0) h ha.1 (by omega) (by omega)).mono ?_
  rintro V1 r ⟨hle,s1,q,r1,f1,rfl,hL,hO,hc,hv,h0,h1,_⟩;refine⟨nofun,(s1,r1,()),rfl,(YQ V1 r1 (by omega)).mono ?_⟩
  rintro V2 r ⟨bG,s2,o,f2,rfl,yw,JZ,wZ,yl,_⟩;exact⟨nofun,s2,rfl,hle.trans bG,s1,s2,q,o,f1,f2,rfl,hL.le bG,yw,hO.post bG,JZ.pre hle,hc,wZ,by rw [YW,yl]; exact hv,by rw [YW,yl]; exact h1⟩
 have ow:2<=b.length:=by
  have:¬ (s'.n:Int)=1:=by simpa using RA
  omega
 have w1:i64.wrap ((s'.n:Int)-1)=((b.length-1:Nat):Int):=by rw [wrap_i64 (by omega)]; omega
 rw [w1];obtain⟨b1,o1,a1,l1⟩:=h'.int (i:=b.length-1) (by omega);rw [<- aV (show b.length-1<b.length by omega)] at l1;have lx:=hb.1 (b.length-1);have ltop:ab b (b.length-1)≠0:=by
  rcases hb.2 with e | e
  ·omega
  exact e
 refine⟨_,a1,by omega,(by omega:((b.length-1:Nat):Int)<(s'.n:Int)),ab b (b.length-1),l1,?_⟩
 have w2:i64.wrap (ab b (b.length-1)+1)=ab b (b.length-1)+1:=wrap_i64 (by omega);have w3:i64.wrap ((1000000000:Int).tdiv (ab b (b.length-1)+1))=1000000000 / (ab b (b.length-1)+1):=by
  have g1:=Int.ediv_nonneg (show(0:Int)<=1000000000 by decide) (show 0<=ab b (b.length-1)+1 by omega);have g2:=Int.ediv_le_self (ab b (b.length-1)+1) (show(0:Int)<=1000000000 by decide);rw [Int.tdiv_eq_ediv_of_nonneg (by decide)];exact wrap_i64 (by omega)
 rw [w2,w3];obtain⟨c,hc⟩:∃ c,c=1000000000 / (ab b (b.length-1)+1):=⟨_,rfl⟩;have nT:1<=c:=by
  rw [hc];exact(Int.le_ediv_iff_mul_le (by omega)).2 (by omega)
 have BX:c*(ab b (b.length-1)+1)<=1000000000:=by
  rw [hc];exact Int.ediv_mul_le _ (by omega)
 have wZ:c<1000000000:=by
  have h1:c*2<=c*(ab b (b.length-1)+1):=Int.mul_le_mul_of_nonneg_left (by omega) (by omega);omega
 rw [<- hc];refine⟨by omega,?_⟩
 intro b4 c4 Y0 hb4 hc4 _;have k4:=ju (V:=V0) (b:=b4) (cap:=c4) (o:=[(c,())]) (spare:=Y0) (t:=3) hb4 hc4 (by simp);have oy:=aG (x:=([(c,())].map ag++Y0,((3:TypeId),((0,0):Nat × Nat)))) hb4;have lc:bK [(c,())]:=ur ⟨by omega,wZ⟩;have cc:Can [(c,())]:=⟨lc,.inr (by show ab [(c,())] 0≠0; simp [ab]; omega)⟩
 refine(DS _ s ⟨some ⟨b4,0,none⟩,1,c4⟩ a [(c,())] f _ (h.le oy) k4.1 ha.1 lc (by omega) (by simp)).mono ?_
 rintro V5 r5 ⟨hle5,s5,u,bu,rfl,nwu,hbu,canu,valu,capu⟩;rw [iW] at valu;refine⟨nofun,s5,rfl,?_⟩
 intro b6 c6 v8 hb6 hc6 _;have k6:=ju (V:=V5) (b:=b6) (cap:=c6) (o:=[(c,())]) (spare:=v8) (t:=3) hb6 hc6 (by simp);have FW:=aG (x:=([(c,())].map ag++v8,((3:TypeId),((0,0):Nat × Nat)))) hb6;have hle06:=(oy.trans hle5).trans FW;refine(DS _ s' ⟨some ⟨b6,0,none⟩,1,c6⟩ b [(c,())] f' _ (h'.le hle06) k6.1 hb.1 lc (by omega) (by simp)).mono ?_
 rintro V7 r7 ⟨Pt,s7,v,bv,rfl,nwv,hbv,canv,valv,_⟩;rw [iW] at valv;refine⟨nofun,s7,rfl,?_⟩
 have hle07:=hle06.trans Pt;have hbu0:V0 bu=none:=none_le oy hbu
 -- lengths
 have hvp:0<af v:=by
  rw [valv];exact Int.mul_pos hbp (by omega)
 have hvlt:af v<1000000000 ^ b.length:=by rw [valv]; exact YZ hb.1 lb (by omega) BX
 have hbv1:af b<=af v:=by
  rw [valv];have:=Int.mul_le_mul_of_nonneg_left nT (Int.le_of_lt hbp);omega
 have lv:v.length=b.length:=by
  have h1:=gW canv hb hbv1;have h2:v.length<=b.length:=by
   by_cases e:v.length<=b.length
   ·exact e
   have g1:=iO canv (by omega);have g2:=gD (show b.length<=v.length-1 by omega);omega
  omega
 have lvp:=(gX canv).2 hvp;have vtop:ab v (v.length-1)≠0:=by
  rcases canv.2 with e | e
  ·omega
  exact e
 have hvL:LR rI V7 s7 v [bv]:=nwv.lr;have hn7:s7.n=v.length:=hvL.1;have nwu7:V7 bu=V5 bu:=by
  obtain⟨sp,e1,e2,e3⟩:=nwu;rw [e2];exact Pt _ _ (FW _ _ e2)
 have hbne:bu≠bv:=by
  intro e;obtain⟨sp,e1,e2,e3⟩:=nwu;have:=FW _ _ e2;rw [e,hbv] at this;cases this
 have ua:af u<1000000000 ^ (a.length+1):=by
  rw [valu,dp];have h1:=(ch ha.1 a.length).2;have h2:af a*c<=af a*999999999:=Int.mul_le_mul_of_nonneg_left (by omega) (aO ha.1);have h3:=aO ha.1;have h4:af a<1000000000 ^ a.length:=h1;omega
 have lu:u.length<=a.length+1:=by
  by_cases e:u.length<=a.length+1
  ·exact e
  have g1:=iO canu (by omega);have g2:=gD (show a.length+1<=u.length-1 by omega);omega
 obtain⟨C,hC⟩:∃ C,C=s5.c:=⟨_,rfl⟩;have hCa:a.length+2<=C:=by rw [hC]; simpa using capu
 have hCm:C<=9223372036854775807\/True:=.inr trivial
 -- the dividend gets its rj
 refine⟨fun y V'=>∃ (o:List aI) (sp:List Value),V'=gn V7 bu [] o sp/\y.1=⟨some ⟨bu,0,none⟩,o.length,C⟩/\o.length+sp.length=C/\bK o/\af o=af u/\o.length<=a.length+1,
  fun y=>a.length+2-y.1.n,⟨(s5,()),rfl,?_⟩,?_⟩
 ·obtain⟨sp,e1,e2,e3⟩:=nwu
  refine⟨u,sp,?_,?_,?_,canu.1,rfl,lu⟩
  ·exact(UI (by rw [nwu7]; exact e2)).symm
  ·show s5=_
   rw [hC,e1]
  rw [hC,e1]
 rintro⟨s8,uu⟩ V' ⟨o,sp,rfl,hs8,hosp,lo,vo,ho⟩;replace hs8:s8=⟨some ⟨bu,0,none⟩,o.length,C⟩:=hs8;subst hs8;refine⟨fun hshort=>?_,fun hlong=>?_⟩
 ·have zl:o.length<=a.length:=by
   have:((o.length:Nat):Int)<=(s.n:Int):=bq hshort;omega
  refine⟨rfl,rfl,(by omega:o.length<=C),nofun,nofun,fun _ _=>⟨bu,o.map ag++sp,rfl,Pm,?_,_,rfl,((⟨some ⟨bu,0,none⟩,o.length+1,C⟩:ar),()),rfl,⟨o++[(0,())],sp.drop 1,?_,?_,?_,fM lo (by decide),?_,?_⟩,?_⟩,fun _ v'=>?_⟩
  ·show(o.length+1)*1<=(o.map ag++sp).length
   rw [List.length_append,List.length_map]; omega
  ·show aB (aB V7 bu _) bu (aX (o.map ag++sp) (o.length*1) [.int .i64 0],_)=aB V7 bu _
   rw [DU,iL (by simp) (by simp; omega)]
   simp [ag]
  ·show(⟨_,_,_⟩:ar)=_
   simp
  ·simp; omega
  ·rw [iV,iW,Int.zero_mul,vo]; omega
  ·simp; omega
  ·show a.length+2-(o.length+1)<a.length+2-o.length
   omega
  have:C<o.length+1:=v';omega
 have jh:o.length=a.length+1:=by
  have:¬ ((o.length:Nat):Int)<=(s.n:Int):=bU hlong;omega
 have w4:i64.wrap (((o.length:Nat):Int)-(s7.n:Int))=((a.length+1-v.length:Nat):Int):=by rw [wrap_i64 (by omega)]; omega
 show((0:Int)<=i64.wrap (((o.length:Nat):Int)-(s7.n:Int))/\_/\_/\_)/\_
 rw [w4];obtain⟨N,hN⟩:∃ N,N=a.length+1-v.length:=⟨_,rfl⟩;rw [<- hN];have w5:i64.wrap (((((N:Nat):Int).toNat:Nat):Int)-1)=(N:Int)-1:=by rw [wrap_i64 (by omega)]; omega
 rw [w5];refine⟨⟨by omega,by omega,by omega,by omega⟩,?_⟩
 have hdrop:af (o.drop N)<af v:=by
  have h1:=ou o N (o.drop N).length;have h2:ak o (N+(o.drop N).length)=af o:=by rw [fE (by simp; omega)]
  rw [h2] at h1;have h3:=(ch lo N).1;have h4:af (o.drop N)*1000000000 ^ N<=af a*c:=by
   show ak (o.drop N) (o.drop N).length*_<=_
   omega
  have h5:=(ch ha.1 a.length).2;have h6:=iO hb lb;have h7:af a<1000000000 ^ N*af b:=by
   have e:(1000000000:Int) ^ a.length=1000000000 ^ N*1000000000 ^ (b.length-1):=by
    rw [<- vU]
    congr 1
    omega
   have:1000000000 ^ N*1000000000 ^ (b.length-1)<=1000000000 ^ N*af b:=Int.mul_le_mul_of_nonneg_left h6 (Int.le_of_lt (pC N));have h8:af a<1000000000 ^ a.length:=h5;omega
  have h8:af a*c<1000000000 ^ N*af b*c:=Int.mul_lt_mul_of_pos_right h7 (by omega);have h9:1000000000 ^ N*af b*c=af v*1000000000 ^ N:=by rw [valv]; grind
  have yg:af (o.drop N)*1000000000 ^ N<af v*1000000000 ^ N:=by omega
  exact Int.lt_of_mul_lt_mul_right yg (Int.le_of_lt (pC N))
 refine⟨fun y V'=>∃ (k:Nat) (Q U:List aI),V'=gn V7 bu [] U sp/\y.2.1=(k:Int)-1/\k<=N/\y.1.1=N/\y.1.2=Q.map ag/\Q.length=N/\bK Q/\(∀ j,j<k->ab Q j=0)/\U.length=o.length/\bK U/\af Q*af v+af U=af a*c/\af (U.drop k)<af v,
  fun y=>((y.2.1:Int)+1).toNat,⟨((((N:Nat):Int).toNat,(madeCells ⟨[.int .i64 (0:Int)]⟩ (((N:Nat):Int).toNat*1)).toList),(N:Int)-1,()),rfl,N,Rs N,o,rfl,rfl,Nat.le_refl _,(by omega:((N:Nat):Int).toNat=N),by rw [show((N:Nat):Int).toNat*1=N by omega]; exact nB _,ot _,nz _,fun j _=>nu _ j,rfl,lo,by rw [nv,vo,valu]; simp,hdrop⟩,?_⟩
 rintro⟨⟨n9,ys⟩,(i:Int),u9⟩ V' ⟨k,Q,U,rfl,hi,hk,hn9,dZ,hQ,lQ,zQ,hU,lU,kI,hdr⟩;replace hi:i=(k:Int)-1:=hi;replace hn9:n9=N:=hn9;replace dZ:ys=Q.map ag:=dZ;subst hn9 dZ;refine⟨fun UG=>?_,fun MH=>?_⟩
 ·have hge2':i>=0:=bq UG
  obtain⟨j,rfl⟩:∃ j,k=j+1:=⟨k-1,by omega⟩;have hi:i=(j:Int):=by omega
  subst hi;have e0:(j:Int).toNat=j:=by omega
  have w6:i64.wrap (i64.wrap ((j:Int)+(s7.n:Int))+1)=((j+v.length+1:Nat):Int):=by
   rw [show i64.wrap ((j:Int)+(s7.n:Int))=(j:Int)+(s7.n:Int) from wrap_i64 (by omega),wrap_i64 (by omega)];omega
  have w7:i64.wrap ((j:Int)-1)=(j:Int)-1:=wrap_i64 (by omega);have hlU:((U.drop j).take (v.length+1)).length=v.length+1:=by simp; omega
  have SD:((U.take j).map ag).length=j:=by simp; omega
  have hjC:((j+v.length+1:Nat):Int)<=(C:Int):=by omega
  have hj0:(0:Int)<=(j:Int):=by omega
  have hjw:(j:Int)<=((j+v.length+1:Nat):Int):=by omega
  have t1:((j+v.length+1:Nat):Int).toNat-Int.toNat (j:Int)=v.length+1:=by omega
  have t2:((C:Nat):Int).toNat-Int.toNat (j:Int)=C-j:=by omega
  have t3:(if ((C:Nat):Int).toNat=Int.toNat (j:Int) then some (⟨bu,0,none⟩:Addr) else Option.map (fun x=>x.add (Int.toNat (j:Int)*prog.types[(3:Nat)].size)) (some (⟨bu,0,none⟩:Addr)))=some ⟨bu,j,none⟩:=by
   rw [if_neg (by omega),YX];show some ((⟨bu,0,none⟩:Addr).add ((j:Int).toNat*1))=_
   rw [ah,e0];simp
  dsimp only;rw [w6,t1,t2,t3,w7];refine⟨⟨hj0,hjw,hjC,Int.le_refl _⟩,?_⟩
  have hsl:Value.slice (some ⟨bu,j,none⟩) (v.length+1) (C-j)=qL ⟨some ⟨bu,((U.take j).map ag).length,none⟩,((U.drop j).take (v.length+1)).length,C-j⟩:=by rw [hlU,SD]; rfl
  rw [hsl,UO (j:=j) (n:=v.length+1) (U:=U)]
  -- the window holds all that is left of the dividend
  have hdj:af (U.drop j)=ab U j+1000000000*af (U.drop (j+1)):=by
   have h1:=ou (U.drop j) 1 (U.drop (j+1)).length;rw [List.drop_drop] at h1;have h2:ak (U.drop j) (1+(U.drop (j+1)).length)=af (U.drop j):=by
    rw [af]
    congr 1
    simp;omega
   rw [h2] at h1;rw [h1];have h3:ak (U.drop j) 1=ab U j:=by simp [ak,nA]
   rw [h3];show _+ak _ _*1000000000 ^ 1=_+_*ak _ _
   rw [Int.pow_succ,Int.pow_zero];omega
  have EZ:af ((U.drop j).take (v.length+1))=af (U.drop j):=by
   have aN:af (U.drop j)<1000000000 ^ (v.length+1):=by
    rw [dp,hdj];have:=lU j;rw [lv] at *;omega
   rw [af,hlU,rP (Nat.le_refl _)];have hz:=fun i (hi:v.length+1<=i)=>AR (qs lU j) aN hi
   have:∀ n,ak (U.drop j) (v.length+1+n)=ak (U.drop j) (v.length+1):=by
    intro n
    induction n with
    | zero=>rfl
    | succ n ih=>rw [<- Nat.add_assoc,ak,ih,hz _ (by omega)]; simp
   have h2:=this ((U.drop j).length-(v.length+1));rw [show v.length+1+((U.drop j).length-(v.length+1))=(U.drop j).length by simp; omega] at h2
   exact h2.symm
  have hUj:=lU j;refine(Ps (V:=V7) (b:=bu) (cap:=C-j) (pre:=(U.take j).map ag) (post:=(U.drop (j+(v.length+1))).map ag++sp) (w:=(U.drop j).take (v.length+1)) (v:=v) (s:=s7) (f:=[bv])
   (vN (qs lU j) _) hlU hvL (by simpa using hbne) canv.1 (by omega) (by omega) vtop (by rw [EZ,hdj]; omega)).mono ?_
  rintro Ma r ⟨w',x,rfl,hw'l,lw',vw',w0,w1',x0,x1,rfl⟩;have hjQ:j<Q.length:=by omega
  have hlen':w'.length=v.length+1:=by rw [hw'l,hlU]
  have hUsplit:U=U.take j++((U.drop j).take (v.length+1)++U.drop (j+(v.length+1))):=by
   rw [<- List.drop_drop,List.take_append_drop,List.take_append_drop]
  refine⟨nofun,x,rfl,⟨by omega,(by omega:(j:Int)<((n9:Nat):Int))⟩,?_,_,rfl,((n9,(Q.set j (x,())).map ag),(j:Int)-1,()),?_,⟨j,_,_,YY,rfl,by omega,rfl,rfl,by rw [List.length_set]; exact hQ,iU lQ hjQ ⟨x0,x1⟩,fun i hi=>?_,?_,?_,?_,?_⟩,?_⟩
  ·show(j:Int).toNat*1+1<=(Q.map ag).length
   rw [List.length_map]; omega
  ·show [LV.a 3 n9 (aX (Q.map ag) ((j:Int).toNat*1) [Value.int .i64 x]),_]=_
   rw [show(j:Int).toNat*1=j by omega,il hjQ]
   rfl
  ·rw [eZ hjQ,if_neg (by omega)]; exact zQ i (by omega)
  ·simp only [List.length_append,List.length_take,List.length_drop]
   omega
  ·exact AS (vN lU j) (AS lw' (qs lU _))
  ·refine Pg (u:=af U) (w:=af ((U.drop j).take (v.length+1))) (w':=af w') hjQ (zQ j (by omega)) kI ?_ vw'
   have:=YK (p:=U.take j) (w:=(U.drop j).take (v.length+1)) (w':=w') (r:=U.drop (j+(v.length+1))) (by omega);rw [this,<- hUsplit];rw [show(U.take j).length=j by simp; omega]
  ·have e1:(U.take j++(w'++U.drop (j+(v.length+1)))).drop j=w'++U.drop (j+(v.length+1)):=by
    have:=List.drop_left (l₁:=U.take j) (l₂:=w'++U.drop (j+(v.length+1)))
    rwa [show(U.take j).length=j by simp; omega] at this
   rw [e1,iV];have e2:af (U.drop (j+(v.length+1)))=0:=by
    have hz:=fun i (hi:v.length+1<=i)=>AR (l:=U.drop j) (k:=v.length+1) (qs lU j) (by
     rw [dp,hdj];have:=lU j;rw [lv] at *;omega) hi
    have:∀ n,ak (U.drop (j+(v.length+1))) n=0:=by
     intro n
     induction n with
     | zero=>rfl
     | succ n ih =>
      have h1:=hz (v.length+1+n) (by omega);rw [nA] at h1;rw [ak,ih,nA,show j+(v.length+1)+n=j+(v.length+1+n) by omega,h1]; simp
    exact this _
   rw [e2];simp;exact w1'
  show((j:Int)-1+1).toNat<((j:Int)+1).toNat
  omega
 have hlt2':¬ i>=0:=bU MH;have ix:k=0:=by omega
 subst ix;rw [List.drop_zero] at hdr;have nwU:Nw (gn V7 bu [] U sp) ⟨some ⟨bu,0,none⟩,o.length,C⟩ U bu:=Nw.seg (by rw [hU,hosp]) (by omega);have hleU:V0.le (gn V7 bu [] U sp):=seg_le hle07 hbu0;have hnU:=aO lU;refine(uw _ _ _ _ nwU.lr).mono ?_
 rintro V8 r8 ⟨rfl,s8,rfl,-,hL8⟩;obtain⟨tcan,tval⟩:=dS lU;have ltl:(db U).length<=U.length:=by simp [db]; omega
 refine⟨nofun,s8,rfl,(xU _ s8 (db U) _ c hL8 tcan.1 (by omega) ⟨by omega,by omega⟩).mono ?_⟩
 rintro V9 r9 ⟨Y1,s9,rr,r0,f9,rfl,hL9,hO9,hc9,hv9,h90,h91,_⟩;refine⟨nofun,(s9,r0,()),rfl,?_⟩
 intro b12 c12 RC hb12 hc12 _;have hc12':n9<=c12:=hc12;have k12:=ju (V:=V9) (b:=b12) (cap:=c12) (o:=Q) (spare:=RC) (t:=3) hb12 (by omega) (by omega);have J0:=aG (x:=(Q.map ag++RC,((3:TypeId),((0,0):Nat × Nat)))) hb12;obtain⟨qcan,qval⟩:=dS lQ;have key:=uw _ _ _ _ k12.1;rw [hQ] at key;refine key.mono ?_
 rintro V10 r10 ⟨rfl,s10,rfl,-,hL10⟩;rw [tval] at hv9;rw [valv] at kI hdr;obtain⟨z1,z2⟩:=unscale (by omega) kI hdr hv9 h90 h91;exact⟨nofun,s10,rfl,(hleU.trans Y1).trans J0,s10,s9,_,rr,_,f9,rfl,hL10,hL9.le J0,k12.2.pre (hleU.trans Y1),(hO9.pre hleU).post J0,qcan,hc9,by rw [qval]; exact z1,z2⟩
theorem cmp_le {a b:List aI} (ha:Can a) (hb:Can b):cmpL a b<=0↔af a<=af b:=by
 rcases iP ha hb with ⟨c,k⟩ | ⟨c,k⟩ | ⟨c,k⟩ <;> omega
theorem cmp_lt {a b:List aI} (ha:Can a) (hb:Can b):cmpL a b<0↔af a<af b:=by
 rcases iP ha hb with ⟨c,k⟩ | ⟨c,k⟩ | ⟨c,k⟩ <;> omega
theorem cmp_eq {a b:List aI} (ha:Can a) (hb:Can b):cmpL a b=0↔af a=af b:=by
 rcases iP ha hb with ⟨c,k⟩ | ⟨c,k⟩ | ⟨c,k⟩ <;> omega
theorem J1 (V:aa) (s s':ar) (r b:List aI) (f f':List Nat) (h:LR rI V s r f) (h':LR rI V s' b f') (hr:Can r) (hb:Can b) (lb:b.length<=900000) (_:0<af b) (aN:af r<1000000000*af b) :
  ae prog V 246 [qL s,qL s'] (fun V' ret=>V.le V'/\∃ x,ret=.int .i64 x/\0<=x/\x<1000000000/\x*af b<=af r/\af r<(x+1)*af b):=by
 refine aM (Jk _ _) fun _=>?_
 have h0:=aO hr.1;simp only [xF,T.wp];refine⟨fun y V'=>V.le V'/\0<=(y.1:Int)/\(y.1:Int)<=(y.2.1:Int)/\(y.2.1:Int)<1000000000/\(y.1:Int)*af b<=af r/\af r<((y.2.1:Int)+1)*af b,fun y=>((y.2.1:Int)-(y.1:Int)).toNat,
  ⟨((0:Int),(999999999:Int),()),rfl,aa.le.refl _,(by omega:(0:Int)<=0),(by omega:(0:Int)<=999999999),(by omega:(999999999:Int)<1000000000),?_,aN⟩,?_⟩
 ·show(0:Int)*af b<=af r
  rw [Int.zero_mul]; exact h0
 rintro⟨(lo:Int),(hi:Int),u⟩ V' ⟨hle,l0,lh,h1,hl,hu⟩;replace l0:0<=lo:=l0;replace lh:lo<=hi:=lh;replace h1:hi<1000000000:=h1;replace hl:lo*af b<=af r:=hl;replace hu:af r<(hi+1)*af b:=hu;refine⟨fun hc=>?_,fun hc=>?_⟩
 ·have MH:lo<hi:=bq hc
  have e1:i64.wrap (lo+hi)=lo+hi:=wrap_i64 (by omega);have e2:i64.wrap (lo+hi+1)=lo+hi+1:=wrap_i64 (by omega);have e3:i64.wrap ((lo+hi+1).tdiv 2)=(lo+hi+1) / 2:=by rw [Int.tdiv_eq_ediv_of_nonneg (by omega)]; exact wrap_i64 (by omega)
  dsimp only;rw [e1,e2,e3];obtain⟨q,hq⟩:∃ q,q=(lo+hi+1) / 2:=⟨_,rfl⟩;rw [<- hq];have q0:lo<q:=by omega
  have q1:q<=hi:=by omega
  refine⟨by decide,(AU V' q (by omega)).mono ?_⟩
  rintro V1 _ ⟨eC,s1,o1,f1,rfl,RD,hO1,nT,hv1,ln1⟩;refine⟨nofun,s1,rfl,(qt V1 s' s1 b o1 f' f1 (h'.le (hle.trans eC)) RD hb.1 nT.1 (by omega) (by omega)).mono ?_⟩
  rintro V2 _ ⟨bG,s2,o2,f2,rfl,yw,JZ,wZ,yl⟩;refine⟨nofun,s2,rfl,(kT V2 s2 s o2 r f2 f yw (h.le ((hle.trans eC).trans bG))).mono ?_⟩
  rintro V3 _ ⟨rfl,rfl⟩;have eG:=cmp_le wZ hr;rw [yl,hv1] at eG;have UQ:=(hle.trans eC).trans bG;refine⟨nofun,_,rfl,fun hy=>?_,fun hy=>?_⟩
  ·have Mc:cmpL o2 r<=0:=bq hy
   refine⟨_,rfl,(q,hi,()),rfl,⟨UQ,(by omega:(0:Int)<=q),q1,h1,?_,hu⟩,?_⟩
   ·show q*af b<=af r
    rw [Int.mul_comm]; exact eG.1 Mc
   show(hi-q).toNat<(hi-lo).toNat
   omega
  have Mc:¬ cmpL o2 r<=0:=bU hy;have e4:i64.wrap (q-1)=q-1:=wrap_i64 (by omega);refine⟨_,rfl,(lo,q-1,()),by rw [e4]; rfl,⟨UQ,l0,(by omega:lo<=q-1),(by omega:q-1<1000000000),hl,?_⟩,?_⟩
  ·show af r<(q-1+1)*af b
   rw [show q-1+1=q by omega,Int.mul_comm];have:¬ af b*q<=af r:=fun k=>Mc (eG.2 k)
   omega
  show(q-1-lo).toNat<(hi-lo).toNat
  omega
 have cg:¬ lo<hi:=bU hc;have:lo=hi:=by omega
 subst this;exact⟨hle,lo,rfl,l0,h1,hl,hu⟩
theorem UR (V:aa) (s s':ar) (a b:List aI) (f f':List Nat) (h:LR rI V s a f) (h':LR rI V s' b f') (ha:Can a) (hb:Can b) (la:a.length<=900000) (lb:0<b.length) (lb2:b.length<=900000) :
  ae prog V 193 [qL s,qL s'] (RB V a b):=by
 refine aM (T6 _ _) fun _=>?_
 have hn:=h.1;have H9:=h'.1;have hbp:=(gX hb).1 lb;simp only [Ds,T.wp];refine⟨fun vC=>?_,fun RA=>?_⟩
 ·have fW:b.length=1:=by
   have:(s'.n:Int)=1:=by simpa using vC
   omega
  obtain⟨b1,o1,a1,l1⟩:=h'.int lb;rw [<- aV lb] at l1;have YW:af b=ab b 0:=by rw [af,fW]; simp [ak]
  have lx:=hb.1 0;refine⟨_,a1,Int.le_refl _,(by omega:(0:Int)<(s'.n:Int)),ab b 0,l1,?_⟩
  refine(JO V s a f (ab b 0) h ha.1 (by omega) (by omega)).mono ?_
  rintro V1 r ⟨hle,s1,q,r1,f1,rfl,hL,hO,hc,hv,h0,h1,_⟩;refine⟨nofun,(s1,r1,()),rfl,(AU V1 r1 (by omega)).mono ?_⟩
  rintro V2 r ⟨bG,s2,o,f2,rfl,yw,JZ,wZ,yl,_⟩;exact⟨nofun,s2,rfl,hle.trans bG,s1,s2,q,o,f1,f2,rfl,hL.le bG,yw,hO.post bG,JZ.pre hle,hc,wZ,by rw [YW,yl]; exact hv,by rw [YW,yl]; exact h1⟩
 have w1:i64.wrap ((s.n:Int)-1)=(a.length:Int)-1:=by rw [wrap_i64 (by omega)]; omega
 rw [w1];refine⟨⟨by omega,by omega,by omega,by omega⟩,?_⟩
 intro b1 c1 spare1 fW nT _;have eC:=aG (x:=(([]:List Value)++spare1,((3:TypeId),((0,0):Nat × Nat)))) fW;refine⟨fun y V'=>V.le V'/\∃ (k:Nat) (O R:List aI) (fR:List Nat),LR rI V' y.2.1 R fR/\cQ V V' fR/\Can R/\af R<af b/\y.2.2.1=(k:Int)-1/\k<=a.length/\y.1.1=a.length/\y.1.2=O.map ag/\O.length=a.length/\bK O/\(∀ j,j<k->ab O j=0)/\af O*af b+af R*1000000000 ^ k+ak a k=af a,
  fun y=>((y.2.2.1:Int)+1).toNat,⟨(((s.n:Int).toNat,(madeCells ⟨[.int .i64 (0:Int)]⟩ ((s.n:Int).toNat*1)).toList),(⟨some ⟨b1,0,none⟩,0,c1⟩:ar),(a.length:Int)-1,()),rfl,eC,a.length,Rs a.length,[],[],
   ⟨rfl,Nat.zero_le _,Nat.zero_le _,.inl ⟨rfl,(fun h=>by cases h),rfl⟩⟩,cQ.nil,⟨eU,.inl rfl⟩,hbp,rfl,Nat.le_refl _,(by omega:(s.n:Int).toNat=a.length),by rw [show(s.n:Int).toNat*1=a.length by omega]; exact nB _,ot _,nz _,fun j _=>nu _ j,?_⟩,?_⟩
 ·rw [nv,jX]
  show 0*af b+(0:Int)*1000000000 ^ a.length+af a=af a
  simp
 rintro⟨⟨n1,ys⟩,sR,(i:Int),u⟩ V' ⟨hle,k,O,R,fR,hR,hRO,hRc,hRb,hi,hk,gm,dZ,hOl,hOL,hz,hv⟩;replace hR:LR rI V' sR R fR:=hR;replace hi:i=(k:Int)-1:=hi;replace gm:n1=a.length:=gm;replace dZ:ys=O.map ag:=dZ;subst gm dZ;have hR0:=aO hRc.1;have lR:=gW hb hRc (by omega);have hnR:=hR.1;refine⟨fun cg=>?_,fun aN=>?_⟩
 ·have rU:i>=0:=bq cg
  obtain⟨m,rfl⟩:∃ m,k=m+1:=⟨k-1,by omega⟩;have hi:i=(m:Int):=by omega
  subst hi;have hm:m<a.length:=by omega
  obtain⟨b2,o2,a2,l2⟩:=(h.le hle).int hm;rw [<- aV hm] at l2;have lax:=ha.1 m;obtain⟨r1,r2⟩:=hR.rdI;have e5:i64.wrap ((m:Int)-1)=(m:Int)-1:=wrap_i64 (by omega);have hlen:(((ab a m,()):aI) :: R).length=1+sR.n:=by simp; omega
  refine⟨_,a2,(by omega:(0:Int)<=(m:Int)),(by omega:(m:Int)<(s.n:Int)),ab a m,l2,R.map ag,r1,r2,⟨r2,(by omega:(1+sR.n)*8<=140737488355328),(by omega:1+sR.n<=9223372036854775807)⟩,?_⟩
  intro b6 c6 v8 hb6 hc6 _;have hc6':1+sR.n<=c6:=hc6;have k6:=ju (V:=V') (b:=b6) (cap:=c6) (o:=(ab a m,()) :: R) (spare:=v8) (t:=3) hb6 (by omega) (by omega);have FW:=aG (x:=(((ab a m,()) :: R).map ag++v8,((3:TypeId),((0,0):Nat × Nat)))) hb6;have l6:bK ((ab a m,()) :: R):=AS (x:=[(ab a m,())]) (ur lax) hRc.1;have v6:af ((ab a m,()) :: R)=ab a m+af R*1000000000:=by
   have:=iV [(ab a m,())] R;rw [iW] at this;simpa using this
  obtain⟨tcan,tval⟩:=dS l6;rw [v6] at tval;have key:=hY _ _ _ _ k6.1;rw [hlen] at key;refine key.mono ?_
  rintro V7 _ ⟨rfl,s7,rfl,-,hL7⟩;obtain⟨R1,hR1⟩:∃ R1,R1=db ((ab a m,()) :: R):=⟨_,rfl⟩;rw [<- hR1] at hL7 tcan tval;have hO7:cQ V (aB V' b6 (((ab a m,()) :: R).map ag++v8,(3,(0,0)))) [b6]:=k6.2.pre hle;have Pt:=hle.trans FW;refine⟨nofun,s7,rfl,(kT _ s7 s' R1 b _ f' hL7 (h'.le Pt)).mono ?_⟩
  rintro V8 _ ⟨rfl,rfl⟩;have eG:=cmp_lt tcan hb;rw [tval] at eG;refine⟨nofun,_,rfl,fun hy=>?_,fun hy=>?_⟩
  ·have Mc:cmpL R1 b<0:=bq hy
   refine⟨_,rfl,((a.length,O.map ag),s7,(m:Int)-1,()),by rw [e5]; rfl,⟨Pt,m,O,R1,[b6],hL7,hO7,tcan,by rw [tval]; exact eG.1 Mc,rfl,by omega,rfl,rfl,hOl,hOL,fun j hj=>hz j (by omega),?_⟩,?_⟩
   ·rw [tval,<- hv,ak,dp]
    grind
   show((m:Int)-1+1).toNat<((m:Int)+1).toNat
   omega
  have Mc:¬ cmpL R1 b<0:=bU hy;have UG:af b<=ab a m+af R*1000000000:=by
   by_cases e:af b<=ab a m+af R*1000000000
   ·exact e
   exact absurd (eG.2 (by omega)) Mc
  refine(J1 _ s7 s' R1 b _ f' hL7 (h'.le Pt) tcan hb lb2 hbp (by rw [tval]; omega)).mono ?_
  rintro V9 _ ⟨Y1,x,rfl,x0,x1,xl,xu⟩;have hmO:m<O.length:=by omega
  refine⟨nofun,x,rfl,⟨(by omega:(0:Int)<=(m:Int)),(by omega:(m:Int)<((a.length:Nat):Int))⟩,?_,?_⟩
  ·show(m:Int).toNat*1+1<=(O.map ag).length
   rw [List.length_map]; omega
  refine(AU V9 x (by omega)).mono ?_
  rintro V10 _ ⟨hle10,s10,o10,f10,rfl,hL10,hO10,hc10,hv10,ln10⟩;have Y2:=(Pt.trans Y1).trans hle10;refine⟨nofun,s10,rfl,(qt V10 s' s10 b o10 f' f10 (h'.le Y2) hL10 hb.1 hc10.1 (by omega) (by omega)).mono ?_⟩
  rintro V11 _ ⟨hle11,s11,o11,f11,rfl,hL11,hO11,hc11,hv11⟩;rw [hv10] at hv11;have Y3:=Y2.trans hle11;have hR11:=((hL7.le Y1).le hle10).le hle11;have hmul:af o11<=af R1:=by rw [hv11,Int.mul_comm]; exact xl
  have lR1:R1.length<=900001:=by
   rw [hR1];unfold db;rw [List.length_take];omega
  refine⟨nofun,s11,rfl,(vY V11 s7 s11 R1 o11 _ f11 hR11 hL11 tcan.1 hc11.1 (by omega) (gW tcan hc11 hmul) hmul).mono ?_⟩
  rintro V12 _ ⟨J0,s12,R2,f12,rfl,hL12,hO12,hc12,hv12⟩;rw [hv11] at hv12;rw [Int.add_mul,Int.one_mul] at xu;refine⟨nofun,s12,rfl,_,rfl,((a.length,(O.set m (x,())).map ag),s12,(m:Int)-1,()),?_,⟨Y3.trans J0,m,O.set m (x,()),R2,f12,hL12,hO12.pre Y3,hc12,?_,rfl,by omega,rfl,rfl,by rw [List.length_set]; exact hOl,iU hOL hmO ⟨x0,x1⟩,fun j hj=>?_,?_⟩,?_⟩
  ·show [LV.a 3 a.length (aX (O.map ag) ((m:Int).toNat*1) [Value.int .i64 x]),_,.v (.int .i64 (i64.wrap ((m:Int)-1)))]=_
   rw [show(m:Int).toNat*1=m by omega,il hmO,e5]
   rfl
  ·rw [hv12,Int.mul_comm]; omega
  ·rw [eZ hmO,if_neg (by omega)]; exact hz j (by omega)
  ·refine vV (r:=af R) (r':=af R2) hmO (hz m (by omega)) hv ?_
   rw [hv12,tval]
   grind
  show((m:Int)-1+1).toNat<((m:Int)+1).toNat
  omega
 have vW:¬ i>=0:=bU aN;have ix:k=0:=by omega
 subst ix;intro b3 c3 Y4 im yi _;have hc3':a.length<=c3:=yi;have k3:=ju (V:=V') (b:=b3) (cap:=c3) (o:=O) (spare:=Y4) (t:=3) im (by omega) (by omega);have UQ:=aG (x:=(O.map ag++Y4,((3:TypeId),((0,0):Nat × Nat)))) im;obtain⟨qcan,qval⟩:=dS hOL;have key:=hY _ _ _ _ k3.1;rw [hOl] at key;refine key.mono ?_
 rintro V4 _ ⟨rfl,s4,rfl,-,hL4⟩;refine⟨nofun,s4,rfl,hle.trans UQ,s4,sR,_,R,_,fR,rfl,hL4,hR.le UQ,k3.2.pre hle,hRO.post UQ,qcan,hRc,?_,hRb⟩
 rw [qval];simp [ak] at hv;omega
def limOf:Value->aI
 | .int _ x=>(x,())
 | _=>(0,())
def J2 (V:aa) (s:ar):Nat:=if s.n=0 then 0 else match s.a with
 | some ad=>(match aQ V ad (s.n*1) with | some cs=>(af (cs.map limOf)).toNat | none=>0)
 | none=>0
theorem yy {V:aa} {s:ar} {l:List aI} {f:List Nat} (h:LR rI V s l f):J2 V s=(af l).toNat:=by
 unfold J2;rcases h.rdI.1 with ⟨h0,_,h1⟩ | ⟨ad,h1,h2⟩
 ·rw [if_pos h0]
  have:l=[]:=List.eq_nil_of_length_eq_zero (by have:=h.1; omega)
  rw [this]; rfl
 by_cases h0:s.n=0
 ·rw [if_pos h0]
  have:l=[]:=List.eq_nil_of_length_eq_zero (by have:=h.1; omega)
  rw [this]; rfl
 rw [if_neg h0,h1];simp only [h2]
 congr 2
 rw [List.map_map];have:limOf ∘ ag=id:=by funext x; rfl
 rw [this,List.map_id]
abbrev RE (V:aa) (a b:List aI):aa->Value->Prop:=fun V' ret=>V.le V'/\∃ s g f,ret=qL s/\LR rI V' s g f/\cQ V V' f/\Can g/\af g=(Int.gcd (af a) (af b):Int)
theorem J3 {x y q r:Int} (h:x=q*y+r):Int.gcd y r=Int.gcd x y:=by
 rw [h,Int.add_comm,Int.gcd_add_mul_right_left,Int.gcd_comm]
theorem US (V:aa) (s s':ar) (a b:List aI) (f f':List Nat) (h:LR rI V s a f) (h':LR rI V s' b f') (ha:Can a) (hb:Can b) (la:a.length<=900000) (lb:b.length<=900000) :
  ae prog V 167 [qL s,qL s'] (RE V a b):=by
 refine aM (TX _ _) fun _=>?_
 simp only [Dn,T.wp];refine⟨fun y V'=>V.le V'/\∃ (x z:List aI) (fx fz:List Nat),LR rI V' y.1 x fx/\LR rI V' y.2.1 z fz/\Can x/\Can z/\x.length<=900000/\z.length<=900000/\Int.gcd (af x) (af z)=Int.gcd (af a) (af b),
  fun y V'=>J2 V' y.2.1,⟨(s,s',()),rfl,aa.le.refl _,a,b,f,f',h,h',ha,hb,la,lb,rfl⟩,?_⟩
 rintro⟨s1,s2,u⟩ V' ⟨hle,x,z,fx,fz,hx,hz,cx,cz,lx,lz,hg⟩;replace hx:LR rI V' s1 x fx:=hx;replace hz:LR rI V' s2 z fz:=hz;have hnz:=hz.1;refine⟨fun df=>?_,fun Cs=>?_⟩
 ·have hp:0<z.length:=by
   have:(s2.n:Int) > 0:=bq df;omega
  refine(UP V' s1 s2 x z fx fz hx hz cx cz lx hp).mono ?_
  rintro V1 _ ⟨eC,t1,t2,q,r,f1,f2,rfl,RD,yw,hO1,JZ,hcq,hcr,hv,hr⟩;have h0:=aO hcr.1;refine⟨nofun,(t1,t2,()),rfl,_,rfl,(s2,t2,()),rfl,⟨hle.trans eC,z,r,fz,f2,hz.le eC,yw,cz,hcr,lz,?_,?_⟩,?_⟩
  ·have:=gW cz hcr (by omega)
   omega
  ·rw [J3 hv]; exact hg
  show J2 V1 t2<J2 V' s2
  rw [yy yw,yy hz];omega
 have Mg:z=[]:=List.eq_nil_of_length_eq_zero (by
  have:¬ (s2.n:Int) > 0:=bU Cs;omega)
 subst Mg;refine(lF V' s1 x fx hx (by omega)).mono ?_
 rintro V1 _ ⟨eC,s3,f3,rfl,hL3,hO3⟩;refine⟨nofun,s3,rfl,hle.trans eC,s3,x,f3,rfl,hL3,hO3.pre hle,cx,?_⟩
 rw [<- hg,jX];have:=aO cx.1;simp;omega
theorem UT (V:aa) (s s':ar) (a b:List aI) (f f':List Nat) (h:LR rI V s a f) (h':LR rI V s' b f') (ha:hZ a) (hb:hZ b) :
  ae prog V 128 [qL s,qL s'] (RE V a b):=by
 refine aM (TM _ _) fun _=>?_
 have hn:=h.1;have H9:=h'.1;have la:=ha.2;have lb:=hb.2;simp only [Dj,T.wp];refine(pK V s a f h).mono ?_
 rintro V0 _ ⟨rfl,e,rfl,he⟩;have gB:=he.2 ha;subst gB;refine⟨nofun,true,rfl,nofun,fun _=>(pK V0 s' b f' h').mono ?_⟩
 rintro V1 _ ⟨rfl,e,rfl,fq⟩;have fq:=fq.2 hb;subst fq;obtain⟨r1,r2⟩:=h.rdI;obtain⟨r3,r4⟩:=h'.rdI;refine⟨nofun,true,rfl,nofun,fun _=>⟨a.map ag,r1,r2,⟨r2,(by omega:(0+s.n)*8<=140737488355328),(by omega:0+s.n<=9223372036854775807)⟩,b.map ag,r3,r4,⟨r4,(by omega:(0+s'.n)*8<=140737488355328),(by omega:0+s'.n<=9223372036854775807)⟩,?_⟩⟩
 intro b5 c5 sp5 hb5 hc5 _;have k5:=ju (V:=V1) (b:=b5) (cap:=c5) (o:=a) (spare:=sp5) (t:=3) hb5 (by omega) (by omega);have hle5:=aG (x:=(a.map ag++sp5,((3:TypeId),((0,0):Nat × Nat)))) hb5;intro b6 c6 sp6 hb6 hc6 _;have k6:=ju (V:=aB V1 b5 (a.map ag++sp5,(3,(0,0)))) (b:=b6) (cap:=c6) (o:=b) (spare:=sp6) (t:=3) hb6 (by omega) (by omega);have FW:=aG (x:=(b.map ag++sp6,((3:TypeId),((0,0):Nat × Nat)))) hb6;refine⟨fun y V'=>V1.le V'/\∃ (x z:List aI) (fx fz:List Nat),LR rI V' y.1 x fx/\LR rI V' y.2.1 z fz/\cQ V1 V' fx/\cQ V1 V' fz/\Can x/\Can z/\x.length<=900000/\z.length<=900000/\Int.gcd (af x) (af z)=Int.gcd (af a) (af b),
  fun y V'=>J2 V' y.2.1,⟨((⟨some ⟨b5,0,none⟩,0+s.n,c5⟩:ar),(⟨some ⟨b6,0,none⟩,0+s'.n,c6⟩:ar),()),rfl,hle5.trans FW,a,b,[b5],[b6],?_,?_,k5.2.post FW,k6.2.pre hle5,ha.1,hb.1,by omega,by omega,rfl⟩,?_⟩
 ·show LR rI _ ⟨some ⟨b5,0,none⟩,0+s.n,c5⟩ _ _
  rw [Nat.zero_add,hn];exact k5.1.le FW
 ·show LR rI _ ⟨some ⟨b6,0,none⟩,0+s'.n,c6⟩ _ _
  rw [Nat.zero_add,H9];exact k6.1
 rintro⟨s1,s2,u⟩ V' ⟨hle,x,z,fx,fz,hx,hz,ox,oz,cx,cz,lx,lz,hg⟩;replace hx:LR rI V' s1 x fx:=hx;replace hz:LR rI V' s2 z fz:=hz;have hnz:=hz.1;refine⟨fun df=>?_,fun Cs=>?_⟩
 ·have hp:0<z.length:=by
   have:(s2.n:Int) > 0:=bq df;omega
  refine(UR V' s1 s2 x z fx fz hx hz cx cz lx hp lz).mono ?_
  rintro V2 _ ⟨eC,t1,t2,q,r,f1,f2,rfl,RD,yw,hO1,JZ,hcq,hcr,hv,hr⟩;have h0:=aO hcr.1;refine⟨nofun,(t1,t2,()),rfl,_,rfl,(s2,t2,()),rfl,⟨hle.trans eC,z,r,fz,f2,hz.le eC,yw,oz.post eC,JZ.pre hle,cz,hcr,lz,?_,?_⟩,?_⟩
  ·have:=gW cz hcr (by omega)
   omega
  ·rw [J3 hv]; exact hg
  show J2 V2 t2<J2 V' s2
  rw [yy yw,yy hz];omega
 have Mg:z=[]:=List.eq_nil_of_length_eq_zero (by
  have:¬ (s2.n:Int) > 0:=bU Cs;omega)
 subst Mg;refine⟨hle,s1,x,fx,rfl,hx,ox,cx,?_⟩
 rw [<- hg,jX];have:=aO cx.1;simp;omega
abbrev bE:Rp [.s] (ByteArray × Unit):=cr a8
theorem LR.txt {V:aa} {s:ar} {l:List (ByteArray × Unit)} {f:List Nat} (h:LR bE V s l f) {i:Nat} (hi:i<l.length) :
  (∃ b o,s.a=some ⟨b,o,none⟩/\aQ V ((⟨b,o,none⟩:Addr).add (i*1)) 1=some [.string l[i].1])/\l[i].1.size<=9223372036854775807:=by
 obtain⟨b1,o1,c1,f1,a1,l1,r1,_⟩:=h.at hi;have e:c1.1=l[i].1:=r1.1.1;refine⟨?_,r1.1.2⟩
 rw [<- e];exact⟨b1,o1,a1,l1⟩
end Go.Proofs.YtahmmgiiojjhgaaGreatDoor
