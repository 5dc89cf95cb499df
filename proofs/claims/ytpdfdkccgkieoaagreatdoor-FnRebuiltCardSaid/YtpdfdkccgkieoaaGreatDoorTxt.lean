/-
  Texts of numbers: digits, noughts ahead, the point; how long they are. No program in sight.
-/
import Derived.Test.YtpdfdkccgkieoaaGreatDoorTotB
import Derived.Test.YtpdfdkccgkieoaaGreatDoorLit
import Derived.Test.YtpdfdkccgkieoaaGreatDoorNumB
import Derived.Lib.ItoaNum
import Derived.Lib.ItoaLen
import Derived.Lib.Repeat
namespace Go.Proofs.YtpdfdkccgkieoaaGreatDoor
open Sx
set_option maxRecDepth 100000
def restOf:List DRest→ByteArray→DRat
 | [],_=>(false,[],[(1,())],())
 | r :: l,cur=>if r.1=cur then (r.2.1,r.2.2.1,r.2.2.2.1,()) else restOf l cur
theorem zero_ok:RatOkP false [] [((1:Int),())]:=⟨⟨⟨⟨lims_nil,.inl rfl⟩,by simp⟩,fun h=>by cases h⟩,⟨⟨lims_one (by decide),.inr (by decide)⟩,by simp⟩,by simp,by simp,by simp,by rw [valN_one]; rfl⟩
theorem zeroS (V:Know):CallX Tryz.prog V 72 [] (fun V' r=>V.le V'∧∃ c f,r=qv5 c∧rRat.R V' c (false,[],[(1,())],()) f):=by
 refine CallX.of_fits Tryz.mix fS_RatZero fun _=>?_
 simp only [tS_RatZero,T.wp]
 intro b cap spare hb hcap _
 have k:=newI (V:=V) (b:=b) (cap:=cap) (o:=[(1,())]) (spare:=spare) (t:=3) hb hcap (by simp)
 exact⟨kset_le hb,_,_,rfl,rat_mk lr_nil k.1⟩
theorem LR.rdA {V:Know} {s:SlV} {l:List Lim} {f:List Nat} (h:LR rI V s l f):(s.n=0∧l.map cellI=[])∨∃ ad,s.a=some ad∧loadV V ad (s.n*1)=some (l.map cellI):=by
 rcases h.rdI.1 with ⟨h0,_,h1⟩ | h1
 ·exact .inl ⟨h0,h1⟩
 ·exact .inr h1
theorem lr_es {V:Know} {b c:Nat} {l:List Lim} (h:l.length=0):LR rI V ⟨some ⟨b,0,none⟩,0,c⟩ l []:=⟨h.symm,Nat.zero_le _,Nat.zero_le _,.inl ⟨rfl,(fun h=>by cases h),rfl⟩⟩
theorem copyS (V:Know) (b:Bool) (s s':SlV) (n d:List Lim) (f g:List Nat) (h:LR rI V s n f) (h':LR rI V s' d g) (ln:n.length≤1048576) (ld:d.length≤1048576) :
  CallX Tryz.prog V 111 [qv5 (b,s,s',())] (fun V' r=>V.le V'∧∃ c f,r=qv5 c∧rRat.R V' c (b,n,d,()) f):=by
 refine CallX.of_fits Tryz.mix (fS_l19Rat _) fun _=>?_
 simp only [tS_l19Rat,T.wp]
 have hn:=h.1
 have hd:=h'.1
 intro b1 hb1
 have le1:=kset_le (x:=(([]:List Value),((3:TypeId),((0,0):Nat × Nat)))) hb1
 refine⟨n.map cellI,h.rdA,⟨one_int n,(by omega:s.n*8≤140737488355328),(by omega:s.n≤9223372036854775807)⟩,fun hz=>?_,fun hz=>?_⟩
 ·have hz':s.n=0:=of_decide_eq_true hz
  intro b3 hb3
  have le3:=kset_le (x:=(([]:List Value),((3:TypeId),((0,0):Nat × Nat)))) hb3
  refine⟨d.map cellI,h'.rdA,⟨one_int d,(by omega:s'.n*8≤140737488355328),(by omega:s'.n≤9223372036854775807)⟩,fun hy=>?_,fun hy=>?_⟩
  ·have hy':s'.n=0:=of_decide_eq_true hy
   exact⟨le1.trans le3,_,_,rfl,rat_mk (lr_es (by omega)) (lr_es (by omega))⟩
  ·intro b5 c5 sp5 hb5 hc5 _
   have hc5':s'.n≤c5:=hc5
   have k:=newI (b:=b5) (cap:=c5) (o:=d) (spare:=sp5) (t:=3) hb5 (by omega) (by omega)
   have k1:=k.1
   rw [← hd] at k1
   exact⟨(le1.trans le3).trans (kset_le hb5),_,_,rfl,rat_mk (lr_es (by omega)) k1⟩
 ·intro b3 c3 sp3 hb3 hc3 _
  have hc3':s.n≤c3:=hc3
  have k:=newI (b:=b3) (cap:=c3) (o:=n) (spare:=sp3) (t:=3) hb3 (by omega) (by omega)
  have k1:=k.1
  rw [← hn] at k1
  have le3:=kset_le (x:=(n.map cellI++sp3,((3:TypeId),((0,0):Nat × Nat)))) hb3
  intro b4 hb4
  have le4:=kset_le (x:=(([]:List Value),((3:TypeId),((0,0):Nat × Nat)))) hb4
  refine⟨d.map cellI,h'.rdA,⟨one_int d,(by omega:s'.n*8≤140737488355328),(by omega:s'.n≤9223372036854775807)⟩,fun hy=>?_,fun hy=>?_⟩
  ·have hy':s'.n=0:=of_decide_eq_true hy
   exact⟨(le1.trans le3).trans le4,_,_,rfl,rat_mk (k1.le le4) (lr_es (by omega))⟩
  ·intro b6 c6 sp6 hb6 hc6 _
   have hc6':s'.n≤c6:=hc6
   have k6:=newI (b:=b6) (cap:=c6) (o:=d) (spare:=sp6) (t:=3) hb6 (by omega) (by omega)
   have k61:=k6.1
   rw [← hd] at k61
   exact⟨((le1.trans le3).trans le4).trans (kset_le hb6),_,_,rfl,rat_mk ((k1.le le4).le (kset_le hb6)) k61⟩
theorem cS_RestOf (V:Know) (s:SlV) (l:List DRest) (f:List Nat) (h:LR rRest V s l f) (hok:∀ i,i<l.length→∃ h:i<l.length,RatOkP l[i].2.1 l[i].2.2.1 l[i].2.2.2.1) (cur:ByteArray) :
  CallX Tryz.prog V 63 [Sc.val .l s,.string cur] (fun V' r=>V.le V'∧∃ c f,r=qv5 c∧rRat.R V' c (restOf l cur) f):=by
 refine CallX.of_fits Tryz.mix (fS_RestOf _ _) fun _=>?_
 simp only [tS_RestOf,T.wp]
 have hn:=h.1
 have h63:=h.2.2.1
 refine⟨fun y V'=>V'=V∧∃ i:Nat,y.1=(i:Int)∧i≤l.length∧restOf (l.drop i) cur=restOf l cur,fun y=>((l.length:Int)-(y.1:Int)).toNat,
  ⟨((0:Int),false,(⟨none,0,0⟩:SlV),(⟨none,0,0⟩:SlV),()),rfl,rfl,0,rfl,by omega,by rw [List.drop_zero]⟩,?_⟩
 rintro⟨(i:Int),q,so,so',u⟩ V' ⟨rfl,k,hi,hk,hr⟩
 replace hi:i=(k:Int):=hi
 subst hi
 refine⟨fun hlt=>?_,fun hge=>?_⟩
 ·have hkl:k<l.length:=by
   have:(k:Int)<(s.n:Int):=of_decide_eq_true hlt
   omega
  obtain⟨b1,o1,c1,fc,a1,l1,hR,_⟩:=h.at hkl
  obtain⟨c2,c3,g,g',rfl,hc2,hc3⟩:=rest_elim hR
  obtain⟨_,ok⟩:=hok k hkl
  have z1:=ok.2.2.2.1
  have z2:=ok.2.2.2.2.1
  have e0:(k:Int).toNat=k:=by omega
  dsimp only
  rw [e0]
  rw [List.drop_eq_getElem_cons hkl,restOf] at hr
  refine⟨_,a1,by omega,by omega,(l[k].1,l[k].2.1,c2,c3,()),l1,fun hc=>?_,fun hc=>?_⟩
  ·rw [if_pos (text_eq.1 hc)] at hr
   refine(copyS V' l[k].2.1 c2 c3 l[k].2.2.1 l[k].2.2.2.1 g g' hc2 hc3 (by omega) (by omega)).mono ?_
   rintro V2 _ ⟨le2,c,fc,rfl,R2⟩
   rw [hr] at R2
   exact⟨nofun,c,rfl,le2,c,fc,rfl,R2⟩
  ·rw [if_neg (fun e=>by rw [text_eq.2 e] at hc; cases hc)] at hr
   refine⟨_,rfl,(((k+1:Nat):Int),q,so,so',()),by rw [nxt hkl (by omega)]; rfl,⟨rfl,k+1,rfl,hkl,hr⟩,?_⟩
   show((l.length:Int)-((k+1:Nat):Int)).toNat<((l.length:Int)-(k:Int)).toNat
   omega
 ·have hkl:k=l.length:=by
   have:¬ (k:Int)<(s.n:Int):=of_decide_eq_false hge
   omega
  subst hkl
  rw [List.drop_length,restOf] at hr
  refine(zeroS V').mono ?_
  rintro V2 _ ⟨le2,c,fc,rfl,R2⟩
  rw [hr] at R2
  exact⟨nofun,c,rfl,le2,c,fc,rfl,R2⟩
theorem rat_elim {V:Know} {c:Scs [.b,.l,.l]} {x:DRat} {f:List Nat} (h:rRat.R V c x f):∃ s s' g g',c=(x.1,s,s',())∧LR rI V s x.2.1 g∧LR rI V s' x.2.2.1 g'∧f=g++(g'++[]):=by
 obtain⟨c0,c1,c2,cu⟩:=c
 obtain⟨x0,x1,x2,xu⟩:=x
 obtain⟨e0,h⟩:=h
 replace e0:c0=x0:=e0
 subst e0
 obtain⟨g,r,rfl,hs,h⟩:=h
 obtain⟨g',r',rfl,hs',h⟩:=h
 replace h:r'=[]:=h
 subst h
 exact⟨c1,c2,g,g',rfl,hs,hs',rfl⟩
theorem rests_rat {l:List DRest} (h:RestsOkP l):∀ i,i<l.length→∃ h:i<l.length,RatOkP l[i].2.1 l[i].2.2.1 l[i].2.2.2.1:=fun i hi=>by
 obtain⟨h1,_,h2,_⟩:=h i hi
 exact⟨h1,h2⟩
end Go.Proofs.YtpdfdkccgkieoaaGreatDoor
namespace Go.Proofs.YtpdfdkccgkieoaaGreatDoor
open Sx
set_option maxRecDepth 100000
abbrev tyC:TypeId:=80
def rIu {sh:List Sc} {α:Type} (r:Rp sh α):Rp (.i .u8 :: sh) (Int × α) where
 R V c x fp:=c.1=x.1∧r.R V c.2 x.2 fp
 tot x:=r.tot x.2
 loc h hb:=⟨h.1,r.loc h.2 hb⟩
 kn h:=r.kn h.2
abbrev rBy:Rp [.i .u8] (Int × Unit):=rIu rNil
abbrev cuCells (s:SlV) (i h:Int):List Value:=[Sc.val .l s,.int .i64 i,.int .i64 h]
def Cx (V0:Know) (b:Nat) (s:SlV) (V:Know):Prop:=V0.le V∧V0 b=none∧(∃ i h:Int,0≤i∧V b=some (cuCells s i h,(tyC,(0,0))))∧∃ l f,LR rBy V0 s l f
def Dx (V0:Know) (b:Nat) (s:SlV) (V V':Know):Prop:=Cx V0 b s V'∧LeBut [b] V V'
theorem Cx.le {V0 V V':Know} {b:Nat} {s:SlV} (h:Cx V0 b s V) (le:V.le V'):Cx V0 b s V':=by
 obtain⟨h1,h2,⟨i,k,hi,hb⟩,h3⟩:=h
 exact⟨h1.trans le,h2,⟨i,k,hi,le _ _ hb⟩,h3⟩
theorem Cx.dx {V0 V V':Know} {b:Nat} {s:SlV} (h:Cx V0 b s V) (le:V.le V'):Dx V0 b s V V':=⟨h.le le,.of_le le⟩
theorem Dx.trans {V0 V V1 V2:Know} {b:Nat} {s:SlV} (h:Dx V0 b s V V1) (k:Dx V0 b s V1 V2):Dx V0 b s V V2:=⟨k.1,h.2.trans k.2⟩
theorem Cx.some {V0 V:Know} {b:Nat} {s:SlV} (h:Cx V0 b s V) {b1:Nat} (k:V b1=none):b1≠b:=by
 rintro rfl
 obtain⟨_,_,⟨i,k',_,hb⟩,_⟩:=h
 rw [hb] at k; cases k
theorem ld_at {V:Know} {b:Nat} {cs:List Value} {t:KTy} (h:V b=some (cs,t)) (k n:Nat):loadV V ((⟨b,0,none⟩:Addr).add k) n=cutv cs k n:=by
 simp only [addr_add_eq,loadV,h,Nat.zero_add]
theorem ldV_le {V V':Know} {a:Addr} {k:Nat} {x:List Value} (h:V.le V') (hl:loadV V a k=some x):loadV V' a k=some x:=by
 unfold loadV at hl ⊢
 split at hl
 ·rename_i cs u h1 h2
  rw [h1,h _ _ h2]
  exact hl
 ·cases hl
theorem kset_but {V:Know} {b:Nat} {x}:LeBut [b] V (kset V b x):=.kset (by simp)
theorem kset_cx {V0 V:Know} {b:Nat} {s:SlV} {i h:Int} (hc:Cx V0 b s V) (hi:0≤i):Dx V0 b s V (kset V b (cuCells s i h,(tyC,(0,0)))):=by
 obtain⟨h1,h2,_,h3⟩:=hc
 exact⟨⟨le_but h1 (fun x hx=>by simp at hx; subst hx; exact h2) kset_but,h2,⟨i,h,hi,kset_same⟩,h3⟩,kset_but⟩
theorem bit_bd (a:BitVec 64):0≤IntKind.i64.wrap (((a &&& BitVec.ofInt 64 255).toNat:Nat):Int)∧IntKind.i64.wrap (((a &&& BitVec.ofInt 64 255).toNat:Nat):Int)≤255:=by
 have h:(a &&& BitVec.ofInt 64 255).toNat≤255:=by
  rw [BitVec.toNat_and]
  exact Nat.and_le_right
 rw [wrap_i64 (by omega)]
 omega
theorem cS_l01Byte {V0 V:Know} {b:Nat} {s:SlV} (hc:Cx V0 b s V):CallX Tryz.prog V 61 [.pointer (some ⟨b,0,none⟩)] (fun V' r=>Dx V0 b s V V'∧∃ x:Int,r=.int .i64 x∧0≤x∧x≤255):=by
 refine CallX.of_fits Tryz.mix (fS_l01Byte _) fun _=>?_
 simp only [tS_l01Byte,T.wp,if_true]
 have hc0:=hc
 obtain⟨le0,hn,⟨i,h,hi,hb⟩,l,f,hl⟩:=hc
 refine⟨h,ld_at hb 2 1,_,_,rfl,hb,Nat.le_refl 3,?_⟩
 generalize hz:IntKind.i64.wrap (IntKind.i64.wrap (h*6364136223846793005)+1442695040888963407)=z
 generalize hV1:kset V ((⟨b,0,none⟩:Addr).add 2).block (setl (cuCells s i h) ((⟨b,0,none⟩:Addr).add 2).off [Value.int IntKind.i64 z],(tyC,((0,0):Nat × Nat)))=V1
 have d1:Dx V0 b s V V1:=hV1 ▸ kset_cx hc0 hi
 have hb1:V1 b=some (cuCells s i z,(tyC,(0,0))):=by rw [← hV1]; exact kset_same
 refine⟨z,ld_at hb1 2 1,z,ld_at hb1 2 1,i,ld_at hb1 1 1,s,ld_at hb1 0 1,fun hlt=>?_,fun _=>⟨d1,_,rfl,bit_bd _⟩⟩
 have hlt':i<(s.n:Int):=of_decide_eq_true hlt
 have hn1:=hl.1
 have h63:=hl.2.2.1
 obtain⟨b2,o2,c2,fc,a1,l1,hR,_⟩:=hl.at (i:=i.toNat) (by omega)
 refine⟨s,ld_at hb1 0 1,i,ld_at hb1 1 1,_,a1,hi,hlt',c2.1,(ldV_le d1.1.1 l1),i,ld_at hb1 1 1,_,_,rfl,hb1,(by show 1+1≤3; omega),?_⟩
 refine⟨d1.trans (kset_cx (h:=z) d1.1 (i:=IntKind.i64.wrap (i+1)) ?_),_,rfl,bit_bd _⟩
 rw [wrap_i64 (by omega)]
 omega
abbrev NumP (V0:Know) (b:Nat) (s:SlV) (V:Know) (n:Int):Know→Value→Prop:=fun V' r=>Dx V0 b s V V'∧∃ x:Int,r=.int .i64 x∧0≤x∧(0<n→x<n)∧(n≤0→x=0)
theorem cS_l01Below {V0 V:Know} {b:Nat} {s:SlV} (hc:Cx V0 b s V) (n:Int):CallX Tryz.prog V 28 [.pointer (some ⟨b,0,none⟩),.int .i64 n] (NumP V0 b s V n):=by
 refine CallX.of_fits Tryz.mix (fS_l01Below _ _) fun _=>?_
 simp only [tS_l01Below,T.wp]
 refine⟨fun h=>⟨hc.dx (Know.le.refl _),0,rfl,by omega,fun k=>k,fun _=>rfl⟩,fun h=>?_⟩
 have h0:¬ n≤0:=of_decide_eq_false h
 have fin:∀ {V':Know} {x:Int},Dx V0 b s V V'→0≤x→NumP V0 b s V n V' (packed [.int .i64 (x.tmod n)]):=fun d hx=>⟨d,_,rfl,Int.tmod_nonneg _ hx,fun hn=>Int.tmod_lt_of_pos _ hn,fun k=>absurd k h0⟩
 refine⟨fun _=>(cS_l01Byte hc).mono ?_,fun _=>(cS_l01Byte hc).mono ?_⟩
 ·rintro V1 _ ⟨d1,x,rfl,x0,_⟩
  exact⟨nofun,x,rfl,by omega,fin d1 x0⟩
 rintro V1 _ ⟨d1,x1,rfl,p1,q1⟩
 refine⟨nofun,x1,rfl,(cS_l01Byte d1.1).mono ?_⟩
 rintro V2 _ ⟨d2,x2,rfl,p2,q2⟩
 refine⟨nofun,x2,rfl,(cS_l01Byte d2.1).mono ?_⟩
 rintro V3 _ ⟨d3,x3,rfl,p3,q3⟩
 refine⟨nofun,x3,rfl,(cS_l01Byte d3.1).mono ?_⟩
 rintro V4 _ ⟨d4,x4,rfl,p4,q4⟩
 refine⟨nofun,x4,rfl,by omega,fin (((d1.trans d2).trans d3).trans d4) ?_⟩
 rw [wrap_i64 (n:=x1*16777216) (by omega),wrap_i64 (n:=x2*65536) (by omega),wrap_i64 (n:=x3*256) (by omega),wrap_i64 (n:=x1*16777216+x2*65536) (by omega),wrap_i64 (n:=x1*16777216+x2*65536+x3*256) (by omega),wrap_i64 (by omega)]
 omega
theorem cS_l01Once {V0 V:Know} {b:Nat} {s:SlV} (hc:Cx V0 b s V) (n:Int):CallX Tryz.prog V 54 [.pointer (some ⟨b,0,none⟩),.int .i64 n] (fun V' r=>Dx V0 b s V V'∧∃ e,r=.bool e):=by
 refine CallX.of_fits Tryz.mix (fS_l01Once _ _) fun _=>?_
 simp only [tS_l01Once,T.wp]
 refine(cS_l01Below hc n).mono ?_
 rintro V1 _ ⟨d1,x,rfl,_⟩
 exact⟨nofun,x,rfl,d1,_,rfl⟩
theorem cS_l01Str {V0 V:Know} {b:Nat} {s:SlV} (hc:Cx V0 b s V) (t:SlV) (ns:List (ByteArray × Unit)) (g:List Nat) (h:LR rNs V t ns g) (hb:b ∉ g) (hn:0<ns.length) :
  CallX Tryz.prog V 55 [.pointer (some ⟨b,0,none⟩),Sc.val .l t] (fun V' r=>Dx V0 b s V V'∧∃ n∈ns,r=.string n.1):=by
 refine CallX.of_fits Tryz.mix (fS_l01Str _ _) fun _=>?_
 simp only [tS_l01Str,T.wp]
 have h1:=h.1
 refine(cS_l01Below hc _).mono ?_
 rintro V1 _ ⟨d1,x,rfl,p1,p2,_⟩
 have hx:=p2 (by omega)
 obtain⟨b2,o2,c2,fc,a1,l1,hR,_⟩:=(h.but (f:=[b]) (fun y hy k=>hb (by simp at k; exact k ▸ hy)) d1.2).at (i:=x.toNat) (by omega)
 have e:c2.1=ns[x.toNat].1:=hR.1.1
 refine⟨nofun,x,rfl,_,a1,p1,(by omega),c2.1,l1,d1,ns[x.toNat]'(by omega),List.getElem_mem _,by rw [e]; rfl⟩
theorem cS_l01Pick {V0 V:Know} {b:Nat} {s:SlV} (hc:Cx V0 b s V) (t:SlV) (ns:List Lim) (g:List Nat) (h:LR rI V t ns g) (hb:b ∉ g) (hn:0<ns.length) :
  CallX Tryz.prog V 101 [.pointer (some ⟨b,0,none⟩),Sc.val .l t] (fun V' r=>Dx V0 b s V V'∧∃ n∈ns,r=.int .i64 n.1):=by
 refine CallX.of_fits Tryz.mix (fS_l01Pick _ _) fun _=>?_
 simp only [tS_l01Pick,T.wp]
 have h1:=h.1
 refine(cS_l01Below hc _).mono ?_
 rintro V1 _ ⟨d1,x,rfl,p1,p2,_⟩
 have hx:=p2 (by omega)
 obtain⟨b2,o2,c2,fc,a1,l1,hR,_⟩:=(h.but (f:=[b]) (fun y hy k=>hb (by simp at k; exact k ▸ hy)) d1.2).at (i:=x.toNat) (by omega)
 have e:c2.1=ns[x.toNat].1:=hR.1
 refine⟨nofun,x,rfl,_,a1,p1,(by omega),c2.1,l1,d1,ns[x.toNat]'(by omega),List.getElem_mem _,by rw [e]; rfl⟩
end Go.Proofs.YtpdfdkccgkieoaaGreatDoor
namespace Go.Proofs.YtpdfdkccgkieoaaGreatDoor
open Sx
theorem bless_irr:∀ x:List UInt8,Op.bytesLess x x=false
 | []=>rfl
 | a :: x=>by rw [Op.bytesLess,bless_irr x]; simp
theorem bless_trans:∀ {x y z:List UInt8},Op.bytesLess x y=true→Op.bytesLess y z=true→Op.bytesLess x z=true
 | _,[],_,h,_=>by simp [Op.bytesLess] at h
 | _,_ :: _,[],_,h=>by simp [Op.bytesLess] at h
 | [],_ :: _,_ :: _,_,_=>rfl
 | a :: x,b :: y,c :: z,h,k=>by
  simp only [Op.bytesLess,Bool.or_eq_true,decide_eq_true_eq,Bool.and_eq_true,beq_iff_eq] at h k ⊢
  rcases h with h | ⟨rfl,h⟩
  ·rcases k with k | ⟨rfl,k⟩
   ·exact .inl (UInt8.lt_trans h k)
   ·exact .inl h
  ·rcases k with k | ⟨rfl,k⟩
   ·exact .inl k
   ·exact .inr ⟨rfl,bless_trans h k⟩
theorem bless_tot:∀ (x y:List UInt8),Op.bytesLess x y=true∨x=y∨Op.bytesLess y x=true
 | [],[]=>.inr (.inl rfl)
 | [],_ :: _=>.inl rfl
 | _ :: _,[]=>.inr (.inr rfl)
 | a :: x,b :: y=>by
  simp only [Op.bytesLess,Bool.or_eq_true,decide_eq_true_eq,Bool.and_eq_true,beq_iff_eq,List.cons.injEq]
  rcases UInt8.lt_or_le a b with h | h
  ·exact .inl (.inl h)
  by_cases e:a=b
  ·subst e
   rcases bless_tot x y with k | k | k
   ·exact .inl (.inr ⟨rfl,k⟩)
   ·exact .inr (.inl ⟨rfl,k⟩)
   ·exact .inr (.inr (.inr ⟨rfl,k⟩))
  ·exact .inr (.inr (.inl (UInt8.lt_of_le_of_ne h (fun q=>e q.symm))))
theorem LessP.irr {a:ByteArray}:¬ LessP a a:=fun h=>by
 unfold LessP at h
 rw [bless_irr] at h; cases h
theorem LessP.trans {a b c:ByteArray} (h:LessP a b) (k:LessP b c):LessP a c:=bless_trans h k
theorem LessP.tot {a b:ByteArray} (h:¬ LessP a b) (k:a≠b):LessP b a:=by
 rcases bless_tot a.toList b.toList with q | q | q
 ·exact absurd q h
 ·exact absurd (toList_inj.1 q) k
 ·exact q
theorem known_mem {x:ByteArray} (h:known x=true):x∈curI.map (·.1):=by
 unfold known curFrom at h
 cases hf:(curI.drop 0).find? (curHas x) with
 | none=>rw [hf] at h; cases h
 | some r =>
  have h1:=List.find?_some hf
  have e:r.1=x:=text_eq.1 h1
  rw [← e]
  exact List.mem_map_of_mem (List.mem_of_find?_eq_some hf)
theorem known_sz3 {x:ByteArray} (h:known x=true):x.size≤3:=by
 have:∀ y∈curI.map (·.1),y.size≤3:=by decide +kernel
 exact this x (known_mem h)
theorem nodup_le {β:Type} [DecidableEq β]:∀ {l m:List β},l.Nodup→(∀ x∈l,x∈m)→l.length≤m.length
 | [],_,_,_=>Nat.zero_le _
 | a :: l,m,nd,h=>by
  obtain⟨n1,n2⟩:=List.nodup_cons.1 nd
  have ha:=h a (by simp)
  have ih:=nodup_le (l:=l) (m:=m.erase a) n2 fun x hx=>(List.mem_erase_of_ne (fun e=>n1 (by rw [← e]; exact hx))).2 (h x (by simp [hx]))
  have:=List.length_erase_of_mem ha
  have hp:=List.length_pos_of_mem ha
  simp only [List.length_cons]
  omega
def Sorted {α:Type} (key:α→ByteArray) (l:List α):Prop:=∀ (i:Nat) (h:i<l.length),0<i→LessP (key (l[i-1]'(by omega))) (key l[i])
theorem Sorted.lt {α:Type} {key:α→ByteArray} {l:List α} (h:Sorted key l):∀ {i j:Nat} (hj:j<l.length) (hij:i<j),LessP (key (l[i]'(by omega))) (key l[j])
 | i,j+1,hj,hij=>by
  have h1:=h (j+1) hj (by omega)
  by_cases e:i=j
  ·subst e; exact h1
  ·exact(Sorted.lt h (i:=i) (j:=j) (by omega) (by omega)).trans h1
theorem Sorted.nodup {α:Type} {key:α→ByteArray} {l:List α} (h:Sorted key l):(l.map key).Nodup:=by
 rw [List.nodup_iff_pairwise_ne]
 rw [List.pairwise_iff_getElem]
 intro i j hi hj hij e
 simp only [List.getElem_map] at e
 have:=h.lt (i:=i) (j:=j) (by simpa using hj) hij
 rw [e] at this
 exact LessP.irr this
theorem rests_sorted {l:List DRest} (h:RestsOkP l):Sorted (·.1) l:=fun i hi h0=>by
 obtain⟨_,_,_,_,q⟩:=h i hi
 exact q h0
theorem rests_len {l:List DRest} (h:RestsOkP l):l.length≤20:=by
 have:=nodup_le (rests_sorted h).nodup (m:=curI.map (·.1)) fun x hx=>by
  obtain⟨i,hi,rfl⟩:=List.mem_iff_getElem.1 hx
  obtain⟨h1,h2,_⟩:=h i (by simpa using hi)
  simp only [List.getElem_map]
  exact known_mem h2
 have e:(curI.map (·.1)).length=20:=rfl
 simpa [e] using this
theorem totE_bound {sh:List Sc} {α:Type} {r:Rp sh α} {n:Nat}:∀ {l:List α},(∀ i (h:i<l.length),r.tot l[i]≤n)→totE r l≤l.length*n
 | [],_=>Nat.zero_le _
 | x :: l,h=>by
  have h0:r.tot x≤n:=h 0 (by simp)
  have ih:=totE_bound (r:=r) (l:=l) (n:=n) fun i hi=>by
   have:=h (i+1) (by simpa using hi)
   simpa using this
  rw [totE,List.length_cons,Nat.add_mul]
  omega
theorem int0:∀ l:List Lim,totE rI l=0
 | []=>rfl
 | _ :: l=>by rw [totE,int0 l]; rfl
theorem money_tot {x:DMoney} (h:MoneyOkP x.1 x.2.1 x.2.2.1):rMoney.tot x≤7:=by
 have e:rMoney.tot x=x.1.size+(x.2.2.1.length+totE rI x.2.2.1+0):=rfl
 rw [e,int0]
 have:=known_sz3 h.1
 have:=h.2.2
 omega
theorem rat_tot {x:DRat} (h:RatOkP x.1 x.2.1 x.2.2.1):rRat.tot x≤36:=by
 have e:rRat.tot x=x.2.1.length+totE rI x.2.1+(x.2.2.1.length+totE rI x.2.2.1+0):=rfl
 rw [e,int0,int0]
 have:=h.2.2.2.1
 have:=h.2.2.2.2.1
 omega
theorem rate_tot {x:DRate} (h:RateOkP x):rRate.tot x≤8:=by
 have e:rRate.tot x=x.1.size+(x.2.1.size+(x.2.2.2.1.length+totE rI x.2.2.2.1+0)):=rfl
 rw [e,int0]
 have:=known_sz3 h.1
 have:=known_sz3 h.2.1
 have:=h.2.2.2.2.2
 omega
theorem rates_tot {x:DRates} (h:RatesOkP x.1 x.2.1):rRates.tot x≤111:=by
 have e:rRates.tot x=x.1.size+(x.2.1.length+totE rRate x.2.1+0):=rfl
 have b:=totE_bound (r:=rRate) (n:=8) (l:=x.2.1) fun i hi=>rate_tot (h.2.2 i hi).2.1
 have:=known_sz3 h.1
 have:=h.2.1
 rw [e]
 omega
theorem book_tot {l:List DAcct} (h:BookOkP l):l.length+totE rAcct l≤240:=by
 have b:=totE_bound (r:=rAcct) (n:=19) (l:=l) fun i hi=>by
  obtain⟨_,q1,q2,_⟩:=h.2 i hi
  have e:rAcct.tot l[i]=l[i].1.size+rMoney.tot l[i].2:=rfl
  have:=money_tot (x:=l[i].2) q2
  have:=q1.2.1
  omega
 have:=h.1
 omega
theorem rests_tot {l:List DRest} (h:RestsOkP l):l.length+totE rRest l≤800:=by
 have b:=totE_bound (r:=rRest) (n:=39) (l:=l) fun i hi=>by
  obtain⟨_,q1,q2,_⟩:=h i hi
  have e:rRest.tot l[i]=l[i].1.size+rRat.tot l[i].2:=rfl
  have:=rat_tot (x:=l[i].2) q2
  have:=known_sz3 q1
  omega
 have:=rests_len h
 omega
theorem ledger_tot {x:DLedger} (h:LedgerOkP x):rLedger.tot x≤4096:=by
 have e:rLedger.tot x=x.1.length+totE rAcct x.1+(x.2.1.length+totE rRest x.2.1+rRates.tot x.2.2):=rfl
 have:=book_tot h.1
 have:=rests_tot h.2.1
 have:=rates_tot (x:=x.2.2) h.2.2
 omega
theorem ledger_elim {V:Know} {c:Scs [.l,.l,.s,.l]} {x:DLedger} {f:List Nat} (h:rLedger.R V c x f):∃ s0 s1 s3 f0 f1 f3,c=(s0,s1,x.2.2.1,s3,())∧LR rAcct V s0 x.1 f0∧LR rRest V s1 x.2.1 f1∧LR rRate V s3 x.2.2.2.1 f3:=by
 obtain⟨c0,c1,c2,c3,cu⟩:=c
 obtain⟨f0,g0,rfl,h0,f1,g1,rfl,h1,⟨e2,_⟩,f3,g3,rfl,h3,_⟩:=h
 replace e2:c2=x.2.2.1:=e2
 subst e2
 exact⟨c0,c1,c3,f0,f1,f3,rfl,h0,h1,h3⟩
end Go.Proofs.YtpdfdkccgkieoaaGreatDoor
namespace Go.Proofs.YtpdfdkccgkieoaaGreatDoor
open Sx
set_option maxRecDepth 100000
def numT (k:Int):ByteArray:=⟨(Go.Lib.itoa k).toArray⟩
def dig (k:Nat):ByteArray:=⟨#[UInt8.ofNat (48+k)]⟩
theorem ba_append (l m:List UInt8):(⟨l.toArray⟩:ByteArray)++⟨m.toArray⟩=⟨(l++m).toArray⟩:=by
 apply ByteArray.ext
 rw [ByteArray.data_append]
 simp
theorem numT_small {k:Int} (h0:0≤k) (h:k<10):numT k=dig k.toNat:=by
 unfold numT Go.Lib.itoa
 rw [if_neg (by omega),Go.Lib.decDigits,dif_pos (by omega)]
 rfl
theorem numT_big {k:Int} (h:9<k):numT k=numT (k / 10)++dig (k % 10).toNat:=by
 unfold numT Go.Lib.itoa
 rw [if_neg (by omega),if_neg (by omega),Go.Lib.decDigits,dif_neg (by omega)]
 have e1:k.toNat / 10=(k / 10).toNat:=by omega
 have e2:k.toNat % 10=(k % 10).toNat:=by omega
 rw [e1,e2,← ba_append]
 rfl
theorem numT_len (k:Int) (h0:-9223372036854775808≤k) (h1:k≤9223372036854775807):(numT k).size≤21:=by
 have:=Go.Lib.itoa_length_le k h0 h1
 show(Go.Lib.itoa k).toArray.size≤21
 simpa using this
def zeros (k:Nat):ByteArray:=⟨(List.replicate k 48).toArray⟩
theorem zeros_size (k:Nat):(zeros k).size=k:=by
 show(List.replicate k (48:UInt8)).toArray.size=k
 simp
theorem repeat_zeros:∀ k:Nat,Go.Lib.repeatL [48] k=List.replicate k 48
 | 0=>rfl
 | k+1=>by rw [Go.Lib.repeatL,repeat_zeros k,List.replicate_succ]; rfl
def padB (s:ByteArray) (n:Int):ByteArray:=if n > 2000 then s else zeros (n-(s.size:Int)).toNat++s
theorem ba_empty_append (s:ByteArray):(⟨#[]⟩:ByteArray)++s=s:=by
 apply ByteArray.ext
 rw [ByteArray.data_append]
 simp
theorem padB_long {s:ByteArray} {n:Int} (h:n≤s.size):padB s n=s:=by
 unfold padB
 by_cases hn:n > 2000
 ·rw [if_pos hn]
 ·rw [if_neg hn]
  have e:(n-(s.size:Int)).toNat=0:=by omega
  rw [e]
  exact ba_empty_append s
theorem padB_size (s:ByteArray) (n:Int):(padB s n).size≤s.size+2000∧(¬ n > 2000→n≤(padB s n).size)∧((padB s n).size:Int)≤max (s.size:Int) n∧s.size≤(padB s n).size:=by
 unfold padB
 by_cases hn:n > 2000
 ·rw [if_pos hn]
  exact⟨by omega,fun h=>absurd hn h,by omega,by omega⟩
 ·rw [if_neg hn,ByteArray.size_append,zeros_size]
  exact⟨by omega,fun _=>by omega,by omega,by omega⟩
def natGo (l:List Lim):Nat→ByteArray→ByteArray
 | 0,s=>s
 | i+1,s=>natGo l i (s++padB (numT (limb l i)) 9)
def natT (l:List Lim):ByteArray:=if l.length=0 then ⟨#[48]⟩ else natGo l (l.length-1) (numT (limb l (l.length-1)))
theorem limb_num {l:List Lim} (hl:Lims l) (i:Nat):(numT (limb l i)).size≤21:=by
 have:=hl i
 exact numT_len _ (by omega) (by omega)
theorem part_size {l:List Lim} (hl:Lims l) (i:Nat):(padB (numT (limb l i)) 9).size≤21:=by
 have h1:=limb_num hl i
 have h2:=(padB_size (numT (limb l i)) 9).2.2.1
 omega
theorem natGo_size {l:List Lim} (hl:Lims l):∀ (i:Nat) (s:ByteArray),(natGo l i s).size≤s.size+21*i
 | 0,s=>by simp [natGo]
 | i+1,s=>by
  have ih:=natGo_size hl i (s++padB (numT (limb l i)) 9)
  have hp:=part_size hl i
  rw [natGo]
  rw [ByteArray.size_append] at ih
  omega
theorem natT_size {l:List Lim} (hl:Lims l):(natT l).size≤21*l.length+1:=by
 unfold natT
 by_cases h:l.length=0
 ·rw [if_pos h]
  show 1≤_
  omega
 ·rw [if_neg h]
  have h1:=natGo_size hl (l.length-1) (numT (limb l (l.length-1)))
  have h2:=limb_num hl (l.length-1)
  omega
def pointT (s:ByteArray) (sc:Int):ByteArray:=if sc > 0 then (s.extract 0 (s.size-sc.toNat)++(⟨#[46]⟩:ByteArray))++s.extract (s.size-sc.toNat) s.size else s
def decT (neg:Bool) (l:List Lim) (sc:Int):ByteArray:=if neg=true then (⟨#[45]⟩:ByteArray)++pointT (padB (natT l) (sc+1)) sc else pointT (padB (natT l) (sc+1)) sc
theorem pointT_size (s:ByteArray) (sc:Int):(pointT s sc).size≤s.size+1:=by
 unfold pointT
 split
 ·rw [ByteArray.size_append,ByteArray.size_append,ByteArray.size_extract,ByteArray.size_extract]
  show _+1+_≤_
  omega
 ·omega
theorem decT_size {neg:Bool} {l:List Lim} {sc:Int} (hl:Lims l):(decT neg l sc).size≤21*l.length+2003:=by
 have h1:=natT_size hl
 have h2:=(padB_size (natT l) (sc+1)).1
 have h3:=pointT_size (padB (natT l) (sc+1)) sc
 unfold decT
 split
 ·rw [ByteArray.size_append]
  show 1+_≤_
  omega
 ·omega
end Go.Proofs.YtpdfdkccgkieoaaGreatDoor
