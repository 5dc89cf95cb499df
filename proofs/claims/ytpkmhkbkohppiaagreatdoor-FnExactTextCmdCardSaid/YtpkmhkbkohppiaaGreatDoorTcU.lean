/-
  Names and weights read from their text, in the program.
-/
import Derived.Test.YtpkmhkbkohppiaaGreatDoorTcQ
namespace Go.Proofs.YtpkmhkbkohppiaaGreatDoor
open Sx Go.RowKit
set_option maxRecDepth 100000
theorem mul100_ex {m:List Lim} (hm:Can m) (h1:m.length≤1):∃ o,Can o∧valN o=valN m*100:=by
 have hx:0≤valN m∧valN m<1000000000:=by
  refine⟨valN_nonneg hm.1,?_⟩
  match m,h1 with
  | [],_=>exact(by decide:(0:Int)<1000000000)
  | [(a,())],_ =>
   rw [valN_one]
   exact(hm.1 0).2
 generalize valN m=x at hx
 have hl:Lims ([(x*100 % 1000000000,())]++[(x*100 / 1000000000,())]):=lims_snoc (lims_one (by omega)) (by omega)
 refine⟨_,(trim_can hl).1,?_⟩
 rw [(trim_can hl).2,valN_app,valN_one,valN_one]
 show x*100 % 1000000000+x*100 / 1000000000*1000000000 ^ 1=x*100
 omega
theorem least_ex {p:Nat→Prop}:∀ (k:Nat),p k→∃ j,j≤k∧p j∧∀ i,i<j→¬ p i:=by
 intro k
 induction k using Nat.strongRecOn with
 | _ k ih =>
  intro hk
  by_cases h:∃ i,i<k∧p i
  ·obtain⟨i,hi,hp⟩:=h
   obtain⟨j,h1,h2,h3⟩:=ih i hi hp
   exact⟨j,by omega,h2,h3⟩
  ·exact⟨k,Nat.le_refl _,hk,fun i hi hp=>h ⟨i,hi,hp⟩⟩
theorem low_ex {n:Bool} {m:List Lim} {sc:Int} (hd:DecOkP n m sc):∃ x,LowD n m sc x:=by
 have hsc:=hd.2.2.1
 obtain⟨j,h1,⟨z,hz⟩,h3⟩:=least_ex (p:=fun k:Nat=>∃ z,Goes n m sc (k:Int) z) sc.toNat ⟨m,by rw [Int.toNat_of_nonneg hsc]; exact goes_self hd⟩
 refine⟨(n,z,(j:Int),()),(j:Int),z,by omega,by omega,rfl,hz,fun t w h0 h1 k=>?_⟩
 exact h3 t.toNat (by omega) ⟨w,by rw [Int.toNat_of_nonneg h0]; exact k⟩
theorem per_ex {n:Bool} {m:List Lim} {sc:Int} (h:TaxLowP n m sc):PerP m sc (perT m sc):=by
 have hT:=h.1
 obtain⟨o,h1,h2⟩:=mul100_ex hT.1.1.1.1 hT.2.1
 have hl:=hun_len hT.1.1.1.1 hT.2.1 h1 h2
 obtain⟨y,hy⟩:=low_ex (n:=false) (m:=o) (sc:=sc) ⟨⟨⟨h1,by omega⟩,fun h=>by cases h⟩,by omega,hT.1.2.2⟩
 have hP:PerP m sc (decT y.1 y.2.1 y.2.2.1++(⟨⟨[37]⟩⟩:ByteArray)):=⟨o,y,h1,h2,hy,rfl⟩
 rw [perT_eq hP]; exact hP
def PerRes (s:ByteArray) (x:DecD) (ok:Bool):Prop:=x.2.1.length≤s.size+6∧∀ m sc,TaxLowP false m sc→perT m sc=s→ok=true∧x=(false,m,sc,())
abbrev PerGot (V:Know) (s:ByteArray):Know→Value→Prop:=fun V' r=>V.le V'∧∃ (x:DecD) (t:SlV) (f:List Nat) (ok:Bool),r=.tuple #[decV x.1 t x.2.2.1,.bool ok]∧LR rI V' t x.2.1 f∧Own V V' f∧PerRes s x ok
theorem per_no {V V':Know} {s:ByteArray} (le:V.le V') (h:∀ m sc,TaxLowP false m sc→perT m sc=s→False):PerGot V s V' (packed [qv0 (false,⟨none,0,0⟩,(0:Int),()),.bool false]) :=
 ⟨le,(false,[],0,()),⟨none,0,0⟩,[],false,rfl,lr_none,Own.nil,Nat.zero_le _,fun m sc a b=>(h m sc a b).elim⟩
theorem per_text {m:List Lim} {sc:Int} {s:ByteArray} (h:TaxLowP false m sc) (e:perT m sc=s) :
  ∃ y:DecD,y.1=false∧DecOkP false y.2.1 y.2.2.1∧DecOkP false y.2.1 (y.2.2.1+2)∧LowD false y.2.1 (y.2.2.1+2) (false,m,sc,())∧bl s=bl (decT false y.2.1 y.2.2.1)++[37]:=by
 obtain⟨o,y,h1,h2,h3,h4⟩:=per_ex h
 obtain⟨a,b,c,d⟩:=per_back h.2 h2 h3
 refine⟨y,a,b,c,d,?_⟩
 rw [← e,h4,a]
 show(_++_:ByteArray).data.toList=_
 rw [ByteArray.data_append,Array.toList_append]
theorem per_cut {s d:ByteArray} (h:bl s=bl d++[37]):0<s.size∧at0 s (s.size-1)=37∧s.extract 0 (s.size-1)=d:=by
 have hl:s.size=d.size+1:=by
  have:=congrArg List.length h
  rw [bl_len,List.length_append,bl_len] at this
  exact this
 have hb:s.size-1<(bl s).length:=by rw [bl_len]; omega
 refine⟨by omega,?_,?_⟩
 ·rw [at0_bl hb]
  have e:(bl s)[s.size-1]?=some 37:=by
   rw [h,hl,Nat.add_sub_cancel,← bl_len d]
   simp
  rw [List.getElem?_eq_getElem hb] at e
  rw [Option.some.inj e]; rfl
 ·refine bl_inj ?_
  rw [show bl (s.extract 0 (s.size-1))=(bl s).take (s.size-1) by rw [bl_extract]; simp]
  rw [h,hl,Nat.add_sub_cancel,← bl_len d]
  simp
theorem cS_TextPercent (V:Know) (s:ByteArray) (hs:s.size≤1048576):CallX Tryz.prog V 18 [.string s] (PerGot V s):=by
 refine CallX.of_fits Tryz.mix (fS_TextPercent _) fun _=>?_
 simp only [tS_TextPercent,T.wp]
 refine⟨fun h0=>?_,fun h0=>?_⟩
 ·refine per_no (Know.le.refl _) fun m sc a b=>?_
  obtain⟨y,_,_,_,_,hb⟩:=per_text a b
  have:=(per_cut hb).1
  have:(s.size:Int)=0:=by simpa using h0
  omega
 have hp:0<s.size:=by
  have:¬ (s.size:Int)=0:=by simpa using h0
  omega
 have ew:IntKind.i64.wrap ((s.size:Int)-1)=((s.size-1:Nat):Int):=by rw [wrap_i64 (by omega)]; omega
 rw [ew]
 refine⟨⟨by omega,by omega⟩,fun h37=>?_,fun h37=>⟨⟨by omega,by omega,by omega⟩,?_⟩⟩
 ·refine per_no (Know.le.refl _) fun m sc a b=>?_
  obtain⟨y,_,_,_,_,hb⟩:=per_text a b
  have:=(per_cut hb).2.1
  rw [Int.toNat_natCast,this] at h37
  simp at h37
 have e1:s.extract (Int.toNat 0) (((s.size-1:Nat):Int)).toNat=s.extract 0 (s.size-1):=rfl
 rw [e1]
 have hz:(s.extract 0 (s.size-1)).size≤s.size:=by rw [ByteArray.size_extract]; omega
 refine(cS_TextDec V _ (by omega)).mono ?_
 rintro V1 _ ⟨le1,n,t,sc,o,f,ok,rfl,L1,O1,⟨k1,k2⟩,k3,k4,k5⟩
 refine⟨nofun,((n,t,sc,()),ok,()),rfl,fun hf=>?_,fun _=>?_⟩
 ·refine per_no le1 fun m q a b=>?_
  obtain⟨y,_,c,_,_,hb⟩:=per_text a b
  obtain⟨h1,_⟩:=k5 _ _ _ c (per_cut hb).2.2.symm
  rw [h1] at hf
  cases hf
 rw [show IntKind.i64.wrap (((n,t,sc,()),ok,()).1.2.2.1+2)=sc+2 from(wrap_i64 (n:=sc+2) (by omega))]
 refine(cS_DecLowA V1 n t o f (sc+2) L1).mono ?_
 rintro V2 _ ⟨le2,x,t2,f2,rfl,L2,O2,hx⟩
 have hlow:=lowAny_low hx
 have hok:=low_ok hlow
 refine⟨nofun,(x.1,t2,x.2.2.1,()),rfl,(cS_PercentA V2 x.1 t2 x.2.1 f2 x.2.2.1 L2 fun _=>hlow).mono ?_⟩
 rintro V3 _ ⟨le3,rfl⟩
 have key:∀ m q,TaxLowP false m q→perT m q=s→x=(false,m,q,()):=fun m q a b=>by
  obtain⟨y,_,c,d,l,hb⟩:=per_text a b
  obtain⟨_,h1,h2,h3⟩:=k5 _ _ _ c (per_cut hb).2.2.symm
  subst h1 h2 h3
  rcases hx with ⟨_,hx⟩ | ⟨hn,_⟩
  ·exact low_inj hx l
  ·exact absurd d hn
 refine⟨nofun,_,rfl,fun hne=>?_,fun _=>?_⟩
 ·refine per_no ((le1.trans le2).trans le3) fun m q a b=>?_
  obtain rfl:=key m q a b
  rw [okT_pos a.1,b] at hne
  simp at hne
 ·exact⟨(le1.trans le2).trans le3,x,t2,f2,true,rfl,L2.le le3,(O2.pre le1).post le3,(by have h6:x.2.1.length≤6:=hok.2.1; omega:x.2.1.length≤s.size+6),fun m q a b=>⟨rfl,key m q a b⟩⟩
end Go.Proofs.YtpkmhkbkohppiaaGreatDoor
namespace Go.Proofs.YtpkmhkbkohppiaaGreatDoor
open Sx Go.RowKit
set_option maxRecDepth 100000
theorem low_last {n:Bool} {l:List Lim} {sc:Int} (hd:DecOkP n l sc) (h:sc=0∨valN l % 10≠0):LowD n l sc (n,l,sc,()):=by
 refine⟨sc,l,hd.2.2.1,Int.le_refl _,rfl,goes_self hd,fun t z h0 h1 k=>?_⟩
 rcases h with h | h
 ·omega
 ·have e:=k.2.2.1
  have e2:ten sc.toNat=ten t.toNat*(ten (sc-t-1).toNat*10):=by
   rw [← ten_succ,← ten_add]
   congr 1
   omega
  rw [e2] at e
  have hp:=ten_pos t.toNat
  have e3:valN l=valN z*ten (sc-t-1).toNat*10:=by
   refine Int.eq_of_mul_eq_mul_right (a:=ten t.toNat) (by omega) ?_
   rw [← e]
   ac_rfl
  rw [e3] at h
  omega
def LstP (n:Bool) (m:List Lim) (sc:Int) (l:List Lim) (s:Int):Prop:=Can l∧l.length≤m.length∧(n=true→0<l.length)∧0≤s∧s≤sc∧Same10 m sc l s
theorem cI_lowest {V0 V:Know} (le:V0.le V) (n:Bool) (t:SlV) (m:List Lim) (f:List Nat) (sc:Int) (h:LR rI V t m f) (hO:Own V0 V f) (hm:Can m) (hl:m.length≤1000000) (hn:n=true→0<m.length) (h0:0≤sc) (h1:sc≤1000000000) :
  CallX Tryz.prog V 129 [qv1 (n,t,()),.int .i64 sc] (fun V' r=>V.le V'∧∃ (t':SlV) (l:List Lim) (f':List Nat) (s:Int),r=decV n t' s∧LR rI V' t' l f'∧Own V0 V' f'∧LstP n m sc l s∧(s=0∨valN l % 10≠0)):=by
 refine CallX.of_fits Tryz.mix (fI_lowest _ _) fun _=>?_
 simp only [tI_lowest,T.wp]
 refine⟨fun y V'=>V.le V'∧∃ (l:List Lim) (f':List Nat),LR rI V' y.2.2.1 l f'∧Own V0 V' f'∧y.2.1=n∧LstP n m sc l y.1,fun y _=>(y.1:Int).toNat,⟨(sc,n,t,()),rfl,Know.le.refl _,m,f,h,hO,rfl,hm,Nat.le_refl _,hn,h0,Int.le_refl _,⟨rfl⟩⟩,?_⟩
 rintro⟨(s:Int),(b:Bool),(t':SlV),u⟩ V' ⟨hle,l,f',L,O,hb,hc,hlen,hpos,hs0,hs1,hS⟩
 replace hb:b=n:=hb
 replace L:LR rI V' t' l f':=L
 replace hs0:0≤s:=hs0
 replace hs1:s≤sc:=hs1
 replace hS:Same10 m sc l s:=hS
 subst hb
 refine⟨fun hg=>?_,fun hg=>?_⟩
 ·have hg':s > 0:=of_decide_eq_true hg
  refine(cI_natSmall V' t' l f' 10 L hc.1 (by omega) (by decide)).mono ?_
  rintro V2 _ ⟨le2,s',q,r',f2,rfl,L2,O2,hq,hv,hr0,hr1,hql⟩
  refine⟨nofun,(s',r',()),rfl,fun hr=>?_,fun hr=>?_⟩
  ·have hr':r' > 0:=of_decide_eq_true hr
   exact⟨hle.trans le2,t',l,f',s,rfl,L.le le2,O.post le2,⟨hc,hlen,hpos,hs0,hs1,hS⟩,.inr (by omega)⟩
  ·have hr':¬ r' > 0:=of_decide_eq_false hr
   have hr2:r'=0:=by omega
   subst hr2
   rw [Int.add_zero] at hv
   have hqp:b=true→0<q.length:=fun hb=>by
    have h1:=(can_pos hc).1 (hpos hb)
    rw [can_pos hq]
    omega
   refine(cI_signed V2 b s').mono ?_
   rintro V3 _ ⟨rfl,rfl⟩
   have eb:(b && decide ((s'.n:Int) > 0))=b:=by
    cases b with
    | false=>rfl
    | true =>
     have:=hqp rfl
     have hn':=L2.1
     simp
     omega
   refine⟨nofun,(b && decide ((s'.n:Int) > 0),s',()),rfl,_,rfl,(s-1,b,s',()),?_,⟨hle.trans le2,q,f2,L2,O2.pre (le.trans hle),rfl,hq,by omega,hqp,by show 0≤s-1; omega,by show s-1≤sc; omega,same10_tr hS ⟨?_⟩⟩,?_⟩
   ·rw [wrap_i64 (by omega),eb]; rfl
   ·have e:s.toNat=(s-1).toNat+1:=by omega
    show valN q*ten s.toNat=valN l*ten (s-1).toNat
    rw [e,ten_succ,hv,Int.mul_assoc,Int.mul_comm (ten _) 10]
   ·show(s-1).toNat<s.toNat
    omega
 ·have hg':¬ s > 0:=of_decide_eq_false hg
  exact⟨hle,t',l,f',s,rfl,L,O,⟨hc,hlen,hpos,hs0,hs1,hS⟩,.inl (by omega)⟩
abbrev PerEx (V:Know) (s:ByteArray):Know→Value→Prop:=fun V' r=>V.le V'∧∃ (x:DecD) (t:SlV) (f:List Nat) (ok:Bool),r=.tuple #[decV x.1 t x.2.2.1,.bool ok]∧LR rI V' t x.2.1 f∧Own V V' f∧PerRes s x ok∧(ok=true→TaxLowP x.1 x.2.1 x.2.2.1∧perT x.2.1 x.2.2.1=s)
theorem perE_no {V V':Know} {s:ByteArray} (le:V.le V') (h:∀ m sc,TaxLowP false m sc→perT m sc=s→False):PerEx V s V' (packed [qv0 (false,⟨none,0,0⟩,(0:Int),()),.bool false]) :=
 ⟨le,(false,[],0,()),⟨none,0,0⟩,[],false,rfl,lr_none,Own.nil,⟨Nat.zero_le _,fun m sc a b=>(h m sc a b).elim⟩,nofun⟩
theorem cI_TextPercent {V:Know} (hV:HtI V) (s:ByteArray) (hs:s.size≤1048576):CallX Tryz.prog V 96 [.string s] (PerEx V s):=by
 refine CallX.of_fits Tryz.mix (fI_TextPercent _) fun _=>?_
 simp only [tI_TextPercent,T.wp]
 refine⟨fun h0=>?_,fun h0=>?_⟩
 ·refine perE_no (Know.le.refl _) fun m sc a b=>?_
  obtain⟨y,_,_,_,_,hb⟩:=per_text a b
  have:=(per_cut hb).1
  have:=empty_iff.1 h0
  omega
 have hp:0<s.size:=by
  rcases Nat.eq_zero_or_pos s.size with e | e
  ·rw [empty_iff.2 e] at h0
   cases h0
  ·exact e
 have ew:IntKind.i64.wrap ((s.size:Int)-1)=((s.size-1:Nat):Int):=by rw [wrap_i64 (by omega)]; omega
 rw [ew]
 refine⟨⟨by omega,by omega⟩,fun h37=>?_,fun h37=>⟨⟨by omega,by omega,by omega⟩,?_⟩⟩
 ·refine perE_no (Know.le.refl _) fun m sc a b=>?_
  obtain⟨y,_,_,_,_,hb⟩:=per_text a b
  have:=(per_cut hb).2.1
  rw [Int.toNat_natCast,this] at h37
  simp at h37
 have e1:s.extract (Int.toNat 0) (((s.size-1:Nat):Int)).toNat=s.extract 0 (s.size-1):=rfl
 rw [e1]
 have hz:(s.extract 0 (s.size-1)).size≤s.size:=by rw [ByteArray.size_extract]; omega
 refine(cI_TextDec hV _ (by omega)).mono ?_
 rintro V1 _ ⟨le1,n,t,sc,o,f,ok,rfl,L1,O1,⟨k1,k2⟩,k3,k4,k5⟩
 refine⟨nofun,((n,t,sc,()),ok,()),rfl,fun hf=>?_,fun hT=>?_⟩
 ·refine perE_no le1 fun m q a b=>?_
  obtain⟨y,_,c,_,_,hb⟩:=per_text a b
  obtain⟨h1,_⟩:=k5 _ _ _ c (per_cut hb).2.2.symm
  rw [h1] at hf
  cases hf
 have hT':ok=true:=by
  have:(!ok)=false:=hT
  simpa using this
 obtain⟨hd1,_⟩:=k2 hT'
 rw [show IntKind.i64.wrap (((n,t,sc,()),ok,()).1.2.2.1+2)=sc+2 from(wrap_i64 (n:=sc+2) (by omega))]
 refine(cI_lowest le1 n t o f (sc+2) L1 O1 hd1.1.1.1 (by have:=hd1.2.1; omega) hd1.1.2 (by omega) (by omega)).mono ?_
 rintro V2 _ ⟨le2,t2,l,f2,s2,rfl,L2,O2,⟨c1,c2,c3,c4,c5,c6⟩,c7⟩
 have hl6:l.length≤6:=by have:=hd1.2.1; omega
 have hok:s2≤30→DecOkP n l s2:=fun h30=>⟨⟨⟨c1,by omega⟩,c3⟩,hl6,c4,h30⟩
 have hlow:TaxP n l s2→LowD n l s2 (n,l,s2,()):=fun hT=>low_last hT.1 c7
 refine⟨nofun,(n,t2,s2,()),rfl,(cI_PercentA (hV.le (le1.trans le2)) n t2 l f2 s2 L2 hlow).mono ?_⟩
 rintro V3 _ ⟨le3,rfl⟩
 have key:∀ m q,TaxLowP false m q→perT m q=s→(n,l,s2,())=((false,m,q,()):DecD):=fun m q a b=>by
  obtain⟨y,_,c,d,e,hb⟩:=per_text a b
  obtain⟨_,h1,h2,h3⟩:=k5 _ _ _ c (per_cut hb).2.2.symm
  subst h1 h2 h3
  exact low_inj (low_val (low_last (hok (by have:=d.2.2.2; omega)) c7) d (same10_sy c6)) e
 refine⟨nofun,_,rfl,fun hne=>?_,fun heq=>?_⟩
 ·refine perE_no ((le1.trans le2).trans le3) fun m q a b=>?_
  have e:=key m q a b
  cases e
  rw [okT_pos a.1,b] at hne
  simp at hne
 ·have e:okT (TaxP n l s2) (perT l s2)=s:=text_eq.1 (by simpa using heq)
  obtain⟨e1,e2⟩:=okT_get e hp
  exact⟨(le1.trans le2).trans le3,(n,l,s2,()),t2,f2,true,rfl,L2.le le3,O2.post le3,⟨(by omega:l.length≤s.size+6),fun m q a b=>⟨rfl,key m q a b⟩⟩,fun _=>⟨⟨e1,hlow e1⟩,e2⟩⟩
end Go.Proofs.YtpkmhkbkohppiaaGreatDoor
namespace Go.Proofs.YtpkmhkbkohppiaaGreatDoor
open Sx Go.RowKit
set_option maxRecDepth 100000
theorem wordB_no {s:ByteArray} (h:WordP s) {x:UInt8} (hx:x.toNat<48∨(57<x.toNat∧x.toNat<97)):x ∉ bl s:=fun k=>by
 obtain⟨i,hi,e⟩:=List.mem_iff_getElem.1 k
 have hl:=bl_len s
 have:=h.2.2.2 i (by omega)
 rw [at0_bl hi,e] at this
 unfold LowerP DigitP at this
 omega
theorem codeB_no {s:ByteArray} (h:CodeP s) {x:UInt8} (hx:x.toNat<65):x ∉ bl s:=fun k=>by
 obtain⟨i,hi,e⟩:=List.mem_iff_getElem.1 k
 have hl:=bl_len s
 have h3:=h.1
 have:=h.2 i (by omega)
 rw [at0_bl hi,e] at this
 omega
theorem num_no {k:Int} (h:0≤k) {x:UInt8} (hx:¬ Dg x):x ∉ bl (numT k):=fun q=>hx ((numT_dg h).1 x q)
theorem cut_lone {c:UInt8} {s:ByteArray} (h:c ∉ bl s):cutB c s=[(s,())]:=cutB_eq (by simp [joinC]) (by simp) (fun x hx=>by
 obtain rfl:x=(s,()):=by simpa using hx
 exact h)
theorem dealAt_bl {nm:List Tx} {w:List Lim} {i:Nat} (hi:i<nm.length):bl (dealAt nm w i).1=bl nm[i].1++58 :: bl (numT (limb w i)):=by
 have e:(nm.getD i (noT,())).1=nm[i].1:=by rw [List.getD_eq_getElem?_getD,List.getElem?_eq_getElem hi]; rfl
 show bl (((nm.getD i (noT,())).1++_)++_)=_
 rw [e,bl_append,bl_append,List.append_assoc]
 rfl
theorem deal_wt {nm:List Tx} {w:List Lim} (h:DealP nm w) {i:Nat} (hi:i<nm.length):0≤limb w i∧limb w i≤1000000000:=h.2.2.2.2 i (by rw [← h.1]; exact hi)
theorem dealAt_no {nm:List Tx} {w:List Lim} (h:DealP nm w) {i:Nat} (hi:i<nm.length) {x:UInt8} (hx:x.toNat<48):x ∉ bl (dealAt nm w i).1:=by
 rw [dealAt_bl hi]
 intro k
 rcases List.mem_append.1 k with k | k
 ·exact wordB_no (h.2.2.2.1 i hi) (.inl hx) k
 ·rcases List.mem_cons.1 k with k | k
  ·subst k; exact absurd hx (by decide)
  ·exact num_no (deal_wt h hi).1 (fun q=>by omega) k
theorem deal_cut {nm:List Tx} {w:List Lim} (h:DealP nm w):cutB 44 (dealT nm w)=dealL nm w:=by
 refine cut_words ?_ fun x hx=>?_
 ·intro e
  have:=dealL_len nm w
  rw [e] at this
  have h1:=h.1
  have h2:=h.2.1
  simp at this
  omega
 ·obtain⟨i,hi,rfl⟩:=List.mem_map.1 hx
  exact dealAt_no h (List.mem_range.1 hi) (by decide)
theorem dealAt_cut {nm:List Tx} {w:List Lim} (h:DealP nm w) {i:Nat} (hi:i<nm.length):cutB 58 (dealAt nm w i).1=[nm[i],(numT (limb w i),())]:=by
 refine cutB_eq ?_ (by simp) fun x hx=>?_
 ·rw [dealAt_bl hi]; rfl
 ·rcases List.mem_cons.1 hx with rfl | hx
  ·exact wordB_no (h.2.2.2.1 i hi) (.inr (by decide))
  ·obtain rfl:x=(numT (limb w i),()):=by simpa using hx
   exact num_no (deal_wt h hi).1 (by decide)
theorem deal_no {nm:List Tx} {w:List Lim} (h:DealP nm w):(32:UInt8) ∉ bl (dealT nm w):=by
 intro k
 unfold dealT at k
 rw [joinT_bl1] at k
 rcases joinC_mem k with k | ⟨l,hl,k⟩
 ·revert k; decide
 ·obtain⟨x,hx,rfl⟩:=List.mem_map.1 hl
  obtain⟨i,hi,rfl⟩:=List.mem_map.1 hx
  exact dealAt_no h (List.mem_range.1 hi) (by decide) k
theorem per_no32 {n:Bool} {m:List Lim} {sc:Int} (h:TaxLowP n m sc):(32:UInt8) ∉ bl (perT m sc):=by
 have hn:n=false:=h.1.2.2.1
 subst hn
 obtain⟨y,_,c,_,_,hb⟩:=per_text h rfl
 rw [hb]
 intro k
 rcases List.mem_append.1 k with k | k
 ·exact decT_no c (by decide) (by decide) (by decide) k
 ·revert k; decide
theorem mode_no {m:Int} (h:ModeP m):(32:UInt8) ∉ bl (modeT m):=by
 have h0:=h.1
 have h6:=h.2
 have h9:m=0∨m=1∨m=2∨m=3∨m=4∨m=5∨m=6:=by omega
 rcases h9 with rfl | rfl | rfl | rfl | rfl | rfl | rfl <;> decide
theorem op_no {op:Int} (h:1≤op∧op≤9):(32:UInt8) ∉ bl (opT op):=by
 have h9:op=1∨op=2∨op=3∨op=4∨op=5∨op=6∨op=7∨op=8∨op=9:=by omega
 rcases h9 with rfl | rfl | rfl | rfl | rfl | rfl | rfl | rfl | rfl <;> decide
theorem field_nw {x:DCmd} {f:Int} (hf:0≤f∧f≤8) (h:FOk x f):(cutB 32 (fieldT x f)).length=nw f:=by
 obtain⟨op,a,b,c,u,mc,mn,mm,mo,nm,w,rn,rm,rs,pf,pt,pn,pm,ps,y⟩:=x
 unfold FOk at h
 unfold fieldT nw
 simp only at h ⊢
 split
 ·rename_i e
  rw [if_pos e] at h
  subst e
  rw [cut_lone (wordB_no h (.inl (by decide)))]; rfl
 rw [if_neg (by assumption)] at h
 split
 ·rename_i e
  rw [if_pos e] at h
  subst e
  rw [cut_lone (wordB_no h (.inl (by decide)))]; rfl
 rw [if_neg (by assumption)] at h
 split
 ·rename_i e
  rw [if_pos e] at h
  subst e
  rw [cut_lone (wordB_no h (.inl (by decide)))]; rfl
 rw [if_neg (by assumption)] at h
 split
 ·rename_i e
  rw [if_pos e] at h
  subst e
  rw [cut_lone (codeB_no h (by decide))]; rfl
 rw [if_neg (by assumption)] at h
 split
 ·rename_i e
  rw [if_pos e] at h
  subst e
  rw [money_cut h.1]; rfl
 rw [if_neg (by assumption)] at h
 split
 ·rename_i e
  rw [if_pos e] at h
  subst e
  rw [cut_lone (deal_no h)]; rfl
 rw [if_neg (by assumption)] at h
 split
 ·rename_i e
  rw [if_pos e] at h
  subst e
  rw [cut_lone (per_no32 h)]; rfl
 rw [if_neg (by assumption)] at h
 split
 ·rename_i e
  rw [if_pos e] at h
  subst e
  rw [cut_lone (mode_no h)]; rfl
 rw [if_neg (by assumption)] at h
 rw [rate_cut h]
 obtain rfl:f=8:=by omega
 rfl
end Go.Proofs.YtpkmhkbkohppiaaGreatDoor
namespace Go.Proofs.YtpkmhkbkohppiaaGreatDoor
open Sx Go.RowKit
set_option maxRecDepth 100000
def PartP (p:ByteArray) (a:Tx) (k:Int):Prop:=cutB 58 p=[a,(numT k,())]∧∀ m:Int,0≤m→m≤1000000000→numT m=numT k→k=m
def DealIn (L nm:List Tx) (w:List Lim):Prop:=nm.length=w.length∧nm.length≤30∧nm.length≤L.length∧∀ j,j<nm.length→PartP (L.getD j (noT,())).1 (nm.getD j (noT,())) (limb w j)
def DealRes (s:ByteArray) (nm:List Tx) (w:List Lim) (ok:Bool):Prop:=(nm.length≤30∧w.length≤30∧∀ x∈nm,x.1.size≤s.size)∧(ok=true→nm.length=w.length∧dealT nm w=s)∧∀ nm' w',DealP nm' w'→dealT nm' w'=s→ok=true∧nm=nm'∧w=w'
theorem getD_lt {l:List Tx} {i:Nat} (h:i<l.length):l.getD i (noT,())=l[i]:=by rw [List.getD_eq_getElem?_getD,List.getElem?_eq_getElem h]; rfl
theorem part_cat {p:ByteArray} {a:Tx} {k:Int} (h:PartP p a k):p=a.1++(⟨⟨[58]⟩⟩:ByteArray)++numT k:=by
 refine bl_inj ?_
 rw [cutB_join 58 p,h.1,bl_append,bl_append,List.append_assoc]
 rfl
theorem dealIn_all {s:ByteArray} {nm:List Tx} {w:List Lim} (h:DealIn (cutB 44 s) nm w) (e:nm.length=(cutB 44 s).length):dealT nm w=s:=by
 have k:dealL nm w=cutB 44 s:=by
  refine List.ext_getElem (by rw [dealL_len]; exact e) fun i h1 h2=>?_
  have hi:i<nm.length:=by rw [dealL_len] at h1; exact h1
  have hp:=part_cat (h.2.2.2 i hi)
  rw [getD_lt h2] at hp
  simp only [dealL,List.getElem_map,List.getElem_range]
  show((nm.getD i (noT,())).1++(⟨⟨[58]⟩⟩:ByteArray)++numT (limb w i),())=_
  rw [← hp]
 unfold dealT
 rw [k]
 exact joinT_cut1 44 s
theorem dealIn_one {s:ByteArray} {nm nm':List Tx} {w w':List Lim} (h:DealIn (cutB 44 s) nm w) (e:nm.length=(cutB 44 s).length) (hD:DealP nm' w') (he:dealT nm' w'=s):nm=nm'∧w=w':=by
 have hc:=deal_cut hD
 rw [he] at hc
 have hl:nm.length=nm'.length:=by rw [e,hc,dealL_len]
 have key:∀ i,i<nm.length→nm.getD i (noT,())=nm'.getD i (noT,())∧limb w i=limb w' i:=fun i hi=>by
  obtain⟨h1,h2⟩:=h.2.2.2 i hi
  have hi':i<nm'.length:=by omega
  have ei:((cutB 44 s).getD i (noT,())).1=(dealAt nm' w' i).1:=by
   rw [hc]
   unfold dealL
   rw [getD_lt (by simp; exact hi')]
   simp
  rw [ei,dealAt_cut hD hi'] at h1
  have e1:=(List.cons.inj h1).1
  have e2:=(List.cons.inj (List.cons.inj h1).2).1
  have hw:=deal_wt hD hi'
  exact⟨by rw [← e1,getD_lt hi'],h2 _ hw.1 hw.2 (congrArg Prod.fst e2)⟩
 have hw1:=h.1
 have hw2:=hD.1
 refine⟨List.ext_getElem hl fun i h1 h2=>?_,List.ext_getElem (by omega) fun i h1 h2=>?_⟩
 ·rw [← getD_lt h1,← getD_lt h2]; exact(key i h1).1
 ·have:=(key i (by omega)).2
  rw [limb_lt h1,limb_lt h2] at this
  exact Prod.ext this rfl
theorem deal_part {s:ByteArray} {nm':List Tx} {w':List Lim} (hD:DealP nm' w') (he:dealT nm' w'=s) {i:Nat} (hi:i<(cutB 44 s).length) :
  i<30∧∃ (a:Tx) (m:Int),cutB 58 ((cutB 44 s)[i]).1=[a,(numT m,())]∧0≤m∧m≤1000000000:=by
 have hc:=deal_cut hD
 rw [he] at hc
 have hl:i<nm'.length:=by rw [hc,dealL_len] at hi; exact hi
 have h1:=hD.1
 have h2:=hD.2.2.1
 refine⟨by omega,nm'[i],limb w' i,?_,deal_wt hD hl⟩
 have ei:(cutB 44 s)[i]=dealAt nm' w' i:=by
  simp only [hc,dealL,List.getElem_map,List.getElem_range]
 rw [ei]
 exact dealAt_cut hD hl
theorem dealIn_snoc {L nm:List Tx} {w:List Lim} {a:Tx} {k:Int} (h:DealIn L nm w) (h30:nm.length<30) (hl:nm.length<L.length) (hp:PartP (L.getD nm.length (noT,())).1 a k):DealIn L (nm++[a]) (w++[(k,())]):=by
 obtain⟨h1,h2,h3,h4⟩:=h
 refine⟨by simp [h1],by simp; omega,by simp; omega,fun j hj=>?_⟩
 by_cases e:j<nm.length
 ·have ea:(nm++[a]).getD j (noT,())=nm.getD j (noT,()):=by
   rw [getD_lt (by simp; omega),getD_lt e,List.getElem_append_left e]
  have ek:limb (w++[(k,())]) j=limb w j:=by
   rw [limb_lt (by simp; omega),limb_lt (by omega),List.getElem_append_left (by omega)]
  rw [ea,ek]
  exact h4 j e
 ·have ej:j=nm.length:=by simp at hj; omega
  subst ej
  have ea:(nm++[a]).getD nm.length (noT,())=a:=by rw [getD_lt (by simp)]; simp
  have ek:limb (w++[(k,())]) nm.length=k:=by
   rw [limb_lt (by simp; omega)]
   simp [h1]
  rw [ea,ek]
  exact hp
end Go.Proofs.YtpkmhkbkohppiaaGreatDoor
