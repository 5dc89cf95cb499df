/-
  TextInt of the reference: whole numbers read from their texts.
-/
import Derived.Test.YtpkmhkbkohppiaaGreatDoorRdG
import Derived.Test.YtpkmhkbkohppiaaGreatDoorCmdV
import Derived.Test.YtpkmhkbkohppiaaGreatDoorDecM
namespace Go.Proofs.YtpkmhkbkohppiaaGreatDoor
open Sx
set_option maxRecDepth 100000
theorem loadV_mono {V V':Know} {a:Addr} {k:Nat} {x:List Value} (h:V.le V') (hl:loadV V a k=some x):loadV V' a k=some x:=by
 unfold loadV at hl ⊢
 split at hl
 ·rename_i cs u h1 h2
  rw [h1,h _ _ h2]
  exact hl
 ·cases hl
theorem cI_Cut (V:Know) (s:ByteArray) (hs:s.size≤1048576):CallX Tryz.prog V 22 [.string s] (CutPost V 32 s):=by
 refine CallX.of_fits Tryz.mix (fI_Cut _) fun _=>?_
 simp only [tI_Cut,T.wp]
 refine(cI_CutAt V s 32 hs).mono ?_
 rintro V1 _ ⟨le1,t,f,rfl,L,O⟩
 exact⟨nofun,t,rfl,le1,t,f,rfl,L,O⟩
theorem decT_bytes {n:Bool} {l:List Lim} {q:Int} (a:DecOkP n l q):∀ c∈bl (decT n l q),c=45∨c=46∨Dg c:=by
 have hb:∀ c∈bl (decB l q),c=46∨Dg c:=fun c hc=>by
  have hd:=decP_dg (sc:=q) a.1.1.1 a.2.2.2
  rcases decB_parts a.1.1.1 a.2.1 a.2.2.1 a.2.2.2 with ⟨_,e⟩ | ⟨_,A,B,e,e2,_⟩
  ·rw [e] at hc; exact .inr (hd c hc)
  ·rw [e] at hc
   rw [e2] at hd
   rcases List.mem_append.1 hc with h | h
   ·exact .inr (hd c (by simp [h]))
   ·rcases List.mem_cons.1 h with h | h
    ·exact .inl h
    ·exact .inr (hd c (by simp [h]))
 intro c hc
 cases n with
 | false=>rw [decT_pos] at hc; exact .inr (hb c hc)
 | true =>
  rw [decT_neg] at hc
  rcases List.mem_cons.1 hc with h | h
  ·exact .inl h
  ·exact .inr (hb c h)
theorem decT_no {n:Bool} {l:List Lim} {q:Int} (a:DecOkP n l q) {x:UInt8} (h1:x≠45) (h2:x≠46) (h3:¬ Dg x):x ∉ bl (decT n l q):=fun hx=>by
 rcases decT_bytes a x hx with h | h | h
 ·exact h1 h
 ·exact h2 h
 ·exact h3 h
theorem mon_dec {c:ByteArray} {m:Bool} {l:List Lim} (h:MoneyOkP c m l):DecOkP m l (places c) :=
 ⟨h.2.1,by have:=h.2.2; omega,(places_bd c).1,by have:=(places_bd c).2; omega⟩
theorem moneyT_bl (c:ByteArray) (m:Bool) (l:List Lim):bl (moneyT c m l)=bl c++32 :: bl (decT m l (places c)):=by
 unfold moneyT
 rw [bl_append,bl_append]
 show(bl c++[32])++_=_
 simp
theorem money_cut {c:ByteArray} {m:Bool} {l:List Lim} (h:MoneyOkP c m l):cutB 32 (moneyT c m l)=[(c,()),(decT m l (places c),())]:=by
 refine cutB_eq (moneyT_bl c m l) (by simp) fun x hx=>?_
 rcases List.mem_cons.1 hx with rfl | hx
 ·exact(known_space h.1).1
 ·obtain rfl:x=(decT m l (places c),()):=by simpa using hx
  exact decT_no (mon_dec h) (by decide) (by decide) (by decide)
theorem rateT_bl (r:DRate):bl (rateT r)=bl r.1++32 :: (bl r.2.1++32 :: bl (decT r.2.2.1 r.2.2.2.1 r.2.2.2.2.1)):=by
 unfold rateT
 rw [bl_append,bl_append,bl_append,bl_append]
 show(((bl r.1++[32])++bl r.2.1)++[32])++_=_
 simp
theorem rate_cut {r:DRate} (h:RateOkP r):cutB 32 (rateT r)=[(r.1,()),(r.2.1,()),(decT r.2.2.1 r.2.2.2.1 r.2.2.2.2.1,())]:=by
 refine cutB_eq (rateT_bl r) (by simp) fun x hx=>?_
 rcases List.mem_cons.1 hx with rfl | hx
 ·exact(known_space h.1).1
 rcases List.mem_cons.1 hx with rfl | hx
 ·exact(known_space h.2.1).1
 ·obtain rfl:x=(decT r.2.2.1 r.2.2.2.1 r.2.2.2.2.1,()):=by simpa using hx
  exact decT_no h.2.2.2.1 (by decide) (by decide) (by decide)
theorem cut_two {c:UInt8} {s p q:ByteArray} (h:cutB c s=[(p,()),(q,())]):s.size=p.size+1+q.size:=by
 have:=cutB_join c s
 rw [h] at this
 have:=congrArg List.length this
 rw [bl_len] at this
 have e:(joinC c ([(p,()),(q,())].map fun x=>bl x.1)).length=(bl p++c :: bl q).length:=rfl
 rw [e,List.length_append,List.length_cons,bl_len,bl_len] at this
 omega
theorem cut_three {c:UInt8} {s p q r:ByteArray} (h:cutB c s=[(p,()),(q,()),(r,())]):s.size=p.size+1+q.size+1+r.size:=by
 have:=cutB_join c s
 rw [h] at this
 have:=congrArg List.length this
 rw [bl_len] at this
 have e:(joinC c ([(p,()),(q,()),(r,())].map fun x=>bl x.1)).length=(bl p++c :: (bl q++c :: bl r)).length:=rfl
 rw [e,List.length_append,List.length_cons,List.length_append,List.length_cons,bl_len,bl_len,bl_len] at this
 omega
def MoRes (s:ByteArray) (c:ByteArray) (n:Bool) (o:List Lim) (ok:Bool):Prop :=
 (c.size+o.length≤s.size∧(ok=true→MoneyOkP c n o∧moneyT c n o=s))∧∀ c' m l,MoneyOkP c' m l→moneyT c' m l=s→ok=true∧c=c'∧n=m∧o=l
abbrev MoRd (V:Know) (s:ByteArray):Know→Value→Prop:=fun V' r=>V.le V'∧∃ c n t o f ok,r=.tuple #[qv2 (c,n,t,()),.bool ok]∧LR rI V' t o f∧Own V V' f∧MoRes s c n o ok
theorem mo_no {V V':Know} {s:ByteArray} (le:V.le V') (h:∀ c m l,MoneyOkP c m l→moneyT c m l=s→False):MoRd V s V' (packed [qv2 (⟨#[]⟩,false,⟨none,0,0⟩,()),.bool false]) :=
 ⟨le,⟨#[]⟩,false,⟨none,0,0⟩,[],[],false,rfl,lr_none,Own.nil,⟨Nat.zero_le _,nofun⟩,fun c m l a b=>(h c m l a b).elim⟩
theorem n_two {t:SlV} {L:List Tx} (h:t.n=L.length):((t.n:Int) != (2:Int))=true→L.length≠2:=fun k e=>by
 have:(t.n:Int)≠2:=by simpa using k
 omega
theorem is_two {t:SlV} {L:List Tx} (h:t.n=L.length) (k:((t.n:Int) != (2:Int))=false):∃ p q,L=[(p,()),(q,())]:=by
 have e:(t.n:Int)=2:=by simpa using k
 match L,h with
 | [p,q],_=>exact⟨p.1,q.1,rfl⟩
 | [],h=>simp at h; omega
 | [_],h=>simp at h; omega
 | _ :: _ :: _ :: _,h=>simp at h; omega
theorem is_three {t:SlV} {L:List Tx} (h:t.n=L.length) (k:((t.n:Int) != (3:Int))=false):∃ p q r,L=[(p,()),(q,()),(r,())]:=by
 have e:(t.n:Int)=3:=by simpa using k
 match L,h with
 | [p,q,r],_=>exact⟨p.1,q.1,r.1,rfl⟩
 | [],h=>simp at h; omega
 | [_],h=>simp at h; omega
 | [_,_],h=>simp at h; omega
 | _ :: _ :: _ :: _ :: _,h=>simp at h; omega
theorem LR.atK {V:Know} {t:SlV} {l:List Tx} {f:List Nat} (h:LR rString V t l f) {i:Nat} {x:Tx} (e:l[i]?=some x):∃ b o,t.a=some ⟨b,o,none⟩∧loadV V ((⟨b,o,none⟩:Addr).add (i*1)) 1=some [.string x.1]:=by
 obtain⟨hi,rfl⟩:=List.getElem?_eq_some_iff.1 e
 obtain⟨⟨b,o,a1,l1⟩,_⟩:=h.txt hi
 exact⟨b,o,a1,l1⟩
theorem cI_TextMoney {V:Know} (hV:HtI V) (s:ByteArray) (hs:s.size≤1048576):CallX Tryz.prog V 95 [.string s] (MoRd V s):=by
 refine CallX.of_fits Tryz.mix (fI_TextMoney _) fun _=>?_
 simp only [tI_TextMoney,T.wp]
 refine(cI_Cut V s hs).mono ?_
 rintro V1 _ ⟨le1,t,f,rfl,L1,O1⟩
 have hn:=L1.1
 refine⟨nofun,t,rfl,fun h2=>mo_no le1 fun c m l a b=>?_,fun h2=>?_⟩
 ·refine n_two hn h2 ?_
  rw [← b,money_cut a]; rfl
 ·obtain⟨p,q,e⟩:=is_two hn h2
  rw [e] at L1 hn
  have hz:=cut_two e
  obtain⟨b,o,ha,ld1⟩:=L1.atK (i:=1) (x:=(q,())) rfl
  obtain⟨b',o',ha',ld0⟩:=L1.atK (i:=0) (x:=(p,())) rfl
  rw [ha] at ha'
  cases ha'
  rw [ha]
  have hn2:(t.n:Int)=2:=by rw [hn]; rfl
  refine⟨_,rfl,by decide,by omega,q,ld1,(cI_TextDec (hV.le le1) q (by omega)).mono ?_⟩
  rintro V2 _ ⟨le2,n,t2,sc,o2,f2,ok,rfl,L2,O2,k1,k2,k3,k4⟩
  have leA:=le1.trans le2
  have get:∀ c m l,MoneyOkP c m l→moneyT c m l=s→ok=true∧p=c∧n=m∧o2=l:=fun c m l a b=>by
   have:=money_cut a
   rw [b,e] at this
   simp only [List.cons.injEq,Prod.mk.injEq,and_true] at this
   obtain⟨rfl,e2⟩:=this
   obtain⟨j1,j2,j3,_⟩:=k4 m l _ (mon_dec a) e2.symm
   exact⟨j1,rfl,j2,j3⟩
  have ld0':loadV V2 ((⟨b,o,none⟩:Addr).add (Int.toNat 0*1)) 1=some [.string p]:=loadV_mono le2 ld0
  refine⟨nofun,((n,t2,sc,()),ok,()),rfl,_,rfl,by decide,by omega,p,ld0',fun hf=>mo_no leA fun c m l a b=>?_,fun ht=>?_⟩
  ·have:=(get c m l a b).1
   have hf':ok=false:=by simpa using hf
   rw [hf'] at this; cases this
  ·have hok:ok=true:=by simpa using ht
   subst hok
   refine(cI_MoneyText (hV.le leA) p n t2 o2 f2 L2 (by omega)).mono ?_
   rintro V3 _ ⟨le3,rfl⟩
   have leB:=leA.trans le3
   refine⟨nofun,_,rfl,fun hne=>mo_no leB fun c m l a b=>?_,fun heq=>⟨fun he=>mo_no leB fun c m l a b=>?_,fun _=>⟨leB,p,n,t2,o2,f2,true,rfl,L2.le le3,(O2.post le3).pre le1,⟨by omega,fun _=>okT_get (text_eq.1 (by simpa using heq)) (by omega)⟩,get⟩⟩⟩
   ·obtain⟨_,rfl,rfl,rfl⟩:=get c m l a b
    rw [okT_pos a,b] at hne
    have:(s.toList == s.toList)=true:=text_eq.2 rfl
    rw [this] at hne; cases hne
   ·have hz0:s.size=0:=empty_iff.1 he
    omega
theorem cS_l09Make (V:Know) (c0:ByteArray) (c1:Bool) (c2:SlV) (l:List Lim) (f:List Nat) (h:LR rI V c2 l f) :
  CallX Tryz.prog V 49 [.string c0,qv1 (c1,c2,())] (fun V' r=>V.le V'∧((MoneyOkP c0 c1 l∧r=.tuple #[qv2 (c0,c1,c2,()),.bool true])∨(¬ MoneyOkP c0 c1 l∧r=.tuple #[qv2 (⟨#[]⟩,false,⟨none,0,0⟩,()),.bool false]))):=by
 refine CallX.of_fits Tryz.mix (fS_l09Make _ _) fun _=>?_
 simp only [tS_l09Make,T.wp]
 refine(cS_MoneyOk c0 c1 c2 l f h).mono ?_
 rintro V1 r ⟨le1,e,rfl,he⟩
 refine⟨nofun,e,rfl,fun hf=>⟨le1,.inr ⟨fun k=>?_,rfl⟩⟩,fun ht=>⟨le1,.inl ⟨he.1 (by simpa using ht),rfl⟩⟩⟩
 rw [he.2 k] at hf; cases hf
theorem cS_TextMoney (V:Know) (s:ByteArray) (hs:s.size≤1048576):CallX Tryz.prog V 15 [.string s] (MoRd V s):=by
 refine CallX.of_fits Tryz.mix (fS_TextMoney _) fun _=>?_
 simp only [tS_TextMoney,T.wp]
 refine(cS_Cut V s hs).mono ?_
 rintro V1 _ ⟨le1,t,f,rfl,L1,O1⟩
 have hn:=L1.1
 refine⟨nofun,t,rfl,fun h2=>mo_no le1 fun c m l a b=>?_,fun h2=>?_⟩
 ·refine n_two hn h2 ?_
  rw [← b,money_cut a]; rfl
 ·obtain⟨p,q,e⟩:=is_two hn h2
  rw [e] at L1 hn
  have hz:=cut_two e
  obtain⟨b,o,ha,ld1⟩:=L1.atK (i:=1) (x:=(q,())) rfl
  obtain⟨b',o',ha',ld0⟩:=L1.atK (i:=0) (x:=(p,())) rfl
  rw [ha] at ha'
  cases ha'
  rw [ha]
  have hn2:(t.n:Int)=2:=by rw [hn]; rfl
  refine⟨_,rfl,by decide,by omega,q,ld1,(cS_TextDec V1 q (by omega)).mono ?_⟩
  rintro V2 _ ⟨le2,n,t2,sc,o2,f2,ok,rfl,L2,O2,k1,k2,k3,k4⟩
  have leA:=le1.trans le2
  have get:∀ c m l,MoneyOkP c m l→moneyT c m l=s→ok=true∧p=c∧n=m∧o2=l:=fun c m l a b=>by
   have:=money_cut a
   rw [b,e] at this
   simp only [List.cons.injEq,Prod.mk.injEq,and_true] at this
   obtain⟨rfl,e2⟩:=this
   obtain⟨j1,j2,j3,_⟩:=k4 m l _ (mon_dec a) e2.symm
   exact⟨j1,rfl,j2,j3⟩
  have ld0':loadV V2 ((⟨b,o,none⟩:Addr).add (Int.toNat 0*1)) 1=some [.string p]:=loadV_mono le2 ld0
  refine⟨nofun,((n,t2,sc,()),ok,()),rfl,_,rfl,by decide,by omega,p,ld0',(cS_l09Make V2 p n t2 o2 f2 L2).mono ?_⟩
  rintro V3 _ ⟨le3,⟨hm,rfl⟩ | ⟨hm,rfl⟩⟩
  ·have leB:=leA.trans le3
   refine⟨nofun,((p,n,t2,()),true,()),rfl,fun hf=>mo_no leB fun c m l a b=>?_,fun ht=>⟨nofun,fun _=>?_⟩⟩
   ·have:=(get c m l a b).1
    have hf':ok=false:=by simpa using hf
    rw [hf'] at this; cases this
   ·have hok:ok=true:=by simpa using ht
    subst hok
    refine(cS_MoneyText trivial p n t2 o2 f2 (L2.le le3) (by omega)).mono ?_
    rintro V4 _ ⟨le4,rfl⟩
    have leC:=leB.trans le4
    refine⟨nofun,_,rfl,fun hne=>mo_no leC fun c m l a b=>?_,fun heq=>⟨leC,p,n,t2,o2,f2,true,rfl,(L2.le le3).le le4,(O2.post (le3.trans le4)).pre le1,⟨by omega,fun _=>okT_get (text_eq.1 (by simpa using heq)) (by omega)⟩,get⟩⟩
    obtain⟨_,rfl,rfl,rfl⟩:=get c m l a b
    rw [okT_pos a,b] at hne
    have:(s.toList == s.toList)=true:=text_eq.2 rfl
    rw [this] at hne; cases hne
  ·have leB:=leA.trans le3
   have no:∀ c m l,MoneyOkP c m l→moneyT c m l=s→False:=fun c m l a b=>by
    obtain⟨_,rfl,rfl,rfl⟩:=get c m l a b
    exact hm a
   exact⟨nofun,((⟨#[]⟩,false,⟨none,0,0⟩,()),false,()),rfl,fun _=>mo_no leB no,fun _=>⟨fun _=>mo_no leB no,nofun⟩⟩
theorem rate_of {s p q r:ByteArray} {n:Bool} {o:List Lim} {sc:Int} (e:cutB 32 s=[(p,()),(q,()),(r,())]) (h:decT n o sc=r):rateT (p,q,n,o,sc,())=s:=bl_inj (by rw [rateT_bl,cutB_join 32 s,e,← h]; rfl)
def RtRes (s:ByteArray) (x:DRate) (ok:Bool):Prop:=(x.1.size+x.2.1.size+x.2.2.2.1.length≤s.size∧(ok=true→RateOkP x∧rateT x=s))∧∀ y:DRate,RateOkP y→rateT y=s→ok=true∧x=y
abbrev RtRd (V:Know) (s:ByteArray):Know→Value→Prop:=fun V' r=>V.le V'∧∃ (x:DRate) (t:SlV) (f:List Nat) (ok:Bool),r=.tuple #[qv4 (x.1,x.2.1,x.2.2.1,t,x.2.2.2.2.1,()),.bool ok]∧LR rI V' t x.2.2.2.1 f∧Own V V' f∧RtRes s x ok
theorem rt_no {V V':Know} {s:ByteArray} (le:V.le V') (h:∀ y:DRate,RateOkP y→rateT y=s→False):RtRd V s V' (packed [qv4 (⟨#[]⟩,⟨#[]⟩,false,⟨none,0,0⟩,(0:Int),()),.bool false]) :=
 ⟨le,(⟨#[]⟩,⟨#[]⟩,false,[],0,()),⟨none,0,0⟩,[],false,rfl,lr_none,Own.nil,⟨Nat.zero_le _,nofun⟩,fun y a b=>(h y a b).elim⟩
theorem n_three {t:SlV} {L:List Tx} (h:t.n=L.length):((t.n:Int) != (3:Int))=true→L.length≠3:=fun k e=>by
 have:(t.n:Int)≠3:=by simpa using k
 omega
theorem cI_TextRate {V:Know} (hV:HtI V) (s:ByteArray) (hs:s.size≤1048576):CallX Tryz.prog V 98 [.string s] (RtRd V s):=by
 refine CallX.of_fits Tryz.mix (fI_TextRate _) fun _=>?_
 simp only [tI_TextRate,T.wp]
 refine(cI_Cut V s hs).mono ?_
 rintro V1 _ ⟨le1,t,f,rfl,L1,O1⟩
 have hn:=L1.1
 refine⟨nofun,t,rfl,fun h2=>rt_no le1 fun y a b=>?_,fun h2=>?_⟩
 ·refine n_three hn h2 ?_
  rw [← b,rate_cut a]; rfl
 ·obtain⟨p,q,r,e⟩:=is_three hn h2
  rw [e] at L1 hn
  have hz:=cut_three e
  obtain⟨b,o,ha,ld2⟩:=L1.atK (i:=2) (x:=(r,())) rfl
  obtain⟨b',o',ha',ld0⟩:=L1.atK (i:=0) (x:=(p,())) rfl
  rw [ha] at ha'
  cases ha'
  obtain⟨b',o',ha',ld1⟩:=L1.atK (i:=1) (x:=(q,())) rfl
  rw [ha] at ha'
  cases ha'
  rw [ha]
  have hn2:(t.n:Int)=3:=by rw [hn]; rfl
  refine⟨_,rfl,by decide,by omega,r,ld2,(cI_TextDec (hV.le le1) r (by omega)).mono ?_⟩
  rintro V2 _ ⟨le2,n,t2,sc,o2,f2,ok,rfl,L2,O2,k1,k2,k3,k4⟩
  have leA:=le1.trans le2
  have get:∀ y:DRate,RateOkP y→rateT y=s→ok=true∧((p,q,n,o2,sc,()):DRate)=y:=fun y a b=>by
   have:=rate_cut a
   rw [b,e] at this
   simp only [List.cons.injEq,Prod.mk.injEq,and_true] at this
   obtain⟨e0,e1,e2⟩:=this
   obtain⟨j1,j2,j3,j4⟩:=k4 _ _ _ a.2.2.2.1 e2.symm
   obtain⟨y0,y1,y2,y3,y4,yu⟩:=y
   subst e0 e1 j2 j3 j4
   exact⟨j1,rfl⟩
  have ld0':loadV V2 ((⟨b,o,none⟩:Addr).add (Int.toNat 0*1)) 1=some [.string p]:=loadV_mono le2 ld0
  have ld1':loadV V2 ((⟨b,o,none⟩:Addr).add (Int.toNat 1*1)) 1=some [.string q]:=loadV_mono le2 ld1
  refine⟨nofun,((n,t2,sc,()),ok,()),rfl,_,rfl,by decide,by omega,p,ld0',_,rfl,by decide,by omega,q,ld1',fun hf=>rt_no leA fun y a b=>?_,fun ht=>?_⟩
  ·have:=(get y a b).1
   have hf':ok=false:=by simpa using hf
   rw [hf'] at this; cases this
  ·have hok:ok=true:=by simpa using ht
   subst hok
   refine(cI_RateOk (hV.le leA).c ((p,q,n,o2,sc,()):DRate) t2 f2 L2).mono ?_
   rintro V3 _ ⟨le3,e3,rfl,he3⟩
   have leB:=leA.trans le3
   refine⟨nofun,_,rfl,fun hne=>rt_no leB fun y a b=>?_,fun hok=>⟨leB,(p,q,n,o2,sc,()),t2,f2,true,rfl,L2.le le3,(O2.post le3).pre le1,⟨by show p.size+q.size+o2.length≤_; omega,fun _=>⟨he3.1 (by simpa using hok),rate_of e (k1.2 rfl).2⟩⟩,get⟩⟩
   obtain⟨_,rfl⟩:=get y a b
   rw [he3.2 a] at hne; cases hne
theorem cS_TextRate (V:Know) (s:ByteArray) (hs:s.size≤1048576):CallX Tryz.prog V 13 [.string s] (RtRd V s):=by
 refine CallX.of_fits Tryz.mix (fS_TextRate _) fun _=>?_
 simp only [tS_TextRate,T.wp]
 refine(cS_Cut V s hs).mono ?_
 rintro V1 _ ⟨le1,t,f,rfl,L1,O1⟩
 have hn:=L1.1
 refine⟨nofun,t,rfl,fun h2=>rt_no le1 fun y a b=>?_,fun h2=>?_⟩
 ·refine n_three hn h2 ?_
  rw [← b,rate_cut a]; rfl
 ·obtain⟨p,q,r,e⟩:=is_three hn h2
  rw [e] at L1 hn
  have hz:=cut_three e
  obtain⟨b,o,ha,ld2⟩:=L1.atK (i:=2) (x:=(r,())) rfl
  obtain⟨b',o',ha',ld0⟩:=L1.atK (i:=0) (x:=(p,())) rfl
  rw [ha] at ha'
  cases ha'
  obtain⟨b',o',ha',ld1⟩:=L1.atK (i:=1) (x:=(q,())) rfl
  rw [ha] at ha'
  cases ha'
  rw [ha]
  have hn2:(t.n:Int)=3:=by rw [hn]; rfl
  refine⟨_,rfl,by decide,by omega,r,ld2,(cS_TextDec V1 r (by omega)).mono ?_⟩
  rintro V2 _ ⟨le2,n,t2,sc,o2,f2,ok,rfl,L2,O2,k1,k2,k3,k4⟩
  have leA:=le1.trans le2
  have get:∀ y:DRate,RateOkP y→rateT y=s→ok=true∧((p,q,n,o2,sc,()):DRate)=y:=fun y a b=>by
   have:=rate_cut a
   rw [b,e] at this
   simp only [List.cons.injEq,Prod.mk.injEq,and_true] at this
   obtain⟨e0,e1,e2⟩:=this
   obtain⟨j1,j2,j3,j4⟩:=k4 _ _ _ a.2.2.2.1 e2.symm
   obtain⟨y0,y1,y2,y3,y4,yu⟩:=y
   subst e0 e1 j2 j3 j4
   exact⟨j1,rfl⟩
  have ld0':loadV V2 ((⟨b,o,none⟩:Addr).add (Int.toNat 0*1)) 1=some [.string p]:=loadV_mono le2 ld0
  have ld1':loadV V2 ((⟨b,o,none⟩:Addr).add (Int.toNat 1*1)) 1=some [.string q]:=loadV_mono le2 ld1
  refine⟨nofun,((n,t2,sc,()),ok,()),rfl,_,rfl,by decide,by omega,p,ld0',_,rfl,by decide,by omega,q,ld1',fun hf=>rt_no leA fun y a b=>?_,fun ht=>?_⟩
  ·have:=(get y a b).1
   have hf':ok=false:=by simpa using hf
   rw [hf'] at this; cases this
  ·have hok:ok=true:=by simpa using ht
   subst hok
   refine(cS_RateOk trivial ((p,q,n,o2,sc,()):DRate) t2 f2 L2).mono ?_
   rintro V3 _ ⟨le3,e3,rfl,he3⟩
   have leB:=leA.trans le3
   refine⟨nofun,_,rfl,fun hne=>rt_no leB fun y a b=>?_,fun _=>?_⟩
   ·obtain⟨_,rfl⟩:=get y a b
    rw [he3.2 a] at hne; cases hne
   refine(cS_RateText trivial ((p,q,n,o2,sc,()):DRate) t2 f2 (L2.le le3)).mono ?_
   rintro V4 _ ⟨le4,rfl⟩
   have leC:=leB.trans le4
   refine⟨nofun,_,rfl,fun hne=>rt_no leC fun y a b=>?_,fun heq=>⟨leC,(p,q,n,o2,sc,()),t2,f2,true,rfl,(L2.le le3).le le4,(O2.post (le3.trans le4)).pre le1,⟨by show p.size+q.size+o2.length≤_; omega,fun _=>okT_get (text_eq.1 (by simpa using heq)) (by omega)⟩,get⟩⟩
   obtain⟨_,rfl⟩:=get y a b
   rw [okT_pos a,b] at hne
   have:(s.toList == s.toList)=true:=text_eq.2 rfl
   rw [this] at hne; cases hne
end Go.Proofs.YtpkmhkbkohppiaaGreatDoor
namespace Go.Proofs.YtpkmhkbkohppiaaGreatDoor
open Sx
set_option maxRecDepth 100000
theorem cutA_cat (c:UInt8):∀ (p a b:List UInt8),cutA c p (a++c :: b)=cutA c p a++cutA c [] b
 | p,[],b=>by simp [cutA]
 | p,x :: a,b=>by
  rw [List.cons_append,cutA,cutA]
  split
  ·rw [cutA_cat c [] a b]; rfl
  ·exact cutA_cat c _ a b
theorem cutA_join (c:UInt8):∀ (L:List (List UInt8)),L≠[]→cutA c [] (joinC c L)=L.flatMap (cutA c [])
 | [],h=>absurd rfl h
 | [x],_=>by simp [joinC]
 | x :: y :: r,_=>by
  rw [joinC_cons (by simp),cutA_cat,cutA_join c (y :: r) (by simp)]; rfl
theorem jn_joinC (c:UInt8):∀ (L:List (List UInt8)),Go.Lib.join L [c]=joinC c L
 | []=>rfl
 | [a]=>by rw [Go.Lib.join_one]; rfl
 | a :: b :: r=>by
  rw [joinC_cons (by simp),← jn_joinC c (b :: r),Go.Lib.join_cons,Go.Lib.join_cons]
  simp [Go.Lib.joinTail]
theorem joinT_bl1 (c:UInt8) (l:List Tx):bl (joinT l ⟨⟨[c]⟩⟩)=joinC c (l.map fun x=>bl x.1):=by
 rw [← jn_joinC]
 show bl (⟨(Go.Lib.join (bytesL l) [c]).toArray⟩:ByteArray)=_
 exact bl_of _
theorem cut_joinT (c:UInt8) {l:List Tx} (h:l≠[]):cutB c (joinT l ⟨⟨[c]⟩⟩)=l.flatMap fun t=>cutB c t.1:=by
 unfold cutB
 rw [joinT_bl1,cutA_join c _ (by simpa using h),List.flatMap_map,List.map_flatMap]
theorem joinT_cut1 (c:UInt8) (s:ByteArray):joinT (cutB c s) ⟨⟨[c]⟩⟩=s:=bl_inj (by rw [joinT_bl1,← cutB_join])
theorem cut_inj {c:UInt8} {s t:ByteArray} (h:cutB c s=cutB c t):s=t:=bl_inj (by rw [cutB_join c s,h,← cutB_join])
theorem cutB_no {c:UInt8} {s:ByteArray} {x:Tx} (h:x∈cutB c s):c ∉ bl x.1:=by
 obtain⟨l,hl,rfl⟩:=List.mem_map.1 h
 show c ∉ bl (ofL l)
 rw [bl_of]
 exact cutA_mem (by simp) l hl
theorem cut_words {c:UInt8} {l:List Tx} (h0:l≠[]) (h:∀ x∈l,c ∉ bl x.1):cutB c (joinT l ⟨⟨[c]⟩⟩)=l:=cutB_eq (joinT_bl1 c l) h0 h
theorem joinC_mem {c x:UInt8}:∀ {L:List (List UInt8)},x∈joinC c L→x=c∨∃ l∈L,x∈l
 | [],h=>by cases h
 | [a],h=>.inr ⟨a,by simp,h⟩
 | a :: b :: r,h=>by
  rw [joinC_cons (by simp)] at h
  rcases List.mem_append.1 h with h | h
  ·exact .inr ⟨a,by simp,h⟩
  ·rcases List.mem_cons.1 h with h | h
   ·exact .inl h
   ·rcases joinC_mem h with h | ⟨l,hl,hx⟩
    ·exact .inl h
    ·exact .inr ⟨l,by simp [hl],hx⟩
abbrev zeroCm (op:Int):DCmd:=(op,noT,noT,noT,noT,noT,false,[],0,[],[],false,[],0,noT,noT,false,[],0,())
def Agr:DCmd→DCmd→Int→Prop
 | (_,a,b,c,u,mc,mn,mm,mo,nm,w,rn,rm,rs,pf,pt,pn,pm,ps,_),(_,a',b',c',u',mc',mn',mm',mo',nm',w',rn',rm',rs',pf',pt',pn',pm',ps',_),f =>
  if f=0 then a=a' else if f=1 then b=b' else if f=2 then c=c' else if f=3 then u=u' else if f=4 then (mc=mc'∧mn=mn'∧mm=mm') else if f=5 then (nm=nm'∧w=w') else
  if f=6 then (rn=rn'∧rm=rm'∧rs=rs') else if f=7 then mo=mo' else (pf=pf'∧pt=pt'∧pn=pn'∧pm=pm'∧ps=ps')
theorem agr_rf {x:DCmd} {f:Int}:Agr x x f:=by
 obtain⟨op,a,b,c,u,mc,mn,mm,mo,nm,w,rn,rm,rs,pf,pt,pn,pm,ps,y⟩:=x
 unfold Agr
 simp only [and_self,ite_self]
theorem agr_all {x y:DCmd} (h0:x.1=y.1) (h:∀ j:Nat,j<9→Agr x y j):x=y:=by
 obtain⟨op,a,b,c,u,mc,mn,mm,mo,nm,w,rn,rm,rs,pf,pt,pn,pm,ps,z⟩:=x
 obtain⟨op',a',b',c',u',mc',mn',mm',mo',nm',w',rn',rm',rs',pf',pt',pn',pm',ps',z'⟩:=y
 have k0:a=a':=h 0 (by omega)
 have k1:b=b':=h 1 (by omega)
 have k2:c=c':=h 2 (by omega)
 have k3:u=u':=h 3 (by omega)
 have k4:mc=mc'∧mn=mn'∧mm=mm':=h 4 (by omega)
 have k5:nm=nm'∧w=w':=h 5 (by omega)
 have k6:rn=rn'∧rm=rm'∧rs=rs':=h 6 (by omega)
 have k7:mo=mo':=h 7 (by omega)
 have k8:pf=pf'∧pt=pt'∧pn=pn'∧pm=pm'∧ps=ps':=h 8 (by omega)
 replace h0:op=op':=h0
 obtain⟨rfl,rfl,rfl⟩:=k4
 obtain⟨rfl,rfl⟩:=k5
 obtain⟨rfl,rfl,rfl⟩:=k6
 obtain⟨rfl,rfl,rfl,rfl,rfl⟩:=k8
 subst h0 k0 k1 k2 k3 k7
 rfl
theorem agr_use {x y:DCmd} {f:Int} (h:Agr x y f):(FOk x f↔FOk y f)∧fieldT x f=fieldT y f:=by
 obtain⟨op,a,b,c,u,mc,mn,mm,mo,nm,w,rn,rm,rs,pf,pt,pn,pm,ps,z⟩:=x
 obtain⟨op',a',b',c',u',mc',mn',mm',mo',nm',w',rn',rm',rs',pf',pt',pn',pm',ps',z'⟩:=y
 unfold Agr at h
 unfold FOk fieldT
 simp only at h ⊢
 split at h
 ·subst_vars; exact⟨Iff.rfl,rfl⟩
 split at h
 ·subst_vars; exact⟨Iff.rfl,rfl⟩
 split at h
 ·subst_vars; exact⟨Iff.rfl,rfl⟩
 split at h
 ·subst_vars; exact⟨Iff.rfl,rfl⟩
 split at h
 ·obtain⟨rfl,rfl,rfl⟩:=h; subst_vars; exact⟨Iff.rfl,rfl⟩
 split at h
 ·obtain⟨rfl,rfl⟩:=h; subst_vars; exact⟨Iff.rfl,rfl⟩
 split at h
 ·obtain⟨rfl,rfl,rfl⟩:=h; subst_vars; exact⟨Iff.rfl,rfl⟩
 split at h
 ·subst_vars; exact⟨Iff.rfl,rfl⟩
 ·obtain⟨rfl,rfl,rfl,rfl,rfl⟩:=h
  rename_i n0 n1 n2 n3 n4 n5 n6 n7
  constructor
  ·simp only [if_neg n0,if_neg n1,if_neg n2,if_neg n3,if_neg n4,if_neg n5,if_neg n6,if_neg n7]
  ·simp only [if_neg n0,if_neg n1,if_neg n2,if_neg n3,if_neg n4,if_neg n5,if_neg n6,if_neg n7]
theorem agr_tr {x y z:DCmd} {f:Int} (h:Agr x z f) (k:Agr y z f):Agr x y f:=by
 obtain⟨op,a,b,c,u,mc,mn,mm,mo,nm,w,rn,rm,rs,pf,pt,pn,pm,ps,_⟩:=x
 obtain⟨op',a',b',c',u',mc',mn',mm',mo',nm',w',rn',rm',rs',pf',pt',pn',pm',ps',_⟩:=y
 obtain⟨op'',a'',b'',c'',u'',mc'',mn'',mm'',mo'',nm'',w'',rn'',rm'',rs'',pf'',pt'',pn'',pm'',ps'',_⟩:=z
 unfold Agr at h k ⊢
 simp only at h k ⊢
 repeat' split
 all_goals simp_all
theorem zero_agr {x:DCmd} {op:Int} {f:Int}:FZero x f↔Agr x (zeroCm op) f:=by
 obtain⟨o,a,b,c,u,mc,mn,mm,mo,nm,w,rn,rm,rs,pf,pt,pn,pm,ps,z⟩:=x
 unfold FZero Agr ZeroD
 simp only
 repeat' split
 all_goals first | exact Iff.rfl | (constructor <;> (intro h; simp_all))
theorem cmd_eq {x y:DCmd} (h0:x.1=y.1) (hy:CmdP y) (hz:∀ j:Nat,j<9→((j:Int),()) ∉ fieldsL x.1→Agr x (zeroCm x.1) j) (hf:∀ g∈fieldsL x.1,Agr x y g.1):x=y:=by
 refine agr_all h0 fun j hj=>?_
 by_cases k:((j:Int),())∈fieldsL x.1
 ·exact hf _ k
 ·have h1:=zero_agr.2 (hz j hj k)
  have h2:=(hy.2 j hj).2 (by rw [← h0]; exact k)
  exact agr_tr (zero_agr (op:=x.1).1 h1) (zero_agr (op:=x.1).1 h2)
def nw (f:Int):Nat:=if f=8 then 3 else if f=4 then 2 else 1
theorem cmd_words (x:DCmd):cutB 32 (cmdT x)=cutB 32 (opT x.1)++(fieldsL x.1).flatMap fun g=>cutB 32 (fieldT x g.1):=by
 unfold cmdT
 rw [cut_joinT 32 (by simp [wordsL])]
 unfold wordsL
 rw [List.flatMap_cons,List.flatMap_map]
end Go.Proofs.YtpkmhkbkohppiaaGreatDoor
namespace Go.Proofs.YtpkmhkbkohppiaaGreatDoor
open Sx Go.RowKit
set_option maxRecDepth 100000
theorem dv_take_le (l:List UInt8) (i:Nat):dv (l.take i)≤dv l:=by
 have h:=dv_append (l.take i) (l.drop i)
 rw [List.take_append_drop] at h
 have h1:1≤10 ^ (l.drop i).length:=Nat.one_le_pow _ _ (by omega)
 have h2:dv (l.take i)*1≤dv (l.take i)*10 ^ (l.drop i).length:=Nat.mul_le_mul_left _ h1
 omega
abbrev IntGot (V:Know) (s:ByteArray):Know→Value→Prop:=fun V' r=>V.le V'∧∃ (n:Int) (ok:Bool),r=.tuple #[.int .i64 n,.bool ok]∧(-9223372036854775808≤n∧n≤9223372036854775807)∧∀ m:Int,0≤m→m≤1000000000→numT m=s→n=m
def itD (t:ByteArray) (i:Int):Int:=IntKind.i64.wrap (IntKind.i64.wrap (at0 t (Int.toNat i))-(48:Int))
noncomputable def itLoop (t:ByteArray) (fin:Int→T):T :=
 .lp [.o (.o (.i .i64)),.o (.o (.i .i64))] [.v (.int .i64 ((0:Int))),.v (.int .i64 ((0:Int)))] fun y2 =>
 .br (decide (y2.2.fst<(t.size:Int))) (
  .rq ((0:Int)≤y2.2.fst∧y2.2.fst<(t.size:Int)) <|
  .rq ((10:Int)≠(0:Int)) <|
  .br (decide (y2.fst<IntKind.i64.wrap ((IntKind.i64.wrap ((-9223372036854775808:Int)+itD t y2.2.fst)).tdiv (10:Int)))) (
   .ret [.int .i64 ((0:Int)),.bool (false)]) <|
  .nx 0 [.v (.int .i64 (IntKind.i64.wrap (IntKind.i64.wrap (y2.fst*(10:Int))-itD t y2.2.fst))),.v (.int .i64 (IntKind.i64.wrap (y2.2.fst+(1:Int))))]) <|
 fin y2.fst
theorem numT_dg {m:Int} (h:0≤m):(∀ c∈bl (numT m),Dg c)∧0<(numT m).size∧(dv (bl (numT m)):Int)=m:=by
 obtain⟨h1,h2⟩:=numT_num _ m h rfl
 refine⟨h1.2.1,?_,by omega⟩
 rw [← bl_len]
 exact List.length_pos_iff.2 h1.1
theorem itD_eq {t:ByteArray} (hd:∀ c∈bl t,Dg c) {i:Nat} (h:i<(bl t).length):itD t (i:Int)=((bl t)[i].toNat:Int)-48∧48≤(bl t)[i].toNat∧(bl t)[i].toNat≤57:=by
 have hc:48≤(bl t)[i].toNat∧(bl t)[i].toNat≤57:=hd _ (List.getElem_mem h)
 refine⟨?_,hc⟩
 unfold itD
 rw [Int.toNat_natCast,at0_bl h,wrap_i64 (n:=(((bl t)[i].toNat:Nat):Int)) (by omega),wrap_i64 (by omega)]
theorem itLoop_wp {K:Know→List Value→Prop} {V V0:Know} {t:ByteArray} {fin:Int→T} (hd:∀ c∈bl t,Dg c) (ht:t.size≤9223372036854775807)
  (hbad:∀ V',V.le V'→(∀ m:Int,0≤m→m≤1000000000→numT m≠t)→K V' [.int .i64 0,.bool false])
  (hfin:∀ (n:Int) V' Ns,V.le V'→-9223372036854775808≤n→n≤0→(∀ m:Int,0≤m→m≤1000000000→numT m=t→n=-m)→(fin n).wp Tryz.prog K V' V' Ns) :
  (itLoop t fin).wp Tryz.prog K V V0 []:=by
 simp only [itLoop,T.wp]
 refine⟨fun y V'=>V.le V'∧∃ i:Nat,(y.2.1:Int)=i∧i≤t.size∧-9223372036854775808≤(y.1:Int)∧(y.1:Int)≤0∧((y.1:Int)=-(dv ((bl t).take i):Int)),fun y _=>((t.size:Int)-(y.2.1:Int)).toNat,⟨((0:Int),(0:Int),()),rfl,Know.le.refl _,0,rfl,by omega,by decide,by decide,rfl⟩,?_⟩
 rintro⟨(n:Int),(i':Int),u⟩ V' ⟨hle,i,hi',hi,h0,h1,hv⟩
 replace hi':i'=(i:Int):=hi'
 replace h0:-9223372036854775808≤n:=h0
 replace h1:n≤0:=h1
 replace hv:n=-(dv ((bl t).take i):Int):=hv
 subst hi'
 refine⟨fun hlt=>?_,fun hge=>?_⟩
 ·have hl:i<t.size:=by
   have:(i:Int)<(t.size:Int):=of_decide_eq_true hlt
   omega
  have hb:i<(bl t).length:=by rw [bl_len]; exact hl
  obtain⟨e1,d1,d2⟩:=itD_eq hd hb
  have es:=dv_snoc hb
  show _∧_
  rw [e1,wrap_i64 (n:=-9223372036854775808+_) (by omega)]
  have et:(-9223372036854775808+(((bl t)[i].toNat:Int)-48)).tdiv 10=-((9223372036854775808-(((bl t)[i].toNat:Int)-48)) / 10):=by
   rw [tdiv_low (by omega)]
   congr 2
   omega
  rw [et,wrap_i64 (n:=-(_ / 10)) (by omega)]
  refine⟨⟨(by omega:(0:Int)≤(i:Int)),(by omega:(i:Int)<(t.size:Int))⟩,by decide,fun hb'=>?_,fun hg=>?_⟩
  ·have hb2:n < -((9223372036854775808-(((bl t)[i].toNat:Int)-48)) / 10):=of_decide_eq_true hb'
   refine hbad _ hle fun m hm hm9 e=>?_
   obtain⟨_,_,q⟩:=numT_dg hm
   rw [e] at q
   have:=dv_take_le (bl t) i
   omega
  ·have hg2:¬ n < -((9223372036854775808-(((bl t)[i].toNat:Int)-48)) / 10):=of_decide_eq_false hg
   refine⟨_,rfl,((n*10-(((bl t)[i].toNat:Int)-48)),((i+1:Nat):Int),()),?_,⟨hle,i+1,rfl,hl,?_,?_,?_⟩,?_⟩
   ·rw [wrap_i64 (n:=n*10) (by omega),wrap_i64 (n:=n*10-_) (by omega),wrap_i64 (n:=(i:Int)+1) (by omega)]
    rfl
   ·show -9223372036854775808≤n*10-_
    omega
   ·show n*10-_≤0
    omega
   ·show n*10-_=-(dv ((bl t).take (i+1)):Int)
    rw [es]
    omega
   ·show((t.size:Int)-((i+1:Nat):Int)).toNat<((t.size:Int)-(i:Int)).toNat
    omega
 ·have hl:i=t.size:=by
   have:¬ (i:Int)<(t.size:Int):=of_decide_eq_false hge
   omega
  refine hfin n _ _ hle h0 h1 fun m hm hm9 e=>?_
  obtain⟨_,_,q⟩:=numT_dg hm
  rw [e] at q
  rw [hv,hl,← bl_len,List.take_length,q]
theorem itEnd_wp {V V0:Know} {t:ByteArray} {n:Int} {Ns} {W:Know} (le:V0.le V) (h0:-9223372036854775808≤n) (h1:n≤9223372036854775807) (hc:∀ m:Int,0≤m→m≤1000000000→numT m=t→n=m) :
  (T.call false 52 [.int .i64 n] (.v (.o (.s))) fun y3 =>
   .br (!(y3.toList == t.toList)) (
    .ret [.int .i64 ((0:Int)),.bool (false)]) <|
   .ret [.int .i64 n,.bool (true)]).wp Tryz.prog (fun V' vs=>IntGot V0 t V' (packed vs)) V W Ns:=by
 have hcall:CallX Tryz.prog V 52 [.int .i64 n] (fun V' r=>V.le V'∧∃ x:ByteArray,r=.string x∧(0≤n→x=numT n)):=by
  by_cases hn:n<0
  ·refine(cS_IntNeg V n hn h0).mono ?_
   rintro V1 r ⟨rfl,x,rfl,_⟩
   exact⟨Know.le.refl _,x,rfl,fun h=>by omega⟩
  ·refine(cS_IntText V n (by omega) h1).mono ?_
   rintro V1 r ⟨le1,rfl⟩
   exact⟨le1,_,rfl,fun _=>rfl⟩
 simp only [T.wp]
 refine hcall.mono ?_
 rintro V1 r ⟨le1,x,rfl,hx⟩
 refine⟨nofun,x,rfl,fun hne=>?_,fun _=>?_⟩
 ·refine⟨le.trans le1,0,false,rfl,⟨by decide,by decide⟩,fun m hm hm9 e=>?_⟩
  exfalso
  have q:=hc m hm hm9 e
  subst q
  rw [hx hm,e] at hne
  simp at hne
 ·exact⟨le.trans le1,n,true,rfl,⟨h0,h1⟩,hc⟩
theorem numT_short {m:Int} (h:0≤m) (h9:m≤1000000000):(numT m).size≤19:=by
 obtain⟨h1,h2⟩:=numT_num _ m h rfl
 rcases Nat.lt_or_ge 19 (numT m).size with hl | hl
 ·exfalso
  have hb:=bl_len (numT m)
  have g:=num_ge h1 (by omega)
  have p:(10:Nat) ^ 19≤10 ^ ((bl (numT m)).length-1):=Nat.pow_le_pow_right (by decide) (by omega)
  have:(10:Nat) ^ 19=10000000000000000000:=by decide
  omega
 ·exact hl
theorem cS_TextInt (V:Know) (s:ByteArray) (hs:s.size≤1048576):CallX Tryz.prog V 17 [.string s] (IntGot V s):=by
 refine CallX.of_fits Tryz.mix (fS_TextInt _) fun _=>?_
 have no:∀ {V':Know},V.le V'→(∀ m:Int,0≤m→m≤1000000000→numT m≠s)→IntGot V s V' (packed [.int .i64 0,.bool false]):=fun le h =>
  ⟨le,0,false,rfl,⟨by decide,by decide⟩,fun m hm hm9 e=>absurd e (h m hm hm9)⟩
 have e0:Int.toNat 0=0:=rfl
 rw [tS_TextInt]
 simp only [T.wp]
 refine⟨fun hp=>?_,fun hz=>?_⟩
 ·have hp':0<s.size:=by
   have:(s.size:Int) > 0:=of_decide_eq_true hp
   omega
  have hb:0<(bl s).length:=by rw [bl_len]; exact hp'
  refine⟨⟨by decide,by omega⟩,fun hs0=>⟨⟨by decide,by omega,by omega⟩,?_⟩,fun hs0=>?_⟩
  ·have h45:at0 s 0=45:=by simpa using hs0
   have hno:∀ m:Int,0≤m→m≤1000000000→numT m≠s:=fun m hm _ e=>by
    obtain⟨hd,_,_⟩:=numT_dg hm
    rw [e] at hd
    have:=hd _ (List.getElem_mem hb)
    rw [at0_bl hb] at h45
    have h48:48≤(bl s)[0].toNat:=this.1
    omega
   refine(cS_IsDigits V _ (by rw [ByteArray.size_extract]; omega)).mono ?_
   rintro V1 _ ⟨rfl,e,rfl,he⟩
   refine⟨nofun,e,rfl,fun _=>no (Know.le.refl _) hno,fun hd=>⟨fun _=>no (Know.le.refl _) hno,fun _=>?_⟩⟩
   have hd':e=true:=by simpa using hd
   obtain⟨hdg,_⟩:=he.1 hd'
   have key:=itLoop_wp (V:=V1) (V0:=V1) (K:=fun V' vs=>IntGot V1 s V' (packed vs)) (t:=s.extract (Int.toNat 1) (s.size:Int).toNat) (fin:=fun n =>
     .br (!(at0 s (Int.toNat (0:Int)) == (45:Int))) (
      .br (n == (-9223372036854775808:Int)) (
       .ret [.int .i64 ((0:Int)),.bool (false)]) <|
      .call false 52 [.int .i64 (IntKind.i64.wrap ((0:Int)-n))] (.v (.o (.s))) fun y3 =>
      .br (!(y3.toList == s.toList)) (
       .ret [.int .i64 ((0:Int)),.bool (false)]) <|
      .ret [.int .i64 (IntKind.i64.wrap ((0:Int)-n)),.bool (true)]) <|
     .call false 52 [.int .i64 (n)] (.v (.o (.s))) fun y3 =>
     .br (!(y3.toList == s.toList)) (
      .ret [.int .i64 ((0:Int)),.bool (false)]) <|
     .ret [.int .i64 (n),.bool (true)]) hdg (by rw [ByteArray.size_extract]; omega) (fun V' le _=>no le hno)
    (fun n V' Ns le h0 h1 _=>⟨fun hf=>by rw [e0,h45] at hf; simp at hf,fun _=>itEnd_wp le h0 (by omega) fun m hm hm9 e=>absurd e (hno m hm hm9)⟩)
   simp only [itLoop,itD,T.wp] at key
   exact key
  ·have h45:at0 s 0≠45:=by simpa using hs0
   refine(cS_IsDigits V s (by omega)).mono ?_
   rintro V1 _ ⟨rfl,e,rfl,he⟩
   refine⟨nofun,e,rfl,fun hd=>no (Know.le.refl _) fun m hm _ q=>?_,fun hd=>⟨fun hg=>no (Know.le.refl _) fun m hm hm9 q=>?_,fun _=>?_⟩⟩
   ·have he':e=false:=by simpa using hd
    obtain⟨k1,k2,_⟩:=numT_dg hm
    rw [q] at k1 k2
    have:=he.2 ⟨k1,k2⟩
    rw [he'] at this
    cases this
   ·have:=numT_short hm hm9
    rw [q] at this
    have:(s.size:Int) > 19:=of_decide_eq_true hg
    omega
   have hd':e=true:=by simpa using hd
   obtain⟨hdg,_⟩:=he.1 hd'
   have key:=itLoop_wp (V:=V1) (V0:=V1) (K:=fun V' vs=>IntGot V1 s V' (packed vs)) (t:=s) (fin:=fun n =>
     .br (!(at0 s (Int.toNat (0:Int)) == (45:Int))) (
      .br (n == (-9223372036854775808:Int)) (
       .ret [.int .i64 ((0:Int)),.bool (false)]) <|
      .call false 52 [.int .i64 (IntKind.i64.wrap ((0:Int)-n))] (.v (.o (.s))) fun y3 =>
      .br (!(y3.toList == s.toList)) (
       .ret [.int .i64 ((0:Int)),.bool (false)]) <|
      .ret [.int .i64 (IntKind.i64.wrap ((0:Int)-n)),.bool (true)]) <|
     .call false 52 [.int .i64 (n)] (.v (.o (.s))) fun y3 =>
     .br (!(y3.toList == s.toList)) (
      .ret [.int .i64 ((0:Int)),.bool (false)]) <|
     .ret [.int .i64 (n),.bool (true)]) hdg (by omega) (fun V' le h=>no le h)
    (fun n V' Ns le h0 h1 hc=>⟨fun _=>⟨fun hm=>no le fun m hm0 hm9 q=>?_,fun hm=>?_⟩,fun hf=>?_⟩)
   ·simp only [itLoop,itD,T.wp] at key
    exact key
   ·have:n=-9223372036854775808:=by simpa using hm
    have:=hc m hm0 hm9 q
    omega
   ·have hmn:n≠-9223372036854775808:=by simpa using hm
    rw [wrap_i64 (n:=0-n) (by omega)]
    exact itEnd_wp le (by omega) (by omega) fun m hm0 hm9 q=>by have:=hc m hm0 hm9 q; omega
   ·exfalso
    rw [e0] at hf
    exact h45 (by simpa using hf)
 ·have hz':s.size=0:=by
   have:¬ (s.size:Int) > 0:=of_decide_eq_false hz
   omega
  refine(cS_IsDigits V s (by omega)).mono ?_
  rintro V1 _ ⟨rfl,e,rfl,he⟩
  refine⟨nofun,e,rfl,fun hd=>no (Know.le.refl _) fun m hm _ q=>?_,fun hd=>?_⟩
  ·obtain⟨_,k2,_⟩:=numT_dg hm
   rw [q] at k2
   omega
  ·have hd':e=true:=by simpa using hd
   have:=(he.1 hd').2
   omega
end Go.Proofs.YtpkmhkbkohppiaaGreatDoor
