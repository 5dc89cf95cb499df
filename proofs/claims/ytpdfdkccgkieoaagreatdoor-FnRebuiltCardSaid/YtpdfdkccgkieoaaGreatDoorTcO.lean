/-
  Commands read from texts: operations and modes by their names; words taken one by one.
-/
import Derived.Test.YtpdfdkccgkieoaaGreatDoorDcS
import Derived.Test.YtpdfdkccgkieoaaGreatDoorTxt
import Derived.Test.YtpdfdkccgkieoaaGreatDoorCmdU
import Derived.Lib.SplitLaws
import Derived.Test.YtpdfdkccgkieoaaGreatDoorRxT
namespace Go.Proofs.YtpdfdkccgkieoaaGreatDoor
open Sx Go.RowKit
set_option maxRecDepth 100000
theorem known_space {c:ByteArray} (h:known c=true):(32:UInt8) ∉ bl c∧(59:UInt8) ∉ bl c∧(10:UInt8) ∉ bl c:=by
 have key:∀ r∈curI,(32:UInt8) ∉ bl r.1∧(59:UInt8) ∉ bl r.1∧(10:UInt8) ∉ bl r.1:=by decide +kernel
 obtain⟨r,hr,e⟩:=List.mem_map.1 (known_mem h)
 rw [← e]
 exact key r hr
end Go.Proofs.YtpdfdkccgkieoaaGreatDoor
namespace Go.Proofs.YtpdfdkccgkieoaaGreatDoor
open Sx
set_option maxRecDepth 100000
theorem loadV_mono {V V':Know} {a:Addr} {k:Nat} {x:List Value} (h:V.le V') (hl:loadV V a k=some x):loadV V' a k=some x:=by
 unfold loadV at hl ⊢
 split at hl
 ·rename_i cs u h1 h2
  rw [h1,h _ _ h2]
  exact hl
 ·cases hl
theorem cI_Cut (V:Know) (s:ByteArray) (hs:s.size≤1048576):CallX Tryz.prog V 125 [.string s] (CutPost V 32 s):=by
 refine CallX.of_fits Tryz.mix (fI_Cut _) fun _=>?_
 simp only [tI_Cut,T.wp]
 refine(cI_CutAt V s 32 hs).mono ?_
 rintro V1 _ ⟨le1,t,f,rfl,L,O⟩
 exact⟨nofun,t,rfl,le1,t,f,rfl,L,O⟩
theorem decT_bytes {n:Bool} {l:List Lim} {q:Int} (a:DecOkP n l q):∀ c∈bl (decT n l q),c=45∨c=46∨Dg c:=by
 have hb:∀ c∈bl (decB l q),c=46∨Dg c:=fun c hc=>by
  have hd:=decP_dg (sc:=q) a.1.1.1 a.2.2.2
  rcases decB_parts a.1.1.1 a.2.1 a.2.2.1 a.2.2.2 with ⟨_,e⟩ | ⟨_,A,B,e,e2,_⟩
  ·rw [e] at hc; exact .inr (hd c hc)
  ·rw [e] at hc
   rw [e2] at hd
   rcases List.mem_append.1 hc with h | h
   ·exact .inr (hd c (by simp [h]))
   ·rcases List.mem_cons.1 h with h | h
    ·exact .inl h
    ·exact .inr (hd c (by simp [h]))
 intro c hc
 cases n with
 | false=>rw [decT_pos] at hc; exact .inr (hb c hc)
 | true =>
  rw [decT_neg] at hc
  rcases List.mem_cons.1 hc with h | h
  ·exact .inl h
  ·exact .inr (hb c h)
theorem decT_no {n:Bool} {l:List Lim} {q:Int} (a:DecOkP n l q) {x:UInt8} (h1:x≠45) (h2:x≠46) (h3:¬ Dg x):x ∉ bl (decT n l q):=fun hx=>by
 rcases decT_bytes a x hx with h | h | h
 ·exact h1 h
 ·exact h2 h
 ·exact h3 h
theorem mon_dec {c:ByteArray} {m:Bool} {l:List Lim} (h:MoneyOkP c m l):DecOkP m l (places c) :=
 ⟨h.2.1,by have:=h.2.2; omega,(places_bd c).1,by have:=(places_bd c).2; omega⟩
theorem moneyT_bl (c:ByteArray) (m:Bool) (l:List Lim):bl (moneyT c m l)=bl c++32 :: bl (decT m l (places c)):=by
 unfold moneyT
 rw [bl_append,bl_append]
 show(bl c++[32])++_=_
 simp
theorem money_cut {c:ByteArray} {m:Bool} {l:List Lim} (h:MoneyOkP c m l):cutB 32 (moneyT c m l)=[(c,()),(decT m l (places c),())]:=by
 refine cutB_eq (moneyT_bl c m l) (by simp) fun x hx=>?_
 rcases List.mem_cons.1 hx with rfl | hx
 ·exact(known_space h.1).1
 ·obtain rfl:x=(decT m l (places c),()):=by simpa using hx
  exact decT_no (mon_dec h) (by decide) (by decide) (by decide)
theorem rateT_bl (r:DRate):bl (rateT r)=bl r.1++32 :: (bl r.2.1++32 :: bl (decT r.2.2.1 r.2.2.2.1 r.2.2.2.2.1)):=by
 unfold rateT
 rw [bl_append,bl_append,bl_append,bl_append]
 show(((bl r.1++[32])++bl r.2.1)++[32])++_=_
 simp
theorem rate_cut {r:DRate} (h:RateOkP r):cutB 32 (rateT r)=[(r.1,()),(r.2.1,()),(decT r.2.2.1 r.2.2.2.1 r.2.2.2.2.1,())]:=by
 refine cutB_eq (rateT_bl r) (by simp) fun x hx=>?_
 rcases List.mem_cons.1 hx with rfl | hx
 ·exact(known_space h.1).1
 rcases List.mem_cons.1 hx with rfl | hx
 ·exact(known_space h.2.1).1
 ·obtain rfl:x=(decT r.2.2.1 r.2.2.2.1 r.2.2.2.2.1,()):=by simpa using hx
  exact decT_no h.2.2.2.1 (by decide) (by decide) (by decide)
theorem cut_two {c:UInt8} {s p q:ByteArray} (h:cutB c s=[(p,()),(q,())]):s.size=p.size+1+q.size:=by
 have:=cutB_join c s
 rw [h] at this
 have:=congrArg List.length this
 rw [bl_len] at this
 have e:(joinC c ([(p,()),(q,())].map fun x=>bl x.1)).length=(bl p++c :: bl q).length:=rfl
 rw [e,List.length_append,List.length_cons,bl_len,bl_len] at this
 omega
theorem cut_three {c:UInt8} {s p q r:ByteArray} (h:cutB c s=[(p,()),(q,()),(r,())]):s.size=p.size+1+q.size+1+r.size:=by
 have:=cutB_join c s
 rw [h] at this
 have:=congrArg List.length this
 rw [bl_len] at this
 have e:(joinC c ([(p,()),(q,()),(r,())].map fun x=>bl x.1)).length=(bl p++c :: (bl q++c :: bl r)).length:=rfl
 rw [e,List.length_append,List.length_cons,List.length_append,List.length_cons,bl_len,bl_len,bl_len] at this
 omega
def MoRes (s:ByteArray) (c:ByteArray) (n:Bool) (o:List Lim) (ok:Bool):Prop :=
 (c.size+o.length≤s.size∧(ok=true→MoneyOkP c n o∧moneyT c n o=s))∧∀ c' m l,MoneyOkP c' m l→moneyT c' m l=s→ok=true∧c=c'∧n=m∧o=l
abbrev MoRd (V:Know) (s:ByteArray):Know→Value→Prop:=fun V' r=>V.le V'∧∃ c n t o f ok,r=.tuple #[qv2 (c,n,t,()),.bool ok]∧LR rI V' t o f∧Own V V' f∧MoRes s c n o ok
theorem mo_no {V V':Know} {s:ByteArray} (le:V.le V') (h:∀ c m l,MoneyOkP c m l→moneyT c m l=s→False):MoRd V s V' (packed [qv2 (⟨#[]⟩,false,⟨none,0,0⟩,()),.bool false]) :=
 ⟨le,⟨#[]⟩,false,⟨none,0,0⟩,[],[],false,rfl,lr_none,Own.nil,⟨Nat.zero_le _,nofun⟩,fun c m l a b=>(h c m l a b).elim⟩
theorem n_two {t:SlV} {L:List Tx} (h:t.n=L.length):((t.n:Int) != (2:Int))=true→L.length≠2:=fun k e=>by
 have:(t.n:Int)≠2:=by simpa using k
 omega
theorem is_two {t:SlV} {L:List Tx} (h:t.n=L.length) (k:((t.n:Int) != (2:Int))=false):∃ p q,L=[(p,()),(q,())]:=by
 have e:(t.n:Int)=2:=by simpa using k
 match L,h with
 | [p,q],_=>exact⟨p.1,q.1,rfl⟩
 | [],h=>simp at h; omega
 | [_],h=>simp at h; omega
 | _ :: _ :: _ :: _,h=>simp at h; omega
theorem is_three {t:SlV} {L:List Tx} (h:t.n=L.length) (k:((t.n:Int) != (3:Int))=false):∃ p q r,L=[(p,()),(q,()),(r,())]:=by
 have e:(t.n:Int)=3:=by simpa using k
 match L,h with
 | [p,q,r],_=>exact⟨p.1,q.1,r.1,rfl⟩
 | [],h=>simp at h; omega
 | [_],h=>simp at h; omega
 | [_,_],h=>simp at h; omega
 | _ :: _ :: _ :: _ :: _,h=>simp at h; omega
theorem LR.atK {V:Know} {t:SlV} {l:List Tx} {f:List Nat} (h:LR rString V t l f) {i:Nat} {x:Tx} (e:l[i]?=some x):∃ b o,t.a=some ⟨b,o,none⟩∧loadV V ((⟨b,o,none⟩:Addr).add (i*1)) 1=some [.string x.1]:=by
 obtain⟨hi,rfl⟩:=List.getElem?_eq_some_iff.1 e
 obtain⟨⟨b,o,a1,l1⟩,_⟩:=h.txt hi
 exact⟨b,o,a1,l1⟩
theorem cI_TextMoney {V:Know} (hV:HtI V) (s:ByteArray) (hs:s.size≤1048576):CallX Tryz.prog V 205 [.string s] (MoRd V s):=by
 refine CallX.of_fits Tryz.mix (fI_TextMoney _) fun _=>?_
 simp only [tI_TextMoney,T.wp]
 refine(cI_Cut V s hs).mono ?_
 rintro V1 _ ⟨le1,t,f,rfl,L1,O1⟩
 have hn:=L1.1
 refine⟨nofun,t,rfl,fun h2=>mo_no le1 fun c m l a b=>?_,fun h2=>?_⟩
 ·refine n_two hn h2 ?_
  rw [← b,money_cut a]; rfl
 ·obtain⟨p,q,e⟩:=is_two hn h2
  rw [e] at L1 hn
  have hz:=cut_two e
  obtain⟨b,o,ha,ld1⟩:=L1.atK (i:=1) (x:=(q,())) rfl
  obtain⟨b',o',ha',ld0⟩:=L1.atK (i:=0) (x:=(p,())) rfl
  rw [ha] at ha'
  cases ha'
  rw [ha]
  have hn2:(t.n:Int)=2:=by rw [hn]; rfl
  refine⟨_,rfl,by decide,by omega,q,ld1,(cI_TextDec (hV.le le1) q (by omega)).mono ?_⟩
  rintro V2 _ ⟨le2,n,t2,sc,o2,f2,ok,rfl,L2,O2,k1,k2,k3,k4⟩
  have leA:=le1.trans le2
  have get:∀ c m l,MoneyOkP c m l→moneyT c m l=s→ok=true∧p=c∧n=m∧o2=l:=fun c m l a b=>by
   have:=money_cut a
   rw [b,e] at this
   simp only [List.cons.injEq,Prod.mk.injEq,and_true] at this
   obtain⟨rfl,e2⟩:=this
   obtain⟨j1,j2,j3,_⟩:=k4 m l _ (mon_dec a) e2.symm
   exact⟨j1,rfl,j2,j3⟩
  have ld0':loadV V2 ((⟨b,o,none⟩:Addr).add (Int.toNat 0*1)) 1=some [.string p]:=loadV_mono le2 ld0
  refine⟨nofun,((n,t2,sc,()),ok,()),rfl,_,rfl,by decide,by omega,p,ld0',fun hf=>mo_no leA fun c m l a b=>?_,fun ht=>?_⟩
  ·have:=(get c m l a b).1
   have hf':ok=false:=by simpa using hf
   rw [hf'] at this; cases this
  ·have hok:ok=true:=by simpa using ht
   subst hok
   refine(cI_MoneyText (hV.le leA) p n t2 o2 f2 L2 (by omega)).mono ?_
   rintro V3 _ ⟨le3,rfl⟩
   have leB:=leA.trans le3
   refine⟨nofun,_,rfl,fun hne=>mo_no leB fun c m l a b=>?_,fun heq=>⟨fun he=>mo_no leB fun c m l a b=>?_,fun _=>⟨leB,p,n,t2,o2,f2,true,rfl,L2.le le3,(O2.post le3).pre le1,⟨by omega,fun _=>okT_get (text_eq.1 (by simpa using heq)) (by omega)⟩,get⟩⟩⟩
   ·obtain⟨_,rfl,rfl,rfl⟩:=get c m l a b
    rw [okT_pos a,b] at hne
    have:(s.toList == s.toList)=true:=text_eq.2 rfl
    rw [this] at hne; cases hne
   ·have hz0:s.size=0:=empty_iff.1 he
    omega
theorem rate_of {s p q r:ByteArray} {n:Bool} {o:List Lim} {sc:Int} (e:cutB 32 s=[(p,()),(q,()),(r,())]) (h:decT n o sc=r):rateT (p,q,n,o,sc,())=s:=bl_inj (by rw [rateT_bl,cutB_join 32 s,e,← h]; rfl)
def RtRes (s:ByteArray) (x:DRate) (ok:Bool):Prop:=(x.1.size+x.2.1.size+x.2.2.2.1.length≤s.size∧(ok=true→RateOkP x∧rateT x=s))∧∀ y:DRate,RateOkP y→rateT y=s→ok=true∧x=y
abbrev RtRd (V:Know) (s:ByteArray):Know→Value→Prop:=fun V' r=>V.le V'∧∃ (x:DRate) (t:SlV) (f:List Nat) (ok:Bool),r=.tuple #[qv6 (x.1,x.2.1,x.2.2.1,t,x.2.2.2.2.1,()),.bool ok]∧LR rI V' t x.2.2.2.1 f∧Own V V' f∧RtRes s x ok
theorem rt_no {V V':Know} {s:ByteArray} (le:V.le V') (h:∀ y:DRate,RateOkP y→rateT y=s→False):RtRd V s V' (packed [qv6 (⟨#[]⟩,⟨#[]⟩,false,⟨none,0,0⟩,(0:Int),()),.bool false]) :=
 ⟨le,(⟨#[]⟩,⟨#[]⟩,false,[],0,()),⟨none,0,0⟩,[],false,rfl,lr_none,Own.nil,⟨Nat.zero_le _,nofun⟩,fun y a b=>(h y a b).elim⟩
theorem n_three {t:SlV} {L:List Tx} (h:t.n=L.length):((t.n:Int) != (3:Int))=true→L.length≠3:=fun k e=>by
 have:(t.n:Int)≠3:=by simpa using k
 omega
theorem cI_TextRate {V:Know} (hV:HtI V) (s:ByteArray) (hs:s.size≤1048576):CallX Tryz.prog V 208 [.string s] (RtRd V s):=by
 refine CallX.of_fits Tryz.mix (fI_TextRate _) fun _=>?_
 simp only [tI_TextRate,T.wp]
 refine(cI_Cut V s hs).mono ?_
 rintro V1 _ ⟨le1,t,f,rfl,L1,O1⟩
 have hn:=L1.1
 refine⟨nofun,t,rfl,fun h2=>rt_no le1 fun y a b=>?_,fun h2=>?_⟩
 ·refine n_three hn h2 ?_
  rw [← b,rate_cut a]; rfl
 ·obtain⟨p,q,r,e⟩:=is_three hn h2
  rw [e] at L1 hn
  have hz:=cut_three e
  obtain⟨b,o,ha,ld2⟩:=L1.atK (i:=2) (x:=(r,())) rfl
  obtain⟨b',o',ha',ld0⟩:=L1.atK (i:=0) (x:=(p,())) rfl
  rw [ha] at ha'
  cases ha'
  obtain⟨b',o',ha',ld1⟩:=L1.atK (i:=1) (x:=(q,())) rfl
  rw [ha] at ha'
  cases ha'
  rw [ha]
  have hn2:(t.n:Int)=3:=by rw [hn]; rfl
  refine⟨_,rfl,by decide,by omega,r,ld2,(cI_TextDec (hV.le le1) r (by omega)).mono ?_⟩
  rintro V2 _ ⟨le2,n,t2,sc,o2,f2,ok,rfl,L2,O2,k1,k2,k3,k4⟩
  have leA:=le1.trans le2
  have get:∀ y:DRate,RateOkP y→rateT y=s→ok=true∧((p,q,n,o2,sc,()):DRate)=y:=fun y a b=>by
   have:=rate_cut a
   rw [b,e] at this
   simp only [List.cons.injEq,Prod.mk.injEq,and_true] at this
   obtain⟨e0,e1,e2⟩:=this
   obtain⟨j1,j2,j3,j4⟩:=k4 _ _ _ a.2.2.2.1 e2.symm
   obtain⟨y0,y1,y2,y3,y4,yu⟩:=y
   subst e0 e1 j2 j3 j4
   exact⟨j1,rfl⟩
  have ld0':loadV V2 ((⟨b,o,none⟩:Addr).add (Int.toNat 0*1)) 1=some [.string p]:=loadV_mono le2 ld0
  have ld1':loadV V2 ((⟨b,o,none⟩:Addr).add (Int.toNat 1*1)) 1=some [.string q]:=loadV_mono le2 ld1
  refine⟨nofun,((n,t2,sc,()),ok,()),rfl,_,rfl,by decide,by omega,p,ld0',_,rfl,by decide,by omega,q,ld1',fun hf=>rt_no leA fun y a b=>?_,fun ht=>?_⟩
  ·have:=(get y a b).1
   have hf':ok=false:=by simpa using hf
   rw [hf'] at this; cases this
  ·have hok:ok=true:=by simpa using ht
   subst hok
   refine(cI_RateOk (hV.le leA).c ((p,q,n,o2,sc,()):DRate) t2 f2 L2).mono ?_
   rintro V3 _ ⟨le3,e3,rfl,he3⟩
   have leB:=leA.trans le3
   refine⟨nofun,_,rfl,fun hne=>rt_no leB fun y a b=>?_,fun hok=>⟨leB,(p,q,n,o2,sc,()),t2,f2,true,rfl,L2.le le3,(O2.post le3).pre le1,⟨by show p.size+q.size+o2.length≤_; omega,fun _=>⟨he3.1 (by simpa using hok),rate_of e (k1.2 rfl).2⟩⟩,get⟩⟩
   obtain⟨_,rfl⟩:=get y a b
   rw [he3.2 a] at hne; cases hne
end Go.Proofs.YtpdfdkccgkieoaaGreatDoor
namespace Go.Proofs.YtpdfdkccgkieoaaGreatDoor
open Sx
set_option maxRecDepth 100000
theorem cutA_cat (c:UInt8):∀ (p a b:List UInt8),cutA c p (a++c :: b)=cutA c p a++cutA c [] b
 | p,[],b=>by simp [cutA]
 | p,x :: a,b=>by
  rw [List.cons_append,cutA,cutA]
  split
  ·rw [cutA_cat c [] a b]; rfl
  ·exact cutA_cat c _ a b
theorem cutA_join (c:UInt8):∀ (L:List (List UInt8)),L≠[]→cutA c [] (joinC c L)=L.flatMap (cutA c [])
 | [],h=>absurd rfl h
 | [x],_=>by simp [joinC]
 | x :: y :: r,_=>by
  rw [joinC_cons (by simp),cutA_cat,cutA_join c (y :: r) (by simp)]; rfl
theorem jn_joinC (c:UInt8):∀ (L:List (List UInt8)),Go.Lib.join L [c]=joinC c L
 | []=>rfl
 | [a]=>by rw [Go.Lib.join_one]; rfl
 | a :: b :: r=>by
  rw [joinC_cons (by simp),← jn_joinC c (b :: r),Go.Lib.join_cons,Go.Lib.join_cons]
  simp [Go.Lib.joinTail]
theorem joinT_bl1 (c:UInt8) (l:List Tx):bl (joinT l ⟨⟨[c]⟩⟩)=joinC c (l.map fun x=>bl x.1):=by
 rw [← jn_joinC]
 show bl (⟨(Go.Lib.join (bytesL l) [c]).toArray⟩:ByteArray)=_
 exact bl_of _
theorem cut_joinT (c:UInt8) {l:List Tx} (h:l≠[]):cutB c (joinT l ⟨⟨[c]⟩⟩)=l.flatMap fun t=>cutB c t.1:=by
 unfold cutB
 rw [joinT_bl1,cutA_join c _ (by simpa using h),List.flatMap_map,List.map_flatMap]
theorem joinT_cut1 (c:UInt8) (s:ByteArray):joinT (cutB c s) ⟨⟨[c]⟩⟩=s:=bl_inj (by rw [joinT_bl1,← cutB_join])
def nw (f:Int):Nat:=if f=8 then 3 else if f=4 then 2 else 1
end Go.Proofs.YtpdfdkccgkieoaaGreatDoor
namespace Go.Proofs.YtpdfdkccgkieoaaGreatDoor
open Sx Go.RowKit
set_option maxRecDepth 100000
def OpGot (s:ByteArray) (op:Int):Prop:=(1≤op∧op≤9∧opT op=s)∨(op=0∧∀ o:Int,1≤o→o≤9→opT o≠s)
theorem opT_inj {a b:Int} (ha:1≤a∧a≤9) (hb:1≤b∧b≤9) (e:opT a=opT b):a=b:=by
 have h1:a=1∨a=2∨a=3∨a=4∨a=5∨a=6∨a=7∨a=8∨a=9:=by omega
 have h2:b=1∨b=2∨b=3∨b=4∨b=5∨b=6∨b=7∨b=8∨b=9:=by omega
 have key:∀ i:Nat,i<10→∀ j:Nat,j<10→(opL.getD i (noT,())).1.data.toList=(opL.getD j (noT,())).1.data.toList→i=j:=by decide
 have:=key a.toNat (by omega) b.toNat (by omega) (congrArg (fun x:ByteArray=>x.data.toList) e)
 omega
theorem cI_NameOp (V:Know) (s:ByteArray):CallX Tryz.prog V 126 [.string s] (fun V' r=>V.le V'∧∃ op:Int,r=.int .i64 op∧OpGot s op):=by
 refine CallX.of_fits Tryz.mix (fI_NameOp _) fun _=>?_
 simp only [tI_NameOp,T.wp]
 refine⟨fun y V'=>V.le V'∧1≤(y.1:Int)∧(y.1:Int)≤10∧∀ o:Int,1≤o→o<(y.1:Int)→opT o≠s,fun y _=>(10-(y.1:Int)).toNat,⟨((1:Int),()),rfl,Know.le.refl _,Int.le_refl _,by decide,fun o h1 h2=>absurd h1 (by have h2:o<1:=h2; omega)⟩,?_⟩
 rintro⟨(j:Int),u⟩ V' ⟨hle,h1,h2,h3⟩
 replace h1:1≤j:=h1
 replace h2:j≤10:=h2
 replace h3:∀ o:Int,1≤o→o<j→opT o≠s:=h3
 refine⟨fun h9=>?_,fun h9=>?_⟩
 ·have h9':j≤9:=of_decide_eq_true h9
  refine(cI_OpName V' j ⟨h1,h9'⟩).mono ?_
  rintro V2 _ ⟨le2,rfl⟩
  refine⟨nofun,_,rfl,fun he=>⟨hle.trans le2,j,rfl,.inl ⟨h1,h9',text_eq.1 he⟩⟩,fun hne=>⟨_,rfl,(j+1,()),?_,⟨hle.trans le2,by show 1≤j+1; omega,by show j+1≤10; omega,fun o ho ho2=>?_⟩,?_⟩⟩
  ·rw [wrap_i64 (by omega)]; rfl
  ·have ho2:o<j+1:=ho2
   by_cases e:o=j
   ·rw [e]; exact text_ne.1 hne
   ·exact h3 o ho (by omega)
  ·show(10-(j+1)).toNat<(10-j).toNat
   omega
 ·have h9':¬ j≤9:=of_decide_eq_false h9
  exact⟨hle,0,rfl,.inr ⟨rfl,fun o ho ho9=>h3 o ho (by omega)⟩⟩
theorem cI_wordsOf (V:Know) (f:Int):CallX Tryz.prog V 127 [.int .i64 f] (fun V' r=>V'=V∧r=.int .i64 (nw f:Int)):=by
 refine CallX.of_fits Tryz.mix (fI_wordsOf _) fun _=>?_
 simp only [tI_wordsOf,T.wp]
 unfold nw
 refine⟨fun h=>?_,fun h=>⟨fun h4=>?_,fun h4=>?_⟩⟩
 ·have:f=8:=by simpa using h
  rw [if_pos this]; exact⟨by trivial,rfl⟩
 ·have:¬ f=8:=by simpa using h
  have e:f=4:=by simpa using h4
  rw [if_neg this,if_pos e]; exact⟨by trivial,rfl⟩
 ·have:¬ f=8:=by simpa using h
  have e:¬ f=4:=by simpa using h4
  rw [if_neg this,if_neg e]; exact⟨by trivial,rfl⟩
end Go.Proofs.YtpdfdkccgkieoaaGreatDoor
