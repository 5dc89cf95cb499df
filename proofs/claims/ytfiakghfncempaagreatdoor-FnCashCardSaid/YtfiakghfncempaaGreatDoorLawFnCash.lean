/-
  The walk of the law: cash rounding leaves whole coins, and the difference stands in the remainders, for all inputs.
-/
import Derived.Test.YtfiakghfncempaaGreatDoorCashK
import Derived.Test.YtfiakghfncempaaGreatDoorGrow
import Derived.Test.YtfiakghfncempaaGreatDoorChecked
import Derived.ChangeArms
import Derived.Lib.LaidTab
import Derived.Test.YtfiakghfncempaaGreatDoorBkM
import Derived.KernelRfl
namespace Go.Proofs.YtfiakghfncempaaGreatDoor
open Sx
set_option maxRecDepth 100000
theorem ledger_sub {V:Know} {c:Scs [.l,.l,.s,.l]} {x:DLedger} {f:List Nat} (h:rLedger.R V c x f):∃ s0 s1 s3 f0 f1 f3,c=(s0,s1,x.2.2.1,s3,())∧LR rAcct V s0 x.1 f0∧LR rRest V s1 x.2.1 f1∧LR rRate V s3 x.2.2.2.1 f3∧∀ y∈f0,y∈f:=by
 obtain⟨c0,c1,c2,c3,cu⟩:=c
 obtain⟨f0,g0,rfl,h0,f1,g1,rfl,h1,⟨e2,_⟩,f3,g3,rfl,h3,_⟩:=h
 replace e2:c2=x.2.2.1:=e2
 subst e2
 exact⟨c0,c1,c3,f0,f1,f3,rfl,h0,h1,h3,fun y hy=>List.mem_append_left _ hy⟩
abbrev names9:List ByteArray:=[⟨#[98,97,110,107]⟩,⟨#[98,111,120]⟩,⟨#[99,97,115,104]⟩,⟨#[102,101,101,115]⟩,⟨#[116,97,120]⟩,⟨#[110,101,119]⟩,⟨#[66,97,100]⟩,⟨#[97,98,99,100,101,102,103,104,105,106,107,108,109]⟩,⟨#[]⟩]
theorem cS_l17Name {V0 V:Know} {b:Nat} {s:SlV} (hc:Cx V0 b s V):CallX Tryz.prog V 101 [.pointer (some ⟨b,0,none⟩)] (fun V' r=>Dx V0 b s V V'∧∃ n:ByteArray,r=.string n∧n.size≤1048576):=by
 refine CallX.of_fits Tryz.mix (fS_l17Name _) fun _=>?_
 simp only [tS_l17Name,T.wp]
 intro b1 c1 sp hb1 hc1 _
 refine(cS_strLit hc names9 (by decide) (by decide) (by decide) hb1 hc1).mono ?_
 rintro V1 _ ⟨d1,n,hn,rfl⟩
 have hz:∀ n∈names9,n.size≤20:=by decide
 exact⟨nofun,n,rfl,d1,n,rfl,Nat.le_trans (hz n hn) (by decide)⟩
theorem cS_l21Acct {V0 V:Know} {b:Nat} {s:SlV} (hc:Cx V0 b s V) (c:Scs LedSh) (x:DLedger) (f:List Nat) (h:rLedger.R V c x f) (hf:∀ y∈f,y≠b) (ok:LedgerOkP x) :
  CallX Tryz.prog V 42 [.pointer (some ⟨b,0,none⟩),qv4 c] (fun V' r=>Dx V0 b s V V'∧∃ n m:ByteArray,r=.tuple #[.string n,.string m]∧n.size≤1048576):=by
 refine CallX.of_fits Tryz.mix (fS_l21Acct _ _) fun _=>?_
 obtain⟨s0,s1,s3,f0,f1,f3,rfl,L0,L1,L3,hs0⟩:=ledger_sub h
 simp only [tS_l21Acct,T.wp]
 have hn:=L0.1
 have key:∀ {V1:Know},Dx V0 b s V V1→CallX Tryz.prog V1 101 [.pointer (some ⟨b,0,none⟩)] (fun V2 r=>(false=true→V1.le V2)∧∃ y,r=Sh.val (.v (.o .s)) y∧CallX Tryz.prog V2 98 [.pointer (some ⟨b,0,none⟩)] (fun V3 r'=>(false=true→V2.le V3)∧∃ z,r'=Sh.val (.v (.o .s)) z∧Dx V0 b s V V3∧∃ n m:ByteArray,packed [.string y,.string z]=.tuple #[.string n,.string m]∧n.size≤1048576)):=by
  intro V1 d1
  refine(cS_l17Name d1.1).mono ?_
  rintro V2 _ ⟨d2,n,rfl,zn⟩
  refine⟨nofun,n,rfl,(cS_l08Cur d2.1).mono ?_⟩
  rintro V3 _ ⟨d3,m,rfl,_⟩
  exact⟨nofun,m,rfl,(d1.trans d2).trans d3,n,m,rfl,zn⟩
 refine⟨fun _=>key (hc.dx (Know.le.refl _)),fun hne=>(cS_l01Once hc 10).mono ?_⟩
 rintro V1 _ ⟨d1,e,rfl⟩
 refine⟨nofun,e,rfl,fun _=>key d1,fun _=>?_⟩
 have fb:∀ y∈f0,y≠b:=fun y hy=>hf y (hs0 y hy)
 have L1b:=L0.but (fun y hy=>by simpa using fb y hy) d1.2
 refine⟨mask b V1,mask_le b V1,(cS_l01Below d1.1 (s0.n:Int)).mono ?_⟩
 rintro V2 _ ⟨d2,k,rfl,k0,k1,_⟩
 have hpos:(0:Int)<(s0.n:Int):=by
  have:(s0.n:Int)≠0:=by simpa using hne
  omega
 have hk:=k1 hpos
 obtain⟨b1,o1,c1,fc,a1,l1,hR,_⟩:=(L1b.masked fb).at (i:=k.toNat) (by omega)
 refine⟨mask_but (Know.le.refl _) d2.2,k,rfl,_,a1,k0,hk,c1,l1,?_⟩
 obtain⟨_,w1,_,_⟩:=ok.1.2 k.toNat (by omega)
 have e1:c1.1=x.1[k.toNat].1:=hR.1.1
 refine⟨d1.trans d2,c1.1,c1.2.1,rfl,?_⟩
 rw [e1]
 have:=w1.2.1
 omega
theorem cS_MakeName (V:Know) (s:SlV) (l:List (Int × Unit)) (f:List Nat) (h:LR rBy V s l f) (c:Scs LedSh) (x:DLedger) (g:List Nat) (hx:rLedger.R V c x g) (ok:LedgerOkP x) :
  CallX Tryz.prog V 6 [Sc.val .l s,qv4 c] (fun V' r=>V.le V'∧∃ n:ByteArray,r=.string n∧n.size≤1048576):=by
 refine CallX.of_fits Tryz.mix (fS_MakeName _ _) fun _=>?_
 simp only [tS_MakeName,T.wp]
 refine(cS_l01New V s l f h).mono ?_
 rintro V1 _ ⟨le1,b,rfl,hb,c1⟩
 have c1':=c1
 obtain⟨_,_,⟨i,k,hi,hk⟩,_⟩:=c1
 refine⟨nofun,_,rfl,k,ld_at hk 2 1,_,_,rfl,hk,Nat.le_refl 3,?_⟩
 have d2:=kset_cx (h:=IntKind.i64.wrap (k+23)) c1' hi
 have hg:∀ y∈g,y≠b:=fun y hy=>by
  rintro rfl
  obtain⟨u,hu⟩:=rLedger.kn hx y hy
  rw [hb] at hu; cases hu
 have hx2:=rLedger.loc (rLedger.le hx le1) (V':=kset V1 b (cuCells s i (IntKind.i64.wrap (k+23)),(tyC,(0,0)))) fun y hy=>kset_other (hg y hy)
 refine(cS_l21Acct d2.1 c x g hx2 hg ok).mono ?_
 rintro V2 _ ⟨d3,n,m,rfl,zn⟩
 exact⟨nofun,(n,m,()),rfl,d3.1.1,n,rfl,zn⟩
theorem cI_MoneySub {V:Know} (hV:HcI V) (c d:Scs MonSh) (x y:DMoney) (f g:List Nat) (hx:rMoney.R V c x f) (hy:rMoney.R V d y g) (mx:MonP x) (my:MonP y) (ey:y.1=x.1) (hl:(svM x-svM y).natAbs<1000000000) :
  CallX Tryz.prog V 13 [qv2 c,qv2 d] (fun V' v=>V.le V'∧∃ k z f,v=.tuple #[qv2 k,.bool true]∧rMoney.R V' k z f∧MonP z∧svM z=svM x-svM y):=by
 refine CallX.of_fits Tryz.mix (fI_MoneySub _ _) fun _=>?_
 simp only [tI_MoneySub,T.wp]
 refine(cI_alike hV c d x y f g hx hy).mono ?_
 rintro V1 _ ⟨le1,e1,rfl,he1⟩
 obtain rfl:e1=true:=he1.2 ⟨mx,my,ey.symm⟩
 obtain⟨s,rfl,hlx,z0⟩:=mon_elim hx
 obtain⟨s',rfl,hly,z0'⟩:=mon_elim hy
 have nx:=mx.2.2
 have n2:=my.2.2
 refine⟨nofun,true,rfl,nofun,fun _=>(cI_intNeg V1 y.2.1 s' y.2.2.1 g (hly.le le1) (by omega)).mono ?_⟩
 rintro V2 _ ⟨le2,s2,f2,rfl,L2,_⟩
 have l2:=le1.trans le2
 refine⟨fun _=>le2,_,rfl,(cI_intAdd V2 x.2.1 s _ s2 x.2.2.1 y.2.2.1 f f2 (hlx.le l2) L2 mx.2.1.1.1 my.2.1.1.1 (by omega) (by omega)).mono ?_⟩
 rintro V3 _ ⟨le3,e3,s3,o3,f3,rfl,L3,_,C3,v3,p3,_⟩
 rw [(made_ok (q:=!y.2.1) my.2.1.1.1 (by omega)).2,sval_flip] at v3
 replace v3:sval e3 o3=svM x-svM y:=v3
 have n3:o3.length≤1:=by
  have a:=sval_abs (c0:=e3) C3.1
  by_cases q:o3.length≤1
  ·exact q
  ·have g1:=can_ge C3 (by omega)
   have g2:=pw_mono (show 1≤o3.length-1 by omega)
   have g3:(1000000000:Int) ^ 1=1000000000:=by decide
   omega
 have ok3:IntOkP e3 o3:=⟨⟨C3,by omega⟩,p3⟩
 have l3:=l2.trans le3
 refine⟨fun _=>le3,_,rfl,(rI_moneyOf (hV.le l3) x.1 e3 s3 o3 f3 L3 mx.1 ok3).mono ?_⟩
 rintro V4 _ ⟨le4,⟨_,rfl⟩ | ⟨k,_⟩⟩
 ·exact⟨nofun,((x.1,e3,s3,()),true,()),rfl,l3.trans le4,(x.1,e3,s3,()),(x.1,e3,o3,()),f3,rfl,mon_mk z0 (L3.le le4),⟨mx.1,ok3,by omega⟩,v3⟩
 ·exact absurd (show o3.length≤4 by omega) k
theorem cI_IntAbs (V:Know) (e:Bool) (s:SlV) (o:List Lim) (f:List Nat) (h:LR rI V s o f) (ok:IntOkP e o) :
  CallX Tryz.prog V 18 [qv0 (e,s,())] (fun V' r=>V.le V'∧∃ t g,r=qv0 (false,t,())∧LR rI V' t o g):=by
 refine CallX.of_fits Tryz.mix (fI_IntAbs _) fun _=>?_
 simp only [tI_IntAbs,T.wp]
 have hl:=ok.1.2
 refine(cI_IntOk V e s o f h).mono ?_
 rintro V1 _ ⟨rfl,e1,rfl,he1⟩
 obtain rfl:e1=true:=he1.2 ok
 refine⟨nofun,true,rfl,nofun,fun _=>(cI_natCopy V1 s o f h (by omega)).mono ?_⟩
 rintro V2 _ ⟨le2,t,g,rfl,L2,_⟩
 exact⟨nofun,t,rfl,le2,t,g,rfl,L2⟩
theorem cI_IntCmp (V:Know) (c0:Bool) (c1:SlV) (d0:Bool) (d1:SlV) (a b:List Lim) (f g:List Nat) (h:LR rI V c1 a f) (h':LR rI V d1 b g) (ha:IntOkP c0 a) (hb:IntOkP d0 b) :
  CallX Tryz.prog V 17 [qv0 (c0,c1,()),qv0 (d0,d1,())] (fun V' r=>V.le V'∧r=.int .i64 (sgn (sval c0 a-sval d0 b))):=by
 refine CallX.of_fits Tryz.mix (fI_IntCmp _ _) fun _=>?_
 simp only [tI_IntCmp,T.wp]
 have la:=ha.1.2
 have lb:=hb.1.2
 refine(cI_intsOk V c0 c1 d0 d1 a b f g h h' ha hb).mono ?_
 rintro V1 _ ⟨rfl,rfl⟩
 refine⟨nofun,true,rfl,nofun,fun _=>(cI_intCmp V1 c0 c1 d0 d1 a b f g h h' ha.1.1 hb.1.1 (by omega) (by omega)).mono ?_⟩
 rintro V2 _ ⟨le2,rfl⟩
 exact⟨nofun,_,rfl,le2,rfl⟩
theorem cI_natsOk (V:Know) (s s':SlV) (a b:List Lim) (f f':List Nat) (h:LR rI V s a f) (h':LR rI V s' b f') (ha:NatOkP a) (hb:NatOkP b):CallX Tryz.prog V 48 [Sc.val .l s,Sc.val .l s'] (fun V' r=>V'=V∧r=.bool true):=by
 refine CallX.of_fits Tryz.mix (fI_natsOk _ _) fun _=>?_
 simp only [tI_natsOk,T.wp]
 refine(cI_NatOk V s a f h).mono ?_
 rintro V1 _ ⟨rfl,e,rfl,he⟩
 obtain rfl:e=true:=he.2 ha
 refine⟨nofun,true,rfl,fun _=>(cI_NatOk V1 s' b f' h').mono ?_,nofun⟩
 rintro V2 _ ⟨rfl,e,rfl,he⟩
 obtain rfl:e=true:=he.2 hb
 exact⟨nofun,true,rfl,rfl,rfl⟩
theorem cI_NatDivP (V:Know) (s s':SlV) (a b:List Lim) (f f':List Nat) (h:LR rI V s a f) (h':LR rI V s' b f') (ha:NatOkP a) (hb:NatOkP b) (hp:0<b.length):CallX Tryz.prog V 11 [Sc.val .l s,Sc.val .l s'] (DivPost V a b):=by
 refine CallX.of_fits Tryz.mix (fI_NatDiv _ _) fun _=>?_
 simp only [tI_NatDiv,T.wp]
 have la:=ha.2
 have hn:=h'.1
 refine(cI_natsOk V s s' a b f f' h h' ha hb).mono ?_
 rintro V1 _ ⟨rfl,rfl⟩
 refine⟨nofun,true,rfl,nofun,fun _=>⟨fun hz=>?_,fun _=>(cI_natDiv V1 s s' a b f f' h h' ha.1 hb.1 (by omega) hp).mono ?_⟩⟩
 ·have:(s'.n:Int)=0:=by simpa using hz
  omega
 rintro V2 _ ⟨le2,s1,s2,q,r,f1,f2,rfl,rest⟩
 exact⟨nofun,(s1,s2,()),rfl,le2,s1,s2,q,r,f1,f2,rfl,rest⟩
end Go.Proofs.YtfiakghfncempaaGreatDoor
namespace Go.Proofs.YtfiakghfncempaaGreatDoor
open Sx
def knowOf (W:World):Know:=fun b=>match W.heap[b]? with
 | some (.cells c t fr)=>(match c.toList with | [.tuple _]=>none | l=>some (l,(t,fr)))
 | _=>none
theorem knowOf_on (W:World):(knowOf W).on W:=by
 intro b c t h
 unfold knowOf at h
 split at h
 ·rename_i c' t' fr hh
  split at h
  ·cases h
  ·rename_i hne
   simp only [Option.some.injEq,Prod.mk.injEq] at h
   obtain⟨rfl,rfl⟩:=h
   rw [hh]
   unfold objOf
   split
   ·rename_i es he
    exact(hne es he).elim
   ·rfl
 ·cases h
theorem knowOf_eq {W:World} {b:Nat} {c:Array Value} {t:TypeId} {fr:Nat × Nat} (h:W.heap[b]?=some (.cells c t fr)) (hn:∀ es,c.toList≠[.tuple es]):knowOf W b=some (c.toList,(t,fr)):=by
 unfold knowOf
 rw [h]
 simp only
theorem cut_tuple {l l':List Value} {off n:Nat} (h:cutv l off n=some l') (hn:0<n) (ht:noTup l'=true):∀ es,l≠[.tuple es]:=by
 intro es e
 subst e
 unfold cutv at h
 split at h
 ·rename_i hle
  have h1:off=0∧n=1:=by simp at hle; omega
  obtain⟨rfl,rfl⟩:=h1
  simp at h
  subst h
  simp [noTup] at ht
 ·cases h
def Rd {sh:List Sc} {α:Type} (P:Program) (W:World) (t:TypeId) (r:Rp sh α):Prop :=
 ∀ {H:Type} {enc:TypeId × Value→H} {sp:Nat→Bool} {held:Bool} {fuel:Nat} {cs:List Value} {x:DataW H × List MemPlace},DataW.trod enc P W 0 sp held fuel t cs=some x →
  ∃ c a fp,cs=Scs.vals sh c∧r.R (knowOf W) c a fp
section
variable {H:Type} {enc:TypeId × Value→H} {P:Program} {W:World} {sp:Nat→Bool} {held:Bool} {fuel:Nat} {cs:List Value} {x:DataW H × List MemPlace}
theorem cells_cut {b o m:Nat} {c:Array Value} {t:TypeId} {fr:Nat × Nat} {row:List Value} (hm:0<m) (hb:W.heap[b]?=some (.cells c t fr)) (h:W.cells? 0 ⟨b,o,none⟩ m=some row):cutv c.toList o m=some row:=by
 unfold World.cells? at h
 rw [if_pos (Nat.zero_le _)] at h
 have hl:=Go.Lib.mapM_length h
 simp at hl
 have hat:∀ j,j<m→c[o+j]?=row[j]?:=by
  intro j hj
  obtain⟨v,hv,hc⟩:=Go.Lib.mapM_at h j j (by simp [hj])
  rw [addr_add_eq] at hc
  simp only [World.cell?,hb,Option.isSome_none,Bool.false_eq_true,if_false] at hc
  rw [hc,hv]
 unfold cutv
 have hlast:=hat (m-1) (by omega)
 have hlt:o+(m-1)<c.size:=by
  have:(row[m-1]?).isSome=true:=by simp [hl]; omega
  rw [← hlast] at this
  simpa using this
 rw [if_pos (by simp; omega)]
 congr 1
 apply List.ext_getElem?
 intro j
 by_cases hj:j<m
 ·rw [List.getElem?_take_of_lt hj,List.getElem?_drop,Array.getElem?_toList,hat j hj]
 ·rw [List.getElem?_eq_none (by simp; omega),List.getElem?_eq_none (by omega)]
theorem rows_flat {α β:Type} {f:α→List β} {m:Nat} (hf:∀ a,(f a).length=m):∀ {l:List α} {L:List β},(∀ (i:Nat) (h:i<l.length),cutv L (i*m) m=some (f l[i]))→∃ post,L=l.flatMap f++post
 | [],L,_=>⟨L,rfl⟩
 | a :: l,L,h=>by
  have h0:=h 0 (by simp)
  simp only [Nat.zero_mul,List.getElem_cons_zero] at h0
  unfold cutv at h0
  split at h0
  ·rename_i hm
   simp only [List.drop_zero,Option.some.injEq] at h0
   have e:L=f a++L.drop m:=by rw [← h0,List.take_append_drop]
   obtain⟨post,hp⟩:=rows_flat hf (l:=l) (L:=L.drop m) (fun i hi=>by
    have:=h (i+1) (by simpa using hi)
    simp only [List.getElem_cons_succ] at this
    have e2:(i+1)*m=(f a).length+i*m:=by rw [hf,Nat.add_mul,Nat.one_mul,Nat.add_comm]
    rw [e,e2,cutv_skip] at this
    rw [← this])
   exact⟨post,by rw [List.flatMap_cons,List.append_assoc,← hp]; exact e⟩
  ·cases h0
theorem els_of {sh:List Sc} {α:Type} {r:Rp sh α} {V:Know} {Q:Nat→Scs sh→Prop}:∀ (n:Nat),(∀ i,i<n→∃ c a f,Q i c∧r.R V c a f)→∃ cs l fps,List.length l=n∧Els r V cs l fps∧∀ (i:Nat) (h:i<cs.length),Q i cs[i]
 | 0,_=>⟨[],[],[],rfl,rfl,fun i h=>by simp at h⟩
 | n+1,h=>by
  obtain⟨cs,l,fps,h1,h2,h3⟩:=els_of n (fun i hi=>h i (by omega))
  obtain⟨c,a,f,hq,hr⟩:=h n (by omega)
  refine⟨cs++[c],l++[a],fps++f,by simp [h1],h2.snoc hr,fun i hi=>?_⟩
  have hcl:=h2.len
  by_cases hc:i<cs.length
  ·rw [List.getElem_append_left hc]; exact h3 i hc
  ·have:i=n:=by simp at hi; omega
   subst this
   rw [List.getElem_append_right (by omega)]
   simpa using hq
theorem rd_slice {sh:List Sc} {α:Type} {r:Rp sh α} {t e:TypeId} (hr:Rd P W e r) (ht:P.underlying t=some (.slice e)) (hm:P.cellsOf e=sh.length) (hpos:0<sh.length) (h:DataW.trod enc P W 0 sp held fuel t cs=some x) :
  ∃ s l f,cs=[.slice s.a s.n s.c]∧LR r (knowOf W) s l f:=by
 rcases DataW.trod_slice ht h with ⟨rfl,_⟩ | ⟨a,len,cap,elems,rest,n,_,rfl,_,_,hlc,hcap,hel,hall,_⟩
 ·exact⟨⟨none,0,0⟩,[],[],rfl,rfl,Nat.le_refl _,Nat.zero_le _,.inl ⟨rfl,fun _=>rfl,rfl⟩⟩
 ·have hmax:cap≤9223372036854775807:=hcap
  by_cases h0:len=0
  ·subst h0
   exact⟨⟨some a,0,cap⟩,[],[],rfl,rfl,Nat.zero_le _,Nat.zero_le _,.inl ⟨rfl,(fun h=>by cases h),rfl⟩⟩
  rw [hm] at hall
  -- the block
  have hrow:∀ i,i<len→∃ row y,W.cells? 0 (a.add (i*sh.length)) sh.length=some row∧DataW.trod enc P W 0 sp held n e row=some y:=by
   intro i hi
   have:=hall i hi
   have he:elems[i]?=some elems[i]:=by simp [hel,hi]
   rw [he,Option.bind_eq_some_iff] at this
   obtain⟨row,h1,h2⟩:=this
   exact⟨row,_,h1,h2⟩
  obtain⟨row0,y0,hc0,_⟩:=hrow 0 (by omega)
  obtain⟨bk,off,spot⟩:=a
  have hcell:∃ v,W.cell? ⟨bk,off,spot⟩=some v:=by
   unfold World.cells? at hc0
   rw [if_pos (Nat.zero_le _)] at hc0
   obtain⟨v,_,hv⟩:=Go.Lib.mapM_at hc0 0 0 (by simp [hpos])
   refine⟨v,?_⟩
   simpa [Addr.add] using hv
  obtain⟨v,hv⟩:=hcell
  unfold World.cell? at hv
  split at hv
  ·rename_i c ty fr hb
   split at hv
   ·cases hv
   ·rename_i hs
    have hspot:spot=none:=by simpa using hs
    subst hspot
    have hq:∀ i,i<len→∃ (c':Scs sh) (a':α) (f':List Nat),cutv c.toList (off+i*sh.length) sh.length=some (Scs.vals sh c')∧r.R (knowOf W) c' a' f':=by
     intro i hi
     obtain⟨row,y,h1,h2⟩:=hrow i hi
     rw [addr_add_eq] at h1
     obtain⟨c',a',f',rfl,hR⟩:=hr h2
     exact⟨c',a',f',cells_cut hpos hb h1,hR⟩
    obtain⟨cs,l,fps,k1,k2,k3⟩:=els_of (Q:=fun i c'=>cutv c.toList (off+i*sh.length) sh.length=some (Scs.vals sh c')) len hq
    have hoff:off≤c.toList.length:=by
     obtain⟨c',_,_,hc',_⟩:=hq 0 (by omega)
     unfold cutv at hc'
     split at hc'
     ·omega
     ·cases hc'
    have hpre:(c.toList.take off).length=off:=by rw [List.length_take]; omega
    have hflat:∃ post,c.toList.drop off=cs.flatMap (Scs.vals sh)++post:=by
     refine rows_flat (vals_len sh) fun i hi=>?_
     have:=k3 i hi
     rw [← List.take_append_drop off c.toList] at this
     have e2:off+i*sh.length=(c.toList.take off).length+i*sh.length:=by rw [hpre]
     rw [e2,cutv_skip] at this
     exact this
    obtain⟨post,hpost⟩:=hflat
    refine⟨⟨some ⟨bk,off,none⟩,len,cap⟩,l,bk :: fps,rfl,k1.symm,hlc,Nat.le_trans hlc hmax,.inr ⟨bk,c.toList.take off,post,(ty,fr),fps,cs,by rw [hpre],?_,k2,rfl⟩⟩
    obtain⟨c0,_,_,hc0',_⟩:=hq 0 (by omega)
    rw [knowOf_eq hb (cut_tuple hc0' hpos (vals_noTup sh c0)),← hpost,List.take_append_drop]
  ·cases hv
end
end Go.Proofs.YtfiakghfncempaaGreatDoor
namespace Go.Proofs.YtfiakghfncempaaGreatDoor
open Sx
theorem rd_By (W:World):Rd Tryz.prog W 5 rBy:=by
 intro H enc sp held fuel cs x h
 obtain⟨n,rfl,_,_⟩:=DataW.trod_int (show Tryz.prog.underlying 5=some (.int .u8) by kernel_rfl) h
 exact⟨(n,()),(n,()),[],rfl,rfl,rfl⟩
end Go.Proofs.YtfiakghfncempaaGreatDoor
namespace Go.Proofs.YtfiakghfncempaaGreatDoor
open Sx
set_option maxRecDepth 100000
theorem sgn_self {a:Int}:sgn (a-a)=0:=by rw [Int.sub_self]; rfl
theorem fnd_before {n:ByteArray}:∀ {l:List DAcct} {i:Nat},fnd n l=some i→∀ {j:Nat} (hj:j<l.length),j<i→l[j].1≠n
 | a :: l,i,h,j,hj,hji=>by
  rw [fnd] at h
  split at h
  ·cases h; omega
  ·rename_i hne
   cases hf:fnd n l with
   | none=>rw [hf] at h; cases h
   | some k =>
    rw [hf] at h
    have hk:k+1=i:=by simpa using h
    subst hk
    match j,hj,hji with
    | 0,_,_=>exact hne
    | j+1,hj,hji=>exact fnd_before hf (by simpa using hj) (by omega)
theorem won_eq {A y w:DRat} {v:Int} {e:Bool} (hA:RatP A) (hy:RedS (rS A*1+v*rD A) (rD A*1) y true)
  (hw:RedS (rS (if zeroQ y=true then nought else y)*rD A-rS A*rD (if zeroQ y=true then nought else y)) (rD (if zeroQ y=true then nought else y)*rD A) w e):RedS v 1 w e:=by
 have hp:=ratP_pos hA
 have hD:0<rD A*1:=by omega
 obtain⟨h1,h2,_⟩:=redS_val hD hy
 have h1:rS y*(rD A*1)=(rS A*1+v*rD A)*rD y:=h1
 have h2:0<rD y:=h2
 rw [Int.mul_one,Int.mul_one] at h1
 split at hw
 ·rename_i hz
  have h0:rS y=0:=by
   unfold zeroQ at hz
   exact sgn_zero.1 (by simpa using hz)
  rw [h0,Int.zero_mul] at h1
  have h3:rS A+v*rD A=0:=by
   rcases Int.mul_eq_zero.1 h1.symm with k | k
   ·exact k
   ·omega
  refine redS_cross (by show 0<rD nought*rD A; rw [show rD nought=1 by decide]; omega) (by decide) ?_ hw
  rw [show rS nought=0 by decide,show rD nought=1 by decide]
  simp only [Int.one_mul,Int.mul_one,Int.zero_mul]
  omega
 ·refine redS_cross (Int.mul_pos h2 hp) (by decide) ?_ hw
  rw [h1,Int.add_mul,Int.mul_one]
  have:v*rD A*rD y=v*(rD y*rD A):=by rw [Int.mul_assoc,Int.mul_comm (rD A)]
  omega
theorem atR_add {l:List DRest} {c:ByteArray} {y:DRat}:atR (addR c y l) c=if zeroQ y=true then nought else y:=by
 unfold atR
 rw [addR_at]
 split <;> rfl
theorem sgn_neg {a:Int} (h:a<0):sgn a=-1:=by unfold sgn; rw [if_pos h]
theorem bal_set {l:List DAcct} {n:ByteArray} {i:Nat} (hf:fnd n l=some i) (hi:i<l.length) {z:DMoney}:fnd n (l.set i (l[i].1,z))=some i:=by
 obtain⟨_,hn⟩:=fnd_at hf
 refine fnd_some (by simpa using hi) (by rw [List.getElem_set_self]; exact hn) fun j hj hji=>?_
 rw [List.getElem_set_ne (by omega)]
 exact fnd_before hf (by simpa using hj) hji
theorem law_FnCash {V:Know} (hV:HcI V) {s:SlV} {l:List (Int × Unit)} {f:List Nat} (h:LR rBy V s l f):CallX Tryz.prog V 3 [Sc.val .l s] (fun V' r=>V.le V'∧r=.bool true):=by
 refine CallX.of_fits Tryz.mix (fL_FnCash _) fun _=>?_
 simp only [tL_FnCash,T.wp]
 refine⟨fun _=>⟨Know.le.refl _,rfl⟩,fun _=>(cS_MakeLedger V s l f h).mono ?_⟩
 rintro V1 _ ⟨le1,c,x,g,rfl,R1,ok,sm,bd⟩
 obtain⟨s0,s1,s3,f0,f1,f3,rfl,L0,L1,L3⟩:=ledger_elim R1
 have htot:=ledger_tot ok
 have hbt:=book_tot ok.1
 refine⟨nofun,_,rfl,(cS_MakeName V1 s l f (h.le le1) _ x g R1 ok).mono ?_⟩
 rintro V2 _ ⟨le2,n,rfl,zn⟩
 have l2:=le1.trans le2
 refine⟨nofun,n,rfl,(cI_BalanceOf V2 s0 x.1 f0 (L0.le le2) (by omega) n).mono ?_⟩
 rintro V3 _ ⟨le3,c3,g3,rfl,R3,_⟩
 have l3:=l2.trans le3
 refine⟨nofun,(c3,decide (fnd n x.1≠none),()),rfl,(cS_MakeMode V3 s l f (h.le l3)).mono ?_⟩
 rintro V4 _ ⟨le4,m,rfl,m0,m6⟩
 have l4:=l3.trans le4
 have l14:=(le2.trans le3).trans le4
 refine⟨fun _=>le4,m,rfl,(cI_DoCash (hV.le l4) _ x g (rLedger.le R1 l14) (by omega) n (by omega) m).mono ?_⟩
 rintro V5 _ ⟨le5,c5,g5,rfl,R5,_⟩
 have l5:=l4.trans le5
 rw [perfP_ok ok] at R5 ⊢
 refine⟨nofun,(c5,(cashRun x n m).2,()),rfl,fun hno=>?_,fun hyes=>?_⟩
 ·have hf:fnd n x.1=none:=by simpa using hno
  have hc:(cashRun x n m).2=3∨(cashRun x n m).2=1:=by
   by_cases k:WordP n∧RmP m
   ·rw [cashRun_none k hf]; exact .inl rfl
   ·rw [cashRun_no k]; exact .inr rfl
  rcases hc with hc | hc
  ·refine⟨fun _=>⟨l5,rfl⟩,fun hf=>?_⟩
   rw [hc] at hf; cases hf
  ·refine⟨fun _=>⟨l5,rfl⟩,fun _=>⟨l5,?_⟩⟩
   rw [hc]; rfl
 obtain⟨i,hf⟩:∃ i,fnd n x.1=some i:=by
  cases hq:fnd n x.1 with
  | none=>rw [hq] at hyes; cases hyes
  | some i=>exact⟨i,rfl⟩
 obtain⟨hi,hnm⟩:=fnd_at hf
 obtain⟨_,w1,w2,_⟩:=ok.1.2 i hi
 have w2:MonP x.1[i].2:=w2
 obtain⟨z,r,y,hR,z4,r3,r4,r2,hy,hrun⟩:=cash_run ok sm bd ⟨m0,m6⟩ hf hi
 rw [hrun] at R5 ⊢
 have hsm:=sm _ (List.getElem_mem hi)
 have hnear:=cash_near (m:=m) w2
 obtain⟨cc1,cc2⟩:=cash_bd w2.1
 obtain⟨hz1,hz2,hz3,_⟩:=hR
 replace hz2:z.1=x.1[i].2.1:=hz2
 replace hz3:svM z=MonV x.1[i].2 m:=hz3
 rw [balP_some hf hi] at R3
 obtain⟨t0,t1,t3,q0,q1,q3,rfl,M0,M1,M3⟩:=ledger_elim R5
 replace M0:LR rAcct V5 t0 (x.1.set i (x.1[i].1,z)) q0:=M0
 replace M1:LR rRest V5 t1 (addR x.1[i].2.1 y x.2.1) q1:=M1
 have okB:BookOkP (x.1.set i (x.1[i].1,z)):=book_set ok.1 hi hz1
 have hbt5:=book_tot okB
 have hf5:=bal_set (z:=z) hf hi
 have hi5:i<(x.1.set i (x.1[i].1,z)).length:=by simpa using hi
 refine(cI_BalanceOf V5 t0 _ q0 M0 (by omega) n).mono ?_
 rintro V6 _ ⟨le6,c6,g6,rfl,R6,_⟩
 rw [balP_some hf5 hi5,List.getElem_set_self] at R6
 replace R6:rMoney.R V6 c6 z g6:=R6
 have l6:=l5.trans le6
 obtain⟨u3,rfl,H3,zz3⟩:=mon_elim R3
 obtain⟨u6,rfl,H6,zz6⟩:=mon_elim R6
 have v36:=(le4.trans le5).trans le6
 refine⟨nofun,(_,_,()),rfl,(pI_CurCash (hV.le l6) x.1[i].2.1).mono ?_⟩
 rintro V7 _ ⟨le7,rfl⟩
 have l7:=l6.trans le7
 refine⟨nofun,_,rfl,(cI_NatOf V7 (cashOf x.1[i].2.1) (by omega)).mono ?_⟩
 rintro V8 _ ⟨le8,s8,o8,f8,rfl,L8,_,C8,v8,n8⟩
 have l8:=l7.trans le8
 have p8:0<o8.length:=(can_pos C8).2 (by omega)
 have v38:=(v36.trans le7).trans le8
 refine⟨fun _=>le8,s8,rfl,(cI_NatDivP V8 u6 s8 z.2.2.1 o8 g6 f8 (H6.le (le7.trans le8)) L8 hz1.2.1.1 ⟨C8,by omega⟩ p8).mono ?_⟩
 rintro V9 _ ⟨le9,sq,sr,q,rr,fq,fr,rfl,Lq,Lr,_,_,Cq,Cr,hdiv,hlt⟩
 have l9:=l8.trans le9
 have hrr:rr.length=0:=by
  have e1:valN z.2.2.1=((MonV x.1[i].2 m).natAbs:Int):=by rw [← hz3]; exact(sval_abs hz1.2.1.1.1.1).symm
  have e2:=cash_mod (m:=m) w2
  rw [← e1,hdiv,v8,Int.add_comm,Int.add_mul_emod_self_right] at e2
  have e3:=valN_nonneg Cr.1
  rw [v8] at hlt
  rw [Int.emod_eq_of_lt e3 hlt] at e2
  by_cases k:rr.length=0
  ·exact k
  ·have:=(can_pos Cr).1 (by omega)
   omega
 refine⟨nofun,(sq,sr,()),rfl,(cI_MoneySub (hV.le l9) _ _ x.1[i].2 z _ _ (mon_mk zz3 (H3.le (v38.trans le9))) (mon_mk zz6 (H6.le ((le7.trans le8).trans le9))) w2 hz1 hz2 (by rw [hz3]; omega)).mono ?_⟩
 rintro V10 _ ⟨le10,cd,d,fd,rfl,Rd,okd,vd⟩
 have l10:=l9.trans le10
 rw [hz3] at vd
 have hat:=atR_ok ok.2.1 x.1[i].2.1
 have hDp:0<rD (atR x.2.1 x.1[i].2.1)*rD r:=Int.mul_pos (ratP_pos hat) (ratP_pos r2)
 have yok:RatP y:=redS_ok hDp hy rfl
 have okR:RestsOkP (addR x.1[i].2.1 y x.2.1):=addR_ok ok.2.1 w2.1 yok
 have v510:=((((le6.trans le7).trans le8).trans le9).trans le10)
 refine⟨nofun,(cd,true,()),rfl,(cI_RestOf V10 t1 _ q1 (M1.le v510) (rests_rat okR) x.1[i].2.1).mono ?_⟩
 rintro V11 _ ⟨le11,c11,f11,rfl,R11⟩
 rw [restOf_at,atR_add] at R11
 have v111:=(l14.trans le5).trans (v510.trans le11)
 refine⟨fun _=>le11,c11,rfl,(cI_RestOf V11 s1 x.2.1 f1 (L1.le v111) (rests_rat ok.2.1) x.1[i].2.1).mono ?_⟩
 rintro V12 _ ⟨le12,c12,f12,rfl,R12⟩
 rw [restOf_at] at R12
 have okz:RatP (if zeroQ y=true then nought else y):=by
  split
  ·exact nought_ok
  ·exact yok
 obtain⟨a1,a2,b1,b2,rfl,A1,A2,_⟩:=rat_elim (rRat.le R11 le12)
 obtain⟨a3,a4,b3,b4,rfl,A3,A4,_⟩:=rat_elim R12
 refine⟨nofun,_,rfl,(rI_RatSub V12 _ a1 a2 _ a3 a4 _ _ _ _ _ _ _ _ A1 A2 A3 A4 okz hat).mono ?_⟩
 rintro V13 _ ⟨le13,c13,w,e13,f13,rfl,R13,_,hw⟩
 have hy1:RedS (rS (atR x.2.1 x.1[i].2.1)*1+(svM x.1[i].2-MonV x.1[i].2 m)*rD (atR x.2.1 x.1[i].2.1)) (rD (atR x.2.1 x.1[i].2.1)*1) y true:=by
  have:=hy
  unfold AddRP at this
  rw [r3,r4] at this
  exact this
 have hw1:=won_eq hat hy1 hw
 obtain rfl:e13=true:=redS_fits (by decide) hw1 (by
  have:((10:Int) ^ 9)≤1000000000 ^ 18:=by decide
  omega) (by decide)
 refine⟨nofun,(c13,true,()),rfl,(cL_must V13 c13).mono ?_⟩
 rintro V14 _ ⟨rfl,rfl⟩
 have l12:=(l10.trans le11).trans (le12.trans le13)
 obtain⟨sd,rfl,Hd,zd⟩:=mon_elim Rd
 have v1013:=(le11.trans le12).trans le13
 have hnn:=Lr.1
 refine⟨nofun,c13,rfl,fun _=>⟨fun _=>?_,fun hne=>?_⟩,fun hf=>by cases hf⟩
 rotate_left
 ·exfalso
  have:¬ (sr.n:Int)=0:=by simpa using hne
  omega
 refine(cI_IntAbs V14 d.2.1 sd d.2.2.1 _ (Hd.le v1013) okd.2.1).mono ?_
 rintro V15 _ ⟨le15,s15,f15,rfl,L15⟩
 refine⟨fun _=>le15,_,rfl,(cI_IntSmall V15 (cashOf x.1[i].2.1) (by omega)).mono ?_⟩
 rintro V16 _ ⟨le16,s16,f16,rfl,L16⟩
 have okc:IntOkP false [((cashOf x.1[i].2.1,()):Lim)]:=⟨⟨⟨lims_one (by omega),.inr (by show cashOf x.1[i].2.1≠0; omega)⟩,by simp⟩,fun h=>by cases h⟩
 have okda:IntOkP false d.2.2.1:=⟨okd.2.1.1,fun h=>by cases h⟩
 refine⟨fun _=>le16,_,rfl,(cI_IntCmp V16 false s15 false s16 _ _ f15 f16 (L15.le le16) L16 okda okc).mono ?_⟩
 rintro V17 _ ⟨le17,rfl⟩
 have e17:sgn (sval false d.2.2.1-sval false [((cashOf x.1[i].2.1,()):Lim)])=-1:=by
  have e1:sval false d.2.2.1=((svM d).natAbs:Int):=(sval_abs (c0:=d.2.1) okd.2.1.1.1.1).symm
  have e2:sval false [((cashOf x.1[i].2.1,()):Lim)]=cashOf x.1[i].2.1:=valN_one _
  rw [e1,e2,vd]
  exact sgn_neg (by omega)
 rw [e17]
 refine⟨fun _=>le17,_,rfl,fun _=>?_,fun hf=>by cases hf⟩
 have v1017:=((v1013.trans le15).trans le16).trans le17
 have l17:=((l12.trans le15).trans le16).trans le17
 refine(cI_MoneyRat (hV.le l17) d.1 d.2.1 sd d.2.2.1 _ (Hd.le v1017) okd).mono ?_
 rintro V18 _ ⟨le18,c18,x18,f18,rfl,R18,_,hx18⟩
 replace hx18:RedS (svM d) 1 x18 true:=hx18
 rw [vd] at hx18
 obtain⟨rfl,_⟩:=redS_inj (by decide) hx18 hw1
 have okw:=redS_ok (by decide) hw1 rfl
 refine⟨fun _=>le18,c18,rfl,(cI_RatCmp V18 x18 x18 c13 c18 _ _ (rRat.le R13 (((le15.trans le16).trans le17).trans le18)) R18 okw okw).mono ?_⟩
 rintro V19 _ ⟨le19,rfl⟩
 rw [sgn_self]
 exact⟨nofun,_,rfl,(l17.trans le18).trans le19,rfl⟩
end Go.Proofs.YtfiakghfncempaaGreatDoor
