/-
  Conversions of one amount, of several, of all accounts of a ledger: in the program and in the reference. The reference's conversion of one amount, and of all accounts of a ledger. The conversions as the laws call them; the sizes of what they hand out.
-/
import Derived.Test.YtagjmmpiglgmhaaGreatDoorErrB
namespace Go.Proofs.YtagjmmpiglgmhaaGreatDoor
open Sx
set_option maxRecDepth 100000
def HeI (V:Know):Prop:=HcI V∧hasErr V
theorem HeI.le {V V':Know} (h:HeI V) (k:V.le V'):HeI V':=⟨HcI.le h.1 k,hasErr.le h.2 k⟩
abbrev ConvPost (V:Know) (p:ByteArray) (l:List DRate) (ms:List DMoney) (to:ByteArray) (m:Int):Know→Value→Prop:=fun V' r=>V.le V'∧∃ c mo f c' ra g code,r=.tuple #[Sh1.val (.g [.s,.b,.l]) c,Sh1.val (.g [.b,.l,.l]) c',.int .i64 code] ∧
 rMoney.R V' c mo f∧rRat.R V' c' ra g∧Own V V' (f++g)∧ConvP p l ms to m mo ra code
theorem conv_0 {V V':Know} {p:ByteArray} {l:List DRate} {ms:List DMoney} {to:ByteArray} {m:Int} {code:Int} (le:V.le V') (h:ConvP p l ms to m zeroM zeroR code) :
  ConvPost V p l ms to m V' (.tuple #[Sh1.val (.g [.s,.b,.l]) (ByteArray.empty,false,⟨none,0,0⟩,()),Sh1.val (.g [.b,.l,.l]) (false,⟨none,0,0⟩,⟨none,0,0⟩,()),.int .i64 code]) :=
 ⟨le,_,_,_,_,_,_,code,rfl,money_0,rat_0,Own.nil,h⟩
theorem cI_ConvertSum {V:Know} (hV:HeI V) (p:ByteArray) (s:SlV) (l:List DRate) (f:List Nat) (h:LR rRate V s l f) (t:SlV) (ms:List DMoney) (g:List Nat) (hm:LR rMoney V t ms g) (to:ByteArray) (m:Int) :
  CallX Tryz.prog V gI_ConvertSum [Sh1.val (.g [.s,.l]) (p,s,()),Sc.val .l t,.string to,.int .i64 m] (ConvPost V p l ms to m):=by
 refine CallX.of_fits Tryz.mix (fI_ConvertSum _ _ _ _) fun _=>?_
 simp only [tI_ConvertSum,T.wp]
 refine(cI_convert hV.1 p s l f h t ms g hm to m).mono ?_
 rintro V1 _ ⟨le1,c,mo,f1,c',ra,g1,y,code,rfl,R,R',O,hc,hy⟩
 refine⟨nofun,(c,c',y,()),rfl,fun ey=>?_,fun z ez=>?_⟩
 ·have ey:y=none:=ey
  subst ey
  refine(cI_codeOf V1 (hV.le le1).2 none code hy).mono ?_
  rintro V2 _ ⟨le2,rfl⟩
  exact⟨fun _=>le2,code,rfl,le1.trans le2,c,mo,f1,c',ra,g1,code,rfl,rMoney.le R le2,rRat.le R' le2,O.post le2,hc⟩
 ·have ez:y=some z:=ez
  subst ez
  refine(cI_codeOf V1 (hV.le le1).2 (some z) code hy).mono ?_
  rintro V2 _ ⟨le2,rfl⟩
  exact⟨fun _=>le2,code,rfl,le1.trans le2,c,mo,f1,c',ra,g1,code,rfl,rMoney.le R le2,rRat.le R' le2,O.post le2,hc⟩
theorem lr_single {V:Know} {c:Scs [.s,.b,.l]} {x:DMoney} {f:List Nat} (h:rMoney.R V c x f) {b cp:Nat} {sp:List Value} {u:TypeId} (hb:V b=none) (hc:1≤cp) :
  LR rMoney (kset V b (Scs.vals [.s,.b,.l] c++sp,(u,(0,0)))) ⟨some ⟨b,0,none⟩,1,cp⟩ [x] (b :: (f++[])):=by
 refine⟨rfl,hc,by simp,.inr ⟨b,[],sp,(u,(0,0)),f++[],[c],rfl,?_,⟨f,[],rfl,rMoney.le h (kset_le hb),rfl⟩,rfl⟩⟩
 rw [kset_same]
 simp
theorem cI_Convert {V:Know} (hV:HeI V) (p:ByteArray) (s:SlV) (l:List DRate) (f:List Nat) (h:LR rRate V s l f) (cm:Scs [.s,.b,.l]) (x:DMoney) (g:List Nat) (hm:rMoney.R V cm x g) (to:ByteArray) (m:Int) :
  CallX Tryz.prog V gI_Convert [Sh1.val (.g [.s,.l]) (p,s,()),Sh1.val (.g [.s,.b,.l]) cm,.string to,.int .i64 m] (ConvPost V p l [x] to m):=by
 refine CallX.of_fits Tryz.mix (fI_Convert _ _ _ _) fun _=>?_
 simp only [tI_Convert,T.wp]
 intro b cp sp hb hcp _
 have le1:=kset_le (x:=(Scs.vals [.s,.b,.l] cm++sp,((34:TypeId),((0,0):Nat × Nat)))) hb
 have L:=lr_single (u:=34) (sp:=sp) hm hb hcp
 refine(cI_ConvertSum (hV.le le1) p s l f (h.le le1) ⟨some ⟨b,0,none⟩,1,cp⟩ [x] _ L to m).mono ?_
 rintro V1 _ ⟨le2,c,mo,f1,c',ra,g1,code,rfl,R,R',O,hc⟩
 exact⟨nofun,(c,c',code,()),rfl,le1.trans le2,c,mo,f1,c',ra,g1,code,rfl,R,R',O.pre le1,hc⟩
def monOf (a:DAcct):DMoney:=(a.2.1,a.2.2.1,a.2.2.2.1,())
theorem mon_part {V:Know} {c:Scs [.s,.s,.b,.l]} {a:DAcct} {f:List Nat} (h:rAcct.R V c a f):rMoney.R V c.2 (monOf a) f:=h.2
theorem vals_3 (c:Scs [.s,.b,.l]):Scs.vals [.s,.b,.l] c=[.string c.1,.bool c.2.1,.slice c.2.2.1.a c.2.2.1.n c.2.2.1.c]:=rfl
theorem flat_snoc {c:Scs [.s,.b,.l]} {cs:List (Scs [.s,.b,.l])}:(cs++[c]).flatMap (Scs.vals [.s,.b,.l])=cs.flatMap (Scs.vals [.s,.b,.l])++[.string c.1,.bool c.2.1,.slice c.2.2.1.a c.2.2.1.n c.2.2.1.c]:=by
 rw [List.flatMap_append,List.flatMap_singleton,vals_3]
abbrev WlP (x:DLedger) (to:ByteArray) (m:Int) (mo:DMoney) (ra:DRat) (code:Int):Prop :=
 (¬ LedgerOkP x∧mo=zeroM∧ra=zeroR∧code=1)∨(LedgerOkP x∧ConvP x.2.2.1 x.2.2.2.1 (x.1.map monOf) to m mo ra code)
theorem wlP_inj {x:DLedger} {to:ByteArray} {m:Int} {mo mo':DMoney} {ra ra':DRat} {c c':Int} (h:WlP x to m mo ra c) (h':WlP x to m mo' ra' c'):mo=mo'∧ra=ra'∧c=c':=by
 rcases h with ⟨n,a,b,k⟩ | ⟨f,hc⟩
 ·rcases h' with ⟨_,a',b',k'⟩ | ⟨f',_⟩
  ·exact⟨a.trans a'.symm,b.trans b'.symm,k.trans k'.symm⟩
  ·exact absurd f' n
 ·rcases h' with ⟨n',_⟩ | ⟨_,hc'⟩
  ·exact absurd f n'
  ·exact convP_inj hc hc'
abbrev WlPost (V:Know) (x:DLedger) (to:ByteArray) (m:Int):Know→Value→Prop:=fun V' r=>V.le V'∧∃ c mo f c' ra g code,r=.tuple #[Sh1.val (.g [.s,.b,.l]) c,Sh1.val (.g [.b,.l,.l]) c',.int .i64 code] ∧
 rMoney.R V' c mo f∧rRat.R V' c' ra g∧Own V V' (f++g)∧WlP x to m mo ra code
theorem ledger_elim {V:Know} {c:Scs [.l,.l,.s,.l]} {x:DLedger} {f:List Nat} (h:rLedger.R V c x f):∃ s0 s1 s3 f0 f1 f3,c=(s0,s1,x.2.2.1,s3,())∧LR rAcct V s0 x.1 f0∧LR rRest V s1 x.2.1 f1∧LR rRate V s3 x.2.2.2.1 f3:=by
 obtain⟨c0,c1,c2,c3,cu⟩:=c
 obtain⟨f0,g0,rfl,h0,f1,g1,rfl,h1,⟨e2,_⟩,f3,g3,rfl,h3,_⟩:=h
 replace e2:c2=x.2.2.1:=e2
 subst e2
 exact⟨c0,c1,c3,f0,f1,f3,rfl,h0,h1,h3⟩
theorem map_take_succ {α β:Type} (f:α→β) {l:List α} {i:Nat} (h:i<l.length):(l.take (i+1)).map f=(l.take i).map f++[f l[i]]:=by
 rw [List.take_succ_eq_append_getElem h,List.map_append]; rfl
theorem cI_Wealth {V:Know} (hV:HeI V) (c:Scs [.l,.l,.s,.l]) (x:DLedger) (f:List Nat) (h:rLedger.R V c x f) (to:ByteArray) (m:Int) :
  CallX Tryz.prog V gI_Wealth [Sh1.val (.g [.l,.l,.s,.l]) c,.string to,.int .i64 m] (WlPost V x to m):=by
 refine CallX.of_fits Tryz.mix (fI_Wealth _ _ _) fun _=>?_
 simp only [tI_Wealth,T.wp]
 refine(cI_LedgerOk hV.1 c x f h).mono ?_
 rintro V1 _ ⟨le1,e,rfl,he⟩
 refine⟨nofun,e,rfl,fun hf=>⟨le1,_,_,_,_,_,_,1,rfl,money_0,rat_0,Own.nil,.inl ⟨fun k=>?_,rfl,rfl,rfl⟩⟩,fun ht=>?_⟩
 ·rw [he.2 k] at hf; cases hf
 have ok:=he.1 (by simpa using ht)
 obtain⟨s0,s1,s3,f0,f1,f3,rfl,h0,h1,h3⟩:=ledger_elim h
 have hn:=h0.1
 have h12:=ok.1.1
 refine⟨fun y V'=>V'=V1∧∃ (k:Nat) (cs:List (Scs [.s,.b,.l])) (fp:List Nat),y.2.1=(k:Int)∧k≤x.1.length∧y.1.1=k∧y.1.2=cs.flatMap (Scs.vals [.s,.b,.l])∧Els rMoney V1 cs ((x.1.take k).map monOf) fp,fun y=>((x.1.length:Int)-(y.2.1:Int)).toNat,
  ⟨((0,[]),(0:Int),()),rfl,rfl,0,[],[],rfl,by omega,rfl,rfl,rfl⟩,?_⟩
 rintro⟨⟨n1,ys⟩,(i:Int),u⟩ V' ⟨rfl,k,cs,fp,hk,hkle,hn1,hys,hE⟩
 replace hk:i=(k:Int):=hk
 replace hn1:n1=k:=hn1
 replace hys:ys=cs.flatMap (Scs.vals [.s,.b,.l]):=hys
 subst hk hn1 hys
 refine⟨fun hlt=>?_,fun hge=>?_⟩
 ·have hkl:n1<x.1.length:=by
   have:(n1:Int)<(s0.n:Int):=of_decide_eq_true hlt
   omega
  obtain⟨b1,o1,c1,fc,a1,l1,hR,_⟩:=(h0.le le1).at hkl
  refine⟨_,a1,(by omega:(0:Int)≤(n1:Int)),(by omega:(n1:Int)<(s0.n:Int)),c1,l1,rfl,⟨rfl,(by omega:(n1+1)*48≤140737488355328),(by omega:n1+1≤9223372036854775807)⟩,_,rfl,((n1+1,(cs++[c1.2]).flatMap (Scs.vals [.s,.b,.l])),((n1+1:Nat):Int),()),?_,⟨rfl,n1+1,cs++[c1.2],fp++fc,rfl,hkl,rfl,rfl,?_⟩,?_⟩
  ·rw [nxt hkl (by omega),flat_snoc]; rfl
  ·rw [map_take_succ monOf hkl]
   exact hE.snoc (mon_part hR)
  ·show((x.1.length:Int)-((n1+1:Nat):Int)).toNat<((x.1.length:Int)-(n1:Int)).toNat
   omega
 ·have hkl:n1=x.1.length:=by
   have:¬ (n1:Int)<(s0.n:Int):=of_decide_eq_false hge
   omega
  subst hkl
  rw [List.take_length] at hE
  intro b cp sp hb hcp _
  have hcp':x.1.length≤cp:=hcp
  have le2:=kset_le (x:=(cs.flatMap (Scs.vals [.s,.b,.l])++sp,((34:TypeId),((0,0):Nat × Nat)))) hb
  have L:LR rMoney (kset V' b (cs.flatMap (Scs.vals [.s,.b,.l])++sp,(34,(0,0)))) ⟨some ⟨b,0,none⟩,x.1.length,cp⟩ (x.1.map monOf) (b :: fp) :=
   ⟨(List.length_map ..).symm,hcp,(by omega:x.1.length≤9223372036854775807),.inr ⟨b,[],sp,(34,(0,0)),fp,cs,rfl,by rw [kset_same]; rfl,hE.le le2,rfl⟩⟩
  refine(cI_ConvertSum (hV.le (le1.trans le2)) x.2.2.1 s3 x.2.2.2.1 f3 (h3.le (le1.trans le2)) _ _ _ L to m).mono ?_
  rintro V3 _ ⟨le3,c3,mo,g3,c3',ra,g3',code,rfl,R,R',O,hc⟩
  have l2:=le1.trans le2
  exact⟨nofun,(c3,c3',code,()),rfl,l2.trans le3,c3,mo,g3,c3',ra,g3',code,rfl,R,R',O.pre l2,.inr ⟨ok,hc⟩⟩
theorem cS_l11Form {V:Know} (hV:HcS V) (p:ByteArray) (s:SlV) (l:List DRate) (f:List Nat) (h:LR rRate V s l f) (to:ByteArray) (m:Int) :
  CallX Tryz.prog V gS_l11Form [Sh1.val (.g [.s,.l]) (p,s,()),.string to,.int .i64 m] (OkPost V (FormP p l to m)):=by
 refine CallX.of_fits Tryz.mix (fS_l11Form _ _ _) fun _=>?_
 simp only [tS_l11Form,T.wp]
 refine(cS_RatesOk p s l f h).mono ?_
 rintro V1 _ ⟨le1,e,rfl,he⟩
 refine⟨nofun,e,rfl,fun ht=>(kS_CurKnown (hV.le le1) to).mono ?_,fun hf=>not_ok le1 fun k=>?_⟩
 ·rintro V2 _ ⟨le2,rfl⟩
  refine⟨nofun,_,rfl,fun ht2=>(rS_l06Mode V2 m).mono ?_,fun hf=>not_ok (le1.trans le2) fun k=>?_⟩
  ·rintro V3 _ ⟨rfl,rfl⟩
   exact⟨nofun,_,rfl,le1.trans le2,_,rfl,⟨fun k=>⟨he.1 ht,ht2,(of_decide_eq_true k:0≤m∧m≤6)⟩,fun k=>decide_eq_true (show 0≤m∧m≤6 from k.2.2)⟩⟩
  ·rw [k.2.1] at hf; cases hf
 ·rw [he.2 k.1] at hf; cases hf
theorem cS_ConvertSum {V:Know} (hV:HcS V) (p:ByteArray) (s:SlV) (l:List DRate) (f:List Nat) (h:LR rRate V s l f) (t:SlV) (ms:List DMoney) (g:List Nat) (hm:LR rMoney V t ms g) (to:ByteArray) (m:Int) :
  CallX Tryz.prog V gS_ConvertSum [Sh1.val (.g [.s,.l]) (p,s,()),Sc.val .l t,.string to,.int .i64 m] (ConvPost V p l ms to m):=by
 refine CallX.of_fits Tryz.mix (fS_ConvertSum _ _ _ _) fun _=>?_
 have hn:=hm.1
 have h63:=hm.2.2.1
 simp only [tS_ConvertSum,T.wp]
 refine⟨fun y V'=>V.le V'∧∃ i:Nat,y.1=(i:Int)∧i≤ms.length∧MonsP ms i,fun y=>((ms.length:Int)-(y.1:Int)).toNat,⟨((0:Int),ByteArray.empty,false,⟨none,0,0⟩,false,⟨none,0,0⟩,⟨none,0,0⟩,()),rfl,Know.le.refl _,0,rfl,by omega,fun i _ h=>by omega⟩,?_⟩
 rintro⟨(i:Int),d1,d2,d3,d4,d5,d6,u⟩ V1 ⟨le1,k,hk,hkle,hmo⟩
 replace hk:i=(k:Int):=hk
 subst hk
 refine⟨fun hlt=>?_,fun hge=>?_⟩
 ·have hkl:k<ms.length:=by
   have:(k:Int)<(t.n:Int):=of_decide_eq_true hlt
   omega
  obtain⟨ad,ts,gg,a1,ld,L⟩:=(hm.le le1).mon hkl
  refine⟨ad,a1,(by omega:(0:Int)≤(k:Int)),(by omega:(k:Int)<(t.n:Int)),(ms[k].1,ms[k].2.1,ts,()),ld,(cS_MoneyOk ms[k].1 ms[k].2.1 ts ms[k].2.2.1 gg L).mono ?_⟩
  rintro V2 _ ⟨le2,e,rfl,he⟩
  refine⟨nofun,e,rfl,fun hf=>conv_0 (le1.trans le2) (.inl ⟨fun kk=>?_,rfl,rfl,rfl⟩),fun ht=>⟨_,rfl,(((k+1:Nat):Int),d1,d2,d3,d4,d5,d6,()),by rw [nxt hkl (by omega)]; rfl,⟨le1.trans le2,k+1,rfl,hkl,mons_succ hkl hmo (he.1 (by simpa using ht))⟩,?_⟩⟩
  ·rw [he.2 (kk.2 k hkl hkl)] at hf; cases hf
  ·show((ms.length:Int)-((k+1:Nat):Int)).toNat<((ms.length:Int)-(k:Int)).toNat
   omega
 have hkl:¬ k<ms.length:=by
  have:¬ (k:Int)<(t.n:Int):=of_decide_eq_false hge
  omega
 have hmons:=ms_end (P:=MonsP ms) hkle hkl hmo
 refine(cS_l11Form (hV.le le1) p s l f (h.le le1) to m).mono ?_
 rintro V2 _ ⟨le2,e,rfl,he⟩
 have l2:=le1.trans le2
 refine⟨nofun,e,rfl,fun hf=>conv_0 l2 (.inl ⟨fun kk=>?_,rfl,rfl,rfl⟩),fun ht=>?_⟩
 ·rw [he.2 kk.1] at hf; cases hf
 have ok:FormP p l to m∧MonsP ms ms.length:=⟨he.1 (by simpa using ht),hmons⟩
 have G:=ratesG ok.1.1
 refine(zeroS V2).mono ?_
 rintro V3 _ ⟨le3,c3,f3,rfl,R3⟩
 replace R3:rRat.R V3 c3 nought f3:=R3
 have l3:=l2.trans le3
 refine⟨nofun,c3,rfl,?_⟩
 refine⟨fun y V'=>V3.le V'∧∃ (i:Nat) (x:DRat) (fx:List Nat),y.2.1=(i:Int)∧i≤ms.length∧rRat.R V' y.2.2.2.2.2.2.2.2 x fx∧RatOkP x.1 x.2.1 x.2.2.1∧HowsP p l ms to i∧(((y.1:Bool)=true∧∀ y g,Run p l to (ms.drop i) x y g→Run p l to ms nought y g)∨((y.1:Bool)=false∧∃ y,Run p l to ms nought y false)),fun y=>((ms.length:Int)-(y.2.1:Int)).toNat,
  ⟨(true,(0:Int),d1,d2,d3,d4,d5,d6,c3),rfl,Know.le.refl _,0,nought,f3,rfl,by omega,R3,nought_ok,fun i _ h=>by omega,.inl ⟨rfl,fun y g h=>h⟩⟩,?_⟩
 rintro⟨good,(i:Int),q1,q2,q3,q4,q5,q6,c4⟩ V4 ⟨le4,k,x,fx,hk,hkle,R4,hx,hh,hg⟩
 replace hk:i=(k:Int):=hk
 replace R4:rRat.R V4 c4 x fx:=R4
 replace hg:(good=true∧∀ y g,Run p l to (ms.drop k) x y g→Run p l to ms nought y g)∨(good=false∧∃ y,Run p l to ms nought y false):=hg
 subst hk
 have l4:=l3.trans le4
 refine⟨fun hlt=>?_,fun hge=>?_⟩
 ·have hkl:k<ms.length:=by
   have:(k:Int)<(t.n:Int):=of_decide_eq_true hlt
   omega
  obtain⟨ad,ts,gg,a1,ld,L⟩:=(hm.le l4).mon hkl
  have mok:=ok.2 k hkl hkl
  refine⟨ad,a1,(by omega:(0:Int)≤(k:Int)),(by omega:(k:Int)<(t.n:Int)),(ms[k].1,ms[k].2.1,ts,()),ld,(cS_RateHow (hV.le l4) p s l f (h.le l4) ms[k].1 to).mono ?_⟩
  rintro V5 _ ⟨le5,rfl⟩
  have l5:=l4.trans le5
  refine⟨nofun,_,rfl,fun hz=>conv_0 l5 (.inr (.inl ⟨ok,fun kk=>kk k hkl hkl (by simpa using hz),rfl,rfl,rfl⟩)),fun hz=>?_⟩
  have hwk0:how p l ms[k].1 to≠0:=by simpa using hz
  have hwk:=hwk0
  rw [how_ok ok.1.1 mok.1 ok.1.2.1] at hwk
  obtain⟨b1,b2,b3⟩:=ex_bd G p to ms[k] mok
  refine(cS_Exact (hV.le l5) p s l f (h.le l5) ms[k] ts gg (L.le le5) to ok.1.1 mok ok.1.2.1 hwk).mono ?_
  rintro V6 r6 h6
  obtain⟨le6,c6,z,f6,rfl,R6,O6,hz6⟩:=ratP_fit b2 b1 b3 h6
  have R4':=rRat.le R4 (le5.trans le6)
  obtain⟨a5,b5,g5,g5',e5,A5,B5,_⟩:=rat_elim R4'
  subst e5
  obtain⟨a6,b6,g6,g6',rfl,A6,B6,rfl⟩:=rat_elim R6
  refine⟨nofun,(_,true,()),rfl,(cS_RatAdd V6 x.1 a5 b5 z.1 a6 b6 x.2.1 x.2.2.1 z.2.1 z.2.2.1 _ _ _ _ A5 B5 A6 B6 hx (redS_ok b2 hz6 rfl)).mono ?_⟩
  rintro V7 _ ⟨le7,c7,y7,e7,f7,rfl,R7,O7,hy7⟩
  have st:SumStep p l to x ms[k] y7 e7:=⟨z,hz6,hy7⟩
  have l47:=(le5.trans le6).trans le7
  have hh':=hows_succ hkl hh hwk0
  have meas:((ms.length:Int)-((k+1:Nat):Int)).toNat<((ms.length:Int)-(k:Int)).toNat:=by omega
  refine⟨nofun,(c7,e7,()),rfl,fun hgood=>⟨fun _=>⟨fun he7=>?_,fun he7=>?_⟩,nofun⟩,fun hbad=>?_⟩
  ·refine⟨_,rfl,(e7,((k+1:Nat):Int),q1,q2,q3,q4,q5,q6,c7),by rw [nxt hkl (by omega)]; rfl,⟨le4.trans l47,k+1,y7,f7,rfl,hkl,R7,?_,hh',.inl ⟨he7,fun yy g hrun=>?_⟩⟩,meas⟩
   ·have e7':e7=true:=he7
    subst e7'
    exact step_ok G (den_pos hx) st
   ·rcases hg with ⟨_,hr⟩ | ⟨hb,_⟩
    ·refine hr _ _ ?_
     rw [drop_at hkl]
     exact⟨y7,e7,st,.inl ⟨he7,hrun⟩⟩
    ·have:good=true:=hgood
     rw [hb] at this; cases this
  ·refine⟨_,rfl,(e7,((k+1:Nat):Int),q1,q2,q3,q4,q5,q6,(x.1,a5,b5,())),by rw [nxt hkl (by omega)]; rfl,⟨le4.trans l47,k+1,x,_,rfl,hkl,rRat.le R4' le7,hx,hh',.inr ⟨he7,?_⟩⟩,meas⟩
   rcases hg with ⟨_,hr⟩ | ⟨_,hb⟩
   ·refine⟨y7,hr _ _ ?_⟩
    rw [drop_at hkl]
    exact⟨y7,e7,st,.inr ⟨he7,rfl⟩⟩
   ·exact hb
  ·refine⟨_,rfl,(false,((k+1:Nat):Int),q1,q2,q3,q4,q5,q6,(x.1,a5,b5,())),by rw [nxt hkl (by omega)]; rfl,⟨le4.trans l47,k+1,x,_,rfl,hkl,rRat.le R4' le7,hx,hh',.inr ⟨rfl,?_⟩⟩,meas⟩
   rcases hg with ⟨hb,_⟩ | ⟨_,hb⟩
   ·have:good=false:=hbad
    rw [hb] at this; cases this
   ·exact hb
 ·have hkl:k=ms.length:=by
   have:¬ (k:Int)<(t.n:Int):=of_decide_eq_false hge
   omega
  subst hkl
  obtain⟨a5,b5,g5,g5',rfl,A5,B5,rfl⟩:=rat_elim R4
  refine(cS_RatMoney to x a5 b5 _ _ A5 B5 hx m ok.1.2.2 ok.1.2.1).mono ?_
  rintro V5 _ ⟨le5,c5,mo,f5,c5',ra,g5,e5,rfl,R5,R5',O5,hout⟩
  have l5:=l4.trans le5
  refine⟨nofun,(c5,c5',e5,()),rfl,fun hb=>?_,fun hgood=>?_⟩
  ·rcases hg with ⟨hg1,_⟩ | ⟨_,hg2⟩
   ·rw [hg1] at hb; cases hb
   ·exact conv_0 l5 (.inr (.inr (.inr ⟨ok,hh,hg2,rfl,rfl,rfl⟩)))
  ·have hrun:Run p l to ms nought x true:=by
    rcases hg with ⟨_,hr⟩ | ⟨hg1,_⟩
    ·exact hr x true (by rw [List.drop_length]; exact⟨rfl,rfl⟩)
    ·rw [hg1] at hgood; cases hgood
   refine⟨fun hf=>?_,fun ht=>⟨l5,c5,mo,f5,c5',ra,g5,0,rfl,R5,R5',O5.pre l4,.inr (.inr (.inl ⟨ok,hh,x,hrun,e5,hout,by rw [if_pos (by simpa using ht)]⟩))⟩⟩
   have e0:e5=false:=by simpa using hf
   subst e0
   obtain⟨e,q,hq,⟨_,hb,_⟩ | ⟨_,_,hmo,hra⟩⟩:=id hout
   ·cases hb
   subst hmo
   subst hra
   exact conv_0 l5 (.inr (.inr (.inl ⟨ok,hh,x,hrun,false,hout,rfl⟩)))
theorem nought_add {p:ByteArray} {l:List DRate} {to:ByteArray} (G:RatesG l) {m:DMoney} {z:DRat} (hz:RedS (exS p l m to) (exD p l m to) z true):SumStep p l to nought m z true:=by
 have hD:=(unitD_bd G p m.1 to).1
 obtain⟨v,zp,_⟩:=redS_val hD hz
 refine⟨z,hz,?_⟩
 have e0:sval nought.1 nought.2.1=0:=rfl
 have e1:valN nought.2.2.1=1:=valN_one 1
 rw [e0,e1,Int.zero_mul,Int.zero_add,Int.mul_one,Int.one_mul]
 exact redS_cross hD zp v.symm hz
theorem mons_one {m:DMoney}:MonsP [m] [m].length↔MoneyOkP m.1 m.2.1 m.2.2.1:=by
 constructor
 ·intro h; exact h 0 (by simp) (by simp)
 ·intro h i hi _
  have:i=0:=by simpa using hi
  subst this
  exact h
theorem hows_one {p:ByteArray} {l:List DRate} {to:ByteArray} {m:DMoney}:HowsP p l [m] to [m].length↔how p l m.1 to≠0:=by
 constructor
 ·intro h; exact h 0 (by simp) (by simp)
 ·intro h i hi _
  have:i=0:=by simpa using hi
  subst this
  exact h
theorem cS_Convert {V:Know} (hV:HcS V) (p:ByteArray) (s:SlV) (l:List DRate) (f:List Nat) (h:LR rRate V s l f) (cm:Scs [.s,.b,.l]) (x:DMoney) (g:List Nat) (hm:rMoney.R V cm x g) (to:ByteArray) (m:Int) :
  CallX Tryz.prog V gS_Convert [Sh1.val (.g [.s,.l]) (p,s,()),Sh1.val (.g [.s,.b,.l]) cm,.string to,.int .i64 m] (ConvPost V p l [x] to m):=by
 refine CallX.of_fits Tryz.mix (fS_Convert _ _ _ _) fun _=>?_
 simp only [tS_Convert,T.wp]
 obtain⟨t,gg,rfl,L⟩:=money_elim hm
 refine(cS_MoneyOk x.1 x.2.1 t x.2.2.1 gg L).mono ?_
 rintro V1 _ ⟨le1,e1,rfl,he1⟩
 refine⟨nofun,e1,rfl,fun hf=>conv_0 le1 (.inl ⟨fun kk=>?_,rfl,rfl,rfl⟩),fun ht1=>?_⟩
 ·rw [he1.2 (mons_one.1 kk.2)] at hf; cases hf
 have mok:=he1.1 (by simpa using ht1)
 refine(cS_l11Form (hV.le le1) p s l f (h.le le1) to m).mono ?_
 rintro V2 _ ⟨le2,e2,rfl,he2⟩
 have l2:=le1.trans le2
 refine⟨nofun,e2,rfl,fun hf=>conv_0 l2 (.inl ⟨fun kk=>?_,rfl,rfl,rfl⟩),fun ht2=>?_⟩
 ·rw [he2.2 kk.1] at hf; cases hf
 have ok:FormP p l to m∧MonsP [x] [x].length:=⟨he2.1 (by simpa using ht2),mons_one.2 mok⟩
 have G:=ratesG ok.1.1
 refine(cS_RateHow (hV.le l2) p s l f (h.le l2) x.1 to).mono ?_
 rintro V3 _ ⟨le3,rfl⟩
 have l3:=l2.trans le3
 refine⟨nofun,_,rfl,fun hz=>conv_0 l3 (.inr (.inl ⟨ok,fun kk=>hows_one.1 kk (by simpa using hz),rfl,rfl,rfl⟩)),fun hz=>?_⟩
 have hw0:how p l x.1 to≠0:=by simpa using hz
 have hw:=hw0
 rw [how_ok ok.1.1 mok.1 ok.1.2.1] at hw
 obtain⟨b1,b2,b3⟩:=ex_bd G p to x mok
 refine(cS_Exact (hV.le l3) p s l f (h.le l3) x t gg (L.le l3) to ok.1.1 mok ok.1.2.1 hw).mono ?_
 rintro V4 r4 h4
 obtain⟨le4,c4,z,f4,rfl,R4,O4,hz4⟩:=ratP_fit b2 b1 b3 h4
 obtain⟨a5,b5,g5,g5',rfl,A5,B5,rfl⟩:=rat_elim R4
 have l4:=l3.trans le4
 refine⟨nofun,(_,true,()),rfl,(cS_RatMoney to z a5 b5 _ _ A5 B5 (redS_ok b2 hz4 rfl) m ok.1.2.2 ok.1.2.1).mono ?_⟩
 rintro V5 _ ⟨le5,c5,mo,f5,c5',ra,g5,e5,rfl,R5,R5',O5,hout⟩
 have l5:=l4.trans le5
 have hrun:Run p l to [x] nought z true:=⟨z,true,nought_add G hz4,.inl ⟨rfl,rfl,rfl⟩⟩
 have hh:=hows_one.2 hw0
 refine⟨nofun,(c5,c5',e5,()),rfl,nofun,fun _=>⟨fun hf=>?_,fun ht=>⟨l5,c5,mo,f5,c5',ra,g5,0,rfl,R5,R5',O5.pre l4,.inr (.inr (.inl ⟨ok,hh,z,hrun,e5,hout,by rw [if_pos (by simpa using ht)]⟩))⟩⟩⟩
 have e0:e5=false:=by simpa using hf
 subst e0
 obtain⟨e,q,hq,⟨_,hb,_⟩ | ⟨_,_,hmo,hra⟩⟩:=id hout
 ·cases hb
 subst hmo
 subst hra
 exact conv_0 l5 (.inr (.inr (.inl ⟨ok,hh,z,hrun,false,hout,rfl⟩)))
theorem cS_Wealth {V:Know} (hV:HcS V) (c:Scs [.l,.l,.s,.l]) (x:DLedger) (f:List Nat) (h:rLedger.R V c x f) (to:ByteArray) (m:Int) :
  CallX Tryz.prog V gS_Wealth [Sh1.val (.g [.l,.l,.s,.l]) c,.string to,.int .i64 m] (WlPost V x to m):=by
 refine CallX.of_fits Tryz.mix (fS_Wealth _ _ _) fun _=>?_
 simp only [tS_Wealth,T.wp]
 refine(cS_LedgerOk hV c x f h).mono ?_
 rintro V1 _ ⟨le1,e,rfl,he⟩
 refine⟨nofun,e,rfl,fun hf=>⟨le1,_,_,_,_,_,_,1,rfl,money_0,rat_0,Own.nil,.inl ⟨fun k=>?_,rfl,rfl,rfl⟩⟩,fun ht=>?_⟩
 ·rw [he.2 k] at hf; cases hf
 have ok:=he.1 (by simpa using ht)
 obtain⟨s0,s1,s3,f0,f1,f3,rfl,h0,h1,h3⟩:=ledger_elim h
 have hn:=h0.1
 have h12:=ok.1.1
 refine⟨fun y V'=>V'=V1∧∃ (k:Nat) (cs:List (Scs [.s,.b,.l])) (fp:List Nat),y.2.1=(k:Int)∧k≤x.1.length∧y.1.1=k∧y.1.2=cs.flatMap (Scs.vals [.s,.b,.l])∧Els rMoney V1 cs ((x.1.take k).map monOf) fp,fun y=>((x.1.length:Int)-(y.2.1:Int)).toNat,
  ⟨((0,[]),(0:Int),()),rfl,rfl,0,[],[],rfl,by omega,rfl,rfl,rfl⟩,?_⟩
 rintro⟨⟨n1,ys⟩,(i:Int),u⟩ V' ⟨rfl,k,cs,fp,hk,hkle,hn1,hys,hE⟩
 replace hk:i=(k:Int):=hk
 replace hn1:n1=k:=hn1
 replace hys:ys=cs.flatMap (Scs.vals [.s,.b,.l]):=hys
 subst hk hn1 hys
 refine⟨fun hlt=>?_,fun hge=>?_⟩
 ·have hkl:n1<x.1.length:=by
   have:(n1:Int)<(s0.n:Int):=of_decide_eq_true hlt
   omega
  obtain⟨b1,o1,c1,fc,a1,l1,hR,_⟩:=(h0.le le1).at hkl
  refine⟨_,a1,(by omega:(0:Int)≤(n1:Int)),(by omega:(n1:Int)<(s0.n:Int)),c1,l1,rfl,⟨rfl,(by omega:(n1+1)*48≤140737488355328),(by omega:n1+1≤9223372036854775807)⟩,_,rfl,((n1+1,(cs++[c1.2]).flatMap (Scs.vals [.s,.b,.l])),((n1+1:Nat):Int),()),?_,⟨rfl,n1+1,cs++[c1.2],fp++fc,rfl,hkl,rfl,rfl,?_⟩,?_⟩
  ·rw [nxt hkl (by omega),flat_snoc]; rfl
  ·rw [map_take_succ monOf hkl]
   exact hE.snoc (mon_part hR)
  ·show((x.1.length:Int)-((n1+1:Nat):Int)).toNat<((x.1.length:Int)-(n1:Int)).toNat
   omega
 ·have hkl:n1=x.1.length:=by
   have:¬ (n1:Int)<(s0.n:Int):=of_decide_eq_false hge
   omega
  subst hkl
  rw [List.take_length] at hE
  intro b cp sp hb hcp _
  have hcp':x.1.length≤cp:=hcp
  have le2:=kset_le (x:=(cs.flatMap (Scs.vals [.s,.b,.l])++sp,((34:TypeId),((0,0):Nat × Nat)))) hb
  have L:LR rMoney (kset V' b (cs.flatMap (Scs.vals [.s,.b,.l])++sp,(34,(0,0)))) ⟨some ⟨b,0,none⟩,x.1.length,cp⟩ (x.1.map monOf) (b :: fp) :=
   ⟨(List.length_map ..).symm,hcp,(by omega:x.1.length≤9223372036854775807),.inr ⟨b,[],sp,(34,(0,0)),fp,cs,rfl,by rw [kset_same]; rfl,hE.le le2,rfl⟩⟩
  refine(cS_ConvertSum (hV.le (le1.trans le2)) x.2.2.1 s3 x.2.2.2.1 f3 (h3.le (le1.trans le2)) _ _ _ L to m).mono ?_
  rintro V3 _ ⟨le3,c3,mo,g3,c3',ra,g3',code,rfl,R,R',O,hc⟩
  have l2:=le1.trans le2
  exact⟨nofun,(c3,c3',code,()),rfl,l2.trans le3,c3,mo,g3,c3',ra,g3',code,rfl,R,R',O.pre l2,.inr ⟨ok,hc⟩⟩
theorem outP_len {to:ByteArray} {m:Int} {x:DRat} {mo:DMoney} {ra:DRat} {ok:Bool} (h:OutP to m x mo ra ok):mo.2.2.1.length≤18∧ra.2.1.length≤18∧ra.2.2.1.length≤18:=by
 obtain⟨e,q,_,⟨l4,_,rfl,p,q',_,⟨a,b,_,rfl⟩ | ⟨_,k,_⟩⟩ | ⟨_,_,rfl,rfl⟩⟩:=h
 ·exact⟨by show q.length≤18; omega,a,b⟩
 ·cases k
 ·simp
theorem convP_len {p:ByteArray} {l:List DRate} {ms:List DMoney} {to:ByteArray} {m:Int} {mo:DMoney} {ra:DRat} {c:Int} (h:ConvP p l ms to m mo ra c):mo.2.2.1.length≤18∧ra.2.1.length≤18∧ra.2.2.1.length≤18:=by
 rcases h with ⟨_,rfl,rfl,_⟩ | ⟨_,_,rfl,rfl,_⟩ | ⟨_,_,x,_,ok,o,_⟩ | ⟨_,_,_,rfl,rfl,_⟩
 ·simp
 ·simp
 ·exact outP_len o
 ·simp
theorem rates_elim {V:Know} {c:Scs [.s,.l]} {x:DRates} {f:List Nat} (h:rRates.R V c x f):∃ s g,c=(x.1,s,())∧LR rRate V s x.2.1 g:=by
 obtain⟨c0,c1,cu⟩:=c
 obtain⟨⟨e0,_⟩,g,r,rfl,hs,_⟩:=h
 replace e0:c0=x.1:=e0
 subst e0
 exact⟨c1,g,rfl,hs⟩
theorem totE_int0:∀ l:List Lim,totE rI l=0
 | []=>rfl
 | _ :: l=>by rw [totE,totE_int0 l]; rfl
theorem outP_cur {to:ByteArray} {m:Int} {x:DRat} {mo:DMoney} {ra:DRat} {ok:Bool} (h:OutP to m x mo ra ok):mo.1.size≤to.size:=by
 obtain⟨e,q,_,⟨_,_,rfl,_⟩ | ⟨_,_,rfl,_⟩⟩:=h
 ·exact Nat.le_refl _
 ·exact Nat.zero_le _
theorem convP_tot0 {p:ByteArray} {l:List DRate} {ms:List DMoney} {to:ByteArray} {m:Int} {mo:DMoney} {ra:DRat} {c:Int} (h:ConvP p l ms to m mo ra c) (hs:to.size≤1048000):rMoney.tot mo≤1048576:=by
 have e:rMoney.tot mo=mo.1.size+(mo.2.2.1.length+totE rI mo.2.2.1+0):=rfl
 have hl:=(convP_len h).1
 have hc:mo.1.size≤to.size:=by
  rcases h with ⟨_,rfl,_⟩ | ⟨_,_,rfl,_⟩ | ⟨_,_,x,_,ok,o,_⟩ | ⟨_,_,_,rfl,_⟩
  ·exact Nat.zero_le _
  ·exact Nat.zero_le _
  ·exact outP_cur o
  ·exact Nat.zero_le _
 rw [e,totE_int0]
 omega
theorem convP_tot1 {p:ByteArray} {l:List DRate} {ms:List DMoney} {to:ByteArray} {m:Int} {mo:DMoney} {ra:DRat} {c:Int} (h:ConvP p l ms to m mo ra c):rRat.tot ra≤1048576:=by
 have e:rRat.tot ra=ra.2.1.length+totE rI ra.2.1+(ra.2.2.1.length+totE rI ra.2.2.1+0):=rfl
 have hl:=(convP_len h).2
 rw [e,totE_int0,totE_int0]
 omega
theorem convP_known {p:ByteArray} {l:List DRate} {ms:List DMoney} {to:ByteArray} {m:Int} {mo:DMoney} {ra:DRat} {c:Int} (h:ConvP p l ms to m mo ra c):rMoney.tot mo≤1048576:=by
 by_cases hs:to.size≤1048000
 ·exact convP_tot0 h hs
 ·have hk:¬ known to=true:=fun k=>hs (by
   unfold known curFrom at k
   cases hf:(curI.drop 0).find? (curHas to) with
   | none=>rw [hf] at k; cases k
   | some r =>
    have h1:=List.find?_some hf
    have h2:=List.mem_of_find?_eq_some hf
    have h3:∀ r∈curI,r.1.size≤1048000:=by decide +kernel
    have e:r.1=to:=text_eq.1 h1
    rw [← e]
    exact h3 r (by simpa using h2))
  rcases h with ⟨_,rfl,_⟩ | ⟨f,_⟩ | ⟨f,_⟩ | ⟨f,_⟩
  ·decide
  all_goals exact absurd f.1.2.1 hk
theorem uI_Convert {V:Know} (hV:HeI V) (c:Scs [.s,.l]) (x:DRates) (f:List Nat) (h:rRates.R V c x f) (cm:Scs [.s,.b,.l]) (y:DMoney) (g:List Nat) (hm:rMoney.R V cm y g) (to:ByteArray) (m:Int) :
  CallX Tryz.prog V gI_Convert [Sh1.val (.g [.s,.l]) c,Sh1.val (.g [.s,.b,.l]) cm,.string to,.int .i64 m] (ConvPost V x.1 x.2.1 [y] to m):=by
 obtain⟨s,g',rfl,L⟩:=rates_elim h
 exact cI_Convert hV x.1 s x.2.1 g' L cm y g hm to m
theorem uS_Convert {V:Know} (hV:HcS V) (c:Scs [.s,.l]) (x:DRates) (f:List Nat) (h:rRates.R V c x f) (cm:Scs [.s,.b,.l]) (y:DMoney) (g:List Nat) (hm:rMoney.R V cm y g) (to:ByteArray) (m:Int) :
  CallX Tryz.prog V gS_Convert [Sh1.val (.g [.s,.l]) c,Sh1.val (.g [.s,.b,.l]) cm,.string to,.int .i64 m] (ConvPost V x.1 x.2.1 [y] to m):=by
 obtain⟨s,g',rfl,L⟩:=rates_elim h
 exact cS_Convert hV x.1 s x.2.1 g' L cm y g hm to m
theorem uI_ConvertSum {V:Know} (hV:HeI V) (c:Scs [.s,.l]) (x:DRates) (f:List Nat) (h:rRates.R V c x f) (t:SlV) (ms:List DMoney) (g:List Nat) (hm:LR rMoney V t ms g) (to:ByteArray) (m:Int) :
  CallX Tryz.prog V gI_ConvertSum [Sh1.val (.g [.s,.l]) c,Sc.val .l t,.string to,.int .i64 m] (ConvPost V x.1 x.2.1 ms to m):=by
 obtain⟨s,g',rfl,L⟩:=rates_elim h
 exact cI_ConvertSum hV x.1 s x.2.1 g' L t ms g hm to m
theorem uS_ConvertSum {V:Know} (hV:HcS V) (c:Scs [.s,.l]) (x:DRates) (f:List Nat) (h:rRates.R V c x f) (t:SlV) (ms:List DMoney) (g:List Nat) (hm:LR rMoney V t ms g) (to:ByteArray) (m:Int) :
  CallX Tryz.prog V gS_ConvertSum [Sh1.val (.g [.s,.l]) c,Sc.val .l t,.string to,.int .i64 m] (ConvPost V x.1 x.2.1 ms to m):=by
 obtain⟨s,g',rfl,L⟩:=rates_elim h
 exact cS_ConvertSum hV x.1 s x.2.1 g' L t ms g hm to m
theorem wlP_tot0 {x:DLedger} {to:ByteArray} {m:Int} {mo:DMoney} {ra:DRat} {c:Int} (h:WlP x to m mo ra c):rMoney.tot mo≤1048576:=by
 rcases h with ⟨_,rfl,_⟩ | ⟨_,h⟩
 ·decide
 ·exact convP_known h
theorem wlP_tot1 {x:DLedger} {to:ByteArray} {m:Int} {mo:DMoney} {ra:DRat} {c:Int} (h:WlP x to m mo ra c):rRat.tot ra≤1048576:=by
 rcases h with ⟨_,_,rfl,_⟩ | ⟨_,h⟩
 ·decide
 ·exact convP_tot1 h
end Go.Proofs.YtagjmmpiglgmhaaGreatDoor
