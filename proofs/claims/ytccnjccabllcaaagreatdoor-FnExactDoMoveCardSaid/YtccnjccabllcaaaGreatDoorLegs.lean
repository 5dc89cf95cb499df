/-
  Amounts posted to several accounts of a ledger, in the program and in the reference.
-/
import Derived.Test.YtccnjccabllcaaaGreatDoorPostX
import Derived.Test.YtccnjccabllcaaaGreatDoorPerf
namespace Go.Proofs.YtccnjccabllcaaaGreatDoor
open Sx
set_option maxRecDepth 100000
theorem each_wp {P:Program} {K:Know→List Value→Prop} {V V0:Know} {n:Nat} {rest:List LSh} (z:LShs rest) (p:Nat→Prop) (bad:List Value) {body tail:LShs (.o (.o (.i .i64)) :: rest)→T} {Ns:List (List LV→Know→Prop)} (hn:n≤9223372036854775807)
  (hbody:∀ (V':Know) (i:Nat) (N:List LV→Know→Prop),V.le V'→i<n→(∀ V2,V'.le V2→¬ p i→K V2 bad)→(∀ V2,V'.le V2→p i→N (.v (.int .i64 (IntKind.i64.wrap ((i:Int)+1))) :: LShs.lvs rest z) V2)→(body ((i:Int),z)).wp P K V' V' (Ns++[N]))
  (htail:∀ V',V.le V'→(∀ i,i<n→p i)→∀ N,(tail ((n:Int),z)).wp P K V' V' (Ns++[N])) (hbad:∀ V' i,V.le V'→i<n→¬ p i→K V' bad) :
  (T.lp (.o (.o (.i .i64)) :: rest) (.v (.int .i64 (0:Int)) :: LShs.lvs rest z) fun y=>.br (decide ((y.1:Int)<(n:Int))) (body y) (tail y)).wp P K V V0 Ns:=by
 simp only [T.wp]
 refine⟨fun y V'=>V.le V'∧y.2=z∧∃ i:Nat,(y.1:Int)=(i:Int)∧i≤n∧∀ j,j<i→p j,fun y _=>((n:Int)-(y.1:Int)).toNat,⟨((0:Int),z),rfl,Know.le.refl _,rfl,0,rfl,by omega,fun j hj=>by omega⟩,?_⟩
 rintro⟨(i:Int),z'⟩ V' ⟨hV,hz,k,hk,hle,hall⟩
 replace hk:i=(k:Int):=hk
 replace hz:z'=z:=hz
 subst hk hz
 refine⟨fun hlt=>?_,fun hge=>?_⟩
 ·have h1:k<n:=by
   have:(k:Int)<(n:Int):=of_decide_eq_true hlt
   omega
  refine hbody V' k _ hV h1 (fun V2 h2 hne=>hbad V2 k (hV.trans h2) h1 hne) fun V2 h2 he=>?_
  refine⟨(((k+1:Nat):Int),z'),by rw [nxt h1 (by omega)]; rfl,⟨hV.trans h2,rfl,k+1,rfl,h1,fun j hj=>?_⟩,?_⟩
  ·by_cases e:j=k
   ·subst e; exact he
   ·exact hall j (by omega)
  ·show((n:Int)-((k+1:Nat):Int)).toNat<((n:Int)-(k:Int)).toNat
   omega
 ·have h1:k=n:=by
   have:¬ (k:Int)<(n:Int):=of_decide_eq_false hge
   omega
  subst h1
  exact htail V' hV hall _
def balP (l:List DAcct) (n:ByteArray):DMoney:=match fnd n l with
 | none=>nilM
 | some i=>(l.getD i (n,nilM)).2
theorem balP_some {l:List DAcct} {n:ByteArray} {i:Nat} (h:fnd n l=some i) (hi:i<l.length):balP l n=l[i].2:=by
 rw [balP,h]
 show(l.getD i (n,nilM)).2=_
 rw [getD_at hi]
theorem balP_none {l:List DAcct} {n:ByteArray} (h:fnd n l=none):balP l n=nilM:=by rw [balP,h]
abbrev rNm:Rp [.s] (ByteArray × Unit):=rStr rNil
open Classical in
noncomputable def fitsP (l:List DAcct) (c:ByteArray) (ns:List ByteArray):Int:=if ∃ n∈ns,fnd n l=none then 3 else if ∃ n∈ns,(balP l n).1≠c then 5 else 0
noncomputable def postP (x:DLedger) (legs:List DAcct):DLedger × Int:=match postL x.1 legs with
 | none=>(zeroL,8)
 | some l=>((l,x.2),0)
open Classical in
noncomputable def legsP (x:DLedger) (legs:List DAcct):DLedger × Int:=if ∃ g∈legs,fnd g.1 x.1=none then (zeroL,3) else if ∃ g∈legs,(balP x.1 g.1).1≠g.2.1 then (zeroL,5) else postP x legs
theorem postL_cons {l:List DAcct} {g:DAcct} {gs:List DAcct} {y:List DAcct} {ok:Bool} (h:postB l g.1 g.2=(y,ok)):postL l (g :: gs)=if ok=true then postL y gs else none:=by
 rw [postL,h]
 cases ok <;> rfl
theorem nm_at {V:Know} {t:SlV} {ns:List (ByteArray × Unit)} {g:List Nat} (h:LR rNm V t ns g) {i:Nat} (hi:i<ns.length):∃ b o,t.a=some ⟨b,o,none⟩∧loadV V ((⟨b,o,none⟩:Addr).add (i*1)) 1=some [.string ns[i].1]:=by
 obtain⟨b1,o1,c1,fc,a1,l1,hR,_⟩:=h.at hi
 refine⟨b1,o1,a1,?_⟩
 have e:c1.1=ns[i].1:=hR.1.1
 rw [← e]; exact l1
theorem names_ex {α:Type} {f:α→ByteArray} {p:ByteArray→Prop} {ns:List α}:(∃ n∈ns.map f,p n)↔∃ (i:Nat) (h:i<ns.length),p (f ns[i]):=by
 constructor
 ·rintro⟨n,hn,hp⟩
  obtain⟨x,hx,rfl⟩:=List.mem_map.1 hn
  obtain⟨i,hi,rfl⟩:=List.mem_iff_getElem.1 hx
  exact⟨i,hi,hp⟩
 ·rintro⟨i,hi,hp⟩
  exact⟨_,List.mem_map_of_mem (List.getElem_mem hi),hp⟩
theorem cI_BalanceOf (V:Know) (s:SlV) (l:List DAcct) (f:List Nat) (h:LR rAcct V s l f) (ht:totE rAcct l≤1048576) (n:ByteArray):CallX Tryz.prog V gI_BalanceOf [Sh1.val (.g [.l]) (s,()),.string n]
  (fun V' v=>V.le V'∧∃ c f,v=.tuple #[Sh1.val (.g [.s,.b,.l]) c,.bool (decide (fnd n l≠none))]∧rMoney.R V' c (balP l n) f∧Own V V' f):=by
 refine CallX.of_fits Tryz.mix (fI_BalanceOf _ _) fun _=>?_
 simp only [tI_BalanceOf,T.wp]
 refine(cI_AcctAt V s l f h n).mono ?_
 rintro V1 _ ⟨le1,rfl⟩
 refine⟨nofun,_,rfl,fun hlt=>?_,fun hge=>?_⟩
 ·have hf:=at_neg.1 (of_decide_eq_true hlt)
  rw [balP_none hf,hf]
  exact⟨le1,(ByteArray.empty,false,⟨none,0,0⟩,()),[],rfl,nilM_R V1,Own.nil⟩
 obtain⟨i,hi,hfi,hat,_⟩:=at_some (of_decide_eq_false hge)
 have e0:(i:Int).toNat=i:=by omega
 rw [hat,e0,balP_some hfi hi,hfi]
 have hn:=h.1
 obtain⟨b1,o1,c1,fc,a1,l1,hR,_⟩:=(h.le le1).at hi
 have htx:=totE_mem rAcct hi
 have et:rAcct.tot l[i]=l[i].1.size+rMoney.tot l[i].2:=rfl
 refine⟨_,a1,by omega,(by show(i:Int)<(s.n:Int); omega),c1.2,load_part l1 rfl,(kI_moneyCopy V1 c1.2 l[i].2 fc hR.2 (by omega)).mono ?_⟩
 rintro V2 _ ⟨le2,c2,f2,rfl,R2,O2⟩
 exact⟨nofun,c2,rfl,le1.trans le2,c2,f2,rfl,R2,O2.pre le1⟩
theorem cI_haveAccts (V:Know) (c:Scs LedSh) (x:DLedger) (f:List Nat) (h:rLedger.R V c x f) (t:SlV) (ns:List (ByteArray × Unit)) (g:List Nat) (hs:LR rNm V t ns g) :
  CallX Tryz.prog V gI_haveAccts [Sh1.val (.g [.l,.l,.s,.l]) c,Sc.val .l t] (fun V' r=>V.le V'∧∃ k:Int,r=.int .i64 k∧((k=3∧∃ n∈ns.map (·.1),fnd n x.1=none)∨(k=0∧¬ ∃ n∈ns.map (·.1),fnd n x.1=none))):=by
 refine CallX.of_fits Tryz.mix (fI_haveAccts _ _) fun _=>?_
 obtain⟨s0,s1,s3,f0,f1,f3,rfl,L0,_,_⟩:=ledger_elim h
 have hn:=hs.1
 have h63:=hs.2.2.1
 rw [tI_haveAccts]
 refine each_wp () (fun i=>∀ (h:i<ns.length),fnd ns[i].1 x.1≠none) [.int .i64 3] (n:=t.n) h63 (fun V1 i N le1 hi hbad hgo=>?_) (fun V1 le1 hall N=>?_) (fun V1 i le1 hi hne=>?_)
 ·have hi2:i<ns.length:=by omega
  obtain⟨b,o,a1,l1⟩:=nm_at (hs.le le1) hi2
  have e0:(i:Int).toNat=i:=by omega
  simp only [T.wp]
  rw [e0]
  refine⟨_,a1,by omega,by omega,ns[i].1,l1,(cI_AcctAt V1 s0 x.1 f0 (L0.le le1) ns[i].1).mono ?_⟩
  rintro V2 _ ⟨le2,rfl⟩
  refine⟨nofun,_,rfl,fun hlt=>hbad V2 le2 fun k=>k hi2 (at_neg.1 (of_decide_eq_true hlt)),fun hge=>⟨_,rfl,hgo V2 le2 fun _ k=>(of_decide_eq_false hge) (at_neg.2 k)⟩⟩
 ·refine⟨le1,0,rfl,.inr ⟨rfl,fun k=>?_⟩⟩
  obtain⟨i,hi,e⟩:=names_ex.1 k
  exact hall i (by omega) hi e
 ·refine⟨le1,3,rfl,.inl ⟨rfl,names_ex.2 ⟨i,by omega,?_⟩⟩⟩
  exact Decidable.not_not.1 fun k=>hne fun _=>k
theorem cI_match (V:Know) (c:Scs LedSh) (x:DLedger) (f:List Nat) (h:rLedger.R V c x f) (ht:rLedger.tot x≤1048576) (cur:ByteArray) (t:SlV) (ns:List (ByteArray × Unit)) (g:List Nat) (hs:LR rNm V t ns g) :
  CallX Tryz.prog V gI_match [Sh1.val (.g [.l,.l,.s,.l]) c,.string cur,Sc.val .l t] (fun V' r=>V.le V'∧∃ k:Int,r=.int .i64 k∧((k=5∧∃ n∈ns.map (·.1),(balP x.1 n).1≠cur)∨(k=0∧¬ ∃ n∈ns.map (·.1),(balP x.1 n).1≠cur))):=by
 refine CallX.of_fits Tryz.mix (fI_match _ _ _) fun _=>?_
 obtain⟨s0,s1,s3,f0,f1,f3,rfl,L0,_,_⟩:=ledger_elim h
 have hn:=hs.1
 have h63:=hs.2.2.1
 have tt:totE rAcct x.1≤1048576:=by
  have e:rLedger.tot x=x.1.length+totE rAcct x.1+(x.2.1.length+totE rRest x.2.1+rRates.tot x.2.2):=rfl
  omega
 rw [tI_match]
 refine each_wp () (fun i=>∀ (h:i<ns.length),(balP x.1 ns[i].1).1=cur) [.int .i64 5] (n:=t.n) h63 (fun V1 i N le1 hi hbad hgo=>?_) (fun V1 le1 hall N=>?_) (fun V1 i le1 hi hne=>?_)
 ·have hi2:i<ns.length:=by omega
  obtain⟨b,o,a1,l1⟩:=nm_at (hs.le le1) hi2
  have e0:(i:Int).toNat=i:=by omega
  simp only [T.wp]
  rw [e0]
  refine⟨_,a1,by omega,by omega,ns[i].1,l1,(cI_BalanceOf V1 s0 x.1 f0 (L0.le le1) tt ns[i].1).mono ?_⟩
  rintro V2 _ ⟨le2,c2,f2,rfl,R2,_⟩
  have e2:c2.1=(balP x.1 ns[i].1).1:=R2.1.1
  refine⟨nofun,(c2,_,()),rfl,fun hne=>hbad V2 le2 fun k=>?_,fun he=>⟨_,rfl,hgo V2 le2 fun _=>?_⟩⟩
  ·have:=text_eq.2 (e2.trans (k hi2))
   rw [this] at hne; cases hne
  ·exact e2.symm.trans (text_eq.1 (by simpa using he))
 ·refine⟨le1,0,rfl,.inr ⟨rfl,fun k=>?_⟩⟩
  obtain⟨i,hi,e⟩:=names_ex.1 k
  exact e (hall i (by omega) hi)
 ·refine⟨le1,5,rfl,.inl ⟨rfl,names_ex.2 ⟨i,by omega,fun k=>hne fun _=>k⟩⟩⟩
theorem cI_fits (V:Know) (c:Scs LedSh) (x:DLedger) (f:List Nat) (h:rLedger.R V c x f) (ht:rLedger.tot x≤1048576) (cur:ByteArray) (t:SlV) (ns:List (ByteArray × Unit)) (g:List Nat) (hs:LR rNm V t ns g) :
  CallX Tryz.prog V gI_fits [Sh1.val (.g [.l,.l,.s,.l]) c,.string cur,Sc.val .l t] (fun V' r=>V.le V'∧r=.int .i64 (fitsP x.1 cur (ns.map (·.1)))):=by
 refine CallX.of_fits Tryz.mix (fI_fits _ _ _) fun _=>?_
 simp only [tI_fits,T.wp]
 refine(cI_haveAccts V c x f h t ns g hs).mono ?_
 rintro V1 _ ⟨le1,k,rfl,hk⟩
 refine⟨nofun,k,rfl,fun hne=>?_,fun he=>?_⟩
 ·rcases hk with ⟨rfl,hk⟩ | ⟨rfl,_⟩
  ·exact⟨le1,by rw [fitsP,if_pos hk]; rfl⟩
  ·simp at hne
 ·rcases hk with ⟨rfl,_⟩ | ⟨rfl,hk⟩
  ·simp at he
  ·refine(cI_match V1 c x f (rLedger.le h le1) ht cur t ns g (hs.le le1)).mono ?_
   rintro V2 _ ⟨le2,k2,rfl,hk2⟩
   refine⟨nofun,k2,rfl,le1.trans le2,?_⟩
   rw [fitsP,if_neg hk]
   rcases hk2 with ⟨rfl,hk2⟩ | ⟨rfl,hk2⟩
   ·rw [if_pos hk2]; rfl
   ·rw [if_neg hk2]; rfl
theorem ledger_mk {V:Know} {s0 s1 s3:SlV} {c2:ByteArray} {x:DLedger} {f0 f1 f3:List Nat} (h0:LR rAcct V s0 x.1 f0) (h1:LR rRest V s1 x.2.1 f1) (hc:c2=x.2.2.1) (z:c2.size≤9223372036854775807) (h3:LR rRate V s3 x.2.2.2.1 f3) :
  rLedger.R V (s0,s1,c2,s3,()) x (f0++(f1++f3)):=by
 refine rSl.mk (r:=rSl rRest (rStr (rSl rRate rNil))) h0 (rSl.mk (r:=rStr (rSl rRate rNil)) h1 ⟨⟨hc,hc ▸ z⟩,f3,[],by simp,h3,rfl⟩)
theorem cI_post {V0 V:Know} (hV:HcI V) (c:Scs LedSh) (x:DLedger) (f:List Nat) (h:rLedger.R V c x f) (O:Own V0 V f) (le0:V0.le V) (t:SlV) (legs:List DAcct) (g:List Nat) (hs:LR rAcct V t legs g) :
  CallX Tryz.prog V gI_post [Sh1.val (.g [.l,.l,.s,.l]) c,Sc.val .l t] (fun V' v=>V.le V'∧DoPost V0 (postP x legs) V' v):=by
 refine CallX.of_fits Tryz.mix (fI_post _ _) fun _=>?_
 obtain⟨c0,c1,c2,c3,cu⟩:=c
 obtain⟨x0,x1,x2,x3,xu⟩:=x
 obtain⟨f0,g0,rfl,h0,h⟩:=h
 obtain⟨f1,g1,rfl,h1,h⟩:=h
 obtain⟨⟨e2,z2⟩,h⟩:=h
 replace e2:c2=x2:=e2
 subst e2
 obtain⟨f3,g3,rfl,h3,hN⟩:=h
 replace hN:g3=[]:=hN
 subst hN
 rw [List.append_nil] at O
 replace h0:LR rAcct V c0 x0 f0:=h0
 replace h1:LR rRest V c1 x1 f1:=h1
 replace h3:LR rRate V c3 x3 f3:=h3
 have hn:=hs.1
 have h63:=hs.2.2.1
 simp only [tI_post,T.wp]
 refine⟨fun y V'=>V.le V'∧y.2.2=(c1,c2,c3,⟨none,0,0⟩,⟨none,0,0⟩,ByteArray.empty,⟨none,0,0⟩,())∧∃ (k:Nat) (lk:List DAcct) (fk:List Nat),y.1=(k:Int)∧k≤legs.length∧LR rAcct V' y.2.1 lk fk∧Own V0 V' (fk++(f1++f3))∧postL x0 legs=postL lk (legs.drop k),
  fun y _=>((legs.length:Int)-(y.1:Int)).toNat,⟨((0:Int),c0,c1,c2,c3,⟨none,0,0⟩,⟨none,0,0⟩,ByteArray.empty,⟨none,0,0⟩,()),rfl,Know.le.refl _,rfl,0,x0,f0,rfl,Nat.zero_le _,h0,O,by simp⟩,?_⟩
 rintro⟨(i:Int),sk,y1,y2,y3,y4,y5,y6,y7,yu⟩ V1 ⟨le1,hy,k,lk,fk,hk,hkl,Lk,Ok,hp⟩
 replace hk:i=(k:Int):=hk
 subst hk
 replace hy:(y1,y2,y3,y4,y5,y6,y7,yu)=(c1,c2,c3,(⟨none,0,0⟩:SlV),(⟨none,0,0⟩:SlV),ByteArray.empty,(⟨none,0,0⟩:SlV),()):=hy
 simp only [Prod.mk.injEq,and_true] at hy
 obtain⟨rfl,rfl,rfl,rfl,rfl,rfl,rfl⟩:=hy
 replace Lk:LR rAcct V1 sk lk fk:=Lk
 have e0:(k:Int).toNat=k:=by omega
 refine⟨fun hlt=>?_,fun hge=>?_⟩
 ·have hi:k<legs.length:=by
   have:(k:Int)<(t.n:Int):=of_decide_eq_true hlt
   omega
  obtain⟨b,o,cl,fc,a1,l1,hR,_⟩:=(hs.le le1).at hi
  dsimp only
  rw [e0]
  have en:cl.1=legs[k].1:=hR.1.1
  refine⟨_,a1,by omega,(by show(k:Int)<(t.n:Int); omega),cl,l1,(cI_BookPost (hV.le le1) sk lk fk Lk cl.1 cl.2 legs[k].2 fc hR.2).mono ?_⟩
  rintro V2 _ ⟨le2,s2,f2,rfl,L2,O2⟩
  rw [en] at L2 ⊢
  have l2:=le1.trans le2
  obtain⟨⟨l',ok⟩,hpb⟩:∃ r,postB lk legs[k].1 legs[k].2=r:=⟨_,rfl⟩
  rw [hpb] at L2 ⊢
  rw [List.drop_eq_getElem_cons hi,postL_cons hpb] at hp
  refine⟨nofun,((s2,()),ok,()),rfl,fun hf=>?_,fun hT=>?_⟩
  ·have:ok=false:=by simpa using hf
   subst this
   refine⟨l2,?_⟩
   rw [postP,hp]
   exact do_zero (le0.trans l2) 8
  ·have:ok=true:=by simpa using hT
   subst this
   refine⟨_,rfl,(((k+1:Nat):Int),s2,y1,y2,y3,⟨none,0,0⟩,⟨none,0,0⟩,ByteArray.empty,⟨none,0,0⟩,()),by rw [nxt hi (by omega)]; rfl,⟨l2,rfl,k+1,l',f2,rfl,hi,L2,?_,hp⟩,?_⟩
   ·exact(((Ok.sub (List.sublist_append_right fk (f1++f3))).append O2 (le0.trans le1) le2).perm List.perm_append_comm)
   ·show((legs.length:Int)-((k+1:Nat):Int)).toNat<((legs.length:Int)-(k:Int)).toNat
    omega
 ·have hi:k=legs.length:=by
   have:¬ (k:Int)<(t.n:Int):=of_decide_eq_false hge
   omega
  subst hi
  rw [List.drop_length,postL] at hp
  refine⟨le1,?_⟩
  rw [postP,hp]
  exact⟨le0.trans le1,(sk,y1,y2,y3,()),fk++(f1++f3),rfl,ledger_mk (x:=(lk,x1,y2,x3,())) Lk (h1.le le1) rfl z2 (h3.le le1),Ok⟩
end Go.Proofs.YtccnjccabllcaaaGreatDoor
