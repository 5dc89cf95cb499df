/-
  The laws' marks: what writes them, what finds them again; rows and lists of rows.
-/
import Derived.Test.YtfiakghfncempaaGreatDoorShU
import Derived.Test.YtfiakghfncempaaGreatDoorWr
namespace Go.Proofs.YtfiakghfncempaaGreatDoor
open Sx
set_option maxRecDepth 100000
abbrev WordsP (ns:List (ByteArray × Unit)):Prop:=∀ i (h:i<ns.length),WordP ns[i].1
def DealOk (a:ByteArray) (ns:List (ByteArray × Unit)) (w:List Lim) (m:DMoney):Prop:=WordP a∧WordsP ns∧PayP m∧ns.length=w.length
open Classical in
noncomputable def dealRun (x:DLedger) (a:ByteArray) (ns:List (ByteArray × Unit)) (w:List Lim) (m:DMoney):DLedger × Int :=
 if DealOk a ns w m then (if WtP w then (if fitsP x.1 m.1 (a :: ns.map (·.1))≠0 then (zeroL,fitsP x.1 m.1 (a :: ns.map (·.1))) else postP x ((a,negM m) :: legL ns (theOne (ShMon m w)))) else (zeroL,7)) else (zeroL,1)
theorem dealRun_no {x:DLedger} {a:ByteArray} {ns:List (ByteArray × Unit)} {w:List Lim} {m:DMoney} (h:¬ DealOk a ns w m):dealRun x a ns w m=(zeroL,1):=if_neg h
theorem dealRun_wt {x:DLedger} {a:ByteArray} {ns:List (ByteArray × Unit)} {w:List Lim} {m:DMoney} (h:DealOk a ns w m) (k:¬ WtP w):dealRun x a ns w m=(zeroL,7):=(if_pos h).trans (if_neg k)
theorem dealRun_fit {x:DLedger} {a:ByteArray} {ns:List (ByteArray × Unit)} {w:List Lim} {m:DMoney} (h:DealOk a ns w m) (k:WtP w) (hf:fitsP x.1 m.1 (a :: ns.map (·.1))≠0):dealRun x a ns w m=(zeroL,fitsP x.1 m.1 (a :: ns.map (·.1))):=(if_pos h).trans ((if_pos k).trans (if_pos hf))
theorem dealRun_post {x:DLedger} {a:ByteArray} {ns:List (ByteArray × Unit)} {w:List Lim} {m:DMoney} (h:DealOk a ns w m) (k:WtP w) (hf:¬ fitsP x.1 m.1 (a :: ns.map (·.1))≠0) {o:List DMoney} (ho:ShMon m w o):dealRun x a ns w m=postP x ((a,negM m) :: legL ns o):=by
 have e:theOne (ShMon m w)=o:=theOne_eq ho fun y hy=>shMon_one k hy ho
 rw [dealRun,if_pos h,if_pos k,if_neg hf,e]
theorem dealRun_ok {x:DLedger} {a:ByteArray} {ns:List (ByteArray × Unit)} {w:List Lim} {m:DMoney} (h:DealOk a ns w m) (k:WtP w) {o:List DMoney} (ho:ShMon m w o):dealRun x a ns w m=legsP x ((a,negM m) :: legL ns o):=by
 have hl:o.length=ns.length:=(shMon_len ho).trans h.2.2.2.symm
 have e:(((a,negM m):DAcct) :: legL ns o).map (·.1)=a :: ns.map (·.1):=by rw [List.map_cons,legL_names hl]
 rw [legs_fits (c:=m.1),e]
 ·by_cases hf:fitsP x.1 m.1 (a :: ns.map (·.1))≠0
  ·rw [dealRun_fit h k hf,if_pos hf]
  ·rw [dealRun_post h k hf ho,if_neg hf]
 ·intro g hg
  rcases List.mem_cons.1 hg with rfl | hg
  ·rfl
  ·exact legL_cur (shMon_cur ho) g hg
theorem dealRun_zero {x:DLedger} {a:ByteArray} {ns:List (ByteArray × Unit)} {w:List Lim} {m:DMoney}:(dealRun x a ns w m).2≠0→(dealRun x a ns w m).1=zeroL:=by
 unfold dealRun
 split
 ·split
  ·split
   ·intro _; rfl
   ·exact postP_ans
  ·intro _; rfl
 ·intro _; rfl
theorem dealRun_Ans {x:DLedger} {a:ByteArray} {ns:List (ByteArray × Unit)} {w:List Lim} {m:DMoney} (h:LedgerOkP x):Ans (dealRun x a ns w m):=by
 unfold dealRun
 split
 ·split
  ·split
   ·rename_i k
    exact .inr ⟨k,rfl⟩
   ·exact postP_Ans h
  ·exact .inr ⟨by decide,rfl⟩
 ·exact .inr ⟨by decide,rfl⟩
theorem cI_opDeal {V0 V:Know} (hV:HcI V) (c:Scs LedSh) (x:DLedger) (f:List Nat) (h:rLedger.R V c x f) (ht:rLedger.tot x≤1048576) (O:Own V0 V f) (le0:V0.le V) (a:ByteArray) (ha:a.size≤9223372036854775807) (tn:SlV) (ns:List (ByteArray × Unit)) (gn:List Nat) (hn:LR rNm V tn ns gn) (tw:SlV) (w:List Lim) (gw:List Nat) (hw:LR rI V tw w gw) (cm:Scs MonSh) (m:DMoney) (g:List Nat) (hm:rMoney.R V cm m g) :
  CallX Tryz.prog V 300 [qv11 (a,tn,tw,cm.1,cm.2.1,cm.2.2.1,()),qv3 c] (fun V' v=>V.le V'∧DoPost V0 (dealRun x a ns w m) V' v):=by
 refine CallX.of_fits Tryz.mix (fI_opDeal__run _ _) fun _=>?_
 obtain⟨s,rfl,hl,z0⟩:=mon_elim hm
 have hn1:=hn.1
 have hw1:=hw.1
 rw [tI_opDeal__run]
 refine(cI_IsWord V a ha).mono ?_
 rintro _ _ ⟨rfl,e1,rfl,he1⟩
 refine⟨nofun,e1,rfl,fun hf=>?_,fun k1=>?_⟩
 ·rw [dealRun_no (fun k=>by rw [he1.2 k.1] at hf; cases hf)]
  exact⟨Know.le.refl _,do_zero le0 1⟩
 have w1:=he1.1 (by simpa using k1)
 obtain⟨hrd,hnz⟩:=hn.rdN
 refine(cI_areNames _ tn ns gn hn (fun i hi=>hnz _ (List.getElem_mem hi))).mono ?_
 rintro V1 _ ⟨le1,e2,rfl,he2⟩
 refine⟨nofun,e2,rfl,fun hf=>?_,fun k2=>?_⟩
 ·rw [dealRun_no (fun k=>by rw [he2.2 k.2.1] at hf; cases hf)]
  exact⟨le1,do_zero (le0.trans le1) 1⟩
 have w2:=he2.1 (by simpa using k2)
 refine(cI_payable (hV.le le1) (m.1,m.2.1,s,()) m g (rMoney.le hm le1)).mono ?_
 rintro V2 _ ⟨le2,e3,rfl,he3⟩
 have l2:=le1.trans le2
 refine⟨nofun,e3,rfl,fun hf=>?_,fun k3=>?_⟩
 ·rw [dealRun_no (fun k=>by rw [he3.2 k.2.2.1] at hf; cases hf)]
  exact⟨l2,do_zero (le0.trans l2) 1⟩
 have w3:=he3.1 (by simpa using k3)
 refine⟨fun hne=>?_,fun heq=>?_⟩
 ·rw [dealRun_no (fun k=>by
   have e:(tn.n:Int)=(tw.n:Int):=by rw [hn1,hw1,k.2.2.2]
   have hne':((tn.n:Int) != (tw.n:Int))=true:=hne
   rw [e] at hne'; simp at hne')]
  exact⟨l2,do_zero (le0.trans l2) 1⟩
 have w4:ns.length=w.length:=by
  have heq':((tn.n:Int) != (tw.n:Int))=false:=heq
  have:(tn.n:Int)=(tw.n:Int):=by simpa using heq'
  omega
 have ok:DealOk a ns w m:=⟨w1,w2,w3,w4⟩
 refine(cI_WeightsOk V2 tw w gw (hw.le l2)).mono ?_
 rintro V3 _ ⟨rfl,e4,rfl,he4⟩
 have l3:=l2
 refine⟨nofun,e4,rfl,fun hf=>?_,fun k4=>?_⟩
 ·rw [dealRun_wt ok (fun k=>by rw [he4.2 k] at hf; cases hf)]
  exact⟨l3,do_zero (le0.trans l3) 7⟩
 have w5:=he4.1 (by simpa using k4)
 have h30:=w5.2.1
 obtain⟨hrd3,_⟩:=(hn.le l3).rdN
 refine⟨ns.map (fun n=>Value.string n.1),hrd3,one_nm ns,⟨one_nm ns,(by show(1+tn.n)*16≤140737488355328; omega),(by show 1+tn.n≤9223372036854775807; omega)⟩,?_⟩
 intro b4 c4 sp4 hb4 hc4 _
 have q4:=kset_le (x:=([Value.string a]++ns.map (fun n=>Value.string n.1)++sp4,((9:TypeId),((0,0):Nat × Nat)))) hb4
 have l4:=l3.trans q4
 have en:(((a,()):ByteArray × Unit) :: ns).flatMap (Scs.vals [.s])=[Value.string a]++ns.map (fun n=>Value.string n.1):=by
  rw [List.flatMap_cons,(els_nmI (V:=V3) (els_nmS hnz)).1]; rfl
 have hz2:∀ n∈(((a,()):ByteArray × Unit) :: ns),n.1.size≤9223372036854775807:=fun n hn'=>by
  rcases List.mem_cons.1 hn' with rfl | hn'
  ·exact ha
  ·exact hnz n hn'
 refine(cI_fits _ c x f (rLedger.le h l4) ht m.1 ⟨some ⟨b4,0,none⟩,1+tn.n,c4⟩ (((a,()):ByteArray × Unit) :: ns) [b4] (lr_new (fps:=[]) (els_nmS hz2) (by rw [kset_same,en]) (by rw [List.length_cons]; omega) (by rw [List.length_cons]; have:1+tn.n≤c4:=hc4; omega) (by rw [List.length_cons]; omega))).mono ?_
 rintro V5 _ ⟨le5,rfl⟩
 have l5:=l4.trans le5
 refine⟨nofun,_,rfl,fun hne=>?_,fun he=>?_⟩
 ·have hne':fitsP x.1 m.1 (a :: ns.map (·.1))≠0:=by simpa using hne
  rw [dealRun_fit ok w5 hne']
  exact⟨l5,do_zero (le0.trans l5) _⟩
 have he':¬ fitsP x.1 m.1 (a :: ns.map (·.1))≠0:=by simpa using he
 refine(cI_ShareMoney (hV.le l5) (m.1,m.2.1,s,()) m g (rMoney.le hm l5) w3.1 tw w gw (hw.le l5) w5).mono ?_
 rintro V6 _ ⟨le6,tp,o,fo,rfl,Lo,ho⟩
 have l6:=l5.trans le6
 rw [dealRun_post ok w5 he' ho]
 have hol:o.length=w.length:=shMon_len ho
 refine⟨nofun,(tp,true,()),rfl,nofun,fun _=>?_⟩
 refine(cI_minus V6 (m.1,m.2.1,s,()) m g (rMoney.le hm l6) (by have:=w3.1.2.2; omega)).mono ?_
 rintro V7 _ ⟨le7,cy,fy,rfl,Ry,_⟩
 have l7:=l6.trans le7
 refine⟨fun _=>le7,cy,rfl,leg_loop a ha cy (negM m) fy Ry tp o fo (Lo.le le7) tn ns gn (hn.le l7) (by omega) (by omega) (fun n xs=>.fz n xs 133 fun b11 c11 =>
  .call false 307 [qv3 c,.slice (some ⟨b11,0,none⟩) n c11] (.t [(.g [.l,.l,.s,.l]),(.o (.i .i64))]) fun y12 =>
  .ret [qv3 y12.1,.int .i64 y12.2.1]) fun cs fps Ns' hE=>?_⟩
 intro b8 c8 sp8 hb8 hc8 _
 have q8:=kset_le (x:=(cs.flatMap (Scs.vals [.s,.s,.b,.l])++sp8,((133:TypeId),((0,0):Nat × Nat)))) hb8
 have l8:=l7.trans q8
 have hlen:(((a,negM m):DAcct) :: legL ns o).length=o.length+1:=by
  rw [List.length_cons,legL,List.length_zipWith]; omega
 refine(cI_post (V0:=V0) (hV.le l8) c x f (rLedger.le h l8) (O.post l8) (le0.trans l8) ⟨some ⟨b8,0,none⟩,o.length+1,c8⟩ _ _ (lr_new (hE.le q8) kset_same hlen.symm (by rw [hlen]; exact hc8) (by rw [hlen]; omega))).mono ?_
 rintro V9 _ ⟨le9,le09,c9,f9,rfl,R9,O9⟩
 exact⟨nofun,(c9,_,()),rfl,l8.trans le9,le09,c9,f9,rfl,R9,O9⟩
theorem cI_DoDeal {V:Know} (hV:HcI V) (c:Scs LedSh) (x:DLedger) (f:List Nat) (h:rLedger.R V c x f) (ht:rLedger.tot x≤1048576) (a:ByteArray) (ha:a.size≤9223372036854775807) (tn:SlV) (ns:List (ByteArray × Unit)) (gn:List Nat) (hn:LR rNm V tn ns gn) (tw:SlV) (w:List Lim) (gw:List Nat) (hw:LR rI V tw w gw) (cm:Scs MonSh) (m:DMoney) (g:List Nat) (hm:rMoney.R V cm m g) :
  CallX Tryz.prog V 30 [qv3 c,.string a,Sc.val .l tn,Sc.val .l tw,qv2 cm] (DoPost V (perfP x (dealRun x a ns w m))):=by
 refine CallX.of_fits Tryz.mix (fI_DoDeal _ _ _ _ _) fun _=>?_
 simp only [tI_DoDeal,T.wp]
 have key:CallX Tryz.prog V 45 [qv3 c,.iface 141 (qv11 (a,tn,tw,cm.1,cm.2.1,cm.2.2.1,()))] (DoPost V (perfP x (dealRun x a ns w m))) :=
  CallX.of_fits Tryz.mix (fI_perform_opDeal c (a,tn,tw,cm.1,cm.2.1,cm.2.2.1,())) fun _=>perf_wp0 (g:=300) (o:=qv11 (a,tn,tw,cm.1,cm.2.1,cm.2.2.1,())) hV h ht (fun ok V1 c1 f1 le1 R1 O1=>(cI_opDeal (V0:=V) (hV.le le1) c1 x f1 R1 ht O1 le1 a ha tn ns gn (hn.le le1) tw w gw (hw.le le1) cm m g (rMoney.le hm le1)).mono fun _ _ k=>k.2) dealRun_zero
 refine key.mono ?_
 rintro V1 _ ⟨le1,c1,f1,rfl,R1,O1⟩
 exact⟨nofun,(c1,_,()),rfl,le1,c1,f1,rfl,R1,O1⟩
theorem cS_l21Names (V:Know) (t:SlV) (ns:List (ByteArray × Unit)) (g:List Nat) (hs:LR rNm V t ns g):CallX Tryz.prog V 73 [Sc.val .l t] (BoolPost V (WordsP ns)):=by
 refine CallX.of_fits Tryz.mix (fS_l21Names _) fun _=>?_
 have hn:=hs.1
 have h63:=hs.2.2.1
 rw [tS_l21Names]
 refine each_wp () (fun i=>∀ (h:i<ns.length),WordP ns[i].1) [.bool false] (n:=t.n) h63 (fun V1 i N le1 hi hbad hgo=>?_) (fun V1 le1 hall N=>?_) (fun V1 i le1 hi hne=>?_)
 ·have hi2:i<ns.length:=by omega
  obtain⟨b,o,a1,l1⟩:=nm_at (hs.le le1) hi2
  have hz:=hs.rdN.2 ns[i] (List.getElem_mem hi2)
  have e0:(i:Int).toNat=i:=by omega
  simp only [T.wp]
  rw [e0]
  refine⟨_,a1,by omega,by omega,ns[i].1,l1,(cS_IsWord V1 ns[i].1 hz).mono ?_⟩
  rintro V2 _ ⟨rfl,e,rfl,he⟩
  refine⟨nofun,e,rfl,fun hf=>hbad V2 (Know.le.refl _) fun k=>?_,fun ht=>⟨_,rfl,hgo V2 (Know.le.refl _) fun _=>he.1 (by simpa using ht)⟩⟩
  rw [he.2 (k hi2)] at hf; cases hf
 ·exact⟨le1,true,rfl,fun _ i hi=>hall i (by omega) hi,fun _=>rfl⟩
 ·exact⟨le1,false,rfl,(fun k=>by cases k),fun k=>absurd (fun h=>k i h) hne⟩
theorem cS_DoDeal {V:Know} (hV:HcS V) (c:Scs LedSh) (x:DLedger) (f:List Nat) (h:rLedger.R V c x f) (ht:rLedger.tot x≤1048576) (a:ByteArray) (ha:a.size≤9223372036854775807) (tn:SlV) (ns:List (ByteArray × Unit)) (gn:List Nat) (hn:LR rNm V tn ns gn) (tw:SlV) (w:List Lim) (gw:List Nat) (hw:LR rI V tw w gw) (cm:Scs MonSh) (m:DMoney) (g:List Nat) (hm:rMoney.R V cm m g) :
  CallX Tryz.prog V 25 [qv3 c,.string a,Sc.val .l tn,Sc.val .l tw,qv2 cm] (DoS V (perfP x (dealRun x a ns w m))):=by
 refine CallX.of_fits Tryz.mix (fS_DoDeal _ _ _ _ _) fun _=>?_
 obtain⟨s,rfl,hl,z0⟩:=mon_elim hm
 have hn1:=hn.1
 have hw1:=hw.1
 rw [tS_DoDeal]
 refine(cS_LedgerOk hV c x f h).mono ?_
 rintro V1 _ ⟨le1,e1,rfl,he1⟩
 refine⟨nofun,e1,rfl,fun hf=>?_,fun k1=>?_⟩
 ·rw [perfP_no (fun k=>by rw [he1.2 k] at hf; cases hf)]
  exact doS_zero le1 1
 rw [perfP_ok (he1.1 (by simpa using k1))]
 refine(cS_IsWord V1 a ha).mono ?_
 rintro _ _ ⟨rfl,e2,rfl,he2⟩
 refine⟨nofun,e2,rfl,fun hf=>?_,fun k2=>?_⟩
 ·rw [dealRun_no (fun k=>by rw [he2.2 k.1] at hf; cases hf)]
  exact doS_zero le1 1
 have w1:=he2.1 (by simpa using k2)
 refine(cS_l21Names _ tn ns gn (hn.le le1)).mono ?_
 rintro V2 _ ⟨le2,e3,rfl,he3⟩
 have l2:=le1.trans le2
 refine⟨nofun,e3,rfl,fun hf=>?_,fun k3=>?_⟩
 ·rw [dealRun_no (fun k=>by rw [he3.2 k.2.1] at hf; cases hf)]
  exact doS_zero l2 1
 have w2:=he3.1 (by simpa using k3)
 refine⟨fun hne=>?_,fun heq=>?_⟩
 ·rw [dealRun_no (fun k=>by
   have e:(tn.n:Int)=(tw.n:Int):=by rw [hn1,hw1,k.2.2.2]
   have hne':((tn.n:Int) != (tw.n:Int))=true:=hne
   rw [e] at hne'; simp at hne')]
  exact doS_zero l2 1
 have w4:ns.length=w.length:=by
  have heq':((tn.n:Int) != (tw.n:Int))=false:=heq
  have:(tn.n:Int)=(tw.n:Int):=by simpa using heq'
  omega
 refine(cS_l21Money (m.1,m.2.1,s,()) m g (rMoney.le hm l2)).mono ?_
 rintro V3 _ ⟨le3,e4,rfl,he4⟩
 have l3:=l2.trans le3
 refine⟨nofun,e4,rfl,fun hf=>?_,fun k4=>?_⟩
 ·rw [dealRun_no (fun k=>by rw [he4.2 k.2.2.1] at hf; cases hf)]
  exact doS_zero l3 1
 have w3:=he4.1 (by simpa using k4)
 have ok:DealOk a ns w m:=⟨w1,w2,w3,w4⟩
 refine(cS_WeightsOk V3 tw w gw (hw.le l3)).mono ?_
 rintro V4 _ ⟨rfl,e5,rfl,he5⟩
 have l4:=l3
 refine⟨nofun,e5,rfl,fun hf=>?_,fun k5=>?_⟩
 ·rw [dealRun_wt ok (fun k=>by rw [he5.2 k] at hf; cases hf)]
  exact doS_zero l4 7
 have w5:=he5.1 (by simpa using k5)
 have h30:=w5.2.1
 refine(cS_ShareMoney (V:=V4) (m.1,m.2.1,s,()) m g (rMoney.le hm l4) w3.1 tw w gw (hw.le l4) w5).mono ?_
 rintro V6 _ ⟨le6,tp,o,fo,rfl,Lo,ho⟩
 have l6:=l4.trans le6
 rw [dealRun_ok ok w5 ho]
 have hol:o.length=w.length:=shMon_len ho
 refine⟨nofun,(tp,true,()),rfl,?_⟩
 refine(cS_l21Less V6 (m.1,m.2.1,s,()) m g (rMoney.le hm l6) w3.1).mono ?_
 rintro V7 _ ⟨le7,cy,fy,rfl,Ry,_⟩
 have l7:=l6.trans le7
 refine⟨nofun,cy,rfl,leg_loop a ha cy (negM m) fy Ry tp o fo (Lo.le le7) tn ns gn (hn.le l7) (by omega) (by omega) (fun n xs=>.fz n xs 133 fun b11 c11 =>
  .call false 78 [qv3 c,.slice (some ⟨b11,0,none⟩) n c11] (.t [(.g [.l,.l,.s,.l]),(.o (.i .i64))]) fun y12 =>
  .ret [qv3 y12.1,.int .i64 y12.2.1]) fun cs fps Ns' hE=>?_⟩
 intro b8 c8 sp8 hb8 hc8 _
 have q8:=kset_le (x:=(cs.flatMap (Scs.vals [.s,.s,.b,.l])++sp8,((133:TypeId),((0,0):Nat × Nat)))) hb8
 have l8:=l7.trans q8
 have hlen:(((a,negM m):DAcct) :: legL ns o).length=o.length+1:=by
  rw [List.length_cons,legL,List.length_zipWith]; omega
 refine(cS_l21Legs (hV.le l8) c x f (rLedger.le h l8) ht ⟨some ⟨b8,0,none⟩,o.length+1,c8⟩ _ _ (lr_new (hE.le q8) kset_same hlen.symm (by rw [hlen]; exact hc8) (by rw [hlen]; omega))).mono ?_
 rintro V9 _ ⟨le9,c9,f9,rfl,R9⟩
 exact⟨nofun,(c9,_,()),rfl,l8.trans le9,c9,f9,rfl,R9⟩
theorem uI_DoDeal {V:Know} (hV:HcI V) (c:Scs LedSh) (x:DLedger) (f:List Nat) (h:rLedger.R V c x f) (ht:rLedger.tot x≤1048576) (a:ByteArray) (za:a.size≤1048576) (tn:SlV) (ns:List (ByteArray × Unit)) (gn:List Nat) (hn:LR rNm V tn ns gn) (_:ns.length+totE rNm ns≤1048576) (tw:SlV) (w:List Lim) (gw:List Nat) (hw:LR rI V tw w gw) (_:w.length+totE rI w≤1048576) (cm:Scs MonSh) (m:DMoney) (g:List Nat) (hm:rMoney.R V cm m g) (_:rMoney.tot m≤1048576) :
  CallX Tryz.prog V 30 [qv3 c,.string a,Sc.val .l tn,Sc.val .l tw,qv2 cm] (UI V (perfP x (dealRun x a ns w m))):=(cI_DoDeal hV c x f h ht a (by omega) tn ns gn hn tw w gw hw cm m g hm).mono (fun _ _=>doPost_u)
theorem uS_DoDeal {V:Know} (hV:HcS V) (c:Scs LedSh) (x:DLedger) (f:List Nat) (h:rLedger.R V c x f) (ht:rLedger.tot x≤1048576) (a:ByteArray) (za:a.size≤1048576) (tn:SlV) (ns:List (ByteArray × Unit)) (gn:List Nat) (hn:LR rNm V tn ns gn) (_:ns.length+totE rNm ns≤1048576) (tw:SlV) (w:List Lim) (gw:List Nat) (hw:LR rI V tw w gw) (_:w.length+totE rI w≤1048576) (cm:Scs MonSh) (m:DMoney) (g:List Nat) (hm:rMoney.R V cm m g) (_:rMoney.tot m≤1048576) :
  CallX Tryz.prog V 25 [qv3 c,.string a,Sc.val .l tn,Sc.val .l tw,qv2 cm] (US V (perfP x (dealRun x a ns w m))):=(cS_DoDeal hV c x f h ht a (by omega) tn ns gn hn tw w gw hw cm m g hm).mono (fun _ _=>doS_u)
end Go.Proofs.YtfiakghfncempaaGreatDoor
namespace Go.Proofs.YtfiakghfncempaaGreatDoor
open Sx
set_option maxRecDepth 100000
def dch (k:Int):ByteArray:=bytesD [.int .u8 (IntKind.u8.wrap (IntKind.i64.wrap (48+k.tmod 10)))]
theorem dch_size (k:Int):(dch k).size=1:=rfl
def digs:Nat→Int→ByteArray→ByteArray
 | 0,_,out=>out
 | n+1,k,out=>if k > 0 then digs n (k.tdiv 10) (dch k++out) else out
theorem tdiv_lt {k:Int} (h:0<k):0≤k.tdiv 10∧(k.tdiv 10).toNat<k.toNat∧k.tdiv 10+1≤k:=by
 rw [Int.tdiv_eq_ediv_of_nonneg (by omega)]
 omega
theorem digs_enough:∀ (n m:Nat) (k:Int) (out:ByteArray),k.toNat≤n→k.toNat≤m→digs n k out=digs m k out
 | 0,0,_,_,_,_=>rfl
 | 0,m+1,k,out,h,_=>by
  unfold digs
  rw [if_neg (by omega)]
 | n+1,0,k,out,_,h=>by
  unfold digs
  rw [if_neg (by omega)]
 | n+1,m+1,k,out,h,h'=>by
  unfold digs
  by_cases hk:k > 0
  ·rw [if_pos hk,if_pos hk]
   have:=tdiv_lt hk
   exact digs_enough n m _ _ (by omega) (by omega)
  ·rw [if_neg hk,if_neg hk]
def mtext (k:Int):ByteArray:=if k≤0 then ⟨#[109,48]⟩ else ⟨#[109]⟩++digs k.toNat k ⟨#[]⟩
theorem cL_markText (V:Know) (k:Int) (hk:k≤4611686018427387904):CallX Tryz.prog V 90 [.int .i64 k] (fun V' r=>V.le V'∧r=.string (mtext k)∧(mtext k).size≤9223372036854775807):=by
 refine CallX.of_fits Tryz.mix (fL_markText _) fun _=>?_
 simp only [tL_markText,T.wp]
 refine⟨fun h0=>?_,fun h0=>?_⟩
 ·have h0':k≤0:=of_decide_eq_true h0
  rw [mtext,if_pos h0']
  exact⟨Know.le.refl _,rfl,by decide⟩
 have h0':¬ k≤0:=of_decide_eq_false h0
 refine⟨fun y V'=>V.le V'∧0≤(y.1:Int)∧(y.2.1.size:Int)+(y.1:Int)≤k∧digs (y.1:Int).toNat y.1 y.2.1=digs k.toNat k ⟨#[]⟩,fun y=>(y.1:Int).toNat,⟨(k,⟨#[]⟩,()),rfl,Know.le.refl _,(by omega:0≤k),(by show((0:Nat):Int)+k≤k; omega),rfl⟩,?_⟩
 rintro⟨(j:Int),out,u⟩ V' ⟨hle,hj,hsz,hd⟩
 replace hj:0≤j:=hj
 replace hsz:(ByteArray.size out:Int)+j≤k:=hsz
 replace hd:digs j.toNat j out=digs k.toNat k ⟨#[]⟩:=hd
 refine⟨fun hp=>?_,fun hz=>?_⟩
 ·have hp':j > 0:=of_decide_eq_true hp
  have ht:=tdiv_lt hp'
  refine⟨by decide,fun b cap spare hb hc _=>?_⟩
  have hV:=kset_le (x:=([Value.int .u8 (IntKind.u8.wrap (IntKind.i64.wrap (48+j.tmod 10)))]++spare,((5:TypeId),((0,0):Nat × Nat)))) hb
  refine⟨[.int .u8 (IntKind.u8.wrap (IntKind.i64.wrap (48+j.tmod 10)))],.inr ⟨_,rfl,?_⟩,rfl,by simp [bytesOf,bytesGo],?_,by decide,_,rfl,(j.tdiv 10,dch j++out,()),?_,⟨hle.trans hV,ht.1,?_,?_⟩,?_⟩
  ·simp only [loadV,kset_same]
   exact cutv_head (x:=[Value.int .u8 (IntKind.u8.wrap (IntKind.i64.wrap (48+j.tmod 10)))])
  ·have:=dch_size j
   show(dch j).size+ByteArray.size out≤_
   omega
  ·have hw:IntKind.i64.wrap (j.tdiv 10)=j.tdiv 10:=wrap_i64 (by omega)
   rw [hw]; rfl
  ·show((dch j++out).size:Int)+j.tdiv 10≤k
   rw [ByteArray.size_append,dch_size]
   omega
  ·show digs (j.tdiv 10).toNat (j.tdiv 10) (dch j++out)=_
   rw [← hd]
   obtain⟨n,hn⟩:∃ n,j.toNat=n+1:=⟨j.toNat-1,by omega⟩
   rw [hn,digs,if_pos hp']
   exact digs_enough _ _ _ _ (Nat.le_refl _) (by omega)
  ·exact ht.2.1
 ·have hz':¬ j > 0:=of_decide_eq_false hz
  have hj0:j=0:=by omega
  subst hj0
  have hd':digs k.toNat k ⟨#[]⟩=out:=by rw [← hd]; rfl
  have hsm:(⟨#[109]⟩:ByteArray).size=1:=rfl
  have e:mtext k=⟨#[109]⟩++out:=by rw [mtext,if_neg h0',hd']
  refine⟨(by rw [hsm]; show 1+ByteArray.size out≤_; omega),hle,by rw [e]; rfl,?_⟩
  rw [e,ByteArray.size_append,hsm]
  omega
structure Mk (α:Type) where
 cnt:α→Nat
 ok:Int→α→Prop
def cntE {α:Type} (m:Mk α):List α→Nat
 | []=>0
 | x :: l=>m.cnt x+cntE m l
def okE {α:Type} (m:Mk α):Int→List α→Prop
 | _,[]=>True
 | k,x :: l=>m.ok k x∧okE m (k+m.cnt x) l
theorem cntE_snoc {α:Type} (m:Mk α) (x:α):∀ l:List α,cntE m (l++[x])=cntE m l+m.cnt x
 | []=>by simp [cntE]
 | y :: l=>by simp only [List.cons_append,cntE,cntE_snoc m x l]; omega
theorem okE_snoc {α:Type} (m:Mk α) (x:α):∀ (k:Int) (l:List α),okE m k l→m.ok (k+cntE m l) x→okE m k (l++[x])
 | k,[],_,h=>⟨by simpa [cntE] using h,trivial⟩
 | k,y :: l,h,hx=>⟨h.1,okE_snoc m x _ l h.2 (by
   have e:k+(cntE m (y :: l):Nat)=k+m.cnt y+cntE m l:=by simp only [cntE]; omega
   rw [← e]; exact hx)⟩
def mkNil:Mk Unit:=⟨fun _=>0,fun _ _=>True⟩
def mkStr {α:Type} (m:Mk α):Mk (ByteArray × α):=⟨fun x=>1+m.cnt x.2,fun k x=>x.1=mtext k∧m.ok (k+1) x.2⟩
def mkBool {α:Type} (m:Mk α):Mk (Bool × α):=⟨fun x=>1+m.cnt x.2,fun k x=>x.1=(Int.tmod k 3 == 0)∧m.ok (k+1) x.2⟩
def mkInt {α:Type} (m:Mk α):Mk (Int × α):=⟨fun x=>1+m.cnt x.2,fun k x=>x.1=k∧m.ok (k+1) x.2⟩
def mkSl {α β:Type} (e:Mk β) (m:Mk α):Mk (List β × α):=⟨fun x=>cntE e x.1+m.cnt x.2,fun k x=>okE e k x.1∧m.ok (k+cntE e x.1) x.2⟩
abbrev mI:Mk Lim:=mkInt mkNil
theorem cntE_int:∀ l:List Lim,cntE mI l=l.length
 | []=>rfl
 | x :: l=>by
  have e:mI.cnt x=1:=rfl
  simp only [cntE,cntE_int l,List.length_cons,e]; omega
theorem okE_int:∀ (k:Int) (l:List Lim),okE mI k l↔∀ j,j<l.length→limb l j=k+j
 | k,[]=>⟨fun _ j hj=>by simp at hj,fun _=>trivial⟩
 | k,x :: l=>by
  have ih:=okE_int (k+1) l
  refine⟨fun h j hj=>?_,fun h=>⟨⟨?_,trivial⟩,?_⟩⟩
  ·match j with
   | 0 =>
    have:x.1=k:=h.1.1
    show x.1=_
    omega
   | j+1 =>
    have:=ih.1 h.2 j (by simpa using hj)
    show limb l j=_
    omega
  ·have:=h 0 (by simp)
   replace this:x.1=k+((0:Nat):Int):=this
   omega
  ·refine ih.2 fun j hj=>?_
   have:=h (j+1) (by simpa using hj)
   replace this:limb l j=k+((j+1:Nat):Int):=this
   omega
section
variable {P:Program} {K:Know→List Value→Prop} {V V0:Know} {Ns:List (List LV→Know→Prop)}
theorem wp_arg {dr:Bool} {g:FuncId} {args args':List Value} {sh:Sh} {k:sh.ty→T} (h:args=args') (hn:(T.call dr g args' sh k).wp P K V V0 Ns):(T.call dr g args sh k).wp P K V V0 Ns:=h ▸ hn
theorem wp_el {a:Option Addr} {n:Nat} {i:Int} {k:Addr→T} {ad:Addr} (h:a=some ad) (h0:0≤i) (h1:i<(n:Int)) (hn:(k ad).wp P K V V0 Ns):(T.el a n i k).wp P K V V0 Ns:=⟨ad,h,h0,h1,hn⟩
theorem wp_st1 {b:Nat} {a:Addr} {A Q vs:List Value} {x v:Value} {tt:TypeId} {t:T} (hv:V b=some (A++([x]++Q),(tt,((0,0):Nat × Nat)))) (ha:a=⟨b,A.length,none⟩) (hvs:vs=[v])
  (hn:∀ V1:Know,V1 b=some ((A++[v])++Q,(tt,((0,0):Nat × Nat)))→(∀ y,y≠b→V1 y=V y)→t.wp P K V1 V0 Ns):(T.st a vs t).wp P K V V0 Ns:=by
 subst ha hvs
 refine⟨_,tt,rfl,hv,by simp,hn _ ?_ fun y hy=>kset_other hy⟩
 rw [kset_same,setl_mid rfl (by simp)]
 simp
theorem wp_ld1 {b:Nat} {a:Addr} {A Q:List Value} {s:SlV} {tt:TypeId} {w:Nat × Nat} {k:SlV→T} (hv:V b=some (A++([.slice s.a s.n s.c]++Q),(tt,w))) (ha:a=⟨b,A.length,none⟩)
  (hn:(k s).wp P K V V0 Ns):(T.ld false a (.o .l) k).wp P K V V0 Ns:=by
 subst ha
 refine⟨s,?_,hn⟩
 show loadV V _ 1=_
 simp only [loadV,hv]
 have:=cutv_skip (x:=A) (y:=[Value.slice s.a s.n s.c]++Q) (o:=0) (n:=1)
 rw [Nat.add_zero] at this
 rw [this]
 exact cutv_head (x:=[Value.slice s.a s.n s.c])
end
theorem addr_at {b o m:Nat} (h:o=m):(⟨b,o,none⟩:Addr)=⟨b,m,none⟩:=by rw [h]
theorem mark_lp {sh:List Sc} {α:Type} {P:Program} {K:Know→List Value→Prop} {V V0:Know} (r:Rp sh α) (m:Mk α) {s:SlV} {l:List α} {f:List Nat} {k0:Int} {row:LShs [.o (.o (.i .i64)),.o (.o (.i .i64))]→T}
  (h:LR r V s l f) (hnd:f.Nodup) (hw:Wr V f) (hk0:0≤k0) (hk1:k0+cntE m l≤4611686018427387904)
  (hrow:∀ (N:List LV→Know→Prop) (V1:Know) (j:Nat) (k:Int) (b o:Nat) (A R:List Value) (tt:TypeId) (c:Scs sh) (x:α) (w:List Nat),s.a=some ⟨b,o,none⟩→A.length=o+j*sh.length→j<s.n→s.n≤9223372036854775807→0≤k→k+m.cnt x≤4611686018427387904 →
   V1 b=some (A++(Scs.vals sh c++R),(tt,((0,0):Nat × Nat)))→r.R V1 c x w→(b :: w).Nodup→Wr V1 w →
   (∀ (V2:Know) (c':Scs sh) (x':α),V2 b=some (A++(Scs.vals sh c'++R),(tt,((0,0):Nat × Nat)))→r.R V2 c' x' w→Wr V2 w→LeBut (b :: w) V1 V2→m.ok k x'→m.cnt x'=m.cnt x→N [.v (.int .i64 (k+m.cnt x)),.v (.int .i64 ((j+1:Nat):Int))] V2) →
   (row (k,(j:Int),())).wp P K V1 V1 [N])
  (hK:∀ (V1:Know) (l':List α),LeBut f V V1→Wr V1 f→LR r V1 s l' f→okE m k0 l'→cntE m l'=cntE m l→K V1 [.int .i64 (k0+cntE m l)]) :
  (T.lp [.o (.o (.i .i64)),.o (.o (.i .i64))] [.v (.int .i64 k0),.v (.int .i64 (0:Int))] fun y=>.br (decide (y.2.fst<(s.n:Int))) (row y) (.ret [.int .i64 y.fst])).wp P K V V0 []:=by
 have hn:=h.1
 have h63:=h.2.2.1
 rcases h.2.2.2 with ⟨hz,hc,hf⟩ | ⟨b,pre,post,t,fps,cs,a1,v1,hels,rfl⟩
 ·have hl:l=[]:=List.eq_nil_of_length_eq_zero (by omega)
  refine lp_once (k0,(0:Int),()) rfl fun N=>⟨fun hlt=>?_,fun _=>?_⟩
  ·have:(0:Int)<(s.n:Int):=of_decide_eq_true hlt
   omega
  ·have:=hK V l LeBut.refl hw h (by rw [hl]; trivial) rfl
   rw [hl] at this
   simp only [cntE,Int.natCast_zero,Int.add_zero] at this
   exact this
 obtain⟨cc,tt,hwb⟩:=hw b (by simp)
 rw [v1] at hwb
 simp only [Option.some.injEq,Prod.mk.injEq] at hwb
 obtain⟨rfl,rfl⟩:=hwb
 refine⟨fun y V'=>LeBut (b :: fps) V V'∧∃ (i:Nat) (ds:List (Scs sh)) (xs:List α) (gd g:List Nat),y.2.1=(i:Int)∧i≤l.length∧ds.length=i∧(y.1:Int)=k0+cntE m xs∧cntE m xs+cntE m (l.drop i)=cntE m l ∧
   V' b=some (pre++((ds++cs.drop i).flatMap (Scs.vals sh)++post),(tt,(0,0)))∧Els r V' ds xs gd∧Els r V' (cs.drop i) (l.drop i) g∧gd++g=fps∧Wr V' fps∧okE m k0 xs,
  fun y _=>((l.length:Int)-(y.2.1:Int)).toNat,⟨(k0,(0:Int),()),rfl,LeBut.refl,0,[],[],[],fps,rfl,by omega,rfl,by simp [cntE],by simp [cntE],v1,rfl,hels,rfl,fun x hx=>hw x (by simp [hx]),trivial⟩,?_⟩
 rintro⟨(k:Int),(i:Int),u⟩ V' ⟨hb,j,ds,xs,gd,g,hj,hjl,hds,hk,hcn,hv,hD,hE,hgg,hwr,hok⟩
 replace hj:i=(j:Int):=hj
 replace hk:k=k0+cntE m xs:=hk
 subst hj
 refine⟨fun hlt=>?_,fun hge=>?_⟩
 ·have hi:j<l.length:=by
   have:(j:Int)<(s.n:Int):=of_decide_eq_true hlt
   omega
  have hcl:cs.length=l.length:=hels.len
  have hi':j<cs.length:=by omega
  rw [List.drop_eq_getElem_cons hi] at hE hcn
  rw [List.drop_eq_getElem_cons hi'] at hE hv
  generalize l[j]=x at hE hcn
  generalize cs[j]=c at hE hv
  obtain⟨w,g2,rfl,hR,hE2⟩:=hE
  simp only [cntE] at hcn
  have hall:(gd++(w++g2)).Nodup∧b ∉ gd++(w++g2):=by
   rw [hgg]
   exact⟨(List.nodup_cons.1 hnd).2,(List.nodup_cons.1 hnd).1⟩
  have hbw:b ∉ w:=fun hm=>hall.2 (by simp [hm])
  have n1:=List.nodup_append.1 hall.1
  have n2:=List.nodup_append.1 n1.2.1
  have hcells:pre++((ds++c :: cs.drop (j+1)).flatMap (Scs.vals sh)++post)=(pre++ds.flatMap (Scs.vals sh))++(Scs.vals sh c++((cs.drop (j+1)).flatMap (Scs.vals sh)++post)):=by
   simp
  rw [hcells] at hv
  refine hrow _ V' j k b pre.length (pre++ds.flatMap (Scs.vals sh)) _ tt c x w a1 ?_ (by omega) h63 (by omega) (by omega) hv hR (List.nodup_cons.2 ⟨hbw,n2.1⟩) (fun y hy=>hwr y (by rw [← hgg]; simp [hy])) ?_
  ·rw [List.length_append,flat_len,hds]
  ·intro V2 c' x' hv2 hR2 hw2 hb2 hok2 hcnt2
   have keepd:∀ y∈gd,y ∉ b :: w:=fun y hy hm=>by
    rcases List.mem_cons.1 hm with e | hm
    ·exact hall.2 (by rw [← e]; simp [hy])
    ·exact n1.2.2 y hy y (by simp [hm]) rfl
   have keepg:∀ y∈g2,y ∉ b :: w:=fun y hy hm=>by
    rcases List.mem_cons.1 hm with e | hm
    ·exact hall.2 (by rw [← e]; simp [hy])
    ·exact n2.2.2 y hm y hy rfl
   have mv:∀ (y:Nat) (z:List Value × TypeId × Nat × Nat),y ∉ b :: w→V' y=some z→V2 y=V' y:=fun y z hy hz=>by rw [hz]; exact hb2 y z hy hz
   refine⟨(k+m.cnt x,((j+1:Nat):Int),()),rfl,⟨hb.trans (hb2.sub fun y hy=>?_),j+1,ds++[c'],xs++[x'],gd++w,g2,rfl,hi,by simp [hds],?_,?_,?_,?_,?_,by rw [← hgg]; simp,?_,?_⟩,?_⟩
   ·rcases List.mem_cons.1 hy with e | hy
    ·simp [e]
    ·rw [← hgg]; simp [hy]
   ·rw [cntE_snoc]
    show k+(m.cnt x:Int)=k0+((cntE m xs+m.cnt x':Nat):Int)
    omega
   ·rw [cntE_snoc]; omega
   ·rw [hv2]; simp
   ·exact Els.snoc hR2 (hD.loc fun y hy=>by obtain⟨z,hz⟩:=hD.kn y hy; exact mv y z (keepd y hy) hz)
   ·exact hE2.loc fun y hy=>by obtain⟨z,hz⟩:=hE2.kn y hy; exact mv y z (keepg y hy) hz
   ·intro y hy
    rw [← hgg] at hy
    by_cases hyw:y∈w
    ·exact hw2 y hyw
    ·obtain⟨cc,t',hz⟩:=hwr y (by rw [← hgg]; exact hy)
     have hne:y ∉ b :: w:=fun hm=>by
      rcases List.mem_cons.1 hm with e | hm
      ·exact hall.2 (by rw [← e]; exact hy)
      ·exact hyw hm
     exact⟨cc,t',by rw [mv y _ hne hz]; exact hz⟩
   ·exact okE_snoc m x' k0 xs hok (by rw [← hk]; exact hok2)
   ·show((l.length:Int)-((j+1:Nat):Int)).toNat<((l.length:Int)-(j:Int)).toNat
    omega
 ·have hi:j=l.length:=by
   have:¬ (j:Int)<(s.n:Int):=of_decide_eq_false hge
   omega
  have hd0:l.drop j=[]:=by rw [hi]; simp
  have hd1:cs.drop j=[]:=by rw [hi,← hels.len]; simp
  rw [hd0] at hE hcn
  rw [hd1] at hE hv
  replace hE:g=[]:=hE
  subst hE
  simp only [List.append_nil] at hgg hv
  subst hgg
  have hc0:cntE m xs=cntE m l:=by simpa [cntE] using hcn
  have:=hK V' xs hb ?_ ?_ hok hc0
  ·rw [← hc0,← hk] at this
   exact this
  ·intro y hy
   rcases List.mem_cons.1 hy with e | hy
   ·subst e; exact⟨_,_,hv⟩
   ·exact hwr y hy
  ·exact⟨by rw [hn,← hi,← hds,hD.len],h.2.1,h63,.inr ⟨b,pre,post,_,gd,ds,a1,hv,hD,rfl⟩⟩
theorem cL_markIntS (V:Know) (s:SlV) (l:List Lim) (f:List Nat) (k:Int) (h:LR rI V s l f) (hw:Wr V f) (hk0:0≤k) (hk1:k+l.length≤4611686018427387904) :
  CallX Tryz.prog V 37 [Sc.val .l s,.int .i64 k] (fun V' r=>LeBut f V V'∧Wr V' f∧r=.int .i64 (k+l.length)∧∃ l',LR rI V' s l' f∧l'.length=l.length∧∀ j,j<l.length→limb l' j=k+j):=by
 refine CallX.of_fits Tryz.mix (fL_markIntS _ _) fun _=>?_
 simp only [tL_markIntS,T.wp]
 have hn:=h.1
 refine⟨fun y V'=>LeBut f V V'∧Wr V' f∧∃ (i:Nat) (l':List Lim),y.2.1=(i:Int)∧i≤l.length∧y.1=k+(i:Int)∧LR rI V' s l' f∧l'.length=l.length∧∀ j,j<i→limb l' j=k+j,fun y=>((l.length:Int)-(y.2.1:Int)).toNat,
  ⟨(k,(0:Int),()),rfl,LeBut.refl,hw,0,l,rfl,by omega,(by simp),h,rfl,fun j hj=>by omega⟩,?_⟩
 rintro⟨(q:Int),(i:Int),u⟩ V' ⟨hb,hw',j,l',hj,hjl,hq,hL,hlen,hall⟩
 replace hj:i=(j:Int):=hj
 replace hq:q=k+(j:Int):=hq
 subst hj hq
 refine⟨fun hlt=>?_,fun hge=>?_⟩
 ·have hi:j<l.length:=by
   have:(j:Int)<(s.n:Int):=of_decide_eq_true hlt
   omega
  obtain⟨b,o,cs,u,a1,v1,hfit,hbf,hL2,hw2⟩:=hL.put hw' (i:=j) (by omega) (k+(j:Int))
  refine⟨_,a1,(by omega:(0:Int)≤(j:Int)),(by omega:(j:Int)<(s.n:Int)),?_⟩
  rw [addr_add_eq,Int.toNat_natCast]
  refine⟨cs,u,rfl,v1,hfit,_,rfl,(k+((j+1:Nat):Int),((j+1:Nat):Int),()),?_,⟨hb.trans (LeBut.kset hbf),hw2,j+1,_,rfl,hi,rfl,hL2,by simpa using hlen,fun m hm=>?_⟩,?_⟩
  ·have e1:IntKind.i64.wrap (k+(j:Int)+1)=k+((j+1:Nat):Int):=by rw [wrap_i64 (by omega)]; omega
   rw [e1,nxt hi (by omega)]; rfl
  ·rw [limb_set (by omega)]
   by_cases e:m=j
   ·subst e; rw [if_pos rfl]
   ·rw [if_neg e]; exact hall m (by omega)
  ·show((l.length:Int)-((j+1:Nat):Int)).toNat<((l.length:Int)-(j:Int)).toNat
   omega
 ·have hi:j=l.length:=by
   have:¬ (j:Int)<(s.n:Int):=of_decide_eq_false hge
   omega
  subst hi
  exact⟨hb,hw',rfl,l',hL,hlen,hall⟩
theorem cL_markIntS' (V:Know) (s:SlV) (l:List Lim) (f:List Nat) (k:Int) (h:LR rI V s l f) (_:f.Nodup) (hw:Wr V f) (hk0:0≤k) (hk1:k+cntE mI l≤4611686018427387904) :
  CallX Tryz.prog V 37 [Sc.val .l s,.int .i64 k] (fun V' r=>LeBut f V V'∧Wr V' f∧r=.int .i64 (k+cntE mI l)∧∃ l',LR rI V' s l' f∧okE mI k l'∧cntE mI l'=cntE mI l):=by
 rw [cntE_int] at hk1 ⊢
 refine(cL_markIntS V s l f k h hw hk0 hk1).mono ?_
 rintro V' r ⟨h1,h2,rfl,l',h3,h4,h5⟩
 exact⟨h1,h2,rfl,l',h3,(okE_int k l').2 (by rw [h4]; exact h5),by rw [cntE_int,h4]⟩
theorem cL_heldIntS (V:Know) (s:SlV) (l:List Lim) (f:List Nat) (k:Int) (h:LR rI V s l f) (hk0:0≤k) (hk1:k+l.length≤4611686018427387904) (hm:∀ j,j<l.length→limb l j=k+j) :
  CallX Tryz.prog V 145 [Sc.val .l s,.int .i64 k] (fun V' r=>V'=V∧r=.int .i64 (k+l.length)):=by
 refine CallX.of_fits Tryz.mix (fL_heldIntS _ _) fun _=>?_
 simp only [tL_heldIntS,T.wp]
 have hn:=h.1
 refine⟨fun y V'=>V'=V∧∃ i:Nat,y.2.1=(i:Int)∧i≤l.length∧y.1=k+(i:Int),fun y=>((l.length:Int)-(y.2.1:Int)).toNat,⟨(k,(0:Int),()),rfl,rfl,0,rfl,by omega,by simp⟩,?_⟩
 rintro⟨(q:Int),(i:Int),u⟩ V' ⟨rfl,j,hj,hjl,hq⟩
 replace hj:i=(j:Int):=hj
 replace hq:q=k+(j:Int):=hq
 subst hj hq
 refine⟨fun hlt=>?_,fun hge=>?_⟩
 ·have hi:j<l.length:=by
   have:(j:Int)<(s.n:Int):=of_decide_eq_true hlt
   omega
  obtain⟨b,o,a1,l1⟩:=h.int hi
  have e:l[j].1=k+(j:Int):=by rw [← limb_lt hi]; exact hm j hi
  refine⟨_,a1,(by omega:(0:Int)≤(j:Int)),(by omega:(j:Int)<(s.n:Int)),l[j].1,l1,fun hne=>?_,fun _=>⟨_,rfl,(k+((j+1:Nat):Int),((j+1:Nat):Int),()),?_,⟨rfl,j+1,rfl,hi,rfl⟩,?_⟩⟩
  ·rw [e] at hne; simp at hne
  ·have e1:IntKind.i64.wrap (k+(j:Int)+1)=k+((j+1:Nat):Int):=by rw [wrap_i64 (by omega)]; omega
   rw [e1,nxt hi (by omega)]; rfl
  ·show((l.length:Int)-((j+1:Nat):Int)).toNat<((l.length:Int)-(j:Int)).toNat
   omega
 ·have hi:j=l.length:=by
   have:¬ (j:Int)<(s.n:Int):=of_decide_eq_false hge
   omega
  subst hi
  exact⟨rfl,rfl⟩
theorem cL_heldIntS' (V:Know) (s:SlV) (l:List Lim) (f:List Nat) (k:Int) (h:LR rI V s l f) (hk0:0≤k) (hk1:k+cntE mI l≤4611686018427387904) (hm:okE mI k l) :
  CallX Tryz.prog V 145 [Sc.val .l s,.int .i64 k] (fun V' r=>V'=V∧r=.int .i64 (k+cntE mI l)):=by
 rw [cntE_int] at hk1 ⊢
 exact cL_heldIntS V s l f k h hk0 hk1 ((okE_int k l).1 hm)
end Go.Proofs.YtfiakghfncempaaGreatDoor
