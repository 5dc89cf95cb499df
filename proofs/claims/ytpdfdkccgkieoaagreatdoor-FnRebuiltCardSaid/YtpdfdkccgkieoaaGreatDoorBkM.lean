/-
  Accounts, books and remainders as data: accounts found, amounts posted, remainders added.
-/
import Derived.Test.YtpdfdkccgkieoaaGreatDoorRbA
import Derived.Test.YtpdfdkccgkieoaaGreatDoorCmp
import Derived.Test.YtpdfdkccgkieoaaGreatDoorTxt
import Derived.Test.YtpdfdkccgkieoaaGreatDoorCuB
import Derived.Test.YtpdfdkccgkieoaaGreatDoorRbM
import Derived.Test.YtpdfdkccgkieoaaGreatDoorCmdB
namespace Go.Proofs.YtpdfdkccgkieoaaGreatDoor
open Sx Go.RowKit
set_option maxRecDepth 100000
def opV (s:SlV):Ln→Value
 | .r y=>.iface 258 (qv6 (y.1,y.2.1,y.2.2.1,s,y.2.2.2.2.1,()))
 | .o a=>.iface 244 (qv9 (a.1,a.2.1,()))
 | .p a=>.iface 246 (qv10 (a.1,a.2.1,false,s,a.2.2.1,()))
theorem one_opV (s:SlV) (i:Ln):one [opV s i]=true:=by cases i <;> rfl
theorem cI_opOf (V:Know) (s:SlV) (i:Ln):CallX Tryz.prog V 173 [qv8 (cells s i)] (fun V' r=>V'=V∧r=opV s i):=by
 refine CallX.of_fits Tryz.mix (fI_operationOf _) fun _=>?_
 simp only [tI_operationOf,T.wp]
 cases i with
 | r y =>
  refine⟨fun h=>by simp [cells] at h,fun _=>⟨fun h=>by simp [cells] at h,fun _=>⟨fun h=>by simp [cells] at h,fun _=>⟨fun h=>by simp [cells] at h,fun _=>⟨fun h=>by simp [cells] at h,fun _=>⟨fun h=>by simp [cells] at h,fun _=>⟨fun h=>by simp [cells] at h,fun _=>⟨fun h=>by simp [cells] at h,fun _=>⟨by trivial,rfl⟩⟩⟩⟩⟩⟩⟩⟩⟩
 | o a=>exact⟨fun _=>⟨by trivial,rfl⟩,fun h=>by simp [cells] at h⟩
 | p a =>
  obtain⟨n,c,e,m,u⟩:=a
  cases e with
  | true=>exact⟨fun h=>by simp [cells,opN] at h,fun _=>⟨fun h=>by simp [cells,opN] at h,fun _=>⟨fun _=>⟨by trivial,rfl⟩,fun h=>by simp [cells,opN] at h⟩⟩⟩
  | false=>exact⟨fun h=>by simp [cells,opN] at h,fun _=>⟨fun _=>⟨by trivial,rfl⟩,fun h=>by simp [cells,opN] at h⟩⟩
theorem rate_totR {y:DRate} (h:RateOkP y):rRate.tot y≤1048576:=by
 have e:rRate.tot y=y.1.size+(y.2.1.size+(y.2.2.2.1.length+totE rI y.2.2.2.1+0)):=rfl
 have h1:=known_size h.1
 have h2:=known_size h.2.1
 have h3:=h.2.2.2.2.2
 rw [e,totE_rI]
 omega
theorem cI_perfR {V:Know} (hV:HcI V) {c:Scs LedSh} {x:DLedger} {f:List Nat} (h:rLedger.R V c x f) (ht:rLedger.tot x≤1048576) {i:Ln} (ok:LnOk i) {s:SlV} {g:List Nat} (L:LR rI V s (magN i) g) :
  CallX Tryz.prog V 172 [qv0 c,opV s i] (DoPost V (perfP x (lnRun x i))):=by
 cases i with
 | r y =>
  have z1:=known_size ok.1
  have z2:=known_size ok.2.1
  have hr:∀ {V1:Know},V.le V1→rRate.R V1 (y.1,y.2.1,y.2.2.1,s,y.2.2.2.2.1,()) y (g++[]):=fun le=>rStr.mk (by omega) (rStr.mk (by omega) (rBool.mk (rSl.mk (L.le le) (rInt.mk rNil.mk))))
  exact CallX.of_fits Tryz.mix (fI_perform_opRate c (y.1,y.2.1,y.2.2.1,s,y.2.2.2.2.1,())) fun _=>perf_wp (g:=410) (o:=qv6 (y.1,y.2.1,y.2.2.1,s,y.2.2.2.2.1,())) hV h ht (fun _ V1 c1 f1 le1 R1 O1=>cI_opRate (hV.le le1) c1 x f1 R1 ht O1 le1 _ y _ (hr le1) (rate_totR ok)) rateRun_zero
 | o a =>
  have z2:=known_size ok.2
  exact CallX.of_fits Tryz.mix (fI_perform_opOpen c (a.1,a.2.1,())) fun _=>perf_wp (g:=279) (o:=qv9 (a.1,a.2.1,())) hV h ht (fun _ _ c1 f1 le1 R1 O1=>cI_opOpen (hV.le le1) c1 x f1 R1 O1 le1 a.1 a.2.1 (word_size ok.1) (by omega)) openRun_zero
 | p a =>
  have z2:=known_size ok.2.1.1
  exact cI_perfAdd hV c x f h ht a.1 (word_size ok.1) (a.2.1,false,s,()) (absM a.2) g (mon_mk (by omega) L) a.2.2.1
theorem led_tot {x:DLedger} (h:LedgerOkP x):rLedger.tot x≤1048576:=Nat.le_trans (ledger_tot h) (by decide)
theorem cI_DoR {V:Know} (hV:HtI V) {c:Scs LedSh} {x:DLedger} {f:List Nat} (h:rLedger.R V c x f) (hx:LedgerOkP x) {i:Ln} (ok:LnOk i) {s:SlV} {g:List Nat} (L:LR rI V s (magN i) g) {z:DLedger} (e:lnRun x i=(z,0)) :
  CallX Tryz.prog V 129 [qv0 c,qv8 (cells s i)] (DoPost V (z,0)):=by
 refine CallX.of_fits Tryz.mix (fI_Do _ _) fun _=>?_
 simp only [tI_Do,T.wp]
 refine(cI_CmdOkR hV ok L).mono ?_
 rintro V1 _ ⟨le1,rfl⟩
 refine⟨nofun,true,rfl,fun q=>absurd q (by decide),fun _=>(cI_opOf V1 s i).mono ?_⟩
 rintro V2 _ ⟨rfl,rfl⟩
 refine⟨fun _=>Know.le.refl _,⟨opV s i,one_opV s i⟩,rfl,(cI_perfR (hV.c.le le1) (rLedger.le h le1) (led_tot hx) ok (L.le le1)).mono ?_⟩
 rw [perfP_ok hx,e]
 rintro V3 _ ⟨le3,c3,f3,rfl,R3,O3⟩
 exact⟨nofun,(c3,_,()),rfl,le1.trans le3,c3,f3,rfl,R3,O3.pre le1⟩
theorem cI_ApplyR {V:Know} (hV:HtI V) {c:Scs LedSh} {x:DLedger} {f:List Nat} (h:rLedger.R V c x f) (hx:LedgerOkP x) {i:Ln} (ok:LnOk i) {s:SlV} {g:List Nat} (L:LR rI V s (magN i) g) {z:DLedger} (e:lnRun x i=(z,0)) :
  CallX Tryz.prog V 82 [qv0 c,qv8 (cells s i)] (DoPost V (z,0)):=by
 refine CallX.of_fits Tryz.mix (fI_Apply _ _) fun _=>?_
 simp only [tI_Apply,T.wp]
 refine(cI_DoR hV h hx ok L e).mono ?_
 rintro V1 _ ⟨le1,c1,f1,rfl,R1,O1⟩
 exact⟨nofun,(c1,0,()),rfl,fun q=>by simp at q,fun _=>⟨le1,c1,f1,rfl,R1,O1⟩⟩
def okS:ByteArray:=⟨⟨[111,107]⟩⟩
def lcL:List Tx:=[(okS,()),(⟨⟨[102,111,114,109]⟩⟩,()),(⟨⟨[99,117,114]⟩⟩,()),(⟨⟨[97,99,99,116]⟩⟩,()),(⟨⟨[104,97,118,101]⟩⟩,()),(⟨⟨[109,97,116,99,104]⟩⟩,()),(⟨⟨[114,97,116,101]⟩⟩,()),(⟨⟨[119,101,105,103,104,116]⟩⟩,()),(⟨⟨[108,97,114,103,101]⟩⟩,()),(⟨⟨[102,117,108,108]⟩⟩,())]
theorem cI_Lc0 (V:Know):CallX Tryz.prog V 20 [.int .i64 0] (TxPost V okS):=by
 refine CallX.of_fits Tryz.mix (fI_LcName _) fun _=>?_
 simp only [tI_LcName,T.wp]
 intro b cap spare hb hc _
 have hz:∀ y∈lcL,y.1.size≤9223372036854775807:=fun y hy=>Nat.le_trans ((by decide:∀ y∈lcL,y.1.size≤6) y hy) (by decide)
 have k:=newT (V:=V) (b:=b) (cap:=cap) (o:=lcL) (spare:=spare) (t:=9) hb hc (by decide) hz
 refine(cI_nameAt _ _ lcL _ 0 k.1 (by decide)).mono ?_
 rintro V1 _ ⟨rfl,rfl⟩
 exact⟨nofun,_,rfl,kset_le hb,rfl⟩
abbrev AnsPost (V:Know) (z:DLedger):Know→Value→Prop:=fun V' v=>V.le V'∧∃ c f,v=.tuple #[qv0 c,.string okS]∧rLedger.R V' c z f∧Own V V' f
theorem cI_AnswerR {V:Know} (hV:HtI V) {c:Scs LedSh} {x:DLedger} {f:List Nat} (h:rLedger.R V c x f) (hx:LedgerOkP x) {i:Ln} (ok:LnOk i) {z:DLedger} (e:lnRun x i=(z,0)) :
  CallX Tryz.prog V 36 [qv0 c,.string (lnX i)] (AnsPost V z):=by
 refine CallX.of_fits Tryz.mix (fI_Answer _ _) fun _=>?_
 simp only [tI_Answer,T.wp]
 refine(cI_TextCmdR hV ok).mono ?_
 rintro V1 _ ⟨le1,s,g,rfl,L⟩
 refine⟨nofun,(cells s i,true,()),rfl,fun q=>by simp at q,fun _=>(cI_ApplyR (hV.le le1) (rLedger.le h le1) hx ok L e).mono ?_⟩
 rintro V2 _ ⟨le2,c2,f2,rfl,R2,O2⟩
 refine⟨nofun,(c2,0,()),rfl,(cI_Lc0 V2).mono ?_⟩
 rintro V3 _ ⟨le3,rfl⟩
 exact⟨fun _=>le3,okS,rfl,(le1.trans le2).trans le3,c2,f2,rfl,rLedger.le R2 le3,(O2.pre le1).post le3⟩
theorem cI_AllR {V:Know} (hV:HtI V) {c:Scs LedSh} {x y:DLedger} {f:List Nat} (h:rLedger.R V c x f) (hx:LedgerOkP x) {l:List Ln} (hr:Run x l y) (hl:l.length≤36) {t:SlV} {g:List Nat} (L:LR rString V t (l.map tx) g) :
  CallX Tryz.prog V 13 [qv0 c,Sc.val .l t] (fun V' v=>V.le V'∧∃ c f t,v=.tuple #[qv0 c,Sc.val .l t]∧rLedger.R V' c y f):=by
 refine CallX.of_fits Tryz.mix (fI_AnswerAll _ _) fun _=>?_
 simp only [tI_AnswerAll,T.wp]
 refine(kI_ledgerCopy V c x f h (led_tot hx)).mono ?_
 rintro V1 _ ⟨le1,c1,f1,rfl,R1,_⟩
 have hn:=L.1
 rw [List.length_map] at hn
 refine⟨nofun,c1,rfl,fun w V'=>V1.le V'∧∃ (k:Nat) (z:DLedger) (g:List Nat),w.2.1=(k:Int)∧k≤l.length∧w.1.1=k∧rLedger.R V' w.2.2 z g∧Run z (l.drop k) y,fun w _=>((l.length:Int)-(w.2.1:Int)).toNat,⟨((0,[]),(0:Int),c1),rfl,Know.le.refl _,0,x,f1,rfl,Nat.zero_le _,rfl,R1,hr⟩,?_⟩
 rintro⟨⟨n1,ys⟩,(j:Int),cw⟩ V2 ⟨hle,k,z,g2,hk,hkl,hn1,R2,hr2⟩
 replace hk:j=(k:Int):=hk
 replace hn1:n1=k:=hn1
 replace R2:rLedger.R V2 cw z g2:=R2
 subst hk hn1
 have le2:=le1.trans hle
 refine⟨fun hlt=>?_,fun hge=>?_⟩
 ·have h1:n1<l.length:=by
   have:(n1:Int)<(t.n:Int):=of_decide_eq_true hlt
   omega
  obtain⟨⟨b1,o1,a1,l1⟩,_⟩:=(L.le le2).txt (i:=n1) (by rw [List.length_map]; exact h1)
  rw [List.getElem_map] at l1
  rw [List.drop_eq_getElem_cons h1] at hr2
  obtain⟨hz,ok,z',e,hr3⟩:=hr2
  refine⟨_,a1,(by omega:(0:Int)≤(n1:Int)),(by omega:(n1:Int)<(t.n:Int)),_,l1,(cI_AnswerR (hV.le le2) R2 hz ok e).mono ?_⟩
  rintro V3 _ ⟨le3,c3,f3,rfl,R3,_⟩
  refine⟨nofun,(c3,okS,()),rfl,rfl,⟨rfl,(by omega:(n1+1)*16≤140737488355328),(by omega:n1+1≤9223372036854775807)⟩,_,rfl,((n1+1,ys++[.string okS]),((n1+1:Nat):Int),c3),by rw [nxt h1 (by omega)]; rfl,⟨hle.trans le3,n1+1,z',f3,rfl,h1,rfl,R3,hr3⟩,?_⟩
  show((l.length:Int)-((n1+1:Nat):Int)).toNat<((l.length:Int)-(n1:Int)).toNat
  omega
 ·have h1:n1=l.length:=by
   have:¬ (n1:Int)<(t.n:Int):=of_decide_eq_false hge
   omega
  rw [h1,List.drop_length] at hr2
  replace hr2:z=y:=hr2
  subst hr2
  intro b cap spare hb hc _
  exact⟨le2.trans (kset_le hb),cw,g2,⟨some ⟨b,0,none⟩,n1,cap⟩,rfl,rLedger.le R2 (kset_le hb)⟩
abbrev ledT:TypeId:=31
theorem cI_ledgersR {V:Know} (hV:HtI V) {c:Scs LedSh} {x y:DLedger} {f:List Nat} (h:rLedger.R V c x f) (hx:LedgerOkP x) {l:List Ln} (hr:Run x l y) (hl:l.length≤36) {t:SlV} {g:List Nat} (L:LR rString V t (l.map tx) g) :
  CallX Tryz.prog V 19 [qv0 c,Sc.val .l t] (fun V' v=>V.le V'∧∃ s t f,v=.tuple #[Sc.val .l s,Sc.val .l t]∧LR rString V' t (List.replicate l.length ((okS,()):Tx)) f):=by
 refine CallX.of_fits Tryz.mix (fI_ledgers _ _) fun _=>?_
 simp only [tI_ledgers,ap_d,T.wp]
 refine(kI_ledgerCopy V c x f h (led_tot hx)).mono ?_
 rintro V1 _ ⟨le1,c1,f1,rfl,R1,O1⟩
 have hn:=L.1
 rw [List.length_map] at hn
 refine⟨nofun,c1,rfl,fun b cap spare hb hc hsp=>?_⟩
 have q:=kset_le (x:=(Scs.vals LedSh c1++spare,((ledT:TypeId),((0,0):Nat × Nat)))) hb
 have bV:V b=none:=none_of_le le1 hb
 have nb:b ∉ f1:=fun hm=>by
  obtain⟨u,v,k⟩:=O1.2.2 b hm
  rw [hb] at k; cases k
 have G0:GR rLedger ledT (kset V1 b (Scs.vals LedSh c1++spare,(ledT,(0,0)))) ⟨some ⟨b,0,none⟩,1,cap⟩ [x] (b :: (f1++[])) :=
  ⟨rfl,hc,.inr ⟨b,f1++[],[c1],spare,rfl,by rw [kset_same]; simp,by rw [hsp]; rfl,⟨f1,[],rfl,rLedger.le R1 q,rfl⟩,rfl⟩⟩
 have OG:Own V (kset V1 b (Scs.vals LedSh c1++spare,(ledT,(0,0)))) (b :: (f1++[])):=by
  rw [List.append_nil]
  refine⟨List.nodup_cons.2 ⟨nb,O1.1⟩,fun k hk=>?_,fun k hk=>?_⟩
  ·rcases List.mem_cons.1 hk with rfl | hk
   ·exact bV
   ·exact O1.2.1 k hk
  ·rcases List.mem_cons.1 hk with rfl | hk
   ·exact⟨_,_,kset_same⟩
   ·obtain⟨u,v,e⟩:=O1.2.2 k hk
    exact⟨u,v,q _ _ e⟩
 refine⟨fun w V'=>V.le V'∧∃ (k:Nat) (z:DLedger) (m:List DLedger) (g:List Nat),w.2.2.1=(k:Int)∧k≤l.length∧GR rLedger ledT V' w.1 m g∧Own V V' g∧m.length=k+1∧m[k]?=some z∧Run z (l.drop k) y∧w.2.1.1=k∧w.2.1.2=(List.replicate k ((okS,()):Tx)).map cellT,fun w _=>((l.length:Int)-(w.2.2.1:Int)).toNat,
  ⟨(⟨some ⟨b,0,none⟩,1,cap⟩,(0,[]),(0:Int),()),rfl,le1.trans q,0,x,[x],_,rfl,Nat.zero_le _,G0,OG,rfl,rfl,hr,rfl,rfl⟩,?_⟩
 rintro⟨(sw:SlV),⟨n1,ys⟩,(j:Int),u⟩ V2 ⟨le2,k,z,m,g2,hk,hkl,G,O,hm,hz0,hr2,hn1,hys⟩
 replace hk:j=(k:Int):=hk
 replace G:GR rLedger ledT V2 sw m g2:=G
 replace hn1:n1=k:=hn1
 replace hys:ys=(List.replicate k ((okS,()):Tx)).map cellT:=hys
 subst hk hn1 hys
 refine⟨fun hlt=>?_,fun hge=>?_⟩
 ·have h1:n1<l.length:=by
   have:(n1:Int)<(t.n:Int):=of_decide_eq_true hlt
   omega
  obtain⟨⟨b1,o1,a1,l1⟩,_⟩:=(L.le le2).txt (i:=n1) (by rw [List.length_map]; exact h1)
  rw [List.getElem_map] at l1
  rw [List.drop_eq_getElem_cons h1] at hr2
  obtain⟨hz,ok,z',e,hr3⟩:=hr2
  have h2:n1<m.length:=by omega
  have ez:m[n1]=z:=by
   rw [List.getElem?_eq_getElem h2] at hz0
   exact Option.some.inj hz0
  have Gl:=G.lr (show m.length≤9223372036854775807 by omega)
  have hsn:=Gl.1
  obtain⟨b3,o3,cc,fc,a3,l3,R3,_⟩:=Gl.at h2
  rw [ez] at R3
  refine⟨_,a1,(by omega:(0:Int)≤(n1:Int)),(by omega:(n1:Int)<(t.n:Int)),_,l1,_,a3,(by omega:(0:Int)≤(n1:Int)),(by omega:(n1:Int)<(sw.n:Int)),cc,l3,(cI_AnswerR (hV.le le2) R3 hz ok e).mono ?_⟩
  rintro V4 _ ⟨le4,c4,f4,rfl,R4,O4⟩
  refine⟨nofun,(c4,okS,()),rfl,rfl,rfl,ap_row (sh:=LedSh) (V0:=V) (x:=z') (G.le le4) R4 (O.append O4 le2 le4) (le2.trans le4) (by kernel_rfl) (by omega) (by omega) fun s5 V5 f5 G5 O5 le5=>?_⟩
  refine⟨rfl,⟨rfl,(by omega:(n1+1)*16≤140737488355328),(by omega:n1+1≤9223372036854775807)⟩,_,rfl,(s5,(n1+1,(List.replicate (n1+1) ((okS,()):Tx)).map cellT),((n1+1:Nat):Int),()),?_,⟨le5,n1+1,z',m++[z'],f5,rfl,h1,G5,O5,by rw [List.length_append,hm]; rfl,?_,hr3,rfl,rfl⟩,?_⟩
  ·rw [nxt h1 (by omega),List.replicate_succ',List.map_append]
   rfl
  ·rw [← hm]; simp
  ·show((l.length:Int)-((n1+1:Nat):Int)).toNat<((l.length:Int)-(n1:Int)).toNat
   omega
 ·have h1:n1=l.length:=by
   have:¬ (n1:Int)<(t.n:Int):=of_decide_eq_false hge
   omega
  intro b4 c4 sp4 hb4 hc4 _
  have q:=newT (V:=V2) (b:=b4) (cap:=c4) (o:=List.replicate n1 ((okS,()):Tx)) (spare:=sp4) (t:=9) hb4 (by rw [List.length_replicate]; exact hc4) (by rw [List.length_replicate]; omega) (fun y hy=>by
   rw [List.eq_of_mem_replicate hy]; decide)
  rw [List.length_replicate] at q
  refine⟨le2.trans (kset_le hb4),sw,⟨some ⟨b4,0,none⟩,n1,c4⟩,[b4],rfl,?_⟩
  rw [← h1]
  exact q.1
theorem cI_FirstBadR {V:Know} (hV:HtI V) {c:Scs LedSh} {x y:DLedger} {f:List Nat} (h:rLedger.R V c x f) (hx:LedgerOkP x) {l:List Ln} (hr:Run x l y) (hl:l.length≤36) {t:SlV} {g:List Nat} (L:LR rString V t (l.map tx) g) :
  CallX Tryz.prog V 8 [qv0 c,Sc.val .l t] (fun V' v=>V.le V'∧v=.int .i64 (-1)):=by
 refine CallX.of_fits Tryz.mix (fI_FirstBad _ _) fun _=>?_
 simp only [tI_FirstBad,T.wp]
 refine(cI_ledgersR hV h hx hr hl L).mono ?_
 rintro V1 _ ⟨le1,s1,t1,g1,rfl,L1⟩
 have hn:=L1.1
 rw [List.length_replicate] at hn
 refine⟨nofun,(s1,t1,()),rfl,fun b hb=>?_⟩
 refine⟨fun w V'=>V1.le V'∧∃ (k:Nat) (n:Int),w.1=(k:Int)∧k≤l.length∧V' b=some ([.int .i64 n],(66,(0,0))),fun w _=>((l.length:Int)-(w.1:Int)).toNat,⟨((0:Int),()),rfl,kset_le hb,0,0,rfl,Nat.zero_le _,kset_same⟩,?_⟩
 rintro⟨(j:Int),u⟩ V2 ⟨le2,k,n,hk,hkl,hbk⟩
 replace hk:j=(k:Int):=hk
 subst hk
 refine⟨fun hlt=>?_,fun hge=>⟨le1.trans le2,rfl⟩⟩
 have h1:k<l.length:=by
  have:(k:Int)<(t1.n:Int):=of_decide_eq_true hlt
  omega
 obtain⟨⟨b1,o1,a1,l1⟩,_⟩:=(L1.le le2).txt (i:=k) (by rw [List.length_replicate]; exact h1)
 rw [List.getElem_replicate] at l1
 refine⟨_,a1,(by omega:(0:Int)≤(k:Int)),(by omega:(k:Int)<(t1.n:Int)),_,l1,(cI_Lc0 V2).mono ?_⟩
 rintro V3 _ ⟨le3,rfl⟩
 refine⟨nofun,okS,rfl,fun q=>?_,fun _=>(cI_count (le3 _ _ hbk)).mono ?_⟩
 ·rw [tx_self] at q; cases q
 rintro V4 _ ⟨m,rfl,rfl⟩
 refine⟨nofun,m,rfl,_,rfl,(((k+1:Nat):Int),()),by rw [nxt h1 (by omega)]; rfl,⟨kset_le2 (le2.trans le3) hb,k+1,m,rfl,h1,kset_same⟩,?_⟩
 show((l.length:Int)-((k+1:Nat):Int)).toNat<((l.length:Int)-(k:Int)).toNat
 omega
end Go.Proofs.YtpdfdkccgkieoaaGreatDoor
namespace Go.Proofs.YtpdfdkccgkieoaaGreatDoor
open Sx
set_option maxRecDepth 100000
theorem cS_IntOfN (V:Know) (k:Int) (k1:-1000000≤k) (k2:k≤1000000):CallX Tryz.prog V 58 [.int .i64 k] (fun V' r=>V.le V'∧∃ e s o f,r=qv1 (e,s,())∧LR rI V' s o f∧Own V V' f∧IntOkP e o∧sval e o=k∧o.length≤3):=by
 refine CallX.of_fits Tryz.mix (fS_IntOf _) fun _=>?_
 simp only [tS_IntOf,T.wp]
 refine⟨fun hb=>?_,fun _=>⟨fun hb=>?_,fun hb=>?_⟩⟩
 ·have:k=-9223372036854775808:=by simpa using hb
  omega
 ·have hk:k<0:=of_decide_eq_true hb
  rw [wrap_i64 (by omega)]
  refine(cS_NatOf V (0-k) ⟨by omega,by omega⟩).mono ?_
  rintro V1 _ ⟨le1,s1,o1,f1,rfl,L1,_,C1,v1,n1⟩
  refine⟨nofun,s1,rfl,(cS_l04Make V1 true s1 o1 f1 L1 C1 (by omega)).mono ?_⟩
  rintro V2 _ ⟨le2,s2,f2,rfl,L2,O2⟩
  obtain⟨k3,k4⟩:=made_ok (q:=true) C1 (by omega)
  refine⟨nofun,_,rfl,le1.trans le2,_,s2,o1,f2,rfl,L2,O2.pre le1,k3,?_,n1⟩
  rw [k4]
  simp only [sval,if_true]
  omega
 ·have hk:¬ k<0:=of_decide_eq_false hb
  refine(cS_NatOf V k ⟨by omega,by omega⟩).mono ?_
  rintro V1 _ ⟨le1,s1,o1,f1,rfl,L1,_,C1,v1,n1⟩
  refine⟨nofun,s1,rfl,(cS_l04Make V1 false s1 o1 f1 L1 C1 (by omega)).mono ?_⟩
  rintro V2 _ ⟨le2,s2,f2,rfl,L2,O2⟩
  obtain⟨k3,k4⟩:=made_ok (q:=false) C1 (by omega)
  refine⟨nofun,_,rfl,le1.trans le2,_,s2,o1,f2,rfl,L2,O2.pre le1,k3,?_,n1⟩
  rw [k4]
  simp only [sval,Bool.false_eq_true,if_false]
  omega
theorem Dx.fresh {V0 V V':Know} {b:Nat} {s:SlV} (h:Dx V0 b s V V') {k:Nat} (hk:k≠b) (hn:V' k=none):V k=none:=by
 cases hv:V k with
 | none=>rfl
 | some y =>
  have:=h.2 k y (by simpa using hk) hv
  rw [hn] at this
  cases this
abbrev NatP (V0:Know) (b:Nat) (s:SlV) (V:Know) (n:Int):Know→Value→Prop:=fun V' r=>Dx V0 b s V V'∧∃ b3 cap cs o,r=Sc.val .l ⟨some ⟨b3,0,none⟩,o.length,cap⟩∧V' b3=some (cs,(3,(0,0)))∧cs.length=cap∧LR rI V' ⟨some ⟨b3,0,none⟩,o.length,cap⟩ o [b3]∧b3≠b∧V b3=none∧Can o∧(o.length:Int)≤n
theorem cS_l02Nat {V0 V:Know} {b:Nat} {s:SlV} (hc:Cx V0 b s V) (n:Int) (n0:0≤n) (n1:n≤5):CallX Tryz.prog V 70 [.pointer (some ⟨b,0,none⟩),.int .i64 n] (NatP V0 b s V n):=by
 refine CallX.of_fits Tryz.mix (fS_l02Nat _ _) fun _=>?_
 simp only [tS_l02Nat,T.wp]
 rw [wrap_i64 (by omega)]
 refine(cS_l01Below hc (n+1)).mono ?_
 rintro V1 _ ⟨d1,x,rfl,x0,x1,_⟩
 have hx:=x1 (by omega)
 refine⟨nofun,x,rfl,?_⟩
 refine⟨fun y V'=>Dx V0 b s V V'∧∃ (k:Nat) (l:List Lim),(y.2.1:Int)=(k:Int)∧y.1.1=l.length∧y.1.2=l.map cellI∧((k+l.length:Nat):Int)≤n∧Lims l,fun y _=>(y.2.1:Int).toNat,
  ⟨((0,[]),x,()),rfl,d1,x.toNat,[],(by show x=_; omega),rfl,rfl,(by simp; omega),lims_nil⟩,?_⟩
 rintro⟨⟨(m:Nat),(ys:List Value)⟩,(i:Int),u⟩ V2 ⟨d2,k,l,hi,hm,hy,hk,hl⟩
 replace hi:i=(k:Int):=hi
 replace hm:m=l.length:=hm
 replace hy:ys=l.map cellI:=hy
 subst hi hm hy
 dsimp only
 refine⟨fun hgt=>?_,fun _=>?_⟩
 ·have hk0:0<k:=by
   have:(k:Int) > 0:=of_decide_eq_true hgt
   omega
  refine(cS_l01Below d2.1 1000000000).mono ?_
  rintro V3 _ ⟨d3,y,rfl,y0,y1,_⟩
  have hy1:=y1 (by omega)
  refine⟨nofun,y,rfl,(cS_l01Below d3.1 1000000000).mono ?_⟩
  rintro V4 _ ⟨d4,z,rfl,z0,z1,_⟩
  have hz1:=z1 (by omega)
  refine⟨nofun,z,rfl,fun b5 c5 sp hb5 hc5 _=>?_⟩
  have le5:=kset_le (x:=([Value.int .i64 0,.int .i64 1,.int .i64 2,.int .i64 999999999,.int .i64 500000000,.int .i64 y,.int .i64 z]++sp,((3:TypeId),((0,0):Nat × Nat)))) hb5
  have dd:=(d2.trans d3).trans d4
  have hL:LR rI (kset V4 b5 ([Value.int .i64 0,.int .i64 1,.int .i64 2,.int .i64 999999999,.int .i64 500000000,.int .i64 y,.int .i64 z]++sp,((3:TypeId),((0,0):Nat × Nat)))) ⟨some ⟨b5,0,none⟩,7,c5⟩ (([0,1,2,999999999,500000000,y,z]:List Int).map fun n=>(n,())) [b5] :=
   lr_lit (fps:=[]) (post:=sp) (cs:=([0,1,2,999999999,500000000,y,z]:List Int).map fun n=>(n,())) ⟨[],[],rfl,⟨rfl,rfl⟩,[],[],rfl,⟨rfl,rfl⟩,[],[],rfl,⟨rfl,rfl⟩,[],[],rfl,⟨rfl,rfl⟩,[],[],rfl,⟨rfl,rfl⟩,[],[],rfl,⟨rfl,rfl⟩,[],[],rfl,⟨rfl,rfl⟩,rfl⟩ kset_same rfl hc5 (by simp)
  refine(cS_l01Pick (dd.1.le le5) ⟨some ⟨b5,0,none⟩,7,c5⟩ _ [b5] hL (by simpa using fun e=>dd.1.some hb5 e.symm) (by simp)).mono ?_
  rintro V6 _ ⟨d6,⟨w,wu⟩,hw,rfl⟩
  have hwb:0≤w∧w<1000000000:=by
   simp at hw
   rcases hw with h | h | h | h | h | h | h <;> omega
  have hwr:IntKind.i64.wrap ((k:Int)-1)=((k-1:Nat):Int):=by rw [wrap_i64 (by omega)]; omega
  refine⟨nofun,w,rfl,rfl,⟨rfl,by omega,by omega⟩,_,rfl,((l.length+1,l.map cellI++[Value.int .i64 w]),((k-1:Nat):Int),()),by rw [hwr]; rfl,⟨(dd.trans (dd.1.dx le5)).trans d6,k-1,l++[(w,())],rfl,by simp,by simp [cellI],by simp; omega,?_⟩,by show((k-1:Nat):Int).toNat<(k:Int).toNat; omega⟩
  exact lims_snoc hl hwb
 ·intro b3 c3 sp hb3 hc3 hsp
  have hcell:Tryz.prog.cellsOf 3=1:=by kernel_rfl
  have le3:=kset_le (x:=(l.map cellI++sp,((3:TypeId),((0,0):Nat × Nat)))) hb3
  have d3:=d2.trans (d2.1.dx le3)
  have hlen:(l.map cellI++sp).length=c3:=by
   rw [hcell] at hsp
   simp [hsp]
   omega
  have L3:LR rI (kset V2 b3 (l.map cellI++sp,((3:TypeId),((0,0):Nat × Nat)))) ⟨some ⟨b3,0,none⟩,l.length,c3⟩ l [b3]:=lr_cells kset_same hc3 (by omega)
  refine(cS_l02Trim _ ⟨some ⟨b3,0,none⟩,l.length,c3⟩ l [b3] L3).mono ?_
  rintro V4 _ ⟨rfl,s',rfl,hs',L4⟩
  have ht:=trim_can hl
  have hn4:=L4.1
  have e4:s'=⟨some ⟨b3,0,none⟩,(trimL l).length,c3⟩:=by
   rw [hs'] at hn4 ⊢
   rw [← hn4]
  subst e4
  refine⟨nofun,_,rfl,d3,b3,c3,_,trimL l,rfl,kset_same,hlen,L4,d2.1.some hb3,d2.fresh (d2.1.some hb3) hb3,ht.1,?_⟩
  have:(trimL l).length≤l.length:=by simp [trimL]; omega
  omega
theorem cS_l04Draw {V0 V:Know} {b:Nat} {s:SlV} (hc:Cx V0 b s V) (n:Int) (n0:0≤n) (n1:n≤5):CallX Tryz.prog V 68 [.pointer (some ⟨b,0,none⟩),.int .i64 n]
  (fun V' r=>Dx V0 b s V V'∧∃ e t o g,r=qv1 (e,t,())∧LR rI V' t o g∧(∀ y∈g,y≠b)∧IntOkP e o∧o.length≤5):=by
 refine CallX.of_fits Tryz.mix (fS_l04Draw _ _) fun _=>?_
 simp only [tS_l04Draw,T.wp]
 refine(cS_l01Once hc 3).mono ?_
 rintro V1 _ ⟨d1,e,rfl⟩
 refine⟨nofun,e,rfl,fun _=>(cS_l01Below d1.1 2001).mono ?_,fun _=>(cS_l01Once d1.1 2).mono ?_⟩
 ·rintro V2 _ ⟨d2,x,rfl,x0,x1,_⟩
  have hx:=x1 (by omega)
  refine⟨nofun,x,rfl,?_⟩
  rw [wrap_i64 (by omega)]
  refine(cS_IntOfN V2 (x-1000) (by omega) (by omega)).mono ?_
  rintro V3 _ ⟨le3,e3,t,o,g,rfl,L3,O3,ok3,_,n3⟩
  exact⟨nofun,_,rfl,(d1.trans d2).trans (d2.1.dx le3),e3,t,o,g,rfl,L3,fun y hy=>by simpa using own_off d2.1 O3 y hy,ok3,by omega⟩
 ·rintro V2 _ ⟨d2,e2,rfl⟩
  refine⟨nofun,e2,rfl,(cS_l02Nat d2.1 n n0 n1).mono ?_⟩
  rintro V3 _ ⟨d3,b3,cap,cs,o,rfl,_,_,L3,_,_,C3,n3⟩
  refine⟨nofun,_,rfl,(cS_l04Make V3 e2 _ o [b3] L3 C3 (by omega)).mono ?_⟩
  rintro V4 _ ⟨le4,t,g,rfl,L4,O4⟩
  obtain⟨k1,_⟩:=made_ok (q:=e2) C3 (by omega)
  exact⟨nofun,_,rfl,((d1.trans d2).trans d3).trans (d3.1.dx le4),_,t,o,g,rfl,L4,fun y hy=>by simpa using own_off d3.1 O4 y hy,k1,by omega⟩
theorem cS_RatMakeP (V:Know) (e:Bool) (t u:SlV) (n d:List Lim) (f g:List Nat) (h:LR rI V t n f) (h':LR rI V u d g) (hn:IntOkP e n) (hd:Can d) (hp:0<valN d) (ld:d.length≤50) :
  CallX Tryz.prog V 71 [qv1 (e,t,()),qv1 (false,u,())] (RatPost V (sval e n) (valN d)):=by
 refine CallX.of_fits Tryz.mix (fS_RatMake _ _) fun _=>?_
 simp only [tS_RatMake,T.wp]
 have hl:=hn.1.2
 refine(cS_IntOk V e t n f h).mono ?_
 rintro V1 r ⟨rfl,e1,rfl,he1⟩
 obtain rfl:e1=true:=he1.2 hn
 refine⟨nofun,true,rfl,nofun,fun _=>(cS_IntOk V1 false u d g h').mono ?_⟩
 rintro V2 r ⟨rfl,e2,rfl,he2⟩
 obtain rfl:e2=true:=he2.2 ⟨⟨hd,ld⟩,(fun h=>by cases h)⟩
 refine⟨nofun,true,rfl,nofun,fun _=>(cS_l05Low V2 _ t u n d f g h h' hn.1.1 hd hp (by omega) (by omega)).mono ?_⟩
 rintro V3 _ ⟨le3,c3,x3,e3,f3,rfl,R3,O3,hx⟩
 refine⟨nofun,(c3,e3,()),rfl,le3,c3,x3,e3,f3,rfl,R3,O3,?_⟩
 have eb:(!e == false)=e:=by cases e <;> rfl
 rw [eb] at hx
 exact hx
theorem cS_RatZero (V:Know):CallX Tryz.prog V 72 [] (fun V' r=>V.le V'∧∃ c g,r=qv5 c∧rRat.R V' c nought g∧∀ y∈g,V y=none):=by
 refine CallX.of_fits Tryz.mix fS_RatZero fun _=>?_
 simp only [tS_RatZero,T.wp]
 intro b1 c1 sp hb1 hc1 _
 refine⟨kset_le hb1,(false,⟨none,0,0⟩,⟨some ⟨b1,0,none⟩,1,c1⟩,()),_,rfl,rat_mk lr_nil (one_limb hb1 hc1),fun y hy=>?_⟩
 obtain rfl:y=b1:=by simpa using hy
 exact hb1
end Go.Proofs.YtpdfdkccgkieoaaGreatDoor
namespace Go.Proofs.YtpdfdkccgkieoaaGreatDoor
open Sx
set_option maxRecDepth 100000
abbrev zeroQ (y:DRat):Bool:=sgn (sval y.1 y.2.1) == 0
abbrev lesB (a b:ByteArray):Bool:=Op.bytesLess a.toList b.toList
def addR (cur:ByteArray) (y:DRat) (l:List DRest):List DRest :=
 l.filter (fun x=>lesB x.1 cur)++(if zeroQ y=true then [] else [(cur,y)])++l.filter (fun x=>lesB cur x.1)
def endR (cur:ByteArray) (y:DRat):List DRest→Bool→List DRest→List DRest
 | out,d,[]=>if (!d && !zeroQ y)=true then out++[(cur,y)] else out
 | out,d,x :: l=>if x.1=cur then endR cur y out d l else if (!d && lesB cur x.1 && !zeroQ y)=true then endR cur y (out++[(cur,y)]++[x]) true l else endR cur y (out++[x]) d l
abbrev Up (l:List DRest):Prop:=l.Pairwise fun a b=>LessP a.1 b.1
theorem les_no {a b:ByteArray} (h:LessP a b):lesB b a=false:=by
 cases k:lesB b a with
 | false=>rfl
 | true=>exact absurd (LessP.trans h k) LessP.irr
theorem les_ne {a b:ByteArray} (h:LessP a b):a≠b:=fun e=>by rw [e] at h; exact LessP.irr h
theorem fil_all {α:Type} {p:α→Bool}:∀ {l:List α},(∀ x∈l,p x=true)→l.filter p=l
 | _,h=>List.filter_eq_self.2 h
theorem fil_no {α:Type} {p:α→Bool} {l:List α} (h:∀ x∈l,p x=false):l.filter p=[]:=by
 rw [List.filter_eq_nil_iff]
 intro x hx
 rw [h x hx]; decide
theorem endR_done {cur:ByteArray} {y:DRat}:∀ {l out:List DRest} {d:Bool},(∀ x∈l,LessP cur x.1)→(d=true∨zeroQ y=true)→endR cur y out d l=out++l
 | [],out,d,_,h=>by
  rw [endR,if_neg (by rcases h with h | h <;> simp [h]),List.append_nil]
 | x :: l,out,d,hx,h=>by
  have h1:x.1≠cur:=(les_ne (hx x (by simp))).symm
  rw [endR,if_neg h1,if_neg (by rcases h with h | h <;> simp [h]),endR_done (fun z hz=>hx z (by simp [hz])) h]
  simp
theorem endR_eq {cur:ByteArray} {y:DRat}:∀ {l out:List DRest},Up l→endR cur y out false l=out++addR cur y l
 | [],out,_=>by
  rw [endR]
  unfold addR
  cases zeroQ y <;> simp
 | x :: l,out,h=>by
  obtain⟨h1,h2⟩:=List.pairwise_cons.1 h
  rw [endR]
  by_cases e:x.1=cur
  ·rw [if_pos e,endR_eq h2]
   have k:lesB x.1 cur=false∧lesB cur x.1=false:=by rw [e]; exact⟨bless_irr _,bless_irr _⟩
   unfold addR
   rw [List.filter_cons_of_neg (by simp [k.1]),List.filter_cons_of_neg (by simp [k.2])]
  ·rw [if_neg e]
   by_cases g:LessP cur x.1
   ·have ha:∀ z∈l,LessP cur z.1:=fun z hz=>g.trans (h1 z hz)
    have k1:(x :: l).filter (fun x=>lesB x.1 cur)=[]:=fil_no fun z hz=>by
     rcases List.mem_cons.1 hz with rfl | hz
     ·exact les_no g
     ·exact les_no (ha z hz)
    have k2:(x :: l).filter (fun x=>lesB cur x.1)=x :: l:=fil_all fun z hz=>by
     rcases List.mem_cons.1 hz with rfl | hz
     ·exact g
     ·exact ha z hz
    have gb:lesB cur x.1=true:=g
    unfold addR
    rw [k1,k2]
    cases hz:zeroQ y with
    | true =>
     rw [if_neg (by simp),endR_done ha (.inr hz)]
     simp
    | false =>
     rw [if_pos (by simp [gb]),endR_done ha (.inl rfl)]
     simp
   ·have gb:lesB cur x.1=false:=by cases k:lesB cur x.1 with | false=>rfl | true=>exact absurd k g
    have lb:lesB x.1 cur=true:=LessP.tot g (fun q=>e q.symm)
    rw [if_neg (by simp [gb]),endR_eq h2]
    unfold addR
    rw [List.filter_cons_of_pos (by simp [lb]),List.filter_cons_of_neg (by simp [gb])]
    simp
theorem addR_up {cur:ByteArray} {y:DRat} {l:List DRest} (h:Up l):Up (addR cur y l):=by
 unfold addR
 have a1:=h.filter (fun x:DRest=>lesB x.1 cur)
 have a2:=h.filter (fun x:DRest=>lesB cur x.1)
 refine List.pairwise_append.2 ⟨List.pairwise_append.2 ⟨a1,?_,fun a ha b hb=>?_⟩,a2,fun a ha b hb=>?_⟩
 ·split <;> simp
 ·split at hb
  ·cases hb
  ·rcases List.mem_singleton.1 hb with rfl
   exact(List.mem_filter.1 ha).2
 ·have hb':LessP cur b.1:=(List.mem_filter.1 hb).2
  rcases List.mem_append.1 ha with ha | ha
  ·exact LessP.trans (List.mem_filter.1 ha).2 hb'
  ·split at ha
   ·cases ha
   ·rcases List.mem_singleton.1 ha with rfl
    exact hb'
theorem addR_mem {cur:ByteArray} {y:DRat} {l:List DRest} {x:DRest} (h:x∈addR cur y l):x∈l∨(x=(cur,y)∧zeroQ y=false):=by
 unfold addR at h
 rcases List.mem_append.1 h with h | h
 ·rcases List.mem_append.1 h with h | h
  ·exact .inl (List.mem_filter.1 h).1
  ·split at h
   ·cases h
   ·rename_i k
    exact .inr ⟨List.mem_singleton.1 h,by simpa using k⟩
 ·exact .inl (List.mem_filter.1 h).1
theorem up_rests {l:List DRest} (h:RestsOkP l):Up l:=by
 refine List.pairwise_iff_getElem.2 ?_
 intro i j hi hj hij
 exact(rests_sorted h).lt hj hij
theorem rests_up {l:List DRest} (h:Up l) (k:∀ x∈l,known x.1=true∧RatOkP x.2.1 x.2.2.1 x.2.2.2.1∧sgn (sval x.2.1 x.2.2.1)≠0):RestsOkP l:=fun i hi =>
 ⟨hi,(k _ (List.getElem_mem hi)).1,(k _ (List.getElem_mem hi)).2.1,(k _ (List.getElem_mem hi)).2.2,fun h0=>List.pairwise_iff_getElem.1 h (i-1) i (by omega) hi (by omega)⟩
theorem rests_mem {l:List DRest} (h:RestsOkP l) {x:DRest} (hx:x∈l):known x.1=true∧RatOkP x.2.1 x.2.2.1 x.2.2.2.1∧sgn (sval x.2.1 x.2.2.1)≠0:=by
 obtain⟨i,hi,rfl⟩:=List.getElem_of_mem hx
 obtain⟨_,a,b,c,_⟩:=h i hi
 exact⟨a,b,c⟩
theorem addR_ok {cur:ByteArray} {y:DRat} {l:List DRest} (h:RestsOkP l) (hc:known cur=true) (hy:RatOkP y.1 y.2.1 y.2.2.1):RestsOkP (addR cur y l) :=
 rests_up (addR_up (up_rests h)) fun x hx=>by
  rcases addR_mem hx with hx | ⟨rfl,hz⟩
  ·exact rests_mem h hx
  ·refine⟨hc,hy,fun e=>?_⟩
   have e:sgn (sval y.1 y.2.1)=0:=e
   unfold zeroQ at hz
   rw [e] at hz
   cases hz
def keyB (k:ByteArray) (x:DRest):Bool:=decide (x.1=k)
abbrev rS (x:DRat):Int:=sval x.1 x.2.1
abbrev rD (x:DRat):Int:=valN x.2.2.1
abbrev RatP (x:DRat):Prop:=RatOkP x.1 x.2.1 x.2.2.1
theorem ratP_pos {x:DRat} (h:RatP x):0<rD x:=(can_pos h.2.1.1).1 h.2.2.1
def AddRP (x y:DRat) (r:DRat × Bool):Prop:=RedS (rS x*rD y+rS y*rD x) (rD x*rD y) r.1 r.2
def atR (l:List DRest) (c:ByteArray):DRat:=((l.find? (keyB c)).map (·.2)).getD nought
theorem atR_ok {l:List DRest} (h:RestsOkP l) (c:ByteArray):RatP (atR l c):=by
 unfold atR
 cases hf:l.find? (keyB c) with
 | none=>exact nought_ok
 | some x=>exact(rests_mem h (List.mem_of_find?_eq_some hf)).2.1
end Go.Proofs.YtpdfdkccgkieoaaGreatDoor
