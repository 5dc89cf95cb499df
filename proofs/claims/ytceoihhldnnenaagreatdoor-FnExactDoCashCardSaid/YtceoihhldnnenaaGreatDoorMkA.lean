/-
  The laws' marks: what writes them, what finds them again; rows and lists of rows.
-/
import Derived.Test.YtceoihhldnnenaaGreatDoorCashX
import Derived.Test.YtceoihhldnnenaaGreatDoorDivB
namespace Go.Proofs.YtceoihhldnnenaaGreatDoor
open Sx
set_option maxRecDepth 100000
theorem cI_keep {V0 V:Know} (hV:HcI V) (c:Scs LedSh) (x:DLedger) (f:List Nat) (h:rLedger.R V c x f) (ok:RestsOkP x.2.1) (O:Own V0 V f) (le0:V0.le V) (cur:ByteArray) (kc:known cur=true) (d:Scs [.b,.l,.l]) (r:DRat) (g:List Nat) (hr:rRat.R V d r g) (rok:RatP r) :
  CallX Tryz.prog V 250 [qv2 c,.string cur,qv1 d] (fun V' v=>V.le V'∧DoPost V0 (keepP x cur r) V' v):=by
 refine CallX.of_fits Tryz.mix (fI_keep _ _ _) fun _=>?_
 obtain⟨c0,c1,c2,c3,cu⟩:=c
 obtain⟨x0,x1,x2,x3,xu⟩:=x
 obtain⟨f0,g0,rfl,h0,h⟩:=h
 obtain⟨f1,g1,rfl,h1,h⟩:=h
 obtain⟨⟨e2,z2⟩,h⟩:=h
 replace e2:c2=x2:=e2
 subst e2
 obtain⟨f3,g3,rfl,h3,hN⟩:=h
 replace hN:g3=[]:=hN
 subst hN
 rw [List.append_nil] at O
 replace h0:LR rAcct V c0 x0 f0:=h0
 replace h1:LR rRest V c1 x1 f1:=h1
 replace h3:LR rRate V c3 x3 f3:=h3
 simp only [tI_keep,T.wp]
 refine(cI_RestAdd hV c1 x1 f1 h1 ok cur kc d r g hr rok).mono ?_
 rintro V1 _ ⟨le1,t,l',f',e,rfl,L',O',hq⟩
 refine⟨nofun,(t,e,()),rfl,fun hf=>?_,fun ht=>?_⟩
 ·obtain rfl:e=false:=by simpa using hf
  rcases hq with ⟨q,_⟩ | ⟨_,_,y,hy⟩
  ·cases q
  rw [keepP_no ok rok hy]
  exact⟨le1,do_zero (le0.trans le1) 8⟩
 ·obtain rfl:e=true:=by simpa using ht
  rcases hq with ⟨_,y,hy,rfl⟩ | ⟨q,_⟩
  rotate_left
  ·cases q
  rw [keepP_yes ok kc rok hy]
  refine⟨le1,le0.trans le1,(c0,t,c2,c3,()),f0++(f'++f3),rfl,ledger_mk (x:=(x0,addR cur y x1,c2,x3,())) (h0.le le1) L' rfl z2 (h3.le le1),?_⟩
  have o1:Own V0 V (f0++f3):=O.sub ((List.sublist_append_right f1 f3).append_left f0)
  refine(o1.append O' le0 le1).perm ?_
  rw [List.append_assoc]
  exact List.Perm.append_left f0 List.perm_append_comm
theorem own_store {V0 V8 V9:Know} {f0 f0' g fr:List Nat} {bb:Nat} (O:Own V0 V8 (f0++fr)) (O':Own V0 V9 f0') (hb:bb∈f0) (hs:∀ y∈f0',y∈f0∨y∈g) (hg:∀ y∈g,y ∉ fr) (ho:∀ y,y≠bb→V9 y=V8 y):Own V0 V9 (f0'++fr):=by
 have hn:=List.nodup_append.1 O.1
 refine⟨List.nodup_append.2 ⟨O'.1,hn.2.1,fun a ha b hb2 e=>?_⟩,fun y hy=>?_,fun y hy=>?_⟩
 ·subst e
  rcases hs a ha with h | h
  ·exact hn.2.2 a h a hb2 rfl
  ·exact hg a h hb2
 ·rcases List.mem_append.1 hy with h | h
  ·exact O'.2.1 y h
  ·exact O.2.1 y (by simp [h])
 ·rcases List.mem_append.1 hy with h | h
  ·exact O'.2.2 y h
  ·obtain⟨c,t,k⟩:=O.2.2 y (by simp [h])
   exact⟨c,t,by rw [ho y (fun e=>hn.2.2 bb hb y h e.symm)]; exact k⟩
theorem sval_not {e:Bool} {o:List Lim}:sval (!e) o=-sval e o:=by
 unfold sval
 cases e <;> simp
theorem cash_diff {x:DMoney} {m:Int} (hx:MonP x):(svM x-MonV x m).natAbs≤1000000:=by
 obtain⟨k1,k2⟩:=cash_bd hx.1
 obtain⟨h1,h2⟩:=rnd_diff (m:=m) (neg:=x.2.1) (n:=valN x.2.2.1) (d:=cashOf x.1) (by omega)
 show(sval x.2.1 x.2.2.1-sv x.2.1 (rndN m x.2.1 (valN x.2.2.1) (cashOf x.1)*cashOf x.1)).natAbs≤1000000
 generalize rndN m x.2.1 (valN x.2.2.1) (cashOf x.1)*cashOf x.1=w at h1 h2 ⊢
 unfold sval sv
 split <;> omega
theorem small_len {e:Bool} {o:List Lim} (h:Can o) (k:(sval e o).natAbs≤1000000):o.length≤1:=by
 refine Nat.le_of_not_lt fun hl=>?_
 have h1:=can_ge h (by omega)
 have h2:=pw_mono (show 1≤o.length-1 by omega)
 have h3:=sval_abs (c0:=e) h.1
 omega
theorem diff_rat {z:Int} {x:DRat} {e:Bool} (h:RedS z 1 x e) (k:z.natAbs≤1000000):e=true:=by
 have e18:(1000000000:Int) ^ 18=1000000000000000000000000000000000000000000000000000000000000000000000000000000000000000000000000000000000000000000000000000000000000000000000000000000000000000000:=by decide
 exact redS_fits (by decide) h (by omega) (by omega)
theorem cashR_no {x:DMoney} {m:Int} {e:Bool} {o:List Lim} (ok:IntOkP e o) (v:sval e o=MonV x m) (hl:¬ o.length≤4):¬ ∃ t,CashR x m t:=by
 rintro⟨t,h1,_,h3,_⟩
 obtain⟨_,e2⟩:=int_inj ok h1.2.1 (v.trans h3.symm)
 rw [e2] at hl
 exact hl h1.2.2
theorem cI_opCash {V0 V:Know} (hV0:HcI V0) (c:Scs LedSh) (x:DLedger) (f:List Nat) (h:rLedger.R V c x f) (ht:rLedger.tot x≤1048576) (okL:LedgerOkP x) (O:Own V0 V f) (le0:V0.le V) (n:ByteArray) (hz:n.size≤9223372036854775807) (m:Int) :
  CallX Tryz.prog V 240 [qv10 (n,m,()),qv2 c] (fun V' v=>DoPost V0 (cashRun x n m) V' v):=by
 refine CallX.of_fits Tryz.mix (fI_opCash__run _ _) fun _=>?_
 have hV:=hV0.le le0
 obtain⟨c0,c1,c2,c3,cu⟩:=c
 obtain⟨x0,x1,x2,x3,xu⟩:=x
 obtain⟨f0,g0,rfl,h0,h⟩:=h
 obtain⟨f1,g1,rfl,h1,h⟩:=h
 obtain⟨⟨e2,z2⟩,h⟩:=h
 replace e2:c2=x2:=e2
 subst e2
 obtain⟨f3,g3,rfl,h3,hN⟩:=h
 replace hN:g3=[]:=hN
 subst hN
 rw [List.append_nil] at O
 replace h0:LR rAcct V c0 x0 f0:=h0
 replace h1:LR rRest V c1 x1 f1:=h1
 replace h3:LR rRate V c3 x3 f3:=h3
 have O0:Own V0 V f0:=O.sub (List.sublist_append_left _ _)
 have tt:totE rAcct x0≤1048576:=by
  have e:rLedger.tot (x0,x1,c2,x3,xu)=x0.length+totE rAcct x0+(x1.length+totE rRest x1+rRates.tot (c2,x3,xu)):=rfl
  omega
 simp only [tI_opCash__run,T.wp]
 refine(cI_IsWord V n hz).mono ?_
 rintro V1 _ ⟨rfl,b1,rfl,hb1⟩
 refine⟨nofun,b1,rfl,fun hf=>?_,fun k1=>(rI_isMode V1 m).mono ?_⟩
 ·rw [cashRun_no (fun k=>by rw [hb1.2 k.1] at hf; cases hf)]
  exact do_zero le0 1
 have w1:=hb1.1 (by simpa using k1)
 rintro V2 _ ⟨rfl,rfl⟩
 refine⟨nofun,_,rfl,fun hf=>?_,fun k2=>?_⟩
 ·rw [cashRun_no (fun k=>by
   have q:0≤m∧m≤6:=k.2
   rw [decide_eq_true q] at hf; cases hf)]
  exact do_zero le0 1
 have hm:RmP m:=by
  have q:decide (0≤m∧m≤6)=true:=by simpa using k2
  have q2:0≤m∧m≤6:=of_decide_eq_true q
  exact q2
 refine(cI_BalanceOf V2 c0 x0 f0 h0 tt n).mono ?_
 rintro V3 _ ⟨le3,cb,fb,rfl,Rb,Ob⟩
 have l3:=le0.trans le3
 rw [show decide (fnd n x0≠none)=(fnd n x0).isSome by cases fnd n x0 <;> simp]
 cases hf:fnd n x0 with
 | none =>
  refine⟨nofun,(cb,false,()),rfl,fun _=>?_,nofun⟩
  rw [cashRun_none ⟨w1,hm⟩ hf]
  exact do_zero l3 3
 | some i =>
 obtain⟨hi,hin⟩:=fnd_at hf
 rw [cashRun_at ⟨w1,hm⟩ hf]
 rw [balP_some hf hi] at Rb
 have mok:MonP x0[i].2:=(okL.1.2 i hi).2.2.1
 obtain⟨sb,rfl,Lb,zb⟩:=mon_elim Rb
 obtain⟨q1,q2⟩:=cash_bd mok.1
 have n4:=mok.2.2
 refine⟨nofun,((x0[i].2.1,x0[i].2.2.1,sb,()),true,()),rfl,nofun,fun _=>(pI_CurCash (hV.le le3) x0[i].2.1).mono ?_⟩
 rintro V4 _ ⟨le4,rfl⟩
 have l34:=le3.trans le4
 refine⟨fun _=>le4,_,rfl,(cI_RoundTo V4 x0[i].2.2.1 sb x0[i].2.2.2.1 fb (Lb.le le4) mok.2.1 n4 (cashOf x0[i].2.1) q1 q2 m hm).mono ?_⟩
 rintro V5 _ ⟨le5,e,t,o,g5,rfl,L5,O5,ok5,v5,n5⟩
 have l5:=l34.trans le5
 refine⟨nofun,((e,t,()),true,()),rfl,(rI_moneyOf (hV.le l5) x0[i].2.1 e t o g5 L5 mok.1 ok5).mono ?_⟩
 rintro V6 _ ⟨le6,hmo⟩
 have l6:=l5.trans le6
 rcases hmo with ⟨h4,rfl⟩ | ⟨h4,rfl⟩
 rotate_left
 ·refine⟨nofun,(_,false,()),rfl,nofun,fun _=>⟨fun _=>?_,nofun⟩⟩
  rw [cashAt_no hi (cashR_no ok5 v5 h4)]
  exact do_zero (le0.trans l6) 8
 refine⟨nofun,(_,true,()),rfl,nofun,fun _=>⟨nofun,fun _=>(cI_AcctAt V6 c0 x0 f0 (h0.le l6) n).mono ?_⟩⟩
 rintro V7 _ ⟨le7,rfl⟩
 have l7:=l6.trans le7
 have h7:=h0.le l7
 have hn7:=h7.1
 rw [atN_some hf]
 have e0:(i:Int).toNat=i:=by omega
 obtain⟨bb,ob,cs,u,cr,fc,hsa,hbb,hlen,hld,hR,hfc,hset⟩:=h7.putRow (O0.post l7) hi
 have Rz:rMoney.R V7 (x0[i].2.1,e,t,()) (x0[i].2.1,e,o,()) g5:=mon_mk zb (L5.le (le6.trans le7))
 have O57:Own V2 V7 g5:=(O5.pre l34).post (le6.trans le7)
 obtain⟨f0',Lf,Of,lef,hbf,hsub⟩:=hset (c':=(cr.1,(x0[i].2.1,e,t,()))) (x':=(x0[i].1,(x0[i].2.1,e,o,()))) (k:=1) (vs:=Scs.vals MonSh (x0[i].2.1,e,t,())) (Know.le.refl _) (le0.trans l7) ⟨hR.1,Rz⟩ (O0.append O57 le0 l7) (by simp [vals_len]) (setl_mon cr _)
 have hold:∀ y∈f0++(f1++f3),V2 y≠none:=fun y hy hn=>by
  obtain⟨c',t',k⟩:=O.2.2 y hy
  rw [hn] at k; cases k
 have hbv:V2 bb≠none:=hold bb (by simp [hbf])
 have hnb:∀ {V':Know} {g:List Nat},Own V2 V' g→bb ∉ g:=fun hO hm=>hbv (hO.2.1 bb hm)
 refine⟨fun _=>le7,(i:Int),rfl,?_⟩
 rw [e0]
 refine⟨_,hsa,by omega,by omega,cs,u,?_⟩
 simp only [addr_add_eq]
 refine⟨trivial,hbb,(by show ob+i*4+1+3≤cs.length; have q:ob+i*4+4≤cs.length:=hlen; omega),?_⟩
 generalize hV8:kset V7 bb (setl cs (ob+i*List.length [Sc.s,.s,.b,.l]+1) (Scs.vals MonSh (x0[i].2.1,e,t,())),(u,(0,0)))=V8 at Lf Of lef
 have hoff:∀ y,y≠bb→V8 y=V7 y:=fun y hy=>by rw [← hV8]; exact kset_other hy
 have hn3:=(List.nodup_append.1 O.1).2.2
 have hbr:∀ y∈f1++f3,y≠bb:=fun y hy e=>hn3 bb hbf y hy e.symm
 have le08:V0.le V8:=lef
 have O8:Own V0 V8 (f0'++(f1++f3)):=own_store (O.post l7) Of hbf hsub (fun y hy hy2=>hold y (by simp [hy2]) (O57.2.1 y hy)) hoff
 have R8:rLedger.R V8 (c0,c1,c2,c3,()) (x0.set i (x0[i].1,(x0[i].2.1,e,o,())),x1,c2,x3,()) (f0'++(f1++f3)) :=
  ledger_mk (x:=(x0.set i (x0[i].1,(x0[i].2.1,e,o,())),x1,c2,x3,())) Lf ((h1.le l7).loc fun y hy=>hoff y (hbr y (by simp [hy]))) rfl z2 ((h3.le l7).loc fun y hy=>hoff y (hbr y (by simp [hy])))
 have offL:∀ {s:SlV} {l:List Lim} {g:List Nat},LR rI V7 s l g→bb ∉ g→LR rI V8 s l g:=fun h hg=>h.loc fun y hy=>hoff y (fun e=>hg (e ▸ hy))
 have L58:=offL (L5.le (le6.trans le7)) (hnb O57)
 have Lb8:=offL (Lb.le (((le4.trans le5).trans le6).trans le7)) (hnb (Ob.post (Know.le.refl _)))
 change CallX Tryz.prog (kset V7 bb (setl cs (ob+i*List.length [Sc.s,.s,.b,.l]+1) (Scs.vals MonSh (x0[i].2.1,e,t,())),(u,(0,0)))) _ _ _
 rw [hV8]
 refine(cI_intNeg V8 e t o g5 L58 (by omega)).mono ?_
 rintro V9 _ ⟨le9,s9,f9,rfl,L9,_⟩
 have l08:V0.le V9:=le08.trans le9
 have s9v:sval (!e && decide (0<o.length)) o=-MonV x0[i].2 m:=by
  rw [(made_ok (q:=!e) ok5.1.1 (by omega)).2,sval_not,v5]
 refine⟨fun _=>(by subst hV8; exact le9),_,rfl,(cI_intAdd V9 x0[i].2.2.1 sb _ s9 x0[i].2.2.2.1 o fb f9 (Lb8.le le9) L9 mok.2.1.1.1 ok5.1.1 (by omega) (by omega)).mono ?_⟩
 rintro V10 _ ⟨le10,e10,s10,o10,f10,rfl,L10,_,C10,v10,p10,_⟩
 have v10':sval e10 o10=svM x0[i].2-MonV x0[i].2 m:=by
  rw [v10,s9v]; rfl
 have hd:=cash_diff (m:=m) mok
 have n10:=small_len (e:=e10) C10 (by rw [v10']; exact hd)
 refine⟨nofun,_,rfl,(cI_RatInt V10 e10 s10 o10 f10 L10 ⟨⟨C10,by omega⟩,p10⟩).mono ?_⟩
 rintro V11 _ ⟨le11,c11,r11,e11,f11,rfl,R11,_,hx⟩
 rw [v10'] at hx
 obtain rfl:=diff_rat hx hd
 have rok:=redS_ok (by decide) hx rfl
 have hC:CashR x0[i].2 m ((x0[i].2.1,e,o,()),r11):=⟨⟨mok.1,ok5,h4⟩,rfl,v5,hx⟩
 rw [cashAt_yes hi hC]
 have l811:=(le9.trans le10).trans le11
 refine⟨nofun,(c11,true,()),rfl,nofun,fun _=>(cI_keep (V0:=V0) (hV0.le (le08.trans l811)) (c0,c1,c2,c3,()) _ _ (rLedger.le R8 l811) okL.2.1 (O8.post l811) (le08.trans l811) x0[i].2.1 mok.1 c11 r11 f11 R11 rok).mono ?_⟩
 rintro V12 _ ⟨le12,h12⟩
 obtain⟨le012,c12,f12,rfl,R12,O12⟩:=h12
 exact⟨nofun,(c12,_,()),rfl,le012,c12,f12,rfl,R12,O12⟩
theorem cI_DoCash {V:Know} (hV:HcI V) (c:Scs LedSh) (x:DLedger) (f:List Nat) (h:rLedger.R V c x f) (ht:rLedger.tot x≤1048576) (n:ByteArray) (hz:n.size≤9223372036854775807) (m:Int) :
  CallX Tryz.prog V 10 [qv2 c,.string n,.int .i64 m] (DoPost V (perfP x (cashRun x n m))):=by
 refine CallX.of_fits Tryz.mix (fI_DoCash _ _ _) fun _=>?_
 simp only [tI_DoCash,T.wp]
 have key:CallX Tryz.prog V 52 [qv2 c,.iface 107 (qv10 (n,m,()))] (DoPost V (perfP x (cashRun x n m))) :=
  CallX.of_fits Tryz.mix (fI_perform_opCash c (n,m,())) fun _=>perf_wp0 (g:=240) (o:=qv10 (n,m,())) hV h ht (fun ok V1 c1 f1 le1 R1 O1=>cI_opCash hV c1 x f1 R1 ht ok O1 le1 n hz m) cashRun_zero
 refine key.mono ?_
 rintro V1 _ ⟨le1,c1,f1,rfl,R1,O1⟩
 exact⟨nofun,(c1,_,()),rfl,le1,c1,f1,rfl,R1,O1⟩
theorem cS_IntSubP (V:Know) (c0:Bool) (c1:SlV) (d0:Bool) (d1:SlV) (a b:List Lim) (f g:List Nat) (h:LR rI V c1 a f) (h':LR rI V d1 b g) (ha:IntOkP c0 a) (hb:IntOkP d0 b) (la:a.length≤20) (lb:b.length≤20) :
  CallX Tryz.prog V 46 [qv0 (c0,c1,()),qv0 (d0,d1,())] (IntPost V (sval c0 a-sval d0 b) 50):=by
 refine CallX.of_fits Tryz.mix (fS_IntSub _ _) fun _=>?_
 simp only [tS_IntSub,T.wp]
 refine(cS_IntOk V c0 c1 a f h).mono ?_
 rintro V1 _ ⟨rfl,e1,rfl,he1⟩
 obtain rfl:e1=true:=he1.2 ha
 refine⟨nofun,true,rfl,nofun,fun _=>(cS_IntOk V1 d0 d1 b g h').mono ?_⟩
 rintro V2 _ ⟨rfl,e2,rfl,he2⟩
 obtain rfl:e2=true:=he2.2 hb
 refine⟨nofun,true,rfl,nofun,fun _=>(rS_IntNeg V2 d0 d1 b g h' hb).mono ?_⟩
 rintro V3 _ ⟨le3,s3,f3,rfl,L3,_⟩
 refine⟨fun _=>le3,_,rfl,(cS_l04Add V3 c0 c1 _ s3 a b f f3 (h.le le3) L3 ha.1.1 hb.1.1 (by omega) (by omega)).mono ?_⟩
 rintro V4 _ ⟨le4,e4,s4,o4,f4,rfl,L4,O4,ok4,v4,n4⟩
 refine⟨nofun,_,rfl,le3.trans le4,e4,s4,o4,f4,rfl,L4,O4.pre le3,ok4,?_,n4⟩
 rw [v4,(made_ok (q:=!d0) hb.1.1 (by omega)).2,sval_not]
 omega
theorem cS_DoCash {V:Know} (hV:HcS V) (c:Scs LedSh) (x:DLedger) (f:List Nat) (h:rLedger.R V c x f) (ht:rLedger.tot x≤1048576) (n:ByteArray) (hz:n.size≤9223372036854775807) (m:Int) :
  CallX Tryz.prog V 8 [qv2 c,.string n,.int .i64 m] (DoS V (perfP x (cashRun x n m))):=by
 refine CallX.of_fits Tryz.mix (fS_DoCash _ _ _) fun _=>?_
 obtain⟨s0,s1,s3,f0,f1,f3,rfl,L0,L1,_⟩:=ledger_elim h
 have hn0:=L0.1
 simp only [tS_DoCash,T.wp]
 refine(cS_LedgerOk hV _ x f h).mono ?_
 rintro V1 _ ⟨le1,e1,rfl,he1⟩
 refine⟨nofun,e1,rfl,fun hf=>?_,fun k1=>?_⟩
 ·rw [perfP_no (fun k=>by rw [he1.2 k] at hf; cases hf)]
  exact doS_zero le1 1
 have okL:=he1.1 (by simpa using k1)
 rw [perfP_ok okL]
 refine(cS_IsWord V1 n hz).mono ?_
 rintro V2 _ ⟨rfl,e2,rfl,he2⟩
 refine⟨nofun,e2,rfl,fun hf=>?_,fun k2=>(rS_l06Mode V2 m).mono ?_⟩
 ·rw [cashRun_no (fun k=>by rw [he2.2 k.1] at hf; cases hf)]
  exact doS_zero le1 1
 have w1:=he2.1 (by simpa using k2)
 rintro V3 _ ⟨rfl,rfl⟩
 refine⟨nofun,_,rfl,fun hf=>?_,fun k3=>(cS_AcctAt V3 s0 x.1 f0 (L0.le le1) n).mono ?_⟩
 ·rw [cashRun_no (fun k=>by
   have q:0≤m∧m≤6:=k.2
   rw [decide_eq_true q] at hf; cases hf)]
  exact doS_zero le1 1
 have hm:RmP m:=by
  have q:decide (0≤m∧m≤6)=true:=by simpa using k3
  have q2:0≤m∧m≤6:=of_decide_eq_true q
  exact q2
 rintro V4 _ ⟨le4,rfl⟩
 have l4:=le1.trans le4
 refine⟨nofun,_,rfl,fun hlt=>?_,fun hge=>?_⟩
 ·rw [cashRun_none ⟨w1,hm⟩ (at_neg.1 (of_decide_eq_true hlt))]
  exact doS_zero l4 3
 obtain⟨i,hi,hf,hat,hin⟩:=at_some (of_decide_eq_false hge)
 rw [cashRun_at ⟨w1,hm⟩ hf]
 have e0:(i:Int).toNat=i:=by omega
 rw [hat,e0]
 have mok:MonP x.1[i].2:=(okL.1.2 i hi).2.2.1
 obtain⟨q1,q2⟩:=cash_bd mok.1
 have n4:=mok.2.2
 obtain⟨b1,o1,cl,fc,a1,l1,hR,_⟩:=(L0.le l4).at hi
 obtain⟨sb,ecl,Lb,zb⟩:=mon_elim hR.2
 refine⟨_,a1,by omega,by omega,cl.2,load_part l1 rfl,?_⟩
 rw [ecl]
 refine(pS_CurCash (hV.le l4) x.1[i].2.1).mono ?_
 rintro V5 _ ⟨le5,rfl⟩
 refine⟨fun _=>le5,_,rfl,(cS_RoundTo V5 x.1[i].2.2.1 sb x.1[i].2.2.2.1 fc (Lb.le le5) mok.2.1 n4 (cashOf x.1[i].2.1) q1 q2 m hm).mono ?_⟩
 rintro V6 _ ⟨le6,e,t,o,g6,rfl,L6,O6,ok6,v6,n6⟩
 refine⟨nofun,((e,t,()),true,()),rfl,(rS_l09Make x.1[i].2.1 e t o g6 L6 mok.1 ok6).mono ?_⟩
 rintro V7 r7 ⟨le7,hmo⟩
 have Lb7:=Lb.le ((le5.trans le6).trans le7)
 have hd:=cash_diff (m:=m) mok
 have l7:=((l4.trans le5).trans le6).trans le7
 obtain⟨cz,b,rfl,hb⟩:∃ (cz:Scs MonSh) (b:Bool),r7=Value.tuple #[qv3 cz,.bool b]∧((b=true∧o.length≤4∧cz=(x.1[i].2.1,e,t,()))∨(b=false∧¬ o.length≤4)):=by
  rcases hmo with ⟨h4,rfl⟩ | ⟨h4,rfl⟩
  ·exact⟨(x.1[i].2.1,e,t,()),true,rfl,.inl ⟨rfl,h4,rfl⟩⟩
  ·exact⟨_,false,rfl,.inr ⟨rfl,h4⟩⟩
 refine⟨nofun,(cz,b,()),rfl,(cS_IntSubP V7 _ sb _ t _ _ _ _ Lb7 (L6.le le7) mok.2.1 ok6 (by omega) (by omega)).mono ?_⟩
 rintro V8 _ ⟨le8,e8,s8,o8,f8,rfl,L8,_,ok8,v8,_⟩
 have v8':sval e8 o8=svM x.1[i].2-MonV x.1[i].2 m:=by rw [v8,v6]
 refine⟨nofun,(e8,s8,()),rfl,(cS_RatInt V8 e8 s8 o8 f8 L8 ok8).mono ?_⟩
 rintro V9 _ ⟨le9,c9,y9,e9,f9,rfl,R9,_,hx⟩
 rw [v8'] at hx
 obtain rfl:=diff_rat hx hd
 have rok:=redS_ok (by decide) hx rfl
 have l9:=(l7.trans le8).trans le9
 refine⟨nofun,(c9,true,()),rfl,(cS_RestAdd (hV.le l9) s1 x.2.1 f1 (L1.le l9) okL.2.1 x.1[i].2.1 mok.1 c9 y9 f9 R9 rok).mono ?_⟩
 rintro V10 _ ⟨le10,t10,l',f10,e10,rfl,L10,hq⟩
 have l10:=l9.trans le10
 refine⟨nofun,(t10,e10,()),rfl,nofun,fun _=>⟨fun hf=>?_,fun hT=>?_⟩⟩
 ·rcases hb with ⟨rfl,_,_⟩ | ⟨_,h4⟩
  ·cases hf
  rw [cashAt_no hi (cashR_no ok6 v6 h4)]
  exact doS_zero l10 8
 rcases hb with ⟨rfl,h4,rfl⟩ | ⟨rfl,_⟩
 rotate_left
 ·cases hT
 have hC:CashR x.1[i].2 m ((x.1[i].2.1,e,o,()),y9):=⟨⟨mok.1,ok6,h4⟩,rfl,v6,hx⟩
 rw [cashAt_yes hi hC]
 refine⟨fun hf=>?_,fun ht'=>?_⟩
 ·obtain rfl:e10=false:=by simpa using hf
  rcases hq with ⟨q,_⟩ | ⟨_,_,y,hy⟩
  ·cases q
  rw [keepP_no (x:=(x.1.set i (x.1[i].1,(x.1[i].2.1,e,o,())),x.2)) okL.2.1 rok hy]
  exact doS_zero l10 8
 ·obtain rfl:e10=true:=by simpa using ht'
  rcases hq with ⟨_,y,hy,rfl⟩ | ⟨q,_⟩
  rotate_left
  ·cases q
  rw [keepP_yes (x:=(x.1.set i (x.1[i].1,(x.1[i].2.1,e,o,())),x.2)) okL.2.1 mok.1 rok hy]
  refine(kS_l20CopyO V10 _ _ _ (rLedger.le h l10) ht).mono ?_
  rintro V11 _ ⟨le11,⟨d0,d1,d2,d3,du⟩,f11,rfl,R11,q0,q3,r0,Oq,r3,hdis⟩
  obtain⟨_,_,_,_,_,_,ed,_⟩:=ledger_elim R11
  have ed2:d2=x.2.2.1:=congrArg (fun z:Scs LedSh=>z.2.2.1) ed
  replace r0:LR rAcct V11 d0 x.1 q0:=r0
  replace r3:LR rRate V11 d3 x.2.2.2.1 q3:=r3
  have hnd:=r0.1
  have le710:=(le8.trans le9).trans le10
  have Og:Own V V10 g6:=(O6.pre (l4.trans le5)).post (le7.trans le710)
  obtain⟨bb,ob,cs,u,cr,fc',hsa,hbb,hlen,hld,hR',hfc',hset⟩:=r0.putRow (Oq.pre l10) hi
  have Rz:rMoney.R V11 (x.1[i].2.1,e,t,()) (x.1[i].2.1,e,o,()) g6:=mon_mk zb (L6.le ((le7.trans le710).trans le11))
  obtain⟨f0',Lf,_,lef,hbf,_⟩:=hset (c':=(cr.1,(x.1[i].2.1,e,t,()))) (x':=(x.1[i].1,(x.1[i].2.1,e,o,()))) (k:=1) (vs:=Scs.vals MonSh (x.1[i].2.1,e,t,())) (Know.le.refl _) (l10.trans le11) ⟨hR'.1,Rz⟩ ((Og.append Oq l10 le11).perm List.perm_append_comm) (by simp [vals_len]) (setl_mon cr _)
  have hb0:=Oq.2.1 bb hbf
  have le12:V10.le (kset V11 bb (setl cs (ob+i*List.length [Sc.s,.s,.b,.l]+1) (Scs.vals MonSh (x.1[i].2.1,e,t,())),(u,(0,0)))):=kset_le2 le11 hb0
  refine⟨nofun,(d0,d1,d2,d3,()),rfl,_,hsa,by omega,(by show(i:Int)<(d0.n:Int); omega),cs,u,?_⟩
  simp only [addr_add_eq]
  refine⟨trivial,hbb,(by show ob+i*4+1+3≤cs.length; have q:ob+i*4+4≤cs.length:=hlen; omega),?_⟩
  refine⟨lef,(d0,t10,d2,d3,()),f0'++(f10++q3),rfl,?_⟩
  have zp:d2.size≤9223372036854775807:=by rw [ed2]; exact known_len okL.2.2.1
  exact ledger_mk (x:=(x.1.set i (x.1[i].1,(x.1[i].2.1,e,o,())),addR x.1[i].2.1 y x.2.1,x.2.2)) Lf (L10.le le12) ed2 zp (r3.loc fun b hb=>kset_other (fun q=>hdis bb hbf (q ▸ hb)))
theorem uI_DoCash {V:Know} (hV:HcI V) (c:Scs LedSh) (x:DLedger) (f:List Nat) (h:rLedger.R V c x f) (ht:rLedger.tot x≤1048576) (a:ByteArray) (za:a.size≤1048576) (m:Int) :
  CallX Tryz.prog V 10 [qv2 c,.string a,.int .i64 m] (UI V (perfP x (cashRun x a m))):=(cI_DoCash hV c x f h ht a (by omega) m).mono (fun _ _=>doPost_u)
theorem uS_DoCash {V:Know} (hV:HcS V) (c:Scs LedSh) (x:DLedger) (f:List Nat) (h:rLedger.R V c x f) (ht:rLedger.tot x≤1048576) (a:ByteArray) (za:a.size≤1048576) (m:Int) :
  CallX Tryz.prog V 8 [qv2 c,.string a,.int .i64 m] (US V (perfP x (cashRun x a m))):=(cS_DoCash hV c x f h ht a (by omega) m).mono (fun _ _=>doS_u)
end Go.Proofs.YtceoihhldnnenaaGreatDoor
namespace Go.Proofs.YtceoihhldnnenaaGreatDoor
open Sx
set_option maxRecDepth 100000
def dch (k:Int):ByteArray:=bytesD [.int .u8 (IntKind.u8.wrap (IntKind.i64.wrap (48+k.tmod 10)))]
theorem dch_size (k:Int):(dch k).size=1:=rfl
def digs:Nat→Int→ByteArray→ByteArray
 | 0,_,out=>out
 | n+1,k,out=>if k > 0 then digs n (k.tdiv 10) (dch k++out) else out
theorem tdiv_lt {k:Int} (h:0<k):0≤k.tdiv 10∧(k.tdiv 10).toNat<k.toNat∧k.tdiv 10+1≤k:=by
 rw [Int.tdiv_eq_ediv_of_nonneg (by omega)]
 omega
theorem digs_enough:∀ (n m:Nat) (k:Int) (out:ByteArray),k.toNat≤n→k.toNat≤m→digs n k out=digs m k out
 | 0,0,_,_,_,_=>rfl
 | 0,m+1,k,out,h,_=>by
  unfold digs
  rw [if_neg (by omega)]
 | n+1,0,k,out,_,h=>by
  unfold digs
  rw [if_neg (by omega)]
 | n+1,m+1,k,out,h,h'=>by
  unfold digs
  by_cases hk:k > 0
  ·rw [if_pos hk,if_pos hk]
   have:=tdiv_lt hk
   exact digs_enough n m _ _ (by omega) (by omega)
  ·rw [if_neg hk,if_neg hk]
def mtext (k:Int):ByteArray:=if k≤0 then ⟨#[109,48]⟩ else ⟨#[109]⟩++digs k.toNat k ⟨#[]⟩
theorem cL_markText (V:Know) (k:Int) (hk:k≤4611686018427387904):CallX Tryz.prog V 74 [.int .i64 k] (fun V' r=>V.le V'∧r=.string (mtext k)∧(mtext k).size≤9223372036854775807):=by
 refine CallX.of_fits Tryz.mix (fL_markText _) fun _=>?_
 simp only [tL_markText,T.wp]
 refine⟨fun h0=>?_,fun h0=>?_⟩
 ·have h0':k≤0:=of_decide_eq_true h0
  rw [mtext,if_pos h0']
  exact⟨Know.le.refl _,rfl,by decide⟩
 have h0':¬ k≤0:=of_decide_eq_false h0
 refine⟨fun y V'=>V.le V'∧0≤(y.1:Int)∧(y.2.1.size:Int)+(y.1:Int)≤k∧digs (y.1:Int).toNat y.1 y.2.1=digs k.toNat k ⟨#[]⟩,fun y=>(y.1:Int).toNat,⟨(k,⟨#[]⟩,()),rfl,Know.le.refl _,(by omega:0≤k),(by show((0:Nat):Int)+k≤k; omega),rfl⟩,?_⟩
 rintro⟨(j:Int),out,u⟩ V' ⟨hle,hj,hsz,hd⟩
 replace hj:0≤j:=hj
 replace hsz:(ByteArray.size out:Int)+j≤k:=hsz
 replace hd:digs j.toNat j out=digs k.toNat k ⟨#[]⟩:=hd
 refine⟨fun hp=>?_,fun hz=>?_⟩
 ·have hp':j > 0:=of_decide_eq_true hp
  have ht:=tdiv_lt hp'
  refine⟨by decide,fun b cap spare hb hc _=>?_⟩
  have hV:=kset_le (x:=([Value.int .u8 (IntKind.u8.wrap (IntKind.i64.wrap (48+j.tmod 10)))]++spare,((5:TypeId),((0,0):Nat × Nat)))) hb
  refine⟨[.int .u8 (IntKind.u8.wrap (IntKind.i64.wrap (48+j.tmod 10)))],.inr ⟨_,rfl,?_⟩,rfl,by simp [bytesOf,bytesGo],?_,by decide,_,rfl,(j.tdiv 10,dch j++out,()),?_,⟨hle.trans hV,ht.1,?_,?_⟩,?_⟩
  ·simp only [loadV,kset_same]
   exact cutv_head (x:=[Value.int .u8 (IntKind.u8.wrap (IntKind.i64.wrap (48+j.tmod 10)))])
  ·have:=dch_size j
   show(dch j).size+ByteArray.size out≤_
   omega
  ·have hw:IntKind.i64.wrap (j.tdiv 10)=j.tdiv 10:=wrap_i64 (by omega)
   rw [hw]; rfl
  ·show((dch j++out).size:Int)+j.tdiv 10≤k
   rw [ByteArray.size_append,dch_size]
   omega
  ·show digs (j.tdiv 10).toNat (j.tdiv 10) (dch j++out)=_
   rw [← hd]
   obtain⟨n,hn⟩:∃ n,j.toNat=n+1:=⟨j.toNat-1,by omega⟩
   rw [hn,digs,if_pos hp']
   exact digs_enough _ _ _ _ (Nat.le_refl _) (by omega)
  ·exact ht.2.1
 ·have hz':¬ j > 0:=of_decide_eq_false hz
  have hj0:j=0:=by omega
  subst hj0
  have hd':digs k.toNat k ⟨#[]⟩=out:=by rw [← hd]; rfl
  have hsm:(⟨#[109]⟩:ByteArray).size=1:=rfl
  have e:mtext k=⟨#[109]⟩++out:=by rw [mtext,if_neg h0',hd']
  refine⟨(by rw [hsm]; show 1+ByteArray.size out≤_; omega),hle,by rw [e]; rfl,?_⟩
  rw [e,ByteArray.size_append,hsm]
  omega
structure Mk (α:Type) where
 cnt:α→Nat
 ok:Int→α→Prop
def cntE {α:Type} (m:Mk α):List α→Nat
 | []=>0
 | x :: l=>m.cnt x+cntE m l
def okE {α:Type} (m:Mk α):Int→List α→Prop
 | _,[]=>True
 | k,x :: l=>m.ok k x∧okE m (k+m.cnt x) l
theorem cntE_snoc {α:Type} (m:Mk α) (x:α):∀ l:List α,cntE m (l++[x])=cntE m l+m.cnt x
 | []=>by simp [cntE]
 | y :: l=>by simp only [List.cons_append,cntE,cntE_snoc m x l]; omega
theorem okE_snoc {α:Type} (m:Mk α) (x:α):∀ (k:Int) (l:List α),okE m k l→m.ok (k+cntE m l) x→okE m k (l++[x])
 | k,[],_,h=>⟨by simpa [cntE] using h,trivial⟩
 | k,y :: l,h,hx=>⟨h.1,okE_snoc m x _ l h.2 (by
   have e:k+(cntE m (y :: l):Nat)=k+m.cnt y+cntE m l:=by simp only [cntE]; omega
   rw [← e]; exact hx)⟩
def mkNil:Mk Unit:=⟨fun _=>0,fun _ _=>True⟩
def mkStr {α:Type} (m:Mk α):Mk (ByteArray × α):=⟨fun x=>1+m.cnt x.2,fun k x=>x.1=mtext k∧m.ok (k+1) x.2⟩
def mkBool {α:Type} (m:Mk α):Mk (Bool × α):=⟨fun x=>1+m.cnt x.2,fun k x=>x.1=(Int.tmod k 3 == 0)∧m.ok (k+1) x.2⟩
def mkInt {α:Type} (m:Mk α):Mk (Int × α):=⟨fun x=>1+m.cnt x.2,fun k x=>x.1=k∧m.ok (k+1) x.2⟩
def mkSl {α β:Type} (e:Mk β) (m:Mk α):Mk (List β × α):=⟨fun x=>cntE e x.1+m.cnt x.2,fun k x=>okE e k x.1∧m.ok (k+cntE e x.1) x.2⟩
abbrev mI:Mk Lim:=mkInt mkNil
theorem cntE_int:∀ l:List Lim,cntE mI l=l.length
 | []=>rfl
 | x :: l=>by
  have e:mI.cnt x=1:=rfl
  simp only [cntE,cntE_int l,List.length_cons,e]; omega
theorem okE_int:∀ (k:Int) (l:List Lim),okE mI k l↔∀ j,j<l.length→limb l j=k+j
 | k,[]=>⟨fun _ j hj=>by simp at hj,fun _=>trivial⟩
 | k,x :: l=>by
  have ih:=okE_int (k+1) l
  refine⟨fun h j hj=>?_,fun h=>⟨⟨?_,trivial⟩,?_⟩⟩
  ·match j with
   | 0 =>
    have:x.1=k:=h.1.1
    show x.1=_
    omega
   | j+1 =>
    have:=ih.1 h.2 j (by simpa using hj)
    show limb l j=_
    omega
  ·have:=h 0 (by simp)
   replace this:x.1=k+((0:Nat):Int):=this
   omega
  ·refine ih.2 fun j hj=>?_
   have:=h (j+1) (by simpa using hj)
   replace this:limb l j=k+((j+1:Nat):Int):=this
   omega
section
variable {P:Program} {K:Know→List Value→Prop} {V V0:Know} {Ns:List (List LV→Know→Prop)}
theorem wp_arg {dr:Bool} {g:FuncId} {args args':List Value} {sh:Sh} {k:sh.ty→T} (h:args=args') (hn:(T.call dr g args' sh k).wp P K V V0 Ns):(T.call dr g args sh k).wp P K V V0 Ns:=h ▸ hn
theorem wp_el {a:Option Addr} {n:Nat} {i:Int} {k:Addr→T} {ad:Addr} (h:a=some ad) (h0:0≤i) (h1:i<(n:Int)) (hn:(k ad).wp P K V V0 Ns):(T.el a n i k).wp P K V V0 Ns:=⟨ad,h,h0,h1,hn⟩
theorem wp_st1 {b:Nat} {a:Addr} {A Q vs:List Value} {x v:Value} {tt:TypeId} {t:T} (hv:V b=some (A++([x]++Q),(tt,((0,0):Nat × Nat)))) (ha:a=⟨b,A.length,none⟩) (hvs:vs=[v])
  (hn:∀ V1:Know,V1 b=some ((A++[v])++Q,(tt,((0,0):Nat × Nat)))→(∀ y,y≠b→V1 y=V y)→t.wp P K V1 V0 Ns):(T.st a vs t).wp P K V V0 Ns:=by
 subst ha hvs
 refine⟨_,tt,rfl,hv,by simp,hn _ ?_ fun y hy=>kset_other hy⟩
 rw [kset_same,setl_mid rfl (by simp)]
 simp
theorem wp_ld1 {b:Nat} {a:Addr} {A Q:List Value} {s:SlV} {tt:TypeId} {w:Nat × Nat} {k:SlV→T} (hv:V b=some (A++([.slice s.a s.n s.c]++Q),(tt,w))) (ha:a=⟨b,A.length,none⟩)
  (hn:(k s).wp P K V V0 Ns):(T.ld false a (.o .l) k).wp P K V V0 Ns:=by
 subst ha
 refine⟨s,?_,hn⟩
 show loadV V _ 1=_
 simp only [loadV,hv]
 have:=cutv_skip (x:=A) (y:=[Value.slice s.a s.n s.c]++Q) (o:=0) (n:=1)
 rw [Nat.add_zero] at this
 rw [this]
 exact cutv_head (x:=[Value.slice s.a s.n s.c])
end
theorem addr_at {b o m:Nat} (h:o=m):(⟨b,o,none⟩:Addr)=⟨b,m,none⟩:=by rw [h]
theorem mark_lp {sh:List Sc} {α:Type} {P:Program} {K:Know→List Value→Prop} {V V0:Know} (r:Rp sh α) (m:Mk α) {s:SlV} {l:List α} {f:List Nat} {k0:Int} {row:LShs [.o (.o (.i .i64)),.o (.o (.i .i64))]→T}
  (h:LR r V s l f) (hnd:f.Nodup) (hw:Wr V f) (hk0:0≤k0) (hk1:k0+cntE m l≤4611686018427387904)
  (hrow:∀ (N:List LV→Know→Prop) (V1:Know) (j:Nat) (k:Int) (b o:Nat) (A R:List Value) (tt:TypeId) (c:Scs sh) (x:α) (w:List Nat),s.a=some ⟨b,o,none⟩→A.length=o+j*sh.length→j<s.n→s.n≤9223372036854775807→0≤k→k+m.cnt x≤4611686018427387904 →
   V1 b=some (A++(Scs.vals sh c++R),(tt,((0,0):Nat × Nat)))→r.R V1 c x w→(b :: w).Nodup→Wr V1 w →
   (∀ (V2:Know) (c':Scs sh) (x':α),V2 b=some (A++(Scs.vals sh c'++R),(tt,((0,0):Nat × Nat)))→r.R V2 c' x' w→Wr V2 w→LeBut (b :: w) V1 V2→m.ok k x'→m.cnt x'=m.cnt x→N [.v (.int .i64 (k+m.cnt x)),.v (.int .i64 ((j+1:Nat):Int))] V2) →
   (row (k,(j:Int),())).wp P K V1 V1 [N])
  (hK:∀ (V1:Know) (l':List α),LeBut f V V1→Wr V1 f→LR r V1 s l' f→okE m k0 l'→cntE m l'=cntE m l→K V1 [.int .i64 (k0+cntE m l)]) :
  (T.lp [.o (.o (.i .i64)),.o (.o (.i .i64))] [.v (.int .i64 k0),.v (.int .i64 (0:Int))] fun y=>.br (decide (y.2.fst<(s.n:Int))) (row y) (.ret [.int .i64 y.fst])).wp P K V V0 []:=by
 have hn:=h.1
 have h63:=h.2.2.1
 rcases h.2.2.2 with ⟨hz,hc,hf⟩ | ⟨b,pre,post,t,fps,cs,a1,v1,hels,rfl⟩
 ·have hl:l=[]:=List.eq_nil_of_length_eq_zero (by omega)
  refine lp_once (k0,(0:Int),()) rfl fun N=>⟨fun hlt=>?_,fun _=>?_⟩
  ·have:(0:Int)<(s.n:Int):=of_decide_eq_true hlt
   omega
  ·have:=hK V l LeBut.refl hw h (by rw [hl]; trivial) rfl
   rw [hl] at this
   simp only [cntE,Int.natCast_zero,Int.add_zero] at this
   exact this
 obtain⟨cc,tt,hwb⟩:=hw b (by simp)
 rw [v1] at hwb
 simp only [Option.some.injEq,Prod.mk.injEq] at hwb
 obtain⟨rfl,rfl⟩:=hwb
 refine⟨fun y V'=>LeBut (b :: fps) V V'∧∃ (i:Nat) (ds:List (Scs sh)) (xs:List α) (gd g:List Nat),y.2.1=(i:Int)∧i≤l.length∧ds.length=i∧(y.1:Int)=k0+cntE m xs∧cntE m xs+cntE m (l.drop i)=cntE m l ∧
   V' b=some (pre++((ds++cs.drop i).flatMap (Scs.vals sh)++post),(tt,(0,0)))∧Els r V' ds xs gd∧Els r V' (cs.drop i) (l.drop i) g∧gd++g=fps∧Wr V' fps∧okE m k0 xs,
  fun y _=>((l.length:Int)-(y.2.1:Int)).toNat,⟨(k0,(0:Int),()),rfl,LeBut.refl,0,[],[],[],fps,rfl,by omega,rfl,by simp [cntE],by simp [cntE],v1,rfl,hels,rfl,fun x hx=>hw x (by simp [hx]),trivial⟩,?_⟩
 rintro⟨(k:Int),(i:Int),u⟩ V' ⟨hb,j,ds,xs,gd,g,hj,hjl,hds,hk,hcn,hv,hD,hE,hgg,hwr,hok⟩
 replace hj:i=(j:Int):=hj
 replace hk:k=k0+cntE m xs:=hk
 subst hj
 refine⟨fun hlt=>?_,fun hge=>?_⟩
 ·have hi:j<l.length:=by
   have:(j:Int)<(s.n:Int):=of_decide_eq_true hlt
   omega
  have hcl:cs.length=l.length:=hels.len
  have hi':j<cs.length:=by omega
  rw [List.drop_eq_getElem_cons hi] at hE hcn
  rw [List.drop_eq_getElem_cons hi'] at hE hv
  generalize l[j]=x at hE hcn
  generalize cs[j]=c at hE hv
  obtain⟨w,g2,rfl,hR,hE2⟩:=hE
  simp only [cntE] at hcn
  have hall:(gd++(w++g2)).Nodup∧b ∉ gd++(w++g2):=by
   rw [hgg]
   exact⟨(List.nodup_cons.1 hnd).2,(List.nodup_cons.1 hnd).1⟩
  have hbw:b ∉ w:=fun hm=>hall.2 (by simp [hm])
  have n1:=List.nodup_append.1 hall.1
  have n2:=List.nodup_append.1 n1.2.1
  have hcells:pre++((ds++c :: cs.drop (j+1)).flatMap (Scs.vals sh)++post)=(pre++ds.flatMap (Scs.vals sh))++(Scs.vals sh c++((cs.drop (j+1)).flatMap (Scs.vals sh)++post)):=by
   simp
  rw [hcells] at hv
  refine hrow _ V' j k b pre.length (pre++ds.flatMap (Scs.vals sh)) _ tt c x w a1 ?_ (by omega) h63 (by omega) (by omega) hv hR (List.nodup_cons.2 ⟨hbw,n2.1⟩) (fun y hy=>hwr y (by rw [← hgg]; simp [hy])) ?_
  ·rw [List.length_append,flat_len,hds]
  ·intro V2 c' x' hv2 hR2 hw2 hb2 hok2 hcnt2
   have keepd:∀ y∈gd,y ∉ b :: w:=fun y hy hm=>by
    rcases List.mem_cons.1 hm with e | hm
    ·exact hall.2 (by rw [← e]; simp [hy])
    ·exact n1.2.2 y hy y (by simp [hm]) rfl
   have keepg:∀ y∈g2,y ∉ b :: w:=fun y hy hm=>by
    rcases List.mem_cons.1 hm with e | hm
    ·exact hall.2 (by rw [← e]; simp [hy])
    ·exact n2.2.2 y hm y hy rfl
   have mv:∀ (y:Nat) (z:List Value × TypeId × Nat × Nat),y ∉ b :: w→V' y=some z→V2 y=V' y:=fun y z hy hz=>by rw [hz]; exact hb2 y z hy hz
   refine⟨(k+m.cnt x,((j+1:Nat):Int),()),rfl,⟨hb.trans (hb2.sub fun y hy=>?_),j+1,ds++[c'],xs++[x'],gd++w,g2,rfl,hi,by simp [hds],?_,?_,?_,?_,?_,by rw [← hgg]; simp,?_,?_⟩,?_⟩
   ·rcases List.mem_cons.1 hy with e | hy
    ·simp [e]
    ·rw [← hgg]; simp [hy]
   ·rw [cntE_snoc]
    show k+(m.cnt x:Int)=k0+((cntE m xs+m.cnt x':Nat):Int)
    omega
   ·rw [cntE_snoc]; omega
   ·rw [hv2]; simp
   ·exact Els.snoc hR2 (hD.loc fun y hy=>by obtain⟨z,hz⟩:=hD.kn y hy; exact mv y z (keepd y hy) hz)
   ·exact hE2.loc fun y hy=>by obtain⟨z,hz⟩:=hE2.kn y hy; exact mv y z (keepg y hy) hz
   ·intro y hy
    rw [← hgg] at hy
    by_cases hyw:y∈w
    ·exact hw2 y hyw
    ·obtain⟨cc,t',hz⟩:=hwr y (by rw [← hgg]; exact hy)
     have hne:y ∉ b :: w:=fun hm=>by
      rcases List.mem_cons.1 hm with e | hm
      ·exact hall.2 (by rw [← e]; exact hy)
      ·exact hyw hm
     exact⟨cc,t',by rw [mv y _ hne hz]; exact hz⟩
   ·exact okE_snoc m x' k0 xs hok (by rw [← hk]; exact hok2)
   ·show((l.length:Int)-((j+1:Nat):Int)).toNat<((l.length:Int)-(j:Int)).toNat
    omega
 ·have hi:j=l.length:=by
   have:¬ (j:Int)<(s.n:Int):=of_decide_eq_false hge
   omega
  have hd0:l.drop j=[]:=by rw [hi]; simp
  have hd1:cs.drop j=[]:=by rw [hi,← hels.len]; simp
  rw [hd0] at hE hcn
  rw [hd1] at hE hv
  replace hE:g=[]:=hE
  subst hE
  simp only [List.append_nil] at hgg hv
  subst hgg
  have hc0:cntE m xs=cntE m l:=by simpa [cntE] using hcn
  have:=hK V' xs hb ?_ ?_ hok hc0
  ·rw [← hc0,← hk] at this
   exact this
  ·intro y hy
   rcases List.mem_cons.1 hy with e | hy
   ·subst e; exact⟨_,_,hv⟩
   ·exact hwr y hy
  ·exact⟨by rw [hn,← hi,← hds,hD.len],h.2.1,h63,.inr ⟨b,pre,post,_,gd,ds,a1,hv,hD,rfl⟩⟩
theorem cL_markIntS (V:Know) (s:SlV) (l:List Lim) (f:List Nat) (k:Int) (h:LR rI V s l f) (hw:Wr V f) (hk0:0≤k) (hk1:k+l.length≤4611686018427387904) :
  CallX Tryz.prog V 32 [Sc.val .l s,.int .i64 k] (fun V' r=>LeBut f V V'∧Wr V' f∧r=.int .i64 (k+l.length)∧∃ l',LR rI V' s l' f∧l'.length=l.length∧∀ j,j<l.length→limb l' j=k+j):=by
 refine CallX.of_fits Tryz.mix (fL_markIntS _ _) fun _=>?_
 simp only [tL_markIntS,T.wp]
 have hn:=h.1
 refine⟨fun y V'=>LeBut f V V'∧Wr V' f∧∃ (i:Nat) (l':List Lim),y.2.1=(i:Int)∧i≤l.length∧y.1=k+(i:Int)∧LR rI V' s l' f∧l'.length=l.length∧∀ j,j<i→limb l' j=k+j,fun y=>((l.length:Int)-(y.2.1:Int)).toNat,
  ⟨(k,(0:Int),()),rfl,LeBut.refl,hw,0,l,rfl,by omega,(by simp),h,rfl,fun j hj=>by omega⟩,?_⟩
 rintro⟨(q:Int),(i:Int),u⟩ V' ⟨hb,hw',j,l',hj,hjl,hq,hL,hlen,hall⟩
 replace hj:i=(j:Int):=hj
 replace hq:q=k+(j:Int):=hq
 subst hj hq
 refine⟨fun hlt=>?_,fun hge=>?_⟩
 ·have hi:j<l.length:=by
   have:(j:Int)<(s.n:Int):=of_decide_eq_true hlt
   omega
  obtain⟨b,o,cs,u,a1,v1,hfit,hbf,hL2,hw2⟩:=hL.put hw' (i:=j) (by omega) (k+(j:Int))
  refine⟨_,a1,(by omega:(0:Int)≤(j:Int)),(by omega:(j:Int)<(s.n:Int)),?_⟩
  rw [addr_add_eq,Int.toNat_natCast]
  refine⟨cs,u,rfl,v1,hfit,_,rfl,(k+((j+1:Nat):Int),((j+1:Nat):Int),()),?_,⟨hb.trans (LeBut.kset hbf),hw2,j+1,_,rfl,hi,rfl,hL2,by simpa using hlen,fun m hm=>?_⟩,?_⟩
  ·have e1:IntKind.i64.wrap (k+(j:Int)+1)=k+((j+1:Nat):Int):=by rw [wrap_i64 (by omega)]; omega
   rw [e1,nxt hi (by omega)]; rfl
  ·rw [limb_set (by omega)]
   by_cases e:m=j
   ·subst e; rw [if_pos rfl]
   ·rw [if_neg e]; exact hall m (by omega)
  ·show((l.length:Int)-((j+1:Nat):Int)).toNat<((l.length:Int)-(j:Int)).toNat
   omega
 ·have hi:j=l.length:=by
   have:¬ (j:Int)<(s.n:Int):=of_decide_eq_false hge
   omega
  subst hi
  exact⟨hb,hw',rfl,l',hL,hlen,hall⟩
theorem cL_markIntS' (V:Know) (s:SlV) (l:List Lim) (f:List Nat) (k:Int) (h:LR rI V s l f) (_:f.Nodup) (hw:Wr V f) (hk0:0≤k) (hk1:k+cntE mI l≤4611686018427387904) :
  CallX Tryz.prog V 32 [Sc.val .l s,.int .i64 k] (fun V' r=>LeBut f V V'∧Wr V' f∧r=.int .i64 (k+cntE mI l)∧∃ l',LR rI V' s l' f∧okE mI k l'∧cntE mI l'=cntE mI l):=by
 rw [cntE_int] at hk1 ⊢
 refine(cL_markIntS V s l f k h hw hk0 hk1).mono ?_
 rintro V' r ⟨h1,h2,rfl,l',h3,h4,h5⟩
 exact⟨h1,h2,rfl,l',h3,(okE_int k l').2 (by rw [h4]; exact h5),by rw [cntE_int,h4]⟩
theorem cL_heldIntS (V:Know) (s:SlV) (l:List Lim) (f:List Nat) (k:Int) (h:LR rI V s l f) (hk0:0≤k) (hk1:k+l.length≤4611686018427387904) (hm:∀ j,j<l.length→limb l j=k+j) :
  CallX Tryz.prog V 111 [Sc.val .l s,.int .i64 k] (fun V' r=>V'=V∧r=.int .i64 (k+l.length)):=by
 refine CallX.of_fits Tryz.mix (fL_heldIntS _ _) fun _=>?_
 simp only [tL_heldIntS,T.wp]
 have hn:=h.1
 refine⟨fun y V'=>V'=V∧∃ i:Nat,y.2.1=(i:Int)∧i≤l.length∧y.1=k+(i:Int),fun y=>((l.length:Int)-(y.2.1:Int)).toNat,⟨(k,(0:Int),()),rfl,rfl,0,rfl,by omega,by simp⟩,?_⟩
 rintro⟨(q:Int),(i:Int),u⟩ V' ⟨rfl,j,hj,hjl,hq⟩
 replace hj:i=(j:Int):=hj
 replace hq:q=k+(j:Int):=hq
 subst hj hq
 refine⟨fun hlt=>?_,fun hge=>?_⟩
 ·have hi:j<l.length:=by
   have:(j:Int)<(s.n:Int):=of_decide_eq_true hlt
   omega
  obtain⟨b,o,a1,l1⟩:=h.int hi
  have e:l[j].1=k+(j:Int):=by rw [← limb_lt hi]; exact hm j hi
  refine⟨_,a1,(by omega:(0:Int)≤(j:Int)),(by omega:(j:Int)<(s.n:Int)),l[j].1,l1,fun hne=>?_,fun _=>⟨_,rfl,(k+((j+1:Nat):Int),((j+1:Nat):Int),()),?_,⟨rfl,j+1,rfl,hi,rfl⟩,?_⟩⟩
  ·rw [e] at hne; simp at hne
  ·have e1:IntKind.i64.wrap (k+(j:Int)+1)=k+((j+1:Nat):Int):=by rw [wrap_i64 (by omega)]; omega
   rw [e1,nxt hi (by omega)]; rfl
  ·show((l.length:Int)-((j+1:Nat):Int)).toNat<((l.length:Int)-(j:Int)).toNat
   omega
 ·have hi:j=l.length:=by
   have:¬ (j:Int)<(s.n:Int):=of_decide_eq_false hge
   omega
  subst hi
  exact⟨rfl,rfl⟩
theorem cL_heldIntS' (V:Know) (s:SlV) (l:List Lim) (f:List Nat) (k:Int) (h:LR rI V s l f) (hk0:0≤k) (hk1:k+cntE mI l≤4611686018427387904) (hm:okE mI k l) :
  CallX Tryz.prog V 111 [Sc.val .l s,.int .i64 k] (fun V' r=>V'=V∧r=.int .i64 (k+cntE mI l)):=by
 rw [cntE_int] at hk1 ⊢
 exact cL_heldIntS V s l f k h hk0 hk1 ((okE_int k l).1 hm)
end Go.Proofs.YtceoihhldnnenaaGreatDoor
