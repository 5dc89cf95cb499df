/-
  BookOpen and DoOpen, in the program and in the reference.
-/
import Derived.Test.YtccnjccabllcaaaGreatDoorOpen
import Derived.Test.YtccnjccabllcaaaGreatDoorPerfL
namespace Go.Proofs.YtccnjccabllcaaaGreatDoor
open Sx
set_option maxRecDepth 100000
def lessB (n:ByteArray) (a:DAcct):Bool:=Op.bytesLess a.1.toList n.toList
def posA (n:ByteArray):List DAcct→Nat
 | []=>0
 | a :: l=>if lessB n a=true then posA n l+1 else 0
theorem posA_eq {n:ByteArray}:∀ {l:List DAcct} {k:Nat},k≤l.length→(∀ (j:Nat) (hj:j<l.length),j<k→lessB n l[j]=true)→(∀ h:k<l.length,lessB n l[k]=false)→posA n l=k
 | [],k,hk,_,_=>by
  have:k=0:=by simpa using hk
  subst this; rfl
 | a :: l,0,_,_,h=>by
  have h0:lessB n a=false:=h (by simp)
  rw [posA,h0]; rfl
 | a :: l,k+1,hk,hj,h=>by
  have h0:lessB n a=true:=hj 0 (by simp) (by omega)
  rw [posA,if_pos h0,posA_eq (l:=l) (k:=k) (by simpa using hk) (fun j hj' hjk=>by
   have:=hj (j+1) (by simpa using hj') (by omega)
   simpa using this) (fun h'=>by
   have:=h (by simpa using h')
   simpa using this)]
abbrev newA (n c:ByteArray):DAcct:=(n,c,false,[],())
def openL (l:List DAcct) (n c:ByteArray):List DAcct:=insL (posA n l) (newA n c) l
open Classical in
noncomputable def openB (l:List DAcct) (n c:ByteArray):List DAcct × Bool:=if (BookOkP l∧fnd n l=none)∧BookOkP (openL l n c) then (openL l n c,true) else ([],false)
theorem openB_ok {l:List DAcct} {n c:ByteArray} (h:(BookOkP l∧fnd n l=none)∧BookOkP (openL l n c)):openB l n c=(openL l n c,true):=if_pos h
theorem openB_no {l:List DAcct} {n c:ByteArray} (h:¬ ((BookOkP l∧fnd n l=none)∧BookOkP (openL l n c))):openB l n c=([],false):=if_neg h
theorem newA_R (V:Know) {n c:ByteArray} (zn:n.size≤9223372036854775807) (zc:c.size≤9223372036854775807):rAcct.R V (n,c,false,⟨none,0,0⟩,()) (newA n c) []:=⟨⟨rfl,zn⟩,⟨rfl,zc⟩,rfl,[],[],rfl,⟨rfl,Nat.le_refl _,(by show(0:Nat)≤9223372036854775807; decide),.inl ⟨rfl,fun _=>rfl,rfl⟩⟩,rfl⟩
theorem open_change {V:Know} (hV:HcI V) {b3 b4:Nat} {t3 t4:TypeId} {l:List DAcct} {n c:ByteArray} (zn:n.size≤9223372036854775807) (zc:c.size≤9223372036854775807) (h12:l.length≤12)
  (h3:V b3=some ([.string n],(t3,(0,0)))) (h4:V b4=some ([.string c],(t4,(0,0)))) {ok:Bool} (hok:ok=true↔BookOkP (openL l n c)):Change V gI_BookOpen_1 [.pointer (some ⟨b3,0,none⟩),.pointer (some ⟨b4,0,none⟩)] l (openL l n c) ok:=by
 intro V1 b q s f le hbV G O hl1 hbf hbk
 refine CallX.of_fits Tryz.mix (fI_BookOpen_1 ⟨b,2,none⟩ ⟨b3,0,none⟩ ⟨b4,0,none⟩) fun _=>?_
 have L:=G.lr (show l.length≤9223372036854775807 by omega)
 have hn:=L.1
 have ld3:loadV V1 ⟨b3,0,none⟩ 1=some [.string n]:=by simp only [loadV,le _ _ h3]; rfl
 have ld4:loadV V1 ⟨b4,0,none⟩ 1=some [.string c]:=by simp only [loadV,le _ _ h4]; rfl
 have ldb:loadV V1 ((⟨b,2,none⟩:Addr).add 0) 1=some [Sc.val .l s]:=by simp only [addr_add_eq,loadV,hbk]; rfl
 simp only [tI_BookOpen_1,T.wp]
 -- what follows the search
 have tail:∀ {k:Nat},k≤l.length→posA n l=k→∀ b10,V1 b10=none→CallX Tryz.prog (kset V1 b10 ([.string n,.string c,.bool false,.slice none 0 0],(acT,(0,0)))) 197 [Sc.val .l s,.int .i64 (k:Int),.slice (some ⟨b10,0,none⟩) 1 1]
   (fun V3 r=>∃ s',r=Sc.val .l s'∧V3 b=some ([.int .i32 1,q,.slice s.a s.n s.c],(gdT,(0,0)))∧V.le V3∧CallX Tryz.prog (kset V3 b ([.int .i32 1,q,.slice s'.a s'.n s'.c],(gdT,(0,0)))) gI_BookOk [Sh1.val (.g [.l]) (s',())] (fun V5 r=>∃ e,r=.bool e∧e=ok∧V.le V5∧V5 b=some ([.int .i32 1,q,.slice s'.a s'.n s'.c],(gdT,(0,0)))∧∃ f',LR rAcct V5 s' (openL l n c) f'∧Own V V5 f'∧b ∉ f')):=by
  intro k hk hpos b10 hb10
  have q2:=kset_le (x:=(([.string n,.string c,.bool false,.slice none 0 0]:List Value),((acT,(0,0)):KTy))) hb10
  have hf10:b10 ∉ f:=fun hm=>by
   obtain⟨u,v,huv⟩:=O.2.2 b10 hm
   rw [hb10] at huv; cases huv
  have hbne:b≠b10:=fun e=>by rw [e,hb10] at hbk; cases hbk
  refine(cI_Insert (V0:=V) (cv:=(n,c,false,⟨none,0,0⟩,())) (xv:=newA n c) (fv:=[]) (G.le q2) (by rw [List.append_nil]; exact O.post q2) (le.trans q2) kset_same hf10 (newA_R _ zn zc) (by omega) hk).mono ?_
  rintro V3 r ⟨s',f',rfl,_,L3,O3,le3,keep,hsub⟩
  have hb2:kset V1 b10 (([.string n,.string c,.bool false,.slice none 0 0]:List Value),((acT,(0,0)):KTy)) b=some ([.int .i32 1,q,.slice s.a s.n s.c],(gdT,(0,0))):=by rw [kset_other hbne]; exact hbk
  have hb3:V3 b=some ([.int .i32 1,q,.slice s.a s.n s.c],(gdT,(0,0))):=by rw [keep b hbf (by rw [hb2]; exact nofun)]; exact hb2
  have hbf':b ∉ f':=fun hm=>by
   rcases hsub b hm with h | h | h
   ·rw [hb2] at h; cases h
   ·exact hbf h
   ·cases h
  have le4:V.le (kset V3 b ([.int .i32 1,q,.slice s'.a s'.n s'.c],(gdT,(0,0)))):=kset_le2 le3 hbV
  refine⟨s',rfl,hb3,le3,?_⟩
  rw [hpos.symm] at L3
  refine(cI_BookOk (hV.le le4) s' (openL l n c) f' (L3.loc (kset_loc hbf'))).mono ?_
  rintro V5 _ ⟨le5,e,rfl,he⟩
  have eo:e=ok:=by
   cases e with
   | true=>exact(hok.2 (he.1 rfl)).symm
   | false =>
    cases ok with
    | false=>rfl
    | true=>exact he.2 (hok.1 rfl)
  exact⟨e,rfl,eo,le4.trans le5,le5 _ _ kset_same,f',(L3.loc (kset_loc hbf')).le le5,(own_kset O3 hbf').post le5,hbf'⟩
 refine⟨fun y V'=>V'=V1∧∃ k:Nat,y.1=(k:Int)∧k≤l.length∧∀ (j:Nat) (hj:j<l.length),j<k→lessB n l[j]=true,fun y _=>((l.length:Int)-(y.1:Int)).toNat,⟨((0:Int),()),rfl,rfl,0,rfl,Nat.zero_le _,fun j _ h=>by omega⟩,?_⟩
 rintro⟨(i:Int),u⟩ V' ⟨rfl,k,hk,hkl,hall⟩
 replace hk:i=(k:Int):=hk
 subst hk
 have e0:(k:Int).toNat=k:=by omega
 refine⟨s,by rw [if_pos trivial]; exact ldb,fun hlt=>?_,fun hge=>?_⟩
 ·have hi:k<l.length:=by
   have:(k:Int)<(s.n:Int):=of_decide_eq_true hlt
   omega
  obtain⟨b1,o1,c1,fc,a1,l1,hR,_⟩:=L.at hi
  have en:=acct_name hR
  dsimp only
  rw [e0]
  refine⟨s,by rw [if_pos trivial]; exact ldb,_,a1,by omega,by omega,c1.1,by rw [if_pos trivial]; exact load_part l1 (o:=0) (n:=1) rfl,n,by rw [if_pos trivial]; exact ld3,fun hless=>?_,fun hless=>?_⟩
  ·refine⟨_,rfl,(((k+1:Nat):Int),()),by rw [nxt hi (by omega)]; rfl,⟨rfl,k+1,rfl,hi,fun j hj h2=>?_⟩,?_⟩
   ·by_cases e:j=k
    ·subst e
     unfold lessB
     rw [← en]; exact hless
    ·exact hall j hj (by omega)
   ·show((l.length:Int)-((k+1:Nat):Int)).toNat<((l.length:Int)-(k:Int)).toNat
    omega
  ·have hpos:posA n l=k:=posA_eq hkl hall fun _=>by
    unfold lessB
    rw [← en]; exact hless
   refine⟨s,by rw [if_pos trivial]; exact ldb,n,by rw [if_pos trivial]; exact ld3,c,by rw [if_pos trivial]; exact ld4,fun b10 hb10=>(tail hkl hpos b10 hb10).mono ?_⟩
   rintro V3 _ ⟨s',rfl,hb3,le3,hB⟩
   refine⟨nofun,s',rfl,?_⟩
   simp only [addr_add_eq]
   refine⟨_,_,trivial,hb3,(by show 2+0+1≤3; decide),?_⟩
   change ∃ x,_
   rw [show setl [Value.int .i32 1,q,.slice s.a s.n s.c] (2+0) [Sc.val .l s']=[Value.int .i32 1,q,.slice s'.a s'.n s'.c] from rfl]
   refine⟨(s',()),?_,?_⟩
   ·simp only [loadV,Bool.false_eq_true,if_false,kset_same]; rfl
   ·refine hB.mono ?_
    rintro V5 _ ⟨e,rfl,rfl,le5,hb5,f',L5,O5,hf5⟩
    exact⟨nofun,e,rfl,rfl,le5,s',hb5,fun _=>⟨f',L5,O5,hf5⟩⟩
 ·have hi:k=l.length:=by
   have:¬ (k:Int)<(s.n:Int):=of_decide_eq_false hge
   omega
  subst hi
  have hpos:posA n l=l.length:=posA_eq hkl hall fun h=>absurd h (by omega)
  refine⟨s,by rw [if_pos trivial]; exact ldb,n,by rw [if_pos trivial]; exact ld3,c,by rw [if_pos trivial]; exact ld4,fun b10 hb10=>(tail hkl hpos b10 hb10).mono ?_⟩
  rintro V3 _ ⟨s',rfl,hb3,le3,hB⟩
  refine⟨nofun,s',rfl,?_⟩
  simp only [addr_add_eq]
  refine⟨_,_,trivial,hb3,(by show 2+0+1≤3; decide),?_⟩
  change ∃ x,_
  rw [show setl [Value.int .i32 1,q,.slice s.a s.n s.c] (2+0) [Sc.val .l s']=[Value.int .i32 1,q,.slice s'.a s'.n s'.c] from rfl]
  refine⟨(s',()),?_,?_⟩
  ·simp only [loadV,Bool.false_eq_true,if_false,kset_same]; rfl
  ·refine hB.mono ?_
   rintro V5 _ ⟨e,rfl,rfl,le5,hb5,f',L5,O5,hf5⟩
   exact⟨nofun,e,rfl,rfl,le5,s',hb5,fun _=>⟨f',L5,O5,hf5⟩⟩
theorem cI_BookOpen {V:Know} (hV:HcI V) (s:SlV) (l:List DAcct) (f:List Nat) (h:LR rAcct V s l f) (n c:ByteArray) (zn:n.size≤9223372036854775807) (zc:c.size≤9223372036854775807) :
  CallX Tryz.prog V gI_BookOpen [Sh1.val (.g [.l]) (s,()),.string n,.string c] (BkPost V (openB l n c)):=by
 refine CallX.of_fits Tryz.mix (fI_BookOpen _ _ _) fun _=>?_
 simp only [tI_BookOpen,T.wp]
 refine(cI_BookOk hV s l f h).mono ?_
 rintro V1 _ ⟨le1,e1,rfl,he1⟩
 refine⟨nofun,e1,rfl,fun hf=>?_,fun h1=>?_⟩
 ·rw [openB_no (fun k=>by rw [he1.2 k.1.1] at hf; cases hf)]
  exact bk_no le1
 have ok1:=he1.1 (by simpa using h1)
 refine(cI_AcctAt V1 s l f (h.le le1) n).mono ?_
 rintro V2 _ ⟨le2,rfl⟩
 have l2:=le1.trans le2
 refine⟨nofun,_,rfl,fun hge=>?_,fun hlt=>?_⟩
 ·have hge':atN n l≥0:=of_decide_eq_true hge
  rw [openB_no (fun k=>by rw [atN_none k.1.2] at hge'; omega)]
  exact bk_no l2
 have hlt':¬ atN n l≥0:=of_decide_eq_false hlt
 have hf:fnd n l=none:=at_neg.1 (by omega)
 intro b3 hb3 b4 hb4
 have q3:=kset_le (x:=([Value.string n],((9:TypeId),((0,0):Nat × Nat)))) hb3
 have q4:=kset_le (x:=([Value.string c],((9:TypeId),((0,0):Nat × Nat)))) hb4
 have v3:kset (kset V2 b3 ([Value.string n],((9:TypeId),((0,0):Nat × Nat)))) b4 ([Value.string c],((9:TypeId),((0,0):Nat × Nat))) b3=some _:=q4 _ _ kset_same
 have l4:=l2.trans (q3.trans q4)
 obtain⟨ok,hok⟩:∃ ok:Bool,ok=true↔BookOkP (openL l n c):=by
  by_cases k:BookOkP (openL l n c)
  ·exact⟨true,fun _=>k,fun _=>rfl⟩
  ·exact⟨false,(fun h=>by cases h),fun h=>absurd h k⟩
 refine(cI_changed s l f (h.le l4) (by have:=book_tot ok1; omega) gI_BookOpen_1 [.pointer (some ⟨b3,0,none⟩),.pointer (some ⟨b4,0,none⟩)] (openL l n c) ok rfl (open_change (hV.le l4) zn zc ok1.1 v3 kset_same hok)).mono ?_
 have e:openB l n c=(if ok=true then openL l n c else [],ok):=by
  cases ok with
  | true=>exact openB_ok ⟨⟨ok1,hf⟩,hok.1 rfl⟩
  | false=>exact openB_no fun k=>by have:=hok.2 k.2; cases this
 rw [e]
 rintro V5 _ ⟨le5,s5,f5,rfl,L5,O5⟩
 exact⟨nofun,((s5,()),ok,()),rfl,l4.trans le5,s5,f5,rfl,L5,O5.pre l4⟩
open Classical in
noncomputable def openRun (x:DLedger) (n c:ByteArray):DLedger × Int :=
 if WordP n then (if known c=true then (if fnd n x.1=none then (if (openB x.1 n c).2=true then (((openB x.1 n c).1,x.2),0) else (zeroL,9)) else (zeroL,4)) else (zeroL,2)) else (zeroL,1)
theorem openRun_1 {x:DLedger} {n c:ByteArray} (h:¬ WordP n):openRun x n c=(zeroL,1):=if_neg h
theorem openRun_2 {x:DLedger} {n c:ByteArray} (h:WordP n) (k:¬ known c=true):openRun x n c=(zeroL,2):=(if_pos h).trans (if_neg k)
theorem openRun_4 {x:DLedger} {n c:ByteArray} (h:WordP n) (k:known c=true) (q:¬ fnd n x.1=none):openRun x n c=(zeroL,4):=(if_pos h).trans ((if_pos k).trans (if_neg q))
theorem openRun_end {x:DLedger} {n c:ByteArray} (h:WordP n) (k:known c=true) (q:fnd n x.1=none) {y:List DAcct} {ok:Bool} (e:openB x.1 n c=(y,ok)):openRun x n c=if ok=true then ((y,x.2),0) else (zeroL,9):=by
 have h1:openRun x n c=if (openB x.1 n c).2=true then (((openB x.1 n c).1,x.2),0) else (zeroL,9):=(if_pos h).trans ((if_pos k).trans (if_pos q))
 rw [h1,e]
theorem openRun_zero {x:DLedger} {n c:ByteArray}:(openRun x n c).2≠0→(openRun x n c).1=zeroL:=by
 unfold openRun
 split
 ·split
  ·split
   ·split
    ·intro h; exact absurd rfl h
    ·intro _; rfl
   ·intro _; rfl
  ·intro _; rfl
 ·intro _; rfl
theorem cI_opOpen {V0 V:Know} (hV:HcI V) (c:Scs LedSh) (x:DLedger) (f:List Nat) (h:rLedger.R V c x f) (O:Own V0 V f) (le0:V0.le V) (n cur:ByteArray) (zn:n.size≤9223372036854775807) (zc:cur.size≤9223372036854775807) :
  CallX Tryz.prog V gI_opOpen__run [Sh1.val (.g [.s,.s]) (n,cur,()),Sh1.val (.g [.l,.l,.s,.l]) c] (fun V' v=>V.le V'∧DoPost V0 (openRun x n cur) V' v):=by
 refine CallX.of_fits Tryz.mix (fI_opOpen__run _ _) fun _=>?_
 obtain⟨c0,c1,c2,c3,cu⟩:=c
 obtain⟨x0,x1,x2,x3,xu⟩:=x
 obtain⟨f0,g0,rfl,h0,h⟩:=h
 obtain⟨f1,g1,rfl,h1,h⟩:=h
 obtain⟨⟨e2,z2⟩,h⟩:=h
 replace e2:c2=x2:=e2
 subst e2
 obtain⟨f3,g3,rfl,h3,hN⟩:=h
 replace hN:g3=[]:=hN
 subst hN
 rw [List.append_nil] at O
 replace h0:LR rAcct V c0 x0 f0:=h0
 replace h1:LR rRest V c1 x1 f1:=h1
 replace h3:LR rRate V c3 x3 f3:=h3
 simp only [tI_opOpen__run,T.wp]
 refine(cI_IsWord V n zn).mono ?_
 rintro V1 _ ⟨rfl,e1,rfl,he1⟩
 refine⟨nofun,e1,rfl,fun hf=>?_,fun k1=>?_⟩
 ·rw [openRun_1 (fun k=>by rw [he1.2 k] at hf; cases hf)]
  exact⟨Know.le.refl _,do_zero le0 1⟩
 have w1:=he1.1 (by simpa using k1)
 refine(kI_CurKnown hV cur).mono ?_
 rintro V2 _ ⟨le2,rfl⟩
 refine⟨nofun,_,rfl,fun hf=>?_,fun k2=>?_⟩
 ·rw [openRun_2 w1 (fun k=>by rw [k] at hf; cases hf)]
  exact⟨le2,do_zero (le0.trans le2) 2⟩
 have w2:known cur=true:=by simpa using k2
 refine(cI_AcctAt V2 c0 x0 f0 (h0.le le2) n).mono ?_
 rintro V3 _ ⟨le3,rfl⟩
 have l3:=le2.trans le3
 refine⟨nofun,_,rfl,fun hge=>?_,fun hlt=>?_⟩
 ·have hge':atN n x0≥0:=of_decide_eq_true hge
  rw [openRun_4 w1 w2 (fun k=>by rw [atN_none k] at hge'; omega)]
  exact⟨l3,do_zero (le0.trans l3) 4⟩
 have hlt':¬ atN n x0≥0:=of_decide_eq_false hlt
 have hf:fnd n x0=none:=at_neg.1 (by omega)
 refine(cI_BookOpen (hV.le l3) c0 x0 f0 (h0.le l3) n cur zn zc).mono ?_
 rintro V4 _ ⟨le4,s4,f4,rfl,L4,O4⟩
 have l4:=l3.trans le4
 obtain⟨⟨y,ok⟩,hy⟩:∃ r,openB x0 n cur=r:=⟨_,rfl⟩
 rw [hy] at L4 ⊢
 rw [openRun_end (x:=(x0,x1,c2,x3,xu)) w1 w2 hf hy]
 refine⟨nofun,((s4,()),ok,()),rfl,fun hf=>?_,fun hT=>?_⟩
 ·have:ok=false:=by simpa using hf
  subst this
  exact⟨l4,do_zero (le0.trans l4) 9⟩
 ·have:ok=true:=by simpa using hT
  subst this
  exact⟨l4,le0.trans l4,(s4,c1,c2,c3,()),f4++(f1++f3),rfl,ledger_mk (x:=(y,x1,c2,x3,())) L4 (h1.le l4) rfl z2 (h3.le l4),((O.sub (List.sublist_append_right f0 (f1++f3))).post l3).append O4 (le0.trans l3) le4 |>.perm List.perm_append_comm⟩
theorem cI_DoOpen {V:Know} (hV:HcI V) (c:Scs LedSh) (x:DLedger) (f:List Nat) (h:rLedger.R V c x f) (ht:rLedger.tot x≤1048576) (n cur:ByteArray) (zn:n.size≤9223372036854775807) (zc:cur.size≤9223372036854775807) :
  CallX Tryz.prog V gI_DoOpen [Sh1.val (.g [.l,.l,.s,.l]) c,.string n,.string cur] (DoPost V (perfP x (openRun x n cur))):=by
 refine CallX.of_fits Tryz.mix (fI_DoOpen _ _ _) fun _=>?_
 simp only [tI_DoOpen,T.wp]
 have key:CallX Tryz.prog V gI_perform [Sh1.val (.g [.l,.l,.s,.l]) c,.iface 91 (Sh1.val (.g [.s,.s]) (n,cur,()))] (DoPost V (perfP x (openRun x n cur))) :=
  CallX.of_fits Tryz.mix (fI_perform_opOpen c (n,cur,())) fun _=>perf_wp (g:=gI_opOpen__run) (o:=Sh1.val (.g [.s,.s]) (n,cur,())) hV h ht (fun _ _ c1 f1 le1 R1 O1=>cI_opOpen (hV.le le1) c1 x f1 R1 O1 le1 n cur zn zc) openRun_zero
 refine key.mono ?_
 rintro V1 _ ⟨le1,c1,f1,rfl,R1,O1⟩
 exact⟨nofun,(c1,_,()),rfl,le1,c1,f1,rfl,R1,O1⟩
theorem cut_rows {cs:List (Scs AcSh)} {i m:Nat} (h:i+m≤cs.length) {pre post:List Value}:cutv (pre++(cs.flatMap (Scs.vals AcSh)++post)) (pre.length+i*4) (m*4)=some (((cs.drop i).take m).flatMap (Scs.vals AcSh)):=by
 have e1:cs=cs.take i++((cs.drop i).take m++(cs.drop i).drop m):=by rw [List.take_append_drop,List.take_append_drop]
 have e2:cs.flatMap (Scs.vals AcSh)++post=(cs.take i).flatMap (Scs.vals AcSh)++(((cs.drop i).take m).flatMap (Scs.vals AcSh)++(((cs.drop i).drop m).flatMap (Scs.vals AcSh)++post)):=by
  conv=>lhs; rw [e1]
  simp only [List.flatMap_append,List.append_assoc]
 have l1:((cs.take i).flatMap (Scs.vals AcSh)).length=i*4:=by rw [flat_len,List.length_take,Nat.min_eq_left (by omega)]; rfl
 have l2:(((cs.drop i).take m).flatMap (Scs.vals AcSh)).length=m*4:=by rw [flat_len,List.length_take,List.length_drop,Nat.min_eq_left (by omega)]; rfl
 rw [cutv_skip,e2,← l1,← Nat.add_zero ((cs.take i).flatMap (Scs.vals AcSh)).length,cutv_skip,← l2]
 exact cutv_head
theorem rd_part {V:Know} {s:SlV} {l:List DAcct} {f:List Nat} (h:LR rAcct V s l f):∃ cs fps,Els rAcct V cs l fps∧∀ (i m c':Nat) (C:Prop) [Decidable C],i+m≤l.length→(C→s.c=i)→c'≤s.c →
  (((m=0∧((if C then s.a else Option.map (fun x:Addr=>x.add (i*4)) s.a)=none→c'=0)∧((cs.drop i).take m).flatMap (Scs.vals AcSh)=[])∨∃ ad,(if C then s.a else Option.map (fun x:Addr=>x.add (i*4)) s.a)=some ad∧loadV V ad (m*4)=some (((cs.drop i).take m).flatMap (Scs.vals AcSh)))∧one (((cs.drop i).take m).flatMap (Scs.vals AcSh))=true):=by
 obtain⟨hn,hnc,h63,hd⟩:=h
 have h1:∀ cs:List (Scs AcSh),one (cs.flatMap (Scs.vals AcSh))=true:=fun cs=>List.all_eq_true.2 fun v hv=>flat_one cs v hv
 rcases hd with ⟨h0,ha,rfl⟩ | ⟨b,pre,post,t,fps,cs,ha,hb,he,rfl⟩
 ·have hl:l=[]:=List.eq_nil_of_length_eq_zero (by omega)
  subst hl
  refine⟨[],[],rfl,fun i m c' C _ him hC hc=>⟨.inl ⟨by simpa using (by simp at him; omega:m=0),fun hx=>?_,by simp⟩,by simp [one]⟩⟩
  have hs:s.a=none:=by
   split at hx
   ·exact hx
   ·cases hsa:s.a with
    | none=>rfl
    | some a=>rw [hsa] at hx; cases hx
  have:=ha hs
  omega
 ·refine⟨cs,fps,he,fun i m c' C _ him hC hc=>⟨?_,h1 _⟩⟩
  have hcl:=he.len
  by_cases hm:m=0
  ·subst hm
   refine .inl ⟨rfl,fun hx=>?_,by simp⟩
   rw [ha] at hx
   split at hx <;> cases hx
  ·have hnC:¬ C:=fun k=>by have:=hC k; omega
   refine .inr ⟨_,by rw [if_neg hnC,ha]; rfl,?_⟩
   simp only [addr_add_eq,loadV,hb]
   exact cut_rows (by omega)
noncomputable def tailOpen (x1 x2:ByteArray) (s:SlV) (i:Int):T :=
 .rq ((0:Int)≤(0:Int)∧(0:Int)≤i∧i≤(s.c:Int)∧(s.c:Int)≤(s.c:Int)) <|
 .rd ({ a:=if (s.c:Int).toNat=Int.toNat (0:Int) then s.a else Option.map (fun x=>x.add (Int.toNat (0:Int)*Tryz.prog.types[(135:Nat)].size)) s.a,n:=Int.toNat i-Int.toNat (0:Int),c:=(s.c:Int).toNat-Int.toNat (0:Int):SlV }) ((4:Nat)) fun y7 =>
 .rq (one y7=true∧((0:Nat)+(Int.toNat i-Int.toNat (0:Int)))*(64:Nat)≤(140737488355328:Nat)∧(0:Nat)+(Int.toNat i-Int.toNat (0:Int))≤(9223372036854775807:Nat)) <|
 .rq ([Go.Value.string x1,Go.Value.string x2,Go.Value.bool false,Go.Value.slice none (0:Nat) (0:Nat)].length=(1:Nat)*(4:Nat)) <|
 .rq (one [Go.Value.string x1,Go.Value.string x2,Go.Value.bool false,Go.Value.slice none (0:Nat) (0:Nat)]=true∧((0:Nat)+(Int.toNat i-Int.toNat (0:Int))+(1:Nat))*(64:Nat)≤(140737488355328:Nat)∧(0:Nat)+(Int.toNat i-Int.toNat (0:Int))+(1:Nat)≤(9223372036854775807:Nat)) <|
 .rq ((0:Int)≤i∧i≤(s.n:Int)∧(s.n:Int)≤(s.c:Int)∧(s.c:Int)≤(s.c:Int)) <|
 .rd ({ a:=if (s.c:Int).toNat=Int.toNat i then s.a else Option.map (fun x=>x.add (Int.toNat i*Tryz.prog.types[(135:Nat)].size)) s.a,n:=(s.n:Int).toNat-Int.toNat i,c:=(s.c:Int).toNat-Int.toNat i:SlV }) ((4:Nat)) fun y8 =>
 .rq (one y8=true∧((0:Nat)+(Int.toNat i-Int.toNat (0:Int))+(1:Nat)+((s.n:Int).toNat-Int.toNat i))*(64:Nat)≤(140737488355328:Nat)∧(0:Nat)+(Int.toNat i-Int.toNat (0:Int))+(1:Nat)+((s.n:Int).toNat-Int.toNat i)≤(9223372036854775807:Nat)) <|
 .fz ((0:Nat)+(Int.toNat i-Int.toNat (0:Int))+(1:Nat)+((s.n:Int).toNat-Int.toNat i)) ([]++y7++[Go.Value.string x1,Go.Value.string x2,Go.Value.bool false,Go.Value.slice none (0:Nat) (0:Nat)]++y8) 135 fun b9 c9 =>
 .call false gS_BookOk [Sh1.val (.g [.l]) ((⟨(some { block:=b9,off:=(0:Nat):Go.Addr }),((0:Nat)+(Int.toNat i-Int.toNat (0:Int))+(1:Nat)+((s.n:Int).toNat-Int.toNat i)),(c9)⟩:SlV),())] (.v (.o (.b))) fun y10 =>
 .br (!y10) (
  .ret [Sh1.val (.g [.l]) ((⟨(none),((0:Nat)),((0:Nat))⟩:SlV),()),.bool (false)]) <|
 .ret [Sh1.val (.g [.l]) ((⟨(some { block:=b9,off:=(0:Nat):Go.Addr }),((0:Nat)+(Int.toNat i-Int.toNat (0:Int))+(1:Nat)+((s.n:Int).toNat-Int.toNat i)),(c9)⟩:SlV),()),.bool (true)]
theorem cS_BookOpen {V:Know} (hV:HcS V) (s:SlV) (l:List DAcct) (f:List Nat) (h:LR rAcct V s l f) (n c:ByteArray) (zn:n.size≤9223372036854775807) (zc:c.size≤9223372036854775807) :
  CallX Tryz.prog V gS_BookOpen [Sh1.val (.g [.l]) (s,()),.string n,.string c] (fun V' v=>V.le V'∧∃ s f,v=.tuple #[Sh1.val (.g [.l]) (s,()),.bool (openB l n c).2]∧LR rAcct V' s (openB l n c).1 f):=by
 have no:∀ {V':Know},V.le V'→¬ ((BookOkP l∧fnd n l=none)∧BookOkP (openL l n c))→(V.le V'∧∃ s f,packed [Sh1.val (.g [.l]) (⟨none,0,0⟩,()),.bool false]=.tuple #[Sh1.val (.g [.l]) (s,()),.bool (openB l n c).2]∧LR rAcct V' s (openB l n c).1 f):=fun le k=>by
  rw [openB_no k]
  exact⟨le,⟨none,0,0⟩,[],rfl,lrNil⟩
 refine CallX.of_fits Tryz.mix (fS_BookOpen _ _ _) fun _=>?_
 simp only [tS_BookOpen,T.wp]
 refine(cS_BookOk hV s l f h).mono ?_
 rintro V1 _ ⟨le1,e1,rfl,he1⟩
 refine⟨nofun,e1,rfl,fun hf=>no le1 fun k=>?_,fun h1=>?_⟩
 ·rw [he1.2 k.1.1] at hf; cases hf
 have ok1:=he1.1 (by simpa using h1)
 refine(cS_AcctAt V1 s l f (h.le le1) n).mono ?_
 rintro V2 _ ⟨le2,rfl⟩
 have l2:=le1.trans le2
 refine⟨nofun,_,rfl,fun hge=>no l2 fun k=>?_,fun hlt=>?_⟩
 ·have hge':atN n l≥0:=of_decide_eq_true hge
  rw [atN_none k.1.2] at hge'
  omega
 have hlt':¬ atN n l≥0:=of_decide_eq_false hlt
 have hf:fnd n l=none:=at_neg.1 (by omega)
 refine(kS_l17Copy V2 (s,()) (l,()) _ (rSl.mk (h.le l2) rNil.mk) (by show l.length+totE rAcct l+0≤1048576; have:=book_tot ok1; omega)).mono ?_
 rintro V3 _ ⟨le3,⟨s4,su⟩,f4,rfl,⟨g4,g5,e4,L4,hN⟩,_⟩
 replace L4:LR rAcct V3 s4 l g4:=L4
 have l3:=l2.trans le3
 have hn4:=L4.1
 have hnc:=L4.2.1
 have h12:=ok1.1
 obtain⟨cs,fps,he,rd⟩:=rd_part L4
 have hcl:=he.len
 refine⟨nofun,(s4,()),rfl,?_⟩
 have hsz:Tryz.prog.types[(135:Nat)].size=4:=by kernel_rfl
 have fin:∀ {k:Nat},k≤l.length→posA n l=k→∀ b9 c9 sp,V3 b9=none→l.length+1≤c9 →
   CallX Tryz.prog (kset V3 b9 (((insL k (n,c,false,⟨none,0,0⟩,()) cs).flatMap (Scs.vals AcSh))++sp,(acT,(0,0)))) gS_BookOk [Sh1.val (.g [.l]) ((⟨some ⟨b9,0,none⟩,l.length+1,c9⟩:SlV),())] (fun V5 r=>∃ e,r=.bool e∧(e=true→openB l n c=(openL l n c,true)∧V.le V5∧∃ f',LR rAcct V5 ⟨some ⟨b9,0,none⟩,l.length+1,c9⟩ (openL l n c) f')∧(e=false→V.le V5∧¬ ((BookOkP l∧fnd n l=none)∧BookOkP (openL l n c)))):=by
  intro k hk hpos b9 c9 sp hb9 hc9
  have q:=kset_le (x:=(((insL k (n,c,false,⟨none,0,0⟩,()) cs).flatMap (Scs.vals AcSh))++sp,((acT,(0,0)):KTy))) hb9
  obtain⟨fps',k1,_⟩:=els_ins (newA_R _ zn zc) (he.le q) hk
  have hln:LR rAcct _ ⟨some ⟨b9,0,none⟩,l.length+1,c9⟩ (insL k (newA n c) l) (b9 :: fps'):=lr_new2 k1 kset_same (by rw [insL_len hk]) (by rw [insL_len hk]; omega) (by rw [insL_len hk]; omega)
  rw [hpos.symm] at hln
  have l5:=l3.trans q
  rw [← hpos]
  rw [← hpos] at q l5
  refine(cS_BookOk (hV.le l5) _ (openL l n c) _ hln).mono ?_
  rintro V5 _ ⟨le5,e,rfl,he5⟩
  exact⟨e,rfl,fun ht=>⟨openB_ok ⟨⟨ok1,hf⟩,he5.1 ht⟩,l5.trans le5,_,hln.le le5⟩,fun hfl=>⟨l5.trans le5,fun k=>by rw [he5.2 k.2] at hfl; cases hfl⟩⟩
 refine⟨fun y V'=>V'=V3∧∃ k:Nat,y.1=(k:Int)∧k≤l.length∧∀ (j:Nat) (hj:j<l.length),j<k→lessB n l[j]=true,fun y _=>((l.length:Int)-(y.1:Int)).toNat,⟨((0:Int),()),rfl,rfl,0,rfl,Nat.zero_le _,fun j _ h=>by omega⟩,?_⟩
 rintro⟨(i:Int),u⟩ V' ⟨rfl,k,hk,hkl,hall⟩
 replace hk:i=(k:Int):=hk
 subst hk
 have e0:(k:Int).toNat=k:=by omega
 have ec:(s4.c:Int).toNat=s4.c:=by omega
 have en4:(s4.n:Int).toNat=s4.n:=by omega
 have ez:Int.toNat (0:Int)=0:=rfl
 -- what follows the search
 have rest:posA n l=k→∀ Ns,(tailOpen n c s4 (k:Int)).wp Tryz.prog (fun V' vs=>V.le V'∧∃ s f,packed vs=.tuple #[Sh1.val (.g [.l]) (s,()),.bool (openB l n c).2]∧LR rAcct V' s (openB l n c).1 f) V' V' Ns:=by
  intro hpos Ns
  obtain⟨r1,o1⟩:=rd 0 k s4.c (s4.c=0) (by omega) (fun h=>h) (Nat.le_refl _)
  obtain⟨r2,o2⟩:=rd k (s4.n-k) (s4.c-k) (s4.c=k) (by omega) (fun h=>h) (by omega)
  simp only [Nat.zero_mul,List.drop_zero] at r1 o1
  have hnn:k+1+(s4.n-k)=l.length+1:=by omega
  have hrow:(cs.take k).flatMap (Scs.vals AcSh)++[Value.string n,.string c,.bool false,.slice none 0 0]++((cs.drop k).take (s4.n-k)).flatMap (Scs.vals AcSh)=(insL k (n,c,false,⟨none,0,0⟩,()) cs).flatMap (Scs.vals AcSh):=by
   rw [List.take_of_length_le (l:=cs.drop k) (by rw [List.length_drop]; omega)]
   simp only [insL,List.flatMap_append,List.flatMap_cons,List.append_assoc]
   rfl
  simp only [tailOpen,T.wp,Int.toNat_natCast,Int.toNat_zero,Nat.sub_zero,Nat.zero_add,Nat.zero_mul,hsz,List.nil_append]
  refine⟨⟨by omega,by omega,by omega,by omega⟩,_,r1,o1,⟨o1,by omega,by omega⟩,rfl,⟨rfl,by omega,by omega⟩,⟨by omega,by omega,by omega,by omega⟩,_,r2,o2,⟨o2,by omega,by omega⟩,?_⟩
  rw [hnn,hrow]
  intro b9 c9 sp hb9 hc9 _
  refine(fin hkl hpos b9 c9 sp hb9 hc9).mono ?_
  rintro V5 _ ⟨e,rfl,ht,hf'⟩
  refine⟨nofun,e,rfl,fun hfl=>?_,fun htl=>?_⟩
  ·obtain⟨l5,k5⟩:=hf' (by simpa using hfl)
   exact no l5 k5
  ·obtain⟨q1,l5,f',L5⟩:=ht (by simpa using htl)
   rw [q1]
   exact⟨l5,_,f',rfl,L5⟩
 refine⟨fun hlt=>?_,fun hge=>?_⟩
 ·have hi:k<l.length:=by
   have:(k:Int)<(s4.n:Int):=of_decide_eq_true hlt
   omega
  obtain⟨b1,o1,c1,fc,a1,l1,hR,_⟩:=L4.at hi
  have en:=acct_name hR
  dsimp only
  refine⟨_,a1,by omega,by omega,c1.1,?_,fun hless=>?_,fun hless=>?_⟩
  ·rw [e0]
   exact load_part l1 (o:=0) (n:=1) rfl
  ·refine⟨_,rfl,(((k+1:Nat):Int),()),by rw [nxt hi (by omega)]; rfl,⟨rfl,k+1,rfl,hi,fun j hj h2=>?_⟩,?_⟩
   ·by_cases e:j=k
    ·subst e
     unfold lessB
     rw [← en]; exact hless
    ·exact hall j hj (by omega)
   ·show((l.length:Int)-((k+1:Nat):Int)).toNat<((l.length:Int)-(k:Int)).toNat
    omega
  ·have h9:=rest (posA_eq hkl hall fun _=>by
    unfold lessB
    rw [← en]; exact hless) []
   simp only [tailOpen,T.wp] at h9
   exact h9
 ·have hi:k=l.length:=by
   have:¬ (k:Int)<(s4.n:Int):=of_decide_eq_false hge
   omega
  have h9:=rest (posA_eq hkl hall fun h=>absurd h (by omega)) []
  simp only [tailOpen,T.wp] at h9
  exact h9
theorem cS_DoOpen {V:Know} (hV:HcS V) (c:Scs LedSh) (x:DLedger) (f:List Nat) (h:rLedger.R V c x f) (ht:rLedger.tot x≤1048576) (n cur:ByteArray) (zn:n.size≤9223372036854775807) (zc:cur.size≤9223372036854775807) :
  CallX Tryz.prog V gS_DoOpen [Sh1.val (.g [.l,.l,.s,.l]) c,.string n,.string cur] (DoS V (perfP x (openRun x n cur))):=by
 refine CallX.of_fits Tryz.mix (fS_DoOpen _ _ _) fun _=>?_
 obtain⟨s0,s1,s3,f0,f1,f3,rfl,L0,_,_⟩:=ledger_elim h
 simp only [tS_DoOpen,T.wp]
 refine(cS_LedgerOk hV _ x f h).mono ?_
 rintro V1 _ ⟨le1,e1,rfl,he1⟩
 refine⟨nofun,e1,rfl,fun hf=>?_,fun k1=>?_⟩
 ·rw [perfP_no (fun k=>by rw [he1.2 k] at hf; cases hf)]
  exact doS_zero le1 1
 rw [perfP_ok (he1.1 (by simpa using k1))]
 refine(cS_IsWord V1 n zn).mono ?_
 rintro V2 _ ⟨rfl,e2,rfl,he2⟩
 refine⟨nofun,e2,rfl,fun hf=>?_,fun k2=>?_⟩
 ·rw [openRun_1 (fun k=>by rw [he2.2 k] at hf; cases hf)]
  exact doS_zero le1 1
 have w1:=he2.1 (by simpa using k2)
 refine(kS_CurKnown (hV.le le1) cur).mono ?_
 rintro V3 _ ⟨le3,rfl⟩
 have l3:=le1.trans le3
 refine⟨nofun,_,rfl,fun hf=>?_,fun k3=>?_⟩
 ·rw [openRun_2 w1 (fun k=>by rw [k] at hf; cases hf)]
  exact doS_zero l3 2
 have w2:known cur=true:=by simpa using k3
 refine(cS_AcctAt V3 s0 x.1 f0 (L0.le l3) n).mono ?_
 rintro V4 _ ⟨le4,rfl⟩
 have l4:=l3.trans le4
 refine⟨nofun,_,rfl,fun hge=>?_,fun hlt=>?_⟩
 ·have hge':atN n x.1≥0:=of_decide_eq_true hge
  rw [openRun_4 w1 w2 (fun k=>by rw [atN_none k] at hge'; omega)]
  exact doS_zero l4 4
 have hlt':¬ atN n x.1≥0:=of_decide_eq_false hlt
 have hf:fnd n x.1=none:=at_neg.1 (by omega)
 refine(cS_BookOpen (hV.le l4) s0 x.1 f0 (L0.le l4) n cur zn zc).mono ?_
 rintro V5 _ ⟨le5,s5,f5,rfl,L5⟩
 have l5:=l4.trans le5
 obtain⟨⟨y,ok⟩,hy⟩:∃ r,openB x.1 n cur=r:=⟨_,rfl⟩
 rw [hy] at L5 ⊢
 rw [openRun_end w1 w2 hf hy]
 refine⟨nofun,((s5,()),ok,()),rfl,fun hf=>?_,fun hT=>?_⟩
 ·have:ok=false:=by simpa using hf
  subst this
  exact doS_zero l5 9
 have:ok=true:=by simpa using hT
 subst this
 refine(kS_l20Copy V5 _ x f (rLedger.le h l5) ht).mono ?_
 rintro V6 _ ⟨le6,c6,f6,rfl,R6⟩
 obtain⟨t0,t1,t3,k0,k1,k3,rfl,M0,M1,M3⟩:=ledger_elim R6
 have zs:x.2.2.1.size≤9223372036854775807:=by
  have e:rLedger.tot x=x.1.length+totE rAcct x.1+(x.2.1.length+totE rRest x.2.1+(x.2.2.1.size+(x.2.2.2.1.length+totE rRate x.2.2.2.1+0))):=rfl
  omega
 exact⟨nofun,(t0,t1,x.2.2.1,t3,()),rfl,l5.trans le6,(s5,t1,x.2.2.1,t3,()),f5++(k1++k3),rfl,ledger_mk (x:=(y,x.2)) (L5.le le6) M1 rfl zs M3⟩
theorem openRun_ans {x:DLedger} {n c:ByteArray} (h:LedgerOkP x):Ans (openRun x n c):=by
 unfold openRun
 split
 ·split
  ·split
   ·split
    ·rename_i k
     refine .inl ⟨rfl,?_,h.2⟩
     unfold openB at k ⊢
     split at k
     ·rename_i q
      rw [if_pos q]
      exact q.2
     ·cases k
    ·exact .inr ⟨by decide,rfl⟩
   ·exact .inr ⟨by decide,rfl⟩
  ·exact .inr ⟨by decide,rfl⟩
 ·exact .inr ⟨by decide,rfl⟩
theorem uI_DoOpen {V:Know} (hV:HcI V) (c:Scs LedSh) (x:DLedger) (f:List Nat) (h:rLedger.R V c x f) (ht:rLedger.tot x≤1048576) (n:ByteArray) (zn:n.size≤1048576) (cur:ByteArray) (zc:cur.size≤1048576) :
  CallX Tryz.prog V gI_DoOpen [Sh1.val (.g [.l,.l,.s,.l]) c,.string n,.string cur] (UI V (perfP x (openRun x n cur))):=(cI_DoOpen hV c x f h ht n cur (by omega) (by omega)).mono (fun _ _=>doPost_u)
theorem uS_DoOpen {V:Know} (hV:HcS V) (c:Scs LedSh) (x:DLedger) (f:List Nat) (h:rLedger.R V c x f) (ht:rLedger.tot x≤1048576) (n:ByteArray) (zn:n.size≤1048576) (cur:ByteArray) (zc:cur.size≤1048576) :
  CallX Tryz.prog V gS_DoOpen [Sh1.val (.g [.l,.l,.s,.l]) c,.string n,.string cur] (US V (perfP x (openRun x n cur))):=(cS_DoOpen hV c x f h ht n cur (by omega) (by omega)).mono (fun _ _=>doS_u)
end Go.Proofs.YtccnjccabllcaaaGreatDoor
