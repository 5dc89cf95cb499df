/-
  A ledger rebuilt from its script: the plain law.
-/
import Derived.Test.YtpdfdkccgkieoaaGreatDoorOpen
import Derived.Test.YtpdfdkccgkieoaaGreatDoorPerfL
import Derived.Test.YtpdfdkccgkieoaaGreatDoorCmdB
namespace Go.Proofs.YtpdfdkccgkieoaaGreatDoor
open Sx
set_option maxRecDepth 100000
def lessB (n:ByteArray) (a:DAcct):Bool:=Op.bytesLess a.1.toList n.toList
def posA (n:ByteArray):List DAcct→Nat
 | []=>0
 | a :: l=>if lessB n a=true then posA n l+1 else 0
theorem posA_eq {n:ByteArray}:∀ {l:List DAcct} {k:Nat},k≤l.length→(∀ (j:Nat) (hj:j<l.length),j<k→lessB n l[j]=true)→(∀ h:k<l.length,lessB n l[k]=false)→posA n l=k
 | [],k,hk,_,_=>by
  have:k=0:=by simpa using hk
  subst this; rfl
 | a :: l,0,_,_,h=>by
  have h0:lessB n a=false:=h (by simp)
  rw [posA,h0]; rfl
 | a :: l,k+1,hk,hj,h=>by
  have h0:lessB n a=true:=hj 0 (by simp) (by omega)
  rw [posA,if_pos h0,posA_eq (l:=l) (k:=k) (by simpa using hk) (fun j hj' hjk=>by
   have:=hj (j+1) (by simpa using hj') (by omega)
   simpa using this) (fun h'=>by
   have:=h (by simpa using h')
   simpa using this)]
abbrev newA (n c:ByteArray):DAcct:=(n,c,false,[],())
def openL (l:List DAcct) (n c:ByteArray):List DAcct:=insL (posA n l) (newA n c) l
open Classical in
noncomputable def openB (l:List DAcct) (n c:ByteArray):List DAcct × Bool:=if (BookOkP l∧fnd n l=none)∧BookOkP (openL l n c) then (openL l n c,true) else ([],false)
theorem openB_ok {l:List DAcct} {n c:ByteArray} (h:(BookOkP l∧fnd n l=none)∧BookOkP (openL l n c)):openB l n c=(openL l n c,true):=if_pos h
theorem openB_no {l:List DAcct} {n c:ByteArray} (h:¬ ((BookOkP l∧fnd n l=none)∧BookOkP (openL l n c))):openB l n c=([],false):=if_neg h
theorem newA_R (V:Know) {n c:ByteArray} (zn:n.size≤9223372036854775807) (zc:c.size≤9223372036854775807):rAcct.R V (n,c,false,⟨none,0,0⟩,()) (newA n c) []:=⟨⟨rfl,zn⟩,⟨rfl,zc⟩,rfl,[],[],rfl,⟨rfl,Nat.le_refl _,(by show(0:Nat)≤9223372036854775807; decide),.inl ⟨rfl,fun _=>rfl,rfl⟩⟩,rfl⟩
theorem open_change {V:Know} (hV:HcI V) {b3 b4:Nat} {t3 t4:TypeId} {l:List DAcct} {n c:ByteArray} (zn:n.size≤9223372036854775807) (zc:c.size≤9223372036854775807) (h12:l.length≤12)
  (h3:V b3=some ([.string n],(t3,(0,0)))) (h4:V b4=some ([.string c],(t4,(0,0)))) {ok:Bool} (hok:ok=true↔BookOkP (openL l n c)):Change V 285 [.pointer (some ⟨b3,0,none⟩),.pointer (some ⟨b4,0,none⟩)] l (openL l n c) ok:=by
 intro V1 b q s f le hbV G O hl1 hbf hbk
 refine CallX.of_fits Tryz.mix (fI_BookOpen_1 ⟨b,2,none⟩ ⟨b3,0,none⟩ ⟨b4,0,none⟩) fun _=>?_
 have L:=G.lr (show l.length≤9223372036854775807 by omega)
 have hn:=L.1
 have ld3:loadV V1 ⟨b3,0,none⟩ 1=some [.string n]:=by simp only [loadV,le _ _ h3]; rfl
 have ld4:loadV V1 ⟨b4,0,none⟩ 1=some [.string c]:=by simp only [loadV,le _ _ h4]; rfl
 have ldb:loadV V1 ((⟨b,2,none⟩:Addr).add 0) 1=some [Sc.val .l s]:=by simp only [addr_add_eq,loadV,hbk]; rfl
 simp only [tI_BookOpen_1,T.wp]
 -- what follows the search
 have tail:∀ {k:Nat},k≤l.length→posA n l=k→∀ b10,V1 b10=none→CallX Tryz.prog (kset V1 b10 ([.string n,.string c,.bool false,.slice none 0 0],(acT,(0,0)))) 286 [Sc.val .l s,.int .i64 (k:Int),.slice (some ⟨b10,0,none⟩) 1 1]
   (fun V3 r=>∃ s',r=Sc.val .l s'∧V3 b=some ([.int .i32 1,q,.slice s.a s.n s.c],(gdT,(0,0)))∧V.le V3∧CallX Tryz.prog (kset V3 b ([.int .i32 1,q,.slice s'.a s'.n s'.c],(gdT,(0,0)))) 32 [qv4 (s',())] (fun V5 r=>∃ e,r=.bool e∧e=ok∧V.le V5∧V5 b=some ([.int .i32 1,q,.slice s'.a s'.n s'.c],(gdT,(0,0)))∧∃ f',LR rAcct V5 s' (openL l n c) f'∧Own V V5 f'∧b ∉ f')):=by
  intro k hk hpos b10 hb10
  have q2:=kset_le (x:=(([.string n,.string c,.bool false,.slice none 0 0]:List Value),((acT,(0,0)):KTy))) hb10
  have hf10:b10 ∉ f:=fun hm=>by
   obtain⟨u,v,huv⟩:=O.2.2 b10 hm
   rw [hb10] at huv; cases huv
  have hbne:b≠b10:=fun e=>by rw [e,hb10] at hbk; cases hbk
  refine(cI_Insert (V0:=V) (cv:=(n,c,false,⟨none,0,0⟩,())) (xv:=newA n c) (fv:=[]) (G.le q2) (by rw [List.append_nil]; exact O.post q2) (le.trans q2) kset_same hf10 (newA_R _ zn zc) (by omega) hk).mono ?_
  rintro V3 r ⟨s',f',rfl,_,L3,O3,le3,keep,hsub⟩
  have hb2:kset V1 b10 (([.string n,.string c,.bool false,.slice none 0 0]:List Value),((acT,(0,0)):KTy)) b=some ([.int .i32 1,q,.slice s.a s.n s.c],(gdT,(0,0))):=by rw [kset_other hbne]; exact hbk
  have hb3:V3 b=some ([.int .i32 1,q,.slice s.a s.n s.c],(gdT,(0,0))):=by rw [keep b hbf (by rw [hb2]; exact nofun)]; exact hb2
  have hbf':b ∉ f':=fun hm=>by
   rcases hsub b hm with h | h | h
   ·rw [hb2] at h; cases h
   ·exact hbf h
   ·cases h
  have le4:V.le (kset V3 b ([.int .i32 1,q,.slice s'.a s'.n s'.c],(gdT,(0,0)))):=kset_le2 le3 hbV
  refine⟨s',rfl,hb3,le3,?_⟩
  rw [hpos.symm] at L3
  refine(cI_BookOk (hV.le le4) s' (openL l n c) f' (L3.loc (kset_loc hbf'))).mono ?_
  rintro V5 _ ⟨le5,e,rfl,he⟩
  have eo:e=ok:=by
   cases e with
   | true=>exact(hok.2 (he.1 rfl)).symm
   | false =>
    cases ok with
    | false=>rfl
    | true=>exact he.2 (hok.1 rfl)
  exact⟨e,rfl,eo,le4.trans le5,le5 _ _ kset_same,f',(L3.loc (kset_loc hbf')).le le5,(own_kset O3 hbf').post le5,hbf'⟩
 refine⟨fun y V'=>V'=V1∧∃ k:Nat,y.1=(k:Int)∧k≤l.length∧∀ (j:Nat) (hj:j<l.length),j<k→lessB n l[j]=true,fun y _=>((l.length:Int)-(y.1:Int)).toNat,⟨((0:Int),()),rfl,rfl,0,rfl,Nat.zero_le _,fun j _ h=>by omega⟩,?_⟩
 rintro⟨(i:Int),u⟩ V' ⟨rfl,k,hk,hkl,hall⟩
 replace hk:i=(k:Int):=hk
 subst hk
 have e0:(k:Int).toNat=k:=by omega
 refine⟨s,by rw [if_pos trivial]; exact ldb,fun hlt=>?_,fun hge=>?_⟩
 ·have hi:k<l.length:=by
   have:(k:Int)<(s.n:Int):=of_decide_eq_true hlt
   omega
  obtain⟨b1,o1,c1,fc,a1,l1,hR,_⟩:=L.at hi
  have en:=acct_name hR
  dsimp only
  rw [e0]
  refine⟨s,by rw [if_pos trivial]; exact ldb,_,a1,by omega,by omega,c1.1,by rw [if_pos trivial]; exact load_part l1 (o:=0) (n:=1) rfl,n,by rw [if_pos trivial]; exact ld3,fun hless=>?_,fun hless=>?_⟩
  ·refine⟨_,rfl,(((k+1:Nat):Int),()),by rw [nxt hi (by omega)]; rfl,⟨rfl,k+1,rfl,hi,fun j hj h2=>?_⟩,?_⟩
   ·by_cases e:j=k
    ·subst e
     unfold lessB
     rw [← en]; exact hless
    ·exact hall j hj (by omega)
   ·show((l.length:Int)-((k+1:Nat):Int)).toNat<((l.length:Int)-(k:Int)).toNat
    omega
  ·have hpos:posA n l=k:=posA_eq hkl hall fun _=>by
    unfold lessB
    rw [← en]; exact hless
   refine⟨_,Know.le.refl _,s,by rw [if_pos trivial]; exact ldb,n,by rw [if_pos trivial]; exact ld3,c,by rw [if_pos trivial]; exact ld4,fun b10 hb10=>(tail hkl hpos b10 hb10).mono ?_⟩
   rintro V3 _ ⟨s',rfl,hb3,le3,hB⟩
   refine⟨nofun,s',rfl,?_⟩
   simp only [addr_add_eq]
   refine⟨_,_,trivial,hb3,(by show 2+0+1≤3; decide),?_⟩
   change ∃ x,_
   rw [show setl [Value.int .i32 1,q,.slice s.a s.n s.c] (2+0) [Sc.val .l s']=[Value.int .i32 1,q,.slice s'.a s'.n s'.c] from rfl]
   refine⟨(s',()),?_,?_⟩
   ·simp only [loadV,Bool.false_eq_true,if_false,kset_same]; rfl
   ·refine hB.mono ?_
    rintro V5 _ ⟨e,rfl,rfl,le5,hb5,f',L5,O5,hf5⟩
    exact⟨nofun,e,rfl,rfl,le5,s',hb5,fun _=>⟨f',L5,O5,hf5⟩⟩
 ·have hi:k=l.length:=by
   have:¬ (k:Int)<(s.n:Int):=of_decide_eq_false hge
   omega
  subst hi
  have hpos:posA n l=l.length:=posA_eq hkl hall fun h=>absurd h (by omega)
  refine⟨_,Know.le.refl _,s,by rw [if_pos trivial]; exact ldb,n,by rw [if_pos trivial]; exact ld3,c,by rw [if_pos trivial]; exact ld4,fun b10 hb10=>(tail hkl hpos b10 hb10).mono ?_⟩
  rintro V3 _ ⟨s',rfl,hb3,le3,hB⟩
  refine⟨nofun,s',rfl,?_⟩
  simp only [addr_add_eq]
  refine⟨_,_,trivial,hb3,(by show 2+0+1≤3; decide),?_⟩
  change ∃ x,_
  rw [show setl [Value.int .i32 1,q,.slice s.a s.n s.c] (2+0) [Sc.val .l s']=[Value.int .i32 1,q,.slice s'.a s'.n s'.c] from rfl]
  refine⟨(s',()),?_,?_⟩
  ·simp only [loadV,Bool.false_eq_true,if_false,kset_same]; rfl
  ·refine hB.mono ?_
   rintro V5 _ ⟨e,rfl,rfl,le5,hb5,f',L5,O5,hf5⟩
   exact⟨nofun,e,rfl,rfl,le5,s',hb5,fun _=>⟨f',L5,O5,hf5⟩⟩
theorem cI_BookOpen {V:Know} (hV:HcI V) (s:SlV) (l:List DAcct) (f:List Nat) (h:LR rAcct V s l f) (n c:ByteArray) (zn:n.size≤9223372036854775807) (zc:c.size≤9223372036854775807) :
  CallX Tryz.prog V 281 [qv4 (s,()),.string n,.string c] (BkPost V (openB l n c)):=by
 refine CallX.of_fits Tryz.mix (fI_BookOpen _ _ _) fun _=>?_
 simp only [tI_BookOpen,T.wp]
 refine(cI_BookOk hV s l f h).mono ?_
 rintro V1 _ ⟨le1,e1,rfl,he1⟩
 refine⟨nofun,e1,rfl,fun hf=>?_,fun h1=>?_⟩
 ·rw [openB_no (fun k=>by rw [he1.2 k.1.1] at hf; cases hf)]
  exact bk_no le1
 have ok1:=he1.1 (by simpa using h1)
 refine(cI_AcctAt V1 s l f (h.le le1) n).mono ?_
 rintro V2 _ ⟨le2,rfl⟩
 have l2:=le1.trans le2
 refine⟨nofun,_,rfl,fun hge=>?_,fun hlt=>?_⟩
 ·have hge':atN n l≥0:=of_decide_eq_true hge
  rw [openB_no (fun k=>by rw [atN_none k.1.2] at hge'; omega)]
  exact bk_no l2
 have hlt':¬ atN n l≥0:=of_decide_eq_false hlt
 have hf:fnd n l=none:=at_neg.1 (by omega)
 intro b3 hb3 b4 hb4
 have q3:=kset_le (x:=([Value.string n],((9:TypeId),((0,0):Nat × Nat)))) hb3
 have q4:=kset_le (x:=([Value.string c],((9:TypeId),((0,0):Nat × Nat)))) hb4
 have v3:kset (kset V2 b3 ([Value.string n],((9:TypeId),((0,0):Nat × Nat)))) b4 ([Value.string c],((9:TypeId),((0,0):Nat × Nat))) b3=some _:=q4 _ _ kset_same
 have l4:=l2.trans (q3.trans q4)
 obtain⟨ok,hok⟩:∃ ok:Bool,ok=true↔BookOkP (openL l n c):=by
  by_cases k:BookOkP (openL l n c)
  ·exact⟨true,fun _=>k,fun _=>rfl⟩
  ·exact⟨false,(fun h=>by cases h),fun h=>absurd h k⟩
 refine(cI_changed s l f (h.le l4) (by have:=book_tot ok1; omega) 285 [.pointer (some ⟨b3,0,none⟩),.pointer (some ⟨b4,0,none⟩)] (openL l n c) ok rfl (open_change (hV.le l4) zn zc ok1.1 v3 kset_same hok)).mono ?_
 have e:openB l n c=(if ok=true then openL l n c else [],ok):=by
  cases ok with
  | true=>exact openB_ok ⟨⟨ok1,hf⟩,hok.1 rfl⟩
  | false=>exact openB_no fun k=>by have:=hok.2 k.2; cases this
 rw [e]
 rintro V5 _ ⟨le5,s5,f5,rfl,L5,O5⟩
 exact⟨nofun,((s5,()),ok,()),rfl,l4.trans le5,s5,f5,rfl,L5,O5.pre l4⟩
open Classical in
noncomputable def openRun (x:DLedger) (n c:ByteArray):DLedger × Int :=
 if WordP n then (if known c=true then (if fnd n x.1=none then (if (openB x.1 n c).2=true then (((openB x.1 n c).1,x.2),0) else (zeroL,9)) else (zeroL,4)) else (zeroL,2)) else (zeroL,1)
theorem openRun_1 {x:DLedger} {n c:ByteArray} (h:¬ WordP n):openRun x n c=(zeroL,1):=if_neg h
theorem openRun_2 {x:DLedger} {n c:ByteArray} (h:WordP n) (k:¬ known c=true):openRun x n c=(zeroL,2):=(if_pos h).trans (if_neg k)
theorem openRun_4 {x:DLedger} {n c:ByteArray} (h:WordP n) (k:known c=true) (q:¬ fnd n x.1=none):openRun x n c=(zeroL,4):=(if_pos h).trans ((if_pos k).trans (if_neg q))
theorem openRun_end {x:DLedger} {n c:ByteArray} (h:WordP n) (k:known c=true) (q:fnd n x.1=none) {y:List DAcct} {ok:Bool} (e:openB x.1 n c=(y,ok)):openRun x n c=if ok=true then ((y,x.2),0) else (zeroL,9):=by
 have h1:openRun x n c=if (openB x.1 n c).2=true then (((openB x.1 n c).1,x.2),0) else (zeroL,9):=(if_pos h).trans ((if_pos k).trans (if_pos q))
 rw [h1,e]
theorem openRun_zero {x:DLedger} {n c:ByteArray}:(openRun x n c).2≠0→(openRun x n c).1=zeroL:=by
 unfold openRun
 split
 ·split
  ·split
   ·split
    ·intro h; exact absurd rfl h
    ·intro _; rfl
   ·intro _; rfl
  ·intro _; rfl
 ·intro _; rfl
theorem cI_opOpen {V0 V:Know} (hV:HcI V) (c:Scs LedSh) (x:DLedger) (f:List Nat) (h:rLedger.R V c x f) (O:Own V0 V f) (le0:V0.le V) (n cur:ByteArray) (zn:n.size≤9223372036854775807) (zc:cur.size≤9223372036854775807) :
  CallX Tryz.prog V 279 [qv9 (n,cur,()),qv0 c] (fun V' v=>V.le V'∧DoPost V0 (openRun x n cur) V' v):=by
 refine CallX.of_fits Tryz.mix (fI_opOpen__run _ _) fun _=>?_
 obtain⟨c0,c1,c2,c3,cu⟩:=c
 obtain⟨x0,x1,x2,x3,xu⟩:=x
 obtain⟨f0,g0,rfl,h0,h⟩:=h
 obtain⟨f1,g1,rfl,h1,h⟩:=h
 obtain⟨⟨e2,z2⟩,h⟩:=h
 replace e2:c2=x2:=e2
 subst e2
 obtain⟨f3,g3,rfl,h3,hN⟩:=h
 replace hN:g3=[]:=hN
 subst hN
 rw [List.append_nil] at O
 replace h0:LR rAcct V c0 x0 f0:=h0
 replace h1:LR rRest V c1 x1 f1:=h1
 replace h3:LR rRate V c3 x3 f3:=h3
 simp only [tI_opOpen__run,T.wp]
 refine(cI_IsWord V n zn).mono ?_
 rintro V1 _ ⟨rfl,e1,rfl,he1⟩
 refine⟨nofun,e1,rfl,fun hf=>?_,fun k1=>?_⟩
 ·rw [openRun_1 (fun k=>by rw [he1.2 k] at hf; cases hf)]
  exact⟨Know.le.refl _,do_zero le0 1⟩
 have w1:=he1.1 (by simpa using k1)
 refine(kI_CurKnown hV cur).mono ?_
 rintro V2 _ ⟨le2,rfl⟩
 refine⟨nofun,_,rfl,fun hf=>?_,fun k2=>?_⟩
 ·rw [openRun_2 w1 (fun k=>by rw [k] at hf; cases hf)]
  exact⟨le2,do_zero (le0.trans le2) 2⟩
 have w2:known cur=true:=by simpa using k2
 refine(cI_AcctAt V2 c0 x0 f0 (h0.le le2) n).mono ?_
 rintro V3 _ ⟨le3,rfl⟩
 have l3:=le2.trans le3
 refine⟨nofun,_,rfl,fun hge=>?_,fun hlt=>?_⟩
 ·have hge':atN n x0≥0:=of_decide_eq_true hge
  rw [openRun_4 w1 w2 (fun k=>by rw [atN_none k] at hge'; omega)]
  exact⟨l3,do_zero (le0.trans l3) 4⟩
 have hlt':¬ atN n x0≥0:=of_decide_eq_false hlt
 have hf:fnd n x0=none:=at_neg.1 (by omega)
 refine(cI_BookOpen (hV.le l3) c0 x0 f0 (h0.le l3) n cur zn zc).mono ?_
 rintro V4 _ ⟨le4,s4,f4,rfl,L4,O4⟩
 have l4:=l3.trans le4
 obtain⟨⟨y,ok⟩,hy⟩:∃ r,openB x0 n cur=r:=⟨_,rfl⟩
 rw [hy] at L4 ⊢
 rw [openRun_end (x:=(x0,x1,c2,x3,xu)) w1 w2 hf hy]
 refine⟨nofun,((s4,()),ok,()),rfl,fun hf=>?_,fun hT=>?_⟩
 ·have:ok=false:=by simpa using hf
  subst this
  exact⟨l4,do_zero (le0.trans l4) 9⟩
 ·have:ok=true:=by simpa using hT
  subst this
  exact⟨l4,le0.trans l4,(s4,c1,c2,c3,()),f4++(f1++f3),rfl,ledger_mk (x:=(y,x1,c2,x3,())) L4 (h1.le l4) rfl z2 (h3.le l4),((O.sub (List.sublist_append_right f0 (f1++f3))).post l3).append O4 (le0.trans l3) le4 |>.perm List.perm_append_comm⟩
theorem cut_rows {cs:List (Scs AcSh)} {i m:Nat} (h:i+m≤cs.length) {pre post:List Value}:cutv (pre++(cs.flatMap (Scs.vals AcSh)++post)) (pre.length+i*4) (m*4)=some (((cs.drop i).take m).flatMap (Scs.vals AcSh)):=by
 have e1:cs=cs.take i++((cs.drop i).take m++(cs.drop i).drop m):=by rw [List.take_append_drop,List.take_append_drop]
 have e2:cs.flatMap (Scs.vals AcSh)++post=(cs.take i).flatMap (Scs.vals AcSh)++(((cs.drop i).take m).flatMap (Scs.vals AcSh)++(((cs.drop i).drop m).flatMap (Scs.vals AcSh)++post)):=by
  conv=>lhs; rw [e1]
  simp only [List.flatMap_append,List.append_assoc]
 have l1:((cs.take i).flatMap (Scs.vals AcSh)).length=i*4:=by rw [flat_len,List.length_take,Nat.min_eq_left (by omega)]; rfl
 have l2:(((cs.drop i).take m).flatMap (Scs.vals AcSh)).length=m*4:=by rw [flat_len,List.length_take,List.length_drop,Nat.min_eq_left (by omega)]; rfl
 rw [cutv_skip,e2,← l1,← Nat.add_zero ((cs.take i).flatMap (Scs.vals AcSh)).length,cutv_skip,← l2]
 exact cutv_head
noncomputable def tailOpen (x1 x2:ByteArray) (s:SlV) (i:Int):T :=
 .rq ((0:Int)≤(0:Int)∧(0:Int)≤i∧i≤(s.c:Int)∧(s.c:Int)≤(s.c:Int)) <|
 .rd ({ a:=if (s.c:Int).toNat=Int.toNat (0:Int) then s.a else Option.map (fun x=>x.add (Int.toNat (0:Int)*Tryz.prog.types[(76:Nat)].size)) s.a,n:=Int.toNat i-Int.toNat (0:Int),c:=(s.c:Int).toNat-Int.toNat (0:Int):SlV }) ((4:Nat)) fun y7 =>
 .rq (one y7=true∧((0:Nat)+(Int.toNat i-Int.toNat (0:Int)))*(64:Nat)≤(140737488355328:Nat)∧(0:Nat)+(Int.toNat i-Int.toNat (0:Int))≤(9223372036854775807:Nat)) <|
 .rq ([Go.Value.string x1,Go.Value.string x2,Go.Value.bool false,Go.Value.slice none (0:Nat) (0:Nat)].length=(1:Nat)*(4:Nat)) <|
 .rq (one [Go.Value.string x1,Go.Value.string x2,Go.Value.bool false,Go.Value.slice none (0:Nat) (0:Nat)]=true∧((0:Nat)+(Int.toNat i-Int.toNat (0:Int))+(1:Nat))*(64:Nat)≤(140737488355328:Nat)∧(0:Nat)+(Int.toNat i-Int.toNat (0:Int))+(1:Nat)≤(9223372036854775807:Nat)) <|
 .rq ((0:Int)≤i∧i≤(s.n:Int)∧(s.n:Int)≤(s.c:Int)∧(s.c:Int)≤(s.c:Int)) <|
 .rd ({ a:=if (s.c:Int).toNat=Int.toNat i then s.a else Option.map (fun x=>x.add (Int.toNat i*Tryz.prog.types[(76:Nat)].size)) s.a,n:=(s.n:Int).toNat-Int.toNat i,c:=(s.c:Int).toNat-Int.toNat i:SlV }) ((4:Nat)) fun y8 =>
 .rq (one y8=true∧((0:Nat)+(Int.toNat i-Int.toNat (0:Int))+(1:Nat)+((s.n:Int).toNat-Int.toNat i))*(64:Nat)≤(140737488355328:Nat)∧(0:Nat)+(Int.toNat i-Int.toNat (0:Int))+(1:Nat)+((s.n:Int).toNat-Int.toNat i)≤(9223372036854775807:Nat)) <|
 .fz ((0:Nat)+(Int.toNat i-Int.toNat (0:Int))+(1:Nat)+((s.n:Int).toNat-Int.toNat i)) ([]++y7++[Go.Value.string x1,Go.Value.string x2,Go.Value.bool false,Go.Value.slice none (0:Nat) (0:Nat)]++y8) 76 fun b9 c9 =>
 .call false 96 [qv4 ((⟨(some { block:=b9,off:=(0:Nat):Go.Addr }),((0:Nat)+(Int.toNat i-Int.toNat (0:Int))+(1:Nat)+((s.n:Int).toNat-Int.toNat i)),(c9)⟩:SlV),())] (.v (.o (.b))) fun y10 =>
 .br (!y10) (
  .ret [qv4 ((⟨(none),((0:Nat)),((0:Nat))⟩:SlV),()),.bool (false)]) <|
 .ret [qv4 ((⟨(some { block:=b9,off:=(0:Nat):Go.Addr }),((0:Nat)+(Int.toNat i-Int.toNat (0:Int))+(1:Nat)+((s.n:Int).toNat-Int.toNat i)),(c9)⟩:SlV),()),.bool (true)]
end Go.Proofs.YtpdfdkccgkieoaaGreatDoor
namespace Go.Proofs.YtpdfdkccgkieoaaGreatDoor
open Sx
set_option maxRecDepth 100000
inductive Ln where
 | r (x:DRate)
 | o (a:DAcct)
 | p (a:DAcct)
abbrev absM (m:DMoney):DMoney:=(m.1,false,m.2.2.1,())
def LnOk:Ln→Prop
 | .r x=>RateOkP x
 | .o a=>WordP a.1∧known a.2.1=true
 | .p a=>WordP a.1∧MonP a.2∧0<a.2.2.2.1.length
noncomputable def lnRun (x:DLedger):Ln→DLedger × Int
 | .r y=>rateRun x y
 | .o a=>openRun x a.1 a.2.1
 | .p a=>addRun x a.1 (absM a.2) a.2.2.1
def Run:DLedger→List Ln→DLedger→Prop
 | x,[],y=>x=y
 | x,i :: l,y=>LedgerOkP x∧LnOk i∧∃ z,lnRun x i=(z,0)∧Run z l y
def acI (a:DAcct):List Ln:=.o a :: if a.2.2.2.1=[] then [] else [.p a]
def itemsR (x:DLedger):List Ln:=x.2.2.2.1.map .r++x.1.flatMap acI
theorem run_app:∀ {l k:List Ln} {a b c:DLedger},Run a l b→Run b k c→Run a (l++k) c
 | [],_,_,_,_,h,q=>by cases h; exact q
 | _ :: _,_,_,_,_,⟨h1,h2,z,h3,h4⟩,q=>⟨h1,h2,z,h3,run_app h4 q⟩
theorem restsOk_nil:RestsOkP []:=fun i h=>absurd h (Nat.not_lt_zero i)
theorem bookOk_nil:BookOkP []:=⟨Nat.zero_le _,fun i h=>absurd h (Nat.not_lt_zero i)⟩
theorem ratesOk_pre {p:ByteArray} {a b:List DRate} (h:RatesOkP p (a++b)):RatesOkP p a:=by
 refine⟨h.1,?_,fun i hi=>?_⟩
 ·have:=h.2.1
  rw [List.length_append] at this
  omega
 obtain⟨h0,h1,h2⟩:=h.2.2 i (by rw [List.length_append]; omega)
 rw [List.getElem_append_left hi] at h1 h2
 refine⟨hi,h1,fun j hj hji e=>h2 j (by rw [List.length_append]; omega) hji ?_⟩
 rw [List.getElem_append_left hj]
 exact e
theorem bookOk_pre {a b:List DAcct} (h:BookOkP (a++b)):BookOkP a:=by
 refine⟨?_,fun i hi=>?_⟩
 ·have:=h.1
  rw [List.length_append] at this
  omega
 obtain⟨h0,h1,h2,h3⟩:=h.2 i (by rw [List.length_append]; omega)
 rw [List.getElem_append_left hi] at h1 h2 h3
 refine⟨hi,h1,h2,fun h0=>?_⟩
 have:=h3 h0
 rw [List.getElem_append_left (by omega)] at this
 exact this
theorem book_less {l:List DAcct} (h:BookOkP l):∀ {j i:Nat} (hj:j<l.length) (hi:i<j),LessP (l[i]'(by omega)).1 l[j].1
 | j+1,i,hj,hi=>by
  obtain⟨_,_,_,h3⟩:=h.2 (j+1) hj
  have h4:LessP (l[j]'(by omega)).1 l[j+1].1:=h3 (by omega)
  by_cases e:i=j
  ·subst e; exact h4
  ·exact LessP.trans (book_less h (j:=j) (by omega) (by omega)) h4
theorem run_rates {p:ByteArray}:∀ (rest done:List DRate),RatesOkP p (done++rest)→Run ([],[],p,done,()) (rest.map .r) ([],[],p,done++rest,())
 | [],done,_=>by rw [List.append_nil]; rfl
 | r :: rest,done,h=>by
  have hd:=ratesOk_pre h
  have hl:=h.2.1
  rw [List.length_append,List.length_cons] at hl
  obtain⟨_,ok,hk⟩:=h.2.2 done.length (by rw [List.length_append,List.length_cons]; omega)
  have er:(done++r :: rest)[done.length]'(by rw [List.length_append,List.length_cons]; omega)=r:=by simp
  rw [er] at ok hk
  have hn:∀ (j:Nat) (hj:j<done.length),rkey done[j]≠rkey r:=fun j hj e=>hk j (by rw [List.length_append]; omega) hj (by rw [List.getElem_append_left hj]; exact e)
  refine⟨⟨bookOk_nil,restsOk_nil,hd⟩,ok,([],[],p,done++[r],()),?_,?_⟩
  ·have k:PutOk p done r:=⟨hd,ok,by rw [putR_none hn,List.length_append,List.length_singleton]; omega⟩
   exact(rateRun_ok (x:=([],[],p,done,())) ok k).trans (by rw [putR_none hn])
  ·have:=run_rates rest (done++[r]) (by rw [List.append_assoc]; exact h)
   rw [List.append_assoc] at this
   exact this
theorem absM_pay {a:DAcct} (h:MonP a.2):PayP (absM a.2):=⟨⟨h.1,⟨h.2.1.1,nofun⟩,h.2.2⟩,rfl⟩
theorem absM_back {a:DAcct} (h:MonP a.2) (k:0<a.2.2.2.1.length):(if a.2.2.1=true then negM (absM a.2) else absM a.2)=a.2:=by
 obtain⟨n,c,e,m,u⟩:=a
 replace k:0<m.length:=k
 cases e with
 | true=>show(c,(!false && decide (0<m.length)),m,())=(c,true,m,()); rw [decide_eq_true k]; rfl
 | false=>rfl
theorem run_accts {p:ByteArray} {l:List DRate} (hr:RatesOkP p l):∀ (rest done:List DAcct),BookOkP (done++rest)→Run (done,[],p,l,()) (rest.flatMap acI) (done++rest,[],p,l,())
 | [],done,_=>by rw [List.append_nil]; rfl
 | a :: rest,done,h=>by
  have h1:BookOkP (done++[a]):=bookOk_pre (b:=rest) (by rw [List.append_assoc]; exact h)
  have hd:=bookOk_pre h1
  have hn:done.length<(done++[a]).length:=by rw [List.length_append,List.length_singleton]; omega
  have ea:(done++[a])[done.length]=a:=by simp
  obtain⟨_,hw,hm,_⟩:=h1.2 done.length hn
  rw [ea] at hw hm
  replace hm:MonP a.2:=hm
  have hlt:∀ (j:Nat) (hj:j<done.length),LessP done[j].1 a.1:=fun j hj=>by
   have:=book_less h1 hn hj
   rw [ea,List.getElem_append_left hj] at this
   exact this
  have hz:MonP (a.2.1,false,[],()):=⟨hm.1,⟨⟨⟨fun i=>by simp [limb],.inl rfl⟩,Nat.zero_le _⟩,nofun⟩,Nat.zero_le _⟩
  have e1:done++[newA a.1 a.2.1]=(done++[a]).set done.length ((done++[a])[done.length].1,(a.2.1,false,[],())):=by
   rw [ea]; simp
  have hb:BookOkP (done++[newA a.1 a.2.1]):=by rw [e1]; exact book_set h1 hn hz
  have hf:fnd a.1 done=none:=fnd_none fun j hj e=>LessP.irr (e ▸ hlt j hj)
  have hp:openL done a.1 a.2.1=done++[newA a.1 a.2.1]:=by
   unfold openL
   rw [posA_eq (Nat.le_refl _) (fun j hj _=>hlt j hj) (fun q=>absurd q (Nat.lt_irrefl _))]
   simp [insL]
  have s1:lnRun (done,[],p,l,()) (.o a)=((done++[newA a.1 a.2.1],[],p,l,()),0) :=
   openRun_end hw hm.1 hf (openB_ok (l:=done) ⟨⟨hd,hf⟩,by rw [hp]; exact hb⟩) |>.trans (by rw [hp]; rfl)
  have tl:=run_accts hr rest (done++[a]) (by rw [List.append_assoc]; exact h)
  rw [List.append_assoc] at tl
  refine⟨⟨hd,restsOk_nil,hr⟩,⟨hw,hm.1⟩,_,s1,?_⟩
  show Run _ ((if a.2.2.2.1=[] then [] else [Ln.p a])++rest.flatMap acI) _
  split
  ·rename_i q
   have:newA a.1 a.2.1=a:=by
    obtain⟨n,c,e,m,u⟩:=a
    replace q:m=[]:=q
    subst q
    cases e with
    | true=>exact absurd (hm.2.1.2 rfl) (Nat.lt_irrefl _)
    | false=>rfl
   rw [this]
   exact tl
  ·rename_i q
   have q0:0<a.2.2.2.1.length:=List.length_pos_iff.2 q
   refine⟨⟨hb,restsOk_nil,hr⟩,⟨hw,hm,q0⟩,(done++[a],[],p,l,()),?_,tl⟩
   have hn2:done.length<(done++[newA a.1 a.2.1]).length:=by rw [List.length_append,List.length_singleton]; omega
   have ea2:(done++[newA a.1 a.2.1])[done.length]=newA a.1 a.2.1:=by simp
   have hf2:fnd a.1 (done++[newA a.1 a.2.1])=some done.length:=fnd_some hn2 (by rw [ea2]) fun j hj hji e=>by
    rw [List.getElem_append_left hji] at e
    exact LessP.irr (e ▸ hlt j hji)
   have ha:addM (done++[newA a.1 a.2.1])[done.length].2 a.2=(a.2,true):=by
    rw [ea2]
    refine addM_eq (.inl ⟨rfl,⟨hz,hm,rfl⟩,hm,rfl,?_⟩)
    show svM a.2=sval false []+svM a.2
    have:sval false []=0:=rfl
    omega
   refine(addRun_ok ⟨hw,absM_pay hm⟩).trans ?_
   rw [absM_back hm q0]
   refine(legsP_post (fun h=>?_) (fun h=>?_)).trans ?_
   ·obtain⟨g,hg,e⟩:=h
    obtain rfl:g=(a.1,a.2):=by simpa using hg
    replace e:fnd a.1 (done++[newA a.1 a.2.1])=none:=e
    rw [hf2] at e; cases e
   ·obtain⟨g,hg,e⟩:=h
    obtain rfl:g=(a.1,a.2):=by simpa using hg
    refine e ?_
    show(balP (done++[newA a.1 a.2.1]) a.1).1=a.2.1
    rw [balP_some hf2 hn2,ea2]
   ·have e2:postL (done++[newA a.1 a.2.1]) [(a.1,a.2)]=some (done++[a]):=by
     rw [postL_cons (postB_some hb hf2 hn2 ha),if_pos rfl,if_pos rfl,postL,ea2]
     simp
    unfold postP
    rw [e2]
theorem run_all {x:DLedger} (h:LedgerOkP x):Run ([],[],x.2.2.1,[],()) (itemsR x) (x.1,[],x.2.2.1,x.2.2.2.1,()):=by
 have h1:=run_rates (p:=x.2.2.1) x.2.2.2.1 [] h.2.2
 have h2:=run_accts h.2.2 x.1 [] h.1
 exact run_app h1 h2
theorem run_ok:∀ {l:List Ln} {a y:DLedger},Run a l y→∀ i∈l,LnOk i
 | _ :: _,_,_,⟨_,h2,_,_,h4⟩,i,hi=>by
  rcases List.mem_cons.1 hi with rfl | hi
  ·exact h2
  ·exact run_ok h4 i hi
theorem itm_ok {x:DLedger} (h:LedgerOkP x):∀ i∈itemsR x,LnOk i:=run_ok (run_all h)
theorem mem_r {x:DLedger} {k:Nat} (hk:k<x.2.2.2.1.length):Ln.r x.2.2.2.1[k]∈itemsR x:=List.mem_append_left _ (List.mem_map_of_mem (List.getElem_mem hk))
theorem mem_a {x:DLedger} {k:Nat} (hk:k<x.1.length) {i:Ln} (hi:i∈acI x.1[k]):i∈itemsR x:=List.mem_append_right _ (List.mem_flatMap.2 ⟨_,List.getElem_mem hk,hi⟩)
theorem acI_len (a:DAcct):(acI a).length≤2:=by
 unfold acI
 split <;> simp
theorem flat_lenR:∀ l:List DAcct,(l.flatMap acI).length≤2*l.length
 | []=>by simp
 | a :: l=>by
  have h1:=acI_len a
  have h2:=flat_lenR l
  rw [List.flatMap_cons,List.length_append,List.length_cons]
  omega
theorem itm_len {x:DLedger} (h:LedgerOkP x):(itemsR x).length≤36:=by
 have h1:=h.1.1
 have h2:=h.2.2.2.1
 have h3:=flat_lenR x.1
 unfold itemsR
 rw [List.length_append,List.length_map]
 omega
end Go.Proofs.YtpdfdkccgkieoaaGreatDoor
