/-
  The walk of the law: a ledger is made anew by its own script, for all inputs.
-/
import Derived.Test.YtpdfdkccgkieoaaGreatDoorBkM
import Derived.Test.YtpdfdkccgkieoaaGreatDoorTotB
import Derived.Test.YtpdfdkccgkieoaaGreatDoorWr
import Derived.Test.YtpdfdkccgkieoaaGreatDoorPut
import Derived.Test.YtpdfdkccgkieoaaGreatDoorTxt
namespace Go.Proofs.YtpdfdkccgkieoaaGreatDoor
open Sx
set_option maxRecDepth 100000
theorem rd_partK {V:Know} {s:SlV} {l:List DAcct} {f:List Nat} (h:LR rAcct V s l f):∃ cs fps,(∀ y∈fps,y∈f)∧Els rAcct V cs l fps∧∀ (i m c':Nat) (C:Prop) [Decidable C],i+m≤l.length→(C→s.c=i)→c'≤s.c →
  (((m=0∧((if C then s.a else Option.map (fun x:Addr=>x.add (i*4)) s.a)=none→c'=0)∧((cs.drop i).take m).flatMap (Scs.vals AcSh)=[])∨∃ ad,(if C then s.a else Option.map (fun x:Addr=>x.add (i*4)) s.a)=some ad∧loadV V ad (m*4)=some (((cs.drop i).take m).flatMap (Scs.vals AcSh)))∧one (((cs.drop i).take m).flatMap (Scs.vals AcSh))=true):=by
 obtain⟨hn,hnc,h63,hd⟩:=h
 have h1:∀ cs:List (Scs AcSh),one (cs.flatMap (Scs.vals AcSh))=true:=fun cs=>List.all_eq_true.2 fun v hv=>flat_one cs v hv
 rcases hd with ⟨h0,ha,rfl⟩ | ⟨b,pre,post,t,fps,cs,ha,hb,he,rfl⟩
 ·have hl:l=[]:=List.eq_nil_of_length_eq_zero (by omega)
  subst hl
  refine⟨[],[],(fun _ h=>by cases h),rfl,fun i m c' C _ him hC hc=>⟨.inl ⟨by simpa using (by simp at him; omega:m=0),fun hx=>?_,by simp⟩,by simp [one]⟩⟩
  have hs:s.a=none:=by
   split at hx
   ·exact hx
   ·cases hsa:s.a with
    | none=>rfl
    | some a=>rw [hsa] at hx; cases hx
  have:=ha hs
  omega
 ·refine⟨cs,fps,fun y hy=>List.mem_cons_of_mem _ hy,he,fun i m c' C _ him hC hc=>⟨?_,h1 _⟩⟩
  have hcl:=he.len
  by_cases hm:m=0
  ·subst hm
   refine .inl ⟨rfl,fun hx=>?_,by simp⟩
   rw [ha] at hx
   split at hx <;> cases hx
  ·have hnC:¬ C:=fun k=>by have:=hC k; omega
   refine .inr ⟨_,by rw [if_neg hnC,ha]; rfl,?_⟩
   simp only [addr_add_eq,loadV,hb]
   exact cut_rows (by omega)
theorem cS_BookOpenK {V:Know} (hV:HcS V) (s:SlV) (l:List DAcct) (f:List Nat) (h:LR rAcct V s l f) (n c:ByteArray) (zn:n.size≤9223372036854775807) (zc:c.size≤9223372036854775807) :
  CallX Tryz.prog V 56 [qv4 (s,()),.string n,.string c] (fun V' v=>V.le V'∧∃ s f,v=.tuple #[qv4 (s,()),.bool (openB l n c).2]∧LR rAcct V' s (openB l n c).1 f∧∀ y∈f,V y=none):=by
 have no:∀ {V':Know},V.le V'→¬ ((BookOkP l∧fnd n l=none)∧BookOkP (openL l n c))→(V.le V'∧∃ s f,packed [qv4 (⟨none,0,0⟩,()),.bool false]=.tuple #[qv4 (s,()),.bool (openB l n c).2]∧LR rAcct V' s (openB l n c).1 f∧∀ y∈f,V y=none):=fun le k=>by
  rw [openB_no k]
  exact⟨le,⟨none,0,0⟩,[],rfl,lrNil,fun _ h=>by cases h⟩
 refine CallX.of_fits Tryz.mix (fS_BookOpen _ _ _) fun _=>?_
 simp only [tS_BookOpen,T.wp]
 refine(cS_BookOk hV s l f h).mono ?_
 rintro V1 _ ⟨le1,e1,rfl,he1⟩
 refine⟨nofun,e1,rfl,fun hf=>no le1 fun k=>?_,fun h1=>?_⟩
 ·rw [he1.2 k.1.1] at hf; cases hf
 have ok1:=he1.1 (by simpa using h1)
 refine(cS_AcctAt V1 s l f (h.le le1) n).mono ?_
 rintro V2 _ ⟨le2,rfl⟩
 have l2:=le1.trans le2
 refine⟨nofun,_,rfl,fun hge=>no l2 fun k=>?_,fun hlt=>?_⟩
 ·have hge':atN n l≥0:=of_decide_eq_true hge
  rw [atN_none k.1.2] at hge'
  omega
 have hlt':¬ atN n l≥0:=of_decide_eq_false hlt
 have hf:fnd n l=none:=at_neg.1 (by omega)
 refine(kS_l17Copy V2 (s,()) (l,()) _ (rSl.mk (h.le l2) rNil.mk) (by show l.length+totE rAcct l+0≤1048576; have:=book_tot ok1; omega)).mono ?_
 rintro V3 _ ⟨le3,⟨s4,su⟩,f4,rfl,⟨g4,g5,e4,L4,hN⟩,O4⟩
 replace L4:LR rAcct V3 s4 l g4:=L4
 have l3:=l2.trans le3
 have hn4:=L4.1
 have hnc:=L4.2.1
 have h12:=ok1.1
 obtain⟨cs,fps,hsub,he,rd⟩:=rd_partK L4
 have hcl:=he.len
 refine⟨nofun,(s4,()),rfl,?_⟩
 have hsz:Tryz.prog.types[(76:Nat)].size=4:=by kernel_rfl
 have fin:∀ {k:Nat},k≤l.length→posA n l=k→∀ b9 c9 sp,V3 b9=none→l.length+1≤c9 →
   CallX Tryz.prog (kset V3 b9 (((insL k (n,c,false,⟨none,0,0⟩,()) cs).flatMap (Scs.vals AcSh))++sp,(acT,(0,0)))) 96 [qv4 ((⟨some ⟨b9,0,none⟩,l.length+1,c9⟩:SlV),())] (fun V5 r=>∃ e,r=.bool e∧(e=true→openB l n c=(openL l n c,true)∧V.le V5∧∃ f',LR rAcct V5 ⟨some ⟨b9,0,none⟩,l.length+1,c9⟩ (openL l n c) f'∧∀ y∈f',V y=none)∧(e=false→V.le V5∧¬ ((BookOkP l∧fnd n l=none)∧BookOkP (openL l n c)))):=by
  intro k hk hpos b9 c9 sp hb9 hc9
  have q:=kset_le (x:=(((insL k (n,c,false,⟨none,0,0⟩,()) cs).flatMap (Scs.vals AcSh))++sp,((acT,(0,0)):KTy))) hb9
  obtain⟨fps',k1,hperm⟩:=els_ins (newA_R _ zn zc) (he.le q) hk
  have hfr:∀ y∈b9 :: fps',V y=none:=fun y hy=>by
   rcases List.mem_cons.1 hy with rfl | hy
   ·exact none_of_le l3 hb9
   ·have h4:=hsub y (by simpa using hperm.subset hy)
    exact none_of_le l2 (O4.2.1 y (by rw [e4]; exact List.mem_append_left _ h4))
  have hln:LR rAcct _ ⟨some ⟨b9,0,none⟩,l.length+1,c9⟩ (insL k (newA n c) l) (b9 :: fps'):=lr_new2 k1 kset_same (by rw [insL_len hk]) (by rw [insL_len hk]; omega) (by rw [insL_len hk]; omega)
  rw [hpos.symm] at hln
  have l5:=l3.trans q
  rw [← hpos]
  rw [← hpos] at q l5
  refine(cS_BookOk (hV.le l5) _ (openL l n c) _ hln).mono ?_
  rintro V5 _ ⟨le5,e,rfl,he5⟩
  exact⟨e,rfl,fun ht=>⟨openB_ok ⟨⟨ok1,hf⟩,he5.1 ht⟩,l5.trans le5,_,hln.le le5,hfr⟩,fun hfl=>⟨l5.trans le5,fun k=>by rw [he5.2 k.2] at hfl; cases hfl⟩⟩
 refine⟨fun y V'=>V'=V3∧∃ k:Nat,y.1=(k:Int)∧k≤l.length∧∀ (j:Nat) (hj:j<l.length),j<k→lessB n l[j]=true,fun y _=>((l.length:Int)-(y.1:Int)).toNat,⟨((0:Int),()),rfl,rfl,0,rfl,Nat.zero_le _,fun j _ h=>by omega⟩,?_⟩
 rintro⟨(i:Int),u⟩ V' ⟨rfl,k,hk,hkl,hall⟩
 replace hk:i=(k:Int):=hk
 subst hk
 have e0:(k:Int).toNat=k:=by omega
 have ec:(s4.c:Int).toNat=s4.c:=by omega
 have en4:(s4.n:Int).toNat=s4.n:=by omega
 have ez:Int.toNat (0:Int)=0:=rfl
 -- what follows the search
 have rest:posA n l=k→∀ Ns,(tailOpen n c s4 (k:Int)).wp Tryz.prog (fun V' vs=>V.le V'∧∃ s f,packed vs=.tuple #[qv4 (s,()),.bool (openB l n c).2]∧LR rAcct V' s (openB l n c).1 f∧∀ y∈f,V y=none) V' V' Ns:=by
  intro hpos Ns
  obtain⟨r1,o1⟩:=rd 0 k s4.c (s4.c=0) (by omega) (fun h=>h) (Nat.le_refl _)
  obtain⟨r2,o2⟩:=rd k (s4.n-k) (s4.c-k) (s4.c=k) (by omega) (fun h=>h) (by omega)
  simp only [Nat.zero_mul,List.drop_zero] at r1 o1
  have hnn:k+1+(s4.n-k)=l.length+1:=by omega
  have hrow:(cs.take k).flatMap (Scs.vals AcSh)++[Value.string n,.string c,.bool false,.slice none 0 0]++((cs.drop k).take (s4.n-k)).flatMap (Scs.vals AcSh)=(insL k (n,c,false,⟨none,0,0⟩,()) cs).flatMap (Scs.vals AcSh):=by
   rw [List.take_of_length_le (l:=cs.drop k) (by rw [List.length_drop]; omega)]
   simp only [insL,List.flatMap_append,List.flatMap_cons,List.append_assoc]
   rfl
  simp only [tailOpen,T.wp,Int.toNat_natCast,Int.toNat_zero,Nat.sub_zero,Nat.zero_add,Nat.zero_mul,hsz,List.nil_append]
  refine⟨⟨by omega,by omega,by omega,by omega⟩,_,r1,o1,⟨o1,by omega,by omega⟩,rfl,⟨rfl,by omega,by omega⟩,⟨by omega,by omega,by omega,by omega⟩,_,r2,o2,⟨o2,by omega,by omega⟩,?_⟩
  rw [hnn,hrow]
  intro b9 c9 sp hb9 hc9 _
  refine(fin hkl hpos b9 c9 sp hb9 hc9).mono ?_
  rintro V5 _ ⟨e,rfl,ht,hf'⟩
  refine⟨nofun,e,rfl,fun hfl=>?_,fun htl=>?_⟩
  ·obtain⟨l5,k5⟩:=hf' (by simpa using hfl)
   exact no l5 k5
  ·obtain⟨q1,l5,f',L5,hf5⟩:=ht (by simpa using htl)
   rw [q1]
   exact⟨l5,_,f',rfl,L5,hf5⟩
 refine⟨fun hlt=>?_,fun hge=>?_⟩
 ·have hi:k<l.length:=by
   have:(k:Int)<(s4.n:Int):=of_decide_eq_true hlt
   omega
  obtain⟨b1,o1,c1,fc,a1,l1,hR,_⟩:=L4.at hi
  have en:=acct_name hR
  dsimp only
  refine⟨_,a1,by omega,by omega,c1.1,?_,fun hless=>?_,fun hless=>?_⟩
  ·rw [e0]
   exact load_part l1 (o:=0) (n:=1) rfl
  ·refine⟨_,rfl,(((k+1:Nat):Int),()),by rw [nxt hi (by omega)]; rfl,⟨rfl,k+1,rfl,hi,fun j hj h2=>?_⟩,?_⟩
   ·by_cases e:j=k
    ·subst e
     unfold lessB
     rw [← en]; exact hless
    ·exact hall j hj (by omega)
   ·show((l.length:Int)-((k+1:Nat):Int)).toNat<((l.length:Int)-(k:Int)).toNat
    omega
  ·have h9:=rest (posA_eq hkl hall fun _=>by
    unfold lessB
    rw [← en]; exact hless) []
   simp only [tailOpen,T.wp] at h9
   exact h9
 ·have hi:k=l.length:=by
   have:¬ (k:Int)<(s4.n:Int):=of_decide_eq_false hge
   omega
  have h9:=rest (posA_eq hkl hall fun h=>absurd h (by omega)) []
  simp only [tailOpen,T.wp] at h9
  exact h9
section
variable {sh:List Sc} {α:Type}
def GV (r:Rp sh α) (t:TypeId) (V0 V:Know) (s:SlV) (cs:List (Scs sh)) (l:List α) (fps:List Nat):Prop :=
 s.n=l.length∧s.n≤s.c∧V0.le V∧Els r V0 cs l fps∧∃ b post,s.a=some ⟨b,0,none⟩∧V0 b=none∧V b=some (cs.flatMap (Scs.vals sh)++post,(t,(0,0)))∧post.length=(s.c-s.n)*sh.length
theorem GV.start {r:Rp sh α} {t:TypeId} {V:Know} {b cap:Nat} {spare:List Value} (hb:V b=none) (hs:spare.length=cap*sh.length) :
  GV r t V (kset V b ([]++spare,(t,(0,0)))) ⟨some ⟨b,0,none⟩,0,cap⟩ [] [] [] :=
 ⟨rfl,Nat.zero_le _,kset_le hb,rfl,b,spare,rfl,hb,by rw [kset_same]; rfl,by simpa using hs⟩
theorem GV.lr {r:Rp sh α} {t:TypeId} {V0 V:Know} {s:SlV} {cs:List (Scs sh)} {l:List α} {fps:List Nat} (h:GV r t V0 V s cs l fps) (hl:l.length≤9223372036854775807):∃ b,V0 b=none∧(∃ c u,V b=some (c,(u,(0,0))))∧LR r V s l (b :: fps):=by
 obtain⟨h1,h2,h3,h4,b,post,ha,hb,hv,hp⟩:=h
 exact⟨b,hb,⟨_,_,hv⟩,h1,h2,by omega,.inr ⟨b,[],post,_,fps,cs,ha,hv,h4.le h3,rfl⟩⟩
theorem ap_rowV {P:Program} {r:Rp sh α} {t:TypeId} {V0 V Vd:Know} {s:SlV} {cs:List (Scs sh)} {l:List α} {fps fx:List Nat} {c:Scs sh} {x:α} {bytes:Nat} {k:SlV→T} {K:Know→List Value→Prop} {Ns:List (List LV→Know→Prop)}
  (h:GV r t V0 V s cs l fps) (hx:r.R V0 c x fx) (hP:P.cellsOf t=sh.length) (hb:(l.length+1)*bytes≤140737488355328) (hl:l.length+1≤9223372036854775807)
  (hk:∀ s' V',GV r t V0 V' s' (cs++[c]) (l++[x]) (fps++fx)→(k s').wp P K V' Vd Ns) :
  (T.ap s sh.length bytes (Scs.vals sh c) 1 t k).wp P K V Vd Ns:=by
 obtain⟨h1,h2,h3,he,b,post,ha,hb0,hbk,hp⟩:=h
 have hcl:cs.length=l.length:=he.len
 have hfl:(cs.flatMap (Scs.vals sh)).length=s.n*sh.length:=by rw [flat_len,hcl,h1]
 have hE:=he.snoc hx
 simp only [T.wp]
 refine⟨h2,(fun hn=>by rw [ha] at hn; cases hn),fun h=>absurd h (by decide),fun _ hroom=>?_,fun _ hroom=>⟨by rw [h1]; exact hb,by rw [h1]; exact hl,?_⟩⟩
 ·have hpl:sh.length≤post.length:=by
   rw [hp]; exact Nat.le_mul_of_pos_left _ (by omega)
  have hset:setl (cs.flatMap (Scs.vals sh)++post) (s.n*sh.length) (Scs.vals sh c)=(cs++[c]).flatMap (Scs.vals sh)++post.drop sh.length:=by
   rw [setl_mid hfl.symm (by rw [vals_len]; exact hpl),vals_len]
   simp
  refine⟨b,_,ha,hbk,?_,?_⟩
  ·rw [List.length_append,hfl,hp,← Nat.add_mul]
   exact Nat.mul_le_mul_right _ (by omega)
  ·rw [hset]
   refine hk _ _ ⟨by simp [h1],by show s.n+1≤s.c; omega,kset_le2 h3 hb0,hE,b,post.drop sh.length,ha,hb0,kset_same,?_⟩
   rw [List.length_drop,hp,← Nat.sub_one_mul]
   congr 1
 ·have hnt:∀ cs:List (Scs sh),noTup (cs.flatMap (Scs.vals sh))=true:=fun cs=>by
   induction cs with
   | nil=>rfl
   | cons c cs ih =>
    have hv:=vals_noTup sh c
    unfold noTup at ih hv ⊢
    rw [List.flatMap_cons,List.all_append,hv,ih]; rfl
  refine⟨_,.inr ⟨⟨b,0,none⟩,ha,?_⟩,hnt cs,fun b' cap spare hbn hcap hsp=>?_⟩
  ·simp only [loadV,hbk]
   rw [← hfl]; exact cutv_head
  ·refine hk _ _ ⟨by simp [h1],hcap,h3.trans (kset_le hbn),hE,b',spare,rfl,none_of_le h3 hbn,?_,by rw [hsp,hP]⟩
   rw [kset_same]; simp
end
theorem GV.le {sh:List Sc} {α:Type} {r:Rp sh α} {t:TypeId} {V0 V V':Know} {s:SlV} {cs:List (Scs sh)} {l:List α} {fps:List Nat} (h:GV r t V0 V s cs l fps) (le:V.le V'):GV r t V0 V' s cs l fps:=by
 obtain⟨h1,h2,h3,h4,b,post,ha,hb,hv,hp⟩:=h
 exact⟨h1,h2,h3.trans le,h4,b,post,ha,hb,le _ _ hv,hp⟩
theorem restOf_at {c:ByteArray}:∀ {l:List DRest},restOf l c=atR l c
 | []=>rfl
 | r :: l=>by
  unfold restOf atR
  by_cases e:r.1=c
  ·rw [if_pos e,List.find?_cons_of_pos (by simp [keyB,e])]; rfl
  ·rw [if_neg e,List.find?_cons_of_neg (by simp [keyB,e]),restOf_at]; rfl
def KeepQ (l:List DRest) (c:ByteArray) (r:DRat) (l':List DRest) (e:Bool):Prop :=
 (e=true∧∃ y,AddRP (atR l c) r (y,true)∧l'=addR c y l)∨(e=false∧l'=[]∧∃ y,AddRP (atR l c) r (y,false))
abbrev ReSh:List Sc:=[.s,.b,.l,.l]
abbrev reT:TypeId:=105
theorem fr_app {V:Know} {a b:List Nat} (h:∀ y∈a,V y=none) (k:∀ y∈b,V y=none):∀ y∈a++b,V y=none:=fun y hy=>(List.mem_append.1 hy).elim (h y) (k y)
abbrev RaF (V:Know) (l:List DRest) (c:ByteArray) (r:DRat):Know→Value→Prop:=fun V' v=>V.le V'∧∃ t l' f e,v=.tuple #[Sc.val .l t,.bool e]∧LR rRest V' t l' f∧(∀ y∈f,V y=none)∧KeepQ l c r l' e
theorem cS_RestAdd {V:Know} (hV:HcS V) (s:SlV) (l:List DRest) (f:List Nat) (h:LR rRest V s l f) (hl:RestsOkP l) (c:ByteArray) (kc:known c=true) (d:Scs [.b,.l,.l]) (r:DRat) (g:List Nat) (hr:rRat.R V d r g) (ok:RatP r) :
  CallX Tryz.prog V 29 [Sc.val .l s,.string c,qv5 d] (RaF V l c r):=by
 refine CallX.of_fits Tryz.mix (fS_RestAdd _ _ _) fun _=>?_
 have h20:=rests_len hl
 simp only [tS_RestAdd,ap_d,T.wp]
 refine(cS_RestOf V s l f h (rests_rat hl) c).mono ?_
 rintro V1 _ ⟨le1,c1,f1,rfl,R1⟩
 rw [restOf_at] at R1
 refine⟨fun _=>le1,c1,rfl,?_⟩
 obtain⟨s1,s1',g1,g1',rfl,A1,B1,_⟩:=rat_elim R1
 obtain⟨s2,s2',g2,g2',rfl,A2,B2,_⟩:=rat_elim hr
 refine(cS_RatAdd V1 _ s1 s1' _ s2 s2' _ _ _ _ _ _ _ _ A1 B1 (A2.le le1) (B2.le le1) (atR_ok hl c) ok).mono ?_
 rintro V2 _ ⟨le2,c2,y,e,f2,rfl,R2,O2,hy⟩
 have l2:=le1.trans le2
 refine⟨nofun,(c2,e,()),rfl,(cS_RestsOk (hV.le l2) s l f (h.le l2)).mono ?_⟩
 rintro V3 _ ⟨le3,e3,rfl,he3⟩
 obtain rfl:e3=true:=he3.2 hl
 have l3:=l2.trans le3
 refine⟨nofun,true,rfl,nofun,fun _=>(kS_CurKnown (hV.le l3) c).mono ?_⟩
 rintro V4 _ ⟨le4,rfl⟩
 have l4:=l3.trans le4
 refine⟨nofun,_,rfl,fun hf=>?_,fun _=>⟨fun hf=>?_,fun ht=>?_⟩⟩
 ·rw [kc] at hf; cases hf
 ·obtain rfl:e=false:=by simpa using hf
  exact⟨l4,⟨none,0,0⟩,[],[],false,rfl,lrNil,(fun _ h=>by cases h),.inr ⟨rfl,rfl,y,hy⟩⟩
 obtain rfl:e=true:=by simpa using ht
 have yok:=redS_ok (Int.mul_pos (ratP_pos (atR_ok hl c)) (ratP_pos ok)) hy rfl
 refine(kS_l19Copy V4 s l f (h.le l4) (by have:=rests_tot hl; omega)).mono ?_
 rintro V5 _ ⟨le5,s5,f5,rfl,L5,O5⟩
 have l5:=l4.trans le5
 have R5:=rRat.le R2 ((le3.trans le4).trans le5)
 have n5:=L5.1
 have fr2:∀ y∈f2,V y=none:=fun y hy=>none_of_le le1 (O2.2.1 y hy)
 have fr5:∀ y∈f5,V y=none:=fun y hy=>none_of_le l4 (O5.2.1 y hy)
 have rowC:rRest.R V5 ((c,c2):Scs ReSh) (c,y) f2:=⟨⟨rfl,known_len kc⟩,R5⟩
 obtain⟨sy,sy',gy,gy',rfl,Ay,By,_⟩:=rat_elim R5
 refine⟨nofun,s5,rfl,fun b6 c6 sp hb6 _ hsp=>?_⟩
 refine⟨fun z V'=>∃ (k:Nat) (cs:List (Scs ReSh)) (out:List DRest) (fps:List Nat),z.2.2.1=(k:Int)∧k≤l.length∧GV rRest reT V5 V' z.1 cs out fps∧(∀ y∈fps,V y=none)∧out.length≤2*k∧endR c y out z.2.1 (l.drop k)=addR c y l,fun z _=>((l.length:Int)-(z.2.2.1:Int)).toNat,
  ⟨(⟨some ⟨b6,0,none⟩,0,c6⟩,false,(0:Int),()),rfl,0,[],[],[],rfl,Nat.zero_le _,GV.start hb6 (by rw [hsp]; rfl),(fun _ h=>by cases h),Nat.zero_le _,by rw [List.drop_zero,endR_eq (up_rests hl)]; rfl⟩,?_⟩
 rintro⟨s7,(dn:Bool),(i:Int),u⟩ V6 ⟨k,cs,out,fps,hk,hkl,G,hfr,ho,hE⟩
 replace hk:i=(k:Int):=hk
 subst hk
 replace G:GV rRest reT V5 V6 s7 cs out fps:=G
 replace hE:endR c y out dn (l.drop k)=addR c y l:=hE
 have le6:=G.2.2.1
 have sgC:∀ V',V5.le V'→CallX Tryz.prog V' 67 [qv5 (y.1,sy,sy',())] (fun V'' v=>V'.le V''∧v=.int .i64 (sgn (rS y))):=fun V' le'=>cS_RatSign V' _ sy sy' _ _ _ _ (Ay.le le') (By.le le') yok
 refine⟨fun hlt=>?_,fun hge=>?_⟩
 ·have hi:k<l.length:=by
   have:(k:Int)<(s5.n:Int):=of_decide_eq_true hlt
   omega
  obtain⟨b1,o1,c1,fc,a1,l1,hR,hfc⟩:=L5.at hi
  have e0:(k:Int).toNat=k:=by omega
  have ename:c1.1=l[k].1:=hR.1.1
  rw [List.drop_eq_getElem_cons hi] at hE
  have hm:((l.length:Int)-((k+1:Nat):Int)).toNat<((l.length:Int)-(k:Int)).toNat:=by omega
  dsimp only
  rw [e0]
  refine⟨_,a1,by omega,by omega,c1,loadV_le le6 l1,fun he=>?_,fun he=>?_⟩
  ·have ec:l[k].1=c:=ename.symm.trans (text_eq.1 he)
   rw [endR,if_pos ec] at hE
   exact⟨_,rfl,(s7,dn,((k+1:Nat):Int),()),by rw [nxt hi (by omega)]; rfl,⟨k+1,cs,out,fps,rfl,hi,G,hfr,by omega,hE⟩,hm⟩
  have nc:l[k].1≠c:=fun e=>by
   have:=text_eq.2 (ename.trans e)
   rw [this] at he; cases he
  rw [endR,if_neg nc] at hE
  refine⟨fun z V'=>∃ cs out fps,GV rRest reT V5 V' z.1 cs out fps∧(∀ y∈fps,V y=none)∧out.length≤2*k+1∧endR c y (out++[l[k]]) z.2.1 (l.drop (k+1))=addR c y l,?_,?_⟩
  ·have stay:∀ V',V6.le V'→(!dn && lesB c l[k].1 && !zeroQ y)≠true→∃ z:LShs [.o (.o .l),.o (.o .b)],[LV.v (Sc.val .l s7),.v (.bool dn)]=LShs.lvs _ z∧∃ cs out fps,GV rRest reT V5 V' z.1 cs out fps∧(∀ y∈fps,V y=none)∧out.length≤2*k+1∧endR c y (out++[l[k]]) z.2.1 (l.drop (k+1))=addR c y l:=fun V' le' hn=>by
    rw [if_neg hn] at hE
    exact⟨(s7,dn,()),rfl,cs,out,fps,G.le le',hfr,by omega,hE⟩
   refine⟨fun hd=>⟨fun hb=>(sgC V6 le6).mono ?_,fun hb=>⟨_,rfl,stay V6 (Know.le.refl _) fun k2=>?_⟩⟩,fun hd=>⟨_,rfl,stay V6 (Know.le.refl _) fun k2=>?_⟩⟩
   ·rintro V7 _ ⟨le7,rfl⟩
    refine⟨nofun,_,rfl,fun hz=>?_,fun hz=>⟨_,rfl,stay V7 le7 fun k2=>?_⟩⟩
    ·have hd':dn=false:=by simpa using hd
     have hb':lesB c l[k].1=true:=by
      rw [ename] at hb
      have h2:lesB l[k].1 c=false∧(l[k].1.toList == c.toList)=false:=by simpa [lesB] using hb
      exact LessP.tot (fun q=>by rw [show lesB l[k].1 c=true from q] at h2; cases h2.1) fun q=>by rw [text_eq.2 q] at h2; cases h2.2
     have hz':zeroQ y=false:=by simpa [zeroQ,bne] using hz
     subst hd'
     rw [if_pos (by rw [hb',hz']; rfl)] at hE
     refine⟨rfl,rfl,ap_rowV (sh:=ReSh) (c:=(c,(y.1,sy,sy',()))) (G.le le7) rowC (by kernel_rfl) (by omega) (by omega) fun s9 V9 G9=>⟨_,rfl,(s9,true,()),rfl,_,_,_,G9,fr_app hfr fr2,by rw [List.length_append,List.length_singleton]; omega,hE⟩⟩
    ·have hz':zeroQ y=true:=by simpa [zeroQ,bne] using hz
     rw [hz'] at k2; simp at k2
   ·rw [ename] at hb
    have k3:lesB c l[k].1=true:=by
     simp only [Bool.and_eq_true] at k2
     exact k2.1.2
    have h2:lesB l[k].1 c=false:=les_no k3
    have h3:(l[k].1.toList == c.toList)=false:=text_ne.2 nc
    rw [show Op.bytesLess l[k].1.toList c.toList=false from h2,h3] at hb
    cases hb
   ·have hd':dn=true:=by simpa using hd
    rw [hd'] at k2; simp at k2
  ·rintro⟨s8,(d8:Bool),u⟩ V7 ⟨cs8,out8,fps8,G8,hfr8,ho8,hE8⟩
   refine⟨rfl,rfl,ap_rowV (sh:=ReSh) (c:=c1) G8 hR (by kernel_rfl) (by omega) (by omega) fun s9 V9 G9=>?_⟩
   exact⟨_,rfl,(s9,d8,((k+1:Nat):Int),()),by rw [nxt hi (by omega)]; rfl,⟨k+1,_,_,_,rfl,hi,G9,fr_app hfr8 (fun y hy=>fr5 y (hfc y hy)),by rw [List.length_append,List.length_singleton]; omega,hE8⟩,hm⟩
 ·have hi:k=l.length:=by
   have:¬ (k:Int)<(s5.n:Int):=of_decide_eq_false hge
   omega
  subst hi
  rw [List.drop_length,endR] at hE
  refine⟨fun z V'=>∃ cs fps,GV rRest reT V5 V' z.1 cs (addR c y l) fps∧∀ y∈fps,V y=none,?_,?_⟩
  ·have stay:∀ V',V6.le V'→(!dn && !zeroQ y)≠true→∃ z:LShs [.o (.o .l)],[LV.v (Sc.val .l s7)]=LShs.lvs _ z∧∃ cs fps,GV rRest reT V5 V' z.1 cs (addR c y l) fps∧∀ y∈fps,V y=none:=fun V' le' hn=>by
    rw [if_neg hn] at hE
    subst hE
    exact⟨(s7,()),rfl,cs,fps,G.le le',hfr⟩
   refine⟨fun hd=>(sgC V6 le6).mono ?_,fun hd=>⟨_,rfl,stay V6 (Know.le.refl _) fun k2=>?_⟩⟩
   ·rintro V7 _ ⟨le7,rfl⟩
    refine⟨nofun,_,rfl,fun hz=>?_,fun hz=>⟨_,rfl,stay V7 le7 fun k2=>?_⟩⟩
    ·have hd':dn=false:=by simpa using hd
     have hz':zeroQ y=false:=by simpa [zeroQ,bne] using hz
     subst hd'
     rw [if_pos (by rw [hz']; rfl)] at hE
     rw [← hE]
     exact⟨rfl,rfl,ap_rowV (sh:=ReSh) (c:=(c,(y.1,sy,sy',()))) (G.le le7) rowC (by kernel_rfl) (by omega) (by omega) fun s9 V9 G9=>⟨_,rfl,(s9,()),rfl,_,_,G9,fr_app hfr fr2⟩⟩
    ·have hz':zeroQ y=true:=by simpa [zeroQ,bne] using hz
     rw [hz'] at k2; simp at k2
   ·have hd':dn=true:=by simpa using hd
    rw [hd'] at k2; simp at k2
  ·rintro⟨s8,u⟩ V7 ⟨cs8,fps8,G8,hfr8⟩
   have hlen:(addR c y l).length≤9223372036854775807:=by
    have:=rests_len (addR_ok (y:=y) hl kc yok)
    omega
   obtain⟨b,hb0,_,hL⟩:=GV.lr G8 hlen
   exact⟨l5.trans G8.2.2.1,s8,_,_,true,rfl,hL,(fun y hy=>by
    rcases List.mem_cons.1 hy with rfl | hy
    ·exact none_of_le l5 hb0
    ·exact hfr8 y hy),.inl ⟨rfl,y,hy,rfl⟩⟩
end Go.Proofs.YtpdfdkccgkieoaaGreatDoor
namespace Go.Proofs.YtpdfdkccgkieoaaGreatDoor
open Sx
set_option maxRecDepth 100000
abbrev RatD (V0:Know) (b:Nat) (s:SlV) (V:Know):Know→Value→Prop:=fun V' r=>Dx V0 b s V V'∧∃ c x g,r=qv5 c∧rRat.R V' c x g∧(∀ y∈g,y≠b)∧RatOkP x.1 x.2.1 x.2.2.1
theorem mask_none {b:Nat} {V:Know}:mask b V b=none:=by unfold mask; rw [if_pos rfl]
theorem mask_else {b k:Nat} {V:Know} (h:k≠b):mask b V k=V k:=by unfold mask; rw [if_neg h]
theorem cS_l05Draw {V0 V:Know} {b:Nat} {s:SlV} (hc:Cx V0 b s V):CallX Tryz.prog V 31 [.pointer (some ⟨b,0,none⟩),.int .i64 1] (RatD V0 b s V):=by
 refine CallX.of_fits Tryz.mix (fS_l05Draw _ _) fun _=>?_
 simp only [tS_l05Draw,ap_d,T.wp]
 refine(cS_l04Draw hc 1 (by decide) (by decide)).mono ?_
 rintro V1 _ ⟨d1,e,t,o,g,rfl,L1,hg,ok1,n1⟩
 refine⟨nofun,(e,t,()),rfl,(cS_l01Below d1.1 12).mono ?_⟩
 rintro V2 _ ⟨d2,x,rfl,x0,x1,_⟩
 have hx:=x1 (by omega)
 refine⟨nofun,x,rfl,?_⟩
 rw [wrap_i64 (n:=1+x) (by omega)]
 refine(cS_NatOf V2 (1+x) ⟨by omega,by omega⟩).mono ?_
 rintro V3 _ ⟨le3,s3,o3,f3,rfl,L3,O3,C3,v3,n3⟩
 refine⟨nofun,s3,rfl,(cS_l01Once (d2.1.le le3) 3).mono ?_⟩
 rintro V4 _ ⟨d4,e4,rfl⟩
 have d14:=(d2.trans (d2.1.dx le3)).trans d4
 have d04:=d1.trans d14
 have fb:∀ {g:List Nat},(∀ y∈g,y≠b)→∀ y∈g,y ∉ [b]:=fun h y hy=>by simpa using h y hy
 -- what follows once the divisor is there
 have fin:∀ {V5:Know} (u:SlV) (d:List Lim) (f5:List Nat),Dx V0 b s V V5→Dx V0 b s V1 V5→LR rI V5 u d f5→Can d→0<valN d→d.length≤50 →
   CallX Tryz.prog V5 71 [qv1 (e,t,()),qv1 (false,u,())] (fun V6 r=>V5.le V6∧Dx V0 b s V V6∧∃ c x ok g,r=.tuple #[qv5 c,.bool ok]∧rRat.R V6 c x g∧(∀ y∈g,y≠b)∧(ok=true→RatOkP x.1 x.2.1 x.2.2.1)):=by
  intro V5 u d f5 d5 d15 L5 C5 p5 n5
  refine(cS_RatMakeP V5 e t u o d g f5 (L1.but (fb hg) d15.2) L5 ok1 C5 p5 n5).mono ?_
  rintro V6 _ ⟨le6,c6,x6,ok6,g6,rfl,R6,O6,hx6⟩
  exact⟨le6,d5.trans (d5.1.dx le6),c6,x6,ok6,g6,rfl,R6,fun y hy=>by simpa using own_off d5.1 O6 y hy,fun h=>redS_ok p5 hx6 h⟩
 have zero:∀ {V6:Know},Dx V0 b s V V6→CallX Tryz.prog V6 72 [] (fun V' r=>(false=true→V6.le V')∧∃ y,r=Sh.val (.v (.g [.b,.l,.l])) y∧RatD V0 b s V V' (packed [qv5 y])):=by
  intro V6 d6
  refine(cS_RatZero V6).mono ?_
  rintro V7 _ ⟨le7,c,g7,rfl,R7,h7⟩
  exact⟨nofun,c,rfl,d6.trans (d6.1.dx le7),c,nought,g7,rfl,R7,fun y hy=>d6.1.some (h7 y hy),nought_ok⟩
 refine⟨nofun,e4,rfl,fun _=>?_,fun _=>?_⟩
 ·rw [show IntKind.i64.wrap ((1:Int)-1)=0 from by decide]
  refine(cS_l02Nat d4.1 0 (by decide) (by decide)).mono ?_
  rintro V5 _ ⟨d5,b3,cap,cs,o5,rfl,hb3,hcs,L5,hne,hV4,C5,n5⟩
  have ho5:o5=[]:=List.eq_nil_of_length_eq_zero (by omega)
  subst ho5
  refine⟨nofun,_,rfl,(cS_l01Below d5.1 999).mono ?_⟩
  rintro V6 _ ⟨d6,w,rfl,w0,w1,_⟩
  have hw:=w1 (by omega)
  refine⟨nofun,w,rfl,rfl,rfl,?_⟩
  rw [wrap_i64 (n:=1+w) (by omega)]
  have hb6:V6 b3=some (cs,(3,(0,0))):=d6.2 _ _ (by simpa using hne) hb3
  have G:GR rI 3 V6 ⟨some ⟨b3,0,none⟩,0,cap⟩ [] [b3]:=⟨rfl,Nat.zero_le _,.inr ⟨b3,[],[],cs,rfl,hb6,by rw [hcs]; show cap=(cap-0)*1; omega,rfl,rfl⟩⟩
  have hO:Own (mask b3 V6) V6 ([b3]++[]):=⟨by simp,fun y hy=>by
   obtain rfl:y=b3:=by simpa using hy
   exact mask_none,fun y hy=>by
   obtain rfl:y=b3:=by simpa using hy
   exact⟨_,_,hb6⟩⟩
  refine ap_row (sh:=[.i .i64]) (c:=((1+w,()):Lim)) (x:=(1+w,())) G ⟨rfl,rfl⟩ hO (mask_le _ _) (by kernel_rfl) (by show(0+1)*8≤_; omega) (by show 0+1≤_; omega) fun s7 V7 f7 G7 O7 le7=>?_
  have cx7:Cx V0 b s V7:=by
   obtain⟨h1,h2,⟨i,k,hi,hb⟩,h3⟩:=d6.1
   refine⟨fun k x hk=>?_,h2,⟨i,k,hi,le7 _ _ (by rw [mask_else (Ne.symm hne)]; exact hb)⟩,h3⟩
   refine le7 _ _ ?_
   rw [mask_else]
   ·exact h1 k x hk
   ·rintro rfl
    have:=d04.1.1 _ x hk
    rw [hV4] at this; cases this
  have but7:∀ {W:Know},W b3=none→LeBut [b] W V6→LeBut [b] W V7:=fun hn h k x hk hx=>le7 _ _ (by
   rw [mask_else (fun e=>by rw [e,hn] at hx; cases hx)]
   exact h k x hk hx)
  have n1b:V1 b3=none:=by
   cases hv:V1 b3 with
   | none=>rfl
   | some y =>
    have:=d14.2 b3 y (by simpa using hne) hv
    rw [hV4] at this; cases this
  have n0b:V b3=none:=by
   cases hv:V b3 with
   | none=>rfl
   | some y =>
    have:=d1.2 b3 y (by simpa using hne) hv
    rw [n1b] at this; cases this
  have d7:Dx V0 b s V V7:=⟨cx7,but7 n0b ((d04.trans d5).trans d6).2⟩
  have d17:Dx V0 b s V1 V7:=⟨cx7,but7 n1b ((d14.trans d5).trans d6).2⟩
  have C7:Can [((1+w,()):Lim)]:=⟨lims_one (by omega),.inr (by show limb [((1+w,()):Lim)] 0≠0; show 1+w≠0; omega)⟩
  refine(fin s7 _ f7 d7 d17 (G7.lr (by simp)) C7 ((can_pos C7).1 (by simp)) (by simp)).mono ?_
  rintro V8 _ ⟨le8,d8,c8,x8,ok8,g8,rfl,R8,hg8,h8⟩
  refine⟨nofun,(c8,ok8,()),rfl,fun _=>zero d8,fun hf=>⟨d8,c8,x8,g8,rfl,R8,hg8,h8 (by simpa using hf)⟩⟩
 ·have L4:=(L3.le (Know.le.refl _)).but (fun y hy=>by simpa using own_off d2.1 O3 y hy) d4.2
  have p3:0<valN o3:=by omega
  refine(fin s3 o3 f3 d04 d14 L4 C3 p3 (by omega)).mono ?_
  rintro V8 _ ⟨le8,d8,c8,x8,ok8,g8,rfl,R8,hg8,h8⟩
  refine⟨nofun,(c8,ok8,()),rfl,fun _=>zero d8,fun hf=>⟨d8,c8,x8,g8,rfl,R8,hg8,h8 (by simpa using hf)⟩⟩
abbrev codes4:List ByteArray:=[⟨#[67,72,70]⟩,⟨#[69,85,82]⟩,⟨#[85,83,68]⟩,⟨#[74,80,89]⟩]
theorem book_nil:BookOkP []:=⟨by decide,fun i hi=>absurd hi (by simp)⟩
theorem postB_valid {l:List DAcct} {n:ByteArray} {m:DMoney}:BookOkP (postB l n m).1:=by
 obtain⟨⟨y,ok⟩,hp⟩:∃ r,postB l n m=r:=⟨_,rfl⟩
 cases ok with
 | true=>rw [hp]; exact postB_ok hp
 | false =>
  have:(postB l n m).1=[]:=by
   by_cases hb:BookOkP l
   ·cases hf:fnd n l with
    | none=>rw [postB_none hf]
    | some i =>
     obtain⟨hi,_⟩:=fnd_at hf
     obtain⟨⟨z,ok⟩,ha⟩:∃ r,addM l[i].2 m=r:=⟨_,rfl⟩
     rw [postB_some hb hf hi ha] at hp ⊢
     have e2:=congrArg Prod.snd hp
     have:ok=false:=e2
     subst this
     rfl
   ·rw [postB_no hb]
  rw [this]; exact book_nil
theorem openB_valid {l:List DAcct} {n c:ByteArray} (h:(openB l n c).2=true):BookOkP (openB l n c).1:=by
 by_cases k:(BookOkP l∧fnd n l=none)∧BookOkP (openL l n c)
 ·rw [openB_ok k]; exact k.2
 ·rw [openB_no k] at h; cases h
abbrev names5:List ByteArray:=[⟨#[98,97,110,107]⟩,⟨#[98,111,120]⟩,⟨#[99,97,115,104]⟩,⟨#[102,101,101,115]⟩,⟨#[116,97,120]⟩]
theorem names5_at {i:Nat} (h:i<5):∃ n:ByteArray,cutv (names5.map Value.string) i 1=some [.string n]∧n.size≤9223372036854775807:=by
 match i,h with
 | 0,_=>exact⟨_,rfl,by decide⟩
 | 1,_=>exact⟨_,rfl,by decide⟩
 | 2,_=>exact⟨_,rfl,by decide⟩
 | 3,_=>exact⟨_,rfl,by decide⟩
 | 4,_=>exact⟨_,rfl,by decide⟩
abbrev BookD (V0:Know) (b:Nat) (s:SlV) (V:Know):Know→Value→Prop:=fun V' r=>Dx V0 b s V V'∧∃ t l f,r=qv4 (t,())∧LR rAcct V' t l f∧(∀ y∈f,y≠b)∧BookOkP l
theorem cS_l17Draw {V0 V:Know} {b:Nat} {s:SlV} (hc:Cx V0 b s V):CallX Tryz.prog V 26 [.pointer (some ⟨b,0,none⟩)] (BookD V0 b s V):=by
 refine CallX.of_fits Tryz.mix (fS_l17Draw _) fun _=>?_
 simp only [tS_l17Draw,T.wp]
 have fb:∀ {g:List Nat},(∀ y∈g,y≠b)→∀ y∈g,y ∉ [b]:=fun h y hy=>by simpa using h y hy
 have hS:∀ V:Know,HcS V:=fun _=>trivial
 refine⟨fun y V'=>∃ (k:Nat) (t:SlV) (l:List DAcct) (f:List Nat),(y.1:Int)=(k:Int)∧k≤5∧y.2.1=t∧Dx V0 b s V V'∧LR rAcct V' t l f∧(∀ z∈f,z≠b)∧BookOkP l,fun y _=>(5-(y.1:Int)).toNat,
  ⟨((0:Int),⟨none,0,0⟩,()),rfl,0,_,[],[],rfl,by omega,rfl,hc.dx (Know.le.refl _),lrNil,(fun _ h=>by cases h),book_nil⟩,?_⟩
 rintro⟨(i:Int),y1,yu⟩ V1 ⟨k,t,l,f,hi,hk5,e1,d1,L1,hf,ok⟩
 replace hi:i=(k:Int):=hi
 replace e1:y1=t:=e1
 subst hi e1
 refine⟨fun hlt=>?_,fun _=>⟨d1,y1,l,f,rfl,L1,hf,ok⟩⟩
 have hk:k<5:=by
  have:(k:Int)<((5:Nat):Int):=of_decide_eq_true hlt
  omega
 have hw:IntKind.i64.wrap ((k:Int)+1)=((k+1:Nat):Int):=by rw [wrap_i64 (by omega)]; omega
 have hm:(5-((k+1:Nat):Int)).toNat<(5-(k:Int)).toNat:=by omega
 obtain⟨nm,hnm,znm⟩:=names5_at hk
 refine⟨⟨(by omega:(0:Int)≤(k:Int)),(by omega:(k:Int)<((5:Nat):Int))⟩,nm,(by
  show cutv _ ((k:Int).toNat*1) 1=_
  rw [Int.toNat_natCast,Nat.mul_one]
  exact hnm),(cS_l01Once d1.1 4).mono ?_⟩
 rintro V2 _ ⟨d2,e2,rfl⟩
 have L2:=L1.but (fb hf) d2.2
 refine⟨nofun,e2,rfl,fun _=>?_,fun _=>⟨_,rfl,(((k+1:Nat):Int),y1,()),by rw [hw]; rfl,⟨k+1,y1,l,f,rfl,hk,rfl,d1.trans d2,L2,hf,ok⟩,hm⟩⟩
 intro b4 c4 sp hb4 hc4 _
 refine(cS_strLit d2.1 codes4 (by decide) (by decide) (by decide) hb4 hc4).mono ?_
 rintro V3 _ ⟨d3,cur,hcur,rfl⟩
 have hk4:∀ n∈codes4,known n=true:=by decide +kernel
 have kc:=hk4 cur hcur
 have L3:=L2.but (fb hf) d3.2
 refine⟨nofun,cur,rfl,(cS_BookOpenK (hS V3) y1 l f L3 nm cur znm (known_len kc)).mono ?_⟩
 rintro V4 _ ⟨le4,s4,f4,rfl,L4,fr4⟩
 have d04:=((d1.trans d2).trans d3).trans (d3.1.dx le4)
 have hf4:∀ z∈f4,z≠b:=fun z hz=>d3.1.some (fr4 z hz)
 refine⟨nofun,((s4,()),(openB l nm cur).2,()),rfl,fun hok=>?_,fun _=>⟨_,rfl,(((k+1:Nat):Int),y1,()),by rw [hw]; rfl,⟨k+1,y1,l,f,rfl,hk,rfl,d04,L3.le le4,hf,ok⟩,hm⟩⟩
 have okB:=openB_valid hok
 refine⟨mask b V4,mask_le b V4,(cS_l01Below d04.1 9000).mono ?_⟩
 rintro V5 _ ⟨d5,x,rfl,x0,x1,_⟩
 have hx:=x1 (by omega)
 refine⟨mask_but (Know.le.refl _) d5.2,x,rfl,?_⟩
 rw [wrap_i64 (n:=x-2000) (by omega)]
 refine(cS_IntOfN V5 (x-2000) (by omega) (by omega)).mono ?_
 rintro V6 _ ⟨le6,e6,s6,o6,f6,rfl,L6,O6,ok6,_,_⟩
 have L46:=(L4.but (fb hf4) d5.2).le le6
 have d06:=(d04.trans d5).trans (d5.1.dx le6)
 refine⟨fun _=>le6,(e6,s6,()),rfl,(cS_BookPost (hS V6) s4 (openB l nm cur).1 f4 L46 nm (cur,e6,s6,()) (cur,e6,o6,()) f6 (mon_mk (known_len kc) L6)).mono ?_⟩
 rintro V7 _ ⟨le7,s7,f7,rfl,L7,O7⟩
 exact⟨nofun,((s7,()),_,()),rfl,_,rfl,(((k+1:Nat):Int),s7,()),by rw [hw]; rfl,⟨k+1,s7,_,f7,rfl,hk,rfl,d06.trans (d06.1.dx le7),L7,fun z hz=>by simpa using own_off d06.1 O7 z hz,postB_valid⟩,hm⟩
theorem rests_nil:RestsOkP []:=fun i hi=>absurd hi (by simp)
theorem keepQ_ok {l:List DRest} {c:ByteArray} {r:DRat} {l':List DRest} {e:Bool} (h:KeepQ l c r l' e) (hl:RestsOkP l) (hc:known c=true) (hr:RatP r):RestsOkP l':=by
 rcases h with ⟨_,y,hy,rfl⟩ | ⟨_,rfl,_⟩
 ·exact addR_ok hl hc (redS_ok (Int.mul_pos (ratP_pos (atR_ok hl c)) (ratP_pos hr)) hy rfl)
 ·exact rests_nil
abbrev LedD (V0:Know) (b:Nat) (s:SlV) (V:Know):Know→Value→Prop:=fun V' r=>Dx V0 b s V V'∧∃ c x f,r=qv0 c∧rLedger.R V' c x f∧(∀ y∈f,y≠b)∧LedgerOkP x∧TabS x.2.2.2.1
theorem ledger_mkK {V:Know} {s0 s1 s3:SlV} {l0:List DAcct} {l1:List DRest} {p:ByteArray} {l3:List DRate} {f0 f1 f3:List Nat} (z:p.size≤9223372036854775807) (h0:LR rAcct V s0 l0 f0) (h1:LR rRest V s1 l1 f1) (h3:LR rRate V s3 l3 f3):rLedger.R V (s0,s1,p,s3,()) (l0,l1,p,l3,()) (f0++(f1++(f3++[]))) :=
 rSl.mk h0 (rSl.mk h1 (rStr.mk z (rSl.mk h3 rNil.mk)))
theorem cS_l20Draw {V0 V:Know} {b:Nat} {s:SlV} (hc:Cx V0 b s V):CallX Tryz.prog V 11 [.pointer (some ⟨b,0,none⟩)] (LedD V0 b s V):=by
 refine CallX.of_fits Tryz.mix (fS_l20Draw _) fun _=>?_
 simp only [tS_l20Draw,T.wp]
 have fb:∀ {g:List Nat},(∀ y∈g,y≠b)→∀ y∈g,y ∉ [b]:=fun h y hy=>by simpa using h y hy
 have hS:∀ V:Know,HcS V:=fun _=>trivial
 refine(cS_l17Draw hc).mono ?_
 rintro V1 _ ⟨d1,t1,l1,f1,rfl,L1,hf1,ok1⟩
 refine⟨nofun,(t1,()),rfl,(cS_l10Table d1.1).mono ?_⟩
 rintro V2 _ ⟨d2,c2,p,l2,f2,rfl,R2,hf2,ok2,td⟩
 obtain⟨t2,rfl,L2⟩:=rates_el R2
 refine⟨nofun,_,rfl,(cS_l01Below d2.1 3).mono ?_⟩
 rintro V3 _ ⟨d3,x,rfl,x0,x1,_⟩
 have hx:=x1 (by omega)
 refine⟨nofun,x,rfl,?_⟩
 have L13:=(L1.but (fb hf1) d2.2).but (fb hf1) d3.2
 have L23:=L2.but (fb hf2) d3.2
 refine⟨fun y V'=>∃ (k:Nat) (t:SlV) (l:List DRest) (f:List Nat),(y.1:Int)=(k:Int)∧k≤3∧y.2.1=t1∧y.2.2.1=t∧y.2.2.2.1=p∧y.2.2.2.2.1=t2∧Dx V0 b s V V'∧LR rAcct V' t1 l1 f1∧LR rRate V' t2 l2 f2∧LR rRest V' t l f∧(∀ z∈f,z≠b)∧RestsOkP l,fun y _=>(y.1:Int).toNat,
  ⟨(x,t1,⟨none,0,0⟩,p,t2,()),rfl,x.toNat,_,[],[],(by show x=_; omega),by omega,rfl,rfl,rfl,rfl,(d1.trans d2).trans d3,L13,L23,lrNil,(fun _ h=>by cases h),rests_nil⟩,?_⟩
 rintro⟨(i:Int),y1,y2,y3,y4,yu⟩ V4 ⟨k,t,l,f,hi,hk3,e1,e2,e3,e4,d4,M1,M2,L,hf,ok⟩
 replace hi:i=(k:Int):=hi
 replace e1:y1=t1:=e1
 replace e2:y2=t:=e2
 replace e3:y3=p:=e3
 replace e4:y4=t2:=e4
 subst hi e1 e2 e3 e4
 refine⟨fun hgt=>?_,fun _=>⟨d4,(y1,y2,y3,y4,()),(l1,l,y3,l2,()),_,rfl,ledger_mkK (known_len ok2.1) M1 L M2,fun z hz=>?_,⟨ok1,ok,ok2⟩,td⟩⟩
 rotate_left
 ·rcases List.mem_append.1 hz with h | h
  ·exact hf1 z h
  ·rcases List.mem_append.1 h with h | h
   ·exact hf z h
   ·exact hf2 z (by simpa using h)
 have kpos:0<k:=by
  have:(k:Int) > 0:=of_decide_eq_true hgt
  omega
 have hw:IntKind.i64.wrap ((k:Int)-1)=((k-1:Nat):Int):=by rw [wrap_i64 (by omega)]; omega
 have hm:((k-1:Nat):Int).toNat<(k:Int).toNat:=by omega
 refine⟨mask b V4,mask_le b V4,(cS_l08Cur d4.1).mono ?_⟩
 rintro V5 _ ⟨d5,n,rfl,kn⟩
 refine⟨mask_but (Know.le.refl _) d5.2,n,rfl,(cS_l05Draw d5.1).mono ?_⟩
 rintro V6 _ ⟨d6,c6,x6,g6,rfl,R6,hg6,ok6⟩
 have d46:=d5.trans d6
 have d06:=d4.trans d46
 refine⟨mask_but (Know.le.refl _) d46.2,c6,rfl,?_⟩
 refine(cS_RestAdd (hS V6) y2 l f (L.but (fb hf) d46.2) ok n kn c6 x6 g6 R6 ok6).mono ?_
 rintro V7 _ ⟨le7,t7,l7,f7,e7,rfl,L7,fr7,kq⟩
 have d07:=d06.trans (d06.1.dx le7)
 have M1':=(M1.but (fb hf1) d46.2).le le7
 have M2':=(M2.but (fb hf2) d46.2).le le7
 refine⟨nofun,(t7,e7,()),rfl,fun _=>⟨_,rfl,(((k-1:Nat):Int),y1,t7,y3,y4,()),by rw [hw]; rfl,⟨k-1,t7,l7,f7,rfl,by omega,rfl,rfl,rfl,rfl,d07,M1',M2',L7,fun z hz=>d06.1.some (fr7 z hz),keepQ_ok kq ok kn ok6⟩,hm⟩,
  fun _=>⟨_,rfl,(((k-1:Nat):Int),y1,y2,y3,y4,()),by rw [hw]; rfl,⟨k-1,y2,l,f,rfl,by omega,rfl,rfl,rfl,rfl,d07,M1',M2',(L.but (fb hf) d46.2).le le7,hf,ok⟩,hm⟩⟩
theorem cS_MakeLedger (V:Know) (s:SlV) (l:List (Int × Unit)) (f:List Nat) (h:LR rBy V s l f):CallX Tryz.prog V 4 [Sc.val .l s]
  (fun V' r=>V.le V'∧∃ c x g,r=qv0 c∧rLedger.R V' c x g∧LedgerOkP x∧TabS x.2.2.2.1):=by
 refine CallX.of_fits Tryz.mix (fS_MakeLedger _) fun _=>?_
 simp only [tS_MakeLedger,T.wp]
 refine(cS_l01New V s l f h).mono ?_
 rintro V1 _ ⟨le1,b,rfl,hb,c1⟩
 refine⟨nofun,_,rfl,(cS_l20Draw c1).mono ?_⟩
 rintro V2 _ ⟨d2,c,x,g,rfl,R2,_,ok,td⟩
 exact⟨nofun,c,rfl,d2.1.1,c,x,g,rfl,R2,ok,td⟩
end Go.Proofs.YtpdfdkccgkieoaaGreatDoor
namespace Go.Proofs.YtpdfdkccgkieoaaGreatDoor
open Sx Go.RowKit
set_option maxRecDepth 100000
abbrev bareL (x:DLedger):DLedger:=(x.1,[],x.2.2.1,x.2.2.2.1,())
theorem bare_ok {x:DLedger} (h:LedgerOkP x):LedgerOkP (bareL x):=⟨h.1,restsOk_nil,h.2.2⟩
theorem empty_ok {x:DLedger} (h:LedgerOkP x):LedgerOkP ([],[],x.2.2.1,[],()):=⟨bookOk_nil,restsOk_nil,ratesOk_pre (b:=x.2.2.2.1) h.2.2⟩
theorem empty_R (V:Know) {p:ByteArray} (hp:known p=true):rLedger.R V (nilS,nilS,p,nilS,()) (([],[],p,[],()):DLedger) ([]++([]++[])) :=
 ledger_mk (x:=([],[],p,[],())) lrNil lrNil rfl (by have:=known_size hp; omega) lrNil
theorem cI_NewR {V:Know} (hV:HtI V) {p:ByteArray} (hp:known p=true):CallX Tryz.prog V 6 [.string p] (fun V' r=>V'=V∧r=.tuple #[qv0 (nilS,nilS,p,nilS,()),.bool true]):=by
 refine CallX.of_fits Tryz.mix (fI_LedgerNew _) fun _=>?_
 simp only [tI_LedgerNew,T.wp]
 refine(cI_CurKnown hV.1 p).mono ?_
 rintro V1 _ ⟨rfl,rfl⟩
 rw [hp]
 exact⟨nofun,true,rfl,fun q=>absurd q (by decide),fun _=>⟨by trivial,rfl⟩⟩
theorem cI_RebuiltR {V:Know} (hV:HtI V) {c:Scs LedSh} {x:DLedger} {f:List Nat} (h:rLedger.R V c x f) (hx:LedgerOkP x) :
  CallX Tryz.prog V 5 [qv0 c] (fun V' v=>V.le V'∧∃ c f,v=.tuple #[qv0 c,.bool true]∧rLedger.R V' c (bareL x) f):=by
 have e2:c.2.2.1=x.2.2.1:=by
  obtain⟨c0,c1,c3,f0,f1,f3,rfl,_⟩:=ledger_elim h
  rfl
 refine CallX.of_fits Tryz.mix (fI_Rebuilt _) fun _=>?_
 simp only [tI_Rebuilt,T.wp]
 refine(cI_LedgerOk hV.c c x f h).mono ?_
 rintro V1 _ ⟨le1,e,rfl,he⟩
 refine⟨nofun,e,rfl,fun q=>absurd hx (bf he (by simpa using q)),fun _=>?_⟩
 rw [e2]
 refine(cI_NewR (hV.le le1) hx.2.2.1).mono ?_
 rintro V2 _ ⟨rfl,rfl⟩
 refine⟨nofun,((nilS,nilS,x.2.2.1,nilS,()),true,()),rfl,(cI_ScriptR (hV.le le1) c x f (rLedger.le h le1) hx).mono ?_⟩
 rintro V3 _ ⟨le3,s,g,rfl,L⟩
 refine⟨fun _=>le3,s,rfl,(cI_AllR ((hV.le le1).le le3) (empty_R V3 hx.2.2.1) (empty_ok hx) (run_all hx) (itm_len hx) L).mono ?_⟩
 rintro V4 _ ⟨le4,c4,f4,t4,rfl,R4⟩
 exact⟨nofun,(c4,t4,()),rfl,(le1.trans le3).trans le4,c4,f4,rfl,R4⟩
theorem law_FnRebuilt {V:Know} (hV:HtI V) {s:SlV} {l:List (Int × Unit)} {f:List Nat} (h:LR rBy V s l f):CallX Tryz.prog V 3 [Sc.val .l s] (fun V' r=>V.le V'∧r=.bool true):=by
 refine CallX.of_fits Tryz.mix (fL_FnRebuilt _) fun _=>?_
 simp only [tL_FnRebuilt,T.wp]
 refine⟨fun _=>⟨Know.le.refl _,rfl⟩,fun _=>(cS_MakeLedger V s l f h).mono ?_⟩
 rintro V1 _ ⟨le1,c,x,g,rfl,R1,okx,_⟩
 obtain⟨c0,c1,c3,f0,f1,f3,rfl,h0,_,h3⟩:=ledger_elim R1
 have zp:=known_size okx.2.2.1
 refine⟨nofun,(c0,c1,x.2.2.1,c3,()),rfl,(cI_RebuiltR (hV.le le1) R1 okx).mono ?_⟩
 rintro V2 _ ⟨le2,c2,f2,rfl,R2⟩
 have l2:=le1.trans le2
 refine⟨nofun,(c2,true,()),rfl,(cI_NewR (hV.le l2) okx.2.2.1).mono ?_⟩
 rintro V3 _ ⟨rfl,rfl⟩
 have RB:∀ {V':Know},V1.le V'→rLedger.R V' (c0,nilS,x.2.2.1,c3,()) (bareL x) (f0++([]++f3)):=fun le=>ledger_mk (x:=bareL x) (h0.le le) lrNil rfl (by omega) (h3.le le)
 refine⟨nofun,((nilS,nilS,x.2.2.1,nilS,()),true,()),rfl,fun _=>⟨fun _=>?_,fun q=>by simp at q⟩,fun q=>by simp at q⟩
 refine(cI_LedgerSame V3 _ _ _ _ _ _ R2 (RB le2)).mono ?_
 rintro V4 _ ⟨rfl,e,rfl,he⟩
 have e1:e=true:=he.2 rfl
 subst e1
 refine⟨fun _=>Know.le.refl _,true,rfl,fun _=>?_,nofun⟩
 refine(cI_ScriptR (hV.le l2) _ (bareL x) _ (RB le2) (bare_ok okx)).mono ?_
 rintro V5 _ ⟨le5,t,g5,rfl,L⟩
 refine⟨fun _=>le5,t,rfl,(cI_FirstBadR ((hV.le l2).le le5) (empty_R V5 okx.2.2.1) (empty_ok okx) (run_all okx) (itm_len okx) L).mono ?_⟩
 rintro V6 _ ⟨le6,rfl⟩
 exact⟨nofun,-1,rfl,(l2.trans le5).trans le6,rfl⟩
end Go.Proofs.YtpdfdkccgkieoaaGreatDoor
