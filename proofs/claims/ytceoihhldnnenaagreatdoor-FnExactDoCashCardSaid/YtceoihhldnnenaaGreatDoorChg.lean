/-
  A book is changed under its lock.
-/
import Derived.Test.YtceoihhldnnenaaGreatDoorMath
import Derived.Test.YtceoihhldnnenaaGreatDoorStr
import Derived.Test.YtceoihhldnnenaaGreatDoorOk
import Derived.Test.YtceoihhldnnenaaGreatDoorMu
import Derived.WalkKit
namespace Go.Proofs.YtceoihhldnnenaaGreatDoor
open Sx
def apD (s:SlV) (sz bytes:Nat) (ys:List Value) (m:Nat) (t:TypeId) (k:SlV→T):T:=.ap s sz bytes ys m t k
theorem ap_d (s:SlV) (sz bytes:Nat) (ys:List Value) (m:Nat) (t:TypeId) (k:SlV→T):T.ap s sz bytes ys m t k=apD s sz bytes ys m t k:=rfl
section
variable {sh:List Sc} {α:Type}
def GR (r:Rp sh α) (t:TypeId) (V:Know) (s:SlV) (l:List α) (f:List Nat):Prop :=
 s.n=l.length∧s.n≤s.c∧((s.a=none∧s.c=0∧l=[]∧f=[]) ∨
  ∃ b fps cs post,s.a=some ⟨b,0,none⟩∧V b=some (cs.flatMap (Scs.vals sh)++post,(t,(0,0)))∧post.length=(s.c-s.n)*sh.length∧Els r V cs l fps∧f=b :: fps)
theorem GR.nil {r:Rp sh α} {t:TypeId} {V:Know}:GR r t V ⟨none,0,0⟩ [] []:=⟨rfl,Nat.le_refl _,.inl ⟨rfl,rfl,rfl,rfl⟩⟩
theorem GR.lr {r:Rp sh α} {t:TypeId} {V:Know} {s:SlV} {l:List α} {f:List Nat} (h:GR r t V s l f) (hn:l.length≤9223372036854775807):LR r V s l f:=by
 obtain⟨h1,h2,h3⟩:=h
 refine⟨h1,h2,by omega,?_⟩
 rcases h3 with ⟨ha,hc,rfl,rfl⟩ | ⟨b,fps,cs,post,ha,hb,hp,he,rfl⟩
 ·exact .inl ⟨h1,fun _=>hc,rfl⟩
 ·exact .inr ⟨b,[],post,_,fps,cs,ha,hb,he,rfl⟩
theorem GR.loc {r:Rp sh α} {t:TypeId} {V V':Know} {s:SlV} {l:List α} {f:List Nat} (h:GR r t V s l f) (hb:∀ b∈f,V' b=V b):GR r t V' s l f:=by
 obtain⟨h1,h2,h3⟩:=h
 refine⟨h1,h2,?_⟩
 rcases h3 with h3 | ⟨b,fps,cs,post,ha,hv,hp,he,rfl⟩
 ·exact .inl h3
 ·exact .inr ⟨b,fps,cs,post,ha,by rw [hb b (by simp),hv],hp,he.loc fun x hx=>hb x (by simp [hx]),rfl⟩
theorem GR.le {r:Rp sh α} {t:TypeId} {V V':Know} {s:SlV} {l:List α} {f:List Nat} (h:GR r t V s l f) (hle:V.le V'):GR r t V' s l f:=by
 obtain⟨h1,h2,h3⟩:=h
 refine⟨h1,h2,?_⟩
 rcases h3 with h3 | ⟨b,fps,cs,post,ha,hb,hp,he,rfl⟩
 ·exact .inl h3
 ·exact .inr ⟨b,fps,cs,post,ha,hle _ _ hb,hp,he.le hle,rfl⟩
theorem ap_row {P:Program} {r:Rp sh α} {t:TypeId} {V0 V Vd:Know} {s:SlV} {l:List α} {f fx:List Nat} {c:Scs sh} {x:α} {bytes:Nat} {k:SlV→T} {K:Know→List Value→Prop} {Ns:List (List LV→Know→Prop)}
  (h:GR r t V s l f) (hx:r.R V c x fx) (hO:Own V0 V (f++fx)) (hle:V0.le V) (hP:P.cellsOf t=sh.length)
  (hb:(l.length+1)*bytes≤140737488355328) (hl:l.length+1≤9223372036854775807)
  (hk:∀ s' V' f',GR r t V' s' (l++[x]) f'→Own V0 V' f'→V0.le V'→(k s').wp P K V' Vd Ns) :
  (T.ap s sh.length bytes (Scs.vals sh c) 1 t k).wp P K V Vd Ns:=by
 obtain⟨h1,h2,h3⟩:=h
 simp only [T.wp]
 refine⟨h2,fun ha=>?_,fun h=>absurd h (by decide),fun _ hroom=>?_,fun _ hroom=>⟨by rw [h1]; exact hb,by rw [h1]; exact hl,?_⟩⟩
 ·rcases h3 with ⟨_,hc,_⟩ | ⟨b,fps,cs,post,ha',_⟩
  ·exact hc
  ·rw [ha] at ha'; cases ha'
 ·rcases h3 with ⟨_,hc,_⟩ | ⟨b,fps,cs,post,ha,hbk,hp,he,rfl⟩
  ·omega
  have hcl:cs.length=l.length:=he.len
  have hfl:(cs.flatMap (Scs.vals sh)).length=s.n*sh.length:=by rw [flat_len,hcl,h1]
  have hpl:sh.length≤post.length:=by
   rw [hp]; exact Nat.le_mul_of_pos_left _ (by omega)
  have hset:setl (cs.flatMap (Scs.vals sh)++post) (s.n*sh.length) (Scs.vals sh c)=(cs++[c]).flatMap (Scs.vals sh)++post.drop sh.length:=by
   rw [setl_mid hfl.symm (by rw [vals_len]; exact hpl),vals_len]
   simp
  have hnd:b ∉ fps∧b ∉ fx:=by
   have:=hO.1
   simp only [List.cons_append,List.nodup_cons,List.mem_append,not_or] at this
   exact this.1
  have hoff:∀ (y:List Value × KTy) (g:List Nat),b ∉ g→∀ b'∈g,kset V b y b'=V b':=fun y g hg b' hb'=>by
   simp only [kset]; rw [if_neg (fun e:b'=b=>hg (by rw [← e]; exact hb'))]
  refine⟨b,_,ha,hbk,?_,?_⟩
  ·rw [List.length_append,hfl,hp,← Nat.add_mul]
   exact Nat.mul_le_mul_right _ (by omega)
  ·rw [hset]
   refine hk _ _ (b :: (fps++fx)) ⟨by simp [h1],by show s.n+1≤s.c; omega,.inr ⟨b,fps++fx,cs++[c],post.drop sh.length,ha,kset_same,?_,?_,rfl⟩⟩ ⟨by simpa using hO.1,by simpa using hO.2.1,?_⟩ ?_
   ·rw [List.length_drop,hp,← Nat.sub_one_mul]
    congr 1
   ·exact(he.loc (hoff _ _ hnd.1)).snoc (r.loc hx (hoff _ _ hnd.2))
   ·intro b' hb'
    rcases List.mem_cons.1 hb' with rfl | hb'
    ·exact⟨_,_,kset_same⟩
    ·have hne:b'≠b:=fun e=>by
      rw [e] at hb'
      rcases List.mem_append.1 hb' with h | h
      ·exact hnd.1 h
      ·exact hnd.2 h
     obtain⟨u,v,huv⟩:=hO.2.2 b' (by simp only [List.cons_append,List.mem_cons]; exact .inr hb')
     exact⟨u,v,by simp only [kset]; rw [if_neg hne]; exact huv⟩
   ·intro b' y hy
    have hne:b'≠b:=fun e=>by
     subst e
     have:=hO.2.1 b' (by simp)
     rw [this] at hy; cases hy
    simp only [kset]; rw [if_neg hne]; exact hle b' y hy
 ·have hgo:∀ (cs:List (Scs sh)) (fps:List Nat),Els r V cs l fps→(∀ b∈fps,b∈f)→fps.Nodup→(∀ b∈fps,b ∉ fx) →
    ∀ b cap spare,V b=none→s.n+1≤cap→spare.length=(cap-(s.n+1))*P.cellsOf t →
    (k ⟨some ⟨b,0,none⟩,s.n+1,cap⟩).wp P K (kset V b ((cs.flatMap (Scs.vals sh)++Scs.vals sh c)++spare,(t,(0,0)))) Vd Ns:=by
   intro cs fps he hsub hnd hdis b cap spare hbn hcap hsp
   have hV:=kset_le (x:=((cs.flatMap (Scs.vals sh)++Scs.vals sh c)++spare,(t,(0,0)))) hbn
   have hin:∀ b'∈fps++fx,b'∈f++fx:=fun b' hb'=>by
    rcases List.mem_append.1 hb' with h | h
    ·exact List.mem_append.2 (.inl (hsub b' h))
    ·exact List.mem_append.2 (.inr h)
   have hn:b ∉ fps++fx:=fun hm=>by
    obtain⟨u,v,huv⟩:=hO.2.2 b (hin b hm)
    rw [hbn] at huv; cases huv
   refine hk _ _ (b :: (fps++fx)) ⟨by simp [h1],hcap,.inr ⟨b,fps++fx,cs++[c],spare,rfl,?_,by rw [hsp,hP],(he.le hV).snoc (r.le hx hV),rfl⟩⟩ ⟨List.nodup_cons.2 ⟨hn,?_⟩,fun b' hb'=>?_,fun b' hb'=>?_⟩ (hle.trans hV)
   ·rw [kset_same]; simp
   ·have:=List.nodup_append.1 hO.1
    exact List.nodup_append.2 ⟨hnd,this.2.1,fun a ha b hb e=>hdis a ha (e ▸ hb)⟩
   ·rcases List.mem_cons.1 hb' with rfl | hb'
    ·exact none_of_le hle hbn
    ·exact hO.2.1 b' (hin b' hb')
   ·rcases List.mem_cons.1 hb' with rfl | hb'
    ·exact⟨_,_,kset_same⟩
    ·obtain⟨u,v,huv⟩:=hO.2.2 b' (hin b' hb')
     exact⟨u,v,hV _ _ huv⟩
  rcases h3 with ⟨ha,hc,rfl,rfl⟩ | ⟨b,fps,cs,post,ha,hbk,hp,he,rfl⟩
  ·exact⟨[],.inl ⟨ha,h1,hc,rfl⟩,rfl,fun b cap spare hb hcap hsp=>by
    have:=hgo [] [] rfl (fun _ h=>by cases h) List.nodup_nil (fun _ h=>by cases h) b cap spare hb hcap hsp
    simpa using this⟩
  ·have hcl:cs.length=l.length:=he.len
   have hfl:(cs.flatMap (Scs.vals sh)).length=s.n*sh.length:=by rw [flat_len,hcl,h1]
   have hnt:∀ cs:List (Scs sh),noTup (cs.flatMap (Scs.vals sh))=true:=fun cs=>by
    induction cs with
    | nil=>rfl
    | cons c cs ih =>
     have hv:=vals_noTup sh c
     unfold noTup at ih hv ⊢
     rw [List.flatMap_cons,List.all_append,hv,ih]; rfl
   refine⟨_,.inr ⟨⟨b,0,none⟩,ha,?_⟩,hnt cs,hgo cs fps he (fun b' hb'=>by simp [hb']) ?_ ?_⟩
   ·simp only [loadV,hbk]
    rw [← hfl]; exact cutv_head
   ·have:=List.nodup_append.1 hO.1
    exact(List.nodup_cons.1 this.1).2
   ·have:=List.nodup_append.1 hO.1
    exact fun b' hb' hx'=>this.2.2 b' (by simp [hb']) b' hx' rfl
def CopyI (e:Rp sh α) (t:TypeId) (V0:Know) (l:List α) (i:Int) (s:SlV) (V:Know):Prop :=
 V0.le V∧∃ (k:Nat) (f:List Nat),i=(k:Int)∧k≤l.length∧GR e t V s (l.take k) f∧Own V0 V f
theorem CopyI.start {e:Rp sh α} {t:TypeId} {V:Know} {l:List α}:CopyI e t V l 0 ⟨none,0,0⟩ V:=⟨Know.le.refl _,0,[],rfl,Nat.zero_le _,by simpa using GR.nil,Own.nil⟩
theorem CopyI.start_made {e:Rp sh α} {t:TypeId} {V0 V:Know} {l:List α} {b cap:Nat} {spare:List Value} (hle:V0.le V) (hb:V b=none) (hs:spare.length=cap*sh.length) :
  CopyI e t V0 l 0 ⟨some ⟨b,0,none⟩,0,cap⟩ (kset V b ([]++spare,(t,(0,0)))):=by
 have hV:=kset_le (x:=([]++spare,(t,(0,0)))) hb
 refine⟨hle.trans hV,0,[b],rfl,Nat.zero_le _,⟨by simp,Nat.zero_le _,.inr ⟨b,[],[],spare,rfl,by rw [kset_same]; simp,by simpa using hs,by simp [Els],rfl⟩⟩,⟨by simp,fun b' hb'=>?_,fun b' hb'=>?_⟩⟩
 ·obtain rfl:b'=b:=by simpa using hb'
  exact none_of_le hle hb
 ·obtain rfl:b'=b:=by simpa using hb'
  exact⟨_,_,kset_same⟩
theorem copy_end {P:Program} {e:Rp sh α} {t:TypeId} {V0 V V2 Vd:Know} {l:List α} {k:Nat} {s:SlV} {c:Scs sh} {fx:List Nat} {bytes:Nat} {kk:SlV→T} {K:Know→List Value→Prop} {Ns:List (List LV→Know→Prop)}
  (h:CopyI e t V0 l (k:Int) s V) (hk:k<l.length) (hle2:V.le V2) (hR:e.R V2 c l[k] fx) (hO:Own V V2 fx) (hP:P.cellsOf t=sh.length)
  (hb:l.length*bytes≤140737488355328) (hl:l.length≤9223372036854775807)
  (hn:∀ s' V3,CopyI e t V0 l ((k+1:Nat):Int) s' V3→(kk s').wp P K V3 Vd Ns) :
  (T.ap s sh.length bytes (Scs.vals sh c) 1 t kk).wp P K V2 Vd Ns:=by
 obtain⟨h1,k',f,he,_,hg,ho⟩:=h
 obtain rfl:k=k':=by omega
 have hlen:(l.take k).length=k:=by simp; omega
 refine ap_row (hg.le hle2) hR (ho.append hO h1 hle2) (h1.trans hle2) hP ?_ (by omega) fun s' V' f' hg' ho' hle'=>hn s' V' ⟨hle',k+1,f',rfl,hk,?_,ho'⟩
 ·rw [hlen]
  exact Nat.le_trans (Nat.mul_le_mul_right _ hk) hb
 ·rw [List.take_succ_eq_append_getElem hk]; exact hg'
theorem CopyI.fin {e:Rp sh α} {t:TypeId} {V0 V:Know} {l:List α} {i:Int} {s:SlV} (h:CopyI e t V0 l i s V) (hl:l.length≤9223372036854775807) (hi:¬ i<(l.length:Int)) :
  V0.le V∧∃ f,LR e V s l f∧Own V0 V f:=by
 obtain⟨h1,k,f,rfl,hk,hg,ho⟩:=h
 obtain rfl:k=l.length:=by omega
 rw [List.take_length] at hg
 exact⟨h1,f,hg.lr hl,ho⟩
theorem CopyI.finG {e:Rp sh α} {t:TypeId} {V0 V:Know} {l:List α} {i:Int} {s:SlV} (h:CopyI e t V0 l i s V) (hi:¬ i<(l.length:Int)) :
  V0.le V∧∃ f,GR e t V s l f∧Own V0 V f:=by
 obtain⟨h1,k,f,rfl,hk,hg,ho⟩:=h
 obtain rfl:k=l.length:=by omega
 rw [List.take_length] at hg
 exact⟨h1,f,hg,ho⟩
end
end Go.Proofs.YtceoihhldnnenaaGreatDoor
namespace Go.Proofs.YtceoihhldnnenaaGreatDoor
open Sx
set_option maxRecDepth 100000
theorem setl_all {xs ys:List Value} (h:ys.length=xs.length):setl xs 0 ys=ys:=by
 simp only [setl,List.take_zero,List.nil_append,Nat.zero_add]
 rw [List.drop_of_length_le (by omega),List.append_nil]
theorem cI_moneyCopy (V:Know) (c0:ByteArray) (c1:Bool) (c2:SlV) (l:List Lim) (f:List Nat) (h:LR rI V c2 l f) (hl:l.length≤1048576) :
  CallX Tryz.prog V 190 [qv3 (c0,c1,c2,())] (fun V' r=>V.le V'∧∃ s f',r=qv3 (c0,c1,s,())∧LR rI V' s l f'∧Own V V' f'):=by
 refine CallX.of_fits Tryz.mix (fI_moneyCopy _) fun _=>?_
 simp only [tI_moneyCopy,T.wp]
 obtain⟨h1,h2⟩:=h.rdI
 have hn:=h.1
 refine⟨⟨by omega,by omega,by omega,by omega⟩,_,h1,h2,h2,?_⟩
 intro b cap spare hb hc _
 have htk:List.take (Nat.min c2.n (c2.n:Int).toNat) (l.map cellI)=l.map cellI:=by
  apply List.take_of_length_le
  have:Nat.min c2.n (c2.n:Int).toNat=c2.n:=by
   have e:(c2.n:Int).toNat=c2.n:=by omega
   rw [e]; exact Nat.min_self _
  rw [this]; simp; omega
 have hset:setl (madeCells ⟨[.int .i64 (0:Int)]⟩ ((c2.n:Int).toNat*1)).toList 0 (List.take (Nat.min c2.n (c2.n:Int).toNat) (l.map cellI))=l.map cellI:=by
  rw [htk]
  exact setl_all (by rw [made_len]; simp; omega)
 have hc':l.length≤cap:=by omega
 have hk:=newI (V:=V) (b:=b) (cap:=l.length) (o:=l) (spare:=spare) (t:=3) hb (Nat.le_refl _) (by omega)
 refine⟨⟨by omega,by omega,by omega,by omega⟩,?_⟩
 have hV:=kset_le (x:=(l.map cellI++spare,((3:TypeId),((0,0):Nat × Nat)))) hb
 have e1:((((c2.n:Int).toNat:Nat):Int).toNat-Int.toNat (0:Int))=l.length:=by omega
 have e2:(if (((c2.n:Int).toNat:Nat):Int).toNat=Int.toNat (0:Int) then (some ⟨b,0,none⟩:Option Addr) else Option.map (fun(x:Addr)=>x.add (Int.toNat (0:Int)*Tryz.prog.types[(3:Nat)].size)) (some (⟨b,0,none⟩:Addr)))=some ⟨b,0,none⟩:=by
  split
  ·rfl
  ·simp [Addr.add]
 show V.le (kset V b (setl (madeCells ⟨[.int .i64 (0:Int)]⟩ ((c2.n:Int).toNat*1)).toList 0 (List.take (Nat.min c2.n (c2.n:Int).toNat) (l.map cellI))++spare,((3:TypeId),((0,0):Nat × Nat))))∧_
 rw [hset]
 refine⟨hV,⟨some ⟨b,0,none⟩,l.length,l.length⟩,[b],?_,hk.1,hk.2⟩
 show qv3 (c0,c1,⟨(if (((c2.n:Int).toNat:Nat):Int).toNat=Int.toNat (0:Int) then (some ⟨b,0,none⟩:Option Addr) else Option.map (fun(x:Addr)=>x.add (Int.toNat (0:Int)*Tryz.prog.types[(3:Nat)].size)) (some (⟨b,0,none⟩:Addr))),
  ((((c2.n:Int).toNat:Nat):Int).toNat-Int.toNat (0:Int)),((((c2.n:Int).toNat:Nat):Int).toNat-Int.toNat (0:Int))⟩,())=_
 rw [e1,e2]
theorem cS_l17Money (V:Know) (c0:ByteArray) (c1:Bool) (c2:SlV) (l:List Lim) (f:List Nat) (h:LR rI V c2 l f) (hl:l.length≤1048576) :
  CallX Tryz.prog V 147 [qv3 (c0,c1,c2,())] (fun V' r=>V.le V'∧∃ s f',r=qv3 (c0,c1,s,())∧LR rI V' s l f'∧Own V V' f'):=by
 refine CallX.of_fits Tryz.mix (fS_l17Money _) fun _=>?_
 simp only [tS_l17Money,T.wp]
 obtain⟨h1,h2⟩:=h.rdI
 have hn:=h.1
 intro b1 hb1
 have hV1:=kset_le (x:=(([]:List Value),((3:TypeId),((0,0):Nat × Nat)))) hb1
 refine⟨l.map cellI,?_,⟨h2,(by omega:c2.n*8≤140737488355328),(by omega:c2.n≤9223372036854775807)⟩,fun hz=>?_,fun hz b3 cap spare hb3 hc _=>?_⟩
 ·rcases h1 with ⟨q1,_,q3⟩ | q
  ·exact .inl ⟨q1,q3⟩
  ·exact .inr q
 ·have hz':c2.n=0:=of_decide_eq_true hz
  have:l=[]:=List.eq_nil_of_length_eq_zero (by omega)
  subst this
  have hk:=newI (V:=V) (b:=b1) (cap:=0) (o:=[]) (spare:=[]) (t:=3) hb1 (Nat.le_refl _) (by simp)
  exact⟨hV1,_,_,rfl,hk.1,hk.2⟩
 ·have hc':l.length≤cap:=by rw [← hn]; exact hc
  have hk:=newI (V:=kset V b1 (([]:List Value),((3:TypeId),((0,0):Nat × Nat)))) (b:=b3) (cap:=cap) (o:=l) (spare:=spare) (t:=3) hb3 hc' (by omega)
  have hV3:=kset_le (x:=(l.map cellI++spare,((3:TypeId),((0,0):Nat × Nat)))) hb3
  refine⟨hV1.trans hV3,⟨some ⟨b3,0,none⟩,c2.n,cap⟩,[b3],rfl,?_,hk.2.pre hV1⟩
  rw [hn]; exact hk.1
theorem kI_natCopy:ToSC Tryz.prog 208 rI:=fun _ _ _ _ h ht=>cI_natCopy _ _ _ _ h (by omega)
theorem kI_intCopy:ToC Tryz.prog 207 rSigned:=by
 rintro V ⟨c1,c2,cu⟩ ⟨x1,x2,xu⟩ f hx ht
 obtain⟨ec1,hx⟩:=hx
 replace ec1:c1=x1:=ec1
 subst ec1
 obtain⟨f2,fr2,ec2,sc2,hx⟩:=hx
 subst ec2
 replace sc2:LR rI _ c2 x2 f2:=sc2
 replace hx:_=[]:=hx
 subst hx
 replace ht:(x2.length+totE rI x2+0)≤1048576:=ht
 refine CallX.of_fits Tryz.mix (fI_intCopy _) fun _=>?_
 simp only [tI_intCopy,T.wp]
 refine(cI_natCopy _ _ x2 _ sc2 (by omega)).mono ?_
 rintro V1 r ⟨hle1,s,k,rfl,hr,ho⟩
 exact⟨fun _=>hle1,s,rfl,hle1,(c1,s,()),_,rfl,rBool.mk (rSl.mk hr rNil.mk),by simpa using ho⟩
theorem kI_moneyCopy:ToC Tryz.prog 190 rMoney:=by
 rintro V ⟨c0,c1,c2,cu⟩ ⟨x0,x1,x2,xu⟩ f hx ht
 obtain⟨⟨ec0,zc0⟩,hx⟩:=hx
 replace ec0:c0=x0:=ec0
 subst ec0
 obtain⟨ec1,hx⟩:=hx
 replace ec1:c1=x1:=ec1
 subst ec1
 obtain⟨f2,fr2,ec2,sc2,hx⟩:=hx
 subst ec2
 replace sc2:LR rI _ c2 x2 f2:=sc2
 replace hx:_=[]:=hx
 subst hx
 replace ht:(c0.size+(x2.length+totE rI x2+0))≤1048576:=ht
 refine(cI_moneyCopy _ _ _ _ x2 _ sc2 (by omega)).mono ?_
 rintro V1 r ⟨hle1,s,k,rfl,hr,ho⟩
 exact⟨hle1,(c0,c1,s,()),_,rfl,rStr.mk zc0 (rBool.mk (rSl.mk hr rNil.mk)),by simpa using ho⟩
theorem kS_l17Money:ToC Tryz.prog 147 rMoney:=by
 rintro V ⟨c0,c1,c2,cu⟩ ⟨x0,x1,x2,xu⟩ f hx ht
 obtain⟨⟨ec0,zc0⟩,hx⟩:=hx
 replace ec0:c0=x0:=ec0
 subst ec0
 obtain⟨ec1,hx⟩:=hx
 replace ec1:c1=x1:=ec1
 subst ec1
 obtain⟨f2,fr2,ec2,sc2,hx⟩:=hx
 subst ec2
 replace sc2:LR rI _ c2 x2 f2:=sc2
 replace hx:_=[]:=hx
 subst hx
 replace ht:(c0.size+(x2.length+totE rI x2+0))≤1048576:=ht
 refine(cS_l17Money _ _ _ _ x2 _ sc2 (by omega)).mono ?_
 rintro V1 r ⟨hle1,s,k,rfl,hr,ho⟩
 exact⟨hle1,(c0,c1,s,()),_,rfl,rStr.mk zc0 (rBool.mk (rSl.mk hr rNil.mk)),by simpa using ho⟩
abbrev acT:TypeId:=88
abbrev ratT:TypeId:=204
theorem growI_book (V:Know) (c:Scs [.l]) (x:DBook) (f:List Nat) (hx:rBook.R V c x f) (ht:rBook.tot x≤1048576):CallX Tryz.prog V 154 [qv4 c] (fun V' r=>V.le V'∧∃ s f,r=qv4 (s,())∧GR rAcct acT V' s x.1 f∧Own V V' f):=by
 obtain⟨s,cu⟩:=c
 obtain⟨l,xu⟩:=x
 obtain⟨f1,fr1,ef,sc,hx⟩:=hx
 subst ef
 replace sc:LR rAcct _ s l f1:=sc
 replace hx:_=[]:=hx
 subst hx
 replace ht:(l.length+totE rAcct l+0)≤1048576:=ht
 have hn:=sc.1
 refine CallX.of_fits Tryz.mix (fI_bookCopy _) fun _=>?_
 simp only [tI_bookCopy,ap_d,T.wp]
 have ew:IntKind.i64.wrap ((s.n:Int)+1)=((s.n+1:Nat):Int):=by rw [wrap_i64 (by omega)]; omega
 rw [ew]
 refine⟨⟨by omega,by omega,by omega,by omega⟩,fun b cap spare hb hc hsp=>?_⟩
 refine⟨fun y V'=>CopyI rAcct 88 V l y.1 y.2.1 V',fun y _=>((l.length:Int)-(y.1:Int)).toNat,⟨((0:Int),⟨some ⟨b,0,none⟩,0,cap⟩,()),rfl,CopyI.start_made (Know.le.refl _) hb (by rw [hsp]; rfl)⟩,?_⟩
 rintro⟨(i:Int),s1,u⟩ V' hI
 have hI':CopyI rAcct 88 V l i s1 V':=hI
 refine⟨fun hlt=>?_,fun hge=>?_⟩
 ·have hI0:=hI'
  obtain⟨hle,k,f0,rfl,hk,_,_⟩:=hI'
  have h1:k<l.length:=by
   have:(k:Int)<(s.n:Int):=by simpa using hlt
   omega
  obtain⟨b1,o1,c1,fc,a1,l1,r1,_⟩:=(sc.le hle).at h1
  have htx:=totE_mem rAcct h1
  refine⟨_,a1,(by omega:(0:Int)≤(k:Int)),(by omega:(k:Int)<(s.n:Int)),c1,l1,?_⟩
  obtain⟨n1,m1⟩:=c1
  obtain⟨en,zn⟩:=r1.1
  refine(kI_moneyCopy V' m1 l[k].2 fc r1.2 (by have:l[k].1.size+rMoney.tot l[k].2=rAcct.tot l[k]:=rfl; omega)).mono ?_
  rintro V2 r ⟨hle2,⟨c2,c3,c4,cv⟩,f2,rfl,hR,hO⟩
  refine⟨fun _=>hle2,(c2,c3,c4,()),rfl,rfl,rfl,?_⟩
  refine copy_end (sh:=[.s,.s,.b,.l]) (c:=(n1,c2,c3,c4,())) hI0 h1 hle2 (e:=rAcct) (bytes:=64) (fx:=f2) ⟨⟨en,zn⟩,hR⟩ hO (by kernel_rfl) (by omega) (by omega) fun s' V3 h3=>?_
  refine⟨_,rfl,(((k+1:Nat):Int),s',()),by rw [nxt h1 (by omega)]; rfl,h3,?_⟩
  show((l.length:Int)-((k+1:Nat):Int)).toNat<((l.length:Int)-(k:Int)).toNat
  omega
 ·have hi:¬ i<(l.length:Int):=by
   have:¬ i<(s.n:Int):=by simpa using hge
   omega
  obtain⟨hle,f3,hL,hO⟩:=hI'.finG hi
  exact⟨hle,s1,f3,rfl,hL,hO⟩
theorem kI_bookCopy:ToC Tryz.prog 154 rBook:=fun V c x f hx ht=>(growI_book V c x f hx ht).mono (by
 rintro V' _ ⟨le,s,g,rfl,G,O⟩
 have e:rBook.tot x=x.1.length+totE rAcct x.1+0:=rfl
 exact⟨le,(s,()),g++[],rfl,rSl.mk (G.lr (by omega)) rNil.mk,by simpa using O⟩)
theorem kS_l17Copy:ToC Tryz.prog 98 rBook:=by
 rintro V ⟨s,cu⟩ ⟨l,xu⟩ f hx ht
 obtain⟨f1,fr1,ef,sc,hx⟩:=hx
 subst ef
 replace sc:LR rAcct _ s l f1:=sc
 replace hx:_=[]:=hx
 subst hx
 replace ht:(l.length+totE rAcct l+0)≤1048576:=ht
 have hn:=sc.1
 refine CallX.of_fits Tryz.mix (fS_l17Copy _) fun _=>?_
 simp only [tS_l17Copy,ap_d,T.wp]
 refine⟨fun y V'=>CopyI rAcct 88 V l y.1 y.2.1 V',fun y _=>((l.length:Int)-(y.1:Int)).toNat,⟨((0:Int),⟨none,0,0⟩,()),rfl,CopyI.start⟩,?_⟩
 rintro⟨(i:Int),s1,u⟩ V' hI
 have hI':CopyI rAcct 88 V l i s1 V':=hI
 refine⟨fun hlt=>?_,fun hge=>?_⟩
 ·have hI0:=hI'
  obtain⟨hle,k,f0,rfl,hk,_,_⟩:=hI'
  have h1:k<l.length:=by
   have:(k:Int)<(s.n:Int):=by simpa using hlt
   omega
  obtain⟨b1,o1,c1,fc,a1,l1,r1,_⟩:=(sc.le hle).at h1
  have htx:=totE_mem rAcct h1
  refine⟨_,a1,(by omega:(0:Int)≤(k:Int)),(by omega:(k:Int)<(s.n:Int)),c1,l1,?_⟩
  obtain⟨n1,m1⟩:=c1
  obtain⟨en,zn⟩:=r1.1
  refine(kS_l17Money V' m1 l[k].2 fc r1.2 (by have:l[k].1.size+rMoney.tot l[k].2=rAcct.tot l[k]:=rfl; omega)).mono ?_
  rintro V2 r ⟨hle2,⟨c2,c3,c4,cv⟩,f2,rfl,hR,hO⟩
  refine⟨fun _=>hle2,(c2,c3,c4,()),rfl,rfl,rfl,?_⟩
  refine copy_end (sh:=[.s,.s,.b,.l]) (c:=(n1,c2,c3,c4,())) hI0 h1 hle2 (e:=rAcct) (bytes:=64) (fx:=f2) ⟨⟨en,zn⟩,hR⟩ hO (by kernel_rfl) (by omega) (by omega) fun s' V3 h3=>?_
  refine⟨_,rfl,(((k+1:Nat):Int),s',()),by rw [nxt h1 (by omega)]; rfl,h3,?_⟩
  show((l.length:Int)-((k+1:Nat):Int)).toNat<((l.length:Int)-(k:Int)).toNat
  omega
 ·have hi:¬ i<(l.length:Int):=by
   have:¬ i<(s.n:Int):=by simpa using hge
   omega
  obtain⟨hle,f3,hL,hO⟩:=hI'.fin (by omega) hi
  exact⟨hle,(s1,()),f3++[],rfl,rSl.mk hL rNil.mk,by simpa using hO⟩
theorem kI_decCopy:ToC Tryz.prog 209 rDec:=by
 rintro V ⟨c0,c1,c2,cu⟩ ⟨x0,x1,x2,xu⟩ f hx ht
 obtain⟨ec0,hx⟩:=hx
 replace ec0:c0=x0:=ec0
 subst ec0
 obtain⟨f1,fr1,ec1,sc1,hx⟩:=hx
 subst ec1
 replace sc1:LR rI _ c1 x1 f1:=sc1
 obtain⟨ec2,hx⟩:=hx
 replace ec2:c2=x2:=ec2
 subst ec2
 replace hx:_=[]:=hx
 subst hx
 replace ht:(x1.length+totE rI x1+0)≤1048576:=ht
 refine CallX.of_fits Tryz.mix (fI_decCopy _) fun _=>?_
 simp only [tI_decCopy,T.wp]
 refine(kI_intCopy _ _ (c0,x1,()) _ (rBool.mk (rSl.mk sc1 rNil.mk)) (by show(x1.length+totE rI x1+0)≤1048576; omega)).mono ?_
 rintro V0 r ⟨hle0,⟨d0,d1,du0⟩,k0,rfl,hr0,ho0⟩
 obtain⟨ed0,hr0⟩:=hr0
 replace ed0:d0=c0:=ed0
 subst ed0
 obtain⟨k0f1,k0r1,ed1,sd1,hr0⟩:=hr0
 subst ed1
 replace sd1:LR rI _ d1 x1 k0f1:=sd1
 replace hr0:_=[]:=hr0
 subst hr0
 refine⟨fun _=>hle0,(d0,d1,()),rfl,?_⟩
 exact⟨hle0,(d0,d1,c2,()),_,rfl,(rBool.mk (rSl.mk sd1 (rInt.mk rNil.mk))),by simpa using ho0⟩
theorem kI_rateCopy:ToC Tryz.prog 192 rRate:=by
 rintro V ⟨c0,c1,c2,c3,c4,cu⟩ ⟨x0,x1,x2,x3,x4,xu⟩ f hx ht
 obtain⟨⟨ec0,zc0⟩,hx⟩:=hx
 replace ec0:c0=x0:=ec0
 subst ec0
 replace zc0:c0.size≤9223372036854775807:=zc0
 obtain⟨⟨ec1,zc1⟩,hx⟩:=hx
 replace ec1:c1=x1:=ec1
 subst ec1
 replace zc1:c1.size≤9223372036854775807:=zc1
 obtain⟨ec2,hx⟩:=hx
 replace ec2:c2=x2:=ec2
 subst ec2
 obtain⟨f3,fr3,ec3,sc3,hx⟩:=hx
 subst ec3
 replace sc3:LR rI _ c3 x3 f3:=sc3
 obtain⟨ec4,hx⟩:=hx
 replace ec4:c4=x4:=ec4
 subst ec4
 replace hx:_=[]:=hx
 subst hx
 replace ht:(c0.size+(c1.size+(x3.length+totE rI x3+0)))≤1048576:=ht
 refine CallX.of_fits Tryz.mix (fI_rateCopy _) fun _=>?_
 simp only [tI_rateCopy,T.wp]
 refine(kI_decCopy _ _ (c2,x3,c4,()) _ (rBool.mk (rSl.mk sc3 (rInt.mk rNil.mk))) (by show(x3.length+totE rI x3+0)≤1048576; omega)).mono ?_
 rintro V2 r ⟨hle2,⟨d2,d3,d4,du2⟩,k2,rfl,hr2,ho2⟩
 obtain⟨ed2,hr2⟩:=hr2
 replace ed2:d2=c2:=ed2
 subst ed2
 obtain⟨k2f3,k2r3,ed3,sd3,hr2⟩:=hr2
 subst ed3
 replace sd3:LR rI _ d3 x3 k2f3:=sd3
 obtain⟨ed4,hr2⟩:=hr2
 replace ed4:d4=c4:=ed4
 subst ed4
 replace hr2:_=[]:=hr2
 subst hr2
 refine⟨fun _=>hle2,(d2,d3,d4,()),rfl,?_⟩
 exact⟨hle2,(c0,c1,d2,d3,d4,()),_,rfl,(rStr.mk zc0 (rStr.mk zc1 (rBool.mk (rSl.mk sd3 (rInt.mk rNil.mk))))),by simpa using ho2⟩
theorem kI_ratCopy:ToC Tryz.prog 191 rRat:=by
 rintro V ⟨c0,c1,c2,cu⟩ ⟨x0,x1,x2,xu⟩ f hx ht
 obtain⟨ec0,hx⟩:=hx
 replace ec0:c0=x0:=ec0
 subst ec0
 obtain⟨f1,fr1,ec1,sc1,hx⟩:=hx
 subst ec1
 replace sc1:LR rI _ c1 x1 f1:=sc1
 obtain⟨f2,fr2,ec2,sc2,hx⟩:=hx
 subst ec2
 replace sc2:LR rI _ c2 x2 f2:=sc2
 replace hx:_=[]:=hx
 subst hx
 replace ht:(x1.length+totE rI x1+(x2.length+totE rI x2+0))≤1048576:=ht
 refine CallX.of_fits Tryz.mix (fI_ratCopy _) fun _=>?_
 simp only [tI_ratCopy,T.wp]
 refine(kI_intCopy _ _ (c0,x1,()) _ (rBool.mk (rSl.mk sc1 rNil.mk)) (by show(x1.length+totE rI x1+0)≤1048576; omega)).mono ?_
 rintro V0 r ⟨hle0,⟨d0,d1,du0⟩,k0,rfl,hr0,ho0⟩
 obtain⟨ed0,hr0⟩:=hr0
 replace ed0:d0=c0:=ed0
 subst ed0
 obtain⟨k0f1,k0r1,ed1,sd1,hr0⟩:=hr0
 subst ed1
 replace sd1:LR rI _ d1 x1 k0f1:=sd1
 replace hr0:_=[]:=hr0
 subst hr0
 refine⟨fun _=>hle0,(d0,d1,()),rfl,?_⟩
 refine(kI_natCopy _ _ x2 _ (sc2.le hle0) (by omega)).mono ?_
 rintro V2 r ⟨hle2,d2,k2,rfl,sd2,ho2⟩
 refine⟨fun _=>hle2,d2,rfl,?_⟩
 have hA2:=ho0.append ho2 hle0 hle2
 have hL2:=hle0.trans hle2
 replace sd1:=sd1.le hle2
 exact⟨hL2,(d0,d1,d2,()),_,rfl,(rBool.mk (rSl.mk sd1 (rSl.mk sd2 rNil.mk))),by simpa using hA2⟩
abbrev GrowPost (V:Know) (x:DRates):Know→Value→Prop:=fun V' r=>V.le V'∧∃ s f,r=qv5 (x.1,s,())∧GR rRate ratT V' s x.2.1 f∧Own V V' f
theorem growI_rates (V:Know) (c:Scs [.s,.l]) (x:DRates) (f:List Nat) (hx:rRates.R V c x f) (ht:rRates.tot x≤1048576):CallX Tryz.prog V 156 [qv5 c] (GrowPost V x):=by
 obtain⟨p0,s,cu⟩:=c
 obtain⟨q0,l,xu⟩:=x
 obtain⟨⟨ep,zp⟩,hx⟩:=hx
 replace ep:p0=q0:=ep
 subst ep
 obtain⟨f1,fr1,ef,sc,hx⟩:=hx
 subst ef
 replace sc:LR rRate _ s l f1:=sc
 replace hx:_=[]:=hx
 subst hx
 replace ht:(p0.size+(l.length+totE rRate l+0))≤1048576:=ht
 have hn:=sc.1
 refine CallX.of_fits Tryz.mix (fI_ratesCopy _) fun _=>?_
 simp only [tI_ratesCopy,ap_d,T.wp]
 refine⟨fun y V'=>y.2.1=p0∧CopyI rRate ratT V l y.1 y.2.2.1 V',fun y _=>((l.length:Int)-(y.1:Int)).toNat,⟨((0:Int),p0,⟨none,0,0⟩,()),rfl,rfl,CopyI.start⟩,?_⟩
 rintro⟨(i:Int),p1,s1,u⟩ V' ⟨hp,hI⟩
 replace hp:p1=p0:=hp
 subst hp
 have hI':CopyI rRate ratT V l i s1 V':=hI
 refine⟨fun hlt=>?_,fun hge=>?_⟩
 ·have hI0:=hI'
  obtain⟨hle,k,f0,rfl,hk,_,_⟩:=hI'
  have h1:k<l.length:=by
   have:(k:Int)<(s.n:Int):=by simpa using hlt
   omega
  obtain⟨b1,o1,c1,fc,a1,l1,r1,_⟩:=(sc.le hle).at h1
  have htx:=totE_mem rRate h1
  refine⟨_,a1,(by omega:(0:Int)≤(k:Int)),(by omega:(k:Int)<(s.n:Int)),c1,l1,?_⟩
  refine(kI_rateCopy V' c1 l[k] fc r1 (by omega)).mono ?_
  rintro V2 r ⟨hle2,⟨c2,c3,c4,c5,c6,cv⟩,f2,rfl,hR,hO⟩
  refine⟨fun _=>hle2,(c2,c3,c4,c5,c6,()),rfl,rfl,rfl,?_⟩
  refine copy_end (sh:=[.s,.s,.b,.l,.i .i64]) (c:=(c2,c3,c4,c5,c6,())) hI0 h1 hle2 (e:=rRate) (bytes:=72) (fx:=f2) hR hO (by kernel_rfl) (by omega) (by omega) fun s' V3 h3=>?_
  refine⟨_,rfl,(((k+1:Nat):Int),p1,s',()),by rw [nxt h1 (by omega)]; rfl,⟨rfl,h3⟩,?_⟩
  show((l.length:Int)-((k+1:Nat):Int)).toNat<((l.length:Int)-(k:Int)).toNat
  omega
 ·have hi:¬ i<(l.length:Int):=by
   have:¬ i<(s.n:Int):=by simpa using hge
   omega
  obtain⟨hle,f3,hL,hO⟩:=hI'.finG hi
  exact⟨hle,s1,f3,rfl,hL,hO⟩
theorem kI_ratesCopy:ToC Tryz.prog 156 rRates:=fun V c x f hx ht=>(growI_rates V c x f hx ht).mono (by
 rintro V' _ ⟨le,s,g,rfl,G,O⟩
 have e:rRates.tot x=x.1.size+(x.2.1.length+totE rRate x.2.1+0):=rfl
 exact⟨le,(x.1,s,()),g++[],rfl,rStr.mk hx.1.2 (rSl.mk (G.lr (by omega)) rNil.mk),by simpa using O⟩)
theorem kI_restsCopy:ToSC Tryz.prog 155 rRest:=by
 intro V s l f sc ht
 have hn:=sc.1
 refine CallX.of_fits Tryz.mix (fI_restsCopy _) fun _=>?_
 simp only [tI_restsCopy,ap_d,T.wp]
 intro b cap spare hb hc hsp
 refine⟨fun y V'=>CopyI rRest 164 V l y.2.1 y.1 V',fun y _=>((l.length:Int)-(y.2.1:Int)).toNat,⟨(⟨some ⟨b,0,none⟩,0,cap⟩,(0:Int),()),rfl,CopyI.start_made (Know.le.refl _) hb (by rw [hsp]; rfl)⟩,?_⟩
 rintro⟨s1,(i:Int),u⟩ V' hI
 have hI':CopyI rRest 164 V l i s1 V':=hI
 refine⟨fun hlt=>?_,fun hge=>?_⟩
 ·have hI0:=hI'
  obtain⟨hle,k,f0,rfl,hk,_,_⟩:=hI'
  have h1:k<l.length:=by
   have:(k:Int)<(s.n:Int):=by simpa using hlt
   omega
  obtain⟨b1,o1,c1,fc,a1,l1,r1,_⟩:=(sc.le hle).at h1
  have htx:=totE_mem rRest h1
  refine⟨_,a1,(by omega:(0:Int)≤(k:Int)),(by omega:(k:Int)<(s.n:Int)),c1,l1,?_⟩
  obtain⟨n1,m1⟩:=c1
  obtain⟨en,zn⟩:=r1.1
  refine(kI_ratCopy V' m1 l[k].2 fc r1.2 (by have:l[k].1.size+rRat.tot l[k].2=rRest.tot l[k]:=rfl; omega)).mono ?_
  rintro V2 r ⟨hle2,⟨c2,c3,c4,cv⟩,f2,rfl,hR,hO⟩
  refine⟨fun _=>hle2,(c2,c3,c4,()),rfl,rfl,rfl,?_⟩
  refine copy_end (sh:=[.s,.b,.l,.l]) (c:=(n1,c2,c3,c4,())) hI0 h1 hle2 (e:=rRest) (bytes:=72) (fx:=f2) ⟨⟨en,zn⟩,hR⟩ hO (by kernel_rfl) (by omega) (by omega) fun s' V3 h3=>?_
  refine⟨_,rfl,(s',((k+1:Nat):Int),()),by rw [nxt h1 (by omega)]; rfl,h3,?_⟩
  show((l.length:Int)-((k+1:Nat):Int)).toNat<((l.length:Int)-(k:Int)).toNat
  omega
 ·have hi:¬ i<(l.length:Int):=by
   have:¬ i<(s.n:Int):=by simpa using hge
   omega
  obtain⟨hle,f3,hL,hO⟩:=hI'.fin (by omega) hi
  exact⟨hle,s1,f3,rfl,hL,hO⟩
theorem kI_ledgerCopy:ToC Tryz.prog 104 rLedger:=by
 rintro V ⟨c0,c1,c2,c3,cu⟩ ⟨x0,x1,x2,x3,xu⟩ f hx ht
 obtain⟨f0,fr0,ec0,sc0,hx⟩:=hx
 subst ec0
 replace sc0:LR rAcct _ c0 x0 f0:=sc0
 obtain⟨f1,fr1,ec1,sc1,hx⟩:=hx
 subst ec1
 replace sc1:LR rRest _ c1 x1 f1:=sc1
 obtain⟨⟨ec2,zc2⟩,hx⟩:=hx
 replace ec2:c2=x2:=ec2
 subst ec2
 replace zc2:c2.size≤9223372036854775807:=zc2
 obtain⟨f3,fr3,ec3,sc3,hx⟩:=hx
 subst ec3
 replace sc3:LR rRate _ c3 x3 f3:=sc3
 replace hx:_=[]:=hx
 subst hx
 replace ht:(x0.length+totE rAcct x0+(x1.length+totE rRest x1+(c2.size+(x3.length+totE rRate x3+0))))≤1048576:=ht
 refine CallX.of_fits Tryz.mix (fI_ledgerCopy _) fun _=>?_
 simp only [tI_ledgerCopy,T.wp]
 refine(kI_bookCopy _ _ (x0,()) _ (rSl.mk sc0 rNil.mk) (by show(x0.length+totE rAcct x0+0)≤1048576; omega)).mono ?_
 rintro V0 r ⟨hle0,⟨d0,du0⟩,k0,rfl,hr0,ho0⟩
 obtain⟨k0f0,k0r0,ed0,sd0,hr0⟩:=hr0
 subst ed0
 replace sd0:LR rAcct _ d0 x0 k0f0:=sd0
 replace hr0:_=[]:=hr0
 subst hr0
 refine⟨fun _=>hle0,(d0,()),rfl,?_⟩
 refine(kI_restsCopy _ _ x1 _ (sc1.le hle0) (by omega)).mono ?_
 rintro V1 r ⟨hle1,d1,k1,rfl,sd1,ho1⟩
 refine⟨fun _=>hle1,d1,rfl,?_⟩
 have hA1:=ho0.append ho1 hle0 hle1
 have hL1:=hle0.trans hle1
 replace sd0:=sd0.le hle1
 refine(kI_ratesCopy _ _ (c2,x3,()) _ (rStr.mk zc2 (rSl.mk (sc3.le hL1) rNil.mk)) (by show(c2.size+(x3.length+totE rRate x3+0))≤1048576; omega)).mono ?_
 rintro V2 r ⟨hle2,⟨d2,d3,du2⟩,k2,rfl,hr2,ho2⟩
 obtain⟨⟨ed2,zd2⟩,hr2⟩:=hr2
 replace ed2:d2=c2:=ed2
 subst ed2
 replace zd2:d2.size≤9223372036854775807:=zd2
 obtain⟨k2f3,k2r3,ed3,sd3,hr2⟩:=hr2
 subst ed3
 replace sd3:LR rRate _ d3 x3 k2f3:=sd3
 replace hr2:_=[]:=hr2
 subst hr2
 refine⟨fun _=>hle2,(d2,d3,()),rfl,?_⟩
 have hA2:=hA1.append ho2 hL1 hle2
 have hL2:=hL1.trans hle2
 replace sd0:=sd0.le hle2
 replace sd1:=sd1.le hle2
 exact⟨hL2,(d0,d1,d2,d3,()),_,rfl,(rSl.mk sd0 (rSl.mk sd1 (rStr.mk zd2 (rSl.mk sd3 rNil.mk)))),by simpa using hA2⟩
def litT (s:SlV) (k:SlV→T):T :=
 .es [] 3 fun b1=>.ra ⟨s.a,s.n,s.c⟩ 1 fun y2 =>
 .rq (one y2=true∧s.n*(8:Nat)≤(140737488355328:Nat)∧s.n≤(9223372036854775807:Nat)) <|
 .br (decide (s.n=(0:Nat))) (k ⟨some ⟨b1,0,none⟩,0,0⟩) (.fz s.n y2 3 fun b3 c3=>k ⟨some ⟨b3,0,none⟩,s.n,c3⟩)
theorem litT_wp {P:Program} {K:Know→List Value→Prop} {V V0:Know} {Ns:List (List LV→Know→Prop)} {s:SlV} {l:List Lim} {f:List Nat} {k:SlV→T} (h:LR rI V0 s l f) (hl:l.length≤1048576)
  (hk:∀ V2 s' f',V.le V2→LR rI V2 s' l f'→Own V V2 f'→(k s').wp P K V2 V0 Ns):(litT s k).wp P K V V0 Ns:=by
 simp only [litT,T.wp]
 obtain⟨h1,h2⟩:=h.rdI
 have hn:=h.1
 intro b1 hb1
 have hV1:=kset_le (x:=(([]:List Value),((3:TypeId),((0,0):Nat × Nat)))) hb1
 refine⟨l.map cellI,?_,⟨h2,(by omega:s.n*8≤140737488355328),(by omega:s.n≤9223372036854775807)⟩,fun hz=>?_,fun hz b3 cap spare hb3 hc _=>?_⟩
 ·rcases h1 with ⟨q1,_,q3⟩ | q
  ·exact .inl ⟨q1,q3⟩
  ·exact .inr q
 ·have hz':s.n=0:=of_decide_eq_true hz
  have:l=[]:=List.eq_nil_of_length_eq_zero (by omega)
  subst this
  have hk':=newI (V:=V) (b:=b1) (cap:=0) (o:=[]) (spare:=[]) (t:=3) hb1 (Nat.le_refl _) (by simp)
  exact hk _ _ _ hV1 hk'.1 hk'.2
 ·have hc':l.length≤cap:=by rw [← hn]; exact hc
  have hk':=newI (V:=kset V b1 (([]:List Value),((3:TypeId),((0,0):Nat × Nat)))) (b:=b3) (cap:=cap) (o:=l) (spare:=spare) (t:=3) hb3 hc' (by omega)
  have hV3:=kset_le (x:=(l.map cellI++spare,((3:TypeId),((0,0):Nat × Nat)))) hb3
  refine hk _ _ [b3] (hV1.trans hV3) ?_ (hk'.2.pre hV1)
  rw [hn]; exact hk'.1
theorem kS_l19Rat:ToC Tryz.prog 144 rRat:=by
 rintro V ⟨c0,c1,c2,cu⟩ ⟨x0,x1,x2,xu⟩ f hx ht
 obtain⟨ec0,hx⟩:=hx
 replace ec0:c0=x0:=ec0
 subst ec0
 obtain⟨f1,fr1,ec1,sc1,hx⟩:=hx
 subst ec1
 replace sc1:LR rI _ c1 x1 f1:=sc1
 obtain⟨f2,fr2,ec2,sc2,hx⟩:=hx
 subst ec2
 replace sc2:LR rI _ c2 x2 f2:=sc2
 replace hx:_=[]:=hx
 subst hx
 replace ht:(x1.length+totE rI x1+(x2.length+totE rI x2+0))≤1048576:=ht
 refine CallX.of_fits Tryz.mix (fS_l19Rat _) fun _=>?_
 show T.wp _ _ (litT c1 fun s1=>litT c2 fun s2=>.ret [qv1 (c0,s1,s2,())]) V V []
 refine litT_wp sc1 (by omega) fun V1 s1 g1 hle1 L1 O1=>?_
 refine litT_wp sc2 (by omega) fun V2 s2 g2 hle2 L2 O2=>?_
 exact⟨hle1.trans hle2,(c0,s1,s2,()),_,rfl,rBool.mk (rSl.mk (L1.le hle2) (rSl.mk L2 rNil.mk)),by simpa using O1.append O2 hle1 hle2⟩
theorem kS_l19Copy:ToSC Tryz.prog 96 rRest:=by
 intro V s l f sc ht
 have hn:=sc.1
 refine CallX.of_fits Tryz.mix (fS_l19Copy _) fun _=>?_
 simp only [tS_l19Copy,ap_d,T.wp]
 intro b cap spare hb hc hsp
 refine⟨fun y V'=>CopyI rRest 164 V l y.2.1 y.1 V',fun y _=>((l.length:Int)-(y.2.1:Int)).toNat,⟨(⟨some ⟨b,0,none⟩,0,cap⟩,(0:Int),()),rfl,CopyI.start_made (Know.le.refl _) hb (by rw [hsp]; rfl)⟩,?_⟩
 rintro⟨s1,(i:Int),u⟩ V' hI
 have hI':CopyI rRest 164 V l i s1 V':=hI
 refine⟨fun hlt=>?_,fun hge=>?_⟩
 ·have hI0:=hI'
  obtain⟨hle,k,f0,rfl,hk,_,_⟩:=hI'
  have h1:k<l.length:=by
   have:(k:Int)<(s.n:Int):=by simpa using hlt
   omega
  obtain⟨b1,o1,c1,fc,a1,l1,r1,_⟩:=(sc.le hle).at h1
  have htx:=totE_mem rRest h1
  refine⟨_,a1,(by omega:(0:Int)≤(k:Int)),(by omega:(k:Int)<(s.n:Int)),c1,l1,?_⟩
  obtain⟨n1,m1⟩:=c1
  obtain⟨en,zn⟩:=r1.1
  refine(kS_l19Rat V' m1 l[k].2 fc r1.2 (by have:l[k].1.size+rRat.tot l[k].2=rRest.tot l[k]:=rfl; omega)).mono ?_
  rintro V2 r ⟨hle2,⟨c2,c3,c4,cv⟩,f2,rfl,hR,hO⟩
  refine⟨fun _=>hle2,(c2,c3,c4,()),rfl,rfl,rfl,?_⟩
  refine copy_end (sh:=[.s,.b,.l,.l]) (c:=(n1,c2,c3,c4,())) hI0 h1 hle2 (e:=rRest) (bytes:=72) (fx:=f2) ⟨⟨en,zn⟩,hR⟩ hO (by kernel_rfl) (by omega) (by omega) fun s' V3 h3=>?_
  refine⟨_,rfl,(s',((k+1:Nat):Int),()),by rw [nxt h1 (by omega)]; rfl,h3,?_⟩
  show((l.length:Int)-((k+1:Nat):Int)).toNat<((l.length:Int)-(k:Int)).toNat
  omega
 ·have hi:¬ i<(l.length:Int):=by
   have:¬ i<(s.n:Int):=by simpa using hge
   omega
  obtain⟨hle,f3,hL,hO⟩:=hI'.fin (by omega) hi
  exact⟨hle,s1,f3,rfl,hL,hO⟩
end Go.Proofs.YtceoihhldnnenaaGreatDoor
namespace Go.Proofs.YtceoihhldnnenaaGreatDoor
open Sx Go.MuLone
set_option maxRecDepth 100000
theorem kset_le2 {V V':Know} {b:Nat} {y:List Value × KTy} (h:V.le V') (hb:V b=none):V.le (kset V' b y):=fun k z hk=>by
 rw [kset_other (fun e=>by rw [e,hb] at hk; cases hk)]
 exact h k z hk
end Go.Proofs.YtceoihhldnnenaaGreatDoor
