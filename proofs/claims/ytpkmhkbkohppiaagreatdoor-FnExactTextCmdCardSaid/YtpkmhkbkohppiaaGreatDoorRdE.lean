/-
  Fractions read from their texts, in the program and in the reference.
-/
import Derived.Test.YtpkmhkbkohppiaaGreatDoorMath
import Derived.Test.YtpkmhkbkohppiaaGreatDoorRdB
import Derived.Test.YtpkmhkbkohppiaaGreatDoorShelf
import Derived.Test.YtpkmhkbkohppiaaGreatDoorLedA
import Derived.Test.YtpkmhkbkohppiaaGreatDoorJoinX
namespace Go.Proofs.YtpkmhkbkohppiaaGreatDoor
open Sx
def apD (s:SlV) (sz bytes:Nat) (ys:List Value) (m:Nat) (t:TypeId) (k:SlV→T):T:=.ap s sz bytes ys m t k
theorem ap_d (s:SlV) (sz bytes:Nat) (ys:List Value) (m:Nat) (t:TypeId) (k:SlV→T):T.ap s sz bytes ys m t k=apD s sz bytes ys m t k:=rfl
section
variable {sh:List Sc} {α:Type}
def GR (r:Rp sh α) (t:TypeId) (V:Know) (s:SlV) (l:List α) (f:List Nat):Prop :=
 s.n=l.length∧s.n≤s.c∧((s.a=none∧s.c=0∧l=[]∧f=[]) ∨
  ∃ b fps cs post,s.a=some ⟨b,0,none⟩∧V b=some (cs.flatMap (Scs.vals sh)++post,(t,(0,0)))∧post.length=(s.c-s.n)*sh.length∧Els r V cs l fps∧f=b :: fps)
theorem GR.nil {r:Rp sh α} {t:TypeId} {V:Know}:GR r t V ⟨none,0,0⟩ [] []:=⟨rfl,Nat.le_refl _,.inl ⟨rfl,rfl,rfl,rfl⟩⟩
theorem GR.lr {r:Rp sh α} {t:TypeId} {V:Know} {s:SlV} {l:List α} {f:List Nat} (h:GR r t V s l f) (hn:l.length≤9223372036854775807):LR r V s l f:=by
 obtain⟨h1,h2,h3⟩:=h
 refine⟨h1,h2,by omega,?_⟩
 rcases h3 with ⟨ha,hc,rfl,rfl⟩ | ⟨b,fps,cs,post,ha,hb,hp,he,rfl⟩
 ·exact .inl ⟨h1,fun _=>hc,rfl⟩
 ·exact .inr ⟨b,[],post,_,fps,cs,ha,hb,he,rfl⟩
theorem GR.loc {r:Rp sh α} {t:TypeId} {V V':Know} {s:SlV} {l:List α} {f:List Nat} (h:GR r t V s l f) (hb:∀ b∈f,V' b=V b):GR r t V' s l f:=by
 obtain⟨h1,h2,h3⟩:=h
 refine⟨h1,h2,?_⟩
 rcases h3 with h3 | ⟨b,fps,cs,post,ha,hv,hp,he,rfl⟩
 ·exact .inl h3
 ·exact .inr ⟨b,fps,cs,post,ha,by rw [hb b (by simp),hv],hp,he.loc fun x hx=>hb x (by simp [hx]),rfl⟩
theorem GR.le {r:Rp sh α} {t:TypeId} {V V':Know} {s:SlV} {l:List α} {f:List Nat} (h:GR r t V s l f) (hle:V.le V'):GR r t V' s l f:=by
 obtain⟨h1,h2,h3⟩:=h
 refine⟨h1,h2,?_⟩
 rcases h3 with h3 | ⟨b,fps,cs,post,ha,hb,hp,he,rfl⟩
 ·exact .inl h3
 ·exact .inr ⟨b,fps,cs,post,ha,hle _ _ hb,hp,he.le hle,rfl⟩
theorem ap_row {P:Program} {r:Rp sh α} {t:TypeId} {V0 V Vd:Know} {s:SlV} {l:List α} {f fx:List Nat} {c:Scs sh} {x:α} {bytes:Nat} {k:SlV→T} {K:Know→List Value→Prop} {Ns:List (List LV→Know→Prop)}
  (h:GR r t V s l f) (hx:r.R V c x fx) (hO:Own V0 V (f++fx)) (hle:V0.le V) (hP:P.cellsOf t=sh.length)
  (hb:(l.length+1)*bytes≤140737488355328) (hl:l.length+1≤9223372036854775807)
  (hk:∀ s' V' f',GR r t V' s' (l++[x]) f'→Own V0 V' f'→V0.le V'→(k s').wp P K V' Vd Ns) :
  (T.ap s sh.length bytes (Scs.vals sh c) 1 t k).wp P K V Vd Ns:=by
 obtain⟨h1,h2,h3⟩:=h
 simp only [T.wp]
 refine⟨h2,fun ha=>?_,fun h=>absurd h (by decide),fun _ hroom=>?_,fun _ hroom=>⟨by rw [h1]; exact hb,by rw [h1]; exact hl,?_⟩⟩
 ·rcases h3 with ⟨_,hc,_⟩ | ⟨b,fps,cs,post,ha',_⟩
  ·exact hc
  ·rw [ha] at ha'; cases ha'
 ·rcases h3 with ⟨_,hc,_⟩ | ⟨b,fps,cs,post,ha,hbk,hp,he,rfl⟩
  ·omega
  have hcl:cs.length=l.length:=he.len
  have hfl:(cs.flatMap (Scs.vals sh)).length=s.n*sh.length:=by rw [flat_len,hcl,h1]
  have hpl:sh.length≤post.length:=by
   rw [hp]; exact Nat.le_mul_of_pos_left _ (by omega)
  have hset:setl (cs.flatMap (Scs.vals sh)++post) (s.n*sh.length) (Scs.vals sh c)=(cs++[c]).flatMap (Scs.vals sh)++post.drop sh.length:=by
   rw [setl_mid hfl.symm (by rw [vals_len]; exact hpl),vals_len]
   simp
  have hnd:b ∉ fps∧b ∉ fx:=by
   have:=hO.1
   simp only [List.cons_append,List.nodup_cons,List.mem_append,not_or] at this
   exact this.1
  have hoff:∀ (y:List Value × KTy) (g:List Nat),b ∉ g→∀ b'∈g,kset V b y b'=V b':=fun y g hg b' hb'=>by
   simp only [kset]; rw [if_neg (fun e:b'=b=>hg (by rw [← e]; exact hb'))]
  refine⟨b,_,ha,hbk,?_,?_⟩
  ·rw [List.length_append,hfl,hp,← Nat.add_mul]
   exact Nat.mul_le_mul_right _ (by omega)
  ·rw [hset]
   refine hk _ _ (b :: (fps++fx)) ⟨by simp [h1],by show s.n+1≤s.c; omega,.inr ⟨b,fps++fx,cs++[c],post.drop sh.length,ha,kset_same,?_,?_,rfl⟩⟩ ⟨by simpa using hO.1,by simpa using hO.2.1,?_⟩ ?_
   ·rw [List.length_drop,hp,← Nat.sub_one_mul]
    congr 1
   ·exact(he.loc (hoff _ _ hnd.1)).snoc (r.loc hx (hoff _ _ hnd.2))
   ·intro b' hb'
    rcases List.mem_cons.1 hb' with rfl | hb'
    ·exact⟨_,_,kset_same⟩
    ·have hne:b'≠b:=fun e=>by
      rw [e] at hb'
      rcases List.mem_append.1 hb' with h | h
      ·exact hnd.1 h
      ·exact hnd.2 h
     obtain⟨u,v,huv⟩:=hO.2.2 b' (by simp only [List.cons_append,List.mem_cons]; exact .inr hb')
     exact⟨u,v,by simp only [kset]; rw [if_neg hne]; exact huv⟩
   ·intro b' y hy
    have hne:b'≠b:=fun e=>by
     subst e
     have:=hO.2.1 b' (by simp)
     rw [this] at hy; cases hy
    simp only [kset]; rw [if_neg hne]; exact hle b' y hy
 ·have hgo:∀ (cs:List (Scs sh)) (fps:List Nat),Els r V cs l fps→(∀ b∈fps,b∈f)→fps.Nodup→(∀ b∈fps,b ∉ fx) →
    ∀ b cap spare,V b=none→s.n+1≤cap→spare.length=(cap-(s.n+1))*P.cellsOf t →
    (k ⟨some ⟨b,0,none⟩,s.n+1,cap⟩).wp P K (kset V b ((cs.flatMap (Scs.vals sh)++Scs.vals sh c)++spare,(t,(0,0)))) Vd Ns:=by
   intro cs fps he hsub hnd hdis b cap spare hbn hcap hsp
   have hV:=kset_le (x:=((cs.flatMap (Scs.vals sh)++Scs.vals sh c)++spare,(t,(0,0)))) hbn
   have hin:∀ b'∈fps++fx,b'∈f++fx:=fun b' hb'=>by
    rcases List.mem_append.1 hb' with h | h
    ·exact List.mem_append.2 (.inl (hsub b' h))
    ·exact List.mem_append.2 (.inr h)
   have hn:b ∉ fps++fx:=fun hm=>by
    obtain⟨u,v,huv⟩:=hO.2.2 b (hin b hm)
    rw [hbn] at huv; cases huv
   refine hk _ _ (b :: (fps++fx)) ⟨by simp [h1],hcap,.inr ⟨b,fps++fx,cs++[c],spare,rfl,?_,by rw [hsp,hP],(he.le hV).snoc (r.le hx hV),rfl⟩⟩ ⟨List.nodup_cons.2 ⟨hn,?_⟩,fun b' hb'=>?_,fun b' hb'=>?_⟩ (hle.trans hV)
   ·rw [kset_same]; simp
   ·have:=List.nodup_append.1 hO.1
    exact List.nodup_append.2 ⟨hnd,this.2.1,fun a ha b hb e=>hdis a ha (e ▸ hb)⟩
   ·rcases List.mem_cons.1 hb' with rfl | hb'
    ·exact none_of_le hle hbn
    ·exact hO.2.1 b' (hin b' hb')
   ·rcases List.mem_cons.1 hb' with rfl | hb'
    ·exact⟨_,_,kset_same⟩
    ·obtain⟨u,v,huv⟩:=hO.2.2 b' (hin b' hb')
     exact⟨u,v,hV _ _ huv⟩
  rcases h3 with ⟨ha,hc,rfl,rfl⟩ | ⟨b,fps,cs,post,ha,hbk,hp,he,rfl⟩
  ·exact⟨[],.inl ⟨ha,h1,hc,rfl⟩,rfl,fun b cap spare hb hcap hsp=>by
    have:=hgo [] [] rfl (fun _ h=>by cases h) List.nodup_nil (fun _ h=>by cases h) b cap spare hb hcap hsp
    simpa using this⟩
  ·have hcl:cs.length=l.length:=he.len
   have hfl:(cs.flatMap (Scs.vals sh)).length=s.n*sh.length:=by rw [flat_len,hcl,h1]
   have hnt:∀ cs:List (Scs sh),noTup (cs.flatMap (Scs.vals sh))=true:=fun cs=>by
    induction cs with
    | nil=>rfl
    | cons c cs ih =>
     have hv:=vals_noTup sh c
     unfold noTup at ih hv ⊢
     rw [List.flatMap_cons,List.all_append,hv,ih]; rfl
   refine⟨_,.inr ⟨⟨b,0,none⟩,ha,?_⟩,hnt cs,hgo cs fps he (fun b' hb'=>by simp [hb']) ?_ ?_⟩
   ·simp only [loadV,hbk]
    rw [← hfl]; exact cutv_head
   ·have:=List.nodup_append.1 hO.1
    exact(List.nodup_cons.1 this.1).2
   ·have:=List.nodup_append.1 hO.1
    exact fun b' hb' hx'=>this.2.2 b' (by simp [hb']) b' hx' rfl
def CopyI (e:Rp sh α) (t:TypeId) (V0:Know) (l:List α) (i:Int) (s:SlV) (V:Know):Prop :=
 V0.le V∧∃ (k:Nat) (f:List Nat),i=(k:Int)∧k≤l.length∧GR e t V s (l.take k) f∧Own V0 V f
theorem CopyI.start {e:Rp sh α} {t:TypeId} {V:Know} {l:List α}:CopyI e t V l 0 ⟨none,0,0⟩ V:=⟨Know.le.refl _,0,[],rfl,Nat.zero_le _,by simpa using GR.nil,Own.nil⟩
theorem CopyI.fin {e:Rp sh α} {t:TypeId} {V0 V:Know} {l:List α} {i:Int} {s:SlV} (h:CopyI e t V0 l i s V) (hl:l.length≤9223372036854775807) (hi:¬ i<(l.length:Int)) :
  V0.le V∧∃ f,LR e V s l f∧Own V0 V f:=by
 obtain⟨h1,k,f,rfl,hk,hg,ho⟩:=h
 obtain rfl:k=l.length:=by omega
 rw [List.take_length] at hg
 exact⟨h1,f,hg.lr hl,ho⟩
end
end Go.Proofs.YtpkmhkbkohppiaaGreatDoor
namespace Go.Proofs.YtpkmhkbkohppiaaGreatDoor
open Sx Go.RowKit
set_option maxRecDepth 100000
theorem lr_texts {V:Know} {b cap:Nat} {ns:List ByteArray} {post:List Value} {t:KTy} (h:V b=some (ns.map Value.string++post,t)) (hz:∀ n∈ns,n.size≤9223372036854775807) (hc:ns.length≤cap) (hl:ns.length≤9223372036854775807) :
  LR rString V ⟨some ⟨b,0,none⟩,ns.length,cap⟩ (ns.map fun n=>(n,())) [b] :=
 lr_lit (fps:=[]) (cs:=ns.map fun n=>(n,())) (els_ns hz) (by rw [vals_ns]; exact h) (by simp) (by simpa using hc) (by simpa using hl)
theorem own_one {V V':Know} {b:Nat} {c:List Value} {u:TypeId} (h:V b=none) (k:V' b=some (c,(u,(0,0)))):Own V V' [b] :=
 ⟨by simp,fun y hy=>by
  obtain rfl:y=b:=by simpa using hy
  exact h,fun y hy=>by
  obtain rfl:y=b:=by simpa using hy
  exact⟨_,_,k⟩⟩
abbrev CutPost (V:Know) (c:UInt8) (s:ByteArray):Know→Value→Prop:=fun V' r=>V.le V'∧∃ t f,r=Sc.val .l t∧LR rString V' t (cutB c s) f∧Own V V' f
def CutInv (c:UInt8) (s:ByteArray) (out:List ByteArray) (fr i:Nat):Prop:=fr≤i∧i≤s.size∧out.length≤i∧(∀ x∈out,x.size≤s.size)∧out.map bl++cutA c (((bl s).take i).drop fr) ((bl s).drop i)=cutA c [] (bl s)
theorem CutInv.start {c:UInt8} {s:ByteArray}:CutInv c s [] 0 0:=⟨Nat.le_refl _,Nat.zero_le _,Nat.le_refl _,(fun _ h=>by cases h),rfl⟩
theorem CutInv.hit {c:UInt8} {s:ByteArray} {out:List ByteArray} {fr i:Nat} (h:CutInv c s out fr i) (hi:i<(bl s).length) (hc:(bl s)[i]=c):CutInv c s (out++[s.extract fr i]) (i+1) (i+1):=by
 obtain⟨h1,h2,h3,h4,h5⟩:=h
 have hl:=bl_len s
 refine⟨Nat.le_refl _,by omega,by simp; omega,fun x hx=>?_,?_⟩
 ·rcases List.mem_append.1 hx with k | k
  ·exact h4 x k
  ·obtain rfl:x=s.extract fr i:=by simpa using k
   rw [ByteArray.size_extract]; omega
 ·rw [← h5,List.drop_eq_getElem_cons hi,cutA,if_pos hc,take_drop_self,List.map_append,List.append_assoc]
  show out.map bl++(bl (s.extract fr i) :: _)=_
  rw [bl_extract]
  rfl
theorem CutInv.miss {c:UInt8} {s:ByteArray} {out:List ByteArray} {fr i:Nat} (h:CutInv c s out fr i) (hi:i<(bl s).length) (hc:(bl s)[i]≠c):CutInv c s out fr (i+1):=by
 obtain⟨h1,h2,h3,h4,h5⟩:=h
 have hl:=bl_len s
 refine⟨by omega,by omega,by omega,h4,?_⟩
 rw [← h5,List.drop_eq_getElem_cons hi,cutA,if_neg hc,take_drop_snoc hi h1]
theorem CutInv.stop {c:UInt8} {s:ByteArray} {out:List ByteArray} {fr:Nat} (h:CutInv c s out fr s.size):cutB c s=(out++[s.extract fr s.size]).map fun n=>(n,()):=by
 obtain⟨h1,h2,h3,h4,h5⟩:=h
 have hl:=bl_len s
 unfold cutB
 rw [← h5,show(bl s).drop s.size=[] from List.drop_of_length_le (by omega),cutA,← bl_extract]
 have:out.map bl++[bl (s.extract fr s.size)]=(out++[s.extract fr s.size]).map bl:=by simp
 rw [this,List.map_map]
 refine List.map_congr_left fun x _=>?_
 show(ofL (bl x),())=(x,())
 rw [of_bl]
theorem cut_fin {V V':Know} {c:UInt8} {s:ByteArray} {out:List ByteArray} {fr:Nat} (hs:s.size≤1048576) (le:V.le V') (h:CutInv c s out fr s.size) {b cap:Nat} {sp:List Value} (hb:V' b=none) (hc:out.length+1≤cap) :
  CutPost V c s (kset V' b ((out.map Value.string++[Value.string (s.extract fr s.size)])++sp,(9,(0,0)))) (packed [.slice (some ⟨b,0,none⟩) (out.length+1) cap]):=by
 have hx:∀ n∈out++[s.extract fr s.size],n.size≤9223372036854775807:=fun n hn=>by
  rcases List.mem_append.1 hn with k | k
  ·have:=h.2.2.2.1 n k; omega
  ·obtain rfl:n=s.extract fr s.size:=by simpa using k
   rw [ByteArray.size_extract]; omega
 have h3:=h.2.2.1
 have e:(out.map Value.string++[Value.string (s.extract fr s.size)])=(out++[s.extract fr s.size]).map Value.string:=by simp
 have hst:=h.stop
 rw [e]
 have L:=lr_texts (V:=kset V' b ((out++[s.extract fr s.size]).map Value.string++sp,(9,(0,0)))) (b:=b) (cap:=cap) (post:=sp) (t:=(9,(0,0))) kset_same hx (by simpa using hc) (by simp; omega)
 have en:(out++[s.extract fr s.size]).length=out.length+1:=by simp
 rw [en] at L
 exact⟨le.trans (kset_le hb),_,[b],rfl,by rw [hst]; exact L,own_one (none_of_le le hb) kset_same⟩
theorem str_cells:Tryz.prog.cellsOf 9=1:=by kernel_rfl
abbrev CutPostG (V:Know) (c:UInt8) (s:ByteArray):Know→Value→Prop:=fun V' r=>V.le V'∧∃ t f,r=Sc.val .l t∧GR rString 9 V' t (cutB c s) f∧Own V V' f
theorem cut_finG {V V':Know} {c:UInt8} {s:ByteArray} {out:List ByteArray} {fr:Nat} (hs:s.size≤1048576) (le:V.le V') (h:CutInv c s out fr s.size) {b cap:Nat} {sp:List Value} (hb:V' b=none) (hc:out.length+1≤cap) (hp:sp.length=(cap-(out.length+1))*Tryz.prog.cellsOf 9) :
  CutPostG V c s (kset V' b ((out.map Value.string++[Value.string (s.extract fr s.size)])++sp,(9,(0,0)))) (packed [.slice (some ⟨b,0,none⟩) (out.length+1) cap]):=by
 have hx:∀ n∈out++[s.extract fr s.size],n.size≤9223372036854775807:=fun n hn=>by
  rcases List.mem_append.1 hn with k | k
  ·have:=h.2.2.2.1 n k; omega
  ·obtain rfl:n=s.extract fr s.size:=by simpa using k
   rw [ByteArray.size_extract]; omega
 have e:(out.map Value.string++[Value.string (s.extract fr s.size)])=(out++[s.extract fr s.size]).map Value.string:=by simp
 have hst:=h.stop
 rw [e]
 refine⟨le.trans (kset_le hb),⟨some ⟨b,0,none⟩,out.length+1,cap⟩,[b],rfl,?_,own_one (none_of_le le hb) kset_same⟩
 rw [hst]
 refine⟨by simp,hc,.inr ⟨b,[],_,sp,rfl,?_,by rw [hp,str_cells]; rfl,els_ns hx,rfl⟩⟩
 rw [kset_same,vals_ns]
theorem byte_eq {a b:UInt8}:((a.toNat:Int) == (b.toNat:Int))=true↔a=b:=by
 constructor
 ·intro h
  have:(a.toNat:Int)=(b.toNat:Int):=by simpa using h
  exact UInt8.toNat_inj.1 (by omega)
 ·rintro rfl; simp
theorem cS_CutAtG (V:Know) (s:ByteArray) (c:UInt8) (hs:s.size≤1048576):CallX Tryz.prog V 16 [.string s,.string ⟨#[c]⟩] (CutPostG V c s):=by
 refine CallX.of_fits Tryz.mix (fS_CutAt _ _) fun _=>?_
 simp only [tS_CutAt,T.wp]
 have hl:=bl_len s
 refine⟨fun y V'=>V'=V∧∃ (out:List ByteArray) (fr i:Nat),y.1.1=out.length∧y.1.2=out.map Value.string∧(y.2.1:Int)=(fr:Int)∧(y.2.2.1:Int)=(i:Int)∧CutInv c s out fr i,fun y _=>((s.size:Int)-(y.2.2.1:Int)).toNat,
  ⟨((0,[]),(0:Int),(0:Int),()),rfl,rfl,[],0,0,rfl,rfl,rfl,rfl,CutInv.start⟩,?_⟩
 rintro⟨⟨(m:Nat),(ys:List Value)⟩,(q:Int),(i:Int),u⟩ V' ⟨rfl,out,fr,k,hm,hy,hq,hi,inv⟩
 replace hm:m=out.length:=hm
 replace hy:ys=out.map Value.string:=hy
 replace hq:q=(fr:Int):=hq
 replace hi:i=(k:Int):=hi
 subst hm hy hq hi
 obtain⟨i1,i2,i3,i4,_⟩:=inv
 have inv:CutInv c s out fr k:=⟨i1,i2,i3,i4,by assumption⟩
 refine⟨fun hlt=>?_,fun hge=>?_⟩
 ·have hk:k<s.size:=by
   have:(k:Int)<(s.size:Int):=of_decide_eq_true hlt
   omega
  have hk':k<(bl s).length:=by omega
  have hw:IntKind.i64.wrap ((k:Int)+1)=((k+1:Nat):Int):=by rw [wrap_i64 (by omega)]; omega
  have hmm:((s.size:Int)-((k+1:Nat):Int)).toNat<((s.size:Int)-(k:Int)).toNat:=by omega
  refine⟨fun y V''=>V''=V'∧y.1.1=out.length∧y.1.2=out.map Value.string∧(y.2.1:Int)=(fr:Int)∧((y.2.2.1:Int)=0∨((y.2.2.1:Int)=1∧(bl s)[k]≠c)),fun y _=>(1-(y.2.2.1:Int)).toNat,
   ⟨((out.length,out.map Value.string),(fr:Int),(0:Int),()),rfl,rfl,rfl,rfl,rfl,.inl rfl⟩,?_⟩
  rintro⟨⟨(m:Nat),(ys:List Value)⟩,(q:Int),(z:Int),u⟩ V'' ⟨rfl,hm,hy,hq,hz⟩
  replace hm:m=out.length:=hm
  replace hy:ys=out.map Value.string:=hy
  replace hq:q=(fr:Int):=hq
  replace hz:z=0∨(z=1∧(bl s)[k]≠c):=hz
  subst hm hy hq
  refine⟨fun hz1=>?_,fun hz1=>?_⟩
  ·have hz0:z=0:=by
    have:z<((1:Nat):Int):=of_decide_eq_true hz1
    rcases hz with h | ⟨h,_⟩ <;> omega
   subst hz0
   dsimp only
   have ek:at0 s (k:Int).toNat=((bl s)[k].toNat:Int):=by rw [Int.toNat_natCast]; exact at0_bl hk'
   have ec:at0 (⟨#[c]⟩:ByteArray) (Int.toNat (0:Int))=(c.toNat:Int):=rfl
   rw [ek,ec]
   refine⟨⟨(by omega:(0:Int)≤(k:Int)),(by omega:(k:Int)<(s.size:Int))⟩,⟨by omega,(by decide:(0:Int)<((1:Nat):Int))⟩,fun heq=>?_,fun hne=>?_⟩
   ·have hcc:=byte_eq.1 heq
    rw [Int.toNat_natCast,Int.toNat_natCast]
    refine⟨⟨(by omega:(0:Int)≤(fr:Int)),(by omega:(fr:Int)≤(k:Int)),(by omega:(k:Int)≤(s.size:Int))⟩,rfl,⟨rfl,(by omega:(out.length+1)*16≤140737488355328),(by omega:out.length+1≤9223372036854775807)⟩,_,rfl,((out.length+1,(out++[s.extract fr k]).map Value.string),((k+1:Nat):Int),((k+1:Nat):Int),()),?_,⟨rfl,out++[s.extract fr k],k+1,k+1,by simp,rfl,rfl,rfl,inv.hit hk' hcc⟩,hmm⟩
    rw [hw]
    simp [LShs.lvs,LSh.lv,Sh1.val,Sc.val]
   ·have hcc:(bl s)[k]≠c:=fun e=>by rw [byte_eq.2 e] at hne; cases hne
    refine⟨_,rfl,((out.length,out.map Value.string),(fr:Int),(1:Int),()),rfl,⟨rfl,rfl,rfl,rfl,.inr ⟨rfl,hcc⟩⟩,(by show(1-(1:Int)).toNat<(1-(0:Int)).toNat; decide)⟩
  ·have hz0:(bl s)[k]≠c:=by
    have:¬ z<((1:Nat):Int):=of_decide_eq_false hz1
    rcases hz with h | ⟨_,h⟩
    ·omega
    ·exact h
   exact⟨_,rfl,((out.length,out.map Value.string),(fr:Int),((k+1:Nat):Int),()),by dsimp only; rw [hw]; rfl,⟨rfl,out,fr,k+1,rfl,rfl,rfl,rfl,inv.miss hk' hz0⟩,hmm⟩
 ·have hk:k=s.size:=by
   have:¬ (k:Int)<(s.size:Int):=of_decide_eq_false hge
   omega
  subst hk
  dsimp only
  rw [Int.toNat_natCast,Int.toNat_natCast]
  refine⟨⟨(by omega:(0:Int)≤(fr:Int)),(by omega:(fr:Int)≤(s.size:Int)),Int.le_refl _⟩,rfl,⟨rfl,(by omega:(out.length+1)*16≤140737488355328),(by omega:out.length+1≤9223372036854775807)⟩,fun b cap sp hb hcap hsp=>?_⟩
  exact cut_finG hs (Know.le.refl _) inv hb hcap hsp
theorem cS_CutAt (V:Know) (s:ByteArray) (c:UInt8) (hs:s.size≤1048576):CallX Tryz.prog V 16 [.string s,.string ⟨#[c]⟩] (CutPost V c s):=by
 refine(cS_CutAtG V s c hs).mono ?_
 rintro V' r ⟨le,t,f,e,G,O⟩
 exact⟨le,t,f,e,G.lr (by have:=cutB_len c s; omega),O⟩
theorem index_one (a c:UInt8):Go.Lib.indexByte (⟨#[c]⟩:ByteArray).data.toList a≥0↔a=c:=by
 show Go.Lib.indexByte [c] a≥0↔_
 unfold Go.Lib.indexByte
 by_cases h:c=a
 ·rw [if_pos (by simp [h])]; simp [h]
 ·rw [if_neg (by simp [h])]
  unfold Go.Lib.indexByte
  simp
  exact fun e=>h e.symm
theorem cX_IndexByte (V:Know) (s:ByteArray) (c:Int):CallX Tryz.prog V 93 [.string s,.int .u8 c] (fun V' r=>V'=V∧r=.int .i64 (Go.Lib.indexByte s.data.toList c.toNat.toUInt8)):=by
 refine CallX.of_calls ⟨_,Tryz.func93,by kernel_rfl,by kernel_rfl⟩ fun w _=>?_
 refine(Tryz.strings_IndexByte s c w).mono ?_
 rintro e w' ⟨rfl,rfl⟩
 exact⟨rfl,Below.refl _ _⟩
theorem cI_CutAt (V:Know) (s:ByteArray) (c:UInt8) (hs:s.size≤1048576):CallX Tryz.prog V 66 [.string s,.string ⟨#[c]⟩] (CutPost V c s):=by
 refine CallX.of_fits Tryz.mix (fI_CutAt _ _) fun _=>?_
 simp only [tI_CutAt,T.wp]
 have hl:=bl_len s
 refine⟨fun y V'=>V'=V∧∃ (out:List ByteArray) (fr i:Nat),y.1.1=out.length∧y.1.2=out.map Value.string∧(y.2.1:Int)=(fr:Int)∧(y.2.2.1:Int)=(i:Int)∧CutInv c s out fr i,fun y _=>((s.size:Int)-(y.2.2.1:Int)).toNat,
  ⟨((0,[]),(0:Int),(0:Int),()),rfl,rfl,[],0,0,rfl,rfl,rfl,rfl,CutInv.start⟩,?_⟩
 rintro⟨⟨(m:Nat),(ys:List Value)⟩,(q:Int),(i:Int),u⟩ V' ⟨rfl,out,fr,k,hm,hy,hq,hi,inv⟩
 replace hm:m=out.length:=hm
 replace hy:ys=out.map Value.string:=hy
 replace hq:q=(fr:Int):=hq
 replace hi:i=(k:Int):=hi
 subst hm hy hq hi
 have i1:=inv.1
 have i2:=inv.2.1
 have i3:=inv.2.2.1
 refine⟨fun hlt=>?_,fun hge=>?_⟩
 ·have hk:k<s.size:=by
   have:(k:Int)<(s.size:Int):=of_decide_eq_true hlt
   omega
  have hk':k<(bl s).length:=by omega
  have hw:IntKind.i64.wrap ((k:Int)+1)=((k+1:Nat):Int):=by rw [wrap_i64 (by omega)]; omega
  have hmm:((s.size:Int)-((k+1:Nat):Int)).toNat<((s.size:Int)-(k:Int)).toNat:=by omega
  have ek:at0 s (k:Int).toNat=((bl s)[k].toNat:Int):=by rw [Int.toNat_natCast]; exact at0_bl hk'
  have eu:((bl s)[k].toNat:Int).toNat.toUInt8=(bl s)[k]:=by
   apply UInt8.toNat_inj.1
   rw [Int.toNat_natCast]
   show(UInt8.ofNat (bl s)[k].toNat).toNat=_
   simp
  dsimp only
  rw [ek]
  refine⟨⟨(by omega:(0:Int)≤(k:Int)),(by omega:(k:Int)<(s.size:Int))⟩,(cX_IndexByte V' _ _).mono ?_⟩
  rintro V1 _ ⟨rfl,rfl⟩
  rw [eu]
  refine⟨nofun,_,rfl,fun heq=>?_,fun hne=>?_⟩
  ·have hcc:=(index_one _ _).1 (of_decide_eq_true heq)
   rw [Int.toNat_natCast,Int.toNat_natCast]
   refine⟨⟨(by omega:(0:Int)≤(fr:Int)),(by omega:(fr:Int)≤(k:Int)),(by omega:(k:Int)≤(s.size:Int))⟩,rfl,⟨rfl,(by omega:(out.length+1)*16≤140737488355328),(by omega:out.length+1≤9223372036854775807)⟩,_,rfl,((out.length+1,(out++[s.extract fr k]).map Value.string),((k+1:Nat):Int),((k+1:Nat):Int),()),?_,⟨rfl,out++[s.extract fr k],k+1,k+1,by simp,rfl,rfl,rfl,inv.hit hk' hcc⟩,hmm⟩
   rw [hw]
   simp [LShs.lvs,LSh.lv,Sh1.val,Sc.val]
  ·have hcc:(bl s)[k]≠c:=fun e=>of_decide_eq_false hne ((index_one _ _).2 e)
   exact⟨_,rfl,((out.length,out.map Value.string),(fr:Int),((k+1:Nat):Int),()),by rw [hw]; rfl,⟨rfl,out,fr,k+1,rfl,rfl,rfl,rfl,inv.miss hk' hcc⟩,hmm⟩
 ·have hk:k=s.size:=by
   have:¬ (k:Int)<(s.size:Int):=of_decide_eq_false hge
   omega
  subst hk
  dsimp only
  rw [Int.toNat_natCast,Int.toNat_natCast]
  refine⟨⟨(by omega:(0:Int)≤(fr:Int)),(by omega:(fr:Int)≤(s.size:Int)),Int.le_refl _⟩,rfl,⟨rfl,(by omega:(out.length+1)*16≤140737488355328),(by omega:out.length+1≤9223372036854775807)⟩,fun b cap sp hb hcap _=>?_⟩
  exact cut_fin hs (Know.le.refl _) inv hb hcap
theorem cS_Cut (V:Know) (s:ByteArray) (hs:s.size≤1048576):CallX Tryz.prog V 10 [.string s] (CutPost V 32 s):=by
 refine CallX.of_fits Tryz.mix (fS_Cut _) fun _=>?_
 simp only [tS_Cut,T.wp]
 refine(cS_CutAt V s 32 hs).mono ?_
 rintro V1 _ ⟨le1,t,f,rfl,L,O⟩
 exact⟨nofun,t,rfl,le1,t,f,rfl,L,O⟩
end Go.Proofs.YtpkmhkbkohppiaaGreatDoor
namespace Go.Proofs.YtpkmhkbkohppiaaGreatDoor
open Sx
section
variable {sh:List Sc} {α:Type}
theorem Els.set {r:Rp sh α} {V:Know} {c':Scs sh} {x':α} {fx:List Nat} (hx:r.R V c' x' fx) (nx:fx.Nodup):∀ {cs:List (Scs sh)} {l:List α} {fp:List Nat} {i:Nat},Els r V cs l fp→fp.Nodup→(∀ b∈fx,b ∉ fp)→i<l.length →
  ∃ fp',Els r V (cs.set i c') (l.set i x') fp'∧fp'.Nodup∧∀ b∈fp',b∈fp∨b∈fx
 | c :: cs,x :: l,_,0,⟨f,g,rfl,h1,h2⟩,nd,dj,_=>by
  have n2:=(List.nodup_append.1 nd).2.1
  refine⟨fx++g,⟨fx,g,rfl,hx,h2⟩,List.nodup_append.2 ⟨nx,n2,fun a ha b hb e=>dj a ha (by subst e; simp [hb])⟩,fun b hb=>?_⟩
  rcases List.mem_append.1 hb with h | h
  ·exact .inr h
  ·exact .inl (by simp [h])
 | c :: cs,x :: l,_,i+1,⟨f,g,rfl,h1,h2⟩,nd,dj,hi=>by
  obtain⟨n1,n2,n3⟩:=List.nodup_append.1 nd
  obtain⟨g',k1,k2,k3⟩:=Els.set hx nx (i:=i) h2 n2 (fun b hb hg=>dj b hb (by simp [hg])) (by simpa using hi)
  refine⟨f++g',⟨f,g',rfl,h1,k1⟩,List.nodup_append.2 ⟨n1,k2,fun a ha b hb e=>?_⟩,fun b hb=>?_⟩
  ·subst e
   rcases k3 a hb with h | h
   ·exact n3 a ha a h rfl
   ·exact dj a h (by simp [ha])
  ·rcases List.mem_append.1 hb with h | h
   ·exact .inl (by simp [h])
   ·rcases k3 b h with h | h
    ·exact .inl (by simp [h])
    ·exact .inr h
 | [],[],_,_,_,_,_,h=>by simp at h
 | [],_ :: _,_,_,h,_,_,_=>h.elim
 | _ :: _,[],_,_,h,_,_,_=>h.elim
theorem Own.sub {V V':Know} {f g:List Nat} (h:Own V V' f) (s:g.Sublist f):Own V V' g:=⟨h.1.sublist s,fun b hb=>h.2.1 b (s.subset hb),fun b hb=>h.2.2 b (s.subset hb)⟩
end
end Go.Proofs.YtpkmhkbkohppiaaGreatDoor
namespace Go.Proofs.YtpkmhkbkohppiaaGreatDoor
open Sx Go.RowKit
set_option maxRecDepth 100000
theorem rdNat_get {s:ByteArray} {o q:List Lim} {ok:Bool} (h:RdNat s o ok) (hq:NatOkP q) (e:natT q=s):ok=true∧o=q:=by
 rcases h with ⟨h1,h2,h3⟩ | ⟨_,_,h⟩
 ·exact⟨h1,natT_inj h2.1 hq.1 (h3.trans e.symm)⟩
 ·exact absurd ⟨q,hq,e⟩ h
theorem LR.at1t {V:Know} {t:SlV} {l:List Tx} {f:List Nat} (h:LR rString V t l f) {p q:Tx} {r:List Tx} (e:l=p :: q :: r):∃ b o,t.a=some ⟨b,o,none⟩∧loadV V ((⟨b,o,none⟩:Addr).add (Int.toNat 1*1)) 1=some [.string q.1]:=by
 subst e
 obtain⟨⟨b,o,a1,l1⟩,_⟩:=h.txt (i:=1) (by simp)
 exact⟨b,o,a1,l1⟩
theorem cut_cases (c:UInt8) (s:ByteArray):(∃ p,cutB c s=[p])∨(∃ p q,cutB c s=[p,q])∨∃ p q r l,cutB c s=p :: q :: r :: l:=by
 have:=cutB_pos c s
 match h:cutB c s with
 | []=>rw [h] at this; simp at this
 | [p]=>exact .inl ⟨p,rfl⟩
 | [p,q]=>exact .inr (.inl ⟨p,q,rfl⟩)
 | p :: q :: r :: l=>exact .inr (.inr ⟨p,q,r,l,rfl⟩)
end Go.Proofs.YtpkmhkbkohppiaaGreatDoor
