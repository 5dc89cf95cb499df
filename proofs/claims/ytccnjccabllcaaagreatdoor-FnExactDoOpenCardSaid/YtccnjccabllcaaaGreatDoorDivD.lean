/-
  One digit of a long division: a multiple is taken away in place, and given back once where it was too great.
-/
import Derived.Test.YtccnjccabllcaaaGreatDoorDivC
namespace Go.Proofs.YtccnjccabllcaaaGreatDoor
open Sx
set_option maxRecDepth 100000
theorem kset_kset {V:Know} {b:Nat} {x y}:kset (kset V b x) b y=kset V b y:=by
 funext k
 simp only [kset]
 split <;> rfl
theorem kset_self {V:Know} {b:Nat} {x} (h:V b=some x):kset V b x=V:=by
 funext k
 simp only [kset]
 split
 ·rename_i e; rw [e,h]
 ·rfl
def segV (V:Know) (b:Nat) (pre:List Value) (w:List Lim) (post:List Value):Know:=kset V b (pre++(w.map cellI++post),(3,(0,0)))
theorem seg_at {V:Know} {b:Nat} {pre post:List Value} {w:List Lim}:segV V b pre w post b=some (pre++(w.map cellI++post),(3,(0,0))):=kset_same
theorem seg_ld {V:Know} {b:Nat} {pre post:List Value} {w:List Lim} {i:Nat} (h:i<w.length):loadV (segV V b pre w post) ((⟨b,pre.length,none⟩:Addr).add (i*1)) 1=some [.int .i64 (limb w i)]:=by
 simp only [addr_add_eq,loadV,seg_at]
 rw [cutv_skip,Nat.mul_one]
 have e1:w.map cellI++post=(w.take i).map cellI++((w.drop i).map cellI++post):=by rw [← List.append_assoc,← List.map_append,List.take_append_drop]
 have e3:(w.drop i).map cellI++post=[cellI w[i]]++((w.drop (i+1)).map cellI++post):=by rw [List.drop_eq_getElem_cons h]; rfl
 have:=cutv_skip (x:=(w.take i).map cellI) (y:=(w.drop i).map cellI++post) (o:=0) (n:=1)
 rw [show((w.take i).map cellI).length+0=i by simp; omega] at this
 rw [e1,this,e3,limb_lt h]
 exact cutv_head
theorem seg_at2 {V:Know} {b k:Nat} {pre post:List Value} {w:List Lim}:segV V b pre w post ((⟨b,pre.length,none⟩:Addr).add k).block=some (pre++(w.map cellI++post),(3,(0,0))):=by
 rw [addr_add_eq]; exact kset_same
theorem seg_spot {b p k:Nat}:((⟨b,p,none⟩:Addr).add k).spot=none:=by rw [addr_add_eq]
theorem seg_fit {b:Nat} {pre post:List Value} {w:List Lim} {i:Nat} {x:Value} (h:i<w.length):((⟨b,pre.length,none⟩:Addr).add (i*1)).off+[x].length≤(pre++(w.map cellI++post)).length:=by
 rw [addr_add_eq]
 show pre.length+i*1+1≤_
 simp
 omega
theorem seg_put {V:Know} {b:Nat} {pre post:List Value} {w:List Lim} {i:Nat} {x:Int} (h:i<w.length) :
  kset (segV V b pre w post) ((⟨b,pre.length,none⟩:Addr).add (i*1)).block (setl (pre++(w.map cellI++post)) ((⟨b,pre.length,none⟩:Addr).add (i*1)).off [.int .i64 x],(3,(0,0)))=segV V b pre (w.set i (x,())) post:=by
 rw [addr_add_eq]
 show kset (kset V b _) b (setl (pre++(w.map cellI++post)) (pre.length+i*1) _,_)=kset V b _
 rw [kset_kset]
 have e1:pre++(w.map cellI++post)=(pre++(w.take i).map cellI)++((w.drop i).map cellI++post):=by
  rw [List.append_assoc,← List.append_assoc ((w.take i).map cellI),← List.map_append,List.take_append_drop]
 have e3:(w.drop i).map cellI++post=cellI w[i] :: ((w.drop (i+1)).map cellI++post):=by rw [List.drop_eq_getElem_cons h]; rfl
 have e2:w.set i (x,())=w.take i++(x,()) :: w.drop (i+1):=by rw [List.set_eq_take_append_cons_drop,if_pos h]
 rw [e1,e3,setl_mid (by simp; omega) (by simp),e2]
 simp only [List.length_singleton,List.drop_succ_cons,List.drop_zero,List.map_append,List.map_cons,List.append_assoc,List.cons_append,List.nil_append]
 rfl
theorem seg_lr {V:Know} {b:Nat} {pre post:List Value} {w:List Lim} {s:SlV} {l:List Lim} {f:List Nat} (h:LR rI V s l f) (hb:b ∉ f):LR rI (segV V b pre w post) s l f :=
 h.loc fun c hc=>kset_other (fun e=>hb (by rw [← e]; exact hc))
def Low (w:List Lim) (n:Nat):Prop:=∀ j,j<n→0≤limb w j∧limb w j<1000000000
theorem Low.val {w:List Lim} {n:Nat} (h:Low w n):0≤valTo w n∧valTo w n<1000000000 ^ n:=by
 induction n with
 | zero=>simp [valTo]
 | succ n ih =>
  have h0:=ih (fun j hj=>h j (by omega))
  have hl:=h n (by omega)
  have h1:=mul_pw_nonneg hl.1 n
  have h2:=mul_pw_le (show limb w n≤999999999 by omega) n
  rw [valTo,pw_succ]
  constructor
  ·omega
  ·omega
theorem top_zero {w:List Lim} {n:Nat} (hw:w.length=n+1) (h:Low w n) (h0:0≤valN w) (h1:valN w<1000000000 ^ n):Lims w:=by
 have hv:=h.val
 rw [valN,hw,valTo] at h0 h1
 have ht:limb w n=0:=by
  rcases(show limb w n≤-1∨limb w n=0∨1≤limb w n by omega) with e | e | e
  ·have:=mul_pw_le e n
   omega
  ·exact e
  ·have:=mul_pw_le e n
   omega
 intro j
 by_cases e:j<n
 ·exact h j e
 ·by_cases e2:j=n
  ·rw [e2,ht]; omega
  ·rw [limb_ge (by omega)]; omega
theorem cI_subTimes {V:Know} {b cap:Nat} {pre post:List Value} {w v:List Lim} {s:SlV} {f:List Nat} {q:Int} (hw:Lims w) (hl:w.length=v.length+1) (hv:LR rI V s v f) (hb:b ∉ f) (lv:Lims v) (lw:v.length≤1000000) (hq:0≤q∧q<1000000000) :
  CallX Tryz.prog (segV V b pre w post) gI_subTimes [Sc.val .l ⟨some ⟨b,pre.length,none⟩,w.length,cap⟩,Sc.val .l s,.int .i64 q]
   (fun V' r=>∃ w',V'=segV V b pre w' post∧w'.length=w.length∧Low w' v.length∧valN w'=valN w-q*valN v∧-1000000000<limb w' v.length∧limb w' v.length<1000000000∧r=.bool (decide (limb w' v.length<0))):=by
 refine CallX.of_fits Tryz.mix (fI_subTimes _ _ _) fun _=>?_
 have hn:=hv.1
 have hB:(1000000000:Int)≠0:=by decide
 simp only [tI_subTimes,T.wp]
 refine⟨fun y V'=>∃ (k:Nat) (o:List Lim),V'=segV V b pre o post∧y.1=⟨some ⟨b,pre.length,none⟩,w.length,cap⟩∧y.2.2.1=(k:Int)∧k≤v.length∧0≤(y.2.1:Int)∧(y.2.1:Int)<1000000000∧o.length=w.length∧Lims o∧valN o=valN w+(y.2.1:Int)*1000000000 ^ k-q*valTo v k,
  fun y=>((v.length:Int)-(y.2.2.1:Int)).toNat,⟨((⟨some ⟨b,pre.length,none⟩,w.length,cap⟩:SlV),(0:Int),(0:Int),()),rfl,0,w,rfl,rfl,rfl,by omega,(by omega:(0:Int)≤0),(by omega:(0:Int)<1000000000),rfl,hw,by simp [valTo]⟩,?_⟩
 rintro⟨s1,(c:Int),(i:Int),u⟩ V' ⟨k,o,rfl,hs1,hi,hk,hc0,hc1,hol,hlo,hvo⟩
 replace hs1:s1=⟨some ⟨b,pre.length,none⟩,w.length,cap⟩:=hs1
 replace hi:i=(k:Int):=hi
 replace hc0:0≤c:=hc0
 replace hc1:c<1000000000:=hc1
 replace hvo:valN o=valN w+c*1000000000 ^ k-q*valTo v k:=hvo
 subst hs1 hi
 refine⟨fun hlt=>?_,fun hge=>?_⟩
 ·have hkv:k<v.length:=by
   have:(k:Int)<(s.n:Int):=of_decide_eq_true hlt
   omega
  obtain⟨b1,o1,a1,l1⟩:=(seg_lr (pre:=pre) (post:=post) (w:=o) hv hb).int hkv
  have ev:v[k].1=limb v k:=(limb_lt hkv).symm
  have lvx:=lv k
  have lox:=hlo k
  have hko:k<o.length:=by omega
  have hxq:=mul_lim lvx hq
  have e0:(k:Int).toNat=k:=by omega
  have hk0:(0:Int)≤(k:Int):=by omega
  have hkw:(k:Int)<((w.length:Nat):Int):=by omega
  have wi:IntKind.i64.wrap ((k:Int)+1)=((k+1:Nat):Int):=nxt hkv (by omega)
  refine⟨_,a1,hk0,(by omega:(k:Int)<(s.n:Int)),limb v k,by rw [← ev]; exact l1,_,rfl,hk0,hkw,limb o k,seg_ld hko,?_⟩
  have e1:IntKind.i64.wrap (limb v k*q)=limb v k*q:=wrap_i64 (by omega)
  have e2:IntKind.i64.wrap (limb o k-limb v k*q)=limb o k-limb v k*q:=wrap_i64 (by omega)
  have e3:IntKind.i64.wrap (limb o k-limb v k*q-c)=limb o k-limb v k*q-c:=wrap_i64 (by omega)
  show(_→_)∧(_→_)
  rw [e1,e2,e3]
  obtain⟨d,hd⟩:∃ d,d=limb o k-limb v k*q-c:=⟨_,rfl⟩
  rw [← hd]
  have next:∀ t e:Int,t=d+e*1000000000→0≤t→t<1000000000→0≤e→e<1000000000→∃ y':LShs [.o (.o .l),.o (.o (.i .i64)),.o (.o (.i .i64))],
    [LV.v (Sc.val .l ⟨some ⟨b,pre.length,none⟩,w.length,cap⟩),.v (.int .i64 e),.v (.int .i64 (IntKind.i64.wrap ((k:Int)+1)))]=LShs.lvs _ y' ∧
    (∃ (k':Nat) (o':List Lim),segV V b pre (o.set k (t,())) post=segV V b pre o' post∧y'.1=⟨some ⟨b,pre.length,none⟩,w.length,cap⟩∧y'.2.2.1=(k':Int)∧k'≤v.length∧0≤(y'.2.1:Int)∧(y'.2.1:Int)<1000000000∧o'.length=w.length∧Lims o'∧valN o'=valN w+(y'.2.1:Int)*1000000000 ^ k'-q*valTo v k') ∧
    ((v.length:Int)-(y'.2.2.1:Int)).toNat<((v.length:Int)-(k:Int)).toNat:=by
   intro t e ht ht0 ht1 he0 he1
   rw [wi]
   refine⟨((⟨some ⟨b,pre.length,none⟩,w.length,cap⟩:SlV),e,((k+1:Nat):Int),()),rfl,⟨k+1,_,rfl,rfl,rfl,hkv,he0,he1,by rw [List.length_set]; exact hol,lims_set hlo hko ⟨ht0,ht1⟩,subt_step (b':=e) hko hvo (by omega)⟩,?_⟩
   show((v.length:Int)-((k+1:Nat):Int)).toNat<_
   omega
  refine⟨fun hneg=>?_,fun hpos=>?_⟩
  ·have hneg':d<0:=of_decide_eq_true hneg
   have g1:IntKind.i64.wrap (0-d)=-d:=by rw [wrap_i64 (by omega)]; omega
   have g2:IntKind.i64.wrap (-d+1000000000)=-d+1000000000:=wrap_i64 (by omega)
   have g3:IntKind.i64.wrap (-d+1000000000-1)=-d+999999999:=by rw [wrap_i64 (by omega)]; omega
   have g4:IntKind.i64.wrap ((-d+999999999).tdiv 1000000000)=(-d+999999999) / 1000000000:=by rw [Int.tdiv_eq_ediv_of_nonneg (by omega)]; exact wrap_i64 (by omega)
   obtain⟨e,he⟩:∃ e,e=(-d+999999999) / 1000000000:=⟨_,rfl⟩
   have g5:IntKind.i64.wrap (e*1000000000)=e*1000000000:=wrap_i64 (by omega)
   have g6:IntKind.i64.wrap (d+e*1000000000)=d+e*1000000000:=wrap_i64 (by omega)
   rw [g1,g2,g3,g4,← he,g5,g6]
   refine⟨hB,_,rfl,hk0,hkw,?_⟩
   rw [e0]
   refine⟨_,_,seg_spot,seg_at2,seg_fit hko,?_⟩
   rw [seg_put hko]
   exact⟨_,rfl,next _ e rfl (by omega) (by omega) (by omega) (by omega)⟩
  ·have hpos':¬ d<0:=of_decide_eq_false hpos
   refine⟨_,rfl,hk0,hkw,?_⟩
   rw [e0]
   refine⟨_,_,seg_spot,seg_at2,seg_fit hko,?_⟩
   rw [seg_put hko]
   exact⟨_,rfl,next d 0 (by omega) (by omega) (by omega) (by omega) (by omega)⟩
 ·have hkv:k=v.length:=by
   have:¬ (k:Int)<(s.n:Int):=of_decide_eq_false hge
   omega
  subst hkv
  have hko:v.length<o.length:=by omega
  have lox:=hlo v.length
  have e0:(s.n:Int).toNat=v.length:=by omega
  have hk0:(0:Int)≤(s.n:Int):=by omega
  have hkw:(s.n:Int)<((w.length:Nat):Int):=by omega
  rw [e0]
  have e1:IntKind.i64.wrap (limb o v.length-c)=limb o v.length-c:=wrap_i64 (by omega)
  refine⟨_,rfl,hk0,hkw,limb o v.length,seg_ld hko,_,rfl,hk0,hkw,?_⟩
  show ∃ cs u,_∧_
  rw [e1]
  have hx:limb (o.set v.length (limb o v.length-c,())) v.length=limb o v.length-c:=by rw [limb_set hko,if_pos rfl]
  refine⟨_,_,seg_spot,seg_at2,seg_fit hko,?_⟩
  rw [seg_put hko]
  refine⟨_,rfl,hk0,hkw,limb (o.set v.length (limb o v.length-c,())) v.length,seg_ld (by rw [List.length_set]; exact hko),?_⟩
  refine⟨_,rfl,by rw [List.length_set]; exact hol,fun j hj=>?_,?_,?_,?_,rfl⟩
  ·rw [limb_set hko,if_neg (by omega)]; exact hlo j
  ·rw [valN_set hko,hvo]
   show _=valN w-q*valTo v v.length
   grind
  ·rw [hx]; omega
  ·rw [hx]; omega
theorem cI_addBack {V:Know} {b cap:Nat} {pre post:List Value} {w v:List Lim} {s:SlV} {f:List Nat} (hw:Low w v.length) (hl:w.length=v.length+1) (hv:LR rI V s v f) (hb:b ∉ f) (lv:Lims v) (lw:v.length≤1000000) (htop:-1000000000<limb w v.length∧limb w v.length<1000000000) :
  CallX Tryz.prog (segV V b pre w post) gI_addBack [Sc.val .l ⟨some ⟨b,pre.length,none⟩,w.length,cap⟩,Sc.val .l s]
   (fun V' r=>∃ w',V'=segV V b pre w' post∧w'.length=w.length∧Low w' v.length∧valN w'=valN w+valN v∧r=.tuple #[]):=by
 refine CallX.of_fits Tryz.mix (fI_addBack _ _) fun _=>?_
 have hn:=hv.1
 have hB:(1000000000:Int)≠0:=by decide
 simp only [tI_addBack,T.wp]
 refine⟨fun y V'=>∃ (k:Nat) (o:List Lim),V'=segV V b pre o post∧y.1=⟨some ⟨b,pre.length,none⟩,w.length,cap⟩∧y.2.2.1=(k:Int)∧k≤v.length∧0≤(y.2.1:Int)∧(y.2.1:Int)≤1∧o.length=w.length∧Low o v.length∧limb o v.length=limb w v.length∧valN o+(y.2.1:Int)*1000000000 ^ k=valN w+valTo v k,
  fun y=>((v.length:Int)-(y.2.2.1:Int)).toNat,⟨((⟨some ⟨b,pre.length,none⟩,w.length,cap⟩:SlV),(0:Int),(0:Int),()),rfl,0,w,rfl,rfl,rfl,by omega,(by omega:(0:Int)≤0),(by omega:(0:Int)≤1),rfl,hw,rfl,by simp [valTo]⟩,?_⟩
 rintro⟨s1,(c:Int),(i:Int),u⟩ V' ⟨k,o,rfl,hs1,hi,hk,hc0,hc1,hol,hlo,hto,hvo⟩
 replace hs1:s1=⟨some ⟨b,pre.length,none⟩,w.length,cap⟩:=hs1
 replace hi:i=(k:Int):=hi
 replace hc0:0≤c:=hc0
 replace hc1:c≤1:=hc1
 replace hvo:valN o+c*1000000000 ^ k=valN w+valTo v k:=hvo
 subst hs1 hi
 refine⟨fun hlt=>?_,fun hge=>?_⟩
 ·have hkv:k<v.length:=by
   have:(k:Int)<(s.n:Int):=of_decide_eq_true hlt
   omega
  obtain⟨b1,o1,a1,l1⟩:=(seg_lr (pre:=pre) (post:=post) (w:=o) hv hb).int hkv
  have ev:v[k].1=limb v k:=(limb_lt hkv).symm
  have lvx:=lv k
  have lox:=hlo k hkv
  have hko:k<o.length:=by omega
  have e0:(k:Int).toNat=k:=by omega
  have hk0:(0:Int)≤(k:Int):=by omega
  have hkw:(k:Int)<((w.length:Nat):Int):=by omega
  have wi:IntKind.i64.wrap ((k:Int)+1)=((k+1:Nat):Int):=nxt hkv (by omega)
  have e1:IntKind.i64.wrap (limb o k+limb v k)=limb o k+limb v k:=wrap_i64 (by omega)
  have e2:IntKind.i64.wrap (c+(limb o k+limb v k))=c+(limb o k+limb v k):=wrap_i64 (by omega)
  obtain⟨t,ht⟩:∃ t,t=c+(limb o k+limb v k):=⟨_,rfl⟩
  have t0:0≤t:=by omega
  have e4:t.tmod 1000000000=t % 1000000000:=Int.tmod_eq_emod_of_nonneg t0
  have e5:IntKind.i64.wrap (t.tdiv 1000000000)=t / 1000000000:=by rw [Int.tdiv_eq_ediv_of_nonneg t0]; exact wrap_i64 (by omega)
  refine⟨_,a1,hk0,(by omega:(k:Int)<(s.n:Int)),limb v k,by rw [← ev]; exact l1,_,rfl,hk0,hkw,limb o k,seg_ld hko,hB,_,rfl,hk0,hkw,?_⟩
  show ∃ cs u,_∧_
  rw [e1,e2,← ht,e4,e5,wi,e0]
  refine⟨_,_,seg_spot,seg_at2,seg_fit hko,?_⟩
  rw [seg_put hko]
  refine⟨hB,_,rfl,((⟨some ⟨b,pre.length,none⟩,w.length,cap⟩:SlV),t / 1000000000,((k+1:Nat):Int),()),rfl,⟨k+1,_,rfl,rfl,rfl,hkv,(by omega:(0:Int)≤t / 1000000000),(by omega:t / 1000000000≤1),by rw [List.length_set]; exact hol,fun j hj=>?_,?_,addb_step (d:=t % 1000000000) (e:=t / 1000000000) hko hvo (by omega)⟩,?_⟩
  ·rw [limb_set hko]
   split
   ·constructor <;> omega
   ·exact hlo j hj
  ·rw [limb_set hko,if_neg (by omega)]; exact hto
  ·show((v.length:Int)-((k+1:Nat):Int)).toNat<((v.length:Int)-(k:Int)).toNat
   omega
 ·have hkv:k=v.length:=by
   have:¬ (k:Int)<(s.n:Int):=of_decide_eq_false hge
   omega
  subst hkv
  have hko:v.length<o.length:=by omega
  have e0:(s.n:Int).toNat=v.length:=by omega
  have hk0:(0:Int)≤(s.n:Int):=by omega
  have hkw:(s.n:Int)<((w.length:Nat):Int):=by omega
  rw [e0]
  have e1:IntKind.i64.wrap (limb o v.length+c)=limb o v.length+c:=wrap_i64 (by omega)
  refine⟨_,rfl,hk0,hkw,limb o v.length,seg_ld hko,_,rfl,hk0,hkw,?_⟩
  show ∃ cs u,_∧_
  rw [e1]
  refine⟨_,_,seg_spot,seg_at2,seg_fit hko,?_⟩
  rw [seg_put hko]
  refine⟨_,rfl,by rw [List.length_set]; exact hol,fun j hj=>?_,?_,rfl⟩
  ·rw [limb_set hko,if_neg (by omega)]; exact hlo j hj
  ·rw [valN_set hko]
   show _=valN w+valTo v v.length
   rw [← hvo]
   grind
end Go.Proofs.YtccnjccabllcaaaGreatDoor
