/-
  Draws from bytes: codes, rates, tables of rates, amounts and modes that the reference draws.
-/
import Derived.Test.YtpdfdkccgkieoaaGreatDoorRatX
import Derived.Test.YtpdfdkccgkieoaaGreatDoorTxt
namespace Go.Proofs.YtpdfdkccgkieoaaGreatDoor
open Sx
set_option maxRecDepth 100000
def awayB (m:Int) (neg:Bool) (c:Int) (odd:Bool):Bool :=
 if m=0 then false else if m=1 then true else if m=2 then neg else if m=3 then !neg else if m=4 then decide (c > 0) else if m=5 then decide (c≥0) else decide (c > 0) || (decide (c=0) && odd)
def upN (m:Int) (neg:Bool) (n d:Int):Prop:=0<n % d∧awayB m neg (sgn (n % d+n % d-d)) (decide (n / d % 2=1))=true
noncomputable def rndN (m:Int) (neg:Bool) (n d:Int):Int:=by
 classical
 exact if upN m neg n d then n / d+1 else n / d
def RndP (m:Int) (x:DRat) (e:Bool) (q:List Lim):Prop:=Can q∧valN q=rndN m x.1 (valN x.2.1) (valN x.2.2.1)∧e=(x.1 && decide (0<q.length))
def LeftP (x:DRat) (e:Bool) (q:List Lim) (y:DRat):Prop:=RedS (sval x.1 x.2.1-sval e q*valN x.2.2.1) (valN x.2.2.1) y true
def OutP (to:ByteArray) (m:Int) (x:DRat) (mo:DMoney) (ra:DRat) (ok:Bool):Prop :=
 ∃ e q,RndP m x e q∧((q.length≤4∧ok=true∧mo=(to,e,q,())∧LeftP x e q ra)∨(¬ q.length≤4∧ok=false∧mo=(ByteArray.empty,false,[],())∧ra=(false,[],[],())))
end Go.Proofs.YtpdfdkccgkieoaaGreatDoor
namespace Go.Proofs.YtpdfdkccgkieoaaGreatDoor
open Sx
set_option maxRecDepth 100000
end Go.Proofs.YtpdfdkccgkieoaaGreatDoor
namespace Go.Proofs.YtpdfdkccgkieoaaGreatDoor
open Sx
set_option maxRecDepth 100000
theorem one_limb {V:Know} {b cp:Nat} {sp:List Value} (hb:V b=none) (hc:1≤cp):LR rI (kset V b ([.int .i64 1]++sp,(3,(0,0)))) ⟨some ⟨b,0,none⟩,1,cp⟩ [((1:Int),())] [b] :=
 (newI (V:=V) (b:=b) (cap:=cp) (o:=[((1:Int),())]) (spare:=sp) (t:=3) hb hc (by decide)).1
theorem known_len {x:ByteArray} (h:known x=true):x.size≤9223372036854775807:=by
 unfold known curFrom at h
 cases hf:(curI.drop 0).find? (curHas x) with
 | none=>rw [hf] at h; cases h
 | some r =>
  have h1:=List.find?_some hf
  have h2:=List.mem_of_find?_eq_some hf
  have h3:∀ r∈curI,r.1.size≤9223372036854775807:=by decide +kernel
  have e:r.1=x:=text_eq.1 h1
  rw [← e]
  exact h3 r (by simpa using h2)
abbrev nought:DRat:=(false,[],[((1:Int),())],())
theorem nought_ok:RatOkP nought.1 nought.2.1 nought.2.2.1:=zero_ok
end Go.Proofs.YtpdfdkccgkieoaaGreatDoor
namespace Go.Proofs.YtpdfdkccgkieoaaGreatDoor
open Sx
set_option maxRecDepth 100000
theorem cS_strLit {V0 V:Know} {b:Nat} {s:SlV} (hc:Cx V0 b s V) (ns:List ByteArray) (hn:0<ns.length) (hz:∀ n∈ns,n.size≤9223372036854775807) (hl:ns.length≤9223372036854775807) {b1 c1:Nat} {sp:List Value} {u:KTy} (hb1:V b1=none) (hc1:ns.length≤c1) :
  CallX Tryz.prog (kset V b1 (ns.map Value.string++sp,u)) 55 [.pointer (some ⟨b,0,none⟩),.slice (some ⟨b1,0,none⟩) ns.length c1] (fun V' r=>Dx V0 b s V V'∧∃ n∈ns,r=.string n):=by
 have le1:=kset_le (x:=(ns.map Value.string++sp,u)) hb1
 have hL:LR rNs (kset V b1 (ns.map Value.string++sp,u)) ⟨some ⟨b1,0,none⟩,ns.length,c1⟩ (ns.map fun n=>(n,())) [b1]:=lr_lit (fps:=[]) (post:=sp) (t:=u) (els_ns hz) (by rw [vals_ns]; exact kset_same) (by simp) (by simpa using hc1) (by simpa using hl)
 refine(cS_l01Str (hc.le le1) ⟨_,_,_⟩ _ [b1] hL (by simpa using fun e=>hc.some hb1 e.symm) (by simpa using hn)).mono ?_
 rintro V' _ ⟨d,x,hx,rfl⟩
 obtain⟨n,hn,rfl⟩:=List.mem_map.1 hx
 exact⟨(hc.dx le1).trans d,n,hn,rfl⟩
abbrev codes7:List ByteArray:=[⟨#[67,72,70]⟩,⟨#[69,85,82]⟩,⟨#[85,83,68]⟩,⟨#[74,80,89]⟩,⟨#[75,87,68]⟩,⟨#[72,85,70]⟩,⟨#[67,76,70]⟩]
abbrev codes2:List ByteArray:=[⟨#[67,72,70]⟩,⟨#[69,85,82]⟩]
abbrev codes3:List ByteArray:=[⟨#[69,85,82]⟩,⟨#[69,85,82]⟩,⟨#[85,83,68]⟩]
abbrev usd:ByteArray:=⟨#[85,83,68]⟩
theorem cS_l08Cur {V0 V:Know} {b:Nat} {s:SlV} (hc:Cx V0 b s V):CallX Tryz.prog V 30 [.pointer (some ⟨b,0,none⟩)] (fun V' r=>Dx V0 b s V V'∧∃ n,r=.string n∧known n=true):=by
 refine CallX.of_fits Tryz.mix (fS_l08Cur _) fun _=>?_
 simp only [tS_l08Cur,T.wp]
 intro b1 c1 sp hb1 hc1 _
 refine(cS_strLit hc codes7 (by decide) (by decide) (by decide) hb1 hc1).mono ?_
 rintro V1 _ ⟨d,n,hn,rfl⟩
 have hk:∀ n∈codes7,known n=true:=by decide +kernel
 exact⟨nofun,n,rfl,d,n,rfl,hk n hn⟩
def mask (b:Nat) (V:Know):Know:=fun k=>if k=b then none else V k
theorem mask_le (b:Nat) (V:Know):(mask b V).le V:=fun k x h=>by
 unfold mask at h
 split at h
 ·cases h
 ·exact h
theorem mask_but {b:Nat} {V V1 V':Know} (h1:V.le V1) (h:LeBut [b] V1 V'):(mask b V).le V':=fun k x hx=>by
 unfold mask at hx
 split at hx
 ·cases hx
 ·rename_i e
  exact h k x (by simpa using e) (h1 k x hx)
theorem cS_IntOfD (V:Know) (k:Int) (k1:0≤k) (k2:k≤1000000):CallX Tryz.prog V 58 [.int .i64 k] (fun V' r=>V.le V'∧∃ s o f,r=qv1 (false,s,())∧LR rI V' s o f∧Own V V' f∧Can o∧valN o=k∧o.length≤3):=by
 refine CallX.of_fits Tryz.mix (fS_IntOf _) fun _=>?_
 simp only [tS_IntOf,T.wp]
 refine⟨fun hb=>?_,fun _=>⟨fun hb=>?_,fun _=>(cS_NatOf V k ⟨by omega,by omega⟩).mono ?_⟩⟩
 ·have:k=-9223372036854775808:=by simpa using hb
  omega
 ·have:k<0:=of_decide_eq_true hb
  omega
 rintro V1 _ ⟨le1,s1,o1,f1,rfl,L1,_,C1,v1,n1⟩
 refine⟨nofun,s1,rfl,(cS_l04Make V1 false s1 o1 f1 L1 C1 (by omega)).mono ?_⟩
 rintro V2 _ ⟨le2,s2,f2,rfl,L2,O2⟩
 exact⟨nofun,_,rfl,le1.trans le2,s2,o1,f2,rfl,L2,O2.pre le1,C1,v1,n1⟩
theorem own_off {V0 V V1:Know} {b:Nat} {s:SlV} {f:List Nat} (hc:Cx V0 b s V) (O:Own V V1 f):∀ y∈f,y ∉ [b]:=fun y hy k=>by
 obtain rfl:y=b:=by simpa using k
 exact hc.some (O.2.1 y hy) rfl
def RateD (x:DRate):Prop:=x.2.2.1=false∧valN x.2.2.2.1≤3000∧x.2.2.2.2.1≤4∧known x.1=true∧known x.2.1=true∧x.2.2.2.1.length≤3
theorem cS_l10Draw {V0 V:Know} {b:Nat} {s:SlV} (hc:Cx V0 b s V):CallX Tryz.prog V 59 [.pointer (some ⟨b,0,none⟩)] (fun V' r=>Dx V0 b s V V'∧∃ c x f,r=qv6 c∧rRate.R V' c x f∧(∀ y∈f,y≠b)∧RateD x):=by
 refine CallX.of_fits Tryz.mix (fS_l10Draw _) fun _=>?_
 simp only [tS_l10Draw,T.wp]
 refine(cS_l08Cur hc).mono ?_
 rintro V1 _ ⟨d1,n1,rfl,k1⟩
 refine⟨nofun,n1,rfl,(cS_l08Cur d1.1).mono ?_⟩
 rintro V2 _ ⟨d2,n2,rfl,k2⟩
 refine⟨nofun,n2,rfl,?_⟩
 refine⟨fun y V'=>Dx V0 b s V V'∧known y.1=true∧known y.2.1=true,fun y _=>if y.1=y.2.1 then 1 else 0,⟨(n1,n2,()),rfl,d1.trans d2,k1,k2⟩,?_⟩
 rintro⟨(a1:ByteArray),(a2:ByteArray),u⟩ V3 ⟨d3,j1,j2⟩
 replace j1:known a1=true:=j1
 replace j2:known a2=true:=j2
 refine⟨fun he=>?_,fun _=>?_⟩
 ·have e:a1=a2:=text_eq.1 he
  intro b1 c1 sp hb1 hc1 _
  refine(cS_strLit d3.1 codes2 (by decide) (by decide) (by decide) hb1 hc1).mono ?_
  rintro V4 _ ⟨d4,n,hn,rfl⟩
  have hk:∀ n∈codes2,known n=true∧n≠usd:=by decide +kernel
  refine⟨nofun,n,rfl,_,rfl,(n,usd,()),rfl,⟨d3.trans d4,(hk n hn).1,(by decide +kernel:known usd=true)⟩,?_⟩
  show(if n=usd then 1 else 0)<(if a1=a2 then 1 else 0)
  rw [if_neg (hk n hn).2,if_pos e]
  omega
 refine(cS_l01Below d3.1 3000).mono ?_
 rintro V4 _ ⟨d4,x,rfl,x0,x1,_⟩
 have hx:=x1 (by omega)
 refine⟨nofun,x,rfl,?_⟩
 rw [wrap_i64 (by omega)]
 refine(cS_IntOfD V4 (1+x) (by omega) (by omega)).mono ?_
 rintro V5 _ ⟨le5,s5,o5,f5,rfl,L5,O5,C5,v5,n5⟩
 have d5:=(d3.trans d4).trans (d4.1.dx le5)
 refine⟨nofun,_,rfl,mask b V5,mask_le b V5,fun b6 hb6=>?_⟩
 have le6:=kset_le (x:=([Value.int .i64 0,.int .i64 1,.int .i64 2,.int .i64 3,.int .i64 4],((3:TypeId),((0,0):Nat × Nat)))) hb6
 have d6:=d5.trans (d5.1.dx le6)
 have hL:LR rI (kset V5 b6 ([Value.int .i64 0,.int .i64 1,.int .i64 2,.int .i64 3,.int .i64 4],((3:TypeId),((0,0):Nat × Nat)))) ⟨some ⟨b6,0,none⟩,5,5⟩ (([0,1,2,3,4]:List Int).map fun n=>(n,())) [b6]:=lr_lit (fps:=[]) (post:=[]) (cs:=([0,1,2,3,4]:List Int).map fun n=>(n,())) ⟨[],[],rfl,⟨rfl,rfl⟩,[],[],rfl,⟨rfl,rfl⟩,[],[],rfl,⟨rfl,rfl⟩,[],[],rfl,⟨rfl,rfl⟩,[],[],rfl,⟨rfl,rfl⟩,rfl⟩ kset_same rfl (by decide) (by decide)
 refine(cS_l01Pick d6.1 ⟨some ⟨b6,0,none⟩,5,5⟩ _ [b6] hL (by simpa using fun e=>d5.1.some hb6 e.symm) (by decide)).mono ?_
 rintro V7 _ ⟨d7,⟨n,u⟩,hn,rfl⟩
 have hk:n≤4:=by
  simp at hn
  omega
 have L7:=(L5.le le6).but (own_off d4.1 O5) d7.2
 refine⟨mask_but le6 d7.2,n,rfl,d6.trans d7,(a1,a2,false,s5,n,()),(a1,a2,false,o5,n,()),f5++[],rfl,⟨⟨rfl,known_len j1⟩,⟨rfl,known_len j2⟩,rfl,f5,[],rfl,L7,rfl,rfl⟩,fun y hy=>by
  rw [List.append_nil] at hy
  simpa using own_off d4.1 O5 y hy,rfl,by show valN o5≤3000; omega,hk,j1,j2,n5⟩
end Go.Proofs.YtpdfdkccgkieoaaGreatDoor
