/-
  What the reference makes for the laws: a table of rates with two currencies, an amount, a mode.
-/
import Derived.Test.YtmppmpceccpdlaaGreatDoorRPutX
import Derived.Test.YtmppmpceccpdlaaGreatDoorCv
import Derived.Test.YtmppmpceccpdlaaGreatDoorCw
namespace Go.Proofs.YtmppmpceccpdlaaGreatDoor
open Sx
set_option maxRecDepth 100000
abbrev tyC:TypeId:=74
def rIu {sh:List Sc} {α:Type} (r:Rp sh α):Rp (.i .u8 :: sh) (Int × α) where
 R V c x fp:=c.1=x.1∧r.R V c.2 x.2 fp
 tot x:=r.tot x.2
 loc h hb:=⟨h.1,r.loc h.2 hb⟩
 kn h:=r.kn h.2
abbrev rBy:Rp [.i .u8] (Int × Unit):=rIu rNil
abbrev cuCells (s:SlV) (i h:Int):List Value:=[Sc.val .l s,.int .i64 i,.int .i64 h]
def Cx (V0:Know) (b:Nat) (s:SlV) (V:Know):Prop:=V0.le V∧V0 b=none∧(∃ i h:Int,0≤i∧V b=some (cuCells s i h,(tyC,(0,0))))∧∃ l f,LR rBy V0 s l f
def Dx (V0:Know) (b:Nat) (s:SlV) (V V':Know):Prop:=Cx V0 b s V'∧LeBut [b] V V'
theorem Cx.le {V0 V V':Know} {b:Nat} {s:SlV} (h:Cx V0 b s V) (le:V.le V'):Cx V0 b s V':=by
 obtain⟨h1,h2,⟨i,k,hi,hb⟩,h3⟩:=h
 exact⟨h1.trans le,h2,⟨i,k,hi,le _ _ hb⟩,h3⟩
theorem Cx.dx {V0 V V':Know} {b:Nat} {s:SlV} (h:Cx V0 b s V) (le:V.le V'):Dx V0 b s V V':=⟨h.le le,.of_le le⟩
theorem Dx.trans {V0 V V1 V2:Know} {b:Nat} {s:SlV} (h:Dx V0 b s V V1) (k:Dx V0 b s V1 V2):Dx V0 b s V V2:=⟨k.1,h.2.trans k.2⟩
theorem Cx.some {V0 V:Know} {b:Nat} {s:SlV} (h:Cx V0 b s V) {b1:Nat} (k:V b1=none):b1≠b:=by
 rintro rfl
 obtain⟨_,_,⟨i,k',_,hb⟩,_⟩:=h
 rw [hb] at k; cases k
theorem ld_at {V:Know} {b:Nat} {cs:List Value} {t:KTy} (h:V b=some (cs,t)) (k n:Nat):loadV V ((⟨b,0,none⟩:Addr).add k) n=cutv cs k n:=by
 simp only [addr_add_eq,loadV,h,Nat.zero_add]
theorem ldV_le {V V':Know} {a:Addr} {k:Nat} {x:List Value} (h:V.le V') (hl:loadV V a k=some x):loadV V' a k=some x:=by
 unfold loadV at hl ⊢
 split at hl
 ·rename_i cs u h1 h2
  rw [h1,h _ _ h2]
  exact hl
 ·cases hl
theorem kset_but {V:Know} {b:Nat} {x}:LeBut [b] V (kset V b x):=.kset (by simp)
theorem kset_cx {V0 V:Know} {b:Nat} {s:SlV} {i h:Int} (hc:Cx V0 b s V) (hi:0≤i):Dx V0 b s V (kset V b (cuCells s i h,(tyC,(0,0)))):=by
 obtain⟨h1,h2,_,h3⟩:=hc
 exact⟨⟨le_but h1 (fun x hx=>by simp at hx; subst hx; exact h2) kset_but,h2,⟨i,h,hi,kset_same⟩,h3⟩,kset_but⟩
theorem bit_bd (a:BitVec 64):0≤IntKind.i64.wrap (((a &&& BitVec.ofInt 64 255).toNat:Nat):Int)∧IntKind.i64.wrap (((a &&& BitVec.ofInt 64 255).toNat:Nat):Int)≤255:=by
 have h:(a &&& BitVec.ofInt 64 255).toNat≤255:=by
  rw [BitVec.toNat_and]
  exact Nat.and_le_right
 rw [wrap_i64 (by omega)]
 omega
theorem cS_l01Byte {V0 V:Know} {b:Nat} {s:SlV} (hc:Cx V0 b s V):CallX Tryz.prog V 71 [.pointer (some ⟨b,0,none⟩)] (fun V' r=>Dx V0 b s V V'∧∃ x:Int,r=.int .i64 x∧0≤x∧x≤255):=by
 refine CallX.of_fits Tryz.mix (fS_l01Byte _) fun _=>?_
 simp only [tS_l01Byte,T.wp,if_true]
 have hc0:=hc
 obtain⟨le0,hn,⟨i,h,hi,hb⟩,l,f,hl⟩:=hc
 refine⟨h,ld_at hb 2 1,_,_,rfl,hb,Nat.le_refl 3,?_⟩
 generalize hz:IntKind.i64.wrap (IntKind.i64.wrap (h*6364136223846793005)+1442695040888963407)=z
 generalize hV1:kset V ((⟨b,0,none⟩:Addr).add 2).block (setl (cuCells s i h) ((⟨b,0,none⟩:Addr).add 2).off [Value.int IntKind.i64 z],(tyC,((0,0):Nat × Nat)))=V1
 have d1:Dx V0 b s V V1:=hV1 ▸ kset_cx hc0 hi
 have hb1:V1 b=some (cuCells s i z,(tyC,(0,0))):=by rw [← hV1]; exact kset_same
 refine⟨z,ld_at hb1 2 1,z,ld_at hb1 2 1,i,ld_at hb1 1 1,s,ld_at hb1 0 1,fun hlt=>?_,fun _=>⟨d1,_,rfl,bit_bd _⟩⟩
 have hlt':i<(s.n:Int):=of_decide_eq_true hlt
 have hn1:=hl.1
 have h63:=hl.2.2.1
 obtain⟨b2,o2,c2,fc,a1,l1,hR,_⟩:=hl.at (i:=i.toNat) (by omega)
 refine⟨s,ld_at hb1 0 1,i,ld_at hb1 1 1,_,a1,hi,hlt',c2.1,(ldV_le d1.1.1 l1),i,ld_at hb1 1 1,_,_,rfl,hb1,(by show 1+1≤3; omega),?_⟩
 refine⟨d1.trans (kset_cx (h:=z) d1.1 (i:=IntKind.i64.wrap (i+1)) ?_),_,rfl,bit_bd _⟩
 rw [wrap_i64 (by omega)]
 omega
abbrev NumP (V0:Know) (b:Nat) (s:SlV) (V:Know) (n:Int):Know→Value→Prop:=fun V' r=>Dx V0 b s V V'∧∃ x:Int,r=.int .i64 x∧0≤x∧(0<n→x<n)∧(n≤0→x=0)
theorem cS_l01Below {V0 V:Know} {b:Nat} {s:SlV} (hc:Cx V0 b s V) (n:Int):CallX Tryz.prog V 32 [.pointer (some ⟨b,0,none⟩),.int .i64 n] (NumP V0 b s V n):=by
 refine CallX.of_fits Tryz.mix (fS_l01Below _ _) fun _=>?_
 simp only [tS_l01Below,T.wp]
 refine⟨fun h=>⟨hc.dx (Know.le.refl _),0,rfl,by omega,fun k=>k,fun _=>rfl⟩,fun h=>?_⟩
 have h0:¬ n≤0:=of_decide_eq_false h
 have fin:∀ {V':Know} {x:Int},Dx V0 b s V V'→0≤x→NumP V0 b s V n V' (packed [.int .i64 (x.tmod n)]):=fun d hx=>⟨d,_,rfl,Int.tmod_nonneg _ hx,fun hn=>Int.tmod_lt_of_pos _ hn,fun k=>absurd k h0⟩
 refine⟨fun _=>(cS_l01Byte hc).mono ?_,fun _=>(cS_l01Byte hc).mono ?_⟩
 ·rintro V1 _ ⟨d1,x,rfl,x0,_⟩
  exact⟨nofun,x,rfl,by omega,fin d1 x0⟩
 rintro V1 _ ⟨d1,x1,rfl,p1,q1⟩
 refine⟨nofun,x1,rfl,(cS_l01Byte d1.1).mono ?_⟩
 rintro V2 _ ⟨d2,x2,rfl,p2,q2⟩
 refine⟨nofun,x2,rfl,(cS_l01Byte d2.1).mono ?_⟩
 rintro V3 _ ⟨d3,x3,rfl,p3,q3⟩
 refine⟨nofun,x3,rfl,(cS_l01Byte d3.1).mono ?_⟩
 rintro V4 _ ⟨d4,x4,rfl,p4,q4⟩
 refine⟨nofun,x4,rfl,by omega,fin (((d1.trans d2).trans d3).trans d4) ?_⟩
 rw [wrap_i64 (n:=x1*16777216) (by omega),wrap_i64 (n:=x2*65536) (by omega),wrap_i64 (n:=x3*256) (by omega),wrap_i64 (n:=x1*16777216+x2*65536) (by omega),wrap_i64 (n:=x1*16777216+x2*65536+x3*256) (by omega),wrap_i64 (by omega)]
 omega
theorem cS_l01Once {V0 V:Know} {b:Nat} {s:SlV} (hc:Cx V0 b s V) (n:Int):CallX Tryz.prog V 65 [.pointer (some ⟨b,0,none⟩),.int .i64 n] (fun V' r=>Dx V0 b s V V'∧∃ e,r=.bool e):=by
 refine CallX.of_fits Tryz.mix (fS_l01Once _ _) fun _=>?_
 simp only [tS_l01Once,T.wp]
 refine(cS_l01Below hc n).mono ?_
 rintro V1 _ ⟨d1,x,rfl,_⟩
 exact⟨nofun,x,rfl,d1,_,rfl⟩
abbrev rNs:Rp [.s] (ByteArray × Unit):=rStr rNil
theorem cS_l01Str {V0 V:Know} {b:Nat} {s:SlV} (hc:Cx V0 b s V) (t:SlV) (ns:List (ByteArray × Unit)) (g:List Nat) (h:LR rNs V t ns g) (hb:b ∉ g) (hn:0<ns.length) :
  CallX Tryz.prog V 63 [.pointer (some ⟨b,0,none⟩),Sc.val .l t] (fun V' r=>Dx V0 b s V V'∧∃ n∈ns,r=.string n.1):=by
 refine CallX.of_fits Tryz.mix (fS_l01Str _ _) fun _=>?_
 simp only [tS_l01Str,T.wp]
 have h1:=h.1
 refine(cS_l01Below hc _).mono ?_
 rintro V1 _ ⟨d1,x,rfl,p1,p2,_⟩
 have hx:=p2 (by omega)
 obtain⟨b2,o2,c2,fc,a1,l1,hR,_⟩:=(h.but (f:=[b]) (fun y hy k=>hb (by simp at k; exact k ▸ hy)) d1.2).at (i:=x.toNat) (by omega)
 have e:c2.1=ns[x.toNat].1:=hR.1.1
 refine⟨nofun,x,rfl,_,a1,p1,(by omega),c2.1,l1,d1,ns[x.toNat]'(by omega),List.getElem_mem _,by rw [e]; rfl⟩
theorem cS_l01Pick {V0 V:Know} {b:Nat} {s:SlV} (hc:Cx V0 b s V) (t:SlV) (ns:List Lim) (g:List Nat) (h:LR rI V t ns g) (hb:b ∉ g) (hn:0<ns.length) :
  CallX Tryz.prog V 104 [.pointer (some ⟨b,0,none⟩),Sc.val .l t] (fun V' r=>Dx V0 b s V V'∧∃ n∈ns,r=.int .i64 n.1):=by
 refine CallX.of_fits Tryz.mix (fS_l01Pick _ _) fun _=>?_
 simp only [tS_l01Pick,T.wp]
 have h1:=h.1
 refine(cS_l01Below hc _).mono ?_
 rintro V1 _ ⟨d1,x,rfl,p1,p2,_⟩
 have hx:=p2 (by omega)
 obtain⟨b2,o2,c2,fc,a1,l1,hR,_⟩:=(h.but (f:=[b]) (fun y hy k=>hb (by simp at k; exact k ▸ hy)) d1.2).at (i:=x.toNat) (by omega)
 have e:c2.1=ns[x.toNat].1:=hR.1
 refine⟨nofun,x,rfl,_,a1,p1,(by omega),c2.1,l1,d1,ns[x.toNat]'(by omega),List.getElem_mem _,by rw [e]; rfl⟩
end Go.Proofs.YtmppmpceccpdlaaGreatDoor
namespace Go.Proofs.YtmppmpceccpdlaaGreatDoor
open Sx
set_option maxRecDepth 100000
theorem lr_lit {sh:List Sc} {α:Type} {r:Rp sh α} {V:Know} {b n cap:Nat} {cs:List (Scs sh)} {l:List α} {fps:List Nat} {post:List Value} {t:KTy} (h:Els r V cs l fps) (hb:V b=some (cs.flatMap (Scs.vals sh)++post,t)) (hn:n=l.length) (hc:l.length≤cap) (hl:l.length≤9223372036854775807) :
  LR r V ⟨some ⟨b,0,none⟩,n,cap⟩ l (b :: fps):=by
 subst hn
 exact⟨rfl,hc,hl,.inr ⟨b,[],post,t,fps,cs,rfl,by simpa using hb,h,rfl⟩⟩
theorem els_ns {V:Know}:∀ {ns:List ByteArray},(∀ n∈ns,n.size≤9223372036854775807)→Els rNs V (ns.map fun n=>(n,())) (ns.map fun n=>(n,())) []
 | [],_=>rfl
 | n :: ns,h=>⟨[],[],rfl,⟨⟨rfl,h n (by simp)⟩,rfl⟩,els_ns fun m hm=>h m (by simp [hm])⟩
theorem vals_ns:∀ ns:List ByteArray,(ns.map fun n=>((n,()):Scs [.s])).flatMap (Scs.vals [.s])=ns.map Value.string
 | []=>rfl
 | n :: ns=>by
  rw [List.map_cons,List.flatMap_cons,vals_ns ns]
  rfl
theorem cS_strLit {V0 V:Know} {b:Nat} {s:SlV} (hc:Cx V0 b s V) (ns:List ByteArray) (hn:0<ns.length) (hz:∀ n∈ns,n.size≤9223372036854775807) (hl:ns.length≤9223372036854775807) {b1 c1:Nat} {sp:List Value} {u:KTy} (hb1:V b1=none) (hc1:ns.length≤c1) :
  CallX Tryz.prog (kset V b1 (ns.map Value.string++sp,u)) 63 [.pointer (some ⟨b,0,none⟩),.slice (some ⟨b1,0,none⟩) ns.length c1] (fun V' r=>Dx V0 b s V V'∧∃ n∈ns,r=.string n):=by
 have le1:=kset_le (x:=(ns.map Value.string++sp,u)) hb1
 have hL:LR rNs (kset V b1 (ns.map Value.string++sp,u)) ⟨some ⟨b1,0,none⟩,ns.length,c1⟩ (ns.map fun n=>(n,())) [b1]:=lr_lit (fps:=[]) (post:=sp) (t:=u) (els_ns hz) (by rw [vals_ns]; exact kset_same) (by simp) (by simpa using hc1) (by simpa using hl)
 refine(cS_l01Str (hc.le le1) ⟨_,_,_⟩ _ [b1] hL (by simpa using fun e=>hc.some hb1 e.symm) (by simpa using hn)).mono ?_
 rintro V' _ ⟨d,x,hx,rfl⟩
 obtain⟨n,hn,rfl⟩:=List.mem_map.1 hx
 exact⟨(hc.dx le1).trans d,n,hn,rfl⟩
abbrev codes7:List ByteArray:=[⟨#[67,72,70]⟩,⟨#[69,85,82]⟩,⟨#[85,83,68]⟩,⟨#[74,80,89]⟩,⟨#[75,87,68]⟩,⟨#[72,85,70]⟩,⟨#[67,76,70]⟩]
abbrev codes2:List ByteArray:=[⟨#[67,72,70]⟩,⟨#[69,85,82]⟩]
abbrev codes3:List ByteArray:=[⟨#[69,85,82]⟩,⟨#[69,85,82]⟩,⟨#[85,83,68]⟩]
abbrev usd:ByteArray:=⟨#[85,83,68]⟩
theorem cS_l08Cur {V0 V:Know} {b:Nat} {s:SlV} (hc:Cx V0 b s V):CallX Tryz.prog V 68 [.pointer (some ⟨b,0,none⟩)] (fun V' r=>Dx V0 b s V V'∧∃ n,r=.string n∧known n=true):=by
 refine CallX.of_fits Tryz.mix (fS_l08Cur _) fun _=>?_
 simp only [tS_l08Cur,T.wp]
 intro b1 c1 sp hb1 hc1 _
 refine(cS_strLit hc codes7 (by decide) (by decide) (by decide) hb1 hc1).mono ?_
 rintro V1 _ ⟨d,n,hn,rfl⟩
 have hk:∀ n∈codes7,known n=true:=by decide +kernel
 exact⟨nofun,n,rfl,d,n,rfl,hk n hn⟩
def mask (b:Nat) (V:Know):Know:=fun k=>if k=b then none else V k
theorem mask_le (b:Nat) (V:Know):(mask b V).le V:=fun k x h=>by
 unfold mask at h
 split at h
 ·cases h
 ·exact h
theorem mask_but {b:Nat} {V V1 V':Know} (h1:V.le V1) (h:LeBut [b] V1 V'):(mask b V).le V':=fun k x hx=>by
 unfold mask at hx
 split at hx
 ·cases hx
 ·rename_i e
  exact h k x (by simpa using e) (h1 k x hx)
theorem cS_IntOfD (V:Know) (k:Int) (k1:0≤k) (k2:k≤1000000):CallX Tryz.prog V 31 [.int .i64 k] (fun V' r=>V.le V'∧∃ s o f,r=qv1 (false,s,())∧LR rI V' s o f∧Own V V' f∧Can o∧valN o=k∧o.length≤3):=by
 refine CallX.of_fits Tryz.mix (fS_IntOf _) fun _=>?_
 simp only [tS_IntOf,T.wp]
 refine⟨fun hb=>?_,fun _=>⟨fun hb=>?_,fun _=>(cS_NatOf V k ⟨by omega,by omega⟩).mono ?_⟩⟩
 ·have:k=-9223372036854775808:=by simpa using hb
  omega
 ·have:k<0:=of_decide_eq_true hb
  omega
 rintro V1 _ ⟨le1,s1,o1,f1,rfl,L1,_,C1,v1,n1⟩
 refine⟨nofun,s1,rfl,(cS_l04Make V1 false s1 o1 f1 L1 C1 (by omega)).mono ?_⟩
 rintro V2 _ ⟨le2,s2,f2,rfl,L2,O2⟩
 exact⟨nofun,_,rfl,le1.trans le2,s2,o1,f2,rfl,L2,O2.pre le1,C1,v1,n1⟩
theorem own_off {V0 V V1:Know} {b:Nat} {s:SlV} {f:List Nat} (hc:Cx V0 b s V) (O:Own V V1 f):∀ y∈f,y ∉ [b]:=fun y hy k=>by
 obtain rfl:y=b:=by simpa using k
 exact hc.some (O.2.1 y hy) rfl
def RateD (x:DRate):Prop:=x.2.2.1=false∧valN x.2.2.2.1≤3000∧x.2.2.2.2.1≤4∧known x.1=true∧known x.2.1=true∧x.2.2.2.1.length≤3
theorem cS_l10Draw {V0 V:Know} {b:Nat} {s:SlV} (hc:Cx V0 b s V):CallX Tryz.prog V 64 [.pointer (some ⟨b,0,none⟩)] (fun V' r=>Dx V0 b s V V'∧∃ c x f,r=qv5 c∧rRate.R V' c x f∧(∀ y∈f,y≠b)∧RateD x):=by
 refine CallX.of_fits Tryz.mix (fS_l10Draw _) fun _=>?_
 simp only [tS_l10Draw,T.wp]
 refine(cS_l08Cur hc).mono ?_
 rintro V1 _ ⟨d1,n1,rfl,k1⟩
 refine⟨nofun,n1,rfl,(cS_l08Cur d1.1).mono ?_⟩
 rintro V2 _ ⟨d2,n2,rfl,k2⟩
 refine⟨nofun,n2,rfl,?_⟩
 refine⟨fun y V'=>Dx V0 b s V V'∧known y.1=true∧known y.2.1=true,fun y _=>if y.1=y.2.1 then 1 else 0,⟨(n1,n2,()),rfl,d1.trans d2,k1,k2⟩,?_⟩
 rintro⟨(a1:ByteArray),(a2:ByteArray),u⟩ V3 ⟨d3,j1,j2⟩
 replace j1:known a1=true:=j1
 replace j2:known a2=true:=j2
 refine⟨fun he=>?_,fun _=>?_⟩
 ·have e:a1=a2:=text_eq.1 he
  intro b1 c1 sp hb1 hc1 _
  refine(cS_strLit d3.1 codes2 (by decide) (by decide) (by decide) hb1 hc1).mono ?_
  rintro V4 _ ⟨d4,n,hn,rfl⟩
  have hk:∀ n∈codes2,known n=true∧n≠usd:=by decide +kernel
  refine⟨nofun,n,rfl,_,rfl,(n,usd,()),rfl,⟨d3.trans d4,(hk n hn).1,(by decide +kernel:known usd=true)⟩,?_⟩
  show(if n=usd then 1 else 0)<(if a1=a2 then 1 else 0)
  rw [if_neg (hk n hn).2,if_pos e]
  omega
 refine(cS_l01Below d3.1 3000).mono ?_
 rintro V4 _ ⟨d4,x,rfl,x0,x1,_⟩
 have hx:=x1 (by omega)
 refine⟨nofun,x,rfl,?_⟩
 rw [wrap_i64 (by omega)]
 refine(cS_IntOfD V4 (1+x) (by omega) (by omega)).mono ?_
 rintro V5 _ ⟨le5,s5,o5,f5,rfl,L5,O5,C5,v5,n5⟩
 have d5:=(d3.trans d4).trans (d4.1.dx le5)
 refine⟨nofun,_,rfl,mask b V5,mask_le b V5,fun b6 hb6=>?_⟩
 have le6:=kset_le (x:=([Value.int .i64 0,.int .i64 1,.int .i64 2,.int .i64 3,.int .i64 4],((3:TypeId),((0,0):Nat × Nat)))) hb6
 have d6:=d5.trans (d5.1.dx le6)
 have hL:LR rI (kset V5 b6 ([Value.int .i64 0,.int .i64 1,.int .i64 2,.int .i64 3,.int .i64 4],((3:TypeId),((0,0):Nat × Nat)))) ⟨some ⟨b6,0,none⟩,5,5⟩ (([0,1,2,3,4]:List Int).map fun n=>(n,())) [b6]:=lr_lit (fps:=[]) (post:=[]) (cs:=([0,1,2,3,4]:List Int).map fun n=>(n,())) ⟨[],[],rfl,⟨rfl,rfl⟩,[],[],rfl,⟨rfl,rfl⟩,[],[],rfl,⟨rfl,rfl⟩,[],[],rfl,⟨rfl,rfl⟩,[],[],rfl,⟨rfl,rfl⟩,rfl⟩ kset_same rfl (by decide) (by decide)
 refine(cS_l01Pick d6.1 ⟨some ⟨b6,0,none⟩,5,5⟩ _ [b6] hL (by simpa using fun e=>d5.1.some hb6 e.symm) (by decide)).mono ?_
 rintro V7 _ ⟨d7,⟨n,u⟩,hn,rfl⟩
 have hk:n≤4:=by
  simp at hn
  omega
 have L7:=(L5.le le6).but (own_off d4.1 O5) d7.2
 refine⟨mask_but le6 d7.2,n,rfl,d6.trans d7,(a1,a2,false,s5,n,()),(a1,a2,false,o5,n,()),f5++[],rfl,⟨⟨rfl,known_len j1⟩,⟨rfl,known_len j2⟩,rfl,f5,[],rfl,L7,rfl,rfl⟩,fun y hy=>by
  rw [List.append_nil] at hy
  simpa using own_off d4.1 O5 y hy,rfl,by show valN o5≤3000; omega,hk,j1,j2,n5⟩
end Go.Proofs.YtmppmpceccpdlaaGreatDoor
namespace Go.Proofs.YtmppmpceccpdlaaGreatDoor
open Sx
set_option maxRecDepth 100000
theorem ratesOk_put {p:ByteArray} {l:List DRate} {r:DRate} (h:RatesOkP p l) (hr:RateOkP r) (hn:(putR r l).length≤12):RatesOkP p (putR r l):=by
 by_cases c:∃ (i:Nat) (hi:i<l.length),rkey l[i]=rkey r
 ·obtain⟨i,hi,e⟩:=c
  have hj:∀ (j:Nat) (hj:j<l.length),j<i→rkey l[j]≠rkey r:=fun j hj hji e2=>by
   obtain⟨_,_,q⟩:=h.2.2 i hi
   exact q j hj hji (e2.trans e.symm)
  rw [putR_at hi e hj]
  exact ratesOk_set h hr hi e
 ·have hno:∀ (j:Nat) (hj:j<l.length),rkey l[j]≠rkey r:=fun j hj e=>c ⟨j,hj,e⟩
  rw [putR_none hno] at hn ⊢
  exact(ratesOk_snoc h hr hno).2 (by simpa using hn)
theorem putR_mem {r:DRate}:∀ {l:List DRate} {x:DRate},x∈putR r l→x=r∨x∈l
 | [],x,h=>by
  rw [putR] at h
  exact .inl (by simpa using h)
 | y :: l,x,h=>by
  rw [putR] at h
  split at h
  ·rcases List.mem_cons.1 h with h | h
   ·exact .inl h
   ·exact .inr (by simp [h])
  ·rcases List.mem_cons.1 h with h | h
   ·exact .inr (by simp [h])
   ·rcases putR_mem h with h | h
    ·exact .inl h
    ·exact .inr (by simp [h])
def TabS (l:List DRate):Prop:=∀ r∈l,valN r.2.2.2.1≤3000∧r.2.2.2.2.1≤4
abbrev TabP (V0:Know) (b:Nat) (s:SlV) (V:Know):Know→Value→Prop:=fun V' r=>Dx V0 b s V V'∧∃ c p l f,r=qv3 c∧rRates.R V' c (p,l,()) f∧(∀ y∈f,y≠b)∧RatesOkP p l∧TabS l
theorem rate_totD {x:DRate} (h:RateD x):rRate.tot x≤1048576:=by
 have e:rRate.tot x=x.1.size+(x.2.1.size+(x.2.2.2.1.length+totE rI x.2.2.2.1+0)):=rfl
 have h1:=known_sz3 h.2.2.2.1
 have h2:=known_sz3 h.2.2.2.2.1
 have h3:=h.2.2.2.2.2
 rw [e,totE_rI]
 omega
theorem ratesOk_nil {p:ByteArray} (h:known p=true):RatesOkP p []:=⟨h,by decide,fun i hi=>absurd hi (by simp)⟩
theorem rates_mk {V:Know} {p:ByteArray} {t:SlV} {l:List DRate} {f:List Nat} (z:p.size≤9223372036854775807) (h:LR rRate V t l f):rRates.R V (p,t,()) (p,l,()) f:=by
 have e:f=f++[]:=by simp
 rw [e]
 exact rStr.mk z (rSl.mk h rNil.mk)
theorem rates_el {V:Know} {c:Scs [.s,.l]} {x:DRates} {f:List Nat} (h:rRates.R V c x f):∃ t,c=(x.1,t,())∧LR rRate V t x.2.1 f:=by
 obtain⟨c0,c1,cu⟩:=c
 obtain⟨⟨e0,_⟩,g,g',rfl,hs,hN⟩:=h
 replace e0:c0=x.1:=e0
 replace hN:g'=[]:=hN
 subst e0 hN
 rw [List.append_nil]
 exact⟨c1,rfl,hs⟩
theorem cS_l10Table {V0 V:Know} {b:Nat} {s:SlV} (hc:Cx V0 b s V):CallX Tryz.prog V 29 [.pointer (some ⟨b,0,none⟩)] (TabP V0 b s V):=by
 refine CallX.of_fits Tryz.mix (fS_l10Table _) fun _=>?_
 simp only [tS_l10Table,T.wp]
 intro b1 c1 sp hb1 hc1 _
 refine(cS_strLit hc codes3 (by decide) (by decide) (by decide) hb1 hc1).mono ?_
 rintro V1 _ ⟨d1,p0,hp0,rfl⟩
 have hk:∀ n∈codes3,known n=true:=by decide +kernel
 have kp0:=hk p0 hp0
 refine⟨nofun,p0,rfl,(cS_l01Below d1.1 7).mono ?_⟩
 rintro V2 _ ⟨d2,x,rfl,x0,x1,_⟩
 have hx:=x1 (by omega)
 refine⟨nofun,x,rfl,?_⟩
 refine⟨fun y V'=>∃ (k:Nat) (p:ByteArray) (t:SlV) (l:List DRate) (f:List Nat),(y.1:Int)=(k:Int)∧k≤7∧y.2.1=p∧y.2.2.1=t∧Dx V0 b s V V'∧LR rRate V' t l f∧(∀ z∈f,z≠b)∧RatesOkP p l∧TabS l,fun y _=>(y.1:Int).toNat,
  ⟨(x,p0,⟨none,0,0⟩,()),rfl,x.toNat,p0,_,[],[],(by show x=_; omega),by omega,rfl,rfl,d1.trans d2,⟨rfl,Nat.le_refl _,(by decide:0≤9223372036854775807),.inl ⟨rfl,fun _=>rfl,rfl⟩⟩,(fun _ h=>by cases h),ratesOk_nil kp0,(fun _ h=>by cases h)⟩,?_⟩
 rintro⟨(i:Int),y1,y2,yu⟩ V3 ⟨k,p,t,l,f,hi,hk7,e1,e2,d3,L3,hf,ok,td⟩
 replace hi:i=(k:Int):=hi
 replace e1:y1=p:=e1
 replace e2:y2=t:=e2
 subst hi e1 e2
 refine⟨fun hgt=>?_,fun _=>⟨d3,_,y1,l,f,rfl,rates_mk (known_len ok.1) L3,hf,ok,td⟩⟩
 have kpos:0<k:=by
  have:(k:Int) > 0:=of_decide_eq_true hgt
  omega
 have hw:IntKind.i64.wrap ((k:Int)-1)=((k-1:Nat):Int):=by rw [wrap_i64 (by omega)]; omega
 refine(cS_l10Draw d3.1).mono ?_
 rintro V4 _ ⟨d4,c,r,g,rfl,R4,hg,rd⟩
 refine⟨nofun,c,rfl,(cS_l01Once d4.1 2).mono ?_⟩
 rintro V5 _ ⟨d5,e,rfl⟩
 have dd:Dx V0 b s V V5:=(d3.trans d4).trans d5
 have fb:∀ {g:List Nat},(∀ y∈g,y≠b)→∀ y∈g,y ∉ [b]:=fun h y hy=>by simpa using h y hy
 have L5:=L3.but (fb hf) (d4.2.trans d5.2)
 have R5:=rRate.but R4 (fb hg) d5.2
 have put:∀ (c':Scs [.s,.s,.b,.l,.i .i64]) (r':DRate),rRate.R V5 c' r' g→RateD r'→∀ (K:Know→Value→Prop),
   (∀ V6 t6 l6 f6 ok6,V5.le V6→(ok6=true→Dx V0 b s V V6∧LR rRate V6 t6 l6 f6∧(∀ z∈f6,z≠b)∧RatesOkP y1 l6∧TabS l6)→∀ p6,(ok6=true→p6=y1)→K V6 (.tuple #[qv3 (p6,t6,()),.bool ok6])) →
   CallX Tryz.prog V5 66 [qv3 (y1,y2,()),qv5 c'] K:=by
  intro c' r' R' rd' K hK
  have hS5:HcS V5:=trivial
  refine(cS_RatePut hS5 (y1,y2,()) (y1,l,()) f (rates_mk (known_len ok.1) L5) (Nat.le_trans (rates_tot (x:=(y1,l,())) ok) (by decide)) c' r' g R' (rate_totD rd')).mono ?_
  rintro V6 _ ⟨le6,c6,f6,rfl,R6,O6⟩
  obtain⟨t6,rfl,L6⟩:=rates_el R6
  refine hK V6 t6 (putP (y1,l,()) r').1.2.1 f6 _ le6 (fun hok=>?_) _ (fun hok=>?_)
  ·by_cases q:PutOk y1 l r'
   ·rw [putP_ok (x:=(y1,l,())) q] at L6 ⊢
    refine⟨dd.trans (dd.1.dx le6),L6,fun z hz=>by simpa using own_off dd.1 O6 z hz,ratesOk_put q.1 q.2.1 q.2.2,fun z hz=>?_⟩
    rcases putR_mem hz with rfl | hz
    ·exact⟨rd'.2.1,rd'.2.2.1⟩
    ·exact td z hz
   ·rw [putP_no (x:=(y1,l,())) q] at hok
    cases hok
  ·by_cases q:PutOk y1 l r'
   ·rw [putP_ok (x:=(y1,l,())) q]
   ·rw [putP_no (x:=(y1,l,())) q] at hok
    cases hok
 have stay:∀ {V6:Know},V5.le V6→∃ (k':Nat) (p:ByteArray) (t:SlV) (l:List DRate) (f:List Nat),(((k-1:Nat):Int))=(k':Int)∧k'≤7∧y1=p∧y2=t∧Dx V0 b s V V6∧LR rRate V6 t l f∧(∀ z∈f,z≠b)∧RatesOkP p l∧TabS l :=
  fun le6=>⟨k-1,y1,y2,l,f,rfl,by omega,rfl,rfl,dd.trans (dd.1.dx le6),L5.le le6,hf,ok,td⟩
 refine⟨nofun,e,rfl,fun _=>⟨fun _=>?_,fun _=>?_⟩,fun _=>?_⟩
 ·refine put (c.1,y1,c.2.2) (r.1,y1,r.2.2) ⟨R5.1,⟨rfl,known_len ok.1⟩,R5.2.2⟩ ⟨rd.1,rd.2.1,rd.2.2.1,rd.2.2.2.1,ok.1,rd.2.2.2.2.2⟩ _ fun V6 t6 l6 f6 ok6 le6 h6 p6 hp6=>?_
  refine⟨nofun,((p6,t6,()),ok6,()),rfl,fun ht=>?_,fun _=>?_⟩
  ·have ht':ok6=true:=ht
   obtain⟨q1,q2,q3,q4,q5⟩:=h6 ht'
   obtain rfl:=hp6 ht'
   exact⟨_,rfl,(((k-1:Nat):Int),p6,t6,()),by rw [hw]; rfl,⟨k-1,p6,t6,l6,f6,rfl,by omega,rfl,rfl,q1,q2,q3,q4,q5⟩,by show((k-1:Nat):Int).toNat<(k:Int).toNat; omega⟩
  ·exact⟨_,rfl,(((k-1:Nat):Int),y1,y2,()),by rw [hw]; rfl,stay le6,by show((k-1:Nat):Int).toNat<(k:Int).toNat; omega⟩
 all_goals
  refine put c r R5 rd _ fun V6 t6 l6 f6 ok6 le6 h6 p6 hp6=>?_
  refine⟨nofun,((p6,t6,()),ok6,()),rfl,fun ht=>?_,fun _=>?_⟩
  ·have ht':ok6=true:=ht
   obtain⟨q1,q2,q3,q4,q5⟩:=h6 ht'
   obtain rfl:=hp6 ht'
   exact⟨_,rfl,(((k-1:Nat):Int),p6,t6,()),by rw [hw]; rfl,⟨k-1,p6,t6,l6,f6,rfl,by omega,rfl,rfl,q1,q2,q3,q4,q5⟩,by show((k-1:Nat):Int).toNat<(k:Int).toNat; omega⟩
  ·exact⟨_,rfl,(((k-1:Nat):Int),y1,y2,()),by rw [hw]; rfl,stay le6,by show((k-1:Nat):Int).toNat<(k:Int).toNat; omega⟩
end Go.Proofs.YtmppmpceccpdlaaGreatDoor
namespace Go.Proofs.YtmppmpceccpdlaaGreatDoor
open Sx
set_option maxRecDepth 100000
theorem cS_l01New (V:Know) (s:SlV) (l:List (Int × Unit)) (f:List Nat) (h:LR rBy V s l f):CallX Tryz.prog V 28 [Sc.val .l s] (fun V' r=>V.le V'∧∃ b,r=.pointer (some ⟨b,0,none⟩)∧V b=none∧Cx V b s V'):=by
 refine CallX.of_fits Tryz.mix (fS_l01New _) fun _=>?_
 simp only [tS_l01New,T.wp]
 have hn:=h.1
 have h63:=h.2.2.1
 refine⟨fun y V'=>V'=V∧∃ k:Nat,y.2.1=(k:Int)∧k≤l.length,fun y _=>((l.length:Int)-(y.2.1:Int)).toNat,⟨(_,(0:Int),()),rfl,rfl,0,rfl,Nat.zero_le _⟩,?_⟩
 rintro⟨(g:Int),(i:Int),u⟩ V' ⟨rfl,k,hi,hk⟩
 replace hi:i=(k:Int):=hi
 subst hi
 have fin:∀ b2,V' b2=none→(V'.le (kset V' b2 ([Sc.val .l s,.int .i64 0,.int .i64 g],(tyC,(0,0))))∧∃ b,packed [.pointer (some ⟨b2,0,none⟩)]=.pointer (some ⟨b,0,none⟩)∧V' b=none∧Cx V' b s (kset V' b2 ([Sc.val .l s,.int .i64 0,.int .i64 g],(tyC,(0,0))))) :=
  fun b2 hb2=>⟨kset_le hb2,b2,rfl,hb2,kset_le hb2,hb2,⟨0,g,Int.le_refl _,kset_same⟩,l,f,h⟩
 refine⟨fun hlt=>⟨fun _=>?_,fun _=>fin⟩,fun _=>fin⟩
 have hi2:k<l.length:=by
  have:(k:Int)<(s.n:Int):=of_decide_eq_true hlt
  omega
 obtain⟨b1,o1,c1,fc,a1,l1,hR,_⟩:=h.at hi2
 dsimp only
 rw [Int.toNat_natCast]
 refine⟨_,a1,by omega,(by omega:(k:Int)<(s.n:Int)),c1.1,l1,_,rfl,(_,((k+1:Nat):Int),()),by rw [nxt hi2 (by omega)]; rfl,⟨rfl,k+1,rfl,hi2⟩,?_⟩
 show((l.length:Int)-((k+1:Nat):Int)).toNat<((l.length:Int)-(k:Int)).toNat
 omega
end Go.Proofs.YtmppmpceccpdlaaGreatDoor
