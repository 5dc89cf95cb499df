/-
  The contracts of the library's functions at this program.
-/
import Derived.Test.YtfiakghfncempaaGreatDoorBkX
import Derived.Test.YtfiakghfncempaaGreatDoorBkM
import Derived.Test.YtfiakghfncempaaGreatDoorMap
import Derived.Shelf.Small.Bits
import Derived.Shelf.Small.Wraps
import Derived.Shelf.Strconv.Itoa0
import Derived.Shelf.Sort.Plain
import Derived.Ground.Names2Prog
import Derived.Shelf.Slices.SearchI
import Derived.Shelf.Slices.In.SortNone
import Derived.Shelf.Slices.In.SortNone2
import Derived.Test.YtfiakghfncempaaGreatDoorProg
namespace Go.Proofs.YtfiakghfncempaaGreatDoor
open Sx
set_option maxRecDepth 100000
def Bd (k:Nat) (l:List DRest):Prop:=(k=0→l=[])∧∀ x∈l,x.2.2.1.length≤6*k-1∧x.2.2.2.1.length≤5*k
theorem valN_lt {l:List Lim} (h:Lims l):valN l<1000000000 ^ l.length:=(valTo_bd h _).2
theorem redS_wide {S D:Int} {x:DRat} (hD:0<D) (h:RedS S D x true) (i j:Nat) (hS:(S.natAbs:Int)<1000000000 ^ i) (hDb:D<1000000000 ^ j):x.2.1.length≤i∧x.2.2.1.length≤j:=by
 obtain⟨p,q,h1,h2⟩:=h
 have hg:=gcd_pos (N:=(S.natAbs:Int)) hD
 have bd:∀ {l:List Lim} {k:Nat},Can l→∀ {N:Int},valN l*(Int.gcd (S.natAbs:Int) D:Int)=N→N<1000000000 ^ k→l.length≤k:=by
  intro l k hl N hv hN
  by_cases kk:l.length≤k
  ·exact kk
  ·have g1:=can_ge hl (by omega)
   have g2:=pw_mono (show k≤l.length-1 by omega)
   have g3:valN l*1≤valN l*(Int.gcd (S.natAbs:Int) D:Int):=Int.mul_le_mul_of_nonneg_left (by omega) (valN_nonneg hl.1)
   omega
 rcases h2 with ⟨_,_,_,rfl⟩ | ⟨_,c,_⟩
 ·exact⟨bd h1.1 h1.2.2.1 hS,bd h1.2.1 h1.2.2.2 hDb⟩
 ·cases c
theorem lim_bd {l:List Lim} (h:Lims l) {k:Nat} (hk:l.length≤k):0≤valN l∧valN l<1000000000 ^ k:=by
 have h1:=valN_nonneg h
 have h2:=valN_lt h
 have h3:=pw_mono hk
 exact⟨h1,by omega⟩
theorem mul_pw {a b:Int} {i j:Nat} (a0:0≤a) (b0:0≤b) (ha:a<1000000000 ^ i) (hb:b<1000000000 ^ j):a*b<1000000000 ^ (i+j):=by
 have hp:(0:Int)<1000000000 ^ j:=by omega
 rw [Int.pow_add]
 exact Int.lt_of_le_of_lt (Int.mul_le_mul_of_nonneg_left (by omega) a0) (Int.mul_lt_mul_of_pos_right ha hp)
theorem sum_bd {x y:DRat} {i j m n k:Nat} (hx:RatP x) (hy:RatP y) (h1:x.2.1.length≤i) (h2:x.2.2.1.length≤j) (h3:y.2.1.length≤m) (h4:y.2.2.1.length≤n) (k1:i+n<k) (k2:m+j<k) :
  ((rS x*rD y+rS y*rD x).natAbs:Int)<1000000000 ^ k∧rD x*rD y<1000000000 ^ (j+n):=by
 have a1:=lim_bd hx.1.1.1.1 h1
 have a2:=lim_bd hx.2.1.1.1 h2
 have a3:=lim_bd hy.1.1.1.1 h3
 have a4:=lim_bd hy.2.1.1.1 h4
 have b1:=mul_pw a1.1 a4.1 a1.2 a4.2
 have b2:=mul_pw a3.1 a2.1 a3.2 a2.2
 have c1:(((rS x*rD y).natAbs:Nat):Int)=valN x.2.1*valN y.2.2.1:=by
  rw [Int.natAbs_mul,Int.natCast_mul,sval_abs hx.1.1.1.1,Int.natAbs_of_nonneg a4.1]
 have c2:(((rS y*rD x).natAbs:Nat):Int)=valN y.2.1*valN x.2.2.1:=by
  rw [Int.natAbs_mul,Int.natCast_mul,sval_abs hy.1.1.1.1,Int.natAbs_of_nonneg a2.1]
 obtain⟨q,rfl⟩:∃ q,k=q+1:=⟨k-1,by omega⟩
 have p1:=pw_mono (show i+n≤q by omega)
 have p2:=pw_mono (show m+j≤q by omega)
 have p3:=pw_succ q
 refine⟨?_,mul_pw a2.1 a4.1 a2.2 a4.2⟩
 have:=Int.natAbs_add_le (rS x*rD y) (rS y*rD x)
 omega
theorem addR_bd {k:Nat} {l l':List DRest} {c:ByteArray} {r:DRat} (h:RestsOkP l) (hb:Bd k l) (hr:RatP r) (h1:r.2.1.length≤5) (h2:r.2.2.1.length≤5) (hk:k≤2) (q:KeepQ l c r l' true):Bd (k+1) l':=by
 rcases q with ⟨_,y,hy,rfl⟩ | ⟨k,_⟩
 ·have hat:=atR_ok h c
  have old:∀ x∈l,x.2.2.1.length≤6*(k+1)-1∧x.2.2.2.1.length≤5*(k+1):=fun x hx=>by
   obtain⟨a,b⟩:=hb.2 x hx
   exact⟨by omega,by omega⟩
  refine⟨by omega,fun x hx=>?_⟩
  rcases addR_mem hx with hx | ⟨rfl,_⟩
  ·exact old x hx
  ·have hsz:∃ i j,(atR l c).2.1.length≤i∧(atR l c).2.2.1.length≤j∧i+5<6*(k+1)∧5+j<6*(k+1)+1∧j+5≤5*(k+1)+1∧(k=0→i=0∧j=1)∧(0<k→j+5≤5*(k+1)∧5+j<6*(k+1)-1∧i+5<6*(k+1)-1):=by
    unfold atR
    cases hf:l.find? (keyB c) with
    | none=>exact⟨0,1,Nat.le_refl _,Nat.le_refl _,by omega,by omega,by omega,fun _=>⟨rfl,rfl⟩,fun _=>⟨by omega,by omega,by omega⟩⟩
    | some x =>
     have hm:=List.mem_of_find?_eq_some hf
     obtain⟨a,b⟩:=hb.2 x hm
     have k0:0<k:=Nat.pos_of_ne_zero fun e=>by rw [hb.1 e] at hm; cases hm
     exact⟨6*k-1,5*k,a,b,by omega,by omega,by omega,by omega,fun _=>⟨by omega,by omega,by omega⟩⟩
   obtain⟨i,j,s1,s2,t1,t2,t3,t4,t5⟩:=hsz
   have hD:0<rD (atR l c)*rD r:=Int.mul_pos (ratP_pos hat) (ratP_pos hr)
   by_cases k0:k=0
   ·subst k0
    obtain⟨rfl,rfl⟩:=t4 rfl
    have e0:atR l c=nought:=by rw [hb.1 rfl]; rfl
    have hy1:RedS (rS r) (rD r) y true:=by
     have:=hy
     unfold AddRP at this
     rw [e0] at this
     simpa [rS,rD,sval,valN,valTo,limb] using this
    obtain⟨_,z1,z2⟩:=redS_len (ratP_pos hr) hy1 5 (by omega) (by rw [sval_abs hr.1.1.1.1]; exact(lim_bd hr.1.1.1.1 h1).2) (lim_bd hr.2.1.1.1 h2).2 (by omega)
    exact⟨by show y.2.1.length≤_; omega,by show y.2.2.1.length≤_; omega⟩
   ·have kp:0<k:=by omega
    obtain⟨u1,u2,u3⟩:=t5 kp
    obtain⟨v1,v2⟩:=sum_bd (k:=6*(k+1)-1) hat hr s1 s2 h1 h2 (by omega) (by omega)
    have w:=pw_mono (show j+5≤5*(k+1) by omega)
    have g:=redS_wide hD hy (6*(k+1)-1) (5*(k+1)) v1 (by omega)
    exact g
 ·cases k
end Go.Proofs.YtfiakghfncempaaGreatDoor
namespace Go.Proofs.YtfiakghfncempaaGreatDoor
open Sx
set_option maxRecDepth 100000
abbrev RatD (V0:Know) (b:Nat) (s:SlV) (V:Know):Know→Value→Prop:=fun V' r=>Dx V0 b s V V'∧∃ c x g,r=qv1 c∧rRat.R V' c x g∧(∀ y∈g,y≠b)∧RatOkP x.1 x.2.1 x.2.2.1∧x.2.1.length≤5∧x.2.2.1.length≤5
theorem mask_none {b:Nat} {V:Know}:mask b V b=none:=by unfold mask; rw [if_pos rfl]
theorem mask_else {b k:Nat} {V:Know} (h:k≠b):mask b V k=V k:=by unfold mask; rw [if_neg h]
theorem cS_l05Draw {V0 V:Know} {b:Nat} {s:SlV} (hc:Cx V0 b s V):CallX Tryz.prog V 99 [.pointer (some ⟨b,0,none⟩),.int .i64 1] (RatD V0 b s V):=by
 refine CallX.of_fits Tryz.mix (fS_l05Draw _ _) fun _=>?_
 simp only [tS_l05Draw,ap_d,T.wp]
 refine(cS_l04Draw hc 1 (by decide) (by decide)).mono ?_
 rintro V1 _ ⟨d1,e,t,o,g,rfl,L1,hg,ok1,n1⟩
 refine⟨nofun,(e,t,()),rfl,(cS_l01Below d1.1 12).mono ?_⟩
 rintro V2 _ ⟨d2,x,rfl,x0,x1,_⟩
 have hx:=x1 (by omega)
 refine⟨nofun,x,rfl,?_⟩
 rw [wrap_i64 (n:=1+x) (by omega)]
 refine(cS_NatOf V2 (1+x) ⟨by omega,by omega⟩).mono ?_
 rintro V3 _ ⟨le3,s3,o3,f3,rfl,L3,O3,C3,v3,n3⟩
 refine⟨nofun,s3,rfl,(cS_l01Once (d2.1.le le3) 3).mono ?_⟩
 rintro V4 _ ⟨d4,e4,rfl⟩
 have d14:=(d2.trans (d2.1.dx le3)).trans d4
 have d04:=d1.trans d14
 have fb:∀ {g:List Nat},(∀ y∈g,y≠b)→∀ y∈g,y ∉ [b]:=fun h y hy=>by simpa using h y hy
 -- what follows once the divisor is there
 have fin:∀ {V5:Know} (u:SlV) (d:List Lim) (f5:List Nat),Dx V0 b s V V5→Dx V0 b s V1 V5→LR rI V5 u d f5→Can d→0<valN d→d.length≤5 →
   CallX Tryz.prog V5 160 [qv0 (e,t,()),qv0 (false,u,())] (fun V6 r=>V5.le V6∧Dx V0 b s V V6∧∃ c x ok g,r=.tuple #[qv1 c,.bool ok]∧rRat.R V6 c x g∧(∀ y∈g,y≠b)∧(ok=true→RatOkP x.1 x.2.1 x.2.2.1∧x.2.1.length≤5∧x.2.2.1.length≤5)):=by
  intro V5 u d f5 d5 d15 L5 C5 p5 n5
  refine(cS_RatMakeP V5 e t u o d g f5 (L1.but (fb hg) d15.2) L5 ok1 C5 p5 (by omega)).mono ?_
  rintro V6 _ ⟨le6,c6,x6,ok6,g6,rfl,R6,O6,hx6⟩
  exact⟨le6,d5.trans (d5.1.dx le6),c6,x6,ok6,g6,rfl,R6,fun y hy=>by simpa using own_off d5.1 O6 y hy,fun h=>⟨redS_ok p5 hx6 h,by subst h; exact redS_wide p5 hx6 5 5 (by rw [sval_abs ok1.1.1.1]; exact(lim_bd ok1.1.1.1 n1).2) (lim_bd C5.1 n5).2⟩⟩
 have zero:∀ {V6:Know},Dx V0 b s V V6→CallX Tryz.prog V6 161 [] (fun V' r=>(false=true→V6.le V')∧∃ y,r=Sh.val (.v (.g [.b,.l,.l])) y∧RatD V0 b s V V' (packed [qv1 y])):=by
  intro V6 d6
  refine(cS_RatZero V6).mono ?_
  rintro V7 _ ⟨le7,c,g7,rfl,R7,h7⟩
  exact⟨nofun,c,rfl,d6.trans (d6.1.dx le7),c,nought,g7,rfl,R7,fun y hy=>d6.1.some (h7 y hy),nought_ok,by decide,by decide⟩
 refine⟨nofun,e4,rfl,fun _=>?_,fun _=>?_⟩
 ·rw [show IntKind.i64.wrap ((1:Int)-1)=0 from by decide]
  refine(cS_l02Nat d4.1 0 (by decide) (by decide)).mono ?_
  rintro V5 _ ⟨d5,b3,cap,cs,o5,rfl,hb3,hcs,L5,hne,hV4,C5,n5⟩
  have ho5:o5=[]:=List.eq_nil_of_length_eq_zero (by omega)
  subst ho5
  refine⟨nofun,_,rfl,(cS_l01Below d5.1 999).mono ?_⟩
  rintro V6 _ ⟨d6,w,rfl,w0,w1,_⟩
  have hw:=w1 (by omega)
  refine⟨nofun,w,rfl,rfl,rfl,?_⟩
  rw [wrap_i64 (n:=1+w) (by omega)]
  have hb6:V6 b3=some (cs,(3,(0,0))):=d6.2 _ _ (by simpa using hne) hb3
  have G:GR rI 3 V6 ⟨some ⟨b3,0,none⟩,0,cap⟩ [] [b3]:=⟨rfl,Nat.zero_le _,.inr ⟨b3,[],[],cs,rfl,hb6,by rw [hcs]; show cap=(cap-0)*1; omega,rfl,rfl⟩⟩
  have hO:Own (mask b3 V6) V6 ([b3]++[]):=⟨by simp,fun y hy=>by
   obtain rfl:y=b3:=by simpa using hy
   exact mask_none,fun y hy=>by
   obtain rfl:y=b3:=by simpa using hy
   exact⟨_,_,hb6⟩⟩
  refine ap_row (sh:=[.i .i64]) (c:=((1+w,()):Lim)) (x:=(1+w,())) G ⟨rfl,rfl⟩ hO (mask_le _ _) (by kernel_rfl) (by show(0+1)*8≤_; omega) (by show 0+1≤_; omega) fun s7 V7 f7 G7 O7 le7=>?_
  have cx7:Cx V0 b s V7:=by
   obtain⟨h1,h2,⟨i,k,hi,hb⟩,h3⟩:=d6.1
   refine⟨fun k x hk=>?_,h2,⟨i,k,hi,le7 _ _ (by rw [mask_else (Ne.symm hne)]; exact hb)⟩,h3⟩
   refine le7 _ _ ?_
   rw [mask_else]
   ·exact h1 k x hk
   ·rintro rfl
    have:=d04.1.1 _ x hk
    rw [hV4] at this; cases this
  have but7:∀ {W:Know},W b3=none→LeBut [b] W V6→LeBut [b] W V7:=fun hn h k x hk hx=>le7 _ _ (by
   rw [mask_else (fun e=>by rw [e,hn] at hx; cases hx)]
   exact h k x hk hx)
  have n1b:V1 b3=none:=by
   cases hv:V1 b3 with
   | none=>rfl
   | some y =>
    have:=d14.2 b3 y (by simpa using hne) hv
    rw [hV4] at this; cases this
  have n0b:V b3=none:=by
   cases hv:V b3 with
   | none=>rfl
   | some y =>
    have:=d1.2 b3 y (by simpa using hne) hv
    rw [n1b] at this; cases this
  have d7:Dx V0 b s V V7:=⟨cx7,but7 n0b ((d04.trans d5).trans d6).2⟩
  have d17:Dx V0 b s V1 V7:=⟨cx7,but7 n1b ((d14.trans d5).trans d6).2⟩
  have C7:Can [((1+w,()):Lim)]:=⟨lims_one (by omega),.inr (by show limb [((1+w,()):Lim)] 0≠0; show 1+w≠0; omega)⟩
  refine(fin s7 _ f7 d7 d17 (G7.lr (by simp)) C7 ((can_pos C7).1 (by simp)) (by simp)).mono ?_
  rintro V8 _ ⟨le8,d8,c8,x8,ok8,g8,rfl,R8,hg8,h8⟩
  refine⟨nofun,(c8,ok8,()),rfl,fun _=>zero d8,fun hf=>⟨d8,c8,x8,g8,rfl,R8,hg8,(h8 (by simpa using hf)).1,(h8 (by simpa using hf)).2⟩⟩
 ·have L4:=(L3.le (Know.le.refl _)).but (fun y hy=>by simpa using own_off d2.1 O3 y hy) d4.2
  have p3:0<valN o3:=by omega
  refine(fin s3 o3 f3 d04 d14 L4 C3 p3 (by omega)).mono ?_
  rintro V8 _ ⟨le8,d8,c8,x8,ok8,g8,rfl,R8,hg8,h8⟩
  refine⟨nofun,(c8,ok8,()),rfl,fun _=>zero d8,fun hf=>⟨d8,c8,x8,g8,rfl,R8,hg8,(h8 (by simpa using hf)).1,(h8 (by simpa using hf)).2⟩⟩
abbrev codes4:List ByteArray:=[⟨#[67,72,70]⟩,⟨#[69,85,82]⟩,⟨#[85,83,68]⟩,⟨#[74,80,89]⟩]
theorem book_nil:BookOkP []:=⟨by decide,fun i hi=>absurd hi (by simp)⟩
theorem postB_valid {l:List DAcct} {n:ByteArray} {m:DMoney}:BookOkP (postB l n m).1:=by
 obtain⟨⟨y,ok⟩,hp⟩:∃ r,postB l n m=r:=⟨_,rfl⟩
 cases ok with
 | true=>rw [hp]; exact postB_ok hp
 | false =>
  have:(postB l n m).1=[]:=by
   by_cases hb:BookOkP l
   ·cases hf:fnd n l with
    | none=>rw [postB_none hf]
    | some i =>
     obtain⟨hi,_⟩:=fnd_at hf
     obtain⟨⟨z,ok⟩,ha⟩:∃ r,addM l[i].2 m=r:=⟨_,rfl⟩
     rw [postB_some hb hf hi ha] at hp ⊢
     have e2:=congrArg Prod.snd hp
     have:ok=false:=e2
     subst this
     rfl
   ·rw [postB_no hb]
  rw [this]; exact book_nil
theorem openB_valid {l:List DAcct} {n c:ByteArray} (h:(openB l n c).2=true):BookOkP (openB l n c).1:=by
 by_cases k:(BookOkP l∧fnd n l=none)∧BookOkP (openL l n c)
 ·rw [openB_ok k]; exact k.2
 ·rw [openB_no k] at h; cases h
def SmB (l:List DAcct):Prop:=∀ a∈l,(svM a.2).natAbs≤10000
theorem fnd_no {n:ByteArray}:∀ {l:List DAcct},fnd n l=none→∀ a∈l,a.1≠n
 | [],_,_,h=>by cases h
 | x :: l,h,a,ha=>by
  rw [fnd] at h
  split at h
  ·cases h
  ·rename_i e
   rcases List.mem_cons.1 ha with rfl | ha
   ·exact e
   ·exact fnd_no (by simpa using h) a ha
theorem insL_mem {α:Type} {x y:α} {l:List α} {i:Nat} (h:y∈insL i x l):y=x∨y∈l:=by
 unfold insL at h
 rcases List.mem_append.1 h with h | h
 ·exact .inr (List.mem_of_mem_take h)
 ·rcases List.mem_cons.1 h with h | h
  ·exact .inl h
  ·exact .inr (List.mem_of_mem_drop h)
theorem smB_nil:SmB []:=fun _ h=>by cases h
theorem smB_post {l:List DAcct} {n c:ByteArray} {m:DMoney} (h:SmB l) (hok:(openB l n c).2=true) (hm:(svM m).natAbs≤10000):SmB (postB (openB l n c).1 n m).1:=by
 by_cases k:(BookOkP l∧fnd n l=none)∧BookOkP (openL l n c)
 ·rw [openB_ok k]
  show SmB (postB (openL l n c) n m).1
  cases hf:fnd n (openL l n c) with
  | none=>rw [postB_none hf]; exact smB_nil
  | some i =>
   obtain⟨hi,hn⟩:=fnd_at hf
   obtain⟨⟨z,ok⟩,ha⟩:∃ r,addM (openL l n c)[i].2 m=r:=⟨_,rfl⟩
   rw [postB_some k.2 hf hi ha]
   cases ok with
   | false=>exact smB_nil
   | true =>
    have old:∀ a∈openL l n c,(svM a.2).natAbs≤10000:=fun a ha=>by
     rcases insL_mem ha with rfl | ha
     ·show(sval false []).natAbs≤10000
      decide
     ·exact h a ha
    have e0:svM (openL l n c)[i].2=0:=by
     rcases insL_mem (List.getElem_mem hi) with e | e
     ·rw [e]; show sval false []=0; decide
     ·exact absurd hn (fnd_no k.1.2 _ e)
    intro a ha'
    rcases List.mem_or_eq_of_mem_set (show a∈(openL l n c).set i ((openL l n c)[i].1,z) from ha') with q | rfl
    ·exact old a q
    ·obtain⟨r,hr⟩:=addP_ex (openL l n c)[i].2 m
     have er:=(addM_eq hr).symm.trans ha
     subst er
     rcases hr with ⟨_,_,_,_,hv⟩ | ⟨hv,_⟩
     ·show(svM z).natAbs≤10000
      replace hv:svM z=svM (openL l n c)[i].2+svM m:=hv
      omega
     ·cases hv
 ·rw [openB_no k] at hok; cases hok
abbrev names5:List ByteArray:=[⟨#[98,97,110,107]⟩,⟨#[98,111,120]⟩,⟨#[99,97,115,104]⟩,⟨#[102,101,101,115]⟩,⟨#[116,97,120]⟩]
theorem names5_at {i:Nat} (h:i<5):∃ n:ByteArray,cutv (names5.map Value.string) i 1=some [.string n]∧n.size≤9223372036854775807:=by
 match i,h with
 | 0,_=>exact⟨_,rfl,by decide⟩
 | 1,_=>exact⟨_,rfl,by decide⟩
 | 2,_=>exact⟨_,rfl,by decide⟩
 | 3,_=>exact⟨_,rfl,by decide⟩
 | 4,_=>exact⟨_,rfl,by decide⟩
abbrev BookD (V0:Know) (b:Nat) (s:SlV) (V:Know):Know→Value→Prop:=fun V' r=>Dx V0 b s V V'∧∃ t l f,r=qv3 (t,())∧LR rAcct V' t l f∧(∀ y∈f,y≠b)∧BookOkP l∧SmB l
theorem cS_l17Draw {V0 V:Know} {b:Nat} {s:SlV} (hc:Cx V0 b s V):CallX Tryz.prog V 95 [.pointer (some ⟨b,0,none⟩)] (BookD V0 b s V):=by
 refine CallX.of_fits Tryz.mix (fS_l17Draw _) fun _=>?_
 simp only [tS_l17Draw,T.wp]
 have fb:∀ {g:List Nat},(∀ y∈g,y≠b)→∀ y∈g,y ∉ [b]:=fun h y hy=>by simpa using h y hy
 have hS:∀ V:Know,HcS V:=fun _=>trivial
 refine⟨fun y V'=>∃ (k:Nat) (t:SlV) (l:List DAcct) (f:List Nat),(y.1:Int)=(k:Int)∧k≤5∧y.2.1=t∧Dx V0 b s V V'∧LR rAcct V' t l f∧(∀ z∈f,z≠b)∧BookOkP l∧SmB l,fun y _=>(5-(y.1:Int)).toNat,
  ⟨((0:Int),⟨none,0,0⟩,()),rfl,0,_,[],[],rfl,by omega,rfl,hc.dx (Know.le.refl _),lrNil,(fun _ h=>by cases h),book_nil,smB_nil⟩,?_⟩
 rintro⟨(i:Int),y1,yu⟩ V1 ⟨k,t,l,f,hi,hk5,e1,d1,L1,hf,ok,sm⟩
 replace hi:i=(k:Int):=hi
 replace e1:y1=t:=e1
 subst hi e1
 refine⟨fun hlt=>?_,fun _=>⟨d1,y1,l,f,rfl,L1,hf,ok,sm⟩⟩
 have hk:k<5:=by
  have:(k:Int)<((5:Nat):Int):=of_decide_eq_true hlt
  omega
 have hw:IntKind.i64.wrap ((k:Int)+1)=((k+1:Nat):Int):=by rw [wrap_i64 (by omega)]; omega
 have hm:(5-((k+1:Nat):Int)).toNat<(5-(k:Int)).toNat:=by omega
 obtain⟨nm,hnm,znm⟩:=names5_at hk
 refine⟨⟨(by omega:(0:Int)≤(k:Int)),(by omega:(k:Int)<((5:Nat):Int))⟩,nm,(by
  show cutv _ ((k:Int).toNat*1) 1=_
  rw [Int.toNat_natCast,Nat.mul_one]
  exact hnm),(cS_l01Once d1.1 4).mono ?_⟩
 rintro V2 _ ⟨d2,e2,rfl⟩
 have L2:=L1.but (fb hf) d2.2
 refine⟨nofun,e2,rfl,fun _=>?_,fun _=>⟨_,rfl,(((k+1:Nat):Int),y1,()),by rw [hw]; rfl,⟨k+1,y1,l,f,rfl,hk,rfl,d1.trans d2,L2,hf,ok,sm⟩,hm⟩⟩
 intro b4 c4 sp hb4 hc4 _
 refine(cS_strLit d2.1 codes4 (by decide) (by decide) (by decide) hb4 hc4).mono ?_
 rintro V3 _ ⟨d3,cur,hcur,rfl⟩
 have hk4:∀ n∈codes4,known n=true:=by decide +kernel
 have kc:=hk4 cur hcur
 have L3:=L2.but (fb hf) d3.2
 refine⟨nofun,cur,rfl,(cS_BookOpen (hS V3) y1 l f L3 nm cur znm (known_len kc)).mono ?_⟩
 rintro V4 _ ⟨le4,s4,f4,rfl,L4,fr4⟩
 have d04:=((d1.trans d2).trans d3).trans (d3.1.dx le4)
 have hf4:∀ z∈f4,z≠b:=fun z hz=>d3.1.some (fr4 z hz)
 refine⟨nofun,((s4,()),(openB l nm cur).2,()),rfl,fun hok=>?_,fun _=>⟨_,rfl,(((k+1:Nat):Int),y1,()),by rw [hw]; rfl,⟨k+1,y1,l,f,rfl,hk,rfl,d04,L3.le le4,hf,ok,sm⟩,hm⟩⟩
 have okB:=openB_valid hok
 refine⟨mask b V4,mask_le b V4,(cS_l01Below d04.1 9000).mono ?_⟩
 rintro V5 _ ⟨d5,x,rfl,x0,x1,_⟩
 have hx:=x1 (by omega)
 refine⟨mask_but (Know.le.refl _) d5.2,x,rfl,?_⟩
 rw [wrap_i64 (n:=x-2000) (by omega)]
 refine(cS_IntOfN V5 (x-2000) (by omega) (by omega)).mono ?_
 rintro V6 _ ⟨le6,e6,s6,o6,f6,rfl,L6,O6,ok6,v6,_⟩
 have L46:=(L4.but (fb hf4) d5.2).le le6
 have d06:=(d04.trans d5).trans (d5.1.dx le6)
 refine⟨fun _=>le6,(e6,s6,()),rfl,(cS_BookPost (hS V6) s4 (openB l nm cur).1 f4 L46 nm (cur,e6,s6,()) (cur,e6,o6,()) f6 (mon_mk (known_len kc) L6)).mono ?_⟩
 rintro V7 _ ⟨le7,s7,f7,rfl,L7,O7⟩
 exact⟨nofun,((s7,()),_,()),rfl,_,rfl,(((k+1:Nat):Int),s7,()),by rw [hw]; rfl,⟨k+1,s7,_,f7,rfl,hk,rfl,d06.trans (d06.1.dx le7),L7,fun z hz=>by simpa using own_off d06.1 O7 z hz,postB_valid,smB_post sm hok (by show(sval e6 o6).natAbs≤10000; omega)⟩,hm⟩
theorem bd_nil:Bd 0 []:=⟨fun _=>rfl,fun x hx=>by cases hx⟩
theorem rests_nil:RestsOkP []:=fun i hi=>absurd hi (by simp)
theorem keepQ_ok {l:List DRest} {c:ByteArray} {r:DRat} {l':List DRest} {e:Bool} (h:KeepQ l c r l' e) (hl:RestsOkP l) (hc:known c=true) (hr:RatP r):RestsOkP l':=by
 rcases h with ⟨_,y,hy,rfl⟩ | ⟨_,rfl,_⟩
 ·exact addR_ok hl hc (redS_ok (Int.mul_pos (ratP_pos (atR_ok hl c)) (ratP_pos hr)) hy rfl)
 ·exact rests_nil
abbrev LedD (V0:Know) (b:Nat) (s:SlV) (V:Know):Know→Value→Prop:=fun V' r=>Dx V0 b s V V'∧∃ c x f,r=qv4 c∧rLedger.R V' c x f∧(∀ y∈f,y≠b)∧LedgerOkP x∧SmB x.1∧Bd 3 x.2.1
theorem ledger_mkH {V:Know} {s0 s1 s3:SlV} {l0:List DAcct} {l1:List DRest} {p:ByteArray} {l3:List DRate} {f0 f1 f3:List Nat} (z:p.size≤9223372036854775807) (h0:LR rAcct V s0 l0 f0) (h1:LR rRest V s1 l1 f1) (h3:LR rRate V s3 l3 f3):rLedger.R V (s0,s1,p,s3,()) (l0,l1,p,l3,()) (f0++(f1++(f3++[]))) :=
 rSl.mk h0 (rSl.mk h1 (rStr.mk z (rSl.mk h3 rNil.mk)))
theorem cS_l20Draw {V0 V:Know} {b:Nat} {s:SlV} (hc:Cx V0 b s V):CallX Tryz.prog V 41 [.pointer (some ⟨b,0,none⟩)] (LedD V0 b s V):=by
 refine CallX.of_fits Tryz.mix (fS_l20Draw _) fun _=>?_
 simp only [tS_l20Draw,T.wp]
 have fb:∀ {g:List Nat},(∀ y∈g,y≠b)→∀ y∈g,y ∉ [b]:=fun h y hy=>by simpa using h y hy
 have hS:∀ V:Know,HcS V:=fun _=>trivial
 refine(cS_l17Draw hc).mono ?_
 rintro V1 _ ⟨d1,t1,l1,f1,rfl,L1,hf1,ok1,sm⟩
 refine⟨nofun,(t1,()),rfl,(cS_l10Table d1.1).mono ?_⟩
 rintro V2 _ ⟨d2,c2,p,l2,f2,rfl,R2,hf2,ok2,_⟩
 obtain⟨t2,rfl,L2⟩:=rates_el R2
 refine⟨nofun,_,rfl,(cS_l01Below d2.1 3).mono ?_⟩
 rintro V3 _ ⟨d3,x,rfl,x0,x1,_⟩
 have hx:=x1 (by omega)
 refine⟨nofun,x,rfl,?_⟩
 have L13:=(L1.but (fb hf1) d2.2).but (fb hf1) d3.2
 have L23:=L2.but (fb hf2) d3.2
 refine⟨fun y V'=>∃ (k q:Nat) (t:SlV) (l:List DRest) (f:List Nat),(y.1:Int)=(k:Int)∧k+q≤3∧y.2.1=t1∧y.2.2.1=t∧y.2.2.2.1=p∧y.2.2.2.2.1=t2∧Dx V0 b s V V'∧LR rAcct V' t1 l1 f1∧LR rRate V' t2 l2 f2∧LR rRest V' t l f∧(∀ z∈f,z≠b)∧RestsOkP l∧Bd q l,fun y _=>(y.1:Int).toNat,
  ⟨(x,t1,⟨none,0,0⟩,p,t2,()),rfl,x.toNat,0,_,[],[],(by show x=_; omega),by omega,rfl,rfl,rfl,rfl,(d1.trans d2).trans d3,L13,L23,lrNil,(fun _ h=>by cases h),rests_nil,bd_nil⟩,?_⟩
 rintro⟨(i:Int),y1,y2,y3,y4,yu⟩ V4 ⟨k,q,t,l,f,hi,hk3,e1,e2,e3,e4,d4,M1,M2,L,hf,ok,hb⟩
 replace hi:i=(k:Int):=hi
 replace e1:y1=t1:=e1
 replace e2:y2=t:=e2
 replace e3:y3=p:=e3
 replace e4:y4=t2:=e4
 subst hi e1 e2 e3 e4
 refine⟨fun hgt=>?_,fun _=>⟨d4,(y1,y2,y3,y4,()),(l1,l,y3,l2,()),_,rfl,ledger_mkH (known_len ok2.1) M1 L M2,fun z hz=>?_,⟨ok1,ok,ok2⟩,sm,⟨fun e=>(by omega),fun z hz=>by
  obtain⟨p,r⟩:=hb.2 z hz
  exact⟨by omega,by omega⟩⟩⟩⟩
 rotate_left
 ·rcases List.mem_append.1 hz with h | h
  ·exact hf1 z h
  ·rcases List.mem_append.1 h with h | h
   ·exact hf z h
   ·exact hf2 z (by simpa using h)
 have kpos:0<k:=by
  have:(k:Int) > 0:=of_decide_eq_true hgt
  omega
 have hw:IntKind.i64.wrap ((k:Int)-1)=((k-1:Nat):Int):=by rw [wrap_i64 (by omega)]; omega
 have hm:((k-1:Nat):Int).toNat<(k:Int).toNat:=by omega
 refine⟨mask b V4,mask_le b V4,(cS_l08Cur d4.1).mono ?_⟩
 rintro V5 _ ⟨d5,n,rfl,kn⟩
 refine⟨mask_but (Know.le.refl _) d5.2,n,rfl,(cS_l05Draw d5.1).mono ?_⟩
 rintro V6 _ ⟨d6,c6,x6,g6,rfl,R6,hg6,ok6,n6,m6⟩
 have d46:=d5.trans d6
 have d06:=d4.trans d46
 refine⟨mask_but (Know.le.refl _) d46.2,c6,rfl,?_⟩
 refine(cS_RestAdd (hS V6) y2 l f (L.but (fb hf) d46.2) ok n kn c6 x6 g6 R6 ok6).mono ?_
 rintro V7 _ ⟨le7,t7,l7,f7,e7,rfl,L7,fr7,kq⟩
 have d07:=d06.trans (d06.1.dx le7)
 have M1':=(M1.but (fb hf1) d46.2).le le7
 have M2':=(M2.but (fb hf2) d46.2).le le7
 refine⟨nofun,(t7,e7,()),rfl,fun ht=>⟨_,rfl,(((k-1:Nat):Int),y1,t7,y3,y4,()),by rw [hw]; rfl,⟨k-1,q+1,t7,l7,f7,rfl,by omega,rfl,rfl,rfl,rfl,d07,M1',M2',L7,fun z hz=>d06.1.some (fr7 z hz),keepQ_ok kq ok kn ok6,by
   obtain rfl:e7=true:=ht
   exact addR_bd ok hb ok6 n6 m6 (by omega) kq⟩,hm⟩,
  fun _=>⟨_,rfl,(((k-1:Nat):Int),y1,y2,y3,y4,()),by rw [hw]; rfl,⟨k-1,q,y2,l,f,rfl,by omega,rfl,rfl,rfl,rfl,d07,M1',M2',(L.but (fb hf) d46.2).le le7,hf,ok,hb⟩,hm⟩⟩
theorem cS_MakeLedger (V:Know) (s:SlV) (l:List (Int × Unit)) (f:List Nat) (h:LR rBy V s l f):CallX Tryz.prog V 5 [Sc.val .l s]
  (fun V' r=>V.le V'∧∃ c x g,r=qv4 c∧rLedger.R V' c x g∧LedgerOkP x∧SmB x.1∧Bd 3 x.2.1):=by
 refine CallX.of_fits Tryz.mix (fS_MakeLedger _) fun _=>?_
 simp only [tS_MakeLedger,T.wp]
 refine(cS_l01New V s l f h).mono ?_
 rintro V1 _ ⟨le1,b,rfl,hb,c1⟩
 refine⟨nofun,_,rfl,(cS_l20Draw c1).mono ?_⟩
 rintro V2 _ ⟨d2,c,x,g,rfl,R2,_,ok,sm,bd⟩
 exact⟨nofun,c,rfl,d2.1.1,c,x,g,rfl,R2,ok,sm,bd⟩
end Go.Proofs.YtfiakghfncempaaGreatDoor
namespace Go.Proofs.YtfiakghfncempaaGreatDoor
open Sx
set_option maxRecDepth 100000
def entT (i:Nat) (p:ByteArray × Value):MapEntry:=⟨.string p.1,p.2,i⟩
def entsT:Nat→List (ByteArray × Value)→List MapEntry
 | _,[]=>[]
 | i,p :: l=>entT i p :: entsT (i+1) l
theorem entsT_app:∀ (l:List (ByteArray × Value)) (i:Nat) (p:ByteArray × Value),entsT i (l++[p])=entsT i l++[entT (i+l.length) p]
 | [],i,p=>rfl
 | q :: l,i,p=>by
  show entT i q :: entsT (i+1) (l++[p])=_
  rw [entsT_app l (i+1) p,List.length_cons,show i+1+l.length=i+(l.length+1) by omega]; rfl
def lkT (k:ByteArray):List (ByteArray × Value)→Nat→Option (Nat × Value)
 | [],_=>none
 | p :: l,j=>if k=p.1 then some (j,p.2) else lkT k l (j+1)
theorem lkT_none {k:ByteArray}:∀ {l:List (ByteArray × Value)} {j:Nat},(∀ p∈l,k≠p.1)→lkT k l j=none
 | [],_,_=>rfl
 | p :: l,j,h=>by rw [lkT,if_neg (h p (by simp)),lkT_none fun q hq=>h q (by simp [hq])]
theorem beq_text (a b:ByteArray):(a == b)=decide (a=b):=by
 obtain⟨a⟩:=a
 obtain⟨b⟩:=b
 have e:((⟨a⟩:ByteArray) == ⟨b⟩)=(a == b):=rfl
 rw [e]
 by_cases h:a=b
 ·subst h; simp
 ·rw [decide_eq_false (fun q=>h (ByteArray.mk.inj q))]
  exact beq_false_of_ne h
theorem now_text (k:ByteArray):∀ (l:List (ByteArray × Value)) (i j:Nat),Instr.findNow .string (.string k) (entsT i l) j=some (lkT k l j)
 | [],_,_=>rfl
 | p :: l,i,j=>by
  have ih:=now_text k l (i+1) (j+1)
  have e:Instr.sameNow .string (.string k) (entT i p).key=some (decide (k=p.1)):=by
   show some (k == p.1)=_
   rw [beq_text]
  rw [entsT,Instr.findNow,e,lkT]
  by_cases h:k=p.1
  ·rw [decide_eq_true h,if_pos h]; rfl
  ·rw [decide_eq_false h,if_neg h]; exact ih
section
variable {P:Program} {V:Know} {M T E m i c:Nat} {l:List (ByteArray × Value)} (hM:P.underlying M=some (.map T E)) (hT:P.underlying T=some .string) (hV:V m=some (mapC (entsT i l),(c,(1,0))))
include hT in
theorem run_keyText (w:World) (k:ByteArray):(Instr.findKey T (.string k) (entsT i l)).run P w=.ok (lkT k l 0) w:=by
 simp only [Instr.findKey,run_underlying hT,Sem.run_bind,Result.andThen_ok,now_text]
 rfl
include hT in
theorem run_chkText (w:World) (e:Bool) (k:ByteArray):(Instr.checkKey e 10000 T (.string k)).run P w=.ok () w:=by
 show(Instr.checkKey e (9999+1) T (.string k)).run P w=_
 generalize 9999=n
 simp [Instr.checkKey,run_underlying hT]
include hM hT hV
theorem semx_lkText {z:Value} (hz:∀ w,(zeroValue E).run P w=.ok z w) (k:ByteArray) :
  SemX P V (MOp.lk M (.map (some m)) (.string k) true).sem (fun V' r=>V'=V∧r=.tuple #[((lkT k l 0).map (·.2)).getD z,.bool (lkT k l 0).isSome]):=by
 intro w hw
 have hm:=hw _ _ _ hV
 rw [objOf_map] at hm
 have hg:(getObj m).run P w=.ok (.map (entsT i l).toArray c) w:=by simp [getObj,Sem.run,hm]
 refine⟨_,w,V,?_,Fr.refl V w,hw,rfl,rfl⟩
 cases h:lkT k l 0 with
 | none=>simp [MOp.sem,Instr.lookup,run_underlying hM,hg,run_chkText hT,run_keyText hT,h,hz]
 | some o=>simp [MOp.sem,Instr.lookup,run_underlying hM,hg,run_chkText hT,run_keyText hT,h]
theorem semx_upText (hc:c=i+l.length) (k:ByteArray) (x:Value) (h:∀ p∈l,k≠p.1) :
  SemX P V (MOp.up M (.map (some m)) (.string k) x).sem (fun V' r=>V'=kset V m (mapC (entsT i (l++[(k,x)])),(i+(l++[(k,x)]).length,(1,0)))∧r=.tuple #[]):=by
 intro w hw
 have hm:=hw _ _ _ hV
 rw [objOf_map] at hm
 have hg:(getObj m).run P w=.ok (.map (entsT i l).toArray c) w:=by simp [getObj,Sem.run,hm]
 obtain⟨f1,f2⟩:=map_set (k':=i+(l++[(k,x)]).length) (es':=entsT i (l++[(k,x)])) hw hV
 refine⟨_,_,_,?_,f1,f2,rfl,rfl⟩
 have hs:(setObj m (.map (entsT i (l++[(k,x)])).toArray (i+(l++[(k,x)]).length))).run P w=.ok () { w with heap:=w.heap.setIfInBounds m (.map (entsT i (l++[(k,x)])).toArray (i+(l++[(k,x)]).length)) }:=by
  simp [setObj,Sem.run,hm]
 have e:(entsT i l).toArray.push { key:=.string k,val:=x,born:=c }=(entsT i (l++[(k,x)])).toArray:=by
  rw [entsT_app,hc]
  simp [entT]
 have e2:c+1=i+(l++[(k,x)]).length:=by simp; omega
 have h0:=lkT_none (j:=0) h
 simp only [MOp.sem,Instr.mapUpdate,run_underlying hM,Sem.run_bind,Result.andThen_ok,hg,run_chkText hT,run_keyText hT,h0,e,e2,hs]
 rfl
omit hV in
theorem semx_delText {k:ByteArray} {v:Value} (hV:V m=some (mapC (entsT i ((k,v) :: l)),(c,(1,0)))) {ts:Array TypeId} {t:TypeId} (hts:ts[0]?=some M) :
  SemX P V (MOp.del ts t (.map (some m)) (.string k)).sem (fun V' r=>V'=kset V m (mapC (entsT (i+1) l),(c,(1,0)))∧r=.tuple #[]):=by
 intro w hw
 have hm:=hw _ _ _ hV
 rw [objOf_map] at hm
 have hg:(getObj m).run P w=.ok (.map (entsT i ((k,v) :: l)).toArray c) w:=by simp [getObj,Sem.run,hm]
 obtain⟨f1,f2⟩:=map_set (k':=c) (es':=entsT (i+1) l) hw hV
 refine⟨_,_,_,?_,f1,f2,rfl,rfl⟩
 have hs:(setObj m (.map (entsT (i+1) l).toArray c)).run P w=.ok () { w with heap:=w.heap.setIfInBounds m (.map (entsT (i+1) l).toArray c) }:=by
  simp [setObj,Sem.run,hm]
 have e:(entsT i ((k,v) :: l)).toArray.eraseIdxIfInBounds 0=(entsT (i+1) l).toArray:=by
  rw [entsT]; simp [Array.eraseIdxIfInBounds]
 have h0:lkT k ((k,v) :: l) 0=some (0,v):=if_pos rfl
 have a0:(#[Value.map (some m),Value.string k]:Array Value)[0]?=some (.map (some m)):=rfl
 have a1:(#[Value.map (some m),Value.string k]:Array Value)[1]?=some (.string k):=rfl
 simp only [MOp.sem,Builtin.delete_,hts,a0,a1,run_underlying hM,Sem.run_bind,Result.andThen_ok,hg,run_chkText hT,run_keyText hT,h0,e,hs]
 rfl
end
end Go.Proofs.YtfiakghfncempaaGreatDoor
namespace Go.Proofs
open Go.Shelf
def Tryz.lays192_ren:Go.Shelf.Ren:=⟨fun | 192=>278 | 190=>279 | 125=>281 | 258=>280 | 128=>291 | 129=>292 | 302=>282 | 303=>283 | 304=>284 | 305=>285 | 306=>286 | 307=>287 | 308=>288 | 309=>289 | 310=>290 | 333=>293 | 329=>294 | 330=>295 | 334=>296 | 335=>297 | 336=>298 | 344=>299 | n=>n,fun | 31=>70 | 0=>0 | 9=>9 | 3=>3 | 46=>215 | 51=>273 | 53=>110 | 4=>4 | 183=>298 | 182=>297 | 131=>233 | 5=>5 | 218=>306 | 222=>310 | 228=>312 | 229=>313 | n=>n,fun | n=>n⟩
theorem Tryz.lays192:Go.Proofs.Lays.n192 Tryz.prog Tryz.lays192_ren:={
 mixed:=by kernel_rfl
 f125:=Tryz.func281.trans (congrArg some (by kernel_rfl))
 f128:=Tryz.func291.trans (congrArg some (by kernel_rfl))
 f129:=Tryz.func292.trans (congrArg some (by kernel_rfl))
 f190:=Tryz.func279.trans (congrArg some (by kernel_rfl))
 f192:=Tryz.func278.trans (congrArg some (by kernel_rfl))
 f258:=Tryz.func280.trans (congrArg some (by kernel_rfl))
 f302:=Tryz.func282.trans (congrArg some (by kernel_rfl))
 f303:=Tryz.func283.trans (congrArg some (by kernel_rfl))
 f304:=Tryz.func284.trans (congrArg some (by kernel_rfl))
 f305:=Tryz.func285.trans (congrArg some (by kernel_rfl))
 f306:=Tryz.func286.trans (congrArg some (by kernel_rfl))
 f307:=Tryz.func287.trans (congrArg some (by kernel_rfl))
 f308:=Tryz.func288.trans (congrArg some (by kernel_rfl))
 f309:=Tryz.func289.trans (congrArg some (by kernel_rfl))
 f310:=Tryz.func290.trans (congrArg some (by kernel_rfl))
 f329:=Tryz.func294.trans (congrArg some (by kernel_rfl))
 f330:=Tryz.func295.trans (congrArg some (by kernel_rfl))
 f333:=Tryz.func293.trans (congrArg some (by kernel_rfl))
 f334:=Tryz.func296.trans (congrArg some (by kernel_rfl))
 f335:=Tryz.func297.trans (congrArg some (by kernel_rfl))
 f336:=Tryz.func298.trans (congrArg some (by kernel_rfl))
 f344:=Tryz.func299.trans (congrArg some (by kernel_rfl))
 t0:=Tryz.underlying0
 a0:=Tryz.isAgg0
 z0:=Tryz.sizeOf0
 v0:=Tryz.zeroValue0
 t3:=Tryz.underlying3
 a3:=Tryz.isAgg3
 z3:=Tryz.sizeOf3
 v3:=Tryz.zeroValue3
 t4:=Tryz.underlying4
 a4:=Tryz.isAgg4
 z4:=Tryz.sizeOf4
 v4:=Tryz.zeroValue4
 t5:=Tryz.underlying5
 a5:=Tryz.isAgg5
 z5:=Tryz.sizeOf5
 v5:=Tryz.zeroValue5
 t9:=Tryz.underlying9
 a9:=Tryz.isAgg9
 z9:=Tryz.sizeOf9
 v9:=Tryz.zeroValue9
 t31:=Tryz.underlying70
 a31:=Tryz.isAgg70
 z31:=Tryz.sizeOf70
 v31:=Tryz.zeroValue70
 t46:=Tryz.underlying215
 a46:=Tryz.isAgg215
 z46:=Tryz.sizeOf215
 v46:=Tryz.zeroValue215
 t51:=Tryz.underlying273
 a51:=Tryz.isAgg273
 z51:=Tryz.sizeOf273
 v51:=Tryz.zeroValue273
 t53:=Tryz.underlying110
 a53:=Tryz.isAgg110
 z53:=Tryz.sizeOf110
 v53:=Tryz.zeroValue110
 t131:=Tryz.underlying233
 a131:=Tryz.isAgg233
 z131:=Tryz.sizeOf233
 v131:=Tryz.zeroValue233
 t182:=Tryz.underlying297
 a182:=Tryz.isAgg297
 z182:=Tryz.sizeOf297
 v182:=Tryz.zeroValue297
 t183:=Tryz.underlying298
 a183:=Tryz.isAgg298
 z183:=Tryz.sizeOf298
 v183:=Tryz.zeroValue298
 t218:=Tryz.underlying306
 a218:=Tryz.isAgg306
 z218:=Tryz.sizeOf306
 v218:=Tryz.zeroValue306
 t222:=Tryz.underlying310
 a222:=Tryz.isAgg310
 z222:=Tryz.sizeOf310
 v222:=Tryz.zeroValue310
 t228:=Tryz.underlying312
 a228:=Tryz.isAgg312
 z228:=Tryz.sizeOf312
 v228:=Tryz.zeroValue312
 t229:=Tryz.underlying313
 a229:=Tryz.isAgg313
 z229:=Tryz.sizeOf313
 v229:=Tryz.zeroValue313 }
open Go.Sort Go.RowKit in
theorem Tryz.sort_Strings (blk off cap:Nat) (ss:List (List UInt8)) (w:World) (hH:Holds encStr w blk off ss.toArray) (hblk:blk<w.heap.size) (hsz:ss.length<4611686018427387904) :
  Calls Tryz.prog 278 #[.slice (some ⟨blk,off,none⟩) ss.length cap] w fun e w' =>
   e=.returned (.tuple #[])∧∃ n os,w'=grow (putRow encStr (Sort.ahead w n) blk off (ss.mergeSort fun x y=>decide (x≤y)).toArray) os:=Any.sort_Strings Tryz.lays192 blk off cap ss w hH hblk hsz
end Go.Proofs
