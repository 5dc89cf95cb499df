/-
  Accounts found, amounts added and posted, in the program and in the reference. An account found in a book; an amount posted, in the program and in the reference. An amount posted to a book, in the program and in the reference.
-/
import Derived.Test.YtccnjccabllcaaaGreatDoorPostM
import Derived.Test.YtccnjccabllcaaaGreatDoorAddS
import Derived.Test.YtccnjccabllcaaaGreatDoorChg
import Derived.Test.YtccnjccabllcaaaGreatDoorPut
namespace Go.Proofs.YtccnjccabllcaaaGreatDoor
open Sx
set_option maxRecDepth 100000
theorem findR_wp {sh:List Sc} {α:Type} {P:Program} {r:Rp sh α} {K:Know→List Value→Prop} {V V0:Know} {s:SlV} {l:List α} {f:List Nat} {p:α→Prop} {body:LShs [.o (.o (.i .i64))]→T} (h:LR r V s l f)
  (hbody:∀ (i:Nat) (hi:i<l.length) (N:List LV→Know→Prop),(p l[i]→K V [.int .i64 i])→(¬ p l[i]→N [.v (.int .i64 (IntKind.i64.wrap ((i:Int)+1)))] V)→(body ((i:Int),())).wp P K V V [N])
  (hK:∀ (i:Nat) (hi:i<l.length),p l[i]→(∀ (j:Nat) (hj:j<l.length),j<i→¬ p l[j])→K V [.int .i64 i]) (hno:(∀ (j:Nat) (hj:j<l.length),¬ p l[j])→K V [.int .i64 (-1)]) :
  (T.lp [.o (.o (.i .i64))] [.v (.int .i64 (0:Int))] fun y=>.br (decide (y.1<(s.n:Int))) (body y) (.ret [.int .i64 (-1:Int)])).wp P K V V0 []:=by
 have hn:=h.1
 have h63:=h.2.2.1
 simp only [T.wp]
 refine⟨fun y V'=>V'=V∧∃ i:Nat,y.1=(i:Int)∧i≤l.length∧∀ (j:Nat) (hj:j<l.length),j<i→¬ p l[j],fun y _=>((l.length:Int)-(y.1:Int)).toNat,⟨((0:Int),()),rfl,rfl,0,rfl,Nat.zero_le _,fun j _ h=>by omega⟩,?_⟩
 rintro⟨(i:Int),u⟩ V' ⟨rfl,k,hk,hle,hall⟩
 replace hk:i=(k:Int):=hk
 subst hk
 refine⟨fun hlt=>?_,fun hge=>?_⟩
 ·have hi:k<l.length:=by
   have:(k:Int)<(s.n:Int):=of_decide_eq_true hlt
   omega
  refine hbody k hi _ (fun hp=>hK k hi hp hall) fun hp=>?_
  ·refine⟨(((k+1:Nat):Int),()),by rw [nxt hi (by omega)]; rfl,⟨rfl,k+1,rfl,hi,fun j hj h2=>?_⟩,?_⟩
   ·by_cases e:j=k
    ·subst e; exact hp
    ·exact hall j hj (by omega)
   ·show((l.length:Int)-((k+1:Nat):Int)).toNat<((l.length:Int)-(k:Int)).toNat
    omega
 ·have hi:k=l.length:=by
   have:¬ (k:Int)<(s.n:Int):=of_decide_eq_false hge
   omega
  subst hi
  exact hno fun j hj=>hall j hj hj
abbrev AtPost (V:Know) (n:ByteArray) (l:List DAcct):Know→Value→Prop:=fun V' r=>V.le V'∧r=.int .i64 (atN n l)
theorem at_yes {n:ByteArray} {l:List DAcct} {k:Nat} (h:k<l.length) (e:l[k].1=n) (hj:∀ (j:Nat) (hj:j<l.length),j<k→¬ l[j].1=n):atN n l=k:=atN_some (fnd_some h e hj)
theorem at_no {n:ByteArray} {l:List DAcct} (h:∀ (j:Nat) (hj:j<l.length),¬ l[j].1=n):atN n l=-1:=atN_none (fnd_none h)
theorem acct_name {V:Know} {c:Scs [.s,.s,.b,.l]} {x:DAcct} {f:List Nat} (h:rAcct.R V c x f):c.1=x.1:=h.1.1
theorem cS_AcctAt (V:Know) (s:SlV) (l:List DAcct) (f:List Nat) (h:LR rAcct V s l f) (n:ByteArray):CallX Tryz.prog V gS_AcctAt [Sh1.val (.g [.l]) (s,()),.string n] (AtPost V n l):=by
 refine CallX.of_fits Tryz.mix (fS_AcctAt _ _) fun _=>?_
 have hn:=h.1
 rw [tS_AcctAt]
 refine findR_wp (p:=fun a=>a.1=n) h (fun i hi N hy hN=>?_) (fun i hi e hj=>⟨Know.le.refl _,by rw [at_yes hi e hj]; rfl⟩) (fun hno=>⟨Know.le.refl _,by rw [at_no hno]; rfl⟩)
 obtain⟨b1,o1,c1,fc,a1,l1,hR,_⟩:=h.at hi
 have e0:(i:Int).toNat=i:=by omega
 simp only [T.wp]
 rw [e0]
 refine⟨_,a1,by omega,by omega,c1,l1,fun he=>?_,fun he=>⟨_,rfl,hN fun e=>?_⟩⟩
 ·exact hy ((acct_name hR).symm.trans (text_eq.1 he))
 ·have:=text_eq.2 ((acct_name hR).trans e)
  rw [this] at he; cases he
theorem cI_AcctAt (V:Know) (s:SlV) (l:List DAcct) (f:List Nat) (h:LR rAcct V s l f) (n:ByteArray):CallX Tryz.prog V gI_AcctAt [Sh1.val (.g [.l]) (s,()),.string n] (AtPost V n l):=by
 refine CallX.of_fits Tryz.mix (fI_AcctAt _ _) fun _=>?_
 simp only [tI_AcctAt,T.wp]
 intro b hb
 have leb:=kset_le (x:=([Value.string n],((9:TypeId),((0,0):Nat × Nat)))) hb
 have hv:kset V b ([Value.string n],((9:TypeId),((0,0):Nat × Nat))) b=some _:=kset_same
 revert leb hv
 generalize kset V b ([Value.string n],((9:TypeId),((0,0):Nat × Nat)))=V1
 intro leb hv
 have h1:=h.le leb
 have hn:=h.1
 have key:CallX Tryz.prog V1 gX_IndexFunc_Acct [Sc.val .l s,.func (.func gI_AcctAt_1) #[] #[.pointer (some ⟨b,0,none⟩)]] (fun V' r=>V'=V1∧r=.int .i64 (atN n l)):=by
  refine CallX.of_fits Tryz.mix (fX_IndexFunc_Acct s (gI_AcctAt_1,⟨b,0,none⟩)) fun _=>?_
  rw [tX_IndexFunc_Acct]
  refine findR_wp (p:=fun a=>a.1=n) h1 (fun i hi N hy hN=>?_) (fun i hi e hj=>⟨rfl,by rw [at_yes hi e hj]; rfl⟩) (fun hno=>⟨rfl,by rw [at_no hno]; rfl⟩)
  obtain⟨b1,o1,c1,fc,a1,l1,hR,_⟩:=h1.at hi
  have e0:(i:Int).toNat=i:=by omega
  simp only [T.wp]
  rw [e0]
  refine⟨_,a1,by omega,by omega,c1,l1,?_⟩
  have hc:CallX Tryz.prog V1 gI_AcctAt_1 [Sh1.val (.g [.s,.s,.b,.l]) c1,.pointer (some ⟨b,0,none⟩)] (fun V' r=>V'=V1∧r=.bool (l[i].1.toList == n.toList)):=by
   refine CallX.of_fits Tryz.mix (fI_AcctAt_1 c1 ⟨b,0,none⟩) fun _=>?_
   simp only [tI_AcctAt_1,T.wp]
   refine⟨n,?_,trivial,?_⟩
   ·simp only [loadV,Bool.false_eq_true,if_false,hv]
    rfl
   ·rw [acct_name hR]; rfl
  refine hc.mono ?_
  rintro V2 _ ⟨rfl,rfl⟩
  refine⟨nofun,_,rfl,fun he=>hy (text_eq.1 he),fun he=>⟨_,rfl,hN fun e=>?_⟩⟩
  have:=text_eq.2 e
  rw [this] at he; cases he
 refine key.mono ?_
 rintro V2 _ ⟨rfl,rfl⟩
 exact⟨nofun,_,rfl,leb,rfl⟩
theorem load_part {V:Know} {a:Addr} {m o n:Nat} {L l':List Value} (h:loadV V a m=some L) (hc:cutv L o n=some l'):loadV V (a.add o) n=some l':=by
 obtain⟨b,off,sp⟩:=a
 cases sp with
 | some _=>simp [loadV] at h
 | none =>
  simp only [addr_add_eq,loadV] at h ⊢
  cases hb:V b with
  | none=>rw [hb] at h; cases h
  | some y =>
   rw [hb] at h
   simp only at h ⊢
   unfold cutv at h hc ⊢
   split at h
   ·rename_i hle
    simp only [Option.some.injEq] at h
    subst h
    split at hc
    ·rename_i hle2
     simp only [Option.some.injEq] at hc
     simp only [List.length_take,List.length_drop] at hle2
     rw [if_pos (by omega)]
     simp only [Option.some.injEq]
     rw [← hc,List.drop_take,List.take_take,List.drop_drop]
     congr 1
     omega
    ·cases hc
   ·cases h
theorem bk_no {V V':Know} (le:V.le V'):BkPost V ([],false) V' (packed [Sh1.val (.g [.l]) (⟨none,0,0⟩,()),.bool false]):=⟨le,⟨none,0,0⟩,[],rfl,⟨rfl,Nat.le_refl _,by decide,.inl ⟨rfl,fun _=>rfl,rfl⟩⟩,Own.nil⟩
theorem at_neg {n:ByteArray} {l:List DAcct}:(atN n l<0↔fnd n l=none):=by
 cases h:fnd n l with
 | none=>rw [atN_none h]; simp
 | some i=>rw [atN_some h]; simp
end Go.Proofs.YtccnjccabllcaaaGreatDoor
