/-
  A field of a command read from its text, in the program.
-/
import Derived.Test.YtpkmhkbkohppiaaGreatDoorTcU
namespace Go.Proofs.YtpkmhkbkohppiaaGreatDoor
open Sx Go.RowKit
set_option maxRecDepth 100000
abbrev DealEx (V:Know) (s:ByteArray):Know→Value→Prop:=fun V' r=>V.le V'∧∃ (t1 t2:SlV) (nm:List Tx) (w:List Lim) (f g:List Nat) (ok:Bool),r=.tuple #[Sc.val .l t1,Sc.val .l t2,.bool ok]∧LR rString V' t1 nm f∧LR rI V' t2 w g∧Own V V' (f++g)∧DealRes s nm w ok
theorem txt_none {V:Know}:LR rString V ⟨none,0,0⟩ [] []:=⟨rfl,Nat.le_refl _,by decide,.inl ⟨rfl,fun _=>rfl,rfl⟩⟩
theorem deal_none {V V':Know} {s:ByteArray} (le:V.le V') (h:∀ nm w,DealP nm w→dealT nm w=s→False):DealEx V s V' (packed [.slice none 0 0,.slice none 0 0,.bool false]) :=
 ⟨le,⟨none,0,0⟩,⟨none,0,0⟩,[],[],[],[],false,rfl,txt_none,lr_none,Own.nil,⟨by simp,by simp,fun _ h=>by cases h⟩,nofun,fun nm w a b=>(h nm w a b).elim⟩
theorem cI_readDeal {V:Know} (hV:HtI V) (hE:hasSR V) (s:ByteArray) (hs:s.size≤1048576):CallX Tryz.prog V 69 [.string s] (DealEx V s):=by
 refine CallX.of_fits Tryz.mix (fI_readDeal _) fun _=>?_
 simp only [tI_readDeal,T.wp]
 refine(cI_CutAt V s 44 hs).mono ?_
 rintro V1 _ ⟨le1,t,f,rfl,L,_⟩
 have hn:=L.1
 refine⟨nofun,t,rfl,?_⟩
 refine⟨fun y V'=>V1.le V'∧∃ (nm:List Tx) (w:List Lim),y.1.1=nm.length∧y.1.2=nm.map cellT∧y.2.1.1=w.length∧y.2.1.2=w.map cellI∧(y.2.2.1:Int)=(nm.length:Int)∧DealIn (cutB 44 s) nm w∧∀ x∈nm,x.1.size≤s.size,
  fun y _=>((t.n:Int)-(y.2.2.1:Int)).toNat,⟨((0,[]),(0,[]),(0:Int),()),rfl,Know.le.refl _,[],[],rfl,rfl,rfl,rfl,rfl,⟨rfl,by simp,by simp,fun j hj=>by simp at hj⟩,fun _ h=>by cases h⟩,?_⟩
 rintro⟨⟨(n1:Nat),(ys1:List Value)⟩,⟨(n2:Nat),(ys2:List Value)⟩,(i:Int),u⟩ V' ⟨hle,nm,w,e1,e2,e3,e4,e5,hD,hz⟩
 replace e1:n1=nm.length:=e1
 replace e2:ys1=nm.map cellT:=e2
 replace e3:n2=w.length:=e3
 replace e4:ys2=w.map cellI:=e4
 replace e5:i=(nm.length:Int):=e5
 subst e1 e2 e3 e4 e5
 have hle0:=le1.trans hle
 have hwl:=hD.1
 have h30:=hD.2.1
 refine⟨fun hlt=>?_,fun hge=>?_⟩
 ·have hi:nm.length<(cutB 44 s).length:=by
   have:(nm.length:Int)<(t.n:Int):=of_decide_eq_true hlt
   omega
  obtain⟨⟨b1,o1,a1,l1⟩,_⟩:=(L.le hle).txt hi
  have hps:((cutB 44 s)[nm.length]).1.size≤s.size:=cutB_size (List.getElem_mem hi)
  refine⟨_,a1,(by omega:(0:Int)≤(nm.length:Int)),(by omega:(nm.length:Int)<(t.n:Int)),_,l1,(cI_CutAt V' _ 58 (by omega)).mono ?_⟩
  rintro V2 _ ⟨le2,t2,f2,rfl,L2,_⟩
  have hn2:=L2.1
  refine⟨nofun,t2,rfl,fun h2=>deal_none (hle0.trans le2) fun nm' w' a b=>?_,fun h2=>⟨fun h3=>deal_none (hle0.trans le2) fun nm' w' a b=>?_,fun h3=>?_⟩⟩
  ·obtain⟨_,x,m,k,_⟩:=deal_part a b hi
   exact n_two hn2 h2 (by rw [k]; rfl)
  ·obtain⟨k,_⟩:=deal_part a b hi
   have:(w.length:Int)=30:=by simpa using h3
   omega
  have h3':w.length≠30:=by
   have:¬ (w.length:Int)=30:=by simpa using h3
   omega
  obtain⟨p,q,e⟩:=is_two hn2 h2
  rw [e] at L2 hn2
  have hz2:=cut_two e
  obtain⟨b,o,ha,ld1⟩:=L2.atK (i:=1) (x:=(q,())) rfl
  obtain⟨b',o',ha',ld0⟩:=L2.atK (i:=0) (x:=(p,())) rfl
  rw [ha] at ha'
  cases ha'
  rw [ha]
  have hn2':(t2.n:Int)=2:=by rw [hn2]; rfl
  refine⟨_,rfl,by decide,by omega,q,ld1,(cI_TextInt (hV.le (hle0.trans le2)) (hE.le (hle0.trans le2)) q (by omega)).mono ?_⟩
  rintro V3 _ ⟨le3,k,ok,rfl,_,hk1,hk2⟩
  have hle3:=(hle0.trans le2).trans le3
  refine⟨nofun,(k,ok,()),rfl,fun hf=>deal_none hle3 fun nm' w' a b=>?_,fun hT=>?_⟩
  ·obtain⟨_,x,m,r,r0,r9⟩:=deal_part a b hi
   rw [e] at r
   have e2:=congrArg Prod.fst (List.cons.inj (List.cons.inj r).2).1
   have:=(hk2 m r0 r9 e2.symm).1
   rw [this] at hf
   cases hf
  ·have hok:ok=true:=by
    have:(!ok)=false:=hT
    simpa using this
   have hq:numT k=q:=hk1 hok
   refine⟨_,rfl,by decide,by omega,p,loadV_mono le3 ld0,rfl,⟨rfl,(by omega:(nm.length+1)*16≤140737488355328),(by omega:nm.length+1≤9223372036854775807)⟩,rfl,⟨rfl,(by omega:(w.length+1)*8≤140737488355328),(by omega:w.length+1≤9223372036854775807)⟩,_,rfl,
    ((nm.length+1,nm.map cellT++[.string p]),(w.length+1,w.map cellI++[.int .i64 k]),((nm.length+1:Nat):Int),()),?_,
    ⟨(hle.trans le2).trans le3,nm++[(p,())],w++[(k,())],?_,?_,?_,?_,?_,dealIn_snoc hD (by omega) hi ⟨?_,?_⟩,?_⟩,?_⟩
   ·show [_,_,LV.v (.int .i64 (IntKind.i64.wrap ((nm.length:Int)+1)))]=_
    rw [wrap_i64 (by omega)]; rfl
   ·show nm.length+1=_
    simp
   ·show nm.map cellT++[.string p]=_
    rw [List.map_append]; rfl
   ·show w.length+1=_
    simp
   ·show w.map cellI++[.int .i64 k]=_
    rw [List.map_append]; rfl
   ·show((nm.length+1:Nat):Int)=_
    simp
   ·rw [getD_lt hi,e,hq]
   ·intro m m0 m9 em
    exact(hk2 m m0 m9 (em.trans hq)).2
   ·intro x hx
    rcases List.mem_append.1 hx with hx | hx
    ·exact hz x hx
    ·obtain rfl:x=(p,()):=by simpa using hx
     show p.size≤s.size
     omega
   ·show((t.n:Int)-((nm.length+1:Nat):Int)).toNat<((t.n:Int)-(nm.length:Int)).toNat
    omega
 ·have hi:nm.length=(cutB 44 s).length:=by
   have h3:=hD.2.2.1
   have:¬ (nm.length:Int)<(t.n:Int):=of_decide_eq_false hge
   omega
  intro b c sp hb hc _ b' c' sp' hb' hc' _
  have k1:=newT (V:=V') (b:=b) (cap:=c) (o:=nm) (spare:=sp) (t:=9) hb hc (by omega) (fun x hx=>by have:=hz x hx; omega)
  have k2:=newI (V:=kset V' b (nm.map cellT++sp,(9,(0,0)))) (b:=b') (cap:=c') (o:=w) (spare:=sp') (t:=3) hb' hc' (by omega)
  have q1:=kset_le (x:=(nm.map cellT++sp,((9:TypeId),((0,0):Nat × Nat)))) hb
  have q2:=kset_le (x:=(w.map cellI++sp',((3:TypeId),((0,0):Nat × Nat)))) hb'
  refine⟨(hle0.trans q1).trans q2,_,_,nm,w,[b],[b'],true,rfl,k1.1.le q2,k2.1,(k1.2.append k2.2 q1 q2).pre hle0,⟨h30,by omega,hz⟩,fun _=>⟨hwl,dealIn_all hD hi⟩,fun nm' w' a b=>⟨rfl,dealIn_one hD hi a b⟩⟩
end Go.Proofs.YtpkmhkbkohppiaaGreatDoor
namespace Go.Proofs.YtpkmhkbkohppiaaGreatDoor
open Sx Go.RowKit
set_option maxRecDepth 100000
def notIf:TypeDesc→Bool | .interface _=>false | _=>true
theorem semx_as_hit {P:Program} {V:Know} {T xt:TypeId} {u:TypeDesc} {v:Value} (hu:P.underlying T=some u) (hn:notIf u=true) :
  SemX P V (MOp.as (.iface T v) xt T true).sem (fun V' r=>V'=V∧r=.tuple #[v,.bool true]):=by
 intro w hw
 refine⟨_,w,V,?_,Fr.refl V w,hw,rfl,rfl⟩
 cases u <;> first | (simp [notIf] at hn; done) | simp [MOp.sem,Instr.typeAssert,run_underlying hu]
theorem semx_as_nil {P:Program} {V:Know} {T xt:TypeId} {u:TypeDesc} {z:Value} (hu:P.underlying T=some u) (hn:notIf u=true) (hz:∀ w,(zeroValue T).run P w=.ok z w) :
  SemX P V (MOp.as .nilIface xt T true).sem (fun V' r=>V'=V∧r=.tuple #[z,.bool false]):=by
 intro w hw
 refine⟨_,w,V,?_,Fr.refl V w,hw,rfl,rfl⟩
 cases u <;> first | (simp [notIf] at hn; done) | simp [MOp.sem,Instr.typeAssert,run_underlying hu,hz]
abbrev gMo:Sh1:=.g [.s,.b,.l]
abbrev gDe:Sh1:=.g [.b,.l,.i .i64]
abbrev gRt:Sh1:=.g [.s,.s,.b,.l,.i .i64]
def notIfT (P:Program) (T:TypeId):Bool:=match P.underlying T with | some u=>notIf u | none=>false
theorem notIfT_get {P:Program} {T:TypeId} (h:notIfT P T=true):∃ u,P.underlying T=some u∧notIf u=true:=by
 unfold notIfT at h
 split at h
 ·exact⟨_,by assumption,h⟩
 ·cases h
theorem as_hit {V:Know} {T xt:TypeId} {x:Value} (h:notIfT Tryz.prog T=true):SemX Tryz.prog V (MOp.as (.iface T x) xt T true).sem (fun V' r=>V'=V∧r=.tuple #[x,.bool true]):=by
 obtain⟨u,hu,hn⟩:=notIfT_get h
 exact semx_as_hit hu hn
theorem as_nil {V:Know} {T xt:TypeId} {z:Value} (h:notIfT Tryz.prog T=true) (hz:∀ w,(zeroValue T).run Tryz.prog w=.ok z w):SemX Tryz.prog V (MOp.as .nilIface xt T true).sem (fun V' r=>V'=V∧r=.tuple #[z,.bool false]):=by
 obtain⟨u,hu,hn⟩:=notIfT_get h
 exact semx_as_nil hu hn hz
theorem if_str:notIfT Tryz.prog 9=true:=by kernel_rfl
theorem if_int:notIfT Tryz.prog 3=true:=by kernel_rfl
theorem if_mo:notIfT Tryz.prog 26=true:=by kernel_rfl
theorem if_de:notIfT Tryz.prog 29=true:=by kernel_rfl
theorem if_rt:notIfT Tryz.prog 31=true:=by kernel_rfl
theorem z_int (w:World):(zeroValue 3).run Tryz.prog w=.ok (.int .i64 0) w:=prun_run (by kernel_rfl) w
theorem z_mo (w:World):(zeroValue 26).run Tryz.prog w=.ok (Sh1.val gMo (⟨⟨[]⟩⟩,false,⟨none,0,0⟩,())) w:=prun_run (by kernel_rfl) w
theorem z_de (w:World):(zeroValue 29).run Tryz.prog w=.ok (Sh1.val gDe (false,⟨none,0,0⟩,(0:Int),())) w:=prun_run (by kernel_rfl) w
theorem z_rt (w:World):(zeroValue 31).run Tryz.prog w=.ok (Sh1.val gRt (⟨⟨[]⟩⟩,⟨⟨[]⟩⟩,false,⟨none,0,0⟩,(0:Int),())) w:=prun_run (by kernel_rfl) w
end Go.Proofs.YtpkmhkbkohppiaaGreatDoor
namespace Go.Proofs.YtpkmhkbkohppiaaGreatDoor
open Sx Go.RowKit
set_option maxRecDepth 100000
def VMo (V V':Know) (s:ByteArray) (r:Value):Prop:=(∃ (c:ByteArray) (n:Bool) (t:SlV) (o:List Lim) (g:List Nat),r=.iface 26 (Sh1.val gMo (c,n,t,()))∧LR rI V' t o g∧Own V V' g∧MoneyOkP c n o∧moneyT c n o=s∧∀ c' n' o',MoneyOkP c' n' o'→moneyT c' n' o'=s→c=c'∧n=n'∧o=o')∨(r=.nilIface∧∀ c n o,MoneyOkP c n o→moneyT c n o=s→False)
def VDe (V V':Know) (s:ByteArray) (r:Value):Prop:=(∃ (x:DecD) (t:SlV) (g:List Nat),r=.iface 29 (Sh1.val gDe (x.1,t,x.2.2.1,()))∧LR rI V' t x.2.1 g∧Own V V' g∧TaxLowP x.1 x.2.1 x.2.2.1∧perT x.2.1 x.2.2.1=s∧∀ m sc,TaxLowP false m sc→perT m sc=s→x=(false,m,sc,()))∨(r=.nilIface∧∀ m sc,TaxLowP false m sc→perT m sc=s→False)
def VRm (s:ByteArray) (r:Value):Prop:=(∃ m:Int,r=.iface 3 (.int .i64 m)∧ModeP m∧modeT m=s)∨(r=.nilIface∧∀ o:Int,ModeP o→modeT o≠s)
def VRt (V V':Know) (s:ByteArray) (r:Value):Prop:=(∃ (x:DRate) (t:SlV) (g:List Nat),r=.iface 31 (Sh1.val gRt (x.1,x.2.1,x.2.2.1,t,x.2.2.2.2.1,()))∧LR rI V' t x.2.2.2.1 g∧Own V V' g∧RateOkP x∧rateT x=s∧∀ y,RateOkP y→rateT y=s→x=y)∨(r=.nilIface∧∀ y,RateOkP y→rateT y=s→False)
def VStr (s:ByteArray) (r:Value):Prop:=r=.iface 9 (.string s)
theorem cI_readMo {V:Know} (hV:HtI V) (s:ByteArray) (hs:s.size≤1048576):CallX Tryz.prog V 68 [.string s,.int .i64 4] (fun V' r=>V.le V'∧VMo V V' s r):=by
 refine CallX.of_fits Tryz.mix (fI_readValue _ _) fun _=>?_
 simp only [tI_readValue,T.wp]
 refine⟨fun _=>?_,fun h=>by simp at h⟩
 refine(cI_TextMoney hV s hs).mono ?_
 rintro V1 _ ⟨le1,c,n,t,o,f,ok,rfl,L,O,h1,h2⟩
 refine⟨nofun,((c,n,t,()),ok,()),rfl,fun hT=>?_,fun hF=>?_⟩
 ·obtain rfl:ok=true:=hT
  obtain⟨k1,k2⟩:=h1.2 rfl
  exact⟨le1,.inl ⟨c,n,t,o,f,rfl,L,O,k1,k2,fun c' n' o' a b=>(h2 c' n' o' a b).2⟩⟩
 ·obtain rfl:ok=false:=hF
  exact⟨le1,.inr ⟨rfl,fun c' n' o' a b=>by cases (h2 c' n' o' a b).1⟩⟩
theorem cI_readDe {V:Know} (hV:HtI V) (s:ByteArray) (hs:s.size≤1048576):CallX Tryz.prog V 68 [.string s,.int .i64 6] (fun V' r=>V.le V'∧VDe V V' s r):=by
 refine CallX.of_fits Tryz.mix (fI_readValue _ _) fun _=>?_
 simp only [tI_readValue,T.wp]
 refine⟨fun h=>by simp at h,fun _=>⟨fun _=>?_,fun h=>by simp at h⟩⟩
 refine(cI_TextPercent hV s hs).mono ?_
 rintro V1 _ ⟨le1,x,t,f,ok,rfl,L,O,h1,h2⟩
 refine⟨nofun,((x.1,t,x.2.2.1,()),ok,()),rfl,fun hT=>?_,fun hF=>?_⟩
 ·obtain rfl:ok=true:=hT
  obtain⟨k1,k2⟩:=h2 rfl
  exact⟨le1,.inl ⟨x,t,f,rfl,L,O,k1,k2,fun m sc a b=>(h1.2 m sc a b).2⟩⟩
 ·obtain rfl:ok=false:=hF
  exact⟨le1,.inr ⟨rfl,fun m sc a b=>by cases (h1.2 m sc a b).1⟩⟩
theorem cI_readRm {V:Know} (s:ByteArray):CallX Tryz.prog V 68 [.string s,.int .i64 7] (fun V' r=>V.le V'∧VRm s r):=by
 refine CallX.of_fits Tryz.mix (fI_readValue _ _) fun _=>?_
 simp only [tI_readValue,T.wp]
 refine⟨fun h=>by simp at h,fun _=>⟨fun h=>by simp at h,fun _=>⟨fun _=>?_,fun h=>by simp at h⟩⟩⟩
 refine(cI_NameRm V s).mono ?_
 rintro V1 _ ⟨le1,m,ok,rfl,h⟩
 refine⟨nofun,(m,ok,()),rfl,fun hT=>?_,fun hF=>?_⟩
 ·obtain rfl:ok=true:=hT
  rcases h with ⟨_,a,b⟩ | ⟨h,_⟩
  ·exact⟨le1,.inl ⟨m,rfl,a,b⟩⟩
  ·cases h
 ·obtain rfl:ok=false:=hF
  rcases h with ⟨h,_⟩ | ⟨_,_,h⟩
  ·cases h
  ·exact⟨le1,.inr ⟨rfl,h⟩⟩
theorem cI_readRt {V:Know} (hV:HtI V) (s:ByteArray) (hs:s.size≤1048576):CallX Tryz.prog V 68 [.string s,.int .i64 8] (fun V' r=>V.le V'∧VRt V V' s r):=by
 refine CallX.of_fits Tryz.mix (fI_readValue _ _) fun _=>?_
 simp only [tI_readValue,T.wp]
 refine⟨fun h=>by simp at h,fun _=>⟨fun h=>by simp at h,fun _=>⟨fun h=>by simp at h,fun _=>⟨fun _=>?_,fun h=>by simp at h⟩⟩⟩⟩
 refine(cI_TextRate hV s hs).mono ?_
 rintro V1 _ ⟨le1,x,t,f,ok,rfl,L,O,h1,h2⟩
 refine⟨nofun,((x.1,x.2.1,x.2.2.1,t,x.2.2.2.2.1,()),ok,()),rfl,fun hT=>?_,fun hF=>?_⟩
 ·obtain rfl:ok=true:=hT
  obtain⟨k1,k2⟩:=h1.2 rfl
  exact⟨le1,.inl ⟨x,t,f,rfl,L,O,k1,k2,fun y a b=>(h2 y a b).2⟩⟩
 ·obtain rfl:ok=false:=hF
  exact⟨le1,.inr ⟨rfl,fun y a b=>by cases (h2 y a b).1⟩⟩
theorem cI_readStr {V:Know} (s:ByteArray) (f:Int) (h4:f≠4) (h6:f≠6) (h7:f≠7) (h8:f≠8):CallX Tryz.prog V 68 [.string s,.int .i64 f] (fun V' r=>V'=V∧VStr s r):=by
 refine CallX.of_fits Tryz.mix (fI_readValue _ _) fun _=>?_
 simp only [tI_readValue,T.wp]
 refine⟨fun h=>absurd (by simpa using h) h4,fun _=>⟨fun h=>absurd (by simpa using h) h6,fun _=>⟨fun h=>absurd (by simpa using h) h7,fun _=>⟨fun h=>absurd (by simpa using h) h8,fun _=>⟨by trivial,rfl⟩⟩⟩⟩⟩
end Go.Proofs.YtpkmhkbkohppiaaGreatDoor
namespace Go.Proofs.YtpkmhkbkohppiaaGreatDoor
open Sx Go.RowKit
set_option maxRecDepth 100000
abbrev cmdSh:List Sc:=[.i .i64,.s,.s,.s,.s,.s,.b,.l,.i .i64,.l,.l,.b,.l,.i .i64,.s,.s,.b,.l,.i .i64]
theorem cI_field0 (V:Know) (b:Nat) (u:TypeId) (op:Int) (c1:ByteArray) (c2:ByteArray) (c3:ByteArray) (c4:ByteArray) (c5:ByteArray) (c6:Bool) (c7:SlV) (c8:Int) (c9:SlV) (c10:SlV) (c11:Bool) (c12:SlV) (c13:Int) (c14:ByteArray) (c15:ByteArray) (c16:Bool) (c17:SlV) (c18:Int) (s:ByteArray)
  (hb:V b=some (Scs.vals cmdSh (op,c1,c2,c3,c4,c5,c6,c7,c8,c9,c10,c11,c12,c13,c14,c15,c16,c17,c18,()),(u,(0,0)))) :
  CallX Tryz.prog V 26 [.pointer (some ⟨b,0,none⟩),.string s,.int .i64 0] (fun V' r=>V'=kset V b (Scs.vals cmdSh (op,s,c2,c3,c4,c5,c6,c7,c8,c9,c10,c11,c12,c13,c14,c15,c16,c17,c18,()),(u,(0,0)))∧r=.bool true):=by
 refine CallX.of_fits Tryz.mix (fI_readField _ _ _) fun _=>?_
 simp only [tI_readField,T.wp]
 refine(cI_readStr s 0 (by decide) (by decide) (by decide) (by decide)).mono ?_
 rintro V1 r ⟨rfl,rfl⟩
 refine⟨nofun,⟨.iface 9 (.string s),rfl⟩,rfl,?_⟩
 refine⟨fun _=>?_,fun h=>by simp at h⟩
 refine(as_hit if_str).mono ?_
 rintro V2 r ⟨rfl,rfl⟩
 refine⟨(s,true,()),rfl,?_⟩
 simp only [addr_add_eq]
 exact⟨_,u,by trivial,hb,(by show 0+1+1≤19; omega),rfl,rfl⟩
theorem cI_field1 (V:Know) (b:Nat) (u:TypeId) (op:Int) (c1:ByteArray) (c2:ByteArray) (c3:ByteArray) (c4:ByteArray) (c5:ByteArray) (c6:Bool) (c7:SlV) (c8:Int) (c9:SlV) (c10:SlV) (c11:Bool) (c12:SlV) (c13:Int) (c14:ByteArray) (c15:ByteArray) (c16:Bool) (c17:SlV) (c18:Int) (s:ByteArray)
  (hb:V b=some (Scs.vals cmdSh (op,c1,c2,c3,c4,c5,c6,c7,c8,c9,c10,c11,c12,c13,c14,c15,c16,c17,c18,()),(u,(0,0)))) :
  CallX Tryz.prog V 26 [.pointer (some ⟨b,0,none⟩),.string s,.int .i64 1] (fun V' r=>V'=kset V b (Scs.vals cmdSh (op,c1,s,c3,c4,c5,c6,c7,c8,c9,c10,c11,c12,c13,c14,c15,c16,c17,c18,()),(u,(0,0)))∧r=.bool true):=by
 refine CallX.of_fits Tryz.mix (fI_readField _ _ _) fun _=>?_
 simp only [tI_readField,T.wp]
 refine(cI_readStr s 1 (by decide) (by decide) (by decide) (by decide)).mono ?_
 rintro V1 r ⟨rfl,rfl⟩
 refine⟨nofun,⟨.iface 9 (.string s),rfl⟩,rfl,?_⟩
 refine⟨fun h=>by simp at h,fun _=>⟨fun _=>?_,fun h=>by simp at h⟩⟩
 refine(as_hit if_str).mono ?_
 rintro V2 r ⟨rfl,rfl⟩
 refine⟨(s,true,()),rfl,?_⟩
 simp only [addr_add_eq]
 exact⟨_,u,by trivial,hb,(by show 0+2+1≤19; omega),rfl,rfl⟩
theorem cI_field2 (V:Know) (b:Nat) (u:TypeId) (op:Int) (c1:ByteArray) (c2:ByteArray) (c3:ByteArray) (c4:ByteArray) (c5:ByteArray) (c6:Bool) (c7:SlV) (c8:Int) (c9:SlV) (c10:SlV) (c11:Bool) (c12:SlV) (c13:Int) (c14:ByteArray) (c15:ByteArray) (c16:Bool) (c17:SlV) (c18:Int) (s:ByteArray)
  (hb:V b=some (Scs.vals cmdSh (op,c1,c2,c3,c4,c5,c6,c7,c8,c9,c10,c11,c12,c13,c14,c15,c16,c17,c18,()),(u,(0,0)))) :
  CallX Tryz.prog V 26 [.pointer (some ⟨b,0,none⟩),.string s,.int .i64 2] (fun V' r=>V'=kset V b (Scs.vals cmdSh (op,c1,c2,s,c4,c5,c6,c7,c8,c9,c10,c11,c12,c13,c14,c15,c16,c17,c18,()),(u,(0,0)))∧r=.bool true):=by
 refine CallX.of_fits Tryz.mix (fI_readField _ _ _) fun _=>?_
 simp only [tI_readField,T.wp]
 refine(cI_readStr s 2 (by decide) (by decide) (by decide) (by decide)).mono ?_
 rintro V1 r ⟨rfl,rfl⟩
 refine⟨nofun,⟨.iface 9 (.string s),rfl⟩,rfl,?_⟩
 refine⟨fun h=>by simp at h,fun _=>⟨fun h=>by simp at h,fun _=>⟨fun _=>?_,fun h=>by simp at h⟩⟩⟩
 refine(as_hit if_str).mono ?_
 rintro V2 r ⟨rfl,rfl⟩
 refine⟨(s,true,()),rfl,?_⟩
 simp only [addr_add_eq]
 exact⟨_,u,by trivial,hb,(by show 0+3+1≤19; omega),rfl,rfl⟩
theorem cI_field3 (V:Know) (b:Nat) (u:TypeId) (op:Int) (c1:ByteArray) (c2:ByteArray) (c3:ByteArray) (c4:ByteArray) (c5:ByteArray) (c6:Bool) (c7:SlV) (c8:Int) (c9:SlV) (c10:SlV) (c11:Bool) (c12:SlV) (c13:Int) (c14:ByteArray) (c15:ByteArray) (c16:Bool) (c17:SlV) (c18:Int) (s:ByteArray)
  (hb:V b=some (Scs.vals cmdSh (op,c1,c2,c3,c4,c5,c6,c7,c8,c9,c10,c11,c12,c13,c14,c15,c16,c17,c18,()),(u,(0,0)))) :
  CallX Tryz.prog V 26 [.pointer (some ⟨b,0,none⟩),.string s,.int .i64 3] (fun V' r=>V'=kset V b (Scs.vals cmdSh (op,c1,c2,c3,s,c5,c6,c7,c8,c9,c10,c11,c12,c13,c14,c15,c16,c17,c18,()),(u,(0,0)))∧r=.bool true):=by
 refine CallX.of_fits Tryz.mix (fI_readField _ _ _) fun _=>?_
 simp only [tI_readField,T.wp]
 refine(cI_readStr s 3 (by decide) (by decide) (by decide) (by decide)).mono ?_
 rintro V1 r ⟨rfl,rfl⟩
 refine⟨nofun,⟨.iface 9 (.string s),rfl⟩,rfl,?_⟩
 refine⟨fun h=>by simp at h,fun _=>⟨fun h=>by simp at h,fun _=>⟨fun h=>by simp at h,fun _=>⟨fun _=>?_,fun h=>by simp at h⟩⟩⟩⟩
 refine(as_hit if_str).mono ?_
 rintro V2 r ⟨rfl,rfl⟩
 refine⟨(s,true,()),rfl,?_⟩
 simp only [addr_add_eq]
 exact⟨_,u,by trivial,hb,(by show 0+4+1≤19; omega),rfl,rfl⟩
theorem cI_field4 {V:Know} (hV:HtI V) (b:Nat) (u:TypeId) (op:Int) (c1:ByteArray) (c2:ByteArray) (c3:ByteArray) (c4:ByteArray) (c5:ByteArray) (c6:Bool) (c7:SlV) (c8:Int) (c9:SlV) (c10:SlV) (c11:Bool) (c12:SlV) (c13:Int) (c14:ByteArray) (c15:ByteArray) (c16:Bool) (c17:SlV) (c18:Int) (s:ByteArray) (hs:s.size≤1048576)
  (hb:V b=some (Scs.vals cmdSh (op,c1,c2,c3,c4,c5,c6,c7,c8,c9,c10,c11,c12,c13,c14,c15,c16,c17,c18,()),(u,(0,0)))) :
  CallX Tryz.prog V 26 [.pointer (some ⟨b,0,none⟩),.string s,.int .i64 4] (fun V' r=>∃ (V1:Know) (c:ByteArray) (n:Bool) (t:SlV) (ok:Bool),V.le V1∧((ok=true∧∃ (o:List Lim) (g:List Nat),LR rI V1 t o g∧Own V V1 g∧MoneyOkP c n o∧moneyT c n o=s∧∀ c1 n1 o1,MoneyOkP c1 n1 o1→moneyT c1 n1 o1=s→c=c1∧n=n1∧o=o1)∨(ok=false∧c=noT∧n=false∧t=⟨none,0,0⟩∧∀ c1 n1 o1,MoneyOkP c1 n1 o1→moneyT c1 n1 o1=s→False))∧V'=kset V1 b (Scs.vals cmdSh (op,c1,c2,c3,c4,c,n,t,c8,c9,c10,c11,c12,c13,c14,c15,c16,c17,c18,()),(u,(0,0)))∧r=.bool ok):=by
 refine CallX.of_fits Tryz.mix (fI_readField _ _ _) fun _=>?_
 simp only [tI_readField,T.wp]
 refine(cI_readMo hV s hs).mono ?_
 rintro V1 r ⟨le1,hv⟩
 have hb1:=le1 _ _ hb
 rcases hv with ⟨c,n,t,o,g,rfl,h⟩ | ⟨rfl,h⟩
 ·refine⟨nofun,⟨_,rfl⟩,rfl,?_⟩
  refine⟨fun h=>by simp at h,fun _=>⟨fun h=>by simp at h,fun _=>⟨fun h=>by simp at h,fun _=>⟨fun h=>by simp at h,fun _=>⟨fun _=>?_,fun h=>by simp at h⟩⟩⟩⟩⟩
  refine(as_hit if_mo).mono ?_
  rintro V2 r ⟨rfl,rfl⟩
  refine⟨((c,n,t,()),true,()),rfl,?_⟩
  simp only [addr_add_eq]
  exact⟨_,u,by trivial,hb1,(by show 0+5+3≤19; omega),V2,c,n,t,true,le1,.inl ⟨rfl,o,g,h⟩,rfl,rfl⟩
 ·refine⟨nofun,⟨_,rfl⟩,rfl,?_⟩
  refine⟨fun h=>by simp at h,fun _=>⟨fun h=>by simp at h,fun _=>⟨fun h=>by simp at h,fun _=>⟨fun h=>by simp at h,fun _=>⟨fun _=>?_,fun h=>by simp at h⟩⟩⟩⟩⟩
  refine(as_nil if_mo z_mo).mono ?_
  rintro V2 r ⟨rfl,rfl⟩
  refine⟨((⟨⟨[]⟩⟩,false,⟨none,0,0⟩,()),false,()),rfl,?_⟩
  simp only [addr_add_eq]
  exact⟨_,u,by trivial,hb1,(by show 0+5+3≤19; omega),V2,⟨⟨[]⟩⟩,false,⟨none,0,0⟩,false,le1,.inr ⟨rfl,rfl,rfl,rfl,h⟩,rfl,rfl⟩
theorem cI_field6 {V:Know} (hV:HtI V) (b:Nat) (u:TypeId) (op:Int) (c1:ByteArray) (c2:ByteArray) (c3:ByteArray) (c4:ByteArray) (c5:ByteArray) (c6:Bool) (c7:SlV) (c8:Int) (c9:SlV) (c10:SlV) (c11:Bool) (c12:SlV) (c13:Int) (c14:ByteArray) (c15:ByteArray) (c16:Bool) (c17:SlV) (c18:Int) (s:ByteArray) (hs:s.size≤1048576)
  (hb:V b=some (Scs.vals cmdSh (op,c1,c2,c3,c4,c5,c6,c7,c8,c9,c10,c11,c12,c13,c14,c15,c16,c17,c18,()),(u,(0,0)))) :
  CallX Tryz.prog V 26 [.pointer (some ⟨b,0,none⟩),.string s,.int .i64 6] (fun V' r=>∃ (V1:Know) (n:Bool) (t:SlV) (k:Int) (ok:Bool),V.le V1∧((ok=true∧∃ (o:List Lim) (g:List Nat),LR rI V1 t o g∧Own V V1 g∧TaxLowP n o k∧perT o k=s∧∀ m sc,TaxLowP false m sc→perT m sc=s→((n,o,k,()):DecD)=(false,m,sc,()))∨(ok=false∧n=false∧t=⟨none,0,0⟩∧k=0∧∀ m sc,TaxLowP false m sc→perT m sc=s→False))∧V'=kset V1 b (Scs.vals cmdSh (op,c1,c2,c3,c4,c5,c6,c7,c8,c9,c10,n,t,k,c14,c15,c16,c17,c18,()),(u,(0,0)))∧r=.bool ok):=by
 refine CallX.of_fits Tryz.mix (fI_readField _ _ _) fun _=>?_
 simp only [tI_readField,T.wp]
 refine(cI_readDe hV s hs).mono ?_
 rintro V1 r ⟨le1,hv⟩
 have hb1:=le1 _ _ hb
 rcases hv with ⟨x,t,g,rfl,h⟩ | ⟨rfl,h⟩
 ·refine⟨nofun,⟨_,rfl⟩,rfl,?_⟩
  refine⟨fun h=>by simp at h,fun _=>⟨fun h=>by simp at h,fun _=>⟨fun h=>by simp at h,fun _=>⟨fun h=>by simp at h,fun _=>⟨fun h=>by simp at h,fun _=>⟨fun h=>by simp at h,fun _=>⟨fun _=>?_,fun h=>by simp at h⟩⟩⟩⟩⟩⟩⟩
  refine(as_hit if_de).mono ?_
  rintro V2 r ⟨rfl,rfl⟩
  refine⟨((x.1,t,x.2.2.1,()),true,()),rfl,?_⟩
  simp only [addr_add_eq]
  exact⟨_,u,by trivial,hb1,(by show 0+11+3≤19; omega),V2,x.1,t,x.2.2.1,true,le1,.inl ⟨rfl,_,g,h⟩,rfl,rfl⟩
 ·refine⟨nofun,⟨_,rfl⟩,rfl,?_⟩
  refine⟨fun h=>by simp at h,fun _=>⟨fun h=>by simp at h,fun _=>⟨fun h=>by simp at h,fun _=>⟨fun h=>by simp at h,fun _=>⟨fun h=>by simp at h,fun _=>⟨fun h=>by simp at h,fun _=>⟨fun _=>?_,fun h=>by simp at h⟩⟩⟩⟩⟩⟩⟩
  refine(as_nil if_de z_de).mono ?_
  rintro V2 r ⟨rfl,rfl⟩
  refine⟨((false,⟨none,0,0⟩,(0:Int),()),false,()),rfl,?_⟩
  simp only [addr_add_eq]
  exact⟨_,u,by trivial,hb1,(by show 0+11+3≤19; omega),V2,false,⟨none,0,0⟩,0,false,le1,.inr ⟨rfl,rfl,rfl,rfl,h⟩,rfl,rfl⟩
theorem cI_field7 {V:Know} (b:Nat) (u:TypeId) (op:Int) (c1:ByteArray) (c2:ByteArray) (c3:ByteArray) (c4:ByteArray) (c5:ByteArray) (c6:Bool) (c7:SlV) (c8:Int) (c9:SlV) (c10:SlV) (c11:Bool) (c12:SlV) (c13:Int) (c14:ByteArray) (c15:ByteArray) (c16:Bool) (c17:SlV) (c18:Int) (s:ByteArray)
  (hb:V b=some (Scs.vals cmdSh (op,c1,c2,c3,c4,c5,c6,c7,c8,c9,c10,c11,c12,c13,c14,c15,c16,c17,c18,()),(u,(0,0)))) :
  CallX Tryz.prog V 26 [.pointer (some ⟨b,0,none⟩),.string s,.int .i64 7] (fun V' r=>∃ (V1:Know) (m:Int) (ok:Bool),V.le V1∧((ok=true∧ModeP m∧modeT m=s)∨(ok=false∧m=0∧∀ o:Int,ModeP o→modeT o≠s))∧V'=kset V1 b (Scs.vals cmdSh (op,c1,c2,c3,c4,c5,c6,c7,m,c9,c10,c11,c12,c13,c14,c15,c16,c17,c18,()),(u,(0,0)))∧r=.bool ok):=by
 refine CallX.of_fits Tryz.mix (fI_readField _ _ _) fun _=>?_
 simp only [tI_readField,T.wp]
 refine(cI_readRm s).mono ?_
 rintro V1 r ⟨le1,hv⟩
 have hb1:=le1 _ _ hb
 rcases hv with ⟨m,rfl,h⟩ | ⟨rfl,h⟩
 ·refine⟨nofun,⟨_,rfl⟩,rfl,?_⟩
  refine⟨fun h=>by simp at h,fun _=>⟨fun h=>by simp at h,fun _=>⟨fun h=>by simp at h,fun _=>⟨fun h=>by simp at h,fun _=>⟨fun h=>by simp at h,fun _=>⟨fun h=>by simp at h,fun _=>⟨fun h=>by simp at h,fun _=>⟨fun _=>?_,fun h=>by simp at h⟩⟩⟩⟩⟩⟩⟩⟩
  refine(as_hit if_int).mono ?_
  rintro V2 r ⟨rfl,rfl⟩
  refine⟨(m,true,()),rfl,?_⟩
  simp only [addr_add_eq]
  exact⟨_,u,by trivial,hb1,(by show 0+8+1≤19; omega),V2,m,true,le1,.inl ⟨rfl,h⟩,rfl,rfl⟩
 ·refine⟨nofun,⟨_,rfl⟩,rfl,?_⟩
  refine⟨fun h=>by simp at h,fun _=>⟨fun h=>by simp at h,fun _=>⟨fun h=>by simp at h,fun _=>⟨fun h=>by simp at h,fun _=>⟨fun h=>by simp at h,fun _=>⟨fun h=>by simp at h,fun _=>⟨fun h=>by simp at h,fun _=>⟨fun _=>?_,fun h=>by simp at h⟩⟩⟩⟩⟩⟩⟩⟩
  refine(as_nil if_int z_int).mono ?_
  rintro V2 r ⟨rfl,rfl⟩
  refine⟨((0:Int),false,()),rfl,?_⟩
  simp only [addr_add_eq]
  exact⟨_,u,by trivial,hb1,(by show 0+8+1≤19; omega),V2,0,false,le1,.inr ⟨rfl,rfl,h⟩,rfl,rfl⟩
theorem cI_field8 {V:Know} (hV:HtI V) (b:Nat) (u:TypeId) (op:Int) (c1:ByteArray) (c2:ByteArray) (c3:ByteArray) (c4:ByteArray) (c5:ByteArray) (c6:Bool) (c7:SlV) (c8:Int) (c9:SlV) (c10:SlV) (c11:Bool) (c12:SlV) (c13:Int) (c14:ByteArray) (c15:ByteArray) (c16:Bool) (c17:SlV) (c18:Int) (s:ByteArray) (hs:s.size≤1048576)
  (hb:V b=some (Scs.vals cmdSh (op,c1,c2,c3,c4,c5,c6,c7,c8,c9,c10,c11,c12,c13,c14,c15,c16,c17,c18,()),(u,(0,0)))) :
  CallX Tryz.prog V 26 [.pointer (some ⟨b,0,none⟩),.string s,.int .i64 8] (fun V' r=>∃ (V1:Know) (p:ByteArray) (q:ByteArray) (n:Bool) (t:SlV) (k:Int) (ok:Bool),V.le V1∧((ok=true∧∃ (o:List Lim) (g:List Nat),LR rI V1 t o g∧Own V V1 g∧RateOkP (p,q,n,o,k,())∧rateT (p,q,n,o,k,())=s∧∀ y,RateOkP y→rateT y=s→((p,q,n,o,k,()):DRate)=y)∨(ok=false∧p=noT∧q=noT∧n=false∧t=⟨none,0,0⟩∧k=0∧∀ y,RateOkP y→rateT y=s→False))∧V'=kset V1 b (Scs.vals cmdSh (op,c1,c2,c3,c4,c5,c6,c7,c8,c9,c10,c11,c12,c13,p,q,n,t,k,()),(u,(0,0)))∧r=.bool ok):=by
 refine CallX.of_fits Tryz.mix (fI_readField _ _ _) fun _=>?_
 simp only [tI_readField,T.wp]
 refine(cI_readRt hV s hs).mono ?_
 rintro V1 r ⟨le1,hv⟩
 have hb1:=le1 _ _ hb
 rcases hv with ⟨x,t,g,rfl,h⟩ | ⟨rfl,h⟩
 ·refine⟨nofun,⟨_,rfl⟩,rfl,?_⟩
  refine⟨fun h=>by simp at h,fun _=>⟨fun h=>by simp at h,fun _=>⟨fun h=>by simp at h,fun _=>⟨fun h=>by simp at h,fun _=>⟨fun h=>by simp at h,fun _=>⟨fun h=>by simp at h,fun _=>⟨fun h=>by simp at h,fun _=>⟨fun h=>by simp at h,fun _=>⟨fun _=>?_,fun h=>by simp at h⟩⟩⟩⟩⟩⟩⟩⟩⟩
  refine(as_hit if_rt).mono ?_
  rintro V2 r ⟨rfl,rfl⟩
  refine⟨((x.1,x.2.1,x.2.2.1,t,x.2.2.2.2.1,()),true,()),rfl,?_⟩
  simp only [addr_add_eq]
  exact⟨_,u,by trivial,hb1,(by show 0+14+5≤19; omega),V2,x.1,x.2.1,x.2.2.1,t,x.2.2.2.2.1,true,le1,.inl ⟨rfl,_,g,h⟩,rfl,rfl⟩
 ·refine⟨nofun,⟨_,rfl⟩,rfl,?_⟩
  refine⟨fun h=>by simp at h,fun _=>⟨fun h=>by simp at h,fun _=>⟨fun h=>by simp at h,fun _=>⟨fun h=>by simp at h,fun _=>⟨fun h=>by simp at h,fun _=>⟨fun h=>by simp at h,fun _=>⟨fun h=>by simp at h,fun _=>⟨fun h=>by simp at h,fun _=>⟨fun _=>?_,fun h=>by simp at h⟩⟩⟩⟩⟩⟩⟩⟩⟩
  refine(as_nil if_rt z_rt).mono ?_
  rintro V2 r ⟨rfl,rfl⟩
  refine⟨((⟨⟨[]⟩⟩,⟨⟨[]⟩⟩,false,⟨none,0,0⟩,(0:Int),()),false,()),rfl,?_⟩
  simp only [addr_add_eq]
  exact⟨_,u,by trivial,hb1,(by show 0+14+5≤19; omega),V2,⟨⟨[]⟩⟩,⟨⟨[]⟩⟩,false,⟨none,0,0⟩,0,false,le1,.inr ⟨rfl,rfl,rfl,rfl,rfl,rfl,h⟩,rfl,rfl⟩
theorem cI_field5 {V:Know} (hV:HtI V) (hE:hasSR V) (b:Nat) (u:TypeId) (op:Int) (c1:ByteArray) (c2:ByteArray) (c3:ByteArray) (c4:ByteArray) (c5:ByteArray) (c6:Bool) (c7:SlV) (c8:Int) (c9:SlV) (c10:SlV) (c11:Bool) (c12:SlV) (c13:Int) (c14:ByteArray) (c15:ByteArray) (c16:Bool) (c17:SlV) (c18:Int) (s:ByteArray) (hs:s.size≤1048576)
  (hb:V b=some (Scs.vals cmdSh (op,c1,c2,c3,c4,c5,c6,c7,c8,c9,c10,c11,c12,c13,c14,c15,c16,c17,c18,()),(u,(0,0)))) :
  CallX Tryz.prog V 26 [.pointer (some ⟨b,0,none⟩),.string s,.int .i64 5] (fun V' r=>∃ (V1:Know) (z:List Value × KTy) (t1 t2:SlV) (nm:List Tx) (w:List Lim) (f g:List Nat) (ok:Bool),V.le V1∧LR rString V1 t1 nm f∧LR rI V1 t2 w g∧Own V V1 (f++g)∧DealRes s nm w ok∧V'=kset (kset V1 b z) b (Scs.vals cmdSh (op,c1,c2,c3,c4,c5,c6,c7,c8,t1,t2,c11,c12,c13,c14,c15,c16,c17,c18,()),(u,(0,0)))∧r=.bool ok):=by
 refine CallX.of_fits Tryz.mix (fI_readField _ _ _) fun _=>?_
 simp only [tI_readField,T.wp]
 refine(cI_readStr s 5 (by decide) (by decide) (by decide) (by decide)).mono ?_
 rintro V0 r ⟨rfl,rfl⟩
 refine⟨nofun,⟨.iface 9 (.string s),rfl⟩,rfl,?_⟩
 refine⟨fun h=>by simp at h,fun _=>⟨fun h=>by simp at h,fun _=>⟨fun h=>by simp at h,fun _=>⟨fun h=>by simp at h,fun _=>⟨fun h=>by simp at h,fun _=>⟨fun _=>?_,fun h=>by simp at h⟩⟩⟩⟩⟩⟩
 refine(cI_readDeal hV hE s hs).mono ?_
 rintro V1 _ ⟨le1,t1,t2,nm,w,f,g,ok,rfl,L1,L2,O,h⟩
 have hb1:=le1 _ _ hb
 refine⟨nofun,(t1,t2,ok,()),rfl,?_⟩
 simp only [addr_add_eq]
 exact⟨_,u,by trivial,hb1,(by show 0+9+1≤19; omega),_,u,by trivial,kset_same,(by show 0+10+1≤19; omega),V1,_,t1,t2,nm,w,f,g,ok,le1,L1,L2,O,h,rfl,rfl⟩
end Go.Proofs.YtpkmhkbkohppiaaGreatDoor
