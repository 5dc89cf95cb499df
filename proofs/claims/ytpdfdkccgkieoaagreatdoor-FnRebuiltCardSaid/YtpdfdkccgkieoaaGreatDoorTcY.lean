/-
  A field of a command read from its text, in the program.
-/
import Derived.Test.YtpdfdkccgkieoaaGreatDoorTcO
namespace Go.Proofs.YtpdfdkccgkieoaaGreatDoor
open Sx Go.RowKit
set_option maxRecDepth 100000
theorem str_sz:Tryz.prog.types[(9:Nat)].size=1:=by kernel_rfl
theorem LR.takeK {V:Know} {t:SlV} {l:List Tx} {f:List Nat} (h:LR rString V t l f) {k:Nat} (hk:k≤l.length):∃ f',LR rString V ⟨t.a,k,t.c⟩ (l.take k) f':=by
 obtain⟨h1,h2,h3,h4⟩:=h
 rcases h4 with ⟨h0,hc,rfl⟩ | ⟨b,pre,post,u,fps,cs,ha,hb,he,rfl⟩
 ·exact⟨[],by rw [List.length_take]; show k=_; omega,by show k≤t.c; omega,by show k≤_; omega,.inl ⟨by show k=0; omega,hc,rfl⟩⟩
 ·obtain⟨rfl,rfl⟩:=els_txt_eq he
  have hz:∀ x∈cs.take k,x.1.size≤9223372036854775807:=fun x hx=>by
   obtain⟨i,hi,rfl⟩:=List.mem_iff_getElem.1 (List.mem_of_mem_take hx)
   have L:LR rString V t cs [b]:=⟨h1,h2,h3,.inr ⟨b,pre,post,u,[],cs,ha,hb,he,rfl⟩⟩
   exact(L.txt hi).2
  refine⟨[b],by rw [List.length_take]; show k=_; omega,by show k≤t.c; omega,by show k≤_; omega,.inr ⟨b,pre,(cs.drop k).flatMap (Scs.vals [.s])++post,u,[],cs.take k,ha,?_,els_txt _ hz,rfl⟩⟩
  rw [hb,← List.append_assoc (List.flatMap _ (cs.take k)),← List.flatMap_append,List.take_append_drop]
theorem txs_len (l:List Tx):(l.flatMap (Scs.vals [.s])).length=l.length:=by rw [flat_txt]; simp
theorem LR.dropK {V:Know} {t:SlV} {l:List Tx} {f:List Nat} (h:LR rString V t l f) {k:Nat} (hk:k≤l.length):∃ f',LR rString V ⟨(if t.c=k then t.a else t.a.map fun x=>x.add (k*1)),t.n-k,t.c-k⟩ (l.drop k) f':=by
 obtain⟨h1,h2,h3,h4⟩:=h
 rcases h4 with ⟨h0,hc,rfl⟩ | ⟨b,pre,post,u,fps,cs,ha,hb,he,rfl⟩
 ·have:k=0:=by omega
  subst this
  refine⟨[],by rw [List.length_drop]; show t.n-0=_; omega,by show t.n-0≤t.c-0; omega,by show t.n-0≤_; omega,.inl ⟨by show t.n-0=0; omega,fun hn=>?_,rfl⟩⟩
  show t.c-0=0
  by_cases c0:t.c=0
  ·omega
  ·simp only [if_neg c0] at hn
   cases ht:t.a with
   | none=>have:=hc ht; omega
   | some a=>rw [ht] at hn; cases hn
 ·obtain⟨rfl,rfl⟩:=els_txt_eq he
  have hl:t.n-k=(cs.drop k).length:=by rw [List.length_drop]; omega
  by_cases c1:t.c=k
  ·rw [if_pos c1]
   exact⟨[],hl,by show t.n-k≤t.c-k; omega,by show t.n-k≤_; omega,.inl ⟨by show t.n-k=0; omega,fun _=>by show t.c-k=0; omega,rfl⟩⟩
  ·rw [if_neg c1,ha]
   have hz:∀ x∈cs.drop k,x.1.size≤9223372036854775807:=fun x hx=>by
    obtain⟨i,hi,rfl⟩:=List.mem_iff_getElem.1 (List.mem_of_mem_drop hx)
    have L:LR rString V t cs [b]:=⟨h1,h2,h3,.inr ⟨b,pre,post,u,[],cs,ha,hb,he,rfl⟩⟩
    exact(L.txt hi).2
   refine⟨[b],hl,by show t.n-k≤t.c-k; omega,by show t.n-k≤_; omega,.inr ⟨b,pre++(cs.take k).flatMap (Scs.vals [.s]),post,u,[],cs.drop k,?_,?_,els_txt _ hz,rfl⟩⟩
   ·show some ((⟨b,pre.length,none⟩:Addr).add (k*1))=_
    rw [addr_add_eq]
    have e:((cs.take k).flatMap (Scs.vals [.s])).length=k:=(txs_len (cs.take k)).trans (by rw [List.length_take]; omega)
    rw [List.length_append,e,Nat.mul_one]
   ·rw [hb,List.append_assoc,← List.append_assoc (List.flatMap _ (cs.take k)),← List.flatMap_append,List.take_append_drop]
theorem LR.dropS {V:Know} {t:SlV} {l:List Tx} {f:List Nat} (h:LR rString V t l f) {k:Int} (h0:0≤k) (hk:k≤(l.length:Int)) :
  ∃ t' f',Value.slice (if (t.c:Int).toNat=Int.toNat k then t.a else Option.map (fun x=>x.add (Int.toNat k*Tryz.prog.types[(9:Nat)].size)) t.a) ((t.n:Int).toNat-Int.toNat k) ((t.c:Int).toNat-Int.toNat k)=Sc.val .l t'∧LR rString V t' (l.drop k.toNat) f':=by
 obtain⟨f',L⟩:=h.dropK (k:=k.toNat) (by omega)
 refine⟨_,f',?_,L⟩
 rw [str_sz]
 rfl
theorem LR.takeS {V:Know} {t:SlV} {l:List Tx} {f:List Nat} (h:LR rString V t l f) {k:Int} (h0:0≤k) (hk:k≤(l.length:Int)) :
  ∃ t' f',Value.slice (if (t.c:Int).toNat=Int.toNat (0:Int) then t.a else Option.map (fun x=>x.add (Int.toNat (0:Int)*Tryz.prog.types[(9:Nat)].size)) t.a) (k.toNat-Int.toNat (0:Int)) ((t.c:Int).toNat-Int.toNat (0:Int))=Sc.val .l t'∧LR rString V t' (l.take k.toNat) f':=by
 obtain⟨f',L⟩:=h.takeK (k:=k.toNat) (by omega)
 refine⟨_,f',?_,L⟩
 show Value.slice _ _ _=Value.slice _ _ _
 have e:Int.toNat (0:Int)=0:=rfl
 rw [e,Nat.zero_mul,Nat.sub_zero]
 congr 1
 split
 ·rfl
 ·cases t.a with
  | none=>rfl
  | some a =>
   show some (a.add 0)=some a
   obtain⟨b,o,r⟩:=a
   cases r <;> simp [Addr.add]
def hd (l:List Tx):ByteArray:=(l.getD 0 (noT,())).1
end Go.Proofs.YtpdfdkccgkieoaaGreatDoor
namespace Go.Proofs.YtpdfdkccgkieoaaGreatDoor
open Sx Go.RowKit
set_option maxRecDepth 100000
def notIf:TypeDesc→Bool | .interface _=>false | _=>true
theorem semx_as_hit {P:Program} {V:Know} {T xt:TypeId} {u:TypeDesc} {v:Value} (hu:P.underlying T=some u) (hn:notIf u=true) :
  SemX P V (MOp.as (.iface T v) xt T true).sem (fun V' r=>V'=V∧r=.tuple #[v,.bool true]):=by
 intro w hw
 refine⟨_,w,V,?_,Fr.refl V w,hw,rfl,rfl⟩
 cases u <;> first | (simp [notIf] at hn; done) | simp [MOp.sem,Instr.typeAssert,run_underlying hu]
theorem semx_as_nil {P:Program} {V:Know} {T xt:TypeId} {u:TypeDesc} {z:Value} (hu:P.underlying T=some u) (hn:notIf u=true) (hz:∀ w,(zeroValue T).run P w=.ok z w) :
  SemX P V (MOp.as .nilIface xt T true).sem (fun V' r=>V'=V∧r=.tuple #[z,.bool false]):=by
 intro w hw
 refine⟨_,w,V,?_,Fr.refl V w,hw,rfl,rfl⟩
 cases u <;> first | (simp [notIf] at hn; done) | simp [MOp.sem,Instr.typeAssert,run_underlying hu,hz]
abbrev gMo:Sh1:=.g [.s,.b,.l]
abbrev gRt:Sh1:=.g [.s,.s,.b,.l,.i .i64]
def notIfT (P:Program) (T:TypeId):Bool:=match P.underlying T with | some u=>notIf u | none=>false
theorem notIfT_get {P:Program} {T:TypeId} (h:notIfT P T=true):∃ u,P.underlying T=some u∧notIf u=true:=by
 unfold notIfT at h
 split at h
 ·exact⟨_,by assumption,h⟩
 ·cases h
theorem as_hit {V:Know} {T xt:TypeId} {x:Value} (h:notIfT Tryz.prog T=true):SemX Tryz.prog V (MOp.as (.iface T x) xt T true).sem (fun V' r=>V'=V∧r=.tuple #[x,.bool true]):=by
 obtain⟨u,hu,hn⟩:=notIfT_get h
 exact semx_as_hit hu hn
theorem as_nil {V:Know} {T xt:TypeId} {z:Value} (h:notIfT Tryz.prog T=true) (hz:∀ w,(zeroValue T).run Tryz.prog w=.ok z w):SemX Tryz.prog V (MOp.as .nilIface xt T true).sem (fun V' r=>V'=V∧r=.tuple #[z,.bool false]):=by
 obtain⟨u,hu,hn⟩:=notIfT_get h
 exact semx_as_nil hu hn hz
theorem if_str:notIfT Tryz.prog 9=true:=by kernel_rfl
theorem if_mo:notIfT Tryz.prog 72=true:=by kernel_rfl
theorem if_rt:notIfT Tryz.prog 57=true:=by kernel_rfl
theorem z_mo (w:World):(zeroValue 72).run Tryz.prog w=.ok (Sh1.val gMo (⟨⟨[]⟩⟩,false,⟨none,0,0⟩,())) w:=prun_run (by kernel_rfl) w
theorem z_rt (w:World):(zeroValue 57).run Tryz.prog w=.ok (Sh1.val gRt (⟨⟨[]⟩⟩,⟨⟨[]⟩⟩,false,⟨none,0,0⟩,(0:Int),())) w:=prun_run (by kernel_rfl) w
end Go.Proofs.YtpdfdkccgkieoaaGreatDoor
namespace Go.Proofs.YtpdfdkccgkieoaaGreatDoor
open Sx Go.RowKit
set_option maxRecDepth 100000
def VMo (V V':Know) (s:ByteArray) (r:Value):Prop:=(∃ (c:ByteArray) (n:Bool) (t:SlV) (o:List Lim) (g:List Nat),r=.iface 72 (Sh1.val gMo (c,n,t,()))∧LR rI V' t o g∧Own V V' g∧MoneyOkP c n o∧moneyT c n o=s∧∀ c' n' o',MoneyOkP c' n' o'→moneyT c' n' o'=s→c=c'∧n=n'∧o=o')∨(r=.nilIface∧∀ c n o,MoneyOkP c n o→moneyT c n o=s→False)
def VRt (V V':Know) (s:ByteArray) (r:Value):Prop:=(∃ (x:DRate) (t:SlV) (g:List Nat),r=.iface 57 (Sh1.val gRt (x.1,x.2.1,x.2.2.1,t,x.2.2.2.2.1,()))∧LR rI V' t x.2.2.2.1 g∧Own V V' g∧RateOkP x∧rateT x=s∧∀ y,RateOkP y→rateT y=s→x=y)∨(r=.nilIface∧∀ y,RateOkP y→rateT y=s→False)
def VStr (s:ByteArray) (r:Value):Prop:=r=.iface 9 (.string s)
theorem cI_readMo {V:Know} (hV:HtI V) (s:ByteArray) (hs:s.size≤1048576):CallX Tryz.prog V 170 [.string s,.int .i64 4] (fun V' r=>V.le V'∧VMo V V' s r):=by
 refine CallX.of_fits Tryz.mix (fI_readValue _ _) fun _=>?_
 simp only [tI_readValue,T.wp]
 refine⟨fun _=>?_,fun h=>by simp at h⟩
 refine(cI_TextMoney hV s hs).mono ?_
 rintro V1 _ ⟨le1,c,n,t,o,f,ok,rfl,L,O,h1,h2⟩
 refine⟨nofun,((c,n,t,()),ok,()),rfl,fun hT=>?_,fun hF=>?_⟩
 ·obtain rfl:ok=true:=hT
  obtain⟨k1,k2⟩:=h1.2 rfl
  exact⟨le1,.inl ⟨c,n,t,o,f,rfl,L,O,k1,k2,fun c' n' o' a b=>(h2 c' n' o' a b).2⟩⟩
 ·obtain rfl:ok=false:=hF
  exact⟨le1,.inr ⟨rfl,fun c' n' o' a b=>by cases (h2 c' n' o' a b).1⟩⟩
theorem cI_readRt {V:Know} (hV:HtI V) (s:ByteArray) (hs:s.size≤1048576):CallX Tryz.prog V 170 [.string s,.int .i64 8] (fun V' r=>V.le V'∧VRt V V' s r):=by
 refine CallX.of_fits Tryz.mix (fI_readValue _ _) fun _=>?_
 simp only [tI_readValue,T.wp]
 refine⟨fun h=>by simp at h,fun _=>⟨fun h=>by simp at h,fun _=>⟨fun h=>by simp at h,fun _=>⟨fun _=>?_,fun h=>by simp at h⟩⟩⟩⟩
 refine(cI_TextRate hV s hs).mono ?_
 rintro V1 _ ⟨le1,x,t,f,ok,rfl,L,O,h1,h2⟩
 refine⟨nofun,((x.1,x.2.1,x.2.2.1,t,x.2.2.2.2.1,()),ok,()),rfl,fun hT=>?_,fun hF=>?_⟩
 ·obtain rfl:ok=true:=hT
  obtain⟨k1,k2⟩:=h1.2 rfl
  exact⟨le1,.inl ⟨x,t,f,rfl,L,O,k1,k2,fun y a b=>(h2 y a b).2⟩⟩
 ·obtain rfl:ok=false:=hF
  exact⟨le1,.inr ⟨rfl,fun y a b=>by cases (h2 y a b).1⟩⟩
theorem cI_readStr {V:Know} (s:ByteArray) (f:Int) (h4:f≠4) (h6:f≠6) (h7:f≠7) (h8:f≠8):CallX Tryz.prog V 170 [.string s,.int .i64 f] (fun V' r=>V'=V∧VStr s r):=by
 refine CallX.of_fits Tryz.mix (fI_readValue _ _) fun _=>?_
 simp only [tI_readValue,T.wp]
 refine⟨fun h=>absurd (by simpa using h) h4,fun _=>⟨fun h=>absurd (by simpa using h) h6,fun _=>⟨fun h=>absurd (by simpa using h) h7,fun _=>⟨fun h=>absurd (by simpa using h) h8,fun _=>⟨by trivial,rfl⟩⟩⟩⟩⟩
end Go.Proofs.YtpdfdkccgkieoaaGreatDoor
namespace Go.Proofs.YtpdfdkccgkieoaaGreatDoor
open Sx Go.RowKit
set_option maxRecDepth 100000
abbrev cmdSh:List Sc:=[.i .i64,.s,.s,.s,.s,.s,.b,.l,.i .i64,.l,.l,.b,.l,.i .i64,.s,.s,.b,.l,.i .i64]
theorem cI_field0 (V:Know) (b:Nat) (u:TypeId) (op:Int) (c1:ByteArray) (c2:ByteArray) (c3:ByteArray) (c4:ByteArray) (c5:ByteArray) (c6:Bool) (c7:SlV) (c8:Int) (c9:SlV) (c10:SlV) (c11:Bool) (c12:SlV) (c13:Int) (c14:ByteArray) (c15:ByteArray) (c16:Bool) (c17:SlV) (c18:Int) (s:ByteArray)
  (hb:V b=some (Scs.vals cmdSh (op,c1,c2,c3,c4,c5,c6,c7,c8,c9,c10,c11,c12,c13,c14,c15,c16,c17,c18,()),(u,(0,0)))) :
  CallX Tryz.prog V 128 [.pointer (some ⟨b,0,none⟩),.string s,.int .i64 0] (fun V' r=>V'=kset V b (Scs.vals cmdSh (op,s,c2,c3,c4,c5,c6,c7,c8,c9,c10,c11,c12,c13,c14,c15,c16,c17,c18,()),(u,(0,0)))∧r=.bool true):=by
 refine CallX.of_fits Tryz.mix (fI_readField _ _ _) fun _=>?_
 simp only [tI_readField,T.wp]
 refine(cI_readStr s 0 (by decide) (by decide) (by decide) (by decide)).mono ?_
 rintro V1 r ⟨rfl,rfl⟩
 refine⟨nofun,⟨.iface 9 (.string s),rfl⟩,rfl,?_⟩
 refine⟨fun _=>?_,fun h=>by simp at h⟩
 refine(as_hit if_str).mono ?_
 rintro V2 r ⟨rfl,rfl⟩
 refine⟨(s,true,()),rfl,?_⟩
 simp only [addr_add_eq]
 exact⟨_,u,by trivial,hb,(by show 0+1+1≤19; omega),rfl,rfl⟩
theorem cI_field3 (V:Know) (b:Nat) (u:TypeId) (op:Int) (c1:ByteArray) (c2:ByteArray) (c3:ByteArray) (c4:ByteArray) (c5:ByteArray) (c6:Bool) (c7:SlV) (c8:Int) (c9:SlV) (c10:SlV) (c11:Bool) (c12:SlV) (c13:Int) (c14:ByteArray) (c15:ByteArray) (c16:Bool) (c17:SlV) (c18:Int) (s:ByteArray)
  (hb:V b=some (Scs.vals cmdSh (op,c1,c2,c3,c4,c5,c6,c7,c8,c9,c10,c11,c12,c13,c14,c15,c16,c17,c18,()),(u,(0,0)))) :
  CallX Tryz.prog V 128 [.pointer (some ⟨b,0,none⟩),.string s,.int .i64 3] (fun V' r=>V'=kset V b (Scs.vals cmdSh (op,c1,c2,c3,s,c5,c6,c7,c8,c9,c10,c11,c12,c13,c14,c15,c16,c17,c18,()),(u,(0,0)))∧r=.bool true):=by
 refine CallX.of_fits Tryz.mix (fI_readField _ _ _) fun _=>?_
 simp only [tI_readField,T.wp]
 refine(cI_readStr s 3 (by decide) (by decide) (by decide) (by decide)).mono ?_
 rintro V1 r ⟨rfl,rfl⟩
 refine⟨nofun,⟨.iface 9 (.string s),rfl⟩,rfl,?_⟩
 refine⟨fun h=>by simp at h,fun _=>⟨fun h=>by simp at h,fun _=>⟨fun h=>by simp at h,fun _=>⟨fun _=>?_,fun h=>by simp at h⟩⟩⟩⟩
 refine(as_hit if_str).mono ?_
 rintro V2 r ⟨rfl,rfl⟩
 refine⟨(s,true,()),rfl,?_⟩
 simp only [addr_add_eq]
 exact⟨_,u,by trivial,hb,(by show 0+4+1≤19; omega),rfl,rfl⟩
theorem cI_field4 {V:Know} (hV:HtI V) (b:Nat) (u:TypeId) (op:Int) (c1:ByteArray) (c2:ByteArray) (c3:ByteArray) (c4:ByteArray) (c5:ByteArray) (c6:Bool) (c7:SlV) (c8:Int) (c9:SlV) (c10:SlV) (c11:Bool) (c12:SlV) (c13:Int) (c14:ByteArray) (c15:ByteArray) (c16:Bool) (c17:SlV) (c18:Int) (s:ByteArray) (hs:s.size≤1048576)
  (hb:V b=some (Scs.vals cmdSh (op,c1,c2,c3,c4,c5,c6,c7,c8,c9,c10,c11,c12,c13,c14,c15,c16,c17,c18,()),(u,(0,0)))) :
  CallX Tryz.prog V 128 [.pointer (some ⟨b,0,none⟩),.string s,.int .i64 4] (fun V' r=>∃ (V1:Know) (c:ByteArray) (n:Bool) (t:SlV) (ok:Bool),V.le V1∧((ok=true∧∃ (o:List Lim) (g:List Nat),LR rI V1 t o g∧Own V V1 g∧MoneyOkP c n o∧moneyT c n o=s∧∀ c1 n1 o1,MoneyOkP c1 n1 o1→moneyT c1 n1 o1=s→c=c1∧n=n1∧o=o1)∨(ok=false∧c=noT∧n=false∧t=⟨none,0,0⟩∧∀ c1 n1 o1,MoneyOkP c1 n1 o1→moneyT c1 n1 o1=s→False))∧V'=kset V1 b (Scs.vals cmdSh (op,c1,c2,c3,c4,c,n,t,c8,c9,c10,c11,c12,c13,c14,c15,c16,c17,c18,()),(u,(0,0)))∧r=.bool ok):=by
 refine CallX.of_fits Tryz.mix (fI_readField _ _ _) fun _=>?_
 simp only [tI_readField,T.wp]
 refine(cI_readMo hV s hs).mono ?_
 rintro V1 r ⟨le1,hv⟩
 have hb1:=le1 _ _ hb
 rcases hv with ⟨c,n,t,o,g,rfl,h⟩ | ⟨rfl,h⟩
 ·refine⟨nofun,⟨_,rfl⟩,rfl,?_⟩
  refine⟨fun h=>by simp at h,fun _=>⟨fun h=>by simp at h,fun _=>⟨fun h=>by simp at h,fun _=>⟨fun h=>by simp at h,fun _=>⟨fun _=>?_,fun h=>by simp at h⟩⟩⟩⟩⟩
  refine(as_hit if_mo).mono ?_
  rintro V2 r ⟨rfl,rfl⟩
  refine⟨((c,n,t,()),true,()),rfl,?_⟩
  simp only [addr_add_eq]
  exact⟨_,u,by trivial,hb1,(by show 0+5+3≤19; omega),V2,c,n,t,true,le1,.inl ⟨rfl,o,g,h⟩,rfl,rfl⟩
 ·refine⟨nofun,⟨_,rfl⟩,rfl,?_⟩
  refine⟨fun h=>by simp at h,fun _=>⟨fun h=>by simp at h,fun _=>⟨fun h=>by simp at h,fun _=>⟨fun h=>by simp at h,fun _=>⟨fun _=>?_,fun h=>by simp at h⟩⟩⟩⟩⟩
  refine(as_nil if_mo z_mo).mono ?_
  rintro V2 r ⟨rfl,rfl⟩
  refine⟨((⟨⟨[]⟩⟩,false,⟨none,0,0⟩,()),false,()),rfl,?_⟩
  simp only [addr_add_eq]
  exact⟨_,u,by trivial,hb1,(by show 0+5+3≤19; omega),V2,⟨⟨[]⟩⟩,false,⟨none,0,0⟩,false,le1,.inr ⟨rfl,rfl,rfl,rfl,h⟩,rfl,rfl⟩
theorem cI_field8 {V:Know} (hV:HtI V) (b:Nat) (u:TypeId) (op:Int) (c1:ByteArray) (c2:ByteArray) (c3:ByteArray) (c4:ByteArray) (c5:ByteArray) (c6:Bool) (c7:SlV) (c8:Int) (c9:SlV) (c10:SlV) (c11:Bool) (c12:SlV) (c13:Int) (c14:ByteArray) (c15:ByteArray) (c16:Bool) (c17:SlV) (c18:Int) (s:ByteArray) (hs:s.size≤1048576)
  (hb:V b=some (Scs.vals cmdSh (op,c1,c2,c3,c4,c5,c6,c7,c8,c9,c10,c11,c12,c13,c14,c15,c16,c17,c18,()),(u,(0,0)))) :
  CallX Tryz.prog V 128 [.pointer (some ⟨b,0,none⟩),.string s,.int .i64 8] (fun V' r=>∃ (V1:Know) (p:ByteArray) (q:ByteArray) (n:Bool) (t:SlV) (k:Int) (ok:Bool),V.le V1∧((ok=true∧∃ (o:List Lim) (g:List Nat),LR rI V1 t o g∧Own V V1 g∧RateOkP (p,q,n,o,k,())∧rateT (p,q,n,o,k,())=s∧∀ y,RateOkP y→rateT y=s→((p,q,n,o,k,()):DRate)=y)∨(ok=false∧p=noT∧q=noT∧n=false∧t=⟨none,0,0⟩∧k=0∧∀ y,RateOkP y→rateT y=s→False))∧V'=kset V1 b (Scs.vals cmdSh (op,c1,c2,c3,c4,c5,c6,c7,c8,c9,c10,c11,c12,c13,p,q,n,t,k,()),(u,(0,0)))∧r=.bool ok):=by
 refine CallX.of_fits Tryz.mix (fI_readField _ _ _) fun _=>?_
 simp only [tI_readField,T.wp]
 refine(cI_readRt hV s hs).mono ?_
 rintro V1 r ⟨le1,hv⟩
 have hb1:=le1 _ _ hb
 rcases hv with ⟨x,t,g,rfl,h⟩ | ⟨rfl,h⟩
 ·refine⟨nofun,⟨_,rfl⟩,rfl,?_⟩
  refine⟨fun h=>by simp at h,fun _=>⟨fun h=>by simp at h,fun _=>⟨fun h=>by simp at h,fun _=>⟨fun h=>by simp at h,fun _=>⟨fun h=>by simp at h,fun _=>⟨fun h=>by simp at h,fun _=>⟨fun h=>by simp at h,fun _=>⟨fun h=>by simp at h,fun _=>⟨fun _=>?_,fun h=>by simp at h⟩⟩⟩⟩⟩⟩⟩⟩⟩
  refine(as_hit if_rt).mono ?_
  rintro V2 r ⟨rfl,rfl⟩
  refine⟨((x.1,x.2.1,x.2.2.1,t,x.2.2.2.2.1,()),true,()),rfl,?_⟩
  simp only [addr_add_eq]
  exact⟨_,u,by trivial,hb1,(by show 0+14+5≤19; omega),V2,x.1,x.2.1,x.2.2.1,t,x.2.2.2.2.1,true,le1,.inl ⟨rfl,_,g,h⟩,rfl,rfl⟩
 ·refine⟨nofun,⟨_,rfl⟩,rfl,?_⟩
  refine⟨fun h=>by simp at h,fun _=>⟨fun h=>by simp at h,fun _=>⟨fun h=>by simp at h,fun _=>⟨fun h=>by simp at h,fun _=>⟨fun h=>by simp at h,fun _=>⟨fun h=>by simp at h,fun _=>⟨fun h=>by simp at h,fun _=>⟨fun h=>by simp at h,fun _=>⟨fun _=>?_,fun h=>by simp at h⟩⟩⟩⟩⟩⟩⟩⟩⟩
  refine(as_nil if_rt z_rt).mono ?_
  rintro V2 r ⟨rfl,rfl⟩
  refine⟨((⟨⟨[]⟩⟩,⟨⟨[]⟩⟩,false,⟨none,0,0⟩,(0:Int),()),false,()),rfl,?_⟩
  simp only [addr_add_eq]
  exact⟨_,u,by trivial,hb1,(by show 0+14+5≤19; omega),V2,⟨⟨[]⟩⟩,⟨⟨[]⟩⟩,false,⟨none,0,0⟩,0,false,le1,.inr ⟨rfl,rfl,rfl,rfl,rfl,rfl,h⟩,rfl,rfl⟩
end Go.Proofs.YtpdfdkccgkieoaaGreatDoor
