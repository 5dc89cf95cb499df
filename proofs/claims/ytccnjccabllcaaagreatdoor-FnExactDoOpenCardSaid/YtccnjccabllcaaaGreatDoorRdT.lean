/-
  The arguments of the laws, read as rows.
-/
import Derived.Test.YtccnjccabllcaaaGreatDoorRead
import Derived.Test.YtccnjccabllcaaaGreatDoorStr
import Derived.KernelRfl
namespace Go.Proofs.YtccnjccabllcaaaGreatDoor
open Sx
set_option maxRecDepth 100000
noncomputable def fsSigned:Array Field:=match Tryz.prog.underlying 49 with | some (.struct fs)=>fs | _=>#[]
theorem rd_Signed (W:World):Rd Tryz.prog W 49 rSigned:=by
 intro H enc sp held fuel cs x h
 have ht:Tryz.prog.underlying 49=some (.struct fsSigned):=by kernel_rfl
 have hl:=rd_len ht h (k:=2) (by kernel_rfl)
 match cs,hl with
 | [a0,a1],_ =>
  obtain⟨n0,y0,g0⟩:=rd_field ht h 0 (fsSigned[0]!) (by kernel_rfl) (ft:=4) (off:=0) (w:=1) (by kernel_rfl) (by kernel_rfl) (by kernel_rfl)
  replace g0:DataW.trod enc Tryz.prog W 0 sp held n0 4 [a0]=some y0:=g0
  obtain⟨c0,e0,_⟩:=DataW.trod_bool (show Tryz.prog.underlying 4=some .bool by kernel_rfl) g0
  simp only [List.cons.injEq,and_true] at e0
  subst e0
  obtain⟨n1,y1,g1⟩:=rd_field ht h 1 (fsSigned[1]!) (by kernel_rfl) (ft:=47) (off:=1) (w:=1) (by kernel_rfl) (by kernel_rfl) (by kernel_rfl)
  replace g1:DataW.trod enc Tryz.prog W 0 sp held n1 47 [a1]=some y1:=g1
  obtain⟨c1,x1,f1,e1,sc1⟩:=rd_slice (e:=3) (rd_int (show Tryz.prog.underlying 3=some (.int .i64) by kernel_rfl)) (by kernel_rfl) (by kernel_rfl) (by decide) g1
  simp only [List.cons.injEq,and_true] at e1
  subst e1
  exact⟨(c0,c1,()),(c0,x1,()),_,rfl,(rBool.mk (rSl.mk sc1 rNil.mk))⟩
noncomputable def fsMoney:Array Field:=match Tryz.prog.underlying 66 with | some (.struct fs)=>fs | _=>#[]
theorem rd_Money (W:World):Rd Tryz.prog W 66 rMoney:=by
 intro H enc sp held fuel cs x h
 have ht:Tryz.prog.underlying 66=some (.struct fsMoney):=by kernel_rfl
 have hl:=rd_len ht h (k:=3) (by kernel_rfl)
 match cs,hl with
 | [a0,a1,a2],_ =>
  obtain⟨n0,y0,g0⟩:=rd_field ht h 0 (fsMoney[0]!) (by kernel_rfl) (ft:=9) (off:=0) (w:=1) (by kernel_rfl) (by kernel_rfl) (by kernel_rfl)
  replace g0:DataW.trod enc Tryz.prog W 0 sp held n0 9 [a0]=some y0:=g0
  obtain⟨c0,e0,_,zc0⟩:=DataW.trod_string (show Tryz.prog.underlying 9=some .string by kernel_rfl) g0
  replace zc0:c0.size≤9223372036854775807:=zc0
  simp only [List.cons.injEq,and_true] at e0
  subst e0
  obtain⟨n1,y1,g1⟩:=rd_field ht h 1 (fsMoney[1]!) (by kernel_rfl) (ft:=49) (off:=1) (w:=2) (by kernel_rfl) (by kernel_rfl) (by kernel_rfl)
  replace g1:DataW.trod enc Tryz.prog W 0 sp held n1 49 [a1,a2]=some y1:=g1
  obtain⟨⟨c1,c2,cu1⟩,⟨x1,x2,xu1⟩,f1q,e1,hr1⟩:=rd_Signed W g1
  replace e1:[a1,a2]=[Value.bool c1,Value.slice c2.a c2.n c2.c]:=e1
  simp only [List.cons.injEq,and_true] at e1
  obtain⟨rfl,rfl⟩:=e1
  obtain⟨ec1,hr1⟩:=hr1
  replace ec1:c1=x1:=ec1
  subst ec1
  obtain⟨f2,fr2,ec2,sc2,hr1⟩:=hr1
  subst ec2
  replace sc2:LR rI _ c2 x2 f2:=sc2
  exact⟨(c0,c1,c2,()),(c0,c1,x2,()),_,rfl,(rStr.mk zc0 (rBool.mk (rSl.mk sc2 rNil.mk)))⟩
noncomputable def fsAcct:Array Field:=match Tryz.prog.underlying 166 with | some (.struct fs)=>fs | _=>#[]
theorem rd_Acct (W:World):Rd Tryz.prog W 166 rAcct:=by
 intro H enc sp held fuel cs x h
 have ht:Tryz.prog.underlying 166=some (.struct fsAcct):=by kernel_rfl
 have hl:=rd_len ht h (k:=4) (by kernel_rfl)
 match cs,hl with
 | [a0,a1,a2,a3],_ =>
  obtain⟨n0,y0,g0⟩:=rd_field ht h 0 (fsAcct[0]!) (by kernel_rfl) (ft:=9) (off:=0) (w:=1) (by kernel_rfl) (by kernel_rfl) (by kernel_rfl)
  replace g0:DataW.trod enc Tryz.prog W 0 sp held n0 9 [a0]=some y0:=g0
  obtain⟨c0,e0,_,zc0⟩:=DataW.trod_string (show Tryz.prog.underlying 9=some .string by kernel_rfl) g0
  replace zc0:c0.size≤9223372036854775807:=zc0
  simp only [List.cons.injEq,and_true] at e0
  subst e0
  obtain⟨n1,y1,g1⟩:=rd_field ht h 1 (fsAcct[1]!) (by kernel_rfl) (ft:=66) (off:=1) (w:=3) (by kernel_rfl) (by kernel_rfl) (by kernel_rfl)
  replace g1:DataW.trod enc Tryz.prog W 0 sp held n1 66 [a1,a2,a3]=some y1:=g1
  obtain⟨⟨c1,c2,c3,cu1⟩,⟨x1,x2,x3,xu1⟩,f1q,e1,hr1⟩:=rd_Money W g1
  replace e1:[a1,a2,a3]=[Value.string c1,Value.bool c2,Value.slice c3.a c3.n c3.c]:=e1
  simp only [List.cons.injEq,and_true] at e1
  obtain⟨rfl,rfl,rfl⟩:=e1
  obtain⟨⟨ec1,zc1⟩,hr1⟩:=hr1
  replace ec1:c1=x1:=ec1
  subst ec1
  replace zc1:c1.size≤9223372036854775807:=zc1
  obtain⟨ec2,hr1⟩:=hr1
  replace ec2:c2=x2:=ec2
  subst ec2
  obtain⟨f3,fr3,ec3,sc3,hr1⟩:=hr1
  subst ec3
  replace sc3:LR rI _ c3 x3 f3:=sc3
  exact⟨(c0,c1,c2,c3,()),(c0,c1,c2,x3,()),_,rfl,(rStr.mk zc0 (rStr.mk zc1 (rBool.mk (rSl.mk sc3 rNil.mk))))⟩
noncomputable def fsBook:Array Field:=match Tryz.prog.underlying 24 with | some (.struct fs)=>fs | _=>#[]
theorem rd_Book (W:World):Rd Tryz.prog W 24 rBook:=by
 intro H enc sp held fuel cs x h
 have ht:Tryz.prog.underlying 24=some (.struct fsBook):=by kernel_rfl
 have hl:=rd_len ht h (k:=1) (by kernel_rfl)
 match cs,hl with
 | [a0],_ =>
  obtain⟨n0,y0,g0⟩:=rd_field ht h 0 (fsBook[0]!) (by kernel_rfl) (ft:=22) (off:=0) (w:=1) (by kernel_rfl) (by kernel_rfl) (by kernel_rfl)
  replace g0:DataW.trod enc Tryz.prog W 0 sp held n0 22 [a0]=some y0:=g0
  obtain⟨c0,x0,f0,e0,sc0⟩:=rd_slice (e:=166) (rd_Acct W) (by kernel_rfl) (by kernel_rfl) (by decide) g0
  simp only [List.cons.injEq,and_true] at e0
  subst e0
  exact⟨(c0,()),(x0,()),_,rfl,(rSl.mk sc0 rNil.mk)⟩
noncomputable def fsRat:Array Field:=match Tryz.prog.underlying 124 with | some (.struct fs)=>fs | _=>#[]
theorem rd_Rat (W:World):Rd Tryz.prog W 124 rRat:=by
 intro H enc sp held fuel cs x h
 have ht:Tryz.prog.underlying 124=some (.struct fsRat):=by kernel_rfl
 have hl:=rd_len ht h (k:=3) (by kernel_rfl)
 match cs,hl with
 | [a0,a1,a2],_ =>
  obtain⟨n0,y0,g0⟩:=rd_field ht h 0 (fsRat[0]!) (by kernel_rfl) (ft:=49) (off:=0) (w:=2) (by kernel_rfl) (by kernel_rfl) (by kernel_rfl)
  replace g0:DataW.trod enc Tryz.prog W 0 sp held n0 49 [a0,a1]=some y0:=g0
  obtain⟨⟨c0,c1,cu0⟩,⟨x0,x1,xu0⟩,f0q,e0,hr0⟩:=rd_Signed W g0
  replace e0:[a0,a1]=[Value.bool c0,Value.slice c1.a c1.n c1.c]:=e0
  simp only [List.cons.injEq,and_true] at e0
  obtain⟨rfl,rfl⟩:=e0
  obtain⟨ec0,hr0⟩:=hr0
  replace ec0:c0=x0:=ec0
  subst ec0
  obtain⟨f1,fr1,ec1,sc1,hr0⟩:=hr0
  subst ec1
  replace sc1:LR rI _ c1 x1 f1:=sc1
  obtain⟨n2,y2,g2⟩:=rd_field ht h 1 (fsRat[1]!) (by kernel_rfl) (ft:=47) (off:=2) (w:=1) (by kernel_rfl) (by kernel_rfl) (by kernel_rfl)
  replace g2:DataW.trod enc Tryz.prog W 0 sp held n2 47 [a2]=some y2:=g2
  obtain⟨c2,x2,f2,e2,sc2⟩:=rd_slice (e:=3) (rd_int (show Tryz.prog.underlying 3=some (.int .i64) by kernel_rfl)) (by kernel_rfl) (by kernel_rfl) (by decide) g2
  simp only [List.cons.injEq,and_true] at e2
  subst e2
  exact⟨(c0,c1,c2,()),(c0,x1,x2,()),_,rfl,(rBool.mk (rSl.mk sc1 (rSl.mk sc2 rNil.mk)))⟩
noncomputable def fsRest:Array Field:=match Tryz.prog.underlying 126 with | some (.struct fs)=>fs | _=>#[]
theorem rd_Rest (W:World):Rd Tryz.prog W 126 rRest:=by
 intro H enc sp held fuel cs x h
 have ht:Tryz.prog.underlying 126=some (.struct fsRest):=by kernel_rfl
 have hl:=rd_len ht h (k:=4) (by kernel_rfl)
 match cs,hl with
 | [a0,a1,a2,a3],_ =>
  obtain⟨n0,y0,g0⟩:=rd_field ht h 0 (fsRest[0]!) (by kernel_rfl) (ft:=9) (off:=0) (w:=1) (by kernel_rfl) (by kernel_rfl) (by kernel_rfl)
  replace g0:DataW.trod enc Tryz.prog W 0 sp held n0 9 [a0]=some y0:=g0
  obtain⟨c0,e0,_,zc0⟩:=DataW.trod_string (show Tryz.prog.underlying 9=some .string by kernel_rfl) g0
  replace zc0:c0.size≤9223372036854775807:=zc0
  simp only [List.cons.injEq,and_true] at e0
  subst e0
  obtain⟨n1,y1,g1⟩:=rd_field ht h 1 (fsRest[1]!) (by kernel_rfl) (ft:=124) (off:=1) (w:=3) (by kernel_rfl) (by kernel_rfl) (by kernel_rfl)
  replace g1:DataW.trod enc Tryz.prog W 0 sp held n1 124 [a1,a2,a3]=some y1:=g1
  obtain⟨⟨c1,c2,c3,cu1⟩,⟨x1,x2,x3,xu1⟩,f1q,e1,hr1⟩:=rd_Rat W g1
  replace e1:[a1,a2,a3]=[Value.bool c1,Value.slice c2.a c2.n c2.c,Value.slice c3.a c3.n c3.c]:=e1
  simp only [List.cons.injEq,and_true] at e1
  obtain⟨rfl,rfl,rfl⟩:=e1
  obtain⟨ec1,hr1⟩:=hr1
  replace ec1:c1=x1:=ec1
  subst ec1
  obtain⟨f2,fr2,ec2,sc2,hr1⟩:=hr1
  subst ec2
  replace sc2:LR rI _ c2 x2 f2:=sc2
  obtain⟨f3,fr3,ec3,sc3,hr1⟩:=hr1
  subst ec3
  replace sc3:LR rI _ c3 x3 f3:=sc3
  exact⟨(c0,c1,c2,c3,()),(c0,c1,x2,x3,()),_,rfl,(rStr.mk zc0 (rBool.mk (rSl.mk sc2 (rSl.mk sc3 rNil.mk))))⟩
noncomputable def fsDec:Array Field:=match Tryz.prog.underlying 51 with | some (.struct fs)=>fs | _=>#[]
theorem rd_Dec (W:World):Rd Tryz.prog W 51 rDec:=by
 intro H enc sp held fuel cs x h
 have ht:Tryz.prog.underlying 51=some (.struct fsDec):=by kernel_rfl
 have hl:=rd_len ht h (k:=3) (by kernel_rfl)
 match cs,hl with
 | [a0,a1,a2],_ =>
  obtain⟨n0,y0,g0⟩:=rd_field ht h 0 (fsDec[0]!) (by kernel_rfl) (ft:=49) (off:=0) (w:=2) (by kernel_rfl) (by kernel_rfl) (by kernel_rfl)
  replace g0:DataW.trod enc Tryz.prog W 0 sp held n0 49 [a0,a1]=some y0:=g0
  obtain⟨⟨c0,c1,cu0⟩,⟨x0,x1,xu0⟩,f0q,e0,hr0⟩:=rd_Signed W g0
  replace e0:[a0,a1]=[Value.bool c0,Value.slice c1.a c1.n c1.c]:=e0
  simp only [List.cons.injEq,and_true] at e0
  obtain⟨rfl,rfl⟩:=e0
  obtain⟨ec0,hr0⟩:=hr0
  replace ec0:c0=x0:=ec0
  subst ec0
  obtain⟨f1,fr1,ec1,sc1,hr0⟩:=hr0
  subst ec1
  replace sc1:LR rI _ c1 x1 f1:=sc1
  obtain⟨n2,y2,g2⟩:=rd_field ht h 1 (fsDec[1]!) (by kernel_rfl) (ft:=3) (off:=2) (w:=1) (by kernel_rfl) (by kernel_rfl) (by kernel_rfl)
  replace g2:DataW.trod enc Tryz.prog W 0 sp held n2 3 [a2]=some y2:=g2
  obtain⟨c2,e2,_⟩:=DataW.trod_int (show Tryz.prog.underlying 3=some (.int .i64) by kernel_rfl) g2
  simp only [List.cons.injEq,and_true] at e2
  subst e2
  exact⟨(c0,c1,c2,()),(c0,x1,c2,()),_,rfl,(rBool.mk (rSl.mk sc1 (rInt.mk rNil.mk)))⟩
noncomputable def fsRate:Array Field:=match Tryz.prog.underlying 53 with | some (.struct fs)=>fs | _=>#[]
theorem rd_Rate (W:World):Rd Tryz.prog W 53 rRate:=by
 intro H enc sp held fuel cs x h
 have ht:Tryz.prog.underlying 53=some (.struct fsRate):=by kernel_rfl
 have hl:=rd_len ht h (k:=5) (by kernel_rfl)
 match cs,hl with
 | [a0,a1,a2,a3,a4],_ =>
  obtain⟨n0,y0,g0⟩:=rd_field ht h 0 (fsRate[0]!) (by kernel_rfl) (ft:=9) (off:=0) (w:=1) (by kernel_rfl) (by kernel_rfl) (by kernel_rfl)
  replace g0:DataW.trod enc Tryz.prog W 0 sp held n0 9 [a0]=some y0:=g0
  obtain⟨c0,e0,_,zc0⟩:=DataW.trod_string (show Tryz.prog.underlying 9=some .string by kernel_rfl) g0
  replace zc0:c0.size≤9223372036854775807:=zc0
  simp only [List.cons.injEq,and_true] at e0
  subst e0
  obtain⟨n1,y1,g1⟩:=rd_field ht h 1 (fsRate[1]!) (by kernel_rfl) (ft:=9) (off:=1) (w:=1) (by kernel_rfl) (by kernel_rfl) (by kernel_rfl)
  replace g1:DataW.trod enc Tryz.prog W 0 sp held n1 9 [a1]=some y1:=g1
  obtain⟨c1,e1,_,zc1⟩:=DataW.trod_string (show Tryz.prog.underlying 9=some .string by kernel_rfl) g1
  replace zc1:c1.size≤9223372036854775807:=zc1
  simp only [List.cons.injEq,and_true] at e1
  subst e1
  obtain⟨n2,y2,g2⟩:=rd_field ht h 2 (fsRate[2]!) (by kernel_rfl) (ft:=51) (off:=2) (w:=3) (by kernel_rfl) (by kernel_rfl) (by kernel_rfl)
  replace g2:DataW.trod enc Tryz.prog W 0 sp held n2 51 [a2,a3,a4]=some y2:=g2
  obtain⟨⟨c2,c3,c4,cu2⟩,⟨x2,x3,x4,xu2⟩,f2q,e2,hr2⟩:=rd_Dec W g2
  replace e2:[a2,a3,a4]=[Value.bool c2,Value.slice c3.a c3.n c3.c,Value.int .i64 c4]:=e2
  simp only [List.cons.injEq,and_true] at e2
  obtain⟨rfl,rfl,rfl⟩:=e2
  obtain⟨ec2,hr2⟩:=hr2
  replace ec2:c2=x2:=ec2
  subst ec2
  obtain⟨f3,fr3,ec3,sc3,hr2⟩:=hr2
  subst ec3
  replace sc3:LR rI _ c3 x3 f3:=sc3
  obtain⟨ec4,hr2⟩:=hr2
  replace ec4:c4=x4:=ec4
  subst ec4
  exact⟨(c0,c1,c2,c3,c4,()),(c0,c1,c2,x3,c4,()),_,rfl,(rStr.mk zc0 (rStr.mk zc1 (rBool.mk (rSl.mk sc3 (rInt.mk rNil.mk)))))⟩
noncomputable def fsRates:Array Field:=match Tryz.prog.underlying 28 with | some (.struct fs)=>fs | _=>#[]
theorem rd_Rates (W:World):Rd Tryz.prog W 28 rRates:=by
 intro H enc sp held fuel cs x h
 have ht:Tryz.prog.underlying 28=some (.struct fsRates):=by kernel_rfl
 have hl:=rd_len ht h (k:=2) (by kernel_rfl)
 match cs,hl with
 | [a0,a1],_ =>
  obtain⟨n0,y0,g0⟩:=rd_field ht h 0 (fsRates[0]!) (by kernel_rfl) (ft:=9) (off:=0) (w:=1) (by kernel_rfl) (by kernel_rfl) (by kernel_rfl)
  replace g0:DataW.trod enc Tryz.prog W 0 sp held n0 9 [a0]=some y0:=g0
  obtain⟨c0,e0,_,zc0⟩:=DataW.trod_string (show Tryz.prog.underlying 9=some .string by kernel_rfl) g0
  replace zc0:c0.size≤9223372036854775807:=zc0
  simp only [List.cons.injEq,and_true] at e0
  subst e0
  obtain⟨n1,y1,g1⟩:=rd_field ht h 1 (fsRates[1]!) (by kernel_rfl) (ft:=26) (off:=1) (w:=1) (by kernel_rfl) (by kernel_rfl) (by kernel_rfl)
  replace g1:DataW.trod enc Tryz.prog W 0 sp held n1 26 [a1]=some y1:=g1
  obtain⟨c1,x1,f1,e1,sc1⟩:=rd_slice (e:=53) (rd_Rate W) (by kernel_rfl) (by kernel_rfl) (by decide) g1
  simp only [List.cons.injEq,and_true] at e1
  subst e1
  exact⟨(c0,c1,()),(c0,x1,()),_,rfl,(rStr.mk zc0 (rSl.mk sc1 rNil.mk))⟩
noncomputable def fsLedger:Array Field:=match Tryz.prog.underlying 30 with | some (.struct fs)=>fs | _=>#[]
theorem rd_Ledger (W:World):Rd Tryz.prog W 30 rLedger:=by
 intro H enc sp held fuel cs x h
 have ht:Tryz.prog.underlying 30=some (.struct fsLedger):=by kernel_rfl
 have hl:=rd_len ht h (k:=4) (by kernel_rfl)
 match cs,hl with
 | [a0,a1,a2,a3],_ =>
  obtain⟨n0,y0,g0⟩:=rd_field ht h 0 (fsLedger[0]!) (by kernel_rfl) (ft:=24) (off:=0) (w:=1) (by kernel_rfl) (by kernel_rfl) (by kernel_rfl)
  replace g0:DataW.trod enc Tryz.prog W 0 sp held n0 24 [a0]=some y0:=g0
  obtain⟨⟨c0,cu0⟩,⟨x0,xu0⟩,f0q,e0,hr0⟩:=rd_Book W g0
  replace e0:[a0]=[Value.slice c0.a c0.n c0.c]:=e0
  simp only [List.cons.injEq,and_true] at e0
  subst e0
  obtain⟨f0,fr0,ec0,sc0,hr0⟩:=hr0
  subst ec0
  replace sc0:LR rAcct _ c0 x0 f0:=sc0
  obtain⟨n1,y1,g1⟩:=rd_field ht h 1 (fsLedger[1]!) (by kernel_rfl) (ft:=25) (off:=1) (w:=1) (by kernel_rfl) (by kernel_rfl) (by kernel_rfl)
  replace g1:DataW.trod enc Tryz.prog W 0 sp held n1 25 [a1]=some y1:=g1
  obtain⟨c1,x1,f1,e1,sc1⟩:=rd_slice (e:=126) (rd_Rest W) (by kernel_rfl) (by kernel_rfl) (by decide) g1
  simp only [List.cons.injEq,and_true] at e1
  subst e1
  obtain⟨n2,y2,g2⟩:=rd_field ht h 2 (fsLedger[2]!) (by kernel_rfl) (ft:=28) (off:=2) (w:=2) (by kernel_rfl) (by kernel_rfl) (by kernel_rfl)
  replace g2:DataW.trod enc Tryz.prog W 0 sp held n2 28 [a2,a3]=some y2:=g2
  obtain⟨⟨c2,c3,cu2⟩,⟨x2,x3,xu2⟩,f2q,e2,hr2⟩:=rd_Rates W g2
  replace e2:[a2,a3]=[Value.string c2,Value.slice c3.a c3.n c3.c]:=e2
  simp only [List.cons.injEq,and_true] at e2
  obtain⟨rfl,rfl⟩:=e2
  obtain⟨⟨ec2,zc2⟩,hr2⟩:=hr2
  replace ec2:c2=x2:=ec2
  subst ec2
  replace zc2:c2.size≤9223372036854775807:=zc2
  obtain⟨f3,fr3,ec3,sc3,hr2⟩:=hr2
  subst ec3
  replace sc3:LR rRate _ c3 x3 f3:=sc3
  exact⟨(c0,c1,c2,c3,()),(x0,x1,c2,x3,()),_,rfl,(rSl.mk sc0 (rSl.mk sc1 (rStr.mk zc2 (rSl.mk sc3 rNil.mk))))⟩
end Go.Proofs.YtccnjccabllcaaaGreatDoor
