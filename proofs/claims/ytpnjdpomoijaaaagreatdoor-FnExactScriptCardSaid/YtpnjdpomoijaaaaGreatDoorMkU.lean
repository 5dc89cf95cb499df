/-
  The laws' marks on lists of texts. A ledger that a caller owns may be marked.
-/
import Derived.Test.YtpnjdpomoijaaaaGreatDoorMkB
import Derived.Test.YtpnjdpomoijaaaaGreatDoorStr
namespace Go.Proofs.YtpnjdpomoijaaaaGreatDoor
open Sx
set_option maxRecDepth 100000
abbrev mT : Mk (ByteArray × Unit) := mkStr (mkNil)
theorem cL_markStringS (V : Know) (s : SlV) (l : List (ByteArray × Unit)) (f : List Nat) (k : Int) (h : LR rString V s l f) (hnd : f.Nodup) (hw : Wr V f) (hk0 : 0 ≤ k) (hk1 : k + cntE mT l ≤ 4611686018427387904) :
    CallX Tryz.prog V gL_markStringS [Sc.val .l s, .int .i64 k] (fun V' r => LeBut f V V' ∧ Wr V' f ∧ r = .int .i64 (k + cntE mT l) ∧ ∃ l', LR rString V' s l' f ∧ okE mT k l' ∧ cntE mT l' = cntE mT l) := by
  refine CallX.of_fits Tryz.mix (fL_markStringS _ _) fun _ => ?_
  simp only [tL_markStringS]
  refine mark_lp rString mT h hnd hw hk0 hk1 ?_ fun V1 l' h1 h2 h3 h4 h5 => ⟨h1, h2, rfl, l', h3, h4, h5⟩
  rintro N V1 j k b o A R tt ⟨c0, cu⟩ ⟨x0, xu⟩ w a1 hA hj h63 hk hkc hv hR hnd hw hnext
  replace hA : A.length = o + j * 1 := hA
  obtain ⟨⟨ec0, zc0⟩, hR⟩ := hR
  replace ec0 : c0 = x0 := ec0
  subst ec0
  replace zc0 : c0.size ≤ 9223372036854775807 := zc0
  replace hR : _ = [] := hR
  subst hR
  replace hkc : k + (((1 + 0) : Nat) : Int) ≤ 4611686018427387904 := hkc
  replace hv : V1 b = some (A ++ ([.string c0] ++ R), (tt, ((0, 0) : Nat × Nat))) := hv
  have hB : LeBut (b :: ([])) V1 V1 := LeBut.refl
  refine (cL_markText V1 k (by omega)).mono ?_
  rintro V2 _ ⟨hle2, rfl, zc0⟩
  refine ⟨nofun, _, rfl, ?_⟩
  replace hv := hle2 _ _ hv
  replace hB := hB.trans (LeBut.of_le hle2)
  refine wp_el a1 (Int.natCast_nonneg j) (by omega : (j : Int) < (s.n : Int)) ?_
  refine wp_st1 (v := (.string (mtext k))) hv (by simp only [addr_add_eq, Int.toNat_natCast]; exact addr_at (by first | omega | (simp only [List.length_append, List.length_cons, List.length_nil]; omega))) rfl ?_
  clear hv
  intro V3 hv hk3
  replace hB : LeBut (b :: ([])) V1 V3 := fun y z hy hz => by rw [hk3 y fun e => hy (by simp [e])]; exact hB y z hy hz
  have q1_1 : IntKind.i64.wrap (k + 1) = k + 1 := wrap_i64 (by omega)
  refine ⟨_, rfl, ?_⟩
  have ecnt : mT.cnt (c0, ()) = (1 + 0) := rfl
  have eend : IntKind.i64.wrap (k + 1) = k + ((mT.cnt (c0, ()) : Nat) : Int) := by
    rw [ecnt]
    rw [q1_1]
    omega
  have hrow : rString.R V3 (mtext k, ()) (mtext k, ()) ([]) := (rStr.mk zc0 rNil.mk)
  have hN := hnext V3 (mtext k, ()) (mtext k, ()) (by show V3 b = some (A ++ ([.string (mtext k)] ++ R), (tt, ((0, 0) : Nat × Nat))); rw [hv]; simp) hrow ?_ hB ⟨rfl, trivial⟩ (by show (1 + 0) = (1 + 0); omega)
  · show N [.v (.int .i64 (IntKind.i64.wrap (k + 1))), .v (.int .i64 (IntKind.i64.wrap ((j : Int) + 1)))] V3
    rw [eend, nxt hj h63]
    exact hN
  · intro y hy; cases hy
theorem cntE_txt : ∀ l : List (ByteArray × Unit), cntE mT l = l.length
  | [] => rfl
  | x :: l => by
    have e : mT.cnt x = 1 := rfl
    simp only [cntE, cntE_txt l, List.length_cons, e]; omega
theorem okE_txt : ∀ (k : Int) (l : List (ByteArray × Unit)), okE mT k l → ∀ j (hj : j < l.length), l[j].1 = mtext (k + j)
  | k, [], _, j, hj => by simp at hj
  | k, x :: l, h, j, hj => by
    match j with
    | 0 =>
      have h1 : x.1 = mtext k := h.1.1
      show x.1 = mtext (k + ((0 : Nat) : Int))
      rw [h1]
      congr 1
      omega
    | j + 1 =>
      have hj' : j < l.length := by simpa using hj
      have h1 := okE_txt (k + 1) l h.2 j hj'
      show (l[j]'hj').1 = _
      rw [h1]
      congr 1
      omega
theorem cL_heldStringS (V : Know) (s : SlV) (l : List (ByteArray × Unit)) (f : List Nat) (k : Int) (h : LR rString V s l f) (hk0 : 0 ≤ k) (hk1 : k + cntE mT l ≤ 4611686018427387904) (hm : okE mT k l) :
    CallX Tryz.prog V gL_heldStringS [Sc.val .l s, .int .i64 k] (fun V' r => V.le V' ∧ r = .int .i64 (k + cntE mT l)) := by
  rw [cntE_txt] at hk1 ⊢
  refine CallX.of_fits Tryz.mix (fL_heldStringS _ _) fun _ => ?_
  simp only [tL_heldStringS, T.wp]
  have hn := h.1
  refine ⟨fun y V' => V.le V' ∧ ∃ i : Nat, y.2.1 = (i : Int) ∧ i ≤ l.length ∧ y.1 = k + (i : Int), fun y => ((l.length : Int) - (y.2.1 : Int)).toNat, ⟨(k, (0 : Int), ()), rfl, Know.le.refl _, 0, rfl, by omega, by simp⟩, ?_⟩
  rintro ⟨(q : Int), (i : Int), u⟩ V' ⟨hle, j, hj, hjl, hq⟩
  replace hj : i = (j : Int) := hj
  replace hq : q = k + (j : Int) := hq
  subst hj hq
  refine ⟨fun hlt => ?_, fun hge => ?_⟩
  · have hi : j < l.length := by
      have : (j : Int) < (s.n : Int) := of_decide_eq_true hlt
      omega
    obtain ⟨⟨b, o, a1, l1⟩, _⟩ := (h.le hle).txt hi
    have e := okE_txt k l hm j hi
    rw [e] at l1
    refine ⟨_, a1, (by omega : (0 : Int) ≤ (j : Int)), (by omega : (j : Int) < (s.n : Int)), mtext (k + j), l1, (cL_markText V' (k + (j : Int)) (by omega)).mono ?_⟩
    rintro V2 r ⟨le2, rfl, _⟩
    refine ⟨fun _ => le2, _, rfl, fun hne => by simp at hne, fun _ => ⟨_, rfl, (k + ((j + 1 : Nat) : Int), ((j + 1 : Nat) : Int), ()), ?_, ⟨hle.trans le2, j + 1, rfl, hi, rfl⟩, ?_⟩⟩
    · have e1 : IntKind.i64.wrap (k + (j : Int) + 1) = k + ((j + 1 : Nat) : Int) := by rw [wrap_i64 (by omega)]; omega
      rw [e1, nxt hi (by omega)]; rfl
    · show ((l.length : Int) - ((j + 1 : Nat) : Int)).toNat < ((l.length : Int) - (j : Int)).toNat
      omega
  · have hi : j = l.length := by
      have : ¬ (j : Int) < (s.n : Int) := of_decide_eq_false hge
      omega
    subst hi
    exact ⟨hle, rfl⟩

/-! how much is marked -/
theorem cntE_le {sh : List Sc} {α : Type} {r : Rp sh α} {m : Mk α} {K : Nat} (hK : ∀ x, m.cnt x ≤ K * (1 + r.tot x)) : ∀ l, cntE m l ≤ K * (l.length + totE r l)
  | [] => by simp [cntE]
  | x :: l => by
    have ih := cntE_le hK l
    have h1 := hK x
    simp only [cntE, totE, List.length_cons]
    have e : K * (l.length + 1 + (r.tot x + totE r l)) = K * (1 + r.tot x) + K * (l.length + totE r l) := by rw [← Nat.mul_add]; congr 1; omega
    omega
theorem cnt_acct (x : DAcct) : mAcct.cnt x ≤ 4 * (1 + rAcct.tot x) := by
  have e : mAcct.cnt x = 1 + (1 + (1 + (cntE mI x.2.2.2.1 + 0))) := rfl
  have e2 : rAcct.tot x = x.1.size + (x.2.1.size + (x.2.2.2.1.length + totE rI x.2.2.2.1 + 0)) := rfl
  rw [e, e2, cntE_int]
  omega
theorem cnt_rest (x : DRest) : mRest.cnt x ≤ 4 * (1 + rRest.tot x) := by
  have e : mRest.cnt x = 1 + (1 + (cntE mI x.2.2.1 + (cntE mI x.2.2.2.1 + 0))) := rfl
  have e2 : rRest.tot x = x.1.size + (x.2.2.1.length + totE rI x.2.2.1 + (x.2.2.2.1.length + totE rI x.2.2.2.1 + 0)) := rfl
  rw [e, e2, cntE_int, cntE_int]
  omega
theorem cnt_rate (x : DRate) : mRate.cnt x ≤ 4 * (1 + rRate.tot x) := by
  have e : mRate.cnt x = 1 + (1 + (1 + (cntE mI x.2.2.2.1 + (1 + 0)))) := rfl
  have e2 : rRate.tot x = x.1.size + (x.2.1.size + (x.2.2.2.1.length + totE rI x.2.2.2.1 + 0)) := rfl
  rw [e, e2, cntE_int]
  omega
/-- a ledger that a caller owns may be marked -/
theorem mark_ledger (V0 V : Know) (c : Scs [.l, .l, .s, .l]) (x : DLedger) (f : List Nat) (h : rLedger.R V c x f) (ho : Own V0 V f) (ht : rLedger.tot x ≤ 1048576) :
    CallX Tryz.prog V gL_markLedger [Sh1.val (.g [.l, .l, .s, .l]) c, .int .i64 1] (fun V' r => LeBut f V V' ∧ ∃ k : Int, r = .int .i64 k ∧ 0 ≤ k) := by
  obtain ⟨c0, c1, c2, c3, cu⟩ := c
  obtain ⟨x0, x1, x2, x3, xu⟩ := x
  obtain ⟨f0, g0, rfl, h0, h⟩ := h
  obtain ⟨f1, g1, rfl, h1, h⟩ := h
  obtain ⟨_, h⟩ := h
  obtain ⟨f3, g3, rfl, h3, h⟩ := h
  replace h : g3 = [] := h
  subst h
  replace h0 : LR rAcct V c0 x0 f0 := h0
  replace h1 : LR rRest V c1 x1 f1 := h1
  replace h3 : LR rRate V c3 x3 f3 := h3
  have e2 : rLedger.tot (x0, x1, x2, x3, xu) = x0.length + totE rAcct x0 + (x1.length + totE rRest x1 + (x2.size + (x3.length + totE rRate x3 + 0))) := rfl
  have b0 := cntE_le cnt_acct x0
  have b1 := cntE_le cnt_rest x1
  have b3 := cntE_le cnt_rate x3
  obtain ⟨n, _, hw⟩ := ho
  have n0 := List.nodup_append.1 n
  have n1 := List.nodup_append.1 n0.2.1
  have n3 := List.nodup_append.1 n1.2.1
  refine (cL_markLedger V c0 c1 c2 c3 x0 x1 x3 f0 f1 f3 1 h0 h1 h3 n0.1 (fun y hy => hw y (by simp [hy])) n1.1 (fun y hy => hw y (by simp [hy])) n3.1 (fun y hy => hw y (by simp [hy]))
    (fun y hy hm => n0.2.2 y hy y (by simp [hm]) rfl) (fun y hy hm => n0.2.2 y hy y (by simp [hm]) rfl) (fun y hy hm => n1.2.2 y hy y (by simp [hm]) rfl) (by omega) (by omega)).mono ?_
  rintro V' r ⟨hb, rfl, _⟩
  exact ⟨hb, _, rfl, by omega⟩
end Go.Proofs.YtpnjdpomoijaaaaGreatDoor
