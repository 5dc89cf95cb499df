/-
  CmdText, in the program and in the reference.
-/
import Derived.Test.YtpnjdpomoijaaaaGreatDoorCmdU
namespace Go.Proofs.YtpnjdpomoijaaaaGreatDoor
open Sx Go.RowKit
set_option maxRecDepth 100000

/-! the text of a field -/
noncomputable def fieldT : DCmd → Int → ByteArray
  | (_, a, b, c, u, mc, mn, mm, mo, nm, w, _, rm, rs, pf, pt, pn, pm, ps, _), f => if f = 0 then a else if f = 1 then b else if f = 2 then c else if f = 3 then u else if f = 4 then moneyT mc mn mm else if f = 5 then dealT nm w else if f = 6 then perT rm rs else if f = 7 then modeT mo else rateT (pf, pt, pn, pm, ps, ())
theorem perT_size (m : List Lim) (sc : Int) : (perT m sc).size ≤ 2201 := by
  unfold perT
  split
  · rename_i h
    exact perP_size h.choose_spec
  · show 0 ≤ _
    omega
theorem mem_fields {op f : Int} (h : (f, ()) ∈ fieldsL op) : ∃ j : Nat, j < 9 ∧ f = (j : Int) := by
  have key : 0 ≤ f ∧ f ≤ 8 := by
    by_cases ho : 1 ≤ op ∧ op ≤ 9
    · have : op = 1 ∨ op = 2 ∨ op = 3 ∨ op = 4 ∨ op = 5 ∨ op = 6 ∨ op = 7 ∨ op = 8 ∨ op = 9 := by omega
      rcases this with rfl | rfl | rfl | rfl | rfl | rfl | rfl | rfl | rfl <;> simp [fieldsL] at h <;> omega
    · have e : fieldsL op = [] := by
        unfold fieldsL
        rw [if_neg (by omega), if_neg (by omega), if_neg (by omega), if_neg (by omega), if_neg (by omega), if_neg (by omega), if_neg (by omega), if_neg (by omega), if_neg (by omega)]
      rw [e] at h
      cases h
  exact ⟨f.toNat, by omega, by omega⟩
theorem fields_len (op : Int) : (fieldsL op).length ≤ 6 := by
  unfold fieldsL
  repeat' split
  all_goals decide
theorem field_ok {x : DCmd} (h : CmdP x) {f : Int} (hf : (f, ()) ∈ fieldsL x.1) : FOk x f := by
  obtain ⟨j, hj, rfl⟩ := mem_fields hf
  exact (h.2 j hj).1 hf
theorem fieldT_size {x : DCmd} {f : Int} (h : FOk x f) : (fieldT x f).size ≤ 2201 := by
  obtain ⟨op, a, b, c, u, mc, mn, mm, mo, nm, w, rn, rm, rs, pf, pt, pn, pm, ps, y⟩ := x
  unfold FOk at h
  unfold fieldT
  simp only at h ⊢
  split
  · rw [if_pos (by assumption)] at h
    have := h.2.1
    omega
  rw [if_neg (by assumption)] at h
  split
  · rw [if_pos (by assumption)] at h
    have := h.2.1
    omega
  rw [if_neg (by assumption)] at h
  split
  · rw [if_pos (by assumption)] at h
    have := h.2.1
    omega
  rw [if_neg (by assumption)] at h
  split
  · rw [if_pos (by assumption)] at h
    have := h.1
    omega
  rw [if_neg (by assumption)] at h
  split
  · rw [if_pos (by assumption)] at h
    have := moneyT_size h.1
    omega
  rw [if_neg (by assumption)] at h
  split
  · rw [if_pos (by assumption)] at h
    have := dealT_size h
    omega
  rw [if_neg (by assumption)] at h
  split
  · exact perT_size _ _
  rw [if_neg (by assumption)] at h
  split
  · rw [if_pos (by assumption)] at h
    have := modeT_size h
    omega
  rw [if_neg (by assumption)] at h
  have := rateT_size h
  omega

/-! the words of a command -/
noncomputable def wordsL (x : DCmd) : List Tx := (opT x.1, ()) :: (fieldsL x.1).map fun g => (fieldT x g.1, ())
noncomputable def cmdT (x : DCmd) : ByteArray := joinT (wordsL x) ⟨⟨[32]⟩⟩
theorem wordsL_len (x : DCmd) : (wordsL x).length = (fieldsL x.1).length + 1 := by simp [wordsL]
theorem wordsL_size {x : DCmd} (h : CmdP x) : ∀ y ∈ wordsL x, y.1.size ≤ 2201 := by
  intro y hy
  rcases List.mem_cons.1 hy with rfl | hy
  · have := opT_size ((fields_mem x.1).1.1 h.1)
    show (opT x.1).size ≤ _
    omega
  · obtain ⟨g, hg, rfl⟩ := List.mem_map.1 hy
    exact fieldT_size (field_ok h hg)
theorem words_fit {x : DCmd} (h : CmdP x) : sumT (wordsL x) + (wordsL x).length * (⟨⟨[32]⟩⟩ : ByteArray).size ≤ 1099511627776 := by
  have h1 := sumT_le _ (wordsL_size h)
  have h2 := wordsL_len x
  have h3 := fields_len x.1
  have e : (⟨⟨[32]⟩⟩ : ByteArray).size = 1 := rfl
  rw [e]
  omega
theorem cI_fieldText {V : Know} (hV : HtI V) : ∀ (c : Scs [.i .i64, .s, .s, .s, .s, .s, .b, .l, .i .i64, .l, .l, .b, .l, .i .i64, .s, .s, .b, .l, .i .i64]) (x : DCmd) (fp : List Nat) (_ : rCmd.R V c x fp) (_ : rCmd.tot x ≤ 1048576) (b : Nat) (t : KTy) (_ : V b = some (Scs.vals [.i .i64, .s, .s, .s, .s, .s, .b, .l, .i .i64, .l, .l, .b, .l, .i .i64, .s, .s, .b, .l, .i .i64] c, t)) (f : Int) (_ : FOk x f),
    CallX Tryz.prog V gI_fieldText [.pointer (some ⟨b, 0, none⟩), .int .i64 f] (TxPost V (fieldT x f)) := by
  rintro ⟨c0, c1, c2, c3, c4, c5, c6, c7, c8, c9, c10, c11, c12, c13, c14, c15, c16, c17, c18, cu⟩ ⟨x0, x1, x2, x3, x4, x5, x6, x7, x8, x9, x10, x11, x12, x13, x14, x15, x16, x17, x18, xu⟩ fp hx htot b t hb f hf
  obtain ⟨ec0, hx⟩ := hx
  replace ec0 : c0 = x0 := ec0
  subst ec0
  obtain ⟨⟨ec1, zc1⟩, hx⟩ := hx
  replace ec1 : c1 = x1 := ec1
  subst ec1
  replace zc1 : c1.size ≤ 9223372036854775807 := zc1
  obtain ⟨⟨ec2, zc2⟩, hx⟩ := hx
  replace ec2 : c2 = x2 := ec2
  subst ec2
  replace zc2 : c2.size ≤ 9223372036854775807 := zc2
  obtain ⟨⟨ec3, zc3⟩, hx⟩ := hx
  replace ec3 : c3 = x3 := ec3
  subst ec3
  replace zc3 : c3.size ≤ 9223372036854775807 := zc3
  obtain ⟨⟨ec4, zc4⟩, hx⟩ := hx
  replace ec4 : c4 = x4 := ec4
  subst ec4
  replace zc4 : c4.size ≤ 9223372036854775807 := zc4
  obtain ⟨⟨ec5, zc5⟩, hx⟩ := hx
  replace ec5 : c5 = x5 := ec5
  subst ec5
  replace zc5 : c5.size ≤ 9223372036854775807 := zc5
  obtain ⟨ec6, hx⟩ := hx
  replace ec6 : c6 = x6 := ec6
  subst ec6
  obtain ⟨f7, fr7, ec7, sc7, hx⟩ := hx
  subst ec7
  replace sc7 : LR rI _ c7 x7 f7 := sc7
  obtain ⟨ec8, hx⟩ := hx
  replace ec8 : c8 = x8 := ec8
  subst ec8
  obtain ⟨f9, fr9, ec9, sc9, hx⟩ := hx
  subst ec9
  replace sc9 : LR rString _ c9 x9 f9 := sc9
  obtain ⟨f10, fr10, ec10, sc10, hx⟩ := hx
  subst ec10
  replace sc10 : LR rI _ c10 x10 f10 := sc10
  obtain ⟨ec11, hx⟩ := hx
  replace ec11 : c11 = x11 := ec11
  subst ec11
  obtain ⟨f12, fr12, ec12, sc12, hx⟩ := hx
  subst ec12
  replace sc12 : LR rI _ c12 x12 f12 := sc12
  obtain ⟨ec13, hx⟩ := hx
  replace ec13 : c13 = x13 := ec13
  subst ec13
  obtain ⟨⟨ec14, zc14⟩, hx⟩ := hx
  replace ec14 : c14 = x14 := ec14
  subst ec14
  replace zc14 : c14.size ≤ 9223372036854775807 := zc14
  obtain ⟨⟨ec15, zc15⟩, hx⟩ := hx
  replace ec15 : c15 = x15 := ec15
  subst ec15
  replace zc15 : c15.size ≤ 9223372036854775807 := zc15
  obtain ⟨ec16, hx⟩ := hx
  replace ec16 : c16 = x16 := ec16
  subst ec16
  obtain ⟨f17, fr17, ec17, sc17, hx⟩ := hx
  subst ec17
  replace sc17 : LR rI _ c17 x17 f17 := sc17
  obtain ⟨ec18, hx⟩ := hx
  replace ec18 : c18 = x18 := ec18
  subst ec18
  replace hx : _ = [] := hx
  subst hx
  replace htot : (c1.size + (c2.size + (c3.size + (c4.size + (c5.size + (x7.length + totE rI x7 + (x9.length + totE rString x9 + (x10.length + totE rI x10 + (x12.length + totE rI x12 + (c14.size + (c15.size + (x17.length + totE rI x17 + 0)))))))))))) ≤ 1048576 := htot
  refine CallX.of_fits Tryz.mix (fI_fieldText _ _) fun _ => ?_
  simp only [tI_fieldText, T.wp]
  refine ⟨fun h0 => ?_, fun h0 => ⟨fun h1 => ?_, fun h1 => ⟨fun h2 => ?_, fun h2 => ⟨fun h3 => ?_, fun h3 => ⟨fun h4 => ?_, fun h4 => ⟨fun h5 => ?_, fun h5 => ⟨fun h6 => ?_, fun h6 => ⟨fun h7 => ?_, fun h7 => ?_⟩⟩⟩⟩⟩⟩⟩⟩
  · obtain rfl : f = 0 := by simpa using h0
    exact ⟨c1, ld_at hb rfl, Know.le.refl _, rfl⟩
  · obtain rfl : f = 1 := by simpa using h1
    exact ⟨c2, ld_at hb rfl, Know.le.refl _, rfl⟩
  · obtain rfl : f = 2 := by simpa using h2
    exact ⟨c3, ld_at hb rfl, Know.le.refl _, rfl⟩
  · obtain rfl : f = 3 := by simpa using h3
    exact ⟨c4, ld_at hb rfl, Know.le.refl _, rfl⟩
  · obtain rfl : f = 4 := by simpa using h4
    replace hf : PayP c5 c6 x7 := hf
    refine ⟨(c5, c6, c7, ()), ld_at hb rfl, (cI_MoneyText hV c5 c6 c7 x7 f7 sc7 (by omega)).mono ?_⟩
    rintro V1 _ ⟨le1, rfl⟩
    rw [okT_pos hf.1]
    exact ⟨nofun, _, rfl, le1, rfl⟩
  · obtain rfl : f = 5 := by simpa using h5
    refine ⟨c9, ld_at hb rfl, c10, ld_at hb rfl, (cI_dealText hV c9 c10 x9 x10 f9 f10 sc9 sc10 hf).mono ?_⟩
    rintro V1 _ ⟨le1, rfl⟩
    exact ⟨fun _ => le1, _, rfl, le1, rfl⟩
  · obtain rfl : f = 6 := by simpa using h6
    refine ⟨(c11, c12, c13, ()), ld_at hb rfl, (cI_Percent hV c11 c12 x12 f12 c13 sc12 hf).mono ?_⟩
    rintro V1 _ ⟨le1, _, rfl⟩
    exact ⟨nofun, _, rfl, le1, rfl⟩
  · obtain rfl : f = 7 := by simpa using h7
    refine ⟨c8, ld_at hb rfl, (cI_RmName V c8 hf).mono ?_⟩
    rintro V1 _ ⟨rfl, rfl⟩
    exact ⟨nofun, _, rfl, Know.le.refl _, rfl⟩
  · simp only [beq_eq_false_iff_ne, ne_eq] at h0 h1 h2 h3 h4 h5 h6 h7
    have eT : fieldT (c0, c1, c2, c3, c4, c5, c6, x7, c8, x9, x10, c11, x12, c13, c14, c15, c16, x17, c18, xu) f = fieldT (c0, c1, c2, c3, c4, c5, c6, x7, c8, x9, x10, c11, x12, c13, c14, c15, c16, x17, c18, xu) 8 := by
      show (if f = 0 then _ else if f = 1 then _ else if f = 2 then _ else if f = 3 then _ else if f = 4 then _ else if f = 5 then _ else if f = 6 then _ else if f = 7 then _ else _) = _
      rw [if_neg h0, if_neg h1, if_neg h2, if_neg h3, if_neg h4, if_neg h5, if_neg h6, if_neg h7]
      rfl
    have eO : FOk (c0, c1, c2, c3, c4, c5, c6, x7, c8, x9, x10, c11, x12, c13, c14, c15, c16, x17, c18, xu) f = FOk (c0, c1, c2, c3, c4, c5, c6, x7, c8, x9, x10, c11, x12, c13, c14, c15, c16, x17, c18, xu) 8 := by
      show (if f = 0 then _ else if f = 1 then _ else if f = 2 then _ else if f = 3 then _ else if f = 4 then _ else if f = 5 then _ else if f = 6 then _ else if f = 7 then _ else _) = _
      rw [if_neg h0, if_neg h1, if_neg h2, if_neg h3, if_neg h4, if_neg h5, if_neg h6, if_neg h7]
      rfl
    rw [eO] at hf
    replace hf : RateOkP (c14, c15, c16, x17, c18, ()) := hf
    rw [eT]
    refine ⟨(c14, c15, c16, c17, c18, ()), ld_at hb rfl, (cI_RateText hV (c14, c15, c16, x17, c18, ()) c17 f17 sc17).mono ?_⟩
    rintro V1 _ ⟨le1, rfl⟩
    rw [okT_pos hf]
    exact ⟨nofun, _, rfl, le1, rfl⟩
theorem cI_CmdText {V : Know} (hV : HtI V) (c : Scs [.i .i64, .s, .s, .s, .s, .s, .b, .l, .i .i64, .l, .l, .b, .l, .i .i64, .s, .s, .b, .l, .i .i64]) (x : DCmd) (fp : List Nat) (hx : rCmd.R V c x fp) (ht : rCmd.tot x ≤ 1048576) : CallX Tryz.prog V gI_CmdText [Sh1.val (.g [.i .i64, .s, .s, .s, .s, .s, .b, .l, .i .i64, .l, .l, .b, .l, .i .i64, .s, .s, .b, .l, .i .i64]) c] (TxPost V (okT (CmdP x) (cmdT x))) := by
  have hc0 : c.1 = x.1 := hx.1
  refine CallX.of_fits Tryz.mix (fI_CmdText _) fun _ => ?_
  simp only [tI_CmdText, T.wp]
  refine (cI_CmdOk hV.c c x fp hx).mono ?_
  rintro V1 r ⟨le1, e, rfl, he⟩
  refine ⟨nofun, e, rfl, fun hf => ⟨le1, ?_⟩, fun htr => ?_⟩
  · rw [okT_neg (bf he hf)]
    rfl
  have hP := bt he htr
  have hop := (fields_mem x.1).1.1 hP.1
  rw [okT_pos hP]
  refine (cI_OpName V1 c.1 (by rw [hc0]; exact hop)).mono ?_
  rintro V2 _ ⟨le2, rfl⟩
  refine ⟨nofun, _, rfl, (cI_fieldsOf V2 c.1).mono ?_⟩
  rintro V3 _ ⟨le3, s3, f3, rfl, L3, _⟩
  rw [hc0] at L3
  have l3 := (le1.trans le2).trans le3
  refine ⟨nofun, s3, rfl, fun b hb => ?_⟩
  have hk := kset_le (x := (Scs.vals [.i .i64, .s, .s, .s, .s, .s, .b, .l, .i .i64, .l, .l, .b, .l, .i .i64, .s, .s, .b, .l, .i .i64] c, (64, (0, 0)))) hb
  have hbb : kset V3 b (Scs.vals [.i .i64, .s, .s, .s, .s, .s, .b, .l, .i .i64, .l, .l, .b, .l, .i .i64, .s, .s, .b, .l, .i .i64] c, (64, (0, 0))) b = some (Scs.vals [.i .i64, .s, .s, .s, .s, .s, .b, .l, .i .i64, .l, .l, .b, .l, .i .i64, .s, .s, .b, .l, .i .i64] c, (64, (0, 0))) := kset_same
  have L4 := L3.le hk
  have l4 := l3.trans hk
  have hn := L3.1
  have h6 := fields_len x.1
  refine ⟨fun y V' => (kset V3 b (Scs.vals [.i .i64, .s, .s, .s, .s, .s, .b, .l, .i .i64, .l, .l, .b, .l, .i .i64, .s, .s, .b, .l, .i .i64] c, (64, (0, 0)))).le V' ∧ ∃ i : Nat, y.2.1 = (i : Int) ∧ i ≤ (fieldsL x.1).length ∧ y.1.1 = 1 + i ∧ y.1.2 = ((wordsL x).take (i + 1)).map cellT,
    fun y => (((fieldsL x.1).length : Int) - (y.2.1 : Int)).toNat, ⟨((1, [.string (opT c.1)]), (0 : Int), ()), rfl, Know.le.refl _, 0, rfl, by omega, rfl, by rw [hc0]; rfl⟩, ?_⟩
  rintro ⟨⟨n1, ys⟩, (i : Int), u⟩ V' ⟨hle, k, hk1, hkl, hn1, hys⟩
  replace hk1 : i = (k : Int) := hk1
  replace hn1 : n1 = 1 + k := hn1
  replace hys : ys = ((wordsL x).take (k + 1)).map cellT := hys
  subst hk1 hn1 hys
  have hle' := l4.trans hle
  refine ⟨fun hlt => ?_, fun hge => ?_⟩
  · have h1 : k < (fieldsL x.1).length := by
      have : (k : Int) < (s3.n : Int) := of_decide_eq_true hlt
      omega
    obtain ⟨b1, o1, a1, l1⟩ := (L4.le hle).int h1
    have hmem : ((fieldsL x.1)[k].1, ()) ∈ fieldsL x.1 := List.getElem_mem h1
    have hok := field_ok hP hmem
    refine ⟨_, a1, (by omega : (0 : Int) ≤ (k : Int)), (by omega : (k : Int) < (s3.n : Int)), (fieldsL x.1)[k].1, l1, (cI_fieldText (HtI.le hV hle') c x fp (rCmd.le hx hle') ht b _ (hle _ _ hbb) _ hok).mono ?_⟩
    rintro V5 _ ⟨le5, rfl⟩
    refine ⟨nofun, _, rfl, rfl, ⟨rfl, (by omega : (1 + k + 1) * 16 ≤ 140737488355328), (by omega : 1 + k + 1 ≤ 9223372036854775807)⟩, _, rfl, ((1 + (k + 1), ((wordsL x).take (k + 1 + 1)).map cellT), ((k + 1 : Nat) : Int), ()), ?_, ⟨hle.trans le5, k + 1, rfl, h1, rfl, rfl⟩, ?_⟩
    · have hw : k + 1 < (wordsL x).length := by rw [wordsL_len]; omega
      have e1 : (wordsL x).take (k + 1 + 1) = (wordsL x).take (k + 1) ++ [(wordsL x)[k + 1]] := List.take_succ_eq_append_getElem hw
      have e2 : (wordsL x)[k + 1] = (fieldT x (fieldsL x.1)[k].1, ()) := by simp [wordsL]
      rw [nxt h1 (by omega), e1, e2, List.map_append]
      rfl
    · show (((fieldsL x.1).length : Int) - ((k + 1 : Nat) : Int)).toNat < (((fieldsL x.1).length : Int) - (k : Int)).toNat
      omega
  · have h1 : k = (fieldsL x.1).length := by
      have : ¬ (k : Int) < (s3.n : Int) := of_decide_eq_false hge
      omega
    intro b' cap spare hb0 hc _
    have hfull : (wordsL x).take (k + 1) = wordsL x := by rw [h1, ← wordsL_len, List.take_length]
    have hlen : (wordsL x).length = 1 + k := by rw [wordsL_len, h1]; omega
    rw [hfull]
    have hsz := wordsL_size hP
    have q := newT (V := V') (b := b') (cap := cap) (o := wordsL x) (spare := spare) (t := 9) hb0 (by rw [hlen]; exact hc) (by omega) (fun y hy => by have := hsz y hy; omega)
    have key := cI_Join _ _ _ _ (⟨⟨[32]⟩⟩ : ByteArray) q.1 (words_fit hP) (by omega)
    rw [hlen] at key
    refine key.mono ?_
    rintro V6 _ ⟨rfl, rfl⟩
    exact ⟨nofun, _, rfl, hle'.trans (kset_le hb0), rfl⟩
theorem op_cases {op : Int} (h : 1 ≤ op ∧ op ≤ 9) (h9 : ¬ op = 9) : op = 1 ∨ op = 2 ∨ op = 3 ∨ op = 4 ∨ op = 5 ∨ op = 6 ∨ op = 7 ∨ op = 8 := by omega
def addB (e : Bool) (t : ByteArray) (l : List Tx) : List Tx := if e = true then l ++ [(t, ())] else l
theorem addB_t {e : Bool} {t : ByteArray} {l : List Tx} (h : e = true) : addB e t l = l ++ [(t, ())] := if_pos h
theorem addB_f {e : Bool} {t : ByteArray} {l : List Tx} (h : e = false) : addB e t l = l := by rw [h]; rfl
theorem addB_len (e : Bool) (t : ByteArray) (l : List Tx) : (addB e t l).length ≤ l.length + 1 := by
  unfold addB
  split
  · simp
  · omega
/-- a list of words in a block of one's own -/
def Wd (V1 : Know) (l : List Tx) (k : Nat) : LShs [.a 9] → Know → Prop := fun y V' => V1.le V' ∧ y.1.1 = l.length ∧ y.1.2 = l.map cellT ∧ l.length ≤ k
theorem Wd.add {V1 V' : Know} {l : List Tx} {k n : Nat} {ys : List Value} {e : Bool} {t : ByteArray} (hle : V1.le V') (hn : n = l.length) (hys : ys = l.map cellT) (hl : l.length ≤ k) (he : e = true) : Wd V1 (addB e t l) (k + 1) ((n + 1, ys ++ [.string t]), ()) V' := by
  refine ⟨hle, ?_, ?_, ?_⟩
  · rw [addB_t he, hn]; simp
  · rw [addB_t he, hys, List.map_append]; rfl
  · have := addB_len e t l
    omega
theorem Wd.keep {V1 V' : Know} {l : List Tx} {k n : Nat} {ys : List Value} {e : Bool} {t : ByteArray} (hle : V1.le V') (hn : n = l.length) (hys : ys = l.map cellT) (hl : l.length ≤ k) (he : e = false) : Wd V1 (addB e t l) (k + 1) ((n, ys), ()) V' := by
  rw [addB_f he]
  exact ⟨hle, hn, hys, by omega⟩
theorem cS_CmdText {V : Know} (hV : HtS V) : ∀ (c : Scs [.i .i64, .s, .s, .s, .s, .s, .b, .l, .i .i64, .l, .l, .b, .l, .i .i64, .s, .s, .b, .l, .i .i64]) (x : DCmd) (fp : List Nat) (_ : rCmd.R V c x fp) (_ : rCmd.tot x ≤ 1048576), CallX Tryz.prog V gS_CmdText [Sh1.val (.g [.i .i64, .s, .s, .s, .s, .s, .b, .l, .i .i64, .l, .l, .b, .l, .i .i64, .s, .s, .b, .l, .i .i64]) c] (TxPost V (okT (CmdP x) (cmdT x))) := by
  intro c x fp hx ht
  have hOk := cS_CmdOk hV c x fp hx ht
  revert c x fp
  rintro ⟨c0, c1, c2, c3, c4, c5, c6, c7, c8, c9, c10, c11, c12, c13, c14, c15, c16, c17, c18, cu⟩ ⟨x0, x1, x2, x3, x4, x5, x6, x7, x8, x9, x10, x11, x12, x13, x14, x15, x16, x17, x18, xu⟩ fp hx htot hOk
  obtain ⟨ec0, hx⟩ := hx
  replace ec0 : c0 = x0 := ec0
  subst ec0
  obtain ⟨⟨ec1, zc1⟩, hx⟩ := hx
  replace ec1 : c1 = x1 := ec1
  subst ec1
  replace zc1 : c1.size ≤ 9223372036854775807 := zc1
  obtain ⟨⟨ec2, zc2⟩, hx⟩ := hx
  replace ec2 : c2 = x2 := ec2
  subst ec2
  replace zc2 : c2.size ≤ 9223372036854775807 := zc2
  obtain ⟨⟨ec3, zc3⟩, hx⟩ := hx
  replace ec3 : c3 = x3 := ec3
  subst ec3
  replace zc3 : c3.size ≤ 9223372036854775807 := zc3
  obtain ⟨⟨ec4, zc4⟩, hx⟩ := hx
  replace ec4 : c4 = x4 := ec4
  subst ec4
  replace zc4 : c4.size ≤ 9223372036854775807 := zc4
  obtain ⟨⟨ec5, zc5⟩, hx⟩ := hx
  replace ec5 : c5 = x5 := ec5
  subst ec5
  replace zc5 : c5.size ≤ 9223372036854775807 := zc5
  obtain ⟨ec6, hx⟩ := hx
  replace ec6 : c6 = x6 := ec6
  subst ec6
  obtain ⟨f7, fr7, ec7, sc7, hx⟩ := hx
  subst ec7
  replace sc7 : LR rI _ c7 x7 f7 := sc7
  obtain ⟨ec8, hx⟩ := hx
  replace ec8 : c8 = x8 := ec8
  subst ec8
  obtain ⟨f9, fr9, ec9, sc9, hx⟩ := hx
  subst ec9
  replace sc9 : LR rString _ c9 x9 f9 := sc9
  obtain ⟨f10, fr10, ec10, sc10, hx⟩ := hx
  subst ec10
  replace sc10 : LR rI _ c10 x10 f10 := sc10
  obtain ⟨ec11, hx⟩ := hx
  replace ec11 : c11 = x11 := ec11
  subst ec11
  obtain ⟨f12, fr12, ec12, sc12, hx⟩ := hx
  subst ec12
  replace sc12 : LR rI _ c12 x12 f12 := sc12
  obtain ⟨ec13, hx⟩ := hx
  replace ec13 : c13 = x13 := ec13
  subst ec13
  obtain ⟨⟨ec14, zc14⟩, hx⟩ := hx
  replace ec14 : c14 = x14 := ec14
  subst ec14
  replace zc14 : c14.size ≤ 9223372036854775807 := zc14
  obtain ⟨⟨ec15, zc15⟩, hx⟩ := hx
  replace ec15 : c15 = x15 := ec15
  subst ec15
  replace zc15 : c15.size ≤ 9223372036854775807 := zc15
  obtain ⟨ec16, hx⟩ := hx
  replace ec16 : c16 = x16 := ec16
  subst ec16
  obtain ⟨f17, fr17, ec17, sc17, hx⟩ := hx
  subst ec17
  replace sc17 : LR rI _ c17 x17 f17 := sc17
  obtain ⟨ec18, hx⟩ := hx
  replace ec18 : c18 = x18 := ec18
  subst ec18
  replace hx : _ = [] := hx
  subst hx
  replace htot : (c1.size + (c2.size + (c3.size + (c4.size + (c5.size + (x7.length + totE rI x7 + (x9.length + totE rString x9 + (x10.length + totE rI x10 + (x12.length + totE rI x12 + (c14.size + (c15.size + (x17.length + totE rI x17 + 0)))))))))))) ≤ 1048576 := htot
  refine CallX.of_fits Tryz.mix (fS_CmdText _) fun _ => ?_
  simp only [tS_CmdText, T.wp]
  refine hOk.mono ?_
  rintro V1 r ⟨le1, e, rfl, he⟩
  have hi := cmd_iff (c0, c1, c2, c3, c4, c5, c6, x7, c8, x9, x10, c11, x12, c13, c14, c15, c16, x17, c18, xu)
  refine ⟨nofun, e, rfl, fun hf => ⟨le1, ?_⟩, fun htr => ?_⟩
  · rw [okT_neg fun k => bf he hf (hi.2 k)]
    rfl
  obtain ⟨s0, s1, s2, s3, s4, s5, s6, s7⟩ := bt he htr
  have hP := hi.1 (bt he htr)
  have hop : 1 ≤ c0 ∧ c0 ≤ 9 := s0.1
  rw [okT_pos hP]
  refine (cS_l22Has V1 c0).mono ?_
  rintro V2 _ ⟨rfl, rfl⟩
  refine ⟨nofun, (decide (c0 = 4 ∨ c0 = 5 ∨ c0 = 7), decide (c0 = 7), decide (2 ≤ c0 ∧ c0 ≤ 7), decide (c0 = 5 ∨ c0 = 7 ∨ c0 = 8), ()), rfl, (cS_OpName V2 c0 hop).mono ?_⟩
  rintro V3 _ ⟨rfl, rfl⟩
  have ho4 := opT_size hop
  refine ⟨nofun, _, rfl, fun h9 => ?_, fun h9 => ?_⟩
  · obtain rfl : c0 = 9 := beq_iff_eq.1 h9
    refine (cS_OpName V3 9 hop).mono ?_
    rintro V4 _ ⟨rfl, rfl⟩
    refine ⟨fun _ => Know.le.refl _, _, rfl, ?_, (cS_RateText (V := V4) trivial (c14, c15, c16, x17, c18, ()) c17 f17 (sc17.le le1)).mono ?_⟩
    · show _ + 1 ≤ _
      omega
    rintro V5 _ ⟨le5, rfl⟩
    have hR : RateOkP (c14, c15, c16, x17, c18, ()) := s7.1 rfl
    have hRs := rateT_size hR
    rw [okT_pos hR]
    refine ⟨fun _ => le5, _, rfl, ?_, le1.trans le5, ?_⟩
    · rw [ByteArray.size_append]
      show _ + 1 + _ ≤ _
      omega
    · have e : cmdT (9, c1, c2, c3, c4, c5, c6, x7, c8, x9, x10, c11, x12, c13, c14, c15, c16, x17, c18, xu) = joinT ([(opT 9, ())] ++ [(rateT (c14, c15, c16, x17, c18, ()), ())]) ⟨⟨[32]⟩⟩ := rfl
      rw [e, joinT_snoc (by simp), joinT_one]
      rfl
  have q9 : ¬ c0 = 9 := bf' beq_iff_eq h9
  have dM : decide (2 ≤ c0 ∧ c0 ≤ 7) = true ↔ MP c0 := dcb
  have dO : decide (c0 = 5 ∨ c0 = 7 ∨ c0 = 8) = true ↔ OP c0 := dcb
  have d7 : decide (c0 = 7) = true ↔ c0 = 7 := dcb
  refine ⟨rfl, ⟨rfl, by decide, by decide⟩, ?_⟩
  refine ⟨Wd V3 (addB (decide (c0 = 4 ∨ c0 = 5 ∨ c0 = 7)) c2 [(opT c0, ()), (c1, ())]) 3, ⟨fun hb => ⟨rfl, ⟨rfl, by decide, by decide⟩, _, rfl, ((2 + 1, [.string (opT c0), .string c1] ++ [.string c2]), ()), rfl, Wd.add (k := 2) (Know.le.refl _) rfl rfl (by simp) hb⟩, fun hb => ⟨_, rfl, ((2, [.string (opT c0), .string c1]), ()), rfl, Wd.keep (k := 2) (Know.le.refl _) rfl rfl (by simp) hb⟩⟩, ?_⟩
  rintro ⟨⟨n1, y1⟩, u1⟩ W1 ⟨le_1, hn1, hy1, hl1⟩
  replace hn1 : n1 = _ := hn1
  replace hy1 : y1 = _ := hy1
  refine ⟨Wd V3 (addB (decide (c0 = 7)) (c3) _) 4, ⟨fun hb => ?_, fun hb => ⟨_, rfl, ((n1, y1), ()), rfl, Wd.keep (k := 3) le_1 hn1 hy1 hl1 hb⟩⟩, ?_⟩
  · exact ⟨rfl, ⟨rfl, (by omega : (n1 + 1) * 16 ≤ 140737488355328), (by omega : n1 + 1 ≤ 9223372036854775807)⟩, _, rfl, ((n1 + 1, y1 ++ [_]), ()), rfl, Wd.add (k := 3) le_1 hn1 hy1 hl1 hb⟩
  rintro ⟨⟨n2, y2⟩, u2⟩ W2 ⟨le_2, hn2, hy2, hl2⟩
  replace hn2 : n2 = _ := hn2
  replace hy2 : y2 = _ := hy2
  refine ⟨Wd V3 (addB (c0 == 1) (c4) _) 5, ⟨fun hb => ?_, fun hb => ⟨_, rfl, ((n2, y2), ()), rfl, Wd.keep (k := 4) le_2 hn2 hy2 hl2 hb⟩⟩, ?_⟩
  · exact ⟨rfl, ⟨rfl, (by omega : (n2 + 1) * 16 ≤ 140737488355328), (by omega : n2 + 1 ≤ 9223372036854775807)⟩, _, rfl, ((n2 + 1, y2 ++ [_]), ()), rfl, Wd.add (k := 4) le_2 hn2 hy2 hl2 hb⟩
  rintro ⟨⟨n3, y3⟩, u3⟩ W3 ⟨le_3, hn3, hy3, hl3⟩
  replace hn3 : n3 = _ := hn3
  replace hy3 : y3 = _ := hy3
  refine ⟨Wd V3 (addB (decide (2 ≤ c0 ∧ c0 ≤ 7)) (moneyT c5 c6 x7) _) 6, ⟨fun hb => ?_, fun hb => ⟨_, rfl, ((n3, y3), ()), rfl, Wd.keep (k := 5) le_3 hn3 hy3 hl3 hb⟩⟩, ?_⟩
  · refine (cS_MoneyText (V := W3) trivial c5 c6 c7 x7 f7 (sc7.le (le1.trans le_3)) (by omega)).mono ?_
    rintro V5 _ ⟨le5, rfl⟩
    rw [okT_pos (s3.1 (dM.1 hb)).1]
    exact ⟨nofun, _, rfl, rfl, ⟨rfl, (by omega : (n3 + 1) * 16 ≤ 140737488355328), (by omega : n3 + 1 ≤ 9223372036854775807)⟩, _, rfl, ((n3 + 1, y3 ++ [_]), ()), rfl, Wd.add (k := 5) (le_3.trans le5) hn3 hy3 hl3 hb⟩
  rintro ⟨⟨n4, y4⟩, u4⟩ W4 ⟨le_4, hn4, hy4, hl4⟩
  replace hn4 : n4 = _ := hn4
  replace hy4 : y4 = _ := hy4
  refine ⟨Wd V3 (addB (c0 == 6) (dealT x9 x10) _) 7, ⟨fun hb => ?_, fun hb => ⟨_, rfl, ((n4, y4), ()), rfl, Wd.keep (k := 6) le_4 hn4 hy4 hl4 hb⟩⟩, ?_⟩
  · refine (cS_l22Deal (V := W4) c9 c10 x9 x10 f9 f10 (sc9.le (le1.trans le_4)) (sc10.le (le1.trans le_4)) (s5.1 (beq_iff_eq.1 hb))).mono ?_
    rintro V5 _ ⟨le5, rfl⟩
    exact ⟨nofun, _, rfl, rfl, ⟨rfl, (by omega : (n4 + 1) * 16 ≤ 140737488355328), (by omega : n4 + 1 ≤ 9223372036854775807)⟩, _, rfl, ((n4 + 1, y4 ++ [_]), ()), rfl, Wd.add (k := 6) (le_4.trans le5) hn4 hy4 hl4 hb⟩
  rintro ⟨⟨n5, y5⟩, u5⟩ W5 ⟨le_5, hn5, hy5, hl5⟩
  replace hn5 : n5 = _ := hn5
  replace hy5 : y5 = _ := hy5
  refine ⟨Wd V3 (addB (decide (c0 = 7)) (perT x12 c13) _) 8, ⟨fun hb => ?_, fun hb => ⟨_, rfl, ((n5, y5), ()), rfl, Wd.keep (k := 7) le_5 hn5 hy5 hl5 hb⟩⟩, ?_⟩
  · refine (cS_Percent (V := W5) c11 c12 x12 f12 c13 (sc12.le (le1.trans le_5)) (s6.1 (d7.1 hb))).mono ?_
    rintro V5 _ ⟨le5, _, rfl⟩
    exact ⟨nofun, _, rfl, rfl, ⟨rfl, (by omega : (n5 + 1) * 16 ≤ 140737488355328), (by omega : n5 + 1 ≤ 9223372036854775807)⟩, _, rfl, ((n5 + 1, y5 ++ [_]), ()), rfl, Wd.add (k := 7) (le_5.trans le5) hn5 hy5 hl5 hb⟩
  rintro ⟨⟨n6, y6⟩, u6⟩ W6 ⟨le_6, hn6, hy6, hl6⟩
  replace hn6 : n6 = _ := hn6
  replace hy6 : y6 = _ := hy6
  refine ⟨Wd V3 (addB (decide (c0 = 5 ∨ c0 = 7 ∨ c0 = 8)) (modeT c8) _) 9, ⟨fun hb => ?_, fun hb => ⟨_, rfl, ((n6, y6), ()), rfl, Wd.keep (k := 8) le_6 hn6 hy6 hl6 hb⟩⟩, ?_⟩
  · refine (cS_RmName W6 c8 (s4.1 (dO.1 hb))).mono ?_
    rintro V5 _ ⟨rfl, rfl⟩
    exact ⟨nofun, _, rfl, rfl, ⟨rfl, (by omega : (n6 + 1) * 16 ≤ 140737488355328), (by omega : n6 + 1 ≤ 9223372036854775807)⟩, _, rfl, ((n6 + 1, y6 ++ [_]), ()), rfl, Wd.add (k := 8) le_6 hn6 hy6 hl6 hb⟩
  rintro ⟨⟨n7, y7⟩, u7⟩ W7 ⟨le_7, hn7, hy7, hl7⟩
  replace hn7 : n7 = _ := hn7
  replace hy7 : y7 = _ := hy7
  have hw : addB (decide (c0 = 5 ∨ c0 = 7 ∨ c0 = 8)) (modeT c8) (addB (decide (c0 = 7)) (perT x12 c13) (addB (c0 == 6) (dealT x9 x10) (addB (decide (2 ≤ c0 ∧ c0 ≤ 7)) (moneyT c5 c6 x7) (addB (c0 == 1) c4 (addB (decide (c0 = 7)) c3 (addB (decide (c0 = 4 ∨ c0 = 5 ∨ c0 = 7)) c2 [(opT c0, ()), (c1, ())])))))) = wordsL (c0, c1, c2, c3, c4, c5, c6, x7, c8, x9, x10, c11, x12, c13, c14, c15, c16, x17, c18, xu) := by
    have := op_cases (op := c0) hop q9
    rcases this with rfl | rfl | rfl | rfl | rfl | rfl | rfl | rfl <;> rfl
  rw [hw] at hn7 hy7 hl7
  intro b cap spare hb0 hc _
  have hsz := wordsL_size hP
  subst hn7 hy7
  have q := newT (V := W7) (b := b) (cap := cap) (o := wordsL (c0, c1, c2, c3, c4, c5, c6, x7, c8, x9, x10, c11, x12, c13, c14, c15, c16, x17, c18, xu)) (spare := spare) (t := 9) hb0 hc (Nat.le_trans hl7 (by decide)) (fun y hy => Nat.le_trans (hsz y hy) (by decide))
  refine (cS_Join _ _ _ _ (⟨⟨[32]⟩⟩ : ByteArray) q.1 (words_fit hP)).mono ?_
  rintro V6 _ ⟨rfl, rfl⟩
  exact ⟨nofun, _, rfl, (le1.trans le_7).trans (kset_le hb0), rfl⟩
end Go.Proofs.YtpnjdpomoijaaaaGreatDoor
