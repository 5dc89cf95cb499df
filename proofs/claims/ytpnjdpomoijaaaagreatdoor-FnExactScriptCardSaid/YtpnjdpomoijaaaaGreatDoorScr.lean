/-
  The lines of a ledger's script, as data. Script, in the program and in the reference. The law of Script: both sides answer the same lines, and what the caller writes into one answer is found again.
-/
import Derived.Test.YtpnjdpomoijaaaaGreatDoorCmdV
import Derived.Test.YtpnjdpomoijaaaaGreatDoorLedB

import Derived.Test.YtpnjdpomoijaaaaGreatDoorMkU
namespace Go.Proofs.YtpnjdpomoijaaaaGreatDoor
open Sx Go.RowKit
set_option maxRecDepth 100000

theorem cmd_mk {V : Know} (c0 : Int) (c1 : ByteArray) (c2 : ByteArray) (c3 : ByteArray) (c4 : ByteArray) (c5 : ByteArray) (c6 : Bool) (c7 : SlV) (c8 : Int) (c9 : SlV) (c10 : SlV) (c11 : Bool) (c12 : SlV) (c13 : Int) (c14 : ByteArray) (c15 : ByteArray) (c16 : Bool) (c17 : SlV) (c18 : Int) (x7 : List Lim) (f7 : List Nat) (sc7 : LR rI V c7 x7 f7) (x9 : List Tx) (f9 : List Nat) (sc9 : LR rString V c9 x9 f9) (x10 : List Lim) (f10 : List Nat) (sc10 : LR rI V c10 x10 f10) (x12 : List Lim) (f12 : List Nat) (sc12 : LR rI V c12 x12 f12) (x17 : List Lim) (f17 : List Nat) (sc17 : LR rI V c17 x17 f17) (zc1 : c1.size ≤ 9223372036854775807) (zc2 : c2.size ≤ 9223372036854775807) (zc3 : c3.size ≤ 9223372036854775807) (zc4 : c4.size ≤ 9223372036854775807) (zc5 : c5.size ≤ 9223372036854775807) (zc14 : c14.size ≤ 9223372036854775807) (zc15 : c15.size ≤ 9223372036854775807) :
    rCmd.R V (c0, c1, c2, c3, c4, c5, c6, c7, c8, c9, c10, c11, c12, c13, c14, c15, c16, c17, c18, ()) (c0, c1, c2, c3, c4, c5, c6, x7, c8, x9, x10, c11, x12, c13, c14, c15, c16, x17, c18, ()) (f7 ++ (f9 ++ (f10 ++ (f12 ++ (f17 ++ []))))) := (rInt.mk (rStr.mk zc1 (rStr.mk zc2 (rStr.mk zc3 (rStr.mk zc4 (rStr.mk zc5 (rBool.mk (rSl.mk sc7 (rInt.mk (rSl.mk sc9 (rSl.mk sc10 (rBool.mk (rSl.mk sc12 (rInt.mk (rStr.mk zc14 (rStr.mk zc15 (rBool.mk (rSl.mk sc17 (rInt.mk rNil.mk)))))))))))))))))))
theorem lr_nilT {V : Know} : LR rString V ⟨none, 0, 0⟩ [] [] := ⟨rfl, Nat.le_refl _, by simp, .inl ⟨rfl, fun _ => rfl, rfl⟩⟩
abbrev nilS : SlV := ⟨none, 0, 0⟩
/-- the three kinds of commands of a script -/
def cmdRate (r : DRate) : DCmd := (9, noT, noT, noT, noT, noT, false, [], 0, [], [], false, [], 0, r.1, r.2.1, r.2.2.1, r.2.2.2.1, r.2.2.2.2.1, ())
def cmdOpen (name cur : ByteArray) : DCmd := (1, name, noT, noT, cur, noT, false, [], 0, [], [], false, [], 0, noT, noT, false, [], 0, ())
def cmdPay (op : Int) (name cur : ByteArray) (neg : Bool) (l : List Lim) : DCmd := (op, name, noT, noT, noT, cur, neg, l, 0, [], [], false, [], 0, noT, noT, false, [], 0, ())
noncomputable def txtC (x : DCmd) : ByteArray := okT (CmdP x) (cmdT x)
theorem txtC_size (x : DCmd) : (txtC x).size ≤ 20000 := okT_size fun h => by
  have h1 := joinT_size (wordsL x) ⟨⟨[32]⟩⟩
  have h2 := sumT_le _ (wordsL_size h)
  have h3 := wordsL_len x
  have h4 := fields_len x.1
  have e : (⟨⟨[32]⟩⟩ : ByteArray).size = 1 := rfl
  rw [e] at h1
  unfold cmdT
  omega
noncomputable def scrR (r : DRate) : Tx := (txtC (cmdRate r), ())
noncomputable def scrA (a : DAcct) : List Tx := (txtC (cmdOpen a.1 a.2.1), ()) :: (if sgn (sval a.2.2.1 a.2.2.2.1) = 1 then [(txtC (cmdPay 2 a.1 a.2.1 a.2.2.1 a.2.2.2.1), ())] else if sgn (sval a.2.2.1 a.2.2.2.1) = -1 then [(txtC (cmdPay 3 a.1 a.2.1 (!a.2.2.1 && decide (0 < a.2.2.2.1.length)) a.2.2.2.1), ())] else [])
noncomputable def scrL (x : DLedger) : List Tx := x.2.2.2.1.map scrR ++ x.1.flatMap scrA
noncomputable def scrT (x : DLedger) : List Tx := by classical exact if LedgerOkP x then scrL x else []
theorem scrT_pos {x : DLedger} (h : LedgerOkP x) : scrT x = scrL x := by unfold scrT; rw [if_pos h]
theorem scrT_neg {x : DLedger} (h : ¬ LedgerOkP x) : scrT x = [] := by unfold scrT; rw [if_neg h]
theorem scrA_len (a : DAcct) : (scrA a).length ≤ 2 := by
  unfold scrA
  split
  · simp
  · split <;> simp
theorem scrA_size (a : DAcct) : ∀ y ∈ scrA a, y.1.size ≤ 20000 := by
  intro y hy
  unfold scrA at hy
  split at hy
  · simp at hy
    rcases hy with rfl | rfl <;> exact txtC_size _
  · split at hy
    · simp at hy
      rcases hy with rfl | rfl <;> exact txtC_size _
    · simp at hy
      rcases hy with rfl
      exact txtC_size _
theorem flat_len2 : ∀ l : List DAcct, (l.flatMap scrA).length ≤ 2 * l.length
  | [] => by simp
  | a :: l => by
    have h1 := scrA_len a
    have h2 := flat_len2 l
    rw [List.flatMap_cons, List.length_append, List.length_cons]
    omega
theorem scrL_size (x : DLedger) : ∀ y ∈ scrL x, y.1.size ≤ 20000 := by
  intro y hy
  rcases List.mem_append.1 hy with hy | hy
  · obtain ⟨r, _, rfl⟩ := List.mem_map.1 hy
    exact txtC_size _
  · obtain ⟨a, _, ha⟩ := List.mem_flatMap.1 hy
    exact scrA_size a y ha
theorem scrL_len {x : DLedger} (h : LedgerOkP x) : (scrL x).length ≤ 36 := by
  have h1 := h.1.1
  have h2 := h.2.2.2.1
  have h3 := flat_len2 x.1
  unfold scrL
  rw [List.length_append, List.length_map]
  omega
theorem scrT_size (x : DLedger) : ∀ y ∈ scrT x, y.1.size ≤ 20000 := by
  by_cases h : LedgerOkP x
  · rw [scrT_pos h]; exact scrL_size x
  · rw [scrT_neg h]; intro y hy; cases hy
theorem scrT_len (x : DLedger) : (scrT x).length ≤ 36 := by
  by_cases h : LedgerOkP x
  · rw [scrT_pos h]; exact scrL_len h
  · rw [scrT_neg h]; exact Nat.zero_le _

theorem noT_size : noT.size ≤ 9223372036854775807 := by decide
theorem rate_cmd {V : Know} {r : DRate} {s : SlV} {g : List Nat} (hr : RateOkP r) (h : LR rI V s r.2.2.2.1 g) :
    (∃ f', rCmd.R V (9, noT, noT, noT, noT, noT, false, nilS, 0, nilS, nilS, false, nilS, 0, r.1, r.2.1, r.2.2.1, s, r.2.2.2.2.1, ()) (cmdRate r) f') ∧ rCmd.tot (cmdRate r) ≤ 1048576 := by
  have z1 := known_size hr.1
  have z2 := known_size hr.2.1
  have l2 := hr.2.2.2.2.2
  refine ⟨⟨_, cmd_mk (V := V) 9 noT noT noT noT noT false nilS 0 nilS nilS false nilS 0 r.1 r.2.1 r.2.2.1 s r.2.2.2.2.1 [] [] lr_nil0 [] [] lr_nilT [] [] lr_nil0 [] [] lr_nil0 r.2.2.2.1 g h noT_size noT_size noT_size noT_size noT_size (by omega) (by omega)⟩, ?_⟩
  show 0 + (0 + (0 + (0 + (0 + ([].length + totE rI [] + ([].length + totE rString [] + ([].length + totE rI [] + ([].length + totE rI [] + (r.1.size + (r.2.1.size + (r.2.2.2.1.length + totE rI r.2.2.2.1 + 0))))))))))) ≤ 1048576
  have e := totE_rI r.2.2.2.1
  simp [totE]
  omega
theorem open_cmd {V : Know} {name cur : ByteArray} (hw : name.size ≤ 12) (hc : cur.size = 3) :
    (∃ f', rCmd.R V (1, name, noT, noT, cur, noT, false, nilS, 0, nilS, nilS, false, nilS, 0, noT, noT, false, nilS, 0, ()) (cmdOpen name cur) f') ∧ rCmd.tot (cmdOpen name cur) ≤ 1048576 := by
  refine ⟨⟨_, cmd_mk (V := V) 1 name noT noT cur noT false nilS 0 nilS nilS false nilS 0 noT noT false nilS 0 [] [] lr_nil0 [] [] lr_nilT [] [] lr_nil0 [] [] lr_nil0 [] [] lr_nil0 (by omega) noT_size noT_size (by omega) noT_size noT_size noT_size⟩, ?_⟩
  show name.size + (0 + (0 + (cur.size + (0 + ([].length + totE rI [] + ([].length + totE rString [] + ([].length + totE rI [] + ([].length + totE rI [] + (0 + (0 + ([].length + totE rI [] + 0))))))))))) ≤ 1048576
  simp [totE]
  omega
theorem pay_cmd {V : Know} (op : Int) {name cur : ByteArray} {neg : Bool} {l : List Lim} {s : SlV} {g : List Nat} (hw : name.size ≤ 12) (hc : cur.size = 3) (hl : l.length ≤ 4) (h : LR rI V s l g) :
    (∃ f', rCmd.R V (op, name, noT, noT, noT, cur, neg, s, 0, nilS, nilS, false, nilS, 0, noT, noT, false, nilS, 0, ()) (cmdPay op name cur neg l) f') ∧ rCmd.tot (cmdPay op name cur neg l) ≤ 1048576 := by
  refine ⟨⟨_, cmd_mk (V := V) op name noT noT noT cur neg s 0 nilS nilS false nilS 0 noT noT false nilS 0 l g h [] [] lr_nilT [] [] lr_nil0 [] [] lr_nil0 [] [] lr_nil0 (by omega) noT_size noT_size noT_size (by omega) noT_size noT_size⟩, ?_⟩
  show name.size + (0 + (0 + (0 + (cur.size + (l.length + totE rI l + ([].length + totE rString [] + ([].length + totE rI [] + ([].length + totE rI [] + (0 + (0 + ([].length + totE rI [] + 0))))))))))) ≤ 1048576
  have e := totE_rI l
  simp [totE]
  omega
def ScrPost (V : Know) (x : DLedger) : Know → Value → Prop := fun V' r => V.le V' ∧ ∃ s f', r = Sc.val .l s ∧ LR rString V' s (scrT x) f' ∧ Own V V' f'
theorem cS_IntNeg (V : Know) (c0 : Bool) (c1 : SlV) (l : List Lim) (f : List Nat) (h : LR rI V c1 l f) (ok : IntOkP c0 l) :
    CallX Tryz.prog V gS_IntNeg [Sh1.val (.g [.b, .l]) (c0, c1, ())] (fun V' r => V.le V' ∧ ∃ s f', r = Sh1.val (.g [.b, .l]) (!c0 && decide (0 < l.length), s, ()) ∧ LR rI V' s l f') := by
  refine CallX.of_fits Tryz.mix (fS_IntNeg _) fun _ => ?_
  simp only [tS_IntNeg, T.wp]
  refine (cS_IntOk V c0 c1 l f h).mono ?_
  rintro V1 r ⟨rfl, e, rfl, he⟩
  refine ⟨nofun, e, rfl, fun hf => absurd ok (bf he hf), fun _ => (cS_l04Make V1 (!c0) c1 l f h ok.1.1 ok.1.2).mono ?_⟩
  rintro V2 _ ⟨le2, s2, f2, rfl, L2, _⟩
  exact ⟨nofun, _, rfl, le2, s2, f2, rfl, L2⟩
theorem cS_l21Less (V : Know) (c : ByteArray) (c0 : Bool) (c1 : SlV) (l : List Lim) (f : List Nat) (h : LR rI V c1 l f) (ok : IntOkP c0 l) :
    CallX Tryz.prog V gS_l21Less [Sh1.val (.g [.s, .b, .l]) (c, c0, c1, ())] (fun V' r => V.le V' ∧ ∃ s f', r = Sh1.val (.g [.s, .b, .l]) (c, !c0 && decide (0 < l.length), s, ()) ∧ LR rI V' s l f') := by
  refine CallX.of_fits Tryz.mix (fS_l21Less _) fun _ => ?_
  simp only [tS_l21Less, T.wp]
  refine (cS_IntNeg V c0 c1 l f h ok).mono ?_
  rintro V1 _ ⟨le1, s1, f1, rfl, L1⟩
  exact ⟨fun _ => le1, _, rfl, le1, s1, f1, rfl, L1⟩
theorem cI_minus (V : Know) (c : ByteArray) (c0 : Bool) (c1 : SlV) (l : List Lim) (f : List Nat) (h : LR rI V c1 l f) (hl : l.length ≤ 1048576) :
    CallX Tryz.prog V gI_minus [Sh1.val (.g [.s, .b, .l]) (c, c0, c1, ())] (fun V' r => V.le V' ∧ ∃ s f', r = Sh1.val (.g [.s, .b, .l]) (c, !c0 && decide (0 < l.length), s, ()) ∧ LR rI V' s l f') := by
  refine CallX.of_fits Tryz.mix (fI_minus _) fun _ => ?_
  simp only [tI_minus, T.wp]
  refine (cI_intNeg V c0 c1 l f h hl).mono ?_
  rintro V1 _ ⟨le1, s1, f1, rfl, L1, _⟩
  exact ⟨fun _ => le1, _, rfl, le1, s1, f1, rfl, L1⟩

/-! the loops -/
theorem known_sz {x : ByteArray} (h : known x = true) : x.size ≤ 9223372036854775807 := by
  have := known_size h
  omega
/-- the accounts of a valid book -/
theorem acct_facts {x : DLedger} (h : LedgerOkP x) {i : Nat} (hi : i < x.1.length) : x.1[i].1.size ≤ 12 ∧ x.1[i].2.1.size = 3 ∧ IntOkP x.1[i].2.2.1 x.1[i].2.2.2.1 ∧ x.1[i].2.2.2.1.length ≤ 4 := by
  obtain ⟨_, hw, hm, _⟩ := h.1.2 i hi
  exact ⟨hw.2.1, known_size hm.1, hm.2.1, hm.2.2⟩
theorem rate_facts {x : DLedger} (h : LedgerOkP x) {i : Nat} (hi : i < x.2.2.2.1.length) : RateOkP x.2.2.2.1[i] := (h.2.2.2.2 i hi).2.1
set_option maxHeartbeats 2000000 in
theorem cS_Script {V : Know} (hV : HtS V) : ∀ (c : Scs [.l, .l, .s, .l]) (x : DLedger) (fp : List Nat) (_ : rLedger.R V c x fp) (_ : rLedger.tot x ≤ 1048576), CallX Tryz.prog V gS_Script [Sh1.val (.g [.l, .l, .s, .l]) c] (ScrPost V x) := by
  intro c x fp hx htot
  have hOk := cS_LedgerOk hV.c c x fp hx
  revert c x fp
  rintro ⟨c0, c1, c2, c3, cu⟩ ⟨x0, x1, x2, x3, xu⟩ fp hx htot hOk
  obtain ⟨f0, g0, rfl, h0, hx⟩ := hx
  obtain ⟨f1, g1, rfl, h1, hx⟩ := hx
  obtain ⟨⟨e2, z2⟩, hx⟩ := hx
  obtain ⟨f3, g3, rfl, h3, hx⟩ := hx
  replace h0 : LR rAcct V c0 x0 f0 := h0
  replace h3 : LR rRate V c3 x3 f3 := h3
  refine CallX.of_fits Tryz.mix (fS_Script _) fun _ => ?_
  simp only [tS_Script, T.wp]
  refine hOk.mono ?_
  rintro V1 r ⟨le1, e, rfl, he⟩
  refine ⟨nofun, e, rfl, fun hf => ?_, fun htr => ?_⟩
  · intro b cap spare hb0 hc _
    have q := newT (V := V1) (b := b) (cap := cap) (o := []) (spare := spare) (t := 9) hb0 hc (by simp) (fun y hy => by cases hy)
    refine ⟨le1.trans (kset_le hb0), ⟨some ⟨b, 0, none⟩, 0, cap⟩, [b], rfl, ?_, q.2.pre le1⟩
    rw [scrT_neg (bf he hf)]
    exact q.1
  have hL : LedgerOkP (x0, x1, x2, x3, xu) := bt he htr
  have hn0 := h0.1
  have hn3 := h3.1
  have l12 : x3.length ≤ 12 := hL.2.2.2.1
  have l0 : x0.length ≤ 12 := hL.1.1
  -- rates
  refine ⟨fun y V' => V1.le V' ∧ ∃ i : Nat, y.2.1 = (i : Int) ∧ i ≤ x3.length ∧ y.1.1 = i ∧ y.1.2 = ((x3.take i).map scrR).map cellT, fun y => ((x3.length : Int) - (y.2.1 : Int)).toNat, ⟨((0, []), (0 : Int), ()), rfl, Know.le.refl _, 0, rfl, by omega, rfl, rfl⟩, ?_⟩
  rintro ⟨⟨n1, ys⟩, (i : Int), u⟩ V2 ⟨hle, k, hk, hkl, hn1, hys⟩
  replace hk : i = (k : Int) := hk
  replace hn1 : n1 = k := hn1
  replace hys : ys = ((x3.take k).map scrR).map cellT := hys
  subst hk hn1 hys
  have hle' := le1.trans hle
  refine ⟨fun hlt => ?_, fun hge => ?_⟩
  · have hi : n1 < x3.length := by
      have : (n1 : Int) < (c3.n : Int) := of_decide_eq_true hlt
      omega
    obtain ⟨b1, o1, cc, ff, a1, ld1, R1, _⟩ := (h3.le hle').at hi
    have hr := rate_facts hL hi
    replace hr : RateOkP x3[n1] := hr
    obtain ⟨s4, g4, ec, L4⟩ := rate_elim R1
    subst ec
    obtain ⟨⟨f', Rc⟩, tc⟩ := rate_cmd hr L4
    refine ⟨_, a1, (by omega : (0 : Int) ≤ (n1 : Int)), (by omega : (n1 : Int) < (c3.n : Int)), _, ld1, (cS_CmdText (hV.le hle') _ (cmdRate x3[n1]) f' Rc tc).mono ?_⟩
    rintro V3 _ ⟨le3, rfl⟩
    refine ⟨nofun, _, rfl, rfl, ⟨rfl, (by omega : (n1 + 1) * 16 ≤ 140737488355328), (by omega : n1 + 1 ≤ 9223372036854775807)⟩, _, rfl, ((n1 + 1, ((x3.take (n1 + 1)).map scrR).map cellT), ((n1 + 1 : Nat) : Int), ()), ?_, ⟨hle.trans le3, n1 + 1, rfl, hi, rfl, rfl⟩, ?_⟩
    · rw [nxt hi (by omega), List.take_succ_eq_append_getElem hi, List.map_append, List.map_append]
      rfl
    · show ((x3.length : Int) - ((n1 + 1 : Nat) : Int)).toNat < ((x3.length : Int) - (n1 : Int)).toNat
      omega
  have hk3 : n1 = x3.length := by
    have : ¬ (n1 : Int) < (c3.n : Int) := of_decide_eq_false hge
    omega
  subst hk3
  rw [List.take_length]
  -- accounts
  have hflat : ∀ k, (x0.take k).flatMap scrA = (x0.take k).flatMap scrA ∧ ((x0.take k).flatMap scrA).length ≤ 24 := fun k => ⟨rfl, by
    have h := flat_len2 (x0.take k)
    have h2 : (x0.take k).length ≤ x0.length := by rw [List.length_take]; omega
    omega⟩
  refine ⟨fun y V' => V1.le V' ∧ ∃ i : Nat, y.2.1 = (i : Int) ∧ i ≤ x0.length ∧ y.1.1 = x3.length + ((x0.take i).flatMap scrA).length ∧ y.1.2 = (x3.map scrR ++ (x0.take i).flatMap scrA).map cellT, fun y => ((x0.length : Int) - (y.2.1 : Int)).toNat,
    ⟨((x3.length, (x3.map scrR).map cellT), (0 : Int), ()), rfl, hle, 0, rfl, by omega, rfl, by simp⟩, ?_⟩
  rintro ⟨⟨n2, ys⟩, (i : Int), u⟩ V4 ⟨hle4, k, hk, hkl, hn2, hys⟩
  replace hk : i = (k : Int) := hk
  replace hn2 : n2 = x3.length + ((x0.take k).flatMap scrA).length := hn2
  replace hys : ys = (x3.map scrR ++ (x0.take k).flatMap scrA).map cellT := hys
  subst hk hys
  have hle4' := le1.trans hle4
  have h24 := (hflat k).2
  refine ⟨fun hlt => ?_, fun hge => ?_⟩
  · have hi : k < x0.length := by
      have : (k : Int) < (c0.n : Int) := of_decide_eq_true hlt
      omega
    obtain ⟨b1, o1, cc, ff, a1, ld1, R1, _⟩ := (h0.le hle4').at hi
    obtain ⟨hw, hc3, hint, hl4⟩ := acct_facts hL hi
    replace hw : x0[k].1.size ≤ 12 := hw
    replace hc3 : x0[k].2.1.size = 3 := hc3
    replace hint : IntOkP x0[k].2.2.1 x0[k].2.2.2.1 := hint
    replace hl4 : x0[k].2.2.2.1.length ≤ 4 := hl4
    obtain ⟨s5, g5, ec, L5⟩ := acct_elim R1
    subst ec
    obtain ⟨⟨fo, Ro⟩, tq⟩ := open_cmd (V := V4) hw hc3
    -- the invariant, one account further
    have next : ∀ (V' : Know) (n' : Nat) (t : List Value), V4.le V' → n' = n2 + (scrA x0[k]).length → t = (x3.map scrR ++ (x0.take k).flatMap scrA).map cellT ++ (scrA x0[k]).map cellT →
        ∃ y' : LShs [.a 9, .o (.o (.i .i64))], [LV.a 9 n' t, .v (.int .i64 (IntKind.i64.wrap ((k : Int) + 1)))] = LShs.lvs _ y' ∧ (V1.le V' ∧ ∃ i : Nat, y'.2.1 = (i : Int) ∧ i ≤ x0.length ∧ y'.1.1 = x3.length + ((x0.take i).flatMap scrA).length ∧ y'.1.2 = (x3.map scrR ++ (x0.take i).flatMap scrA).map cellT) ∧
          ((x0.length : Int) - (y'.2.1 : Int)).toNat < ((x0.length : Int) - (k : Int)).toNat := by
      intro V' n' t hl hn' ht
      have e1 : x0.take (k + 1) = x0.take k ++ [x0[k]] := List.take_succ_eq_append_getElem hi
      refine ⟨((n', t), ((k + 1 : Nat) : Int), ()), by rw [nxt hi (by omega)]; rfl, ⟨hle4.trans hl, k + 1, rfl, hi, ?_, ?_⟩, ?_⟩
      · show n' = _
        rw [e1, List.flatMap_append, List.length_append, hn', hn2]
        simp
        omega
      · show t = _
        rw [e1, List.flatMap_append, ht]
        simp
      · show ((x0.length : Int) - ((k + 1 : Nat) : Int)).toNat < ((x0.length : Int) - (k : Int)).toNat
        omega
    refine ⟨_, a1, (by omega : (0 : Int) ≤ (k : Int)), (by omega : (k : Int) < (c0.n : Int)), _, ld1, (cS_CmdText (hV.le hle4') _ (cmdOpen x0[k].1 x0[k].2.1) fo Ro tq).mono ?_⟩
    rintro V5 _ ⟨le5, rfl⟩
    have l5 := hle4'.trans le5
    refine ⟨nofun, _, rfl, rfl, ⟨rfl, (by omega : (n2 + 1) * 16 ≤ 140737488355328), (by omega : n2 + 1 ≤ 9223372036854775807)⟩, (cS_IntSign V5 x0[k].2.2.1 s5 x0[k].2.2.2.1 g5 (L5.le le5) hint).mono ?_⟩
    rintro V6 _ ⟨rfl, rfl⟩
    refine ⟨nofun, _, rfl, fun hp => ?_, fun hp => ⟨fun hm => ?_, fun hm => ?_⟩⟩
    · have q1 : sgn (sval x0[k].2.2.1 x0[k].2.2.2.1) = 1 := beq_iff_eq.1 hp
      have eA : scrA x0[k] = [(txtC (cmdOpen x0[k].1 x0[k].2.1), ()), (txtC (cmdPay 2 x0[k].1 x0[k].2.1 x0[k].2.2.1 x0[k].2.2.2.1), ())] := by
        unfold scrA
        rw [if_pos q1]
      obtain ⟨⟨fo2, Ro2⟩, tq2⟩ := pay_cmd (V := V6) 2 (neg := x0[k].2.2.1) hw hc3 hl4 (L5.le le5)
      refine (cS_CmdText (hV.le l5) _ (cmdPay 2 x0[k].1 x0[k].2.1 x0[k].2.2.1 x0[k].2.2.2.1) fo2 Ro2 tq2).mono ?_
      rintro V7 _ ⟨le7, rfl⟩
      refine ⟨nofun, _, rfl, rfl, ⟨rfl, (by omega : (n2 + 1 + 1) * 16 ≤ 140737488355328), (by omega : n2 + 1 + 1 ≤ 9223372036854775807)⟩, _, rfl, next V7 _ _ (le5.trans le7) ?_ ?_⟩
      · rw [eA]; rfl
      · rw [eA, List.append_assoc]; rfl
    · have q1 : ¬ sgn (sval x0[k].2.2.1 x0[k].2.2.2.1) = 1 := bf' beq_iff_eq hp
      have q2 : sgn (sval x0[k].2.2.1 x0[k].2.2.2.1) = -1 := beq_iff_eq.1 hm
      have eA : scrA x0[k] = [(txtC (cmdOpen x0[k].1 x0[k].2.1), ()), (txtC (cmdPay 3 x0[k].1 x0[k].2.1 (!x0[k].2.2.1 && decide (0 < x0[k].2.2.2.1.length)) x0[k].2.2.2.1), ())] := by
        unfold scrA
        rw [if_neg q1, if_pos q2]
      refine (cS_l21Less V6 x0[k].2.1 x0[k].2.2.1 s5 x0[k].2.2.2.1 g5 (L5.le le5) hint).mono ?_
      rintro V7 _ ⟨le7, s7, f7, rfl, L7⟩
      obtain ⟨⟨fo2, Ro2⟩, tq2⟩ := pay_cmd (V := V7) 3 (neg := !x0[k].2.2.1 && decide (0 < x0[k].2.2.2.1.length)) hw hc3 hl4 L7
      refine ⟨fun _ => le7, _, rfl, (cS_CmdText (hV.le (l5.trans le7)) _ (cmdPay 3 x0[k].1 x0[k].2.1 (!x0[k].2.2.1 && decide (0 < x0[k].2.2.2.1.length)) x0[k].2.2.2.1) fo2 Ro2 tq2).mono ?_⟩
      rintro V8 _ ⟨le8, rfl⟩
      refine ⟨fun _ => le8, _, rfl, rfl, ⟨rfl, (by omega : (n2 + 1 + 1) * 16 ≤ 140737488355328), (by omega : n2 + 1 + 1 ≤ 9223372036854775807)⟩, _, rfl, next V8 _ _ ((le5.trans le7).trans le8) ?_ ?_⟩
      · rw [eA]; rfl
      · rw [eA, List.append_assoc]; rfl
    · have q1 : ¬ sgn (sval x0[k].2.2.1 x0[k].2.2.2.1) = 1 := bf' beq_iff_eq hp
      have q2 : ¬ sgn (sval x0[k].2.2.1 x0[k].2.2.2.1) = -1 := bf' beq_iff_eq hm
      have eA : scrA x0[k] = [(txtC (cmdOpen x0[k].1 x0[k].2.1), ())] := by
        unfold scrA
        rw [if_neg q1, if_neg q2]
      refine ⟨_, rfl, next V6 _ _ le5 ?_ ?_⟩
      · rw [eA]; rfl
      · rw [eA]; rfl
  have hk0 : k = x0.length := by
    have : ¬ (k : Int) < (c0.n : Int) := of_decide_eq_false hge
    omega
  intro b cap spare hb0 hc _
  have efull : x3.map scrR ++ (x0.take k).flatMap scrA = scrL (x0, x1, x2, x3, xu) := by
    rw [hk0, List.take_length]
    rfl
  have elen : n2 = (scrL (x0, x1, x2, x3, xu)).length := by rw [← efull, hn2, List.length_append, List.length_map]
  have hsz := scrL_size (x0, x1, x2, x3, xu)
  have hln := scrL_len hL
  rw [efull, elen]
  rw [elen] at hc
  have q := newT (V := V4) (b := b) (cap := cap) (o := scrL (x0, x1, x2, x3, xu)) (spare := spare) (t := 9) hb0 hc (Nat.le_trans hln (by decide)) (fun y hy => Nat.le_trans (hsz y hy) (by decide))
  refine ⟨hle4'.trans (kset_le hb0), ⟨some ⟨b, 0, none⟩, (scrL (x0, x1, x2, x3, xu)).length, cap⟩, [b], rfl, ?_, q.2.pre hle4'⟩
  rw [scrT_pos hL]
  exact q.1
set_option maxHeartbeats 2000000 in
theorem cI_Script {V : Know} (hV : HtI V) : ∀ (c : Scs [.l, .l, .s, .l]) (x : DLedger) (fp : List Nat) (_ : rLedger.R V c x fp) (_ : rLedger.tot x ≤ 1048576), CallX Tryz.prog V gI_Script [Sh1.val (.g [.l, .l, .s, .l]) c] (ScrPost V x) := by
  intro c x fp hx htot
  have hOk := cI_LedgerOk hV.c c x fp hx
  revert c x fp
  rintro ⟨c0, c1, c2, c3, cu⟩ ⟨x0, x1, x2, x3, xu⟩ fp hx htot hOk
  obtain ⟨f0, g0, rfl, h0, hx⟩ := hx
  obtain ⟨f1, g1, rfl, h1, hx⟩ := hx
  obtain ⟨⟨e2, z2⟩, hx⟩ := hx
  obtain ⟨f3, g3, rfl, h3, hx⟩ := hx
  replace h0 : LR rAcct V c0 x0 f0 := h0
  replace h3 : LR rRate V c3 x3 f3 := h3
  refine CallX.of_fits Tryz.mix (fI_Script _) fun _ => ?_
  simp only [tI_Script, T.wp]
  refine hOk.mono ?_
  rintro V1 r ⟨le1, e, rfl, he⟩
  refine ⟨nofun, e, rfl, fun hf => ?_, fun htr => ?_⟩
  · refine ⟨le1, ⟨none, 0, 0⟩, [], rfl, ?_, Own.nil⟩
    rw [scrT_neg (bf he hf)]
    exact lr_nilT
  have hL : LedgerOkP (x0, x1, x2, x3, xu) := bt he htr
  have hn0 := h0.1
  have hn3 := h3.1
  have l12 : x3.length ≤ 12 := hL.2.2.2.1
  have l0 : x0.length ≤ 12 := hL.1.1
  -- rates
  refine ⟨fun y V' => V1.le V' ∧ ∃ i : Nat, y.2.1 = (i : Int) ∧ i ≤ x3.length ∧ y.1.1 = i ∧ y.1.2 = ((x3.take i).map scrR).map cellT, fun y => ((x3.length : Int) - (y.2.1 : Int)).toNat, ⟨((0, []), (0 : Int), ()), rfl, Know.le.refl _, 0, rfl, by omega, rfl, rfl⟩, ?_⟩
  rintro ⟨⟨n1, ys⟩, (i : Int), u⟩ V2 ⟨hle, k, hk, hkl, hn1, hys⟩
  replace hk : i = (k : Int) := hk
  replace hn1 : n1 = k := hn1
  replace hys : ys = ((x3.take k).map scrR).map cellT := hys
  subst hk hn1 hys
  have hle' := le1.trans hle
  refine ⟨fun hlt => ?_, fun hge => ?_⟩
  · have hi : n1 < x3.length := by
      have : (n1 : Int) < (c3.n : Int) := of_decide_eq_true hlt
      omega
    obtain ⟨b1, o1, cc, ff, a1, ld1, R1, _⟩ := (h3.le hle').at hi
    have hr := rate_facts hL hi
    replace hr : RateOkP x3[n1] := hr
    obtain ⟨s4, g4, ec, L4⟩ := rate_elim R1
    subst ec
    obtain ⟨⟨f', Rc⟩, tc⟩ := rate_cmd hr L4
    refine ⟨_, a1, (by omega : (0 : Int) ≤ (n1 : Int)), (by omega : (n1 : Int) < (c3.n : Int)), _, ld1, (cI_CmdText (hV.le hle') _ (cmdRate x3[n1]) f' Rc tc).mono ?_⟩
    rintro V3 _ ⟨le3, rfl⟩
    refine ⟨nofun, _, rfl, rfl, ⟨rfl, (by omega : (n1 + 1) * 16 ≤ 140737488355328), (by omega : n1 + 1 ≤ 9223372036854775807)⟩, _, rfl, ((n1 + 1, ((x3.take (n1 + 1)).map scrR).map cellT), ((n1 + 1 : Nat) : Int), ()), ?_, ⟨hle.trans le3, n1 + 1, rfl, hi, rfl, rfl⟩, ?_⟩
    · rw [nxt hi (by omega), List.take_succ_eq_append_getElem hi, List.map_append, List.map_append]
      rfl
    · show ((x3.length : Int) - ((n1 + 1 : Nat) : Int)).toNat < ((x3.length : Int) - (n1 : Int)).toNat
      omega
  have hk3 : n1 = x3.length := by
    have : ¬ (n1 : Int) < (c3.n : Int) := of_decide_eq_false hge
    omega
  subst hk3
  rw [List.take_length]
  -- accounts
  have hflat : ∀ k, (x0.take k).flatMap scrA = (x0.take k).flatMap scrA ∧ ((x0.take k).flatMap scrA).length ≤ 24 := fun k => ⟨rfl, by
    have h := flat_len2 (x0.take k)
    have h2 : (x0.take k).length ≤ x0.length := by rw [List.length_take]; omega
    omega⟩
  refine ⟨fun y V' => V1.le V' ∧ ∃ i : Nat, y.2.1 = (i : Int) ∧ i ≤ x0.length ∧ y.1.1 = x3.length + ((x0.take i).flatMap scrA).length ∧ y.1.2 = (x3.map scrR ++ (x0.take i).flatMap scrA).map cellT, fun y => ((x0.length : Int) - (y.2.1 : Int)).toNat,
    ⟨((x3.length, (x3.map scrR).map cellT), (0 : Int), ()), rfl, hle, 0, rfl, by omega, rfl, by simp⟩, ?_⟩
  rintro ⟨⟨n2, ys⟩, (i : Int), u⟩ V4 ⟨hle4, k, hk, hkl, hn2, hys⟩
  replace hk : i = (k : Int) := hk
  replace hn2 : n2 = x3.length + ((x0.take k).flatMap scrA).length := hn2
  replace hys : ys = (x3.map scrR ++ (x0.take k).flatMap scrA).map cellT := hys
  subst hk hys
  have hle4' := le1.trans hle4
  have h24 := (hflat k).2
  refine ⟨fun hlt => ?_, fun hge => ?_⟩
  · have hi : k < x0.length := by
      have : (k : Int) < (c0.n : Int) := of_decide_eq_true hlt
      omega
    obtain ⟨b1, o1, cc, ff, a1, ld1, R1, _⟩ := (h0.le hle4').at hi
    obtain ⟨hw, hc3, hint, hl4⟩ := acct_facts hL hi
    replace hw : x0[k].1.size ≤ 12 := hw
    replace hc3 : x0[k].2.1.size = 3 := hc3
    replace hint : IntOkP x0[k].2.2.1 x0[k].2.2.2.1 := hint
    replace hl4 : x0[k].2.2.2.1.length ≤ 4 := hl4
    obtain ⟨s5, g5, ec, L5⟩ := acct_elim R1
    subst ec
    obtain ⟨⟨fo, Ro⟩, tq⟩ := open_cmd (V := V4) hw hc3
    -- the invariant, one account further
    have next : ∀ (V' : Know) (n' : Nat) (t : List Value), V4.le V' → n' = n2 + (scrA x0[k]).length → t = (x3.map scrR ++ (x0.take k).flatMap scrA).map cellT ++ (scrA x0[k]).map cellT →
        ∃ y' : LShs [.a 9, .o (.o (.i .i64))], [LV.a 9 n' t, .v (.int .i64 (IntKind.i64.wrap ((k : Int) + 1)))] = LShs.lvs _ y' ∧ (V1.le V' ∧ ∃ i : Nat, y'.2.1 = (i : Int) ∧ i ≤ x0.length ∧ y'.1.1 = x3.length + ((x0.take i).flatMap scrA).length ∧ y'.1.2 = (x3.map scrR ++ (x0.take i).flatMap scrA).map cellT) ∧
          ((x0.length : Int) - (y'.2.1 : Int)).toNat < ((x0.length : Int) - (k : Int)).toNat := by
      intro V' n' t hl hn' ht
      have e1 : x0.take (k + 1) = x0.take k ++ [x0[k]] := List.take_succ_eq_append_getElem hi
      refine ⟨((n', t), ((k + 1 : Nat) : Int), ()), by rw [nxt hi (by omega)]; rfl, ⟨hle4.trans hl, k + 1, rfl, hi, ?_, ?_⟩, ?_⟩
      · show n' = _
        rw [e1, List.flatMap_append, List.length_append, hn', hn2]
        simp
        omega
      · show t = _
        rw [e1, List.flatMap_append, ht]
        simp
      · show ((x0.length : Int) - ((k + 1 : Nat) : Int)).toNat < ((x0.length : Int) - (k : Int)).toNat
        omega
    refine ⟨_, a1, (by omega : (0 : Int) ≤ (k : Int)), (by omega : (k : Int) < (c0.n : Int)), _, ld1, (cI_CmdText (hV.le hle4') _ (cmdOpen x0[k].1 x0[k].2.1) fo Ro tq).mono ?_⟩
    rintro V5 _ ⟨le5, rfl⟩
    have l5 := hle4'.trans le5
    refine ⟨nofun, _, rfl, rfl, ⟨rfl, (by omega : (n2 + 1) * 16 ≤ 140737488355328), (by omega : n2 + 1 ≤ 9223372036854775807)⟩, (cI_intSign V5 x0[k].2.2.1 s5 x0[k].2.2.2.1 g5 (L5.le le5) hint.1.1).mono ?_⟩
    rintro V6 _ ⟨rfl, rfl⟩
    refine ⟨nofun, _, rfl, fun hp => ?_, fun hp => ⟨fun hm => ?_, fun hm => ?_⟩⟩
    · have q1 : sgn (sval x0[k].2.2.1 x0[k].2.2.2.1) = 1 := beq_iff_eq.1 hp
      have eA : scrA x0[k] = [(txtC (cmdOpen x0[k].1 x0[k].2.1), ()), (txtC (cmdPay 2 x0[k].1 x0[k].2.1 x0[k].2.2.1 x0[k].2.2.2.1), ())] := by
        unfold scrA
        rw [if_pos q1]
      obtain ⟨⟨fo2, Ro2⟩, tq2⟩ := pay_cmd (V := V6) 2 (neg := x0[k].2.2.1) hw hc3 hl4 (L5.le le5)
      refine (cI_CmdText (hV.le l5) _ (cmdPay 2 x0[k].1 x0[k].2.1 x0[k].2.2.1 x0[k].2.2.2.1) fo2 Ro2 tq2).mono ?_
      rintro V7 _ ⟨le7, rfl⟩
      refine ⟨nofun, _, rfl, rfl, ⟨rfl, (by omega : (n2 + 1 + 1) * 16 ≤ 140737488355328), (by omega : n2 + 1 + 1 ≤ 9223372036854775807)⟩, _, rfl, next V7 _ _ (le5.trans le7) ?_ ?_⟩
      · rw [eA]; rfl
      · rw [eA, List.append_assoc]; rfl
    · have q1 : ¬ sgn (sval x0[k].2.2.1 x0[k].2.2.2.1) = 1 := bf' beq_iff_eq hp
      have q2 : sgn (sval x0[k].2.2.1 x0[k].2.2.2.1) = -1 := beq_iff_eq.1 hm
      have eA : scrA x0[k] = [(txtC (cmdOpen x0[k].1 x0[k].2.1), ()), (txtC (cmdPay 3 x0[k].1 x0[k].2.1 (!x0[k].2.2.1 && decide (0 < x0[k].2.2.2.1.length)) x0[k].2.2.2.1), ())] := by
        unfold scrA
        rw [if_neg q1, if_pos q2]
      refine (cI_minus V6 x0[k].2.1 x0[k].2.2.1 s5 x0[k].2.2.2.1 g5 (L5.le le5) (by omega)).mono ?_
      rintro V7 _ ⟨le7, s7, f7, rfl, L7⟩
      obtain ⟨⟨fo2, Ro2⟩, tq2⟩ := pay_cmd (V := V7) 3 (neg := !x0[k].2.2.1 && decide (0 < x0[k].2.2.2.1.length)) hw hc3 hl4 L7
      refine ⟨fun _ => le7, _, rfl, (cI_CmdText (hV.le (l5.trans le7)) _ (cmdPay 3 x0[k].1 x0[k].2.1 (!x0[k].2.2.1 && decide (0 < x0[k].2.2.2.1.length)) x0[k].2.2.2.1) fo2 Ro2 tq2).mono ?_⟩
      rintro V8 _ ⟨le8, rfl⟩
      refine ⟨fun _ => le8, _, rfl, rfl, ⟨rfl, (by omega : (n2 + 1 + 1) * 16 ≤ 140737488355328), (by omega : n2 + 1 + 1 ≤ 9223372036854775807)⟩, _, rfl, next V8 _ _ ((le5.trans le7).trans le8) ?_ ?_⟩
      · rw [eA]; rfl
      · rw [eA, List.append_assoc]; rfl
    · have q1 : ¬ sgn (sval x0[k].2.2.1 x0[k].2.2.2.1) = 1 := bf' beq_iff_eq hp
      have q2 : ¬ sgn (sval x0[k].2.2.1 x0[k].2.2.2.1) = -1 := bf' beq_iff_eq hm
      have eA : scrA x0[k] = [(txtC (cmdOpen x0[k].1 x0[k].2.1), ())] := by
        unfold scrA
        rw [if_neg q1, if_neg q2]
      refine ⟨_, rfl, next V6 _ _ le5 ?_ ?_⟩
      · rw [eA]; rfl
      · rw [eA]; rfl
  have hk0 : k = x0.length := by
    have : ¬ (k : Int) < (c0.n : Int) := of_decide_eq_false hge
    omega
  intro b cap spare hb0 hc _
  have efull : x3.map scrR ++ (x0.take k).flatMap scrA = scrL (x0, x1, x2, x3, xu) := by
    rw [hk0, List.take_length]
    rfl
  have elen : n2 = (scrL (x0, x1, x2, x3, xu)).length := by rw [← efull, hn2, List.length_append, List.length_map]
  have hsz := scrL_size (x0, x1, x2, x3, xu)
  have hln := scrL_len hL
  rw [efull, elen]
  rw [elen] at hc
  have q := newT (V := V4) (b := b) (cap := cap) (o := scrL (x0, x1, x2, x3, xu)) (spare := spare) (t := 9) hb0 hc (Nat.le_trans hln (by decide)) (fun y hy => Nat.le_trans (hsz y hy) (by decide))
  refine ⟨hle4'.trans (kset_le hb0), ⟨some ⟨b, 0, none⟩, (scrL (x0, x1, x2, x3, xu)).length, cap⟩, [b], rfl, ?_, q.2.pre hle4'⟩
  rw [scrT_pos hL]
  exact q.1

theorem law_Script {V : Know} (hV : HtI V) {c : Scs [.l, .l, .s, .l]} {x : DLedger} {f : List Nat} (hx : rLedger.R V c x f) :
    CallX Tryz.prog V gL_FnExactScript [Sh1.val (.g [.l, .l, .s, .l]) c] (fun V' r => V.le V' ∧ r = .bool true) := by
  refine CallX.of_fits Tryz.mix (fL_FnExactScript _) fun _ => ?_
  simp only [tL_FnExactScript, T.wp]
  refine (cL_szLedger V c x f 1048576 hx (by omega) (by omega)).mono ?_
  rintro V1 r ⟨rfl, rfl⟩
  refine ⟨nofun, _, rfl, fun _ => ⟨Know.le.refl _, rfl⟩, fun h1 => ?_⟩
  have hp1 : ((rLedger.tot x : Nat) : Int) ≤ 1048576 := Decidable.not_not.1 fun k => (of_decide_eq_false h1) (szr_lt.2 k)
  have tx : rLedger.tot x ≤ 1048576 := by omega
  refine (cL_toLedger _ _ _ _ hx tx).mono ?_
  rintro V2 r ⟨le2, c2, f2, rfl, hr2, _⟩
  refine ⟨nofun, c2, rfl, (cS_Script (V := V2) trivial c2 x f2 hr2 tx).mono ?_⟩
  rintro V3 r ⟨le3, s3, f3, rfl, R3, _⟩
  have l3 := le2.trans le3
  refine ⟨nofun, s3, rfl, (cL_toLedger _ _ _ _ (rLedger.le hx l3) tx).mono ?_⟩
  rintro V4 r ⟨le4, c4, f4, rfl, hr4, o4⟩
  have l4 := l3.trans le4
  refine ⟨nofun, c4, rfl, (cI_Script (HtI.le hV l4) c4 x f4 hr4 tx).mono ?_⟩
  rintro V5 r ⟨le5, s5, f5, rfl, R5, o5⟩
  have l5 := l4.trans le5
  have l45 := le4.trans le5
  refine ⟨nofun, s5, rfl, (cL_eqStringS _ _ _ _ _ _ _ R5 (R3.le l45)).mono ?_⟩
  rintro V6 r ⟨rfl, b6, rfl, hb6⟩
  refine ⟨nofun, b6, rfl, (fun h => by simp [hb6.2 rfl] at h), fun _ => ?_⟩
  refine (cL_toLedger _ _ _ _ (rLedger.le hx l5) tx).mono ?_
  rintro V7 r ⟨le7, c7, f7, rfl, hr7, _⟩
  have l57 := le5.trans le7
  refine ⟨fun _ => le7, c7, rfl, (cL_eqLedger _ _ _ _ _ _ _ (rLedger.le hr4 l57) hr7).mono ?_⟩
  rintro V8 r ⟨rfl, b8, rfl, hb8⟩
  refine ⟨fun _ => Know.le.refl _, b8, rfl, (fun h => by simp [hb8.2 rfl] at h), fun _ => ?_⟩
  -- the ledger that was handed over is marked
  refine (mark_ledger _ _ _ _ _ (rLedger.le hr4 l57) (o4.post l57) tx).mono ?_
  rintro V9 r ⟨bt9, k9, rfl, hk9⟩
  have f4none : ∀ b ∈ f4, V3 b = none := o4.2.1
  have l39 : V3.le V9 := le_but (le4.trans l57) f4none bt9
  have d54 : ∀ b ∈ f5, b ∉ f4 := fun b h5 h4 => by
    obtain ⟨z, hz⟩ := rLedger.kn hr4 b h4
    rw [o5.2.1 b h5] at hz; cases hz
  have R5' : LR rString V9 s5 (scrT x) f5 := LR.but (R5.le le7) d54 bt9
  have W5 : Wr V9 f5 := fun b hb => by
    obtain ⟨q1, q2, q3⟩ := o5.2.2 b hb
    exact ⟨q1, q2, bt9 b _ (d54 b hb) (le7 _ _ q3)⟩
  have hk9' : ¬ k9 < 0 := by omega
  refine ⟨nofun, k9, rfl, (fun h => absurd (of_decide_eq_true h) hk9'), fun _ => (cL_eqStringS _ _ _ _ _ _ _ R5' (R3.le l39)).mono ?_⟩
  rintro V10 r ⟨rfl, b10, rfl, hb10⟩
  refine ⟨nofun, b10, rfl, (fun h => by simp [hb10.2 rfl] at h), fun _ => ?_⟩
  -- the answer is marked
  have hlen := scrT_len x
  refine (cL_markStringS V10 s5 (scrT x) f5 1 R5' o5.1 W5 (by omega) (by rw [cntE_txt]; omega)).mono ?_
  rintro V11 r ⟨bt11, _, rfl, l', M1, k1, n1⟩
  have l311 : V3.le V11 := le_but l39 (fun b hb => none_of_le le4 (o5.2.1 b hb)) bt11
  have l211 := l3.trans l311
  have hq : ¬ (1 + ((cntE mT (scrT x) : Nat) : Int)) < 0 := by omega
  have key : ∀ V', V11.le V' → CallX Tryz.prog V' gL_heldStringS [Sc.val .l s5, .int .i64 1] (fun V'' r => V'.le V'' ∧ r = .int .i64 (1 + ((cntE mT (scrT x) : Nat) : Int))) := fun V' hle => by
    have := cL_heldStringS V' s5 l' f5 1 (M1.le hle) (by omega) (by rw [n1, cntE_txt]; omega) k1
    rw [n1] at this
    exact this
  refine ⟨nofun, _, rfl, (key V11 (Know.le.refl _)).mono ?_⟩
  rintro V12 r ⟨le12, rfl⟩
  refine ⟨nofun, _, rfl, (fun h => absurd (of_decide_eq_true h) hq), fun _ => ⟨(fun h => by simp at h), fun _ => ?_⟩⟩
  have l212 := l211.trans le12
  refine (cL_toLedger _ _ _ _ (rLedger.le hx l212) tx).mono ?_
  rintro V13 r ⟨le13, c13, f13, rfl, hr13, _⟩
  have l13 := l212.trans le13
  refine ⟨nofun, c13, rfl, (cI_Script (HtI.le hV l13) c13 x f13 hr13 tx).mono ?_⟩
  rintro V14 r ⟨le14, s14, f14, rfl, R14, _⟩
  have l1114 := (le12.trans le13).trans le14
  refine ⟨nofun, s14, rfl, (cL_eqStringS _ _ _ _ _ _ _ R14 (R3.le (l311.trans l1114))).mono ?_⟩
  rintro V15 r ⟨rfl, b15, rfl, hb15⟩
  refine ⟨nofun, b15, rfl, (fun h => by simp [hb15.2 rfl] at h), fun _ => ?_⟩
  refine (key V15 l1114).mono ?_
  rintro V16 r ⟨le16, rfl⟩
  exact ⟨nofun, _, rfl, (fun h => absurd (of_decide_eq_true h) hq), fun _ => ⟨(fun h => by simp at h), fun _ => ⟨(l13.trans le14).trans le16, rfl⟩⟩⟩
end Go.Proofs.YtpnjdpomoijaaaaGreatDoor
