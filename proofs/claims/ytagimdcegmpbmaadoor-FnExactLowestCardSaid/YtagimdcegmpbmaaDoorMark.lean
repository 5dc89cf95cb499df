/-
  The laws' marks: what writes them, what finds them again.
-/
import Derived.Test.YtagimdcegmpbmaaDoorBest
namespace Go.Proofs.YtagimdcegmpbmaaDoor
open Sx
set_option maxRecDepth 100000

/-! the text of a mark -/
def dch (k : Int) : ByteArray := bytesD [.int .u8 (IntKind.u8.wrap (IntKind.i64.wrap (48 + k.tmod 10)))]
theorem dch_size (k : Int) : (dch k).size = 1 := rfl
def digs : Nat → Int → ByteArray → ByteArray
  | 0, _, out => out
  | n + 1, k, out => if k > 0 then digs n (k.tdiv 10) (dch k ++ out) else out
theorem tdiv_lt {k : Int} (h : 0 < k) : 0 ≤ k.tdiv 10 ∧ (k.tdiv 10).toNat < k.toNat ∧ k.tdiv 10 + 1 ≤ k := by
  rw [Int.tdiv_eq_ediv_of_nonneg (by omega)]
  omega
theorem digs_enough : ∀ (n m : Nat) (k : Int) (out : ByteArray), k.toNat ≤ n → k.toNat ≤ m → digs n k out = digs m k out
  | 0, 0, _, _, _, _ => rfl
  | 0, m + 1, k, out, h, _ => by
    unfold digs
    rw [if_neg (by omega)]
  | n + 1, 0, k, out, _, h => by
    unfold digs
    rw [if_neg (by omega)]
  | n + 1, m + 1, k, out, h, h' => by
    unfold digs
    by_cases hk : k > 0
    · rw [if_pos hk, if_pos hk]
      have := tdiv_lt hk
      exact digs_enough n m _ _ (by omega) (by omega)
    · rw [if_neg hk, if_neg hk]
def mtext (k : Int) : ByteArray := if k ≤ 0 then ⟨#[109, 48]⟩ else ⟨#[109]⟩ ++ digs k.toNat k ⟨#[]⟩
theorem cL_markText (V : Know) (k : Int) (hk : k ≤ 4611686018427387904) : CallX Tryd.prog V gL_markText [.int .i64 k] (fun V' r => V.le V' ∧ r = .string (mtext k) ∧ (mtext k).size ≤ 9223372036854775807) := by
  refine CallX.of_fits Tryd.mix (fL_markText _) fun _ => ?_
  simp only [tL_markText, T.wp]
  refine ⟨fun h0 => ?_, fun h0 => ?_⟩
  · have h0' : k ≤ 0 := of_decide_eq_true h0
    rw [mtext, if_pos h0']
    exact ⟨Know.le.refl _, rfl, by decide⟩
  have h0' : ¬ k ≤ 0 := of_decide_eq_false h0
  refine ⟨fun y V' => V.le V' ∧ 0 ≤ (y.1 : Int) ∧ (y.2.1.size : Int) + (y.1 : Int) ≤ k ∧ digs (y.1 : Int).toNat y.1 y.2.1 = digs k.toNat k ⟨#[]⟩, fun y => (y.1 : Int).toNat, ⟨(k, ⟨#[]⟩, ()), rfl, Know.le.refl _, (by omega : 0 ≤ k), (by show ((0 : Nat) : Int) + k ≤ k; omega), rfl⟩, ?_⟩
  rintro ⟨(j : Int), out, u⟩ V' ⟨hle, hj, hsz, hd⟩
  replace hj : 0 ≤ j := hj
  replace hsz : (ByteArray.size out : Int) + j ≤ k := hsz
  replace hd : digs j.toNat j out = digs k.toNat k ⟨#[]⟩ := hd
  refine ⟨fun hp => ?_, fun hz => ?_⟩
  · have hp' : j > 0 := of_decide_eq_true hp
    have ht := tdiv_lt hp'
    refine ⟨by decide, fun b cap spare hb hc => ?_⟩
    have hV := kset_le (x := ([Value.int .u8 (IntKind.u8.wrap (IntKind.i64.wrap (48 + j.tmod 10)))] ++ spare, ((5 : TypeId), ((0, 0) : Nat × Nat)))) hb
    refine ⟨[.int .u8 (IntKind.u8.wrap (IntKind.i64.wrap (48 + j.tmod 10)))], .inr ⟨_, rfl, ?_⟩, rfl, by simp [bytesOf, bytesGo], ?_, by decide, _, rfl, (j.tdiv 10, dch j ++ out, ()), ?_, ⟨hle.trans hV, ht.1, ?_, ?_⟩, ?_⟩
    · simp only [loadV, kset_same]
      exact cutv_head (x := [Value.int .u8 (IntKind.u8.wrap (IntKind.i64.wrap (48 + j.tmod 10)))])
    · have := dch_size j
      show (dch j).size + ByteArray.size out ≤ _
      omega
    · have hw : IntKind.i64.wrap (j.tdiv 10) = j.tdiv 10 := wrap_i64 (by omega)
      rw [hw]; rfl
    · show ((dch j ++ out).size : Int) + j.tdiv 10 ≤ k
      rw [ByteArray.size_append, dch_size]
      omega
    · show digs (j.tdiv 10).toNat (j.tdiv 10) (dch j ++ out) = _
      rw [← hd]
      obtain ⟨n, hn⟩ : ∃ n, j.toNat = n + 1 := ⟨j.toNat - 1, by omega⟩
      rw [hn, digs, if_pos hp']
      exact digs_enough _ _ _ _ (Nat.le_refl _) (by omega)
    · exact ht.2.1
  · have hz' : ¬ j > 0 := of_decide_eq_false hz
    have hj0 : j = 0 := by omega
    subst hj0
    have hd' : digs k.toNat k ⟨#[]⟩ = out := by rw [← hd]; rfl
    have hsm : (⟨#[109]⟩ : ByteArray).size = 1 := rfl
    have e : mtext k = ⟨#[109]⟩ ++ out := by rw [mtext, if_neg h0', hd']
    refine ⟨(by rw [hsm]; show 1 + ByteArray.size out ≤ _; omega), hle, by rw [e]; rfl, ?_⟩
    rw [e, ByteArray.size_append, hsm]
    omega

/-! memory that may change -/
def LeBut (f : List Nat) (V V' : Know) : Prop := ∀ b x, b ∉ f → V b = some x → V' b = some x
theorem LeBut.refl {f : List Nat} {V : Know} : LeBut f V V := fun _ _ _ h => h
theorem LeBut.trans {f : List Nat} {V V1 V2 : Know} (h : LeBut f V V1) (k : LeBut f V1 V2) : LeBut f V V2 := fun b x hb hx => k b x hb (h b x hb hx)
theorem LeBut.of_le {f : List Nat} {V V' : Know} (h : V.le V') : LeBut f V V' := fun b x _ hx => h b x hx
theorem LeBut.sub {f g : List Nat} {V V' : Know} (h : LeBut f V V') (hs : ∀ b ∈ f, b ∈ g) : LeBut g V V' := fun b x hb hx => h b x (fun hm => hb (hs b hm)) hx
theorem LeBut.kset {f : List Nat} {V : Know} {b : Nat} {x} (h : b ∈ f) : LeBut f V (kset V b x) := fun k y hk hy => by
  simp only [Sx.kset]
  rw [if_neg (fun e => hk (by rw [e]; exact h))]; exact hy
theorem le_but {f : List Nat} {V V1 V2 : Know} (h : V.le V1) (hf : ∀ b ∈ f, V b = none) (k : LeBut f V1 V2) : V.le V2 := fun b x hx => k b x (fun hm => by rw [hf b hm] at hx; cases hx) (h b x hx)
theorem Rp.but {sh : List Sc} {α : Type} (r : Rp sh α) {V V' : Know} {c : Scs sh} {x : α} {fp f : List Nat} (h : r.R V c x fp) (hd : ∀ b ∈ fp, b ∉ f) (k : LeBut f V V') : r.R V' c x fp :=
  r.loc h fun b hb => by obtain ⟨y, hy⟩ := r.kn h b hb; rw [hy]; exact k b y (hd b hb) hy
theorem LR.but {sh : List Sc} {α : Type} {r : Rp sh α} {V V' : Know} {s : SlV} {l : List α} {fp f : List Nat} (h : LR r V s l fp) (hd : ∀ b ∈ fp, b ∉ f) (k : LeBut f V V') : LR r V' s l fp :=
  h.loc fun b hb => by obtain ⟨y, hy⟩ := h.kn b hb; rw [hy]; exact k b y (hd b hb) hy

/-! numbers -/
theorem limb_set {l : List Lim} {i j : Nat} {x : Lim} (h : i < l.length) : limb (l.set i x) j = if j = i then x.1 else limb l j := by
  unfold limb
  by_cases e : j = i
  · subst e
    simp [List.getD_eq_getElem?_getD, h]
  · simp [List.getD_eq_getElem?_getD, List.getElem?_set, e, Ne.symm e]
theorem LR.put {V : Know} {s : SlV} {l : List Lim} {f : List Nat} (h : LR rI V s l f) (hw : Wr V f) {i : Nat} (hi : i < l.length) (x : Int) :
    ∃ b o cs u, s.a = some ⟨b, o, none⟩ ∧ V b = some (cs, (u, (0, 0))) ∧ o + i * 1 + 1 ≤ cs.length ∧ b ∈ f ∧ LR rI (kset V b (setl cs (o + i * 1) [.int .i64 x], (u, (0, 0)))) s (l.set i (x, ())) f ∧ Wr (kset V b (setl cs (o + i * 1) [.int .i64 x], (u, (0, 0)))) f := by
  obtain ⟨h1, h2, h3, h4⟩ := h
  rcases h4 with ⟨h0, _, _⟩ | ⟨b, pre, post, t, fps, cs, k1, k2, k3, rfl⟩
  · omega
  · obtain ⟨rfl, rfl⟩ := els_int_eq k3
    obtain ⟨c', t', hk⟩ := hw b (by simp)
    rw [k2] at hk
    simp only [Option.some.injEq, Prod.mk.injEq] at hk
    obtain ⟨rfl, rfl⟩ := hk
    refine ⟨b, pre.length, _, t', k1, k2, ?_, by simp, ⟨by simp; exact h1, h2, h3, .inr ⟨b, pre, post, (t', (0, 0)), [], cs.set i (x, ()), k1, ?_, els_int _, rfl⟩⟩, ?_⟩
    · rw [flat_int]
      simp
      omega
    · rw [kset_same, flat_int, flat_int]
      have e1 : pre ++ (cs.map cellI ++ post) = (pre ++ (cs.take i).map cellI) ++ ((cs.drop i).map cellI ++ post) := by
        rw [List.append_assoc, ← List.append_assoc ((cs.take i).map cellI), ← List.map_append, List.take_append_drop]
      have e3 : (cs.drop i).map cellI ++ post = cellI cs[i] :: ((cs.drop (i + 1)).map cellI ++ post) := by rw [List.drop_eq_getElem_cons hi]; rfl
      have e2 : cs.set i (x, ()) = cs.take i ++ (x, ()) :: cs.drop (i + 1) := by
        rw [List.set_eq_take_append_cons_drop, if_pos hi]
      rw [e1, e3, setl_mid (by simp; omega) (by simp), e2]
      simp only [List.length_singleton, List.drop_succ_cons, List.drop_zero, List.map_append, List.map_cons, List.append_assoc, List.cons_append, List.nil_append]
      rfl
    · intro b' hb'
      simp at hb'
      subst hb'
      exact ⟨_, _, kset_same⟩

theorem cL_markIntS (V : Know) (s : SlV) (l : List Lim) (f : List Nat) (k : Int) (h : LR rI V s l f) (hw : Wr V f) (hk0 : 0 ≤ k) (hk1 : k + l.length ≤ 4611686018427387904) :
    CallX Tryd.prog V gL_markIntS [Sc.val .l s, .int .i64 k] (fun V' r => LeBut f V V' ∧ Wr V' f ∧ r = .int .i64 (k + l.length) ∧ ∃ l', LR rI V' s l' f ∧ l'.length = l.length ∧ ∀ j, j < l.length → limb l' j = k + j) := by
  refine CallX.of_fits Tryd.mix (fL_markIntS _ _) fun _ => ?_
  simp only [tL_markIntS, T.wp]
  have hn := h.1
  refine ⟨fun y V' => LeBut f V V' ∧ Wr V' f ∧ ∃ (i : Nat) (l' : List Lim), y.2.1 = (i : Int) ∧ i ≤ l.length ∧ y.1 = k + (i : Int) ∧ LR rI V' s l' f ∧ l'.length = l.length ∧ ∀ j, j < i → limb l' j = k + j, fun y => ((l.length : Int) - (y.2.1 : Int)).toNat,
    ⟨(k, (0 : Int), ()), rfl, LeBut.refl, hw, 0, l, rfl, by omega, (by simp), h, rfl, fun j hj => by omega⟩, ?_⟩
  rintro ⟨(q : Int), (i : Int), u⟩ V' ⟨hb, hw', j, l', hj, hjl, hq, hL, hlen, hall⟩
  replace hj : i = (j : Int) := hj
  replace hq : q = k + (j : Int) := hq
  subst hj hq
  refine ⟨fun hlt => ?_, fun hge => ?_⟩
  · have hi : j < l.length := by
      have : (j : Int) < (s.n : Int) := of_decide_eq_true hlt
      omega
    obtain ⟨b, o, cs, u, a1, v1, hfit, hbf, hL2, hw2⟩ := hL.put hw' (i := j) (by omega) (k + (j : Int))
    refine ⟨_, a1, (by omega : (0 : Int) ≤ (j : Int)), (by omega : (j : Int) < (s.n : Int)), ?_⟩
    rw [addr_add_eq, Int.toNat_natCast]
    refine ⟨cs, u, rfl, v1, hfit, _, rfl, (k + ((j + 1 : Nat) : Int), ((j + 1 : Nat) : Int), ()), ?_, ⟨hb.trans (LeBut.kset hbf), hw2, j + 1, _, rfl, hi, rfl, hL2, by simpa using hlen, fun m hm => ?_⟩, ?_⟩
    · have e1 : IntKind.i64.wrap (k + (j : Int) + 1) = k + ((j + 1 : Nat) : Int) := by rw [wrap_i64 (by omega)]; omega
      rw [e1, nxt hi (by omega)]; rfl
    · rw [limb_set (by omega)]
      by_cases e : m = j
      · subst e; rw [if_pos rfl]
      · rw [if_neg e]; exact hall m (by omega)
    · show ((l.length : Int) - ((j + 1 : Nat) : Int)).toNat < ((l.length : Int) - (j : Int)).toNat
      omega
  · have hi : j = l.length := by
      have : ¬ (j : Int) < (s.n : Int) := of_decide_eq_false hge
      omega
    subst hi
    exact ⟨hb, hw', rfl, l', hL, hlen, hall⟩
theorem cL_heldIntS (V : Know) (s : SlV) (l : List Lim) (f : List Nat) (k : Int) (h : LR rI V s l f) (hk0 : 0 ≤ k) (hk1 : k + l.length ≤ 4611686018427387904) (hm : ∀ j, j < l.length → limb l j = k + j) :
    CallX Tryd.prog V gL_heldIntS [Sc.val .l s, .int .i64 k] (fun V' r => V' = V ∧ r = .int .i64 (k + l.length)) := by
  refine CallX.of_fits Tryd.mix (fL_heldIntS _ _) fun _ => ?_
  simp only [tL_heldIntS, T.wp]
  have hn := h.1
  refine ⟨fun y V' => V' = V ∧ ∃ i : Nat, y.2.1 = (i : Int) ∧ i ≤ l.length ∧ y.1 = k + (i : Int), fun y => ((l.length : Int) - (y.2.1 : Int)).toNat, ⟨(k, (0 : Int), ()), rfl, rfl, 0, rfl, by omega, by simp⟩, ?_⟩
  rintro ⟨(q : Int), (i : Int), u⟩ V' ⟨rfl, j, hj, hjl, hq⟩
  replace hj : i = (j : Int) := hj
  replace hq : q = k + (j : Int) := hq
  subst hj hq
  refine ⟨fun hlt => ?_, fun hge => ?_⟩
  · have hi : j < l.length := by
      have : (j : Int) < (s.n : Int) := of_decide_eq_true hlt
      omega
    obtain ⟨b, o, a1, l1⟩ := h.int hi
    have e : l[j].1 = k + (j : Int) := by rw [← limb_lt hi]; exact hm j hi
    refine ⟨_, a1, (by omega : (0 : Int) ≤ (j : Int)), (by omega : (j : Int) < (s.n : Int)), l[j].1, l1, fun hne => ?_, fun _ => ⟨_, rfl, (k + ((j + 1 : Nat) : Int), ((j + 1 : Nat) : Int), ()), ?_, ⟨rfl, j + 1, rfl, hi, rfl⟩, ?_⟩⟩
    · rw [e] at hne; simp at hne
    · have e1 : IntKind.i64.wrap (k + (j : Int) + 1) = k + ((j + 1 : Nat) : Int) := by rw [wrap_i64 (by omega)]; omega
      rw [e1, nxt hi (by omega)]; rfl
    · show ((l.length : Int) - ((j + 1 : Nat) : Int)).toNat < ((l.length : Int) - (j : Int)).toNat
      omega
  · have hi : j = l.length := by
      have : ¬ (j : Int) < (s.n : Int) := of_decide_eq_false hge
      omega
    subst hi
    exact ⟨rfl, rfl⟩

/-! an amount -/
theorem cL_markMoney (V : Know) (c0 : ByteArray) (c1 : Bool) (c2 : SlV) (l : List Lim) (f : List Nat) (k : Int) (h : LR rI V c2 l f) (hw : Wr V f) (hk0 : 0 ≤ k) (hk1 : k + l.length ≤ 4611686018427387904) :
    CallX Tryd.prog V gL_markMoney [Sh1.val (.g [.s, .b, .l]) (c0, c1, c2, ()), .int .i64 k] (fun V' r => LeBut f V V' ∧ Wr V' f ∧ r = .int .i64 (k + l.length) ∧ ∃ l', LR rI V' c2 l' f ∧ l'.length = l.length ∧ ∀ j, j < l.length → limb l' j = k + j) := by
  refine CallX.of_fits Tryd.mix (fL_markMoney _ _) fun _ => ?_
  simp only [tL_markMoney, T.wp]
  have hS : CallX Tryd.prog V gL_markSigned [Sh1.val (.g [.b, .l]) (c1, c2, ()), .int .i64 k] (fun V' r => LeBut f V V' ∧ Wr V' f ∧ r = .int .i64 (k + l.length) ∧ ∃ l', LR rI V' c2 l' f ∧ l'.length = l.length ∧ ∀ j, j < l.length → limb l' j = k + j) := by
    refine CallX.of_fits Tryd.mix (fL_markSigned _ _) fun _ => ?_
    simp only [tL_markSigned, T.wp]
    refine (cL_markIntS V c2 l f k h hw hk0 hk1).mono ?_
    rintro V1 r ⟨h1, h2, rfl, h3⟩
    exact ⟨nofun, _, rfl, h1, h2, rfl, h3⟩
  refine hS.mono ?_
  rintro V1 r ⟨h1, h2, rfl, h3⟩
  exact ⟨nofun, _, rfl, h1, h2, rfl, h3⟩
theorem cL_heldMoney (V : Know) (c0 : ByteArray) (c1 : Bool) (c2 : SlV) (l : List Lim) (f : List Nat) (k : Int) (h : LR rI V c2 l f) (hk0 : 0 ≤ k) (hk1 : k + l.length ≤ 4611686018427387904) (hm : ∀ j, j < l.length → limb l j = k + j) :
    CallX Tryd.prog V gL_heldMoney [Sh1.val (.g [.s, .b, .l]) (c0, c1, c2, ()), .int .i64 k] (fun V' r => V' = V ∧ r = .int .i64 (k + l.length)) := by
  refine CallX.of_fits Tryd.mix (fL_heldMoney _ _) fun _ => ?_
  simp only [tL_heldMoney, T.wp]
  have hnn : ¬ k + (l.length : Int) < 0 := by omega
  have hS : CallX Tryd.prog V gL_heldSigned [Sh1.val (.g [.b, .l]) (c1, c2, ()), .int .i64 k] (fun V' r => V' = V ∧ r = .int .i64 (k + l.length)) := by
    refine CallX.of_fits Tryd.mix (fL_heldSigned _ _) fun _ => ?_
    simp only [tL_heldSigned, T.wp]
    refine (cL_heldIntS V c2 l f k h hk0 hk1 hm).mono ?_
    rintro V1 r ⟨rfl, rfl⟩
    exact ⟨nofun, k + l.length, rfl, fun hneg => absurd (of_decide_eq_true hneg) hnn, fun _ => ⟨by trivial, rfl⟩⟩
  refine hS.mono ?_
  rintro V1 r ⟨rfl, rfl⟩
  exact ⟨nofun, k + l.length, rfl, fun hneg => absurd (of_decide_eq_true hneg) hnn, fun _ => ⟨by trivial, rfl⟩⟩

/-! a list of amounts -/
def cost : List DMoney → Nat
  | [] => 0
  | x :: l => 2 + x.2.2.1.length + cost l
theorem cost_le : ∀ l : List DMoney, cost l ≤ 2 * l.length + totE rMoney l
  | [] => by simp [cost]
  | x :: l => by
    have ih := cost_le l
    have e : rMoney.tot x = x.1.size + (x.2.2.1.length + totE rI x.2.2.1 + 0) := rfl
    simp only [cost, totE, List.length_cons]
    rw [e]
    omega
theorem cL_markMoneyS (V : Know) (s : SlV) (l : List DMoney) (f : List Nat) (k0 : Int) (h : LR rMoney V s l f) (hnd : f.Nodup) (hw : Wr V f) (hk0 : 0 ≤ k0) (hk1 : k0 + cost l ≤ 4611686018427387904) :
    CallX Tryd.prog V gL_markMoneyS [Sc.val .l s, .int .i64 k0] (fun V' r => LeBut f V V' ∧ ∃ k' : Int, r = .int .i64 k' ∧ 0 ≤ k') := by
  refine CallX.of_fits Tryd.mix (fL_markMoneyS _ _) fun _ => ?_
  have hn := h.1
  have h63 := h.2.2.1
  rcases h.2.2.2 with ⟨hz, _, _⟩ | ⟨b, pre, post, t, fps, cs, a1, v1, hels, rfl⟩
  · simp only [tL_markMoneyS]
    refine lp_once (k0, (0 : Int), ()) rfl fun N => ?_
    simp only [T.wp]
    refine ⟨fun hlt => ?_, fun _ => ⟨LeBut.refl, k0, rfl, hk0⟩⟩
    have : (0 : Int) < (s.n : Int) := of_decide_eq_true hlt
    omega
  simp only [tL_markMoneyS, T.wp]
  obtain ⟨cc, tt, hwb⟩ := hw b (by simp)
  rw [v1] at hwb
  simp only [Option.some.injEq, Prod.mk.injEq] at hwb
  obtain ⟨rfl, rfl⟩ := hwb
  refine ⟨fun y V' => LeBut (b :: fps) V V' ∧ ∃ (i : Nat) (A : List Value) (g : List Nat), y.2.1 = (i : Int) ∧ i ≤ l.length ∧ 0 ≤ (y.1 : Int) ∧ (y.1 : Int) + cost (l.drop i) ≤ 4611686018427387904 ∧ A.length = pre.length + i * 3 ∧
      V' b = some (A ++ ((cs.drop i).flatMap (Scs.vals [.s, .b, .l]) ++ post), (tt, (0, 0))) ∧ Els rMoney V' (cs.drop i) (l.drop i) g ∧ (b :: g).Nodup ∧ (∀ x ∈ g, x ∈ fps) ∧ Wr V' g,
    fun y => ((l.length : Int) - (y.2.1 : Int)).toNat, ⟨(k0, (0 : Int), ()), rfl, LeBut.refl, 0, pre, fps, rfl, by omega, hk0, hk1, by omega, v1, hels, hnd, fun _ h => h, fun x hx => hw x (by simp [hx])⟩, ?_⟩
  rintro ⟨(k : Int), (i : Int), u⟩ V' ⟨hb, j, A, g, hj, hjl, hk, hkc, hA, hv, hE, hgd, hgs, hgw⟩
  replace hj : i = (j : Int) := hj
  replace hk : 0 ≤ k := hk
  replace hkc : k + cost (l.drop j) ≤ 4611686018427387904 := hkc
  subst hj
  refine ⟨fun hlt => ?_, fun hge => ⟨hb, k, rfl, hk⟩⟩
  have hi : j < l.length := by
    have : (j : Int) < (s.n : Int) := of_decide_eq_true hlt
    omega
  have hcl : cs.length = l.length := hels.len
  have hi' : j < cs.length := by omega
  rw [List.drop_eq_getElem_cons hi] at hE hkc
  rw [List.drop_eq_getElem_cons hi'] at hE hv
  generalize l[j] = x at hE hkc
  generalize cs[j] = c at hE hv
  obtain ⟨c0, c1, c2, cu⟩ := c
  obtain ⟨x0, x1, x2, xu⟩ := x
  obtain ⟨g1, g2, rfl, hR, hE2⟩ := hE
  obtain ⟨⟨ec0, zc0⟩, hR⟩ := hR
  replace ec0 : c0 = x0 := ec0
  subst ec0
  replace zc0 : c0.size ≤ 9223372036854775807 := zc0
  obtain ⟨ec1, hR⟩ := hR
  replace ec1 : c1 = x1 := ec1
  subst ec1
  obtain ⟨w2, wr2, ec2, sc2, hR⟩ := hR
  subst ec2
  replace sc2 : LR rI _ c2 x2 w2 := sc2
  replace hR : _ = [] := hR
  subst hR
  simp only [cost] at hkc
  replace hkc : k + ((2 + x2.length + cost (l.drop (j + 1)) : Nat) : Int) ≤ 4611686018427387904 := hkc
  have hdis : ∀ y ∈ w2, y ≠ b := fun y hy e => by
    have := (List.nodup_cons.1 hgd).1
    exact this (by rw [← e]; simp [hy])
  have hdis2 : ∀ y ∈ g2, y ≠ b := fun y hy e => by
    have := (List.nodup_cons.1 hgd).1
    exact this (by rw [← e]; simp [hy])
  have hgn := (List.nodup_cons.1 hgd).2
  simp only [List.append_nil] at hgn
  have hsep : ∀ y ∈ g2, y ∉ w2 := fun y hy hy2 => (List.nodup_append.1 hgn).2.2 y hy2 y hy rfl
  refine (cL_markText V' k (by omega)).mono ?_
  rintro V1 r ⟨hle1, rfl, hmz⟩
  refine ⟨nofun, _, rfl, ?_⟩
  have hv1 := hle1 _ _ hv
  have e0 : (c0, c1, c2, cu) :: cs.drop (j + 1) = (c0, c1, c2, cu) :: cs.drop (j + 1) := rfl
  have hcells : A ++ (((c0, c1, c2, cu) :: cs.drop (j + 1)).flatMap (Scs.vals [.s, .b, .l]) ++ post) = A ++ ([.string c0, .bool c1, .slice c2.a c2.n c2.c] ++ ((cs.drop (j + 1)).flatMap (Scs.vals [.s, .b, .l]) ++ post)) := by
    rw [List.flatMap_cons, List.append_assoc]; rfl
  rw [hcells] at hv1
  have hoff : pre.length + (j : Int).toNat * 3 = A.length := by rw [hA]; simp
  have ew : IntKind.i64.wrap (IntKind.i64.wrap (k + 1) + 1) = k + 2 := by rw [wrap_i64 (n := k + 1) (by omega), wrap_i64 (by omega)]; omega
  generalize hR : (cs.drop (j + 1)).flatMap (Scs.vals [.s, .b, .l]) ++ post = R at hv1
  generalize hbv : (Int.tmod (IntKind.i64.wrap (k + 1)) 3 == 0) = bv
  have s1 : setl (A ++ ([.string c0, .bool c1, .slice c2.a c2.n c2.c] ++ R)) A.length [.string (mtext k)] = (A ++ [.string (mtext k)]) ++ ([.bool c1, .slice c2.a c2.n c2.c] ++ R) := by
    rw [setl_mid rfl (by simp)]; simp
  have s2 : setl ((A ++ [.string (mtext k)]) ++ ([.bool c1, .slice c2.a c2.n c2.c] ++ R)) (A.length + 1) [.bool bv] = (A ++ [.string (mtext k), .bool bv]) ++ ([.slice c2.a c2.n c2.c] ++ R) := by
    rw [setl_mid (by simp) (by simp)]; simp
  have s3 : cutv ((A ++ [.string (mtext k), .bool bv]) ++ ([.slice c2.a c2.n c2.c] ++ R)) (A.length + 1 + 1) 1 = some [.slice c2.a c2.n c2.c] := by
    have := cutv_skip (x := A ++ [Value.string (mtext k), .bool bv]) (y := [.slice c2.a c2.n c2.c] ++ R) (o := 0) (n := 1)
    rw [show (A ++ [Value.string (mtext k), Value.bool bv]).length + 0 = A.length + 1 + 1 by simp] at this
    rw [this]
    exact cutv_head (x := [Value.slice c2.a c2.n c2.c])
  have o0 : ((({ block := b, off := pre.length, spot := none } : Addr).add ((j : Int).toNat * 3)).add 0) = ⟨b, A.length, none⟩ := by rw [addr_add_eq, addr_add_eq, hoff, Nat.add_zero]
  have o1 : (((({ block := b, off := pre.length, spot := none } : Addr).add ((j : Int).toNat * 3)).add 1).add 0) = ⟨b, A.length + 1, none⟩ := by rw [addr_add_eq, addr_add_eq, addr_add_eq, hoff, Nat.add_zero]
  have o2 : (((({ block := b, off := pre.length, spot := none } : Addr).add ((j : Int).toNat * 3)).add 1).add 1) = ⟨b, A.length + 1 + 1, none⟩ := by rw [addr_add_eq, addr_add_eq, addr_add_eq, hoff]
  refine ⟨_, a1, (by omega : (0 : Int) ≤ (j : Int)), (by omega : (j : Int) < (s.n : Int)), ?_⟩
  show ∃ cs u, ((({ block := b, off := pre.length, spot := none } : Addr).add ((j : Int).toNat * 3)).add 0).spot = none ∧ _
  rw [o0]
  refine ⟨_, tt, rfl, hv1, by simp, by decide, _, a1, (by omega : (0 : Int) ≤ (j : Int)), (by omega : (j : Int) < (s.n : Int)), ?_⟩
  show ∃ cs u, (((({ block := b, off := pre.length, spot := none } : Addr).add ((j : Int).toNat * 3)).add 1).add 0).spot = none ∧ _
  rw [o1]
  simp only
  rw [s1]
  refine ⟨_, tt, by trivial, kset_same, by simp; omega, _, a1, (by omega : (0 : Int) ≤ (j : Int)), (by omega : (j : Int) < (s.n : Int)), ?_⟩
  rw [s2]
  generalize hV3 : kset (kset V1 b ((A ++ [.string (mtext k)]) ++ ([.bool c1, .slice c2.a c2.n c2.c] ++ R), (tt, (0, 0)))) b ((A ++ [.string (mtext k), .bool bv]) ++ ([.slice c2.a c2.n c2.c] ++ R), (tt, (0, 0))) = V3
  have hv3 : V3 b = some ((A ++ [.string (mtext k), .bool bv]) ++ ([.slice c2.a c2.n c2.c] ++ R), (tt, (0, 0))) := by rw [← hV3, kset_same]
  have hk3 : ∀ y, y ≠ b → V3 y = V1 y := fun y hy => by rw [← hV3, kset_other hy, kset_other hy]
  refine ⟨c2, ?_, ?_⟩
  · show loadV V3 (((({ block := b, off := pre.length, spot := none } : Addr).add ((j : Int).toNat * 3)).add 1).add 1) 1 = _
    rw [o2]
    simp only [loadV, hv3]
    exact s3
  show CallX _ _ _ [_, Value.int .i64 (IntKind.i64.wrap (IntKind.i64.wrap (k + 1) + 1))] _
  rw [ew]
  have hL3 : LR rI V3 c2 x2 w2 := (sc2.le hle1).loc fun y hy => hk3 y (hdis y hy)
  have hw3 : Wr V3 w2 := fun y hy => by
    obtain ⟨q1, q2, q3⟩ := hgw y (by simp [hy])
    exact ⟨q1, q2, by rw [hk3 y (hdis y hy)]; exact hle1 _ _ q3⟩
  refine (cL_markIntS V3 c2 x2 w2 (k + 2) hL3 hw3 (by omega) (by omega)).mono ?_
  rintro V4 r ⟨hb4, _, rfl, _⟩
  have keep : ∀ y ∈ g2, V4 y = V1 y := fun y hy => by
    obtain ⟨z, hz⟩ := (hE2.le hle1).kn y hy
    rw [hz]
    exact hb4 y z (hsep y hy) (by rw [hk3 y (hdis2 y hy)]; exact hz)
  have hbw : b ∉ w2 := fun hm => hdis b hm rfl
  refine ⟨nofun, _, rfl, _, rfl, (k + 2 + (x2.length : Int), ((j + 1 : Nat) : Int), ()), by rw [nxt hi (by omega)]; rfl, ⟨?_, j + 1, A ++ [.string (mtext k), .bool bv, .slice c2.a c2.n c2.c], g2, rfl, hi, (by omega : 0 ≤ k + 2 + (x2.length : Int)), (by omega : k + 2 + (x2.length : Int) + ((cost (l.drop (j + 1)) : Nat) : Int) ≤ 4611686018427387904), by simp [hA]; omega, ?_, ?_, ?_, ?_, ?_⟩, ?_⟩
  · refine ((hb.trans (LeBut.of_le hle1)).trans ?_).trans (hb4.sub fun y hy => by simp [hgs y (by simp [hy])])
    intro y z hy hz
    rw [hk3 y (fun e => hy (by simp [e]))]; exact hz
  · rw [hb4 b _ hbw hv3, hR]
    simp
  · exact (hE2.le hle1).loc keep
  · have := (List.nodup_cons.1 hgd)
    refine List.nodup_cons.2 ⟨fun hm => hdis2 b hm rfl, (List.nodup_append.1 hgn).2.1⟩
  · exact fun y hy => hgs y (by simp [hy])
  · intro y hy
    obtain ⟨q1, q2, q3⟩ := hgw y (by simp [hy])
    exact ⟨q1, q2, by rw [keep y hy]; exact hle1 _ _ q3⟩
  · show ((l.length : Int) - ((j + 1 : Nat) : Int)).toNat < ((l.length : Int) - (j : Int)).toNat
    omega
end Go.Proofs.YtagimdcegmpbmaaDoor
