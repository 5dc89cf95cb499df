/-
  Parts of commands: members of lists, names, weights, codes, modes, parts that are zero; in the program and in the reference.
-/
import Derived.Test.YtpnjdpomoijaaaaGreatDoorDecB
namespace Go.Proofs.YtpnjdpomoijaaaaGreatDoor
open Sx
set_option maxRecDepth 100000

abbrev OkE (V : Know) (p : Prop) : Know → Value → Prop := fun V' r => V' = V ∧ ∃ e, r = .bool e ∧ (e = true ↔ p)
theorem okE_no {V : Know} {p : Prop} (k : ¬ p) : OkE V p V (.bool false) := ⟨rfl, false, rfl, ⟨(fun e => by cases e), fun e => absurd e k⟩⟩
theorem okE_yes {V : Know} {p : Prop} (k : p) : OkE V p V (.bool true) := ⟨rfl, true, rfl, ⟨fun _ => k, fun _ => rfl⟩⟩
theorem okE_dec {V : Know} {p q : Prop} [Decidable q] (h : q ↔ p) : OkE V p V (.bool (decide q)) := ⟨rfl, decide q, rfl, by rw [decide_eq_true_eq]; exact h⟩
theorem okE_b {V : Know} {p : Prop} {e : Bool} (h : e = true ↔ p) : OkE V p V (.bool e) := ⟨rfl, e, rfl, h⟩
theorem okE_le {V V' : Know} {p : Prop} {r : Value} (h : OkE V p V' r) : OkPost V p V' r := by
  obtain ⟨rfl, h⟩ := h
  exact ⟨Know.le.refl _, h⟩

/-! members of a list of numbers -/
theorem mem_limb {l : List Lim} {x : Int} : (x, ()) ∈ l ↔ ∃ i, i < l.length ∧ limb l i = x := by
  constructor
  · intro h
    obtain ⟨i, hi, e⟩ := List.getElem_of_mem h
    exact ⟨i, hi, by rw [limb_lt hi, e]⟩
  · rintro ⟨i, hi, e⟩
    rw [limb_lt hi] at e
    have : l[i] = (x, ()) := Prod.ext e rfl
    rw [← this]
    exact List.getElem_mem hi
/-- the first place where a loop over numbers ends -/
theorem find_wp {P : Program} {K : Know → List Value → Prop} {V V0 : Know} {s : SlV} {l : List Lim} {f : List Nat} {p : Int → Prop} {body : LShs [.o (.o (.i .i64))] → T} (h : LR rI V s l f)
    (hbody : ∀ (i : Nat) (_ : i < l.length) (N : List LV → Know → Prop), (p (limb l i) → K V [.int .i64 (i : Int)]) → (¬ p (limb l i) → N [.v (.int .i64 (IntKind.i64.wrap ((i : Int) + 1)))] V) → (body ((i : Int), ())).wp P K V V [N])
    (hyes : ∀ i : Nat, i < l.length → p (limb l i) → K V [.int .i64 (i : Int)]) (hno : (∀ i, i < l.length → ¬ p (limb l i)) → K V [.int .i64 (-1 : Int)]) :
    (T.lp [.o (.o (.i .i64))] [.v (.int .i64 (0 : Int))] fun y => .br (decide (y.fst < (s.n : Int))) (body y) (.ret [.int .i64 (-1 : Int)])).wp P K V V0 [] := by
  simp only [T.wp]
  have hn := h.1
  have hb := h.2.2.1
  refine ⟨fun y V' => V' = V ∧ ∃ i : Nat, y.1 = (i : Int) ∧ i ≤ l.length ∧ ∀ j, j < i → ¬ p (limb l j), fun y => ((l.length : Int) - (y.1 : Int)).toNat, ⟨((0 : Int), ()), rfl, rfl, 0, rfl, by omega, fun j hj => by omega⟩, ?_⟩
  rintro ⟨(i : Int), u⟩ V' ⟨rfl, k, hk, hle, hall⟩
  replace hk : i = (k : Int) := hk
  subst hk
  refine ⟨fun hlt => ?_, fun hge => ?_⟩
  · have h1 : k < l.length := by
      have : (k : Int) < (s.n : Int) := of_decide_eq_true hlt
      omega
    refine hbody k h1 _ (hyes k h1) fun he => ?_
    refine ⟨(((k + 1 : Nat) : Int), ()), by rw [nxt h1 (by omega)]; rfl, ⟨rfl, k + 1, rfl, h1, fun j hj => ?_⟩, ?_⟩
    · by_cases e : j = k
      · subst e; exact he
      · exact hall j (by omega)
    · show ((l.length : Int) - ((k + 1 : Nat) : Int)).toNat < ((l.length : Int) - (k : Int)).toNat
      omega
  · have h1 : k = l.length := by
      have : ¬ (k : Int) < (s.n : Int) := of_decide_eq_false hge
      omega
    subst h1
    exact hno hall
def AtOf (l : List Lim) (p : Int → Prop) (n : Int) : Prop := (0 ≤ n ∧ ∃ i, i < l.length ∧ p (limb l i)) ∨ (n = -1 ∧ ∀ i, i < l.length → ¬ p (limb l i))
theorem atOf_iff {l : List Lim} {p : Int → Prop} {n : Int} (h : AtOf l p n) : n ≥ 0 ↔ ∃ i, i < l.length ∧ p (limb l i) := by
  rcases h with ⟨h1, h2⟩ | ⟨h1, h2⟩
  · exact ⟨fun _ => h2, fun _ => h1⟩
  · subst h1
    exact ⟨fun h => by omega, fun ⟨i, hi, hp⟩ => absurd hp (h2 i hi)⟩
theorem cI_Index (V : Know) (s : SlV) (l : List Lim) (f : List Nat) (x : Int) (h : LR rI V s l f) : CallX Tryz.prog V gX_Index_int [Sc.val .l s, .int .i64 x] (fun V' r => V' = V ∧ ∃ n, r = .int .i64 n ∧ AtOf l (fun y => x = y) n) := by
  refine CallX.of_fits Tryz.mix (fX_Index_int _ _) fun _ => ?_
  rw [tX_Index_int]
  refine find_wp (p := fun y => x = y) h (fun i hi N hy hN => ?_) (fun i hi he => ⟨rfl, _, rfl, .inl ⟨by omega, i, hi, he⟩⟩) (fun hno => ⟨rfl, _, rfl, .inr ⟨rfl, hno⟩⟩)
  obtain ⟨b, o, a1, l1⟩ := h.int hi
  have hn := h.1
  have e1 : l[i].1 = limb l i := (limb_lt hi).symm
  rw [e1] at l1
  refine ⟨_, a1, (by omega : (0 : Int) ≤ (i : Int)), (by omega : (i : Int) < (s.n : Int)), limb l i, l1, fun he => hy (by simpa using he), fun he => ⟨_, rfl, hN (by simpa using he)⟩⟩
theorem cI_Contains (V : Know) (s : SlV) (l : List Lim) (f : List Nat) (x : Int) (h : LR rI V s l f) : CallX Tryz.prog V gX_Contains_int [Sc.val .l s, .int .i64 x] (OkE V ((x, ()) ∈ l)) := by
  refine CallX.of_fits Tryz.mix (fX_Contains_int _ _) fun _ => ?_
  simp only [tX_Contains_int, T.wp]
  refine (cI_Index V s l f x h).mono ?_
  rintro V1 r ⟨rfl, n, rfl, hn⟩
  refine ⟨nofun, n, rfl, okE_dec ?_⟩
  rw [atOf_iff hn, mem_limb]
  exact ⟨fun ⟨i, hi, e⟩ => ⟨i, hi, e.symm⟩, fun ⟨i, hi, e⟩ => ⟨i, hi, e.symm⟩⟩

/-! weights -/
def WeightP (x : Int) : Prop := 0 ≤ x ∧ x ≤ 1000000000
theorem cI_dealOk_1 (V : Know) (x : Int) : CallX Tryz.prog V gI_dealOk_1 [.int .i64 x] (OkE V (¬ WeightP x)) := by
  refine CallX.of_fits Tryz.mix (fI_dealOk_1 _) fun _ => ?_
  simp only [tI_dealOk_1, T.wp]
  refine ⟨fun h => okE_yes fun k => ?_, fun h => okE_dec ?_⟩
  · have := of_decide_eq_true h
    have := k.1
    omega
  · have := of_decide_eq_false h
    unfold WeightP
    omega
theorem cI_ContainsFunc (V : Know) (s : SlV) (l : List Lim) (f : List Nat) (h : LR rI V s l f) : CallX Tryz.prog V gX_ContainsFunc_int [Sc.val .l s, Sc.val .f gI_dealOk_1] (OkE V (∃ i, i < l.length ∧ ¬ WeightP (limb l i))) := by
  refine CallX.of_fits Tryz.mix (fX_ContainsFunc_int _ _) fun _ => ?_
  simp only [tX_ContainsFunc_int, T.wp]
  have hI : CallX Tryz.prog V gX_IndexFunc_int [Sc.val .l s, Sc.val .f gI_dealOk_1] (fun V' r => V' = V ∧ ∃ n, r = .int .i64 n ∧ AtOf l (fun y => ¬ WeightP y) n) := by
    refine CallX.of_fits Tryz.mix (fX_IndexFunc_int _ _) fun _ => ?_
    rw [tX_IndexFunc_int]
    refine find_wp (p := fun y => ¬ WeightP y) h (fun i hi N hy hN => ?_) (fun i hi he => ⟨rfl, _, rfl, .inl ⟨by omega, i, hi, he⟩⟩) (fun hno => ⟨rfl, _, rfl, .inr ⟨rfl, hno⟩⟩)
    obtain ⟨b, o, a1, l1⟩ := h.int hi
    have hn := h.1
    have e1 : l[i].1 = limb l i := (limb_lt hi).symm
    rw [e1] at l1
    refine ⟨_, a1, (by omega : (0 : Int) ≤ (i : Int)), (by omega : (i : Int) < (s.n : Int)), limb l i, l1, (cI_dealOk_1 V _).mono ?_⟩
    rintro V1 r ⟨rfl, e, rfl, he⟩
    exact ⟨nofun, e, rfl, fun ht => hy (he.1 ht), fun hf => ⟨_, rfl, hN fun k => by rw [he.2 k] at hf; cases hf⟩⟩
  refine hI.mono ?_
  rintro V1 r ⟨rfl, n, rfl, hn⟩
  exact ⟨nofun, n, rfl, okE_dec (atOf_iff hn)⟩

/-! names -/
def NamesP (l : List (ByteArray × Unit)) : Prop := ∀ i (h : i < l.length), WordP l[i].1
theorem names_wp {V V0 : Know} {s : SlV} {l : List (ByteArray × Unit)} {f : List Nat} {g : Nat} (h : LR rString V s l f) (hg : ∀ x : ByteArray, x.size ≤ 9223372036854775807 → CallX Tryz.prog V g [.string x] (OkE V (WordP x))) :
    (T.lp [.o (.o (.i .i64))] [.v (.int .i64 (0 : Int))] fun y1 => .br (decide (y1.fst < (s.n : Int))) (
      .el s.a s.n y1.fst fun y2 => .ld false (y2.add (Int.toNat y1.fst * (1 : Nat))) (.o .s) fun y3 => .call false g [.string y3] (.v (.o .b)) fun y4 =>
      .br (!y4) (.ret [.bool false]) <| .nx 0 [.v (.int .i64 (IntKind.i64.wrap (y1.fst + (1 : Int))))]) <| .ret [.bool true]).wp Tryz.prog (fun V' vs => OkE V (NamesP l) V' (packed vs)) V V0 [] := by
  simp only [T.wp]
  have hn := h.1
  have hb := h.2.2.1
  refine ⟨fun y V' => V' = V ∧ ∃ i : Nat, y.1 = (i : Int) ∧ i ≤ l.length ∧ ∀ j (hj : j < l.length), j < i → WordP l[j].1, fun y => ((l.length : Int) - (y.1 : Int)).toNat, ⟨((0 : Int), ()), rfl, rfl, 0, rfl, by omega, fun j _ hj => by omega⟩, ?_⟩
  rintro ⟨(i : Int), u⟩ V' ⟨rfl, k, hk, hle, hall⟩
  replace hk : i = (k : Int) := hk
  subst hk
  refine ⟨fun hlt => ?_, fun hge => ?_⟩
  · have h1 : k < l.length := by
      have : (k : Int) < (s.n : Int) := of_decide_eq_true hlt
      omega
    obtain ⟨⟨b, o, a1, l1⟩, z1⟩ := h.txt h1
    refine ⟨_, a1, (by omega : (0 : Int) ≤ (k : Int)), (by omega : (k : Int) < (s.n : Int)), l[k].1, l1, (hg _ z1).mono ?_⟩
    rintro V2 r ⟨rfl, e, rfl, he⟩
    refine ⟨nofun, e, rfl, fun hf => okE_no fun hN => ?_, fun ht => ?_⟩
    · rw [he.2 (hN k h1)] at hf; cases hf
    refine ⟨_, rfl, (((k + 1 : Nat) : Int), ()), by rw [nxt h1 (by omega)]; rfl, ⟨rfl, k + 1, rfl, h1, fun j hj hj2 => ?_⟩, ?_⟩
    · by_cases e2 : j = k
      · subst e2; exact he.1 (by simpa using ht)
      · exact hall j hj (by omega)
    · show ((l.length : Int) - ((k + 1 : Nat) : Int)).toNat < ((l.length : Int) - (k : Int)).toNat
      omega
  · have h1 : k = l.length := by
      have : ¬ (k : Int) < (s.n : Int) := of_decide_eq_false hge
      omega
    subst h1
    exact okE_yes fun j hj => hall j hj hj
theorem cI_areNames (V : Know) (s : SlV) (l : List (ByteArray × Unit)) (f : List Nat) (h : LR rString V s l f) : CallX Tryz.prog V gI_areNames [Sc.val .l s] (OkE V (NamesP l)) :=
  CallX.of_fits Tryz.mix (fI_areNames _) fun _ => names_wp h fun x hx => cI_IsWord V x hx
theorem cS_l21Names (V : Know) (s : SlV) (l : List (ByteArray × Unit)) (f : List Nat) (h : LR rString V s l f) : CallX Tryz.prog V gS_l21Names [Sc.val .l s] (OkE V (NamesP l)) :=
  CallX.of_fits Tryz.mix (fS_l21Names _) fun _ => names_wp h fun x hx => cS_IsWord V x hx
def DealP (nm : List (ByteArray × Unit)) (w : List Lim) : Prop := nm.length = w.length ∧ 1 ≤ w.length ∧ w.length ≤ 30 ∧ NamesP nm ∧ ∀ i, i < w.length → WeightP (limb w i)
theorem cI_dealOk (V : Know) (s t : SlV) (nm : List (ByteArray × Unit)) (w : List Lim) (f g : List Nat) (h : LR rString V s nm f) (h' : LR rI V t w g) : CallX Tryz.prog V gI_dealOk [Sc.val .l s, Sc.val .l t] (OkE V (DealP nm w)) := by
  refine CallX.of_fits Tryz.mix (fI_dealOk _ _) fun _ => ?_
  simp only [tI_dealOk, T.wp]
  have hn := h.1
  have hn' := h'.1
  refine ⟨fun h1 => okE_no fun k => ?_, fun h1 => ⟨fun h2 => okE_no fun k => ?_, fun h2 => ⟨fun h3 => okE_no fun k => ?_, fun h3 => ?_⟩⟩⟩
  · have : ¬ (s.n : Int) = (t.n : Int) := by simpa using h1
    have := k.1
    omega
  · have := of_decide_eq_true h2
    have := k.2.1
    omega
  · have := of_decide_eq_true h3
    have := k.2.2.1
    omega
  have q1 : (s.n : Int) = (t.n : Int) := by simpa using h1
  have q2 := of_decide_eq_false h2
  have q3 := of_decide_eq_false h3
  refine (cI_areNames V s nm f h).mono ?_
  rintro V1 r ⟨rfl, e1, rfl, he1⟩
  refine ⟨nofun, e1, rfl, fun hf => okE_no fun k => ?_, fun ht => (cI_ContainsFunc V1 t w g h').mono ?_⟩
  · rw [he1.2 k.2.2.2.1] at hf; cases hf
  rintro V2 r ⟨rfl, e2, rfl, he2⟩
  refine ⟨nofun, e2, rfl, okE_b ⟨fun hh => ⟨by omega, by omega, by omega, he1.1 (by simpa using ht), fun i hi => Classical.byContradiction fun hw => ?_⟩, fun k => ?_⟩⟩
  · rw [he2.2 ⟨i, hi, hw⟩] at hh; cases hh
  · cases e2 with
    | false => rfl
    | true =>
      obtain ⟨i, hi, hw⟩ := he2.1 rfl
      exact absurd (k.2.2.2.2 i hi) hw
theorem cS_l22Weights (V : Know) (s t : SlV) (nm : List (ByteArray × Unit)) (w : List Lim) (f g : List Nat) (h : LR rString V s nm f) (h' : LR rI V t w g) : CallX Tryz.prog V gS_l22Weights [Sc.val .l s, Sc.val .l t] (OkE V (DealP nm w)) := by
  refine CallX.of_fits Tryz.mix (fS_l22Weights _ _) fun _ => ?_
  rw [tS_l22Weights]
  have hn := h.1
  have hn' := h'.1
  refine all_wp (p := WeightP) h' (fun i hi N hK hN => ?_) (fun hall N => ?_) (fun ⟨i, hi, hw⟩ => okE_no fun k => hw (k.2.2.2.2 i hi))
  · obtain ⟨b, o, a1, l1⟩ := h'.int hi
    have e1 : w[i].1 = limb w i := (limb_lt hi).symm
    rw [e1] at l1
    refine ⟨_, a1, (by omega : (0 : Int) ≤ (i : Int)), (by omega : (i : Int) < (t.n : Int)), limb w i, l1, (cS_l01In V _ 0 1000000000).mono ?_⟩
    rintro V1 r ⟨rfl, rfl⟩
    exact ⟨nofun, _, rfl, fun hf => hK fun k => by simp [k.1, k.2] at hf, fun ht => ⟨_, rfl, hN (by simpa [WeightP] using ht)⟩⟩
  simp only [T.wp]
  refine ⟨fun h1 => (cS_l01In V _ 1 30).mono ?_, fun h1 => okE_no fun k => ?_⟩
  · have q1 : (s.n : Int) = (t.n : Int) := by simpa using h1
    rintro V1 r ⟨rfl, rfl⟩
    refine ⟨nofun, _, rfl, fun ht => (cS_l21Names V1 s nm f h).mono ?_, fun hf => okE_no fun k => ?_⟩
    · have q2 : (1 : Int) ≤ (t.n : Int) ∧ (t.n : Int) ≤ 30 := of_decide_eq_true ht
      rintro V2 r ⟨rfl, e, rfl, he⟩
      exact ⟨nofun, e, rfl, okE_b ⟨fun hh => ⟨by omega, by omega, by omega, he.1 hh, hall⟩, fun k => he.2 k.2.2.2.1⟩⟩
    · have q2 : ¬ ((1 : Int) ≤ (t.n : Int) ∧ (t.n : Int) ≤ 30) := of_decide_eq_false hf
      have := k.2
      omega
  · have q1 : ¬ (s.n : Int) = (t.n : Int) := by simpa using h1
    have := k.1
    omega

/-! codes -/
def CodeP (s : ByteArray) : Prop := s.size = 3 ∧ ∀ i, i < 3 → 65 ≤ at0 s i ∧ at0 s i ≤ 90
theorem cI_IsCode (V : Know) (s : ByteArray) : CallX Tryz.prog V gI_IsCode [.string s] (OkE V (CodeP s)) := by
  refine CallX.of_fits Tryz.mix (fI_IsCode _) fun _ => ?_
  simp only [tI_IsCode, T.wp]
  refine ⟨fun h => okE_no fun k => ?_, fun h => ?_⟩
  · have : ¬ (s.size : Int) = 3 := by simpa using h
    have := k.1
    omega
  have q : (s.size : Int) = 3 := by simpa using h
  refine ⟨fun y V' => V' = V ∧ ∃ i : Nat, y.1 = (i : Int) ∧ i ≤ 3 ∧ ∀ j, j < i → 65 ≤ at0 s j ∧ at0 s j ≤ 90, fun y => (3 - (y.1 : Int)).toNat, ⟨((0 : Int), ()), rfl, rfl, 0, rfl, by omega, fun j hj => by omega⟩, ?_⟩
  rintro ⟨(i : Int), u⟩ V' ⟨rfl, k, hk, hle, hall⟩
  replace hk : i = (k : Int) := hk
  subst hk
  refine ⟨fun hlt => ?_, fun hge => ?_⟩
  · have h3 : (k : Int) < 3 := of_decide_eq_true hlt
    have e0 : (k : Int).toNat = k := by omega
    dsimp only
    rw [e0]
    have hin : (0 : Int) ≤ (k : Int) ∧ (k : Int) < (s.size : Int) := ⟨by omega, by omega⟩
    refine ⟨hin, fun h1 => okE_no fun kk => ?_, fun h1 => ⟨hin, fun h2 => okE_no fun kk => ?_, fun h2 => ?_⟩⟩
    · have := of_decide_eq_true h1
      have := (kk.2 k (by omega)).1
      omega
    · have := of_decide_eq_true h2
      have := (kk.2 k (by omega)).2
      omega
    · refine ⟨_, rfl, (((k + 1 : Nat) : Int), ()), by rw [wrap_i64 (by omega)]; rfl, ⟨rfl, k + 1, rfl, by omega, fun j hj => ?_⟩, ?_⟩
      · by_cases e : j = k
        · subst e
          have := of_decide_eq_false h1
          have := of_decide_eq_false h2
          omega
        · exact hall j (by omega)
      · show (3 - ((k + 1 : Nat) : Int)).toNat < (3 - (k : Int)).toNat
        omega
  · have h3 : ¬ (k : Int) < 3 := of_decide_eq_false hge
    exact okE_yes ⟨by omega, fun i hi => hall i (by omega)⟩
theorem cS_IsCode (V : Know) (s : ByteArray) (hs : s.size ≤ 9223372036854775807) : CallX Tryz.prog V gS_IsCode [.string s] (OkE V (CodeP s)) := by
  refine CallX.of_fits Tryz.mix (fS_IsCode _) fun _ => ?_
  simp only [tS_IsCode, T.wp]
  refine (cS_l01All V s 65 90 65 90 hs).mono ?_
  rintro V1 r ⟨rfl, e, rfl, he⟩
  refine ⟨nofun, e, rfl, fun ht => ?_, fun hf => okE_no fun k => ?_⟩
  · obtain ⟨g1, g2⟩ := he.1 ht
    refine okE_b ⟨fun h3 => ?_, fun k => ?_⟩
    · have q : (s.size : Int) = 3 := by simpa using h3
      exact ⟨by omega, fun i hi => (g1 i (by omega)).elim id id⟩
    · have := k.1
      simp [this]
  · have k1 := k.1
    rw [he.2 ⟨fun i hi => .inl (k.2 i (by omega)), by omega⟩] at hf
    cases hf

/-! amounts, modes -/
def PayP (c0 : ByteArray) (c1 : Bool) (l : List Lim) : Prop := MoneyOkP c0 c1 l ∧ c1 = false
theorem cI_payable {V : Know} (hV : HcI V) (c0 : ByteArray) (c1 : Bool) (c2 : SlV) (l : List Lim) (f : List Nat) (h : LR rI V c2 l f) : CallX Tryz.prog V gI_payable [Sh1.val (.g [.s, .b, .l]) (c0, c1, c2, ())] (OkPost V (PayP c0 c1 l)) := by
  refine CallX.of_fits Tryz.mix (fI_payable _) fun _ => ?_
  simp only [tI_payable, T.wp]
  refine (kI_MoneyOk hV c0 c1 c2 l f h).mono ?_
  rintro V1 r ⟨le1, e, rfl, he⟩
  refine ⟨nofun, e, rfl, fun ht => ⟨le1, _, rfl, ⟨fun hh => ⟨he.1 ht, by simpa using hh⟩, fun k => by simp [k.2]⟩⟩, fun hf => not_ok le1 fun k => ?_⟩
  rw [he.2 k.1] at hf; cases hf
theorem cS_l21Money {V : Know} (hV : HcS V) (c0 : ByteArray) (c1 : Bool) (c2 : SlV) (l : List Lim) (f : List Nat) (h : LR rI V c2 l f) : CallX Tryz.prog V gS_l21Money [Sh1.val (.g [.s, .b, .l]) (c0, c1, c2, ())] (OkPost V (PayP c0 c1 l)) := by
  refine CallX.of_fits Tryz.mix (fS_l21Money _) fun _ => ?_
  simp only [tS_l21Money, T.wp]
  refine (kS_MoneyOk hV c0 c1 c2 l f h).mono ?_
  rintro V1 r ⟨le1, e, rfl, he⟩
  refine ⟨nofun, e, rfl, fun ht => ⟨le1, _, rfl, ⟨fun hh => ⟨he.1 ht, by simpa using hh⟩, fun k => by simp [k.2]⟩⟩, fun hf => not_ok le1 fun k => ?_⟩
  rw [he.2 k.1] at hf; cases hf
def ModeP (x : Int) : Prop := 0 ≤ x ∧ x ≤ 6
theorem cI_isMode (V : Know) (x : Int) : CallX Tryz.prog V gI_isMode [.int .i64 x] (OkE V (ModeP x)) := by
  refine CallX.of_fits Tryz.mix (fI_isMode _) fun _ => ?_
  simp only [tI_isMode, T.wp]
  refine ⟨fun h => okE_dec ?_, fun h => okE_no fun k => ?_⟩
  · have := of_decide_eq_true h
    unfold ModeP
    omega
  · have := of_decide_eq_false h
    have := k.1
    omega
theorem cS_l06Mode (V : Know) (x : Int) : CallX Tryz.prog V gS_l06Mode [.int .i64 x] (OkE V (ModeP x)) := by
  refine CallX.of_fits Tryz.mix (fS_l06Mode _) fun _ => ?_
  simp only [tS_l06Mode, T.wp]
  refine (cS_l01In V x 0 6).mono ?_
  rintro V1 r ⟨rfl, rfl⟩
  exact ⟨nofun, _, rfl, okE_dec Iff.rfl⟩

/-! parts that are equal, parts that are zero -/
theorem cI_sameInts (V : Know) (s s' : SlV) (l l' : List Lim) (f f' : List Nat) (h : LR rI V s l f) (h' : LR rI V s' l' f') : CallX Tryz.prog V gI_sameInts [Sc.val .l s, Sc.val .l s'] (OkE V (l = l')) := CallX.of_fits Tryz.mix (fI_sameInts s s') fun _ => tEqI_wp h h'
theorem cI_intSame (V : Know) (n n' : Bool) (s s' : SlV) (l l' : List Lim) (f f' : List Nat) (h : LR rI V s l f) (h' : LR rI V s' l' f') : CallX Tryz.prog V gI_intSame [Sh1.val (.g [.b, .l]) (n, s, ()), Sh1.val (.g [.b, .l]) (n', s', ())] (OkE V (n = n' ∧ l = l')) := by
  refine CallX.of_fits Tryz.mix (fI_intSame _ _) fun _ => ?_
  simp only [tI_intSame, T.wp]
  refine ⟨fun h1 => (cI_sameInts V s s' l l' f f' h h').mono ?_, fun h1 => okE_no fun k => ?_⟩
  · have q : n = n' := by simpa using h1
    rintro V1 r ⟨rfl, e, rfl, he⟩
    exact ⟨nofun, e, rfl, okE_b ⟨fun hh => ⟨q, he.1 hh⟩, fun k => he.2 k.2⟩⟩
  · have q : ¬ n = n' := by simpa using h1
    exact q k.1
theorem cI_MoneySame (V : Know) (c c' : ByteArray) (n n' : Bool) (s s' : SlV) (l l' : List Lim) (f f' : List Nat) (h : LR rI V s l f) (h' : LR rI V s' l' f') : CallX Tryz.prog V gI_MoneySame [Sh1.val (.g [.s, .b, .l]) (c, n, s, ()), Sh1.val (.g [.s, .b, .l]) (c', n', s', ())] (OkE V (c = c' ∧ n = n' ∧ l = l')) := by
  refine CallX.of_fits Tryz.mix (fI_MoneySame _ _) fun _ => ?_
  simp only [tI_MoneySame, T.wp]
  refine ⟨fun h1 => (cI_intSame V n n' s s' l l' f f' h h').mono ?_, fun h1 => okE_no fun k => ?_⟩
  · have q : c = c' := text_eq.1 h1
    rintro V1 r ⟨rfl, e, rfl, he⟩
    exact ⟨nofun, e, rfl, okE_b ⟨fun hh => ⟨q, he.1 hh⟩, fun k => he.2 k.2⟩⟩
  · exact (text_ne.1 h1) k.1
theorem cI_decSame (V : Know) (n n' : Bool) (s s' : SlV) (x x' : Int) (l l' : List Lim) (f f' : List Nat) (h : LR rI V s l f) (h' : LR rI V s' l' f') : CallX Tryz.prog V gI_decSame [decV n s x, decV n' s' x'] (OkE V ((n = n' ∧ l = l') ∧ x = x')) := by
  refine CallX.of_fits Tryz.mix (fI_decSame _ _) fun _ => ?_
  simp only [tI_decSame, T.wp]
  refine (cI_intSame V n n' s s' l l' f f' h h').mono ?_
  rintro V1 r ⟨rfl, e, rfl, he⟩
  refine ⟨nofun, e, rfl, fun ht => okE_b ⟨fun hh => ⟨he.1 ht, by simpa using hh⟩, fun k => by simp [k.2]⟩, fun hf => okE_no fun k => ?_⟩
  rw [he.2 k.1] at hf; cases hf
def ZeroD (n : Bool) (l : List Lim) (x : Int) : Prop := (n = false ∧ l = []) ∧ x = 0
theorem cI_decIsZero (V : Know) (n : Bool) (s : SlV) (x : Int) (l : List Lim) (f : List Nat) (h : LR rI V s l f) : CallX Tryz.prog V gI_decIsZero [decV n s x] (OkE V (ZeroD n l x)) := by
  refine CallX.of_fits Tryz.mix (fI_decIsZero _) fun _ => ?_
  simp only [tI_decIsZero, T.wp]
  refine (cI_decSame V n false s ⟨none, 0, 0⟩ x 0 l [] f [] h lr_nil0).mono ?_
  rintro V1 r ⟨rfl, e, rfl, he⟩
  exact ⟨nofun, e, rfl, okE_b he⟩
theorem len_nil {s : SlV} {V : Know} {l : List Lim} {f : List Nat} (h : LR rI V s l f) : (s.n : Int) = 0 ↔ l = [] := by
  have := h.1
  constructor
  · intro k
    exact List.eq_nil_of_length_eq_zero (by omega)
  · rintro rfl
    simp at this
    omega
theorem cS_l22Zero (V : Know) (n : Bool) (s : SlV) (x : Int) (l : List Lim) (f : List Nat) (h : LR rI V s l f) : CallX Tryz.prog V gS_l22Zero [decV n s x] (OkE V (ZeroD n l x)) := by
  refine CallX.of_fits Tryz.mix (fS_l22Zero _) fun _ => ?_
  simp only [tS_l22Zero, T.wp]
  refine ⟨fun h1 => ⟨fun h2 => okE_b ?_, fun h2 => okE_no fun k => ?_⟩, fun h1 => okE_no fun k => ?_⟩
  · have q1 : x = 0 := by simpa using h1
    have q2 : n = false := by simpa using h2
    rw [beq_iff_eq, len_nil h]
    exact ⟨fun k => ⟨⟨q2, k⟩, q1⟩, fun k => k.1.2⟩
  · rw [k.1.1] at h2; cases h2
  · have q1 : ¬ x = 0 := by simpa using h1
    exact q1 k.2

/-! which parts a command has -/
theorem cS_l22Op (V : Know) (x : Int) : CallX Tryz.prog V gS_l22Op [.int .i64 x] (OkE V (1 ≤ x ∧ x ≤ 9)) := by
  refine CallX.of_fits Tryz.mix (fS_l22Op _) fun _ => ?_
  simp only [tS_l22Op, T.wp]
  refine (cS_l01In V x 1 9).mono ?_
  rintro V1 r ⟨rfl, rfl⟩
  exact ⟨nofun, _, rfl, okE_dec Iff.rfl⟩
theorem cS_l22Has (V : Know) (x : Int) : CallX Tryz.prog V gS_l22Has [.int .i64 x] (fun V' r => V' = V ∧
    r = .tuple #[.bool (decide (x = 4 ∨ x = 5 ∨ x = 7)), .bool (decide (x = 7)), .bool (decide (2 ≤ x ∧ x ≤ 7)), .bool (decide (x = 5 ∨ x = 7 ∨ x = 8))]) := by
  refine CallX.of_fits Tryz.mix (fS_l22Has _) fun _ => ?_
  simp only [tS_l22Has, T.wp]
  have key : ∀ {a b c d : Bool}, (a = true ↔ (x = 4 ∨ x = 5 ∨ x = 7)) → (b = true ↔ x = 7) → (c = true ↔ (2 ≤ x ∧ x ≤ 7)) → (d = true ↔ (x = 5 ∨ x = 7 ∨ x = 8)) →
      Value.tuple #[.bool a, .bool b, .bool c, .bool d] = .tuple #[.bool (decide (x = 4 ∨ x = 5 ∨ x = 7)), .bool (decide (x = 7)), .bool (decide (2 ≤ x ∧ x ≤ 7)), .bool (decide (x = 5 ∨ x = 7 ∨ x = 8))] := by
    intro a b c d ha hb hc hd
    rw [show a = decide (x = 4 ∨ x = 5 ∨ x = 7) from Bool.eq_iff_iff.2 (by rw [decide_eq_true_eq]; exact ha), show b = decide (x = 7) from Bool.eq_iff_iff.2 (by rw [decide_eq_true_eq]; exact hb),
      show c = decide (2 ≤ x ∧ x ≤ 7) from Bool.eq_iff_iff.2 (by rw [decide_eq_true_eq]; exact hc), show d = decide (x = 5 ∨ x = 7 ∨ x = 8) from Bool.eq_iff_iff.2 (by rw [decide_eq_true_eq]; exact hd)]
  refine ⟨fun h4 => ?_, fun h4 => ⟨fun h5 => ?_, fun h5 => ?_⟩⟩
  all_goals
    refine (cS_l01In V x 2 7).mono ?_
    rintro V1 r ⟨rfl, rfl⟩
    refine ⟨nofun, _, rfl, ?_⟩
    simp only [beq_iff_eq, beq_eq_false_iff_ne, ne_eq] at *
    refine ⟨fun h5 => ⟨by trivial, ?_⟩, fun h5 => ⟨fun h7 => ⟨by trivial, ?_⟩, fun h7 => ⟨by trivial, ?_⟩⟩⟩
    all_goals (refine key ?_ ?_ ?_ ?_ <;> simp only [beq_iff_eq, decide_eq_true_eq, true_iff] <;> omega)
end Go.Proofs.YtpnjdpomoijaaaaGreatDoor
