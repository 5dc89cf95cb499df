/-
  Texts of commands: names of operations and modes, joined words, weights, percents; in the program and in the reference.
-/
import Derived.Test.YtpnjdpomoijaaaaGreatDoorCmdC
import Derived.Test.YtpnjdpomoijaaaaGreatDoorTxtD
import Derived.Test.YtpnjdpomoijaaaaGreatDoorJoinM
namespace Go.Proofs.YtpnjdpomoijaaaaGreatDoor
open Sx Go.RowKit
set_option maxRecDepth 100000

/-! lists of texts in memory -/
def cellT (x : Tx) : Value := .string x.1
theorem els_txt {V : Know} : ∀ o : List Tx, (∀ x ∈ o, x.1.size ≤ 9223372036854775807) → Els rString V o o []
  | [], _ => rfl
  | x :: o, h => ⟨[], [], rfl, ⟨⟨rfl, h x (by simp)⟩, rfl⟩, els_txt o fun y hy => h y (by simp [hy])⟩
theorem els_txt_eq {V : Know} : ∀ {cs l : List Tx} {f : List Nat}, Els rString V cs l f → cs = l ∧ f = []
  | [], [], _, h => ⟨rfl, h⟩
  | (c, ()) :: cs, (x, ()) :: l, _, ⟨f, g, rfl, h1, h2⟩ => by
    obtain ⟨rfl, rfl⟩ := els_txt_eq h2
    have e1 : c = x := h1.1.1
    have e2 : f = [] := h1.2
    subst e1; subst e2
    exact ⟨rfl, rfl⟩
theorem flat_txt : ∀ o : List Tx, o.flatMap (Scs.vals [.s]) = o.map cellT
  | [] => rfl
  | x :: o => by rw [List.flatMap_cons, flat_txt o]; rfl
theorem newT {V : Know} {b cap : Nat} {o : List Tx} {spare : List Value} {t : TypeId} (hb : V b = none) (hc : o.length ≤ cap) (hl : o.length ≤ 9223372036854775807) (hz : ∀ x ∈ o, x.1.size ≤ 9223372036854775807) :
    LR rString (kset V b (o.map cellT ++ spare, (t, (0, 0)))) ⟨some ⟨b, 0, none⟩, o.length, cap⟩ o [b] ∧ Own V (kset V b (o.map cellT ++ spare, (t, (0, 0)))) [b] := by
  refine ⟨⟨rfl, hc, hl, .inr ⟨b, [], spare, (t, (0, 0)), [], o, rfl, ?_, els_txt o hz, rfl⟩⟩, by simp, ?_, ?_⟩
  · rw [kset_same, flat_txt]; rfl
  · intro b' hb'; simp at hb'; subst hb'; exact hb
  · intro b' hb'; simp at hb'; subst hb'; exact ⟨_, _, kset_same⟩

/-! joined words -/
theorem take_ne {l : List Tx} {k : Nat} (h0 : 0 < k) (h : k ≤ l.length) : l.take k ≠ [] := by
  intro e
  have : (l.take k).length = 0 := by rw [e]; rfl
  rw [List.length_take] at this
  omega
theorem cS_Join (V : Know) (s : SlV) (l : List Tx) (f : List Nat) (b : ByteArray) (h : LR rString V s l f) (hs : sumT l + l.length * b.size ≤ 1099511627776) :
    CallX Tryz.prog V gS_Join [Sc.val .l s, .string b] (fun V' r => V' = V ∧ r = .string (joinT l b)) := by
  refine CallX.of_fits Tryz.mix (fS_Join _ _) fun _ => ?_
  simp only [tS_Join, T.wp]
  have hn := h.1
  have h63 := h.2.2.1
  have hsz : ∀ k, k ≤ l.length → (joinT (l.take k) b).size ≤ 1099511627776 := by
    intro k hk
    have h1 := joinT_size (l.take k) b
    have h2 := sumT_take l k
    have h3 : (l.take k).length * b.size ≤ l.length * b.size := Nat.mul_le_mul_right _ (by rw [List.length_take]; omega)
    omega
  refine ⟨fun y V' => V' = V ∧ ∃ i : Nat, y.2.1 = (i : Int) ∧ i ≤ l.length ∧ y.1 = joinT (l.take i) b, fun y => ((l.length : Int) - (y.2.1 : Int)).toNat, ⟨(⟨#[]⟩, (0 : Int), ()), rfl, rfl, 0, rfl, by omega, rfl⟩, ?_⟩
  rintro ⟨(t : ByteArray), (i : Int), u⟩ V' ⟨rfl, k, hk, hkl, ht⟩
  replace hk : i = (k : Int) := hk
  replace ht : t = joinT (l.take k) b := ht
  subst hk ht
  refine ⟨fun hlt => ?_, fun hge => ?_⟩
  · have h1 : k < l.length := by
      have : (k : Int) < (s.n : Int) := of_decide_eq_true hlt
      omega
    obtain ⟨⟨bk, o, a1, l1⟩, z1⟩ := h.txt h1
    have e1 : l.take (k + 1) = l.take k ++ [l[k]] := List.take_succ_eq_append_getElem h1
    have s1 := hsz (k + 1) (by omega)
    have s0 := hsz k (by omega)
    have fin : ∀ t : ByteArray, t = joinT (l.take (k + 1)) b → ∃ N, ([fun vs V'' => ∃ y', vs = LShs.lvs [.o (.o .s), .o (.o (.i .i64))] y' ∧ (V'' = V' ∧ ∃ i : Nat, y'.2.1 = (i : Int) ∧ i ≤ l.length ∧ y'.1 = joinT (l.take i) b) ∧ ((l.length : Int) - (y'.2.1 : Int)).toNat < ((l.length : Int) - (k : Int)).toNat] : List (List LV → Know → Prop))[0]? = some N ∧ N [.v (.string t), .v (.int .i64 (IntKind.i64.wrap ((k : Int) + 1)))] V' := by
      intro t ht
      refine ⟨_, rfl, (t, ((k + 1 : Nat) : Int), ()), by rw [nxt h1 (by omega)]; rfl, ⟨rfl, k + 1, rfl, h1, ht⟩, ?_⟩
      show ((l.length : Int) - ((k + 1 : Nat) : Int)).toNat < ((l.length : Int) - (k : Int)).toNat
      omega
    refine ⟨_, a1, (by omega : (0 : Int) ≤ (k : Int)), (by omega : (k : Int) < (s.n : Int)), l[k].1, l1, fun hp => ?_, fun hz => ?_⟩
    · have hp' : (k : Int) > 0 := of_decide_eq_true hp
      rw [e1, joinT_snoc (take_ne (by omega) (by omega)), ByteArray.size_append, ByteArray.size_append] at s1
      refine ⟨?_, ?_, fin _ ?_⟩
      · show (joinT (l.take k) b).size + b.size ≤ _
        omega
      · show (joinT (l.take k) b ++ b).size + l[k].1.size ≤ _
        rw [ByteArray.size_append]
        omega
      · rw [e1, joinT_snoc (take_ne (by omega) (by omega))]
    · have hz' : ¬ (k : Int) > 0 := of_decide_eq_false hz
      obtain rfl : k = 0 := by omega
      rw [e1] at s1
      have e2 : joinT (List.take 0 l ++ [l[0]]) b = l[0].1 := joinT_one _ _
      rw [e2] at s1
      refine ⟨?_, fin _ ?_⟩
      · show (joinT (l.take 0) b).size + l[0].1.size ≤ _
        omega
      · rw [e1, e2]
        exact ba_empty_append _
  · have h1 : k = l.length := by
      have : ¬ (k : Int) < (s.n : Int) := of_decide_eq_false hge
      omega
    subst h1
    refine ⟨rfl, ?_⟩
    rw [List.take_length]
    rfl
theorem txt_obj {pre post : List Value} {cs : List Tx} {t : KTy} {x : Tx} (hx : x ∈ cs) : objOf (pre ++ (cs.map cellT ++ post)) t = .cells (pre ++ (cs.map cellT ++ post)).toArray t.1 t.2 := by
  unfold objOf
  split
  · rename_i es he
    exfalso
    have hm : cellT x ∈ pre ++ (cs.map cellT ++ post) := List.mem_append.2 (.inr (List.mem_append.2 (.inl (List.mem_map_of_mem hx))))
    rw [he] at hm
    simp [cellT] at hm
  · rfl
theorem cI_SJoin (V : Know) (s : SlV) (l : List Tx) (f : List Nat) (b : ByteArray) (h : LR rString V s l f) (hs : sumT l + l.length * b.size ≤ 1099511627776) (hl : l.length ≤ 1099511627776) :
    CallX Tryz.prog V 114 [Sc.val .l s, .string b] (fun V' r => V' = V ∧ r = .string (joinT l b)) := by
  have he : Sx.Enters Tryz.prog 114 := ⟨_, Tryz.func114, by kernel_rfl, by kernel_rfl⟩
  obtain ⟨hn, hc, h63, ⟨h0, _, _⟩ | ⟨bk, pre, post, t, fps, cs, ha, hV, hE, _⟩⟩ := h
  · have : l = [] := List.eq_nil_of_length_eq_zero (by omega)
    subst this
    refine CallX.of_calls he fun w _ => ?_
    have k := Tryz.strings_Join_none s.a s.c b w
    have e : ([Sc.val .l s, .string b] : List Value).toArray = #[.slice s.a 0 s.c, .string b] := by
      show #[Value.slice s.a s.n s.c, _] = _
      rw [h0]
    rw [e]
    refine k.mono ?_
    rintro e w' ⟨rfl, rfl⟩
    exact ⟨rfl, Below.refl _ _⟩
  · obtain ⟨rfl, _⟩ := els_txt_eq hE
    rw [flat_txt] at hV
    by_cases hemp : cs = []
    · subst hemp
      refine CallX.of_calls he fun w _ => ?_
      have k := Tryz.strings_Join_none s.a s.c b w
      have h0 : s.n = 0 := hn
      have e : ([Sc.val .l s, .string b] : List Value).toArray = #[.slice s.a 0 s.c, .string b] := by
        show #[Value.slice s.a s.n s.c, _] = _
        rw [h0]
      rw [e]
      refine k.mono ?_
      rintro e w' ⟨rfl, rfl⟩
      exact ⟨rfl, Below.refl _ _⟩
    refine CallX.of_calls he fun w hw => ?_
    have hw' := hw _ _ _ hV
    obtain ⟨x0, hx0⟩ : ∃ x, x ∈ cs := List.exists_mem_of_ne_nil cs hemp
    rw [txt_obj hx0] at hw'
    have hlt : bk < w.heap.size := (Array.getElem?_eq_some_iff.1 hw').1
    have hj := joinT_size cs b
    have hlen : (Go.Lib.join ((cs.map (·.1)).map (·.data.toList)) b.data.toList).length ≤ 140737488355328 := by
      have e : (joinT cs b).size = (Go.Lib.join ((cs.map (·.1)).map (·.data.toList)) b.data.toList).length := by
        show (Go.Lib.join (bytesL cs) b.data.toList).toArray.size = _
        rw [List.map_map]
        simp [bytesL]
        rfl
      rw [← e]
      omega
    have k := Tryz.strings_Join bk pre.length s.c (cs.map (·.1)) b w (fun j x hx => ?_) hlt (by rw [List.length_map]; omega) (by rw [List.length_map]; omega) hlen
    · have e : ([Sc.val .l s, .string b] : List Value).toArray = #[.slice (some ⟨bk, pre.length, none⟩) (cs.map (·.1)).length s.c, .string b] := by
        show #[Value.slice s.a s.n s.c, _] = _
        rw [ha, hn, List.length_map]
      rw [e]
      refine k.mono ?_
      rintro e w' ⟨rfl, hb⟩
      refine ⟨?_, hb⟩
      have : joinT cs b = ⟨(Go.Lib.join ((cs.map (·.1)).map (·.data.toList)) b.data.toList).toArray⟩ := by
        unfold joinT bytesL
        rw [List.map_map]
        rfl
      rw [this]
    · unfold World.cell?
      rw [hw']
      have hjl : j < cs.length := by
        by_cases q : j < cs.length
        · exact q
        · rw [List.getElem?_eq_none (by rw [List.length_map]; omega)] at hx; cases hx
      have hx' : cs[j].1 = x := by
        rw [List.getElem?_map, List.getElem?_eq_getElem hjl] at hx
        simpa using hx
      have q : (pre ++ (cs.map cellT ++ post))[pre.length + j]? = some (.string x) := by
        rw [List.getElem?_append_right (by omega), Nat.add_sub_cancel_left, List.getElem?_append_left (by rw [List.length_map]; exact hjl), List.getElem?_map, List.getElem?_eq_getElem hjl]
        show some (Value.string cs[j].1) = _
        rw [hx']
      simpa using q
theorem cI_Join (V : Know) (s : SlV) (l : List Tx) (f : List Nat) (b : ByteArray) (h : LR rString V s l f) (hs : sumT l + l.length * b.size ≤ 1099511627776) (hl : l.length ≤ 1099511627776) :
    CallX Tryz.prog V gI_Join [Sc.val .l s, .string b] (fun V' r => V' = V ∧ r = .string (joinT l b)) := by
  refine CallX.of_fits Tryz.mix (fI_Join _ _) fun _ => ?_
  simp only [tI_Join, T.wp]
  refine (cI_SJoin V s l f b h hs hl).mono ?_
  rintro V1 r ⟨rfl, rfl⟩
  exact ⟨nofun, _, rfl, by trivial, rfl⟩
end Go.Proofs.YtpnjdpomoijaaaaGreatDoor
