import Derived.Test.YtiililidehddmaaDoorF3
import Derived.Test.YtiililidehddmaaDoorG1
namespace Go.Proofs.YtiililidehddmaaDoor
/- Plain: the order, the document's and the reference's. -/

theorem allTo_bit (g : List Nat) (K j : Nat) : (allTo g K).testBit j = true ↔ ∃ k, k < K ∧ (Edge g k j ∨ (j = k ∧ gAt g k ≠ 0)) := by
  induction K with
  | zero => rw [allTo_zero]; simp
  | succ K ih =>
    rw [allTo_succ]
    split
    · rename_i h0
      rw [ih]
      constructor
      · rintro ⟨k, hk, h⟩; exact ⟨k, by omega, h⟩
      · rintro ⟨k, hk, h⟩
        by_cases e : k = K
        · subst e
          rcases h with h | h
          · unfold Edge at h; rw [h0] at h; simp at h
          · exact absurd h0 h.2
        · exact ⟨k, by omega, h⟩
    · rename_i h0
      rw [Nat.testBit_or, Nat.testBit_or, Nat.testBit_two_pow, Bool.or_eq_true, Bool.or_eq_true, ih, decide_eq_true_eq]
      constructor
      · rintro ((⟨k, hk, h⟩ | h) | h)
        · exact ⟨k, by omega, h⟩
        · exact ⟨K, by omega, .inl h⟩
        · exact ⟨K, by omega, .inr ⟨h.symm, h0⟩⟩
      · rintro ⟨k, hk, h⟩
        by_cases e : k = K
        · subst e
          rcases h with h | h
          · exact .inl (.inr h)
          · exact .inr h.1.symm
        · exact .inl (.inl ⟨k, by omega, h⟩)

theorem ne_zero_bit {x : Nat} : x ≠ 0 ↔ ∃ j, x.testBit j = true := by
  constructor
  · intro h
    obtain ⟨j, hj⟩ := Nat.exists_testBit_of_ne_zero h
    exact ⟨j, hj⟩
  · rintro ⟨j, hj⟩ rfl; simp at hj

theorem okTo_is (out N : List Nat) (b : Bool) (k : Nat) : okTo out N b k = true ↔ b = true ∧ ∀ i, i < k → gAt N i ∈ out := by
  induction k with
  | zero => rw [okTo_zero]; simp
  | succ k ih =>
    rw [okTo_succ, Bool.and_eq_true, ih, hasN_iff]
    constructor
    · rintro ⟨⟨h1, h2⟩, h3⟩
      refine ⟨h1, fun i hi => ?_⟩
      by_cases e : i = k
      · rw [e]; exact h3
      · exact h2 i (by omega)
    · rintro ⟨h1, h2⟩
      exact ⟨⟨h1, fun i hi => h2 i (by omega)⟩, h2 k (by omega)⟩

theorem find_filter_same (p q r : Nat → Bool) (A : List Nat) (h : ∀ a ∈ A, p a = (q a && r a)) : A.find? p = (A.filter q).find? r := by
  induction A with
  | nil => rfl
  | cons x A ih =>
    have ih' := ih (fun a ha => h a (by simp [ha]))
    have hx := h x (by simp)
    cases hq : q x
    · rw [List.filter_cons_of_neg (by simp [hq]), List.find?_cons_of_neg (by rw [hx, hq]; simp), ih']
    · rw [List.filter_cons_of_pos hq]
      cases hr : r x
      · rw [List.find?_cons_of_neg (by rw [hx, hq, hr]; simp), List.find?_cons_of_neg (by rw [hr]; simp), ih']
      · rw [List.find?_cons_of_pos (by rw [hx, hq, hr]; rfl), List.find?_cons_of_pos hr]

theorem erase_filter (L : List Nat) (hL : L.Nodup) : ∀ j, j < L.length → L.eraseIdx j = L.filter (fun x => !(x == gAt L j)) := by
  induction L with
  | nil => intro j hj; simp at hj
  | cons a L ih =>
    intro j hj
    rw [List.nodup_cons] at hL
    cases j with
    | zero =>
      have e0 : gAt (a :: L) 0 = a := rfl
      rw [List.eraseIdx_cons_zero, e0, List.filter_cons_of_neg (by simp)]
      symm
      rw [List.filter_eq_self]
      intro x hx
      simp only [Bool.not_eq_true', beq_eq_false_iff_ne]
      rintro rfl
      exact hL.1 hx
    | succ j =>
      have e1 : gAt (a :: L) (j + 1) = gAt L j := rfl
      have hj' : j < L.length := by simp at hj; omega
      have hm := gAt_mem L j hj'
      rw [List.eraseIdx_cons_succ, e1, ih hL.2 j hj', List.filter_cons_of_pos]
      simp only [Bool.not_eq_true', beq_eq_false_iff_ne]
      rintro e
      exact hL.1 (by rw [e]; exact hm)

/-- Who is still to come. -/
def leftOf (A out : List Nat) : List Nat := A.filter fun x => !hasN out (x : Int)

theorem leftOf_snoc (A out : List Nat) (x : Nat) : (leftOf A out).filter (fun y => !(y == x)) = leftOf A (out ++ [x]) := by
  unfold leftOf
  rw [List.filter_filter]
  apply List.filter_congr
  intro y _
  rw [Bool.eq_iff_iff]
  simp only [Bool.and_eq_true, Bool.not_eq_true', Bool.eq_false_iff, Ne, beq_iff_eq, hasN_iff, List.mem_append, List.mem_singleton]
  constructor
  · rintro ⟨h1, h2⟩ h3; rcases h3 with h3 | h3; exact h2 h3; exact h1 h3
  · intro h; exact ⟨fun e => h (.inr e), fun e => h (.inl e)⟩

section
variable {g : List Nat} {E : List (Int × Int)} (h : Link g E)
include h

theorem Link.all : bitsOf (allTo g 64) = rAll E := by
  unfold rAll
  rw [selTo_bits]
  unfold bitsOf
  apply List.filter_congr
  intro k hk
  have hk' := List.mem_range.1 hk
  rw [Bool.eq_iff_iff, allTo_bit, touch_iff]
  constructor
  · rintro ⟨a, ha, he | ⟨rfl, h0⟩⟩
    · obtain ⟨i, hi, h1, h2⟩ := (h.redge a k).2 he
      exact ⟨i, hi, .inr h2⟩
    · obtain ⟨j, hj⟩ := ne_zero_bit.1 h0
      obtain ⟨i, hi, h1, h2⟩ := (h.redge k j).2 hj
      exact ⟨i, hi, .inl h1⟩
  · rintro ⟨i, hi, h1⟩
    obtain ⟨ha, hb⟩ := h.Ends i hi
    obtain ⟨a, hae, ha64⟩ := nodeB_true ha
    obtain ⟨b, hbe, hb64⟩ := nodeB_true hb
    have he := (h.redge a b).1 ⟨i, hi, hae, hbe⟩
    rcases h1 with h1 | h1
    · have : a = k := by omega
      subst this
      exact ⟨a, ha64, .inr ⟨rfl, ne_zero_bit.2 ⟨b, he⟩⟩⟩
    · have : b = k := by omega
      subst this
      exact ⟨a, ha64, .inl he⟩

theorem Link.frees (out : List Nat) (d n : Nat) (hn : n < 64) (hd : d < 2 ^ 64) (hdo : ∀ k, d.testBit k = true ↔ k ∈ out) : rFree E out n = (!hasN out (n : Int) && free g d n) := by
  rw [Bool.eq_iff_iff, Bool.and_eq_true, rFree_eq, okTo_is, free_eq, beq_iff_eq, h.rnext n hn]
  refine and_congr_right fun _ => ?_
  constructor
  · intro h1
    apply Nat.eq_of_testBit_eq
    intro j
    rw [minus_bit _ _ (h.wf.lt n) hd, Nat.zero_testBit]
    cases hj : (gAt g n).testBit j
    · rfl
    · obtain ⟨i, hi, e⟩ := gAt_of_mem ((mem_bitsOf (h.wf.lt n)).2 hj)
      have := h1 i hi
      rw [e] at this
      rw [(hdo j).2 this]; rfl
  · intro h1 i hi
    have hm := (mem_bitsOf (h.wf.lt n)).1 (gAt_mem _ i hi)
    have h2 := minus_bit (gAt g n) d (h.wf.lt n) hd (gAt (bitsOf (gAt g n)) i)
    rw [h1, Nat.zero_testBit, hm, Bool.true_and] at h2
    apply (hdo _).1
    cases hc : d.testBit (gAt (bitsOf (gAt g n)) i)
    · rw [hc] at h2; simp at h2
    · rfl

theorem Link.order_go (A : List Nat) (hA : A.Nodup) (hA64 : ∀ x ∈ A, x < 64) (f : Nat) : ∀ (out : List Nat) (d fuel : Nat), (leftOf A out).length = f → f ≤ fuel → d < 2 ^ 64 → (∀ k, d.testBit k = true ↔ k ∈ out) →
    orderGo g fuel (leftOf A out) d out = rOrderGo E A f out := by
  induction f with
  | zero =>
    intro out d fuel hf _ _ _
    rw [rOrderGo_zero, List.length_eq_zero_iff.1 hf, orderGo_done]
  | succ f ih =>
    intro out d fuel hf hfu hd hdo
    obtain ⟨fuel, rfl⟩ : ∃ k, fuel = k + 1 := ⟨fuel - 1, by omega⟩
    have hne : leftOf A out ≠ [] := by
      intro e; rw [e] at hf; simp at hf
    have hfind : A.find? (rFree E out) = (leftOf A out).find? (free g d) := find_filter_same _ _ _ A fun a ha => h.frees out d a (hA64 a ha) hd hdo
    rcases idxOf_cases (free g d) (leftOf A out) with ⟨h1, h2⟩ | ⟨j, hj, h1, h2, h3, h4⟩
    · rw [orderGo_none _ _ _ _ _ hne (by omega)]
      rw [h2, List.find?_eq_none] at hfind
      symm
      apply rOrderGo_none
      intro i hi
      have := hfind _ (gAt_mem A i hi)
      simpa using this
    · rw [orderGo_step _ _ _ _ _ _ hne h1]
      generalize hx : gAt (leftOf A out) j = x at *
      have hnd : (leftOf A out).Nodup := by unfold leftOf; exact List.Pairwise.filter _ hA
      have hxm : x ∈ leftOf A out := by rw [← hx]; exact gAt_mem _ j hj
      have hxA : x ∈ A := by unfold leftOf at hxm; exact (List.mem_filter.1 hxm).1
      have her : (leftOf A out).eraseIdx j = leftOf A (out ++ [x]) := by
        rw [erase_filter _ hnd j hj, hx, leftOf_snoc]
      have hlen : (leftOf A (out ++ [x])).length = f := by
        rw [← her, List.length_eraseIdx, if_pos hj]; omega
      rw [her, ih (out ++ [x]) _ fuel hlen (by omega) (Nat.or_lt_two_pow hd (Nat.pow_lt_pow_right (by omega) (hA64 x hxA))) (fun k => by
        rw [Nat.testBit_or, Nat.testBit_two_pow, Bool.or_eq_true, hdo k, decide_eq_true_eq, List.mem_append, List.mem_singleton]
        constructor
        · rintro (h | h); exact .inl h; exact .inr h.symm
        · rintro (h | h); exact .inl h; exact .inr h.symm)]
      rw [h2] at hfind
      obtain ⟨hp, la, lb, hab, hno⟩ := List.find?_eq_some_iff_append.1 hfind
      have hj2 : la.length < A.length := by rw [hab]; simp
      have hxj : gAt A la.length = x := by rw [hab]; simp [gAt]
      have := rOrderGo_some E A out f la.length hj2 (fun i hi => by
        have hi2 : gAt A i = la[i] := by rw [hab]; simp [gAt, List.getElem?_append_left hi, hi]
        rw [hi2]
        have := hno _ (List.getElem_mem hi)
        simpa using this) (by rw [hxj]; exact hp)
      rw [this, hxj]

theorem order_same : orderF g = rOrder E := by
  have hA := h.all
  have hnd : (rAll E).Nodup := by rw [← hA]; unfold bitsOf; exact List.Pairwise.filter _ List.nodup_range
  have h64 : ∀ x ∈ rAll E, x < 64 := by
    intro x hx
    rw [← hA] at hx
    exact bit_lt (allTo_lt h.wf 64 (Nat.le_refl _)) ((mem_bitsOf (allTo_lt h.wf 64 (Nat.le_refl _))).1 hx)
  have hlen : (rAll E).length ≤ 64 := by rw [← hA]; exact bitsOf_len _
  have hl0 : leftOf (rAll E) [] = rAll E := by
    unfold leftOf
    rw [List.filter_eq_self]
    intro x _
    rw [hasN_eq]; rfl
  have := h.order_go (rAll E) hnd h64 (rAll E).length [] 0 64 (by rw [hl0]) hlen (Nat.two_pow_pos 64) (fun k => by simp)
  rw [hl0] at this
  rw [orderF_eq, rOrder_eq, hA, this]

end
end Go.Proofs.YtiililidehddmaaDoor
