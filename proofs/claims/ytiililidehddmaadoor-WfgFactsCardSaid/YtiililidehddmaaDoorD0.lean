import Derived.Test.YtiililidehddmaaDoorC6
namespace Go.Proofs.YtiililidehddmaaDoor

/- Plain: the ring of two. -/
structure Two (g : List Nat) : Prop where
  h0 : gAt g 0 = 2
  h1 : gAt g 1 = 1
  h2 : ∀ k, 2 ≤ k → gAt g k = 0

section
variable {g : List Nat} (ht : Two g)
include ht

theorem two_hi (k : Nat) (hk : 1 ≤ k) : bitsOf (hiOf (gAt g k) k) = [] := by
  have e : hiOf (gAt g k) k = 0 := by
    apply Nat.eq_of_testBit_eq
    intro j
    rw [hiOf_bit, Nat.zero_testBit]
    by_cases hj : k ≤ j
    · have : (gAt g k).testBit j = false := by
        by_cases e : k = 1
        · subst e; rw [ht.h1]; exact Nat.testBit_lt_two_pow (Nat.lt_of_lt_of_le (by decide : 1 < 2 ^ 1) (Nat.pow_le_pow_right (by omega) hj))
        · rw [ht.h2 k (by omega)]; simp
      simp [this]
    · simp [hj]
  rw [e, bitsOf_zero]

theorem two_ways (k : Nat) (hk : 1 ≤ k) (r : Nat) : waysW g k r k = 65 := by
  induction r with
  | zero => exact waysW_zero _ _ _
  | succ r ih => rw [waysW_succ, two_hi ht k hk, ih]; simp

theorem two_hi0 : bitsOf (hiOf (gAt g 0) 0) = [1] := by rw [ht.h0]; decide +kernel
theorem two_hi1 : bitsOf (hiOf (gAt g 1) 0) = [0] := by rw [ht.h1]; decide +kernel

theorem two_w1 (r : Nat) (hr : 1 ≤ r) : waysW g 0 r 1 = 1 := by
  induction r with
  | zero => omega
  | succ r ih =>
    rw [waysW_succ, two_hi1 ht]
    by_cases e : r = 0
    · subst e; rw [waysW_zero]; simp [tells]
    · rw [ih (by omega)]; simp

theorem two_w0 (r : Nat) (hr : 2 ≤ r) : waysW g 0 r 0 = 2 := by
  induction r with
  | zero => omega
  | succ r ih =>
    rw [waysW_succ, two_hi0 ht]
    by_cases e : r = 1
    · subst e
      have w10 : waysW g 0 1 0 = 65 := by rw [waysW_succ, two_hi0 ht, waysW_zero]; simp [tells, waysW_zero]
      have w11 := two_w1 ht 1 (by omega)
      rw [w10]; simp [tells, w11]
    · rw [ih (by omega)]; simp

theorem two_best (k : Nat) (hk : 1 ≤ k) : bestTo g k = (2, 0) := by
  induction k with
  | zero => omega
  | succ k ih =>
    rw [bestTo_succ]
    by_cases e : k = 0
    · subst e; rw [bestTo_zero, ringLen_eq, two_w0 ht 64 (by omega)]; simp
    · rw [ih (by omega), ringLen_eq, two_ways ht k (by omega)]; simp

theorem two_ring : ringF g = [0, 1] := by
  unfold ringF
  rw [two_best ht 64 (by omega)]
  simp only []
  rw [if_neg (by decide)]
  have hn : nextOk g 0 (2 - [0].length) (gAt [1] 0) = true := by
    simp [nextOk, gAt, two_w1 ht 64 (by omega)]
  rw [ringGo_some g 0 2 63 0 [0] [1] 0 (by decide) (two_hi0 ht) (by decide) (fun i hi => by omega) hn]
  rw [ringGo_stop _ _ _ _ _ _ (by decide)]
  rfl

theorem two_all (k : Nat) (hk : 2 ≤ k) : allTo g k = 3 := by
  induction k with
  | zero => omega
  | succ k ih =>
    rw [allTo_succ]
    by_cases e : k = 1
    · subst e
      rw [ht.h1, if_neg (by decide), allTo_succ, ht.h0, if_neg (by decide), allTo_zero]
      decide
    · rw [ht.h2 k (by omega), if_pos rfl, ih (by omega)]

theorem two_order : orderF g = none := by
  rw [orderF_eq, two_all ht 64 (by omega), show bitsOf 3 = [0, 1] by decide +kernel]
  refine orderGo_none g 63 0 [0, 1] [] (by simp) ?_
  rw [idxOf_none]
  · decide
  · intro i hi
    rw [free_eq]
    match i, hi with
    | 0, _ => rw [show gAt [0, 1] 0 = 0 from rfl, ht.h0]; decide
    | 1, _ => rw [show gAt [0, 1] 1 = 1 from rfl, ht.h1]; decide

theorem two_len (k : Nat) (hk : 2 ≤ k) : lenTo g k = 2 := by
  induction k with
  | zero => omega
  | succ k ih =>
    rw [lenTo_succ]
    by_cases e : k = 1
    · subst e
      rw [ht.h1, lenTo_succ, ht.h0, lenTo_zero, pop64_eq, pop64_eq]
      decide
    · rw [ht.h2 k (by omega), ih (by omega), pop64_eq]; decide

theorem two_edge (a b : Nat) : Edge g a b ↔ (a = 0 ∧ b = 1) ∨ (a = 1 ∧ b = 0) := by
  unfold Edge
  match a with
  | 0 =>
    rw [ht.h0]
    rw [show (2 : Nat) = 2 ^ 1 from rfl, Nat.testBit_two_pow]
    simp; omega
  | 1 =>
    rw [ht.h1]
    rw [show (1 : Nat) = 2 ^ 0 from rfl, Nat.testBit_two_pow]
    simp; omega
  | a + 2 => rw [ht.h2 (a + 2) (by omega)]; simp

theorem two_way (j : Nat) : Way g 0 j ↔ j = 0 ∨ j = 1 := by
  constructor
  · intro h
    cases h with
    | single e => rw [two_edge ht] at e; omega
    | tail _ e => rw [two_edge ht] at e; omega
  · rintro (rfl | rfl)
    · exact .tail (.single ((two_edge ht 0 1).2 (by simp))) ((two_edge ht 1 0).2 (by simp))
    · exact .single ((two_edge ht 0 1).2 (by simp))

theorem two_reach : (reachL g 0).length = 2 := by
  have e : reachL g 0 = bitsOf 3 := by
    symm
    apply reachL_of
    intro j
    rw [show Int.toNat 0 = 0 from rfl, two_way ht]
    constructor
    · intro h
      refine ⟨by decide, ?_⟩
      have : j < 2 := by
        rcases Nat.lt_or_ge j 2 with h' | h'
        · exact h'
        · rw [Nat.testBit_lt_two_pow (Nat.lt_of_lt_of_le (by decide : 3 < 2 ^ 2) (Nat.pow_le_pow_right (by omega) h'))] at h
          exact absurd h (by simp)
      omega
    · rintro ⟨_, rfl | rfl⟩ <;> decide
  rw [e]; decide +kernel
end

def twoE : List (Int × Int) := [(0, 1), (1, 0)]
theorem twoG : Two (theirsG twoE) := by
  have e : theirsG twoE = addG (addG zeroG 0 1) 1 0 := rfl
  have z : ∀ k, gAt zeroG k = 0 := fun k => by unfold gAt zeroG; rw [List.getD_eq_getElem?_getD, List.getElem?_replicate]; split <;> rfl
  have l0 : zeroG.length = 64 := zeroG_wf.len
  have l1 : (addG zeroG 0 1).length = 64 := by simp [addG, l0]
  rw [e]
  refine ⟨?_, ?_, fun k hk => ?_⟩
  · unfold addG; rw [gAt_set _ _ _ _ (by simp [l0]), if_neg (by omega), gAt_set _ _ _ _ (by omega), if_pos rfl, z]; decide
  · show gAt (List.set _ _ _) _ = _
    rw [gAt_set _ _ _ _ (by rw [l1]; omega), if_pos rfl]
    unfold addG; rw [gAt_set _ _ _ _ (by omega), if_neg (by omega), z]; decide
  · unfold addG; rw [gAt_set _ _ _ _ (by simp [l0]), if_neg (by omega), gAt_set _ _ _ _ (by omega), if_neg (by omega), z]

end Go.Proofs.YtiililidehddmaaDoor
