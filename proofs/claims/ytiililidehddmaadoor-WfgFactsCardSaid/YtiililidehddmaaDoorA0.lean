import Derived.Lib.TrailingZeros
/- Plain facts on sets of bits. No Go. -/
namespace Go.Proofs.YtiililidehddmaaDoor

/-- The bits of a set, rising. -/
def bitsOf (s : Nat) : List Nat := (List.range 64).filter (fun i => s.testBit i)

theorem bitsOf_zero : bitsOf 0 = [] := by simp [bitsOf]

theorem low_split (k m : Nat) : 2 ^ k * (2 * m + 1) - 1 = 2 ^ k * (2 * m) + (2 ^ k - 1) := by
  have : 0 < 2 ^ k := Nat.two_pow_pos k
  rw [Nat.mul_add]; omega

theorem testBit_odd (m j : Nat) : (2 * m + 1).testBit (j + 1) = m.testBit j := by
  rw [Nat.testBit_succ]; congr 1; omega
theorem testBit_even (m j : Nat) : (2 * m).testBit (j + 1) = m.testBit j := by
  rw [Nat.testBit_succ]; congr 1; omega

theorem low_bits (k m j : Nat) : (2 ^ k * (2 * m + 1)).testBit j = if j < k then false else if j = k then true else m.testBit (j - k - 1) := by
  have h := Nat.testBit_two_pow_mul_add (2 * m + 1) (b := 0) (Nat.two_pow_pos k) j
  rw [Nat.add_zero] at h
  rw [h]
  by_cases h1 : j < k
  · rw [if_pos h1, if_pos h1]; simp
  · rw [if_neg h1, if_neg h1]
    by_cases h2 : j = k
    · subst h2; simp
    · rw [if_neg h2]
      obtain ⟨d, hd⟩ : ∃ d, j - k = d + 1 := ⟨j - k - 1, by omega⟩
      rw [hd, testBit_odd]; simp

theorem low_and_bits (k m j : Nat) : ((2 ^ k * (2 * m + 1)) &&& (2 ^ k * (2 * m + 1) - 1)).testBit j = if j ≤ k then false else (2 ^ k * (2 * m + 1)).testBit j := by
  rw [Nat.testBit_and, low_bits, low_split, Nat.testBit_two_pow_mul_add _ (by have := Nat.two_pow_pos k; omega) j]
  by_cases h1 : j < k
  · rw [if_pos h1, if_pos (by omega)]; simp
  · rw [if_neg h1, if_neg h1]
    by_cases h2 : j = k
    · subst h2; simp
    · rw [if_neg h2, if_neg (by omega)]
      obtain ⟨d, hd⟩ : ∃ d, j - k = d + 1 := ⟨j - k - 1, by omega⟩
      rw [hd, testBit_even]; simp

theorem range_split (k n : Nat) (h : k < n) : List.range n = List.range k ++ k :: List.range' (k + 1) (n - k - 1) := by
  obtain ⟨d, rfl⟩ : ∃ d, n = k + (d + 1) := ⟨n - k - 1, by omega⟩
  rw [List.range_eq_range', List.range_eq_range', ← List.range'_append_1, List.range'_succ, show k + (d + 1) - k - 1 = d from by omega, Nat.zero_add]

theorem bitsOf_step (s : Nat) (h0 : s ≠ 0) (h : s < 2 ^ 64) : bitsOf s = Lib.ctz 64 s :: bitsOf (s &&& (s - 1)) ∧ s &&& (s - 1) < s := by
  obtain ⟨m, hm, hk⟩ : ∃ m, s = 2 ^ Lib.ctz 64 s * (2 * m + 1) ∧ Lib.ctz 64 s < 64 := by
    obtain ⟨m, hm, hk⟩ := Lib.ctzFrom_spec 64 s (by omega) h
    have e : Lib.ctz 64 s = Lib.ctzFrom 64 s := by simp [Lib.ctz, h0]
    exact ⟨m, by rw [e]; exact hm, by rw [e]; exact hk⟩
  generalize Lib.ctz 64 s = k at hm hk
  have hlt : s &&& (s - 1) < s := Nat.lt_of_le_of_lt Nat.and_le_right (by omega)
  refine ⟨?_, hlt⟩
  unfold bitsOf
  rw [range_split k 64 hk, List.filter_append, List.filter_append]
  have a1 : (List.range k).filter (fun i => s.testBit i) = [] := by
    rw [List.filter_eq_nil_iff]
    intro i hi
    have hi' := List.mem_range.1 hi
    rw [hm, low_bits, if_pos hi']; simp
  have a2 : (List.range k).filter (fun i => (s &&& (s - 1)).testBit i) = [] := by
    rw [List.filter_eq_nil_iff]
    intro i hi
    have hi' := List.mem_range.1 hi
    rw [hm, low_and_bits, if_pos (by omega)]; simp
  rw [a1, a2, List.nil_append, List.nil_append, List.filter_cons_of_pos, List.filter_cons_of_neg]
  · congr 1
    apply List.filter_congr
    intro i hi
    have hi' := (List.mem_range'_1.1 hi).1
    rw [hm, low_and_bits, if_neg (by omega)]
  · rw [hm, low_and_bits, if_pos (Nat.le_refl _)]; simp
  · rw [hm, low_bits, if_neg (Nat.lt_irrefl _), if_pos rfl]

theorem bitsOf_len (s : Nat) : (bitsOf s).length ≤ 64 := by
  have := List.length_filter_le (fun i => s.testBit i) (List.range 64)
  rw [List.length_range] at this; exact this

end Go.Proofs.YtiililidehddmaaDoor
