import Derived.Test.YtiililidehddmaaDoorA0b
/- Plain: how many edges lead back to a node at least, over nodes from it on, as 'ways' reckons it round by round. No Go. -/
namespace Go.Proofs.YtiililidehddmaaDoor

/-- The bits from s on. -/
def hiOf (x s : Nat) : Nat := x / 2 ^ s * 2 ^ s
theorem hiOf_bit (x s j : Nat) : (hiOf x s).testBit j = (decide (s ≤ j) && x.testBit j) := by
  unfold hiOf
  rw [Nat.testBit_mul_two_pow]
  by_cases h : s ≤ j
  · simp only [h, decide_true, Bool.true_and]
    rw [Nat.testBit_div_two_pow, Nat.sub_add_cancel h]
  · simp [h]
theorem hiOf_lt {x : Nat} (hx : x < 2 ^ 64) (s : Nat) : hiOf x s < 2 ^ 64 := Nat.lt_of_le_of_lt (Nat.div_mul_le_self x (2 ^ s)) hx

/-- Does an edge to k tell that its node is r edges away? 'f': what was known a round ahead. -/
def tells (s r : Nat) (f : Nat → Nat) (k : Nat) : Bool := k == s && r == 1 || k != s && f k == r - 1

/-- Behind r rounds. -/
def waysW (g : List Nat) (s : Nat) : Nat → Nat → Nat
  | 0, _ => 65
  | r + 1, n => if s ≤ n ∧ waysW g s r n = 65 ∧ (bitsOf (hiOf (gAt g n) s)).any (tells s (r + 1) (waysW g s r)) = true then r + 1 else waysW g s r n

theorem waysW_zero (g : List Nat) (s n : Nat) : waysW g s 0 n = 65 := rfl
theorem waysW_succ (g : List Nat) (s r n : Nat) : waysW g s (r + 1) n = if s ≤ n ∧ waysW g s r n = 65 ∧ (bitsOf (hiOf (gAt g n) s)).any (tells s (r + 1) (waysW g s r)) = true then r + 1 else waysW g s r n := rfl

theorem waysW_range (g : List Nat) (s r n : Nat) : (1 ≤ waysW g s r n ∧ waysW g s r n ≤ r) ∨ waysW g s r n = 65 := by
  induction r with
  | zero => exact .inr rfl
  | succ r ih => rw [waysW_succ]; split <;> omega

theorem waysW_le (g : List Nat) (s r n : Nat) (hr : r ≤ 64) : waysW g s r n ≤ 65 := by
  have := waysW_range g s r n; omega

/-- Half-way through a round: the nodes below m have been looked at. -/
def midW (g : List Nat) (s r m n : Nat) : Nat := if n < m then waysW g s (r + 1) n else waysW g s r n

theorem midW_start (g : List Nat) (s r n : Nat) : midW g s r s n = waysW g s r n := by
  unfold midW
  split
  · rw [waysW_succ, if_neg (by omega)]
  · rfl
theorem midW_end (g : List Nat) (s r n : Nat) (h : n < 64) : midW g s r 64 n = waysW g s (r + 1) n := by unfold midW; rw [if_pos h]

theorem midW_self (g : List Nat) (s r m : Nat) : midW g s r m m = waysW g s r m := by unfold midW; rw [if_neg (by omega)]

theorem midW_next (g : List Nat) (s r m n : Nat) : midW g s r (m + 1) n = if n = m then waysW g s (r + 1) m else midW g s r m n := by
  unfold midW
  by_cases e : n = m
  · subst e; rw [if_pos (by omega), if_pos rfl]
  · rw [if_neg e]
    by_cases h : n < m
    · rw [if_pos h, if_pos (by omega)]
    · rw [if_neg h, if_neg (by omega)]

theorem midW_le (g : List Nat) (s r m n : Nat) (hr : r < 64) : midW g s r m n ≤ 65 := by
  unfold midW; split
  · exact waysW_le _ _ _ _ (by omega)
  · exact waysW_le _ _ _ _ (by omega)

/-- What 'ways' asks of a neighbour half-way is what it was a round ahead. -/
theorem midW_ask (g : List Nat) (s r m k : Nat) (hr : r < 64) : (midW g s r m k == r) = (waysW g s r k == r) := by
  unfold midW
  split
  · rw [waysW_succ]
    split
    · rename_i h
      rw [h.2.1]
      rw [Bool.eq_iff_iff]; simp; omega
    · rfl
  · rfl

/-- At node m, the first j of its neighbours have been looked at. -/
def inW (g : List Nat) (s r m j : Nat) : Nat :=
  if waysW g s r m = 65 ∧ ((bitsOf (hiOf (gAt g m) s)).take j).any (tells s (r + 1) (waysW g s r)) = true then r + 1 else waysW g s r m

theorem inW_zero (g : List Nat) (s r m : Nat) : inW g s r m 0 = waysW g s r m := by simp [inW]
theorem inW_le (g : List Nat) (s r m j : Nat) (hr : r < 64) : inW g s r m j ≤ 65 := by
  have := waysW_le g s r m (by omega)
  unfold inW; split <;> omega

theorem take_succ_gAt (l : List Nat) (j : Nat) (h : j < l.length) : l.take (j + 1) = l.take j ++ [gAt l j] := by
  rw [List.take_add_one, List.getElem?_eq_getElem h]; simp [gAt, List.getElem?_eq_getElem h]

theorem inW_succ (g : List Nat) (s r m j : Nat) (hj : j < (bitsOf (hiOf (gAt g m) s)).length) :
    inW g s r m (j + 1) = if inW g s r m j = 65 ∧ tells s (r + 1) (waysW g s r) (gAt (bitsOf (hiOf (gAt g m) s)) j) = true then r + 1 else inW g s r m j := by
  unfold inW
  rw [take_succ_gAt _ _ hj, List.any_append]
  generalize (List.take j (bitsOf (hiOf (gAt g m) s))).any (tells s (r + 1) (waysW g s r)) = b
  simp only [List.any_cons, List.any_nil, Bool.or_false, Bool.or_eq_true]
  by_cases h1 : waysW g s r m = 65
  · rw [h1]
    cases b <;> simp <;> intros <;> omega
  · simp [h1]

theorem inW_end (g : List Nat) (s r m : Nat) (hm : s ≤ m) : inW g s r m (bitsOf (hiOf (gAt g m) s)).length = waysW g s (r + 1) m := by
  unfold inW
  rw [List.take_length, waysW_succ]
  by_cases h1 : waysW g s r m = 65 <;> simp [h1, hm]

theorem in_ask (g : List Nat) (s r m j k : Nat) (hr : r < 64) (h : inW g s r m j = 65) :
    ((if k = m then inW g s r m j else midW g s r m k) == r) = (waysW g s r k == r) := by
  by_cases e : k = m
  · rw [if_pos e, h, e]
    have hw : waysW g s r m = 65 := by
      unfold inW at h
      split at h
      · omega
      · exact h
    rw [hw]
  · rw [if_neg e]; exact midW_ask g s r m k hr

theorem in_next {g L : List Nat} {s r m j y : Nat} (hr : r < 64) (hL : bitsOf (hiOf (gAt g m) s) = L) (hj : j < L.length) (h : inW g s r m j = 65)
    (hy : (if gAt L j = m then inW g s r m j else midW g s r m (gAt L j)) = y) (ht : (gAt L j == s && r == 0 || gAt L j != s && y == r) = true) : inW g s r m (j + 1) = r + 1 := by
  rw [← hy, in_ask g s r m j _ hr h] at ht
  subst hL
  have h2 : tells s (r + 1) (waysW g s r) (gAt (bitsOf (hiOf (gAt g m) s)) j) = true := by
    unfold tells
    simpa using ht
  rw [inW_succ _ _ _ _ _ hj, if_pos ⟨h, h2⟩]

theorem in_same {g L : List Nat} {s r m j y : Nat} (hr : r < 64) (hL : bitsOf (hiOf (gAt g m) s) = L) (hj : j < L.length)
    (hy : (if gAt L j = m then inW g s r m j else midW g s r m (gAt L j)) = y) (ht : inW g s r m j ≠ 65 ∨ (gAt L j == s && r == 0 || gAt L j != s && y == r) = false) : inW g s r m (j + 1) = inW g s r m j := by
  subst hL
  rw [inW_succ _ _ _ _ _ hj]
  by_cases h : inW g s r m j = 65
  · rcases ht with ht | ht
    · exact absurd h ht
    · rw [← hy, in_ask g s r m j _ hr h] at ht
      rw [if_neg]
      intro hc
      have := hc.2
      unfold tells at this
      rw [show (r + 1 == 1) = (r == 0) from by rw [Bool.eq_iff_iff]; simp, show r + 1 - 1 = r from rfl, ht] at this
      exact absurd this (by simp)
  · rw [if_neg (fun hc => h hc.1)]

attribute [irreducible] waysW midW inW

end Go.Proofs.YtiililidehddmaaDoor
