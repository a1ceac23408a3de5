import Derived.Test.YtiililidehddmaaDoorA0d
/- Plain: the shortest ring, as 'Ring' reckons it. No Go. -/
namespace Go.Proofs.YtiililidehddmaaDoor

/-- How short a ring leads back to k over nodes from k on. -/
@[irreducible] def ringLen (g : List Nat) (k : Nat) : Nat := waysW g k 64 k
theorem ringLen_eq (g : List Nat) (k : Nat) : ringLen g k = waysW g k 64 k := by unfold ringLen; rfl

/-- The shortest of those of the first k nodes, and where it begins. -/
def bestTo (g : List Nat) : Nat → Nat × Nat
  | 0 => (65, 0)
  | k + 1 => if ringLen g k < (bestTo g k).1 then (ringLen g k, k) else bestTo g k

theorem bestTo_zero (g : List Nat) : bestTo g 0 = (65, 0) := rfl
theorem bestTo_succ (g : List Nat) (k : Nat) : bestTo g (k + 1) = if ringLen g k < (bestTo g k).1 then (ringLen g k, k) else bestTo g k := rfl

theorem ringLen_le (g : List Nat) (k : Nat) : 1 ≤ ringLen g k ∧ ringLen g k ≤ 65 := by
  rw [ringLen_eq]
  have := waysW_range g k 64 k
  omega

theorem bestTo_le (g : List Nat) (k : Nat) : 1 ≤ (bestTo g k).1 ∧ (bestTo g k).1 ≤ 65 ∧ (bestTo g k).2 ≤ k ∧ ((bestTo g k).1 < 65 → (bestTo g k).2 < k) := by
  induction k with
  | zero => simp [bestTo_zero]
  | succ k ih =>
    have := ringLen_le g k
    rw [bestTo_succ]
    split <;> (try dsimp only) <;> omega

/-- The next node of a ring: 'left' edges are to come. -/
def nextOk (g : List Nat) (s left k : Nat) : Bool := k != s && waysW g s 64 k == left

/-- The ring, node by node. -/
def ringGo (g : List Nat) (s best : Nat) : Nat → Nat → List Nat → List Nat
  | 0, _, l => l
  | f + 1, a, l => if l.length < best then
      match (bitsOf (hiOf (gAt g a) s)).find? (nextOk g s (best - l.length)) with
      | some k => ringGo g s best f k (l ++ [k])
      | none => l
    else l

/-- The answer of 'Ring'. -/
@[irreducible] def ringF (g : List Nat) : List Nat :=
  if (bestTo g 64).1 = 65 then [] else ringGo g (bestTo g 64).2 (bestTo g 64).1 64 (bestTo g 64).2 [(bestTo g 64).2]

theorem ringGo_stop (g : List Nat) (s best f a : Nat) (l : List Nat) (h : ¬ l.length < best) : ringGo g s best f a l = l := by
  cases f with
  | zero => rfl
  | succ f => rw [ringGo, if_neg h]

theorem find_none (p : Nat → Bool) (l : List Nat) (h : ∀ i, i < l.length → p (gAt l i) = false) : l.find? p = none := by
  rw [List.find?_eq_none]
  intro x hx
  obtain ⟨i, hi, rfl⟩ := gAt_of_mem hx
  simp [h i hi]

theorem find_first (p : Nat → Bool) (l : List Nat) (j : Nat) (hj : j < l.length) (h : ∀ i, i < j → p (gAt l i) = false) (hp : p (gAt l j) = true) : l.find? p = some (gAt l j) := by
  rw [List.find?_eq_some_iff_getElem]
  refine ⟨hp, j, hj, by simp [gAt, hj], fun i hi => ?_⟩
  have := h i hi
  rw [show gAt l i = l[i] from by simp [gAt, show i < l.length by omega]] at this
  simp [this]

theorem ringGo_none (g : List Nat) (s best f a : Nat) (l N : List Nat) (h : l.length < best) (hN : bitsOf (hiOf (gAt g a) s) = N) (hno : ∀ i, i < N.length → nextOk g s (best - l.length) (gAt N i) = false) :
    ringGo g s best (f + 1) a l = l := by
  rw [ringGo, if_pos h, hN, find_none _ _ hno]

theorem ringGo_some (g : List Nat) (s best f a : Nat) (l N : List Nat) (j : Nat) (h : l.length < best) (hN : bitsOf (hiOf (gAt g a) s) = N) (hj : j < N.length)
    (hno : ∀ i, i < j → nextOk g s (best - l.length) (gAt N i) = false) (hp : nextOk g s (best - l.length) (gAt N j) = true) :
    ringGo g s best (f + 1) a l = ringGo g s best f (gAt N j) (l ++ [gAt N j]) := by
  rw [ringGo, if_pos h, hN, find_first _ _ _ hj hno hp]

attribute [irreducible] bestTo ringGo
end Go.Proofs.YtiililidehddmaaDoor
