import Derived.Test.YtiililidehddmaaDoorA0e
/- Plain: 'Order'. No Go. -/
namespace Go.Proofs.YtiililidehddmaaDoor

/-- May a node come now? -/
@[irreducible] def free (g : List Nat) (d n : Nat) : Bool := minus (gAt g n) d == 0
theorem free_eq (g : List Nat) (d n : Nat) : free g d n = (minus (gAt g n) d == 0) := by unfold free; rfl

/-- Where the first one stands of whom something holds; -1: nowhere. -/
@[irreducible] def idxOf (p : Nat → Bool) (L : List Nat) : Int := match L.findIdx? p with | some i => (i : Int) | none => -1

theorem idxOf_none (p : Nat → Bool) (L : List Nat) (h : ∀ i, i < L.length → p (gAt L i) = false) : idxOf p L = -1 := by
  unfold idxOf
  have e : L.findIdx? p = none := by
    rw [List.findIdx?_eq_none_iff]
    intro x hx
    obtain ⟨i, hi, rfl⟩ := gAt_of_mem hx
    exact h i hi
  rw [e]

theorem idxOf_first (p : Nat → Bool) (L : List Nat) (j : Nat) (hj : j < L.length) (h : ∀ i, i < j → p (gAt L i) = false) (hp : p (gAt L j) = true) : idxOf p L = j := by
  unfold idxOf
  have ga : ∀ i (hi : i < L.length), gAt L i = L[i] := fun i hi => by simp [gAt, hi]
  have e : L.findIdx? p = some j := by
    rw [List.findIdx?_eq_some_iff_getElem]
    refine ⟨hj, by rw [← ga j hj]; exact hp, fun i hi => ?_⟩
    have := h i hi
    rw [ga i (by omega)] at this
    simp [this]
  rw [e]

theorem idxOf_cases (p : Nat → Bool) (L : List Nat) : (idxOf p L = -1 ∧ L.find? p = none) ∨ ∃ j, j < L.length ∧ idxOf p L = j ∧ L.find? p = some (gAt L j) ∧ (∀ i, i < j → p (gAt L i) = false) ∧ p (gAt L j) = true := by
  have ga : ∀ i (hi : i < L.length), gAt L i = L[i] := fun i hi => by simp [gAt, hi]
  cases e : L.findIdx? p with
  | none =>
    left
    have h : ∀ i, i < L.length → p (gAt L i) = false := fun i hi => by
      rw [List.findIdx?_eq_none_iff] at e
      exact e _ (gAt_mem L i hi)
    exact ⟨idxOf_none p L h, find_none p L h⟩
  | some j =>
    right
    rw [List.findIdx?_eq_some_iff_getElem] at e
    obtain ⟨hj, hp, hno⟩ := e
    have hp' : p (gAt L j) = true := by rw [ga j hj]; exact hp
    have hno' : ∀ i, i < j → p (gAt L i) = false := fun i hi => by
      have := hno i hi
      rw [ga i (by omega)]; simpa using this
    exact ⟨j, hj, idxOf_first p L j hj hno' hp', find_first p L j hj hno' hp', hno', hp'⟩

/-- The order: 'left' are to come, 'd' are done. -/
def orderGo (g : List Nat) : Nat → List Nat → Nat → List Nat → Option (List Nat)
  | 0, _, _, l => some l
  | f + 1, left, d, l => if left = [] then some l else
      if idxOf (free g d) left < 0 then none
      else orderGo g f (left.eraseIdx (idxOf (free g d) left).toNat) (d ||| 2 ^ gAt left (idxOf (free g d) left).toNat) (l ++ [gAt left (idxOf (free g d) left).toNat])

theorem orderGo_done (g : List Nat) (f d : Nat) (l : List Nat) : orderGo g f [] d l = some l := by
  cases f with
  | zero => rfl
  | succ f => rw [orderGo, if_pos rfl]
theorem orderGo_none (g : List Nat) (f d : Nat) (left l : List Nat) (h : left ≠ []) (hi : idxOf (free g d) left < 0) : orderGo g (f + 1) left d l = none := by
  rw [orderGo, if_neg h, if_pos hi]
theorem orderGo_step (g : List Nat) (f d j : Nat) (left l : List Nat) (h : left ≠ []) (hi : idxOf (free g d) left = j) :
    orderGo g (f + 1) left d l = orderGo g f (left.eraseIdx j) (d ||| 2 ^ gAt left j) (l ++ [gAt left j]) := by
  rw [orderGo, if_neg h, hi, if_neg (by omega), Int.toNat_natCast]
attribute [irreducible] orderGo

/-- What 'Order' answers. -/
def orderL (r : Option (List Nat)) : List Nat := r.getD []
def orderB (r : Option (List Nat)) : Bool := r.isSome

end Go.Proofs.YtiililidehddmaaDoor
