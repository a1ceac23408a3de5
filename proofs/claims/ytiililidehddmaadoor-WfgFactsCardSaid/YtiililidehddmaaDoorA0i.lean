import Derived.Test.YtiililidehddmaaDoorA0b
/- Plain: searches in lists. No Go. -/
namespace Go.Proofs.YtiililidehddmaaDoor

theorem findSome_none {α : Type} (p : Nat → Option α) (l : List Nat) (h : ∀ i, i < l.length → p (gAt l i) = none) : l.findSome? p = none := by
  rw [List.findSome?_eq_none_iff]
  intro x hx
  obtain ⟨i, hi, rfl⟩ := gAt_of_mem hx
  exact h i hi

theorem findSome_first {α : Type} (p : Nat → Option α) (l : List Nat) (j : Nat) (hj : j < l.length) (a : α) (h : ∀ i, i < j → p (gAt l i) = none) (hp : p (gAt l j) = some a) : l.findSome? p = some a := by
  have e : l = l.take j ++ l.drop j := (List.take_append_drop j l).symm
  have hd : l.drop j = gAt l j :: l.drop (j + 1) := by
    rw [List.drop_eq_getElem_cons hj]; simp [gAt, hj]
  rw [e, List.findSome?_append]
  have h1 : (l.take j).findSome? p = none := by
    rw [List.findSome?_eq_none_iff]
    intro x hx
    obtain ⟨i, hi, rfl⟩ := gAt_of_mem hx
    have hij : i < j := by rw [List.length_take] at hi; omega
    have : gAt (l.take j) i = gAt l i := by simp [gAt, hij]
    rw [this]; exact h i hij
  rw [h1, hd, List.findSome?_cons, hp]; rfl

theorem gAt_range (n k : Nat) (h : k < n) : gAt (List.range n) k = k := by simp [gAt, h]

end Go.Proofs.YtiililidehddmaaDoor
