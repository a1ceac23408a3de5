import Derived.Test.YtiililidehddmaaDoorA0f
/- Plain: lists of edges. No Go. -/
namespace Go.Proofs.YtiililidehddmaaDoor

def nodeB (n : Int) : Bool := decide (0 ≤ n ∧ n < 64)

/-- The k-th edge's two ends. -/
def eA (E : List (Int × Int)) (k : Nat) : Int := (E.getD k (0, 0)).1
def eB (E : List (Int × Int)) (k : Nat) : Int := (E.getD k (0, 0)).2

theorem take_snoc_edge (E : List (Int × Int)) (k : Nat) (h : k < E.length) : E.take (k + 1) = E.take k ++ [(eA E k, eB E k)] := by
  have e : (eA E k, eB E k) = E[k] := by simp [eA, eB, List.getElem?_eq_getElem h]
  rw [e]; exact List.take_succ_eq_append_getElem h

/-- The reference's 'Has'. -/
@[irreducible] def rHas (E : List (Int × Int)) (a b : Int) : Bool := E.any fun e => e.1 == a && e.2 == b
theorem rHas_eq (E : List (Int × Int)) (a b : Int) : rHas E a b = E.any fun e => e.1 == a && e.2 == b := by unfold rHas; rfl

theorem rHas_no (E : List (Int × Int)) (a b : Int) (h : ∀ i, i < E.length → (eA E i == a && eB E i == b) = false) : rHas E a b = false := by
  rw [rHas_eq, List.any_eq_false]
  intro e he
  obtain ⟨i, hi, rfl⟩ := List.mem_iff_getElem.1 he
  have := h i hi
  simp only [eA, eB, List.getD_eq_getElem?_getD, List.getElem?_eq_getElem hi, Option.getD_some] at this
  simp only [this]; simp
theorem rHas_yes (E : List (Int × Int)) (a b : Int) (i : Nat) (hi : i < E.length) (h : (eA E i == a && eB E i == b) = true) : rHas E a b = true := by
  rw [rHas_eq, List.any_eq_true]
  refine ⟨E[i], List.getElem_mem hi, ?_⟩
  simpa only [eA, eB, List.getD_eq_getElem?_getD, List.getElem?_eq_getElem hi, Option.getD_some] using h

/-- The reference's 'Add': its edges, and its answer. -/
def rAdd (E : List (Int × Int)) (a b : Int) : List (Int × Int) := if nodeB a && nodeB b && !rHas E a b then E ++ [(a, b)] else E
def rErr (a b : Int) : Int := if nodeB a && nodeB b then 0 else 1

theorem rAdd_len (E : List (Int × Int)) (a b : Int) : (rAdd E a b).length ≤ E.length + 1 := by unfold rAdd; split <;> simp

def rEdges (E : List (Int × Int)) : List (Int × Int) := E.foldl (fun r e => rAdd r e.1 e.2) []
theorem rEdges_snoc (E : List (Int × Int)) (a b : Int) : rEdges (E ++ [(a, b)]) = rAdd (rEdges E) a b := by simp [rEdges]
theorem rEdges_len (E : List (Int × Int)) : (rEdges E).length ≤ E.length := by
  have h : ∀ (E acc : List (Int × Int)), (E.foldl (fun r e => rAdd r e.1 e.2) acc).length ≤ acc.length + E.length := by
    intro E
    induction E with
    | nil => intro acc; simp
    | cons e E ih => intro acc; rw [List.foldl_cons]; have := ih (rAdd acc e.1 e.2); have := rAdd_len acc e.1 e.2; simp; omega
  have := h E []
  simpa [rEdges] using this

end Go.Proofs.YtiililidehddmaaDoor
