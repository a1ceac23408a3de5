import Derived.Test.YtlgkkjhkanpmhaaA0
namespace Go.Proofs.Ytlgkkjhkanpmhaa
open Go.RowKit

theorem max_two (ats : Array TypeId) (ty : TypeId) (k k' : IntKind) (x y : Int) : Builtin.max_ ats ty #[.int k x, .int k' y] = pure (.int k (if x < y then y else x)) := by
  simp only [Builtin.max_, List.foldlM_cons, List.foldlM_nil, Builtin.max2, gt_iff_lt, pure_bind]

/-- Counts of threads. -/
structure WfC (c : List Nat) : Prop where
  len : c.length = 8
  lt : ∀ k, gAt c k < 4294967296

def ccells (l : List Nat) : List Value := l.map fun (n : Nat) => Value.int .u32 (n : Int)
@[simp] theorem ccells_length (l : List Nat) : (ccells l).length = l.length := by simp [ccells]
theorem ccell (l : List Nat) (k : Nat) (h : k < l.length) : (ccells l).toArray[k]? = some (.int .u32 ((gAt l k : Nat) : Int)) := by
  simp [ccells, List.getElem?_map, List.getElem?_eq_getElem h, gAt, List.getD]
theorem ccells_set (l : List Nat) (k x : Nat) : (ccells l).set k (.int .u32 (x : Int)) = ccells (l.set k x) := by
  simp [ccells, List.map_set]
theorem gAt_set (l : List Nat) (n k x : Nat) (h : n < l.length) : gAt (l.set n x) k = if n = k then x else gAt l k := by
  unfold gAt
  simp only [List.getD_eq_getElem?_getD, List.getElem?_set]
  by_cases e : n = k
  · subst e; simp [h]
  · simp [e]

/-- The first k are joined. -/
def joinTo (a b : List Nat) : Nat → List Nat
  | 0 => a
  | k + 1 => (joinTo a b k).set k (max (gAt (joinTo a b k) k) (gAt b k))
theorem joinTo_zero (a b : List Nat) : joinTo a b 0 = a := rfl
theorem joinTo_succ (a b : List Nat) (k : Nat) : joinTo a b (k + 1) = (joinTo a b k).set k (max (gAt (joinTo a b k) k) (gAt b k)) := rfl
theorem joinTo_len (a b : List Nat) (k : Nat) : (joinTo a b k).length = a.length := by
  induction k with
  | zero => rfl
  | succ k ih => rw [joinTo_succ, List.length_set, ih]
theorem joinTo_at (a b : List Nat) (ha : a.length = 8) (k : Nat) (hk : k ≤ 8) (j : Nat) : gAt (joinTo a b k) j = if j < k then max (gAt a j) (gAt b j) else gAt a j := by
  induction k with
  | zero => rw [joinTo_zero, if_neg (by omega)]
  | succ k ih =>
    rw [joinTo_succ, gAt_set _ _ _ _ (by rw [joinTo_len, ha]; omega)]
    have ih' := ih (by omega)
    by_cases e : k = j
    · subst e; rw [if_pos rfl, if_pos (by omega), ih', if_neg (by omega)]
    · rw [if_neg e, ih']
      by_cases h : j < k
      · rw [if_pos h, if_pos (by omega)]
      · rw [if_neg h, if_neg (by omega)]
theorem joinTo_wf {a b : List Nat} (ha : WfC a) (hb : WfC b) (k : Nat) (hk : k ≤ 8) : WfC (joinTo a b k) := by
  refine ⟨by rw [joinTo_len]; exact ha.len, fun j => ?_⟩
  rw [joinTo_at a b ha.len k hk]
  have := ha.lt j
  have := hb.lt j
  split <;> omega
attribute [irreducible] joinTo

theorem Try.size38 : (Try.prog.info? 38).map (·.size) = some 8 := by kernel_rfl
theorem run_idx_c (l : List Nat) (hl : l.length = 8) (k : Nat) (hk : k < 8) (w : World) :
    (Instr.index 38 (.agg (ccells l).toArray) (.int .i64 (k : Int))).run Try.prog w = .ok (.int .u32 ((gAt l k : Nat) : Int)) w := by
  have hs : (sizeOf 36).run Try.prog w = .ok 1 w := by kernel_rfl
  have hcell : (ccells l).toArray[k]? = some (.int .u32 ((gAt l k : Nat) : Int)) := ccell l k (by omega)
  simp only [List.getElem?_toArray] at hcell
  simp [Instr.index, asIntOf, run_underlying Try.underlying38, Sem.run_bind, hs, part, hcell]
  intro h; omega
end Go.Proofs.Ytlgkkjhkanpmhaa
