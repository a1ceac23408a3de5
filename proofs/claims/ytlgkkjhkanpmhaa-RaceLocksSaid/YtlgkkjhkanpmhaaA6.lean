import Derived.Test.YtlgkkjhkanpmhaaA5
namespace Go.Proofs.Ytlgkkjhkanpmhaa
open Go.RowKit

/-- Leq as the program reckons it. -/
def leqC (a b : List Nat) : Bool := joinTo a b 8 == b
theorem eql_c (a b : List Nat) (ha : a.length = 8) (hb : b.length = 8) (w : World) : (binOp .eql 38 (.agg (ccells a).toArray) (.agg (ccells b).toArray)).run Try.prog w = .ok (.bool (a == b)) w := by
  rw [run_eql_struct]
  have h : (Op.equalIn 10000 38 (.agg (ccells a).toArray) (.agg (ccells b).toArray)).run Try.prog w = .ok (a == b) w := equal_c 9998 a b ha hb w
  generalize (Op.equalIn 10000 38 (.agg (ccells a).toArray) (.agg (ccells b).toArray)).run Try.prog w = R at *
  subst h
  rfl

attribute [local go_sem ↓] wp_load38
theorem keeps_fits {w w1 : World} {b : Nat} {l : List Nat} (hl : l.length = 8) (h : w.heap[b]? = some (.cells (ccells l).toArray 38 (0, 0))) (hb : Below w.heap.size w w1) :
    rowFits 8 w1 (.pointer (some ⟨b, 0, none⟩)) = true ∧ rowVal w1 (.pointer (some ⟨b, 0, none⟩)) = .agg (ccells l).toArray := by
  have h1 := keeps hb h
  have := rowFits_of h1
  rw [show (ccells l).toArray.size = 8 from by simp [hl]] at this
  exact ⟨this, rowVal_of h1⟩

set_option maxHeartbeats 1000000 in
theorem Leq_any (a b : List Nat) (ha : WfC a) (hb : WfC b) (w : World) :
    Calls Try.prog 17 #[.agg (ccells a).toArray, .agg (ccells b).toArray] w fun e w' => e = .returned (.bool (leqC a b)) ∧ Below w.heap.size w w' := by
  have hja := joinTo_wf ha hb 8 (Nat.le_refl _)
  have hq : leqC a b = (joinTo a b 8 == b) := rfl
  generalize hj : joinTo a b 8 = j at *
  generalize leqC a b = q at *
  have hJ := fun w => Join_any a b ha hb w
  rw [hj] at hJ
  have HJ := Lib.hid hJ
  have heq := fun w => eql_c j b hja.len hb.len w
  clear hJ hj
  have hbelow : Below w.heap.size w ((w.alloc (.cells (ccells a).toArray 38)).alloc (.cells (ccells b).toArray 38)) := ((Below.refl _ _).alloc (Nat.le_refl _) _).alloc (by simp) _
  have ga : ((w.alloc (.cells (ccells a).toArray 38)).alloc (.cells (ccells b).toArray 38)).heap[w.heap.size]? = some (.cells (ccells a).toArray 38 (0, 0)) := (Below.heap_alloc _ _ _ (by simp)).trans (heap_alloc_new _ _)
  have gb : ((w.alloc (.cells (ccells a).toArray 38)).alloc (.cells (ccells b).toArray 38)).heap[w.heap.size + 1]? = some (.cells (ccells b).toArray 38 (0, 0)) := by
    have := heap_alloc_new (w.alloc (.cells (ccells a).toArray 38)) (.cells (ccells b).toArray 38); simpa using this
  go_enter Try.func17, Try.ntmps17
  go_wp2_with fail
  generalize hW : (w.alloc (.cells (ccells a).toArray 38)).alloc (.cells (ccells b).toArray 38) = w0 at *
  clear hW
  obtain ⟨fa, va⟩ := keeps_fits ha.len ga (Below.refl w0.heap.size w0).drew
  obtain ⟨fb, vb⟩ := keeps_fits hb.len gb (Below.refl w0.heap.size w0).drew
  have hbelow := hbelow.trans ((Below.refl w0.heap.size w0).drew.mono hbelow.size)
  have gb := keeps (Below.refl w0.heap.size w0).drew gb
  go_region_law (go_simp; go_at_call 26; refine (HJ.out _).mono ?_; rintro e wX ⟨rfl, hbX⟩; obtain ⟨fb, vb⟩ := keeps_fits hb.len gb hbX; have hbelow := hbelow.trans (hbX.mono hbelow.size); clear gb)
  all_goals go_wp2
  all_goals go_ret
  all_goals exact ⟨by rw [hq]; rfl, hbelow⟩

theorem list_ext8 {a b : List Nat} (ha : a.length = 8) (hb : b.length = 8) (h : ∀ k, k < 8 → gAt a k = gAt b k) : a = b := by
  apply List.ext_getElem (by omega)
  intro i h2 h3
  have := h i (by omega)
  simpa [gAt, h2, h3] using this


theorem leqC_is {a b : List Nat} (ha : WfC a) (hb : WfC b) : leqC a b = true ↔ ∀ k, k < 8 → gAt a k ≤ gAt b k := by
  unfold leqC
  rw [beq_iff_eq]
  have hw := joinTo_wf ha hb 8 (Nat.le_refl _)
  constructor
  · intro h k hk
    have := joinTo_at a b ha.len 8 (Nat.le_refl _) k
    rw [h, if_pos hk] at this
    omega
  · intro h
    refine list_ext8 hw.len hb.len (fun k hk => ?_)
    rw [joinTo_at a b ha.len 8 (Nat.le_refl _) k, if_pos hk]
    have := h k hk
    omega
attribute [irreducible] leqC
end Go.Proofs.Ytlgkkjhkanpmhaa
