import Derived.Test.YtlgkkjhkanpmhaaA2
namespace Go.Proofs.Ytlgkkjhkanpmhaa
open Go.RowKit

theorem below_setRow {B : Nat} {a w : World} (h : Below B a w) {g : Nat} (hg : B ≤ g) (cs : Array Value) : Below B a (w.setRow g cs) :=
  h.trans ⟨rfl, rfl, rfl, by simp, fun k hk => setRow_other w g k _ (by omega)⟩

/-- The world inside 'Join': both boxes, the result. -/
structure JIn (w wr : World) (l b : List Nat) : Prop where
  below : Below w.heap.size w wr
  ba : wr.heap[w.heap.size]? = some (.cells (ccells l).toArray 38 (0, 0))
  bb : wr.heap[w.heap.size + 1]? = some (.cells (ccells b).toArray 38 (0, 0))
  res : wr.heap[w.heap.size + 2]? = some (.cells (ccells zeroC).toArray 38 (0, 0))
  size : w.heap.size + 3 ≤ wr.heap.size

theorem JIn.start (w : World) (a b : List Nat) : JIn w (((w.alloc (.cells (ccells a).toArray 38)).alloc (.cells (ccells b).toArray 38)).alloc (.cells (ccells zeroC).toArray 38)) a b where
  below := (((Below.refl _ _).alloc (Nat.le_refl _) _).alloc (by simp) _).alloc (by simp; omega) _
  ba := (Below.heap_alloc _ _ _ (by simp; omega)).trans ((Below.heap_alloc _ _ _ (by simp)).trans (heap_alloc_new _ _))
  bb := (Below.heap_alloc _ _ _ (by simp)).trans (by have := heap_alloc_new (w.alloc (.cells (ccells a).toArray 38)) (.cells (ccells b).toArray 38); simpa using this)
  res := by have := heap_alloc_new ((w.alloc (.cells (ccells a).toArray 38)).alloc (.cells (ccells b).toArray 38)) (.cells (ccells zeroC).toArray 38); simpa using this
  size := by simp
theorem JIn.cell {w wr : World} {l b : List Nat} (h : JIn w wr l b) (k : Nat) (hk : k < l.length) : wr.cell? ⟨w.heap.size, k, none⟩ = some (.int .u32 ((gAt l k : Nat) : Int)) := by
  rw [cell_of_row _ _ _ _ _ _ h.ba]; exact ccell l k hk
theorem JIn.free {w wr : World} {l b : List Nat} (h : JIn w wr l b) (k : Nat) : wr.frozen? ⟨w.heap.size, k, none⟩ = false :=
  frozen_of_row _ _ _ _ _ h.ba
theorem JIn.store {w wr : World} {l b : List Nat} (h : JIn w wr l b) (k x : Nat) : JIn w (wr.setCell ⟨w.heap.size, k, none⟩ (.int .u32 (x : Int))) (l.set k x) b where
  below := h.below.setCell (Nat.le_refl _) _
  ba := by rw [heap_setCell_same _ _ _ _ _ _ h.ba]; simp [ccells, List.map_set]
  bb := (heap_setCell_other _ _ _ _ (by show w.heap.size + 1 ≠ w.heap.size; omega)).trans h.bb
  res := (heap_setCell_other _ _ _ _ (by show w.heap.size + 2 ≠ w.heap.size; omega)).trans h.res
  size := by simpa [World.setCell] using h.size

set_option maxHeartbeats 1000000 in
theorem Join_any (a b : List Nat) (ha : WfC a) (hb : WfC b) (w : World) :
    Calls Try.prog 26 #[.agg (ccells a).toArray, .agg (ccells b).toArray] w fun e w' => e = .returned (.agg (ccells (joinTo a b 8)).toArray) ∧ Below w.heap.size w w' := by
  have H0 := Lib.hid (JIn.start w a b)
  go_enter Try.func26, Try.ntmps26
  go_wp2_with (first | (refine row_alloc rfl 38 rfl _ (Try.zero38 _) ?_) | (refine load_c rfl _ rfl _ rfl b hb.len H0.out.bb ?_))
  go_loopw [5, 6, 8] (fun _ _ i wr => ∃ k : Nat, k ≤ 8 ∧ i = .int .i64 k ∧ JIn w wr (joinTo a b k) b) (fun _ _ i _ => 8 - (intOf i).toNat)
  case atStart => exact ⟨0, by omega, rfl, by rw [joinTo_zero]; exact H0.out⟩
  case round =>
    obtain ⟨k, hk, rfl, hI⟩ := hrel
    have hwf := joinTo_wf ha hb k hk
    have hs := joinTo_succ a b k
    by_cases hlt : k < 8
    · have hx := run_idx_c b hb.len k hlt
      have hc := hI.cell k (by rw [hwf.len]; exact hlt)
      have hf := hI.free k
      have hx1 := hwf.lt k
      have hx2 := hb.lt k
      have Hs := Lib.hid hs; clear hs
      generalize joinTo a b k = l at *
      have hm : (if ((gAt l k : Nat) : Int) < ((gAt b k : Nat) : Int) then ((gAt b k : Nat) : Int) else ((gAt l k : Nat) : Int)) = ((max (gAt l k) (gAt b k) : Nat) : Int) := by split <;> omega
      have Hst := Lib.hid (hI.store k (max (gAt l k) (gAt b k)))
      have hmx := max_two #[36, 36] 36 .u32 .u32 ((gAt l k : Nat) : Int) ((gAt b k : Nat) : Int)
      rw [hm] at hmx
      clear hm
      go_wp2
      go_roundw
      case rel => exact ⟨k + 1, by omega, by go_num, by rw [Hs.out]; exact Hst.out⟩
      case measure => simp [intOf]; omega
    · have hke := Lib.hid (show k = 8 by omega)
      go_wp2_with (first | (refine load_c rfl _ rfl _ rfl (joinTo a b k) hwf.len hI.ba ?_) | (refine store_c rfl _ _ rfl _ (joinTo a b k) hwf.len rfl rfl (l0 := zeroC) rfl hI.res ?_))
      refine bodyPost_ret (v := .agg (ccells (joinTo a b k)).toArray) (results_cell_row Try.results26 _ _ _ 38 _ (0, 0) _ rfl (setRow_heap _ _ _ _ _ _ hI.res) Try.underlying38 rfl (c_size _ hwf.len)) rfl ⟨by rw [hke.out], below_setRow hI.below (by omega) _⟩
end Go.Proofs.Ytlgkkjhkanpmhaa
