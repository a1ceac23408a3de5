import Derived.Test.YtiililidehddmaaDoorB3
namespace Go.Proofs.YtiililidehddmaaDoor
open Go.RowKit

/-- A list of edges read behind a slice's base. -/
def EdgesAt (w : World) (base : Option Addr) (E : List (Int × Int)) : Prop :=
  ∀ i, i < E.length → ∃ b off, base = some ⟨b, off, none⟩ ∧ w.cell? ⟨b, off + i * 2, none⟩ = some (.int .i64 (eA E i)) ∧ w.cell? ⟨b, off + i * 2 + 1, none⟩ = some (.int .i64 (eB E i))

theorem EdgesAt.more {w w1 : World} {base : Option Addr} {E : List (Int × Int)} (h : EdgesAt w base E) (hb : Below w.heap.size w w1) : EdgesAt w1 base E := by
  intro i hi
  obtain ⟨b, off, e, h1, h2⟩ := h i hi
  exact ⟨b, off, e, keeps_cell hb h1, keeps_cell hb h2⟩

def theirsG (E : List (Int × Int)) : List Nat := E.foldl (fun g e => addF g e.1 e.2) zeroG
theorem theirsG_snoc (E : List (Int × Int)) (a b : Int) : theirsG (E ++ [(a, b)]) = addF (theirsG E) a b := by simp [theirsG]
theorem theirsG_wf (E : List (Int × Int)) : WfG (theirsG E) := by
  have h : ∀ (E : List (Int × Int)) (g : List Nat), WfG g → WfG (E.foldl (fun g e => addF g e.1 e.2) g) := by
    intro E
    induction E with
    | nil => intro g hg; exact hg
    | cons e E ih => intro g hg; exact ih _ (addF_wf hg _ _)
  exact h E _ zeroG_wf

/-- The world inside 'theirs': the result's cells, the graph. -/
structure ThIn (w wr : World) (g : List Nat) : Prop where
  below : Below w.heap.size w wr
  res : wr.heap[w.heap.size]? = some (.cells (gcells zeroG).toArray 33 (0, 0))
  gr : wr.heap[w.heap.size + 1]? = some (.cells (gcells g).toArray 33 (0, 0))
  size : w.heap.size + 2 ≤ wr.heap.size

theorem ThIn.more {w wr w1 : World} {g : List Nat} (h : ThIn w wr g) (hb : Below wr.heap.size wr w1) : ThIn w w1 g where
  below := h.below.trans (hb.mono (by have := h.size; omega))
  res := (hb.block _ (by have := h.size; omega)).trans h.res
  gr := (hb.block _ (by have := h.size; omega)).trans h.gr
  size := Nat.le_trans h.size hb.size
theorem ThIn.row {w wr : World} {g : List Nat} (h : ThIn w wr g) (g' : List Nat) : ThIn w (wr.setRow (w.heap.size + 1) (gcells g').toArray) g' where
  below := below_setRow h.below (by omega) _
  res := (setRow_other _ _ _ _ (by omega)).trans h.res
  gr := setRow_heap _ _ _ _ _ _ h.gr
  size := by simpa using h.size
theorem ThIn.start (w : World) : ThIn w ((w.alloc (.cells (gcells zeroG).toArray 33)).alloc (.cells (gcells zeroG).toArray 33)) zeroG where
  below := ((Below.refl _ _).alloc (Nat.le_refl _) _).alloc (by simp) _
  res := (Below.heap_alloc _ _ _ (by simp)).trans (heap_alloc_new _ _)
  gr := by have := heap_alloc_new (w.alloc (.cells (gcells zeroG).toArray 33)) (.cells (gcells zeroG).toArray 33); simpa using this
  size := by simp

set_option maxHeartbeats 1000000 in
theorem theirs_any (E : List (Int × Int)) (base : Option Addr) (cap : Nat) (w : World) (hE : EdgesAt w base E) (hl : E.length ≤ 1099511627776) :
    Calls Tryd.prog 9 #[.slice base E.length cap] w fun e w' => e = .returned (gval (theirsG E)) ∧ Below w.heap.size w w' := by
  have H0 := Lib.hid (ThIn.start w)
  go_enter Tryd.func9, Tryd.ntmps9
  go_wp2_with (refine row_alloc rfl 33 rfl _ (Tryd.zero33 _) ?_)
  go_loopw [5, 8, 12] (fun _ i _ wr => ∃ k : Nat, k ≤ E.length ∧ i = .int .i64 k ∧ ThIn w wr (theirsG (E.take k))) (fun _ i _ _ => E.length - (intOf i).toNat)
  case atStart => exact ⟨0, by omega, rfl, H0.out⟩
  case round =>
    obtain ⟨k, hk, rfl, hI⟩ := hrel
    by_cases hlt : k < E.length
    · obtain ⟨b, off, hbase, c1, c2⟩ := (hE.more (hI.below)) k hlt
      subst hbase
      have hsn := theirsG_snoc (E.take k) (eA E k) (eB E k)
      rw [← take_snoc_edge E k hlt] at hsn
      have Hsn := Lib.hid hsn; clear hsn
      have hwf := theirsG_wf (E.take k)
      generalize theirsG (E.take k) = g at *
      have hI1 : ∀ o, ThIn w (wr.alloc o) g := fun o => hI.more ((Below.refl _ _).alloc (Nat.le_refl _) o)
      have hgr : ∀ o, (wr.alloc o).heap[w.heap.size + 1]? = some (.cells (gcells g).toArray 33 (0, 0)) := fun o => (hI1 o).gr
      have HI1 := Lib.hid hI1; clear hI1
      have Hgr := Lib.hid hgr; clear hgr
      go_wp2_with (refine load_g rfl _ rfl _ rfl g hwf.len (Hgr.out _) ?_)
      refine (add_any g hwf _ _ _).mono ?_
      rintro e w1 ⟨rfl, hb1⟩
      have hI2 := (HI1.out _).more hb1
      unfold gval
      have hwf2 := addF_wf hwf (eA E k) (eB E k)
      go_wp2_with (refine store_g rfl _ _ rfl _ _ hwf2.len rfl rfl hwf.len hI2.gr ?_)
      go_roundw
      case rel => exact ⟨k + 1, by omega, by go_num, by rw [Hsn.out]; exact hI2.row _⟩
      case measure => simp [intOf]; omega
    · have hke := Lib.hid (show k = E.length by omega)
      have hwf := theirsG_wf (E.take k)
      have e : theirsG (E.take k) = theirsG E := by rw [hke.out, List.take_length]
      have He := Lib.hid e; clear e
      generalize theirsG (E.take k) = g at *
      go_wp2_with (first | (refine load_g rfl _ rfl _ rfl g hwf.len hI.gr ?_) | (refine store_g rfl _ _ rfl _ g hwf.len rfl rfl zeroG_wf.len hI.res ?_))
      refine bodyPost_ret (v := .agg (gcells g).toArray) (results_cell_row Tryd.results9 _ _ _ 33 _ (0, 0) _ rfl (setRow_heap _ _ _ _ _ _ hI.res) Tryd.underlying33 rfl (g_size g hwf.len)) rfl ⟨by unfold gval; rw [He.out], below_setRow hI.below (Nat.le_refl _) _⟩
end Go.Proofs.YtiililidehddmaaDoor
