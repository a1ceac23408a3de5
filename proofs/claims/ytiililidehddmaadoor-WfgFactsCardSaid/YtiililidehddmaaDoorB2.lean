import Derived.Test.YtiililidehddmaaDoorB1
namespace Go.Proofs.YtiililidehddmaaDoor
open Go.RowKit Go.Lib Go.Sort

theorem G_setCell (w : World) (p : Addr) (u : Value) : w.grownBy (w.setCell p u) (some p.block) :=
  ⟨rfl, rfl, rfl, by simp [World.setCell], fun _ _ hk => heap_setCell_other _ _ _ _ (fun e => hk (by rw [e]))⟩
theorem G_drew (w : World) (r : Option Nat) : w.grownBy w.drew r := ⟨rfl, rfl, rfl, Nat.le_refl _, fun _ _ _ => rfl⟩
theorem G_putRow (enc : Int → Value) (w : World) (q g : Nat) (d : Array Int) : w.grownBy (putRow enc (Sort.ahead w q) g 0 d) (some g) :=
  ⟨rfl, rfl, rfl, by simp [putRow, mapBlock, Sort.ahead], fun k _ hk => by
    simp [putRow, mapBlock, Sort.ahead, Array.getElem?_modify, show g ≠ k from fun e => hk (by rw [e])]⟩
theorem G_trans {a b c : World} {r : Option Nat} (h : a.grownBy b r) (k : b.grownBy c r) : a.grownBy c r :=
  ⟨k.os.trans h.os, k.tape.trans h.tape, k.output.trans h.output, Nat.le_trans h.size k.size, fun i hi hr => (k.block i (Nat.lt_of_lt_of_le hi h.size) hr).trans (h.block i hi hr)⟩
theorem G_below {w w' : World} (h : Below w.heap.size w w') (r : Option Nat) : w.grownBy w' r := ⟨h.os, h.tape, h.output, h.size, fun k hk _ => h.block k hk⟩

theorem ints_cast (l : List Nat) : ints l = (l.map fun (i : Nat) => (i : Int)).map (Value.int .i64) := by simp [ints]

theorem delete_any (b cap j : Nat) (left : List Nat) (w : World) (B : Nat) (hown : w.ownsRow B 3 1 (.slice (some ⟨b, 0, none⟩) left.length cap) left.length (ints left)) (hj : j < left.length) :
    Calls Tryd.prog 27 #[.slice (some ⟨b, 0, none⟩) left.length cap, .int .i64 j, .int .i64 ((j : Int) + 1)] w fun e w' =>
      e = .returned (.slice (some ⟨b, 0, none⟩) (left.eraseIdx j).length cap) ∧ w'.ownsRow B 3 1 (.slice (some ⟨b, 0, none⟩) (left.eraseIdx j).length cap) (left.eraseIdx j).length (ints (left.eraseIdx j)) ∧ w.grownBy w' (some b) := by
  rw [ints_cast] at hown
  obtain ⟨g', cap', e, _, _, hnc, hcm, _, hH⟩ := holds_of_ownsRow hown (by simp)
  injection e with e1 _ e3
  injection e1 with e1
  injection e1 with e1
  subst e1; subst e3
  have h := Tryd.slices_Delete_int b 0 cap j (j + 1) (left.map fun (i : Nat) => (i : Int)) w hH (by simpa using hnc) (by unfold maxLen at hcm; omega) (by omega) (by simp; omega)
  have e1 : (left.map fun (i : Nat) => (i : Int)).length = left.length := by simp
  have e2 : left.length - (j + 1 - j) = (left.eraseIdx j).length := by rw [List.length_eraseIdx, if_pos hj]; omega
  have e3 : (((j + 1 : Nat)) : Int) = (j : Int) + 1 := by omega
  rw [e1, e2, e3] at h
  refine h.mono ?_
  rintro e w' ⟨rfl, q, rfl⟩
  refine ⟨rfl, ?_, G_putRow _ _ _ _ _⟩
  have hlen : (List.take j (left.map fun (i : Nat) => (i : Int)) ++ List.drop (j + 1) (left.map fun (i : Nat) => (i : Int)) ++ List.replicate (j + 1 - j) (0 : Int)).length = left.length := by simp; omega
  have hk : (left.eraseIdx j).length ≤ left.length := by rw [← e2]; omega
  have hr := ownsRow_putRow (q := q) (ys := List.take j (left.map fun (i : Nat) => (i : Int)) ++ List.drop (j + 1) (left.map fun (i : Nat) => (i : Int)) ++ List.replicate (j + 1 - j) (0 : Int)) hown hlen hk
  have he : ((List.take j (left.map fun (i : Nat) => (i : Int)) ++ List.drop (j + 1) (left.map fun (i : Nat) => (i : Int)) ++ List.replicate (j + 1 - j) (0 : Int)).take (left.eraseIdx j).length).map (Value.int .i64) = ints (left.eraseIdx j) := by
    rw [ints_cast, List.take_left' (by rw [← e2]; simp; omega), List.eraseIdx_eq_take_drop_succ]
    simp
  rw [he] at hr
  exact hr

/-- The world inside 'Order'. -/
structure OrdIn (w wr : World) (g : List Nat) (d : Nat) : Prop where
  below : Below w.heap.size w wr
  box : wr.heap[w.heap.size]? = some (.cells (gcells g).toArray 33 (0, 0))
  done : wr.heap[w.heap.size + 1]? = some (.cells #[.int .u64 (d : Int)] 30 (0, 0))
  size : w.heap.size + 2 ≤ wr.heap.size

theorem OrdIn.kept {w wr w1 : World} {g : List Nat} {d : Nat} {r : Option Nat} (h : OrdIn w wr g d) (hg : wr.grownBy w1 r) (hr : ∀ k, r = some k → w.heap.size + 2 ≤ k) : OrdIn w w1 g d where
  below := h.below.grown hg (by have := h.size; omega) (fun k hk => by have := hr k hk; omega)
  box := (hg.block _ (by have := h.size; omega) (fun e => by have := hr _ e.symm; omega)).trans h.box
  done := (hg.block _ (by have := h.size; omega) (fun e => by have := hr _ e.symm; omega)).trans h.done
  size := Nat.le_trans h.size hg.size
theorem OrdIn.more {w wr w1 : World} {g : List Nat} {d : Nat} (h : OrdIn w wr g d) (hb : Below wr.heap.size wr w1) : OrdIn w w1 g d := h.kept (G_below hb none) (fun k hk => by cases hk)
theorem OrdIn.cell {w wr : World} {g : List Nat} {d : Nat} (h : OrdIn w wr g d) : wr.cell? ⟨w.heap.size + 1, 0, none⟩ = some (.int .u64 (d : Int)) := by rw [cell_of_row _ _ _ _ _ _ h.done]; rfl
theorem OrdIn.store {w wr : World} {g : List Nat} {d : Nat} (h : OrdIn w wr g d) (d' : Nat) : OrdIn w (wr.setCell ⟨w.heap.size + 1, 0, none⟩ (.int .u64 (d' : Int))) g d' where
  below := h.below.setCell (by show w.heap.size ≤ w.heap.size + 1; omega) _
  box := (heap_setCell_other _ _ _ _ (by show w.heap.size ≠ w.heap.size + 1; omega)).trans h.box
  done := by rw [heap_setCell_same _ _ _ _ _ _ h.done]; rfl
  size := by simpa [World.setCell] using h.size

end Go.Proofs.YtiililidehddmaaDoor
