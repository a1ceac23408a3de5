import Derived.Test.YtiililidehddmaaDoorD0
namespace Go.Proofs.YtiililidehddmaaDoor
open Go.RowKit

/-- A graph read whole, behind a guard that is met. -/
theorem load_g_if {ops : Array Oper} {rest : List Oper} {o : Oper} {a : Act} {Q : Exit → Act → World → Prop} {w : World} (hw : Region.wanted o (yielded ops a.tmps) = true) (x : Operand) (ho : o.op = .load 33 x) (b : Nat) (hx : a.eval x = .pointer (some ⟨b, 0, none⟩)) (l : List Nat) (hl : l.length = 64) {T : TypeId} {fr : Nat × Nat}
    (hg : w.heap[b]? = some (.cells (gcells l).toArray T fr)) (h : wpList Tryd.prog ops Q rest (a.put o.dst (.agg (gcells l).toArray)) w) : wpList Tryd.prog ops Q (o :: rest) a w :=
  wpList_step fun K hK => by
    rw [if_pos hw]
    exact wp_load_row 33 x ho b hx T _ fr _ hg Tryd.underlying33 rfl (g_size l hl) (hK _ _ h)

set_option maxHeartbeats 2000000 in
theorem alive_any (w : World) (hT : Tab w) :
    Calls Tryd.prog 7 #[] w fun e w' => e = .returned (.bool true) ∧ Below w.heap.size w w' := by
  have hwf := theirsG_wf twoE
  have ht := twoG
  have er := two_ring ht
  have eo := two_order ht
  have el := two_len ht 64 (by omega)
  have ee := two_reach ht
  have Er := Lib.hid er; have Eo := Lib.hid eo; have El := Lib.hid el; have Ee := Lib.hid ee
  clear er eo el ee ht
  have hE : EdgesAt (w.alloc (.cells #[.int .i64 0, .int .i64 1, .int .i64 1, .int .i64 0] 28)) (some ⟨w.heap.size, 0, none⟩) twoE := by
    intro i hi
    refine ⟨w.heap.size, 0, rfl, ?_⟩
    match i, hi with
    | 0, _ => exact ⟨World.cell?_alloc_at _ _ _ _ rfl, World.cell?_alloc_at _ _ _ _ rfl⟩
    | 1, _ => exact ⟨World.cell?_alloc_at _ _ _ _ rfl, World.cell?_alloc_at _ _ _ _ rfl⟩
  have hTa : Tab (w.alloc (.cells #[.int .i64 0, .int .i64 1, .int .i64 1, .int .i64 0] 28)) := hT.alloc _
  go_enter Tryd.func7, Tryd.ntmps7
  go_wp2_with fail
  refine (theirs_any twoE (some ⟨w.heap.size, 0, none⟩) 2 _ hE (by decide)).mono ?_
  rintro e w1 ⟨rfl, hb1⟩
  have hT1 : Tab w1 := hTa.below hb1 hTa.size
  have hbw := below_alloc hb1
  clear hE hTa hb1
  generalize theirsG twoE = G at *
  unfold gval
  have hg1 := heap_alloc_new w1 (.cells (gcells G).toArray 33)
  go_wp2_with (first | (refine row_alloc rfl 33 rfl _ (Tryd.zero33 _) ?_) | (refine store_g rfl _ _ rfl _ G hwf.len rfl rfl zeroG_wf.len (heap_alloc_new _ _) ?_; rw [setRow_alloc _ _ _ _ _ rfl]) | (refine load_g rfl _ rfl _ rfl G hwf.len hg1 ?_))
  have hbw2 : Below w.heap.size w (w1.alloc (.cells (gcells G).toArray 33)) := hbw.alloc hbw.size _
  have hT2 : Tab (w1.alloc (.cells (gcells G).toArray 33)) := hT1.alloc _
  generalize hb : w1.heap.size = b at *
  have Hb := Lib.hid hb; clear hb
  generalize w1.alloc (.cells (gcells G).toArray 33) = w2 at *
  refine (Ring_any G hwf _ hT2).mono ?_
  rintro e w3 ⟨v, rfl, hown, hb3⟩
  rw [Er.out] at hown
  obtain ⟨base, cap, rfl, hrd⟩ := owns_reads hown
  have hg3 := keeps hb3 hg1
  have hT3 : Tab w3 := hT2.below hb3 hT2.size
  have hbw3 := hbw2.trans (hb3.mono hbw2.size)
  clear hown hb3
  go_wp2_with (refine load_g rfl _ rfl _ rfl G hwf.len hg3 ?_)
  refine (Order_any G hwf _ hT3).mono ?_
  rintro e w4 ⟨v2, rfl, hown2, hb4⟩
  rw [Eo.out]
  have hrd4 := hrd.mono hb4
  have hg4 := keeps hb4 hg3
  have hT4 : Tab w4 := hT3.below hb4 hT3.size
  have hbw4 := hbw3.trans (hb4.mono hbw3.size)
  obtain ⟨b0, e0, _, c0⟩ := hrd4 0 (by decide)
  obtain ⟨b1, e1, _, c1⟩ := hrd4 1 (by decide)
  subst e0
  injection e1 with e1
  injection e1 with e1
  subst e1
  have c0' : w4.cell? ⟨b0, 0, none⟩ = some (.int .i64 0) := c0
  have c1' : w4.cell? ⟨b0, 1, none⟩ = some (.int .i64 1) := c1
  have ob : orderB none = false := rfl
  clear hrd hrd4 c0 c1 hown2 hb4 hT3 hg3 hbw3
  go_wp2_with (refine load_g_if rfl _ rfl _ rfl G hwf.len hg4 ?_)
  refine (Len_any G hwf _).mono ?_
  rintro e w5 ⟨rfl, hb5⟩
  rw [El.out]
  have hg5 := keeps hb5 hg4
  have hT5 : Tab w5 := hT4.below hb5 hT4.size
  have hbw5 := hbw4.trans (hb5.mono hbw4.size)
  clear hb5 hT4 hg4
  go_wp2_with (refine load_g_if rfl _ rfl _ rfl G hwf.len hg5 ?_)
  refine (Reach_any G hwf _ _ hT5).mono ?_
  rintro e w6 ⟨v3, rfl, hown6, hb6⟩
  rw [Ee.out] at hown6
  obtain ⟨base6, cap6, rfl⟩ := owns_slice hown6
  go_wp2
  go_ret
  exact ⟨rfl, hbw5.trans (hb6.mono hbw5.size)⟩
end Go.Proofs.YtiililidehddmaaDoor
