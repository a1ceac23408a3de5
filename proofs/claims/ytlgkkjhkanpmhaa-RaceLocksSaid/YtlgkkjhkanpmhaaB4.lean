import Derived.Test.YtlgkkjhkanpmhaaB3
namespace Go.Proofs.Ytlgkkjhkanpmhaa
open Go.RowKit Go.Maps Go.WideShapes

set_option maxHeartbeats 1000000 in
theorem Cell_any (L : List Acc) (base : Option Addr) (cap : Nat) (c : Int) (w : World) (hL : AccAt w base L) (hW : WfL L) (hn : L.length ≤ 1000000) (hc : (Lit.int .i64 c).wf = true) :
    Calls Try.prog 14 #[.slice base L.length cap, .int .i64 c] w fun e w' => e = .returned (staV (staTo L c L.length)) ∧ Below w.heap.size w w' := by
  have hb0 : Below w.heap.size w (w.alloc (.cells (staCells zeroS).toArray 45)) := (Below.refl _ _).alloc (Nat.le_refl _) _
  have hall := cells_any L base cap (w.alloc (.cells (staCells zeroS).toArray 45)) (hL.more hb0) hW hn
  have hr : (w.alloc (.cells (staCells zeroS).toArray 45)).heap[w.heap.size]? = some (.cells (staCells zeroS).toArray 45 (0, 0)) := heap_alloc_new _ _
  clear hL hW hn
  generalize hn : L.length = n at *
  have Hn := Lib.hid hn; clear hn
  go_enter Try.func14, Try.ntmps14
  go_wp2_with (refine row_alloc rfl 45 rfl _ (zero45 _) ?_)
  refine hall.mono ?_
  rintro e w1 ⟨mb, f, rfl, hm, hf, hlo, hb1⟩
  have hget := hf.get c hc
  have Hget := Lib.hid hget; clear hget
  have hb2 := hb0.trans (hb1.mono hb0.size)
  have hr1 := keeps hb1 hr
  go_wp2_with (first | (at_lookup; refine wpList_look_m rfl _ _ 55 rfl 45 law3 under55 (zero45 _) hm rfl (.int .i64 c) (.int .i64 c) rfl (key3 hc) ?_; rw [Hget.out]) | (refine store_r rfl 45 _ _ rfl w.heap.size (staCells (staTo L c n)).toArray rfl rfl hr1 Try.size45 rfl (staCells_one _) ?_))
  refine bodyPost_ret (v := staV (staTo L c n)) (results_cell_row Try.results14 _ _ _ 45 _ (0, 0) _ rfl (setRow_heap _ _ _ _ _ _ hr1) Try.underlying45 rfl Try.size45) rfl ⟨rfl, below_setRow hb2 (Nat.le_refl _) _⟩
end Go.Proofs.Ytlgkkjhkanpmhaa
