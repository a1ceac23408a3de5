import Derived.Test.YtlgkkjhkanpmhaaA16
namespace Go.Proofs.Ytlgkkjhkanpmhaa
open Go.RowKit Go.Maps Go.WideShapes

def pairV (p : Nat × Nat) : Value := .agg #[.int .i64 (p.1 : Int), .int .i64 (p.2 : Int)]
def firstV (ps : List (Nat × Nat)) : Value := match ps with | [] => .tuple #[.agg #[.int .i64 0, .int .i64 0], .bool false] | p :: _ => .tuple #[pairV p, .bool true]

set_option maxHeartbeats 1000000 in
theorem First_any (L : List Acc) (base : Option Addr) (cap : Nat) (w : World) (hL : AccAt w base L) (hW : WfL L) (hn : L.length ≤ 1000000) :
    Calls Try.prog 11 #[.slice base L.length cap] w fun e w' => e = .returned (firstV (allTo L L.length)) ∧ Below w.heap.size w w' := by
  have hb0 : Below w.heap.size w (w.alloc (.cells #[.int .i64 0, .int .i64 0] 32)) := (Below.refl _ _).alloc (Nat.le_refl _) _
  have hall := All_any L base cap (w.alloc (.cells #[.int .i64 0, .int .i64 0] 32)) (hL.more hb0) hW hn
  have hlen : (allTo L L.length).length ≤ 1000000 * 1000000 := Nat.le_trans (allTo_len L _) (Nat.mul_le_mul hn hn)
  generalize hps : allTo L L.length = ps at *
  clear hps hL hW hn
  have hr : (w.alloc (.cells #[.int .i64 0, .int .i64 0] 32)).heap[w.heap.size]? = some (.cells #[.int .i64 0, .int .i64 0] 32 (0, 0)) := heap_alloc_new _ _
  go_enter Try.func11, Try.ntmps11
  go_wp2_with fail
  refine hall.mono ?_
  rintro e w1 ⟨v, rfl, hown, hb1⟩
  have hb1' := hb0.trans (hb1.mono hb0.size)
  have hr1 := keeps hb1 hr
  obtain ⟨vb, vcap, rfl⟩ := owns_slice hown
  cases ps with
  | nil =>
    have hl0 : ([] : List (Nat × Nat)).length = 0 := rfl
    rw [hl0]
    have c0 : w1.cell? ⟨w.heap.size, 0, none⟩ = some (.int .i64 0) := cell_of_row _ _ _ _ _ _ hr1
    have c1 : w1.cell? ⟨w.heap.size, 1, none⟩ = some (.int .i64 0) := cell_of_row _ _ _ _ _ _ hr1
    have f0 : w1.frozen? ⟨w.heap.size, 0, none⟩ = false := frozen_of_row _ _ _ _ _ hr1
    have f1 : w1.frozen? ⟨w.heap.size, 1, none⟩ = false := frozen_of_row _ _ _ _ _ hr1
    go_wp2
    refine wp_loop_rounds 1 ?_
    rw [rounds_succ]
    go_wp2
    refine bodyPost_ret (v := .tuple #[.agg #[.int .i64 0, .int .i64 0], .bool false]) (by simp [results, Try.results11, go_sem, c0, c1]) rfl ⟨rfl, (hb1'.setCell (Nat.le_refl _) _).setCell (Nat.le_refl _) _⟩
  | cons p ps =>
    have hpc := pcells_at (p :: ps) 0 p rfl
    have hcl : ∀ j u, (pcells (p :: ps))[j]? = some u → ∃ g, vb = some ⟨g, 0, none⟩ ∧ w1.cell? ⟨g, j, none⟩ = some u := by
      intro j u hu
      rcases hown.2 with ⟨_, h0⟩ | ⟨g, cap, cur, hv, _⟩
      · simp at h0
      · injection hv with h1 h2 h3
        subst h1
        have := hown.cells (g := g) rfl j u hu
        rw [Addr.add_mid, Nat.zero_add] at this
        exact ⟨g, rfl, this⟩
    obtain ⟨g, rfl, p0⟩ := hcl 0 _ hpc.1
    obtain ⟨g', e, p1⟩ := hcl 1 _ hpc.2
    injection e with e
    injection e with e
    subst e
    clear hcl hpc
    have hpos : 0 < (p :: ps).length := by simp
    have hps2 : (p :: ps).length ≤ 1000000000000 := by omega
    generalize hq : p :: ps = q at hpos hps2 ⊢
    have Hq := Lib.hid hq; clear hq
    have hb2 : Below w1.heap.size w1 (w1.alloc (.cells #[.int .i64 p.1, .int .i64 p.2] 32)) := (Below.refl _ _).alloc (Nat.le_refl _) _
    have hr2 := keeps hb2 hr1
    have c0 : (w1.alloc (.cells #[.int .i64 p.1, .int .i64 p.2] 32)).cell? ⟨w.heap.size, 0, none⟩ = some (.int .i64 0) := cell_of_row _ _ _ _ _ _ hr2
    have c1 : (w1.alloc (.cells #[.int .i64 p.1, .int .i64 p.2] 32)).cell? ⟨w.heap.size, 1, none⟩ = some (.int .i64 0) := cell_of_row _ _ _ _ _ _ hr2
    have f0 : (w1.alloc (.cells #[.int .i64 p.1, .int .i64 p.2] 32)).frozen? ⟨w.heap.size, 0, none⟩ = false := frozen_of_row _ _ _ _ _ hr2
    have f1 : (w1.alloc (.cells #[.int .i64 p.1, .int .i64 p.2] 32)).frozen? ⟨w.heap.size, 1, none⟩ = false := frozen_of_row _ _ _ _ _ hr2
    have hd : decide (0 < q.length) = true := decide_eq_true hpos
    go_wp2
    refine wp_loop_rounds 1 ?_
    rw [rounds_succ]
    go_wp2
    refine bodyPost_ret (v := .tuple #[pairV p, .bool true]) (by simp [results, Try.results11, go_sem, pairV, c0, c1]) rfl ⟨rfl, ((hb1'.trans (hb2.mono hb1'.size)).setCell (Nat.le_refl _) _).setCell (Nat.le_refl _) _⟩
end Go.Proofs.Ytlgkkjhkanpmhaa
