import Derived.Test.YtlgkkjhkanpmhaaA6
namespace Go.Proofs.Ytlgkkjhkanpmhaa
open Go.RowKit

/-- Side by side. -/
@[irreducible] def besideC (a b : List Nat) : Bool := !leqC a b && !leqC b a
theorem besideC_eq (a b : List Nat) : besideC a b = (!leqC a b && !leqC b a) := by unfold besideC; rfl
theorem besideC_symm (a b : List Nat) : besideC a b = besideC b a := by rw [besideC_eq, besideC_eq]; exact Bool.and_comm _ _

section
variable {ops : Array Oper} {rest : List Oper} {o : Oper} {a : Act} {Q : Exit → Act → World → Prop} {w : World}
theorem load_c_if (hw : Region.wanted o (yielded ops a.tmps) = true) (x : Operand) (ho : o.op = .load 38 x) (b : Nat) (hx : a.eval x = .pointer (some ⟨b, 0, none⟩)) (l : List Nat) (hl : l.length = 8) {T : TypeId} {fr : Nat × Nat}
    (hg : w.heap[b]? = some (.cells (ccells l).toArray T fr)) (h : wpList Try.prog ops Q rest (a.put o.dst (.agg (ccells l).toArray)) w) : wpList Try.prog ops Q (o :: rest) a w :=
  wpList_step fun K hK => by
    rw [if_pos hw]
    exact wp_load_row 38 x ho b hx T _ fr _ hg Try.underlying38 rfl (c_size l hl) (hK _ _ h)
end

set_option maxHeartbeats 1000000 in
theorem Beside_any (a b : List Nat) (ha : WfC a) (hb : WfC b) (w : World) :
    Calls Try.prog 12 #[.agg (ccells a).toArray, .agg (ccells b).toArray] w fun e w' => e = .returned (.bool (besideC a b)) ∧ Below w.heap.size w w' := by
  rw [besideC_eq]
  have hbelow : Below w.heap.size w ((w.alloc (.cells (ccells a).toArray 38)).alloc (.cells (ccells b).toArray 38)) := ((Below.refl _ _).alloc (Nat.le_refl _) _).alloc (by simp) _
  have ga : ((w.alloc (.cells (ccells a).toArray 38)).alloc (.cells (ccells b).toArray 38)).heap[w.heap.size]? = some (.cells (ccells a).toArray 38 (0, 0)) := (Below.heap_alloc _ _ _ (by simp)).trans (heap_alloc_new _ _)
  have gb : ((w.alloc (.cells (ccells a).toArray 38)).alloc (.cells (ccells b).toArray 38)).heap[w.heap.size + 1]? = some (.cells (ccells b).toArray 38 (0, 0)) := by
    have := heap_alloc_new (w.alloc (.cells (ccells a).toArray 38)) (.cells (ccells b).toArray 38); simpa using this
  obtain ⟨q, hq⟩ : ∃ q, leqC a b = q := ⟨_, rfl⟩
  go_enter Try.func12, Try.ntmps12
  go_wp2_with (first | (refine load_c rfl _ rfl _ rfl a ha.len ga ?_) | (refine load_c rfl _ rfl _ rfl b hb.len gb ?_))
  generalize hW : (w.alloc (.cells (ccells a).toArray 38)).alloc (.cells (ccells b).toArray 38) = w0 at *
  clear hW
  refine (Leq_any a b ha hb _).mono ?_
  rintro e w1 ⟨rfl, hb1⟩
  rw [hq]
  have hbelow := hbelow.trans (hb1.mono hbelow.size)
  have ga1 := keeps hb1 ga
  have gb1 := keeps hb1 gb
  cases q
  · go_wp2_with (first | (go_at_call 17; refine (Leq_any b a hb ha _).mono ?_; rintro e w2 ⟨rfl, hb2⟩) | (refine load_c_if rfl _ rfl _ rfl a ha.len ga1 ?_) | (refine load_c_if rfl _ rfl _ rfl b hb.len gb1 ?_))
    go_ret
    exact ⟨by simp [hq], hbelow.trans (hb2.mono hbelow.size)⟩
  · go_wp2
    go_ret
    exact ⟨by simp [hq], hbelow⟩
end Go.Proofs.Ytlgkkjhkanpmhaa
