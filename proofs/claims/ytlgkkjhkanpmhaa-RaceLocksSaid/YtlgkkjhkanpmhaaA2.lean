import Derived.Test.YtlgkkjhkanpmhaaA1
namespace Go.Proofs.Ytlgkkjhkanpmhaa
open Go.RowKit

def zeroC : List Nat := List.replicate 8 0
theorem Try.zero38 (w : World) : (zeroValue 38).run Try.prog w = .ok (.agg (ccells zeroC).toArray) w := by kernel_rfl
theorem c_size (l : List Nat) (h : l.length = 8) : (Try.prog.info? 38).map (·.size) = some (ccells l).toArray.size := by rw [Try.size38]; simp [h]
theorem c_one (l : List Nat) : (ccells l).toArray.all (·.oneCell') = true := by simp [ccells, Value.oneCell']

section
variable {ops : Array Oper} {rest : List Oper} {o : Oper} {a : Act} {Q : Exit → Act → World → Prop} {w : World}
theorem row_alloc (hgd : o.guard = none) (T : TypeId) (ho : o.op = .alloc T) (cs : Array Value) (hz : (zeroValue T).run Try.prog w = .ok (.agg cs) w)
    (h : wpList Try.prog ops Q rest (a.put o.dst (.pointer (some ⟨w.heap.size, 0, none⟩))) (w.alloc (.cells cs T))) : wpList Try.prog ops Q (o :: rest) a w :=
  wpList_plain hgd fun _ hK => by
    unfold Oper.wp execOp
    simp only [ho, Instr.alloc, Sem.run_bind, hz, Result.andThen_ok]
    exact hK _ _ h
theorem load_c (hgd : o.guard = none) (x : Operand) (ho : o.op = .load 38 x) (b : Nat) (hx : a.eval x = .pointer (some ⟨b, 0, none⟩)) (l : List Nat) (hl : l.length = 8) {T : TypeId} {fr : Nat × Nat}
    (hg : w.heap[b]? = some (.cells (ccells l).toArray T fr)) (h : wpList Try.prog ops Q rest (a.put o.dst (.agg (ccells l).toArray)) w) : wpList Try.prog ops Q (o :: rest) a w :=
  wpList_load_row hgd 38 x ho b hx T _ fr _ hg Try.underlying38 rfl (c_size l hl) h
theorem store_c (hgd : o.guard = none) (x y : Operand) (ho : o.op = .store 38 x y) (b : Nat) (l : List Nat) (hl : l.length = 8) (hx : a.eval x = .pointer (some ⟨b, 0, none⟩)) (hy : a.eval y = .agg (ccells l).toArray)
    {T : TypeId} {l0 : List Nat} (hl0 : l0.length = 8) (hg : w.heap[b]? = some (.cells (ccells l0).toArray T (0, 0)))
    (h : wpList Try.prog ops Q rest (a.put o.dst undef) (w.setRow b (ccells l).toArray)) : wpList Try.prog ops Q (o :: rest) a w :=
  wpList_store_row hgd 38 x y ho b _ hx hy T _ hg (c_size l hl) (by simp [hl, hl0]) (c_one l) h
end

theorem keeps {w w' : World} (hb : Below w.heap.size w w') {b : Nat} {o : Obj} (h : w.heap[b]? = some o) : w'.heap[b]? = some o :=
  (hb.block b (Array.getElem?_eq_some_iff.1 h).1).trans h
end Go.Proofs.Ytlgkkjhkanpmhaa
