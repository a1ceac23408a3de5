import Derived.Test.YtlgkkjhkanpmhaaA9
import Derived.Laws.AppendOwnNone
import Derived.Great.BuildSlice
import Derived.Laws.Tables
namespace Go.Proofs.Ytlgkkjhkanpmhaa
open Go.RowKit

theorem built41 (th ce : Int) (wr : Bool) (c0 c1 c2 c3 c4 c5 c6 c7 : Value) (lk : Int) : Try.prog.built 41 [(0, .int .i64 th), (1, .int .i64 ce), (2, .bool wr), (3, .agg #[c0, c1, c2, c3, c4, c5, c6, c7]), (4, .int .u64 lk)] =
    some #[.int .i64 th, .int .i64 ce, .bool wr, c0, c1, c2, c3, c4, c5, c6, c7, .int .u64 lk] := by kernel_rfl
theorem list8 {α : Type} {l : List α} (h : l.length = 8) : ∃ a b c d e f g i, l = [a, b, c, d, e, f, g, i] := by
  match l, h with
  | [a, b, c, d, e, f, g, i], _ => exact ⟨a, b, c, d, e, f, g, i, rfl⟩
theorem build_acc (a : Acc) (h : a.clk.length = 8) (w : World) : (Instr.build 41 #[(0, .int .i64 a.th), (1, .int .i64 a.ce), (2, .bool a.wr), (3, .agg (ccells a.clk).toArray), (4, .int .u64 (a.lk : Int))]).run Try.prog w = .ok (accV a) w := by
  refine run_build w 41 _ _ ?_
  rw [← clkCells_eq h]
  have hc : clkCells a.clk = [.int .u32 ((gAt a.clk 0 : Nat) : Int), .int .u32 ((gAt a.clk 1 : Nat) : Int), .int .u32 ((gAt a.clk 2 : Nat) : Int), .int .u32 ((gAt a.clk 3 : Nat) : Int), .int .u32 ((gAt a.clk 4 : Nat) : Int), .int .u32 ((gAt a.clk 5 : Nat) : Int), .int .u32 ((gAt a.clk 6 : Nat) : Int), .int .u32 ((gAt a.clk 7 : Nat) : Int)] := rfl
  rw [hc]
  exact built41 _ _ _ _ _ _ _ _ _ _ _ _

theorem Try.info41 : (Try.prog.info? 41).map (fun i => (i.zero.map (·.cells.size), i.size, i.bytes)) = some (some 12, 12, 64) := by kernel_rfl
theorem Try.underlying27' : Try.prog.underlying 27 = some (.slice 41) := by kernel_rfl
theorem info_some {T : TypeId} {c s b : Nat} (h : (Try.prog.info? T).map (fun i => (i.zero.map (·.cells.size), i.size, i.bytes)) = some (some c, s, b)) : ∃ i z, Try.prog.info? T = some i ∧ i.zero = some z ∧ i.size = s ∧ i.bytes = b ∧ z.cells.size = c := by
  cases hi : Try.prog.info? T with
  | none => rw [hi] at h; cases h
  | some i =>
    rw [hi] at h
    simp only [Option.map_some, Option.some.injEq, Prod.mk.injEq] at h
    cases hz : i.zero with
    | none => rw [hz] at h; simp at h
    | some z => rw [hz] at h; simp only [Option.map_some, Option.some.injEq] at h; exact ⟨i, z, rfl, hz, h.2.1, h.2.2, h.1⟩
theorem bs_acc (a : Acc) (w : World) : (Instr.buildSlice 27 1 #[(0, accV a)]).run Try.prog w = .ok (.slice (some ⟨w.heap.size, 0, none⟩) 1 1) (w.alloc (.cells (accCells a).toArray 41)) := by
  obtain ⟨i, z, hi, hz, hs, _, _⟩ := info_some Try.info41
  refine run_buildSlice w 27 41 1 _ _ i z Try.underlying27' hi hz (by rw [hs]; decide) (by rw [hs]; decide) ?_
  rw [hs]
  have := Go.Great.fill_whole (s := 12) (by decide) [accV a] ((Array.range (1 * 12)).map (z.cells[· % z.cells.size]!)) (by intro v hv; simp at hv; subst hv; rfl) (by simp)
  simpa [accV, Value.cells] using this

/-! ### Rows of structs -/
theorem flat_at {α : Type} (f : α → List Value) (s : Nat) (hf : ∀ a, (f a).length = s) (L : List α) : ∀ (i : Nat) (a : α), L[i]? = some a → ∀ j, j < s → (L.flatMap f)[i * s + j]? = (f a)[j]? := by
  induction L with
  | nil => intro i a h; simp at h
  | cons x L ih =>
    intro i a h j hj
    rw [List.flatMap_cons]
    cases i with
    | zero =>
      simp only [List.getElem?_cons_zero, Option.some.injEq] at h
      subst h
      rw [Nat.zero_mul, Nat.zero_add, List.getElem?_append_left (by rw [hf]; exact hj)]
    | succ i =>
      simp only [List.getElem?_cons_succ] at h
      rw [List.getElem?_append_right (by rw [hf, Nat.add_mul]; omega), hf, ← ih i a h j hj]
      congr 1
      rw [Nat.add_mul]; omega
theorem flat_len {α : Type} (f : α → List Value) (s : Nat) (hf : ∀ a, (f a).length = s) (L : List α) : (L.flatMap f).length = L.length * s := by
  induction L with
  | nil => simp
  | cons x L ih => rw [List.flatMap_cons, List.length_append, ih, hf, List.length_cons, Nat.add_mul]; omega
theorem cell_new (w : World) (cs : List Value) (t : TypeId) : ∀ j u, cs[j]? = some u → (w.alloc (.cells cs.toArray t)).cell? ((⟨w.heap.size, 0, none⟩ : Addr).add j) = some u := by
  intro j u h
  rw [Addr.add_mid, Nat.zero_add, cell_of_row _ _ _ _ _ _ (heap_alloc_new _ _)]
  simpa using h

def zeroA : Acc := ⟨0, 0, false, [], 0⟩
def aAt (L : List Acc) (i : Nat) : Acc := L.getD i zeroA
def acells (L : List Acc) : List Value := L.flatMap accCells
theorem acells_len (L : List Acc) : (acells L).length = L.length * 12 := flat_len accCells 12 (fun _ => rfl) L
theorem acells_at (L : List Acc) (i : Nat) (hi : i < L.length) (j : Nat) (hj : j < 12) : (acells L)[i * 12 + j]? = (accCells (aAt L i))[j]? :=
  flat_at accCells 12 (fun _ => rfl) L i _ (by simp [aAt, List.getD, hi]) j hj
theorem acells_snoc (L : List Acc) (a : Acc) : acells (L ++ [a]) = acells L ++ accCells a := by simp [acells]

/-- Accesses behind a slice's base. -/
def AccAt (w : World) (base : Option Addr) (L : List Acc) : Prop :=
  ∀ i, i < L.length → ∃ b off, base = some ⟨b, off, none⟩ ∧ w.rangeAt b (off + i * 12) (accCells (aAt L i))
theorem range_keep {w w1 : World} {b o : Nat} {cs : List Value} (h : w.rangeAt b o cs) (hb : Below w.heap.size w w1) : w1.rangeAt b o cs := fun j v hv => by
  have := h j v hv
  rw [hb.cell (World.block_lt_of_cell? w _ this)]; exact this
theorem AccAt.more {w w1 : World} {base : Option Addr} {L : List Acc} (h : AccAt w base L) (hb : Below w.heap.size w w1) : AccAt w1 base L := fun i hi => by
  obtain ⟨b, off, e, hr⟩ := h i hi
  exact ⟨b, off, e, range_keep hr hb⟩
theorem owns_acc {w : World} {B n : Nat} {T : TypeId} {v : Value} {L : List Acc} (h : w.ownsRow B T 12 v n (acells L)) (hn : n = L.length) : ∃ base cap, v = .slice base L.length cap ∧ AccAt w base L := by
  subst hn
  rcases h.2 with ⟨rfl, h0⟩ | ⟨g, cap, cur, rfl, _⟩
  · exact ⟨none, 0, by rw [h0], fun i hi => by omega⟩
  · refine ⟨some ⟨g, 0, none⟩, cap, rfl, fun i hi => ⟨g, 0, rfl, fun j v hv => ?_⟩⟩
    have hcl := World.ownsRow.cells h (g := g) rfl
    have hj : j < 12 := (List.getElem?_eq_some_iff.1 hv).1
    rw [← acells_at L i hi j hj] at hv
    have := hcl _ _ hv
    rw [Addr.add_mid] at this
    rw [show 0 + i * 12 + j = 0 + (i * 12 + j) by omega]
    exact this

structure WfA (a : Acc) : Prop where
  clk : WfC a.clk
  th : (Lit.int .i64 a.th).wf = true
  ce : (Lit.int .i64 a.ce).wf = true
  lk : a.lk < 18446744073709551616
def WfL (L : List Acc) : Prop := ∀ i, i < L.length → WfA (aAt L i)

theorem Try.zero52 (w : World) : (zeroValue 52).run Try.prog w = .ok (accV ⟨0, 0, false, zeroC, 0⟩) w := by kernel_rfl
theorem accCells_one (a : Acc) : (accCells a).toArray.all (·.oneCell') = true := by
  rw [Array.all_eq_true_iff_forall_mem]
  intro u hu
  simp only [accCells, clkCells, List.mem_toArray, List.mem_append, List.mem_cons, List.not_mem_nil, or_false, List.mem_map] at hu
  rcases hu with ((rfl | rfl | rfl) | ⟨_, _, rfl⟩) | rfl <;> rfl
theorem accCells_mem (a : Acc) : ∀ u ∈ accCells a, u.oneCell' = true := by
  intro u hu
  have := accCells_one a
  exact (Array.all_eq_true_iff_forall_mem.1 this) u (by simpa using hu)
theorem take_snoc_a (L : List Acc) (k : Nat) (h : k < L.length) : L.take (k + 1) = L.take k ++ [aAt L k] := by
  rw [List.take_succ_eq_append_getElem h]; simp [aAt, List.getD, h]

/-- 'append(l, a)' of one access. -/
theorem app_acc {ops : Array Oper} {rest : List Oper} {o : Oper} {a : Act} {Q : Exit → Act → World → Prop} {w : World} (hgd : o.guard = none) (s x : Operand)
    (ho : o.op = .call { callee := .builtin .append, args := #[s, x], argTypes := #[27, 27] }) {B : Nat} {v : Value} {L : List Acc}
    (hown : w.ownsRow B 41 12 v L.length (acells L)) (c : Acc) (hs : a.eval s = v) (hx : a.eval x = .slice (some ⟨w.heap.size, 0, none⟩) 1 1)
    (hn : L.length + 1 ≤ 1099511627776) (hB : B ≤ w.heap.size)
    (h : ∀ v' w', w'.ownsRow B 41 12 v' (L ++ [c]).length (acells (L ++ [c])) → (w.alloc (.cells (accCells c).toArray 41)).grownBy w' v.ownBlock → wpList Try.prog ops Q rest (a.put o.dst v') w') :
    wpList Try.prog ops Q (o :: rest) a (w.alloc (.cells (accCells c).toArray 41)) := by
  obtain ⟨i0, z, hi, hz0, hz1, hz2, hz3⟩ := info_some Try.info41
  have hl := acells_len L
  refine wpList_append_own _ hgd s x 27 ho B 41 i0 z 12 64 Try.underlying27' hi hz0 hz1 hz2 hz3 (by decide) v L.length (acells L) hs (hown.alloc _) ⟨w.heap.size, 0, none⟩ 1 1 (accCells c) hx rfl
    (cell_new _ _ _) (accCells_mem c) (by unfold maxLen; omega) (by omega) (by simp; omega) ?_
  intro v' w' h1 h2 _
  exact h v' w' (by rw [acells_snoc, List.length_append]; exact h1) h2
end Go.Proofs.Ytlgkkjhkanpmhaa
