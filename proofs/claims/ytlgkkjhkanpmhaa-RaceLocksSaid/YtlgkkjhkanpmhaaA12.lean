import Derived.Test.YtlgkkjhkanpmhaaA11
import Derived.Deep.RegionLaw
namespace Go.Proofs.Ytlgkkjhkanpmhaa
open Go.RowKit

/-! ### Pairs -/
def pcells (ps : List (Nat × Nat)) : List Value := ps.flatMap fun p => [.int .i64 (p.1 : Int), .int .i64 (p.2 : Int)]
theorem pcells_len (ps : List (Nat × Nat)) : (pcells ps).length = ps.length * 2 := flat_len _ 2 (fun _ => rfl) ps
theorem pcells_snoc (ps : List (Nat × Nat)) (i k : Nat) : pcells (ps ++ [(i, k)]) = pcells ps ++ [.int .i64 (i : Int), .int .i64 (k : Int)] := by simp [pcells]
theorem pcells_at (ps : List (Nat × Nat)) (i : Nat) (p : Nat × Nat) (h : ps[i]? = some p) : (pcells ps)[i * 2]? = some (.int .i64 (p.1 : Int)) ∧ (pcells ps)[i * 2 + 1]? = some (.int .i64 (p.2 : Int)) := by
  have h1 := flat_at (fun p : Nat × Nat => [Value.int .i64 (p.1 : Int), .int .i64 (p.2 : Int)]) 2 (fun _ => rfl) ps i p h
  exact ⟨h1 0 (by omega), h1 1 (by omega)⟩

/-- Those that race with the k-th, of these. -/
def innerL (L : List Acc) (k : Nat) (xs : List Nat) : List (Nat × Nat) := (xs.filter fun i => raceB (aAt L i) (aAt L k)).map fun i => (i, k)
theorem innerL_nil (L : List Acc) (k : Nat) : innerL L k [] = [] := rfl
theorem innerL_snoc (L : List Acc) (k : Nat) (xs : List Nat) (i : Nat) : innerL L k (xs ++ [i]) = innerL L k xs ++ (if raceB (aAt L i) (aAt L k) then [(i, k)] else []) := by
  unfold innerL
  rw [List.filter_append, List.map_append]
  by_cases h : raceB (aAt L i) (aAt L k) = true <;> simp [h]
theorem innerL_len (L : List Acc) (k : Nat) (xs : List Nat) : (innerL L k xs).length ≤ xs.length := by
  unfold innerL; rw [List.length_map]; exact List.length_filter_le _ _
/-- All pairs of the first k. -/
def allTo (L : List Acc) : Nat → List (Nat × Nat)
  | 0 => []
  | k + 1 => allTo L k ++ innerL L k (List.range k)
theorem allTo_zero (L : List Acc) : allTo L 0 = [] := rfl
theorem allTo_succ (L : List Acc) (k : Nat) : allTo L (k + 1) = allTo L k ++ innerL L k (List.range k) := rfl
theorem allTo_len (L : List Acc) (k : Nat) : (allTo L k).length ≤ k * k := by
  induction k with
  | zero => simp [allTo_zero]
  | succ k ih =>
    rw [allTo_succ, List.length_append]
    have := innerL_len L k (List.range k)
    rw [List.length_range] at this
    have e : (k + 1) * (k + 1) = k * k + k + k + 1 := by rw [Nat.add_mul, Nat.mul_add]; omega
    omega
attribute [irreducible] allTo innerL

theorem info_is {T : TypeId} {c s b : Nat} (h : (Try.prog.info? T).map (fun i => (i.zero.map (·.cells.size), i.size, i.bytes)) = some (some c, s, b)) : ∃ i z, Try.prog.info? T = some i ∧ i.zero = some z ∧ i.size = s ∧ i.bytes = b ∧ z.cells.size = c := info_some h
theorem Try.info35 : (Try.prog.info? 35).map (fun i => (i.zero.map (·.cells.size), i.size, i.bytes)) = some (some 2, 2, 16) := by kernel_rfl
theorem Try.info32 : (Try.prog.info? 32).map (fun i => (i.zero.map (·.cells.size), i.size, i.bytes)) = some (some 2, 2, 16) := by kernel_rfl
theorem Try.under29 : Try.prog.underlying 29 = some (.slice 35) := by kernel_rfl
theorem Try.under25 : Try.prog.underlying 25 = some (.slice 32) := by kernel_rfl

/-- 'append(l, p)' of one pair. -/
theorem app_pair {ops : Array Oper} {rest : List Oper} {o : Oper} {a : Act} {Q : Exit → Act → World → Prop} {w : World} (t T : TypeId) (hu : Try.prog.underlying t = some (.slice T)) (hinfo : (Try.prog.info? T).map (fun i => (i.zero.map (·.cells.size), i.size, i.bytes)) = some (some 2, 2, 16)) (hgd : o.guard = none) (s x : Operand)
    (ho : o.op = .call { callee := .builtin .append, args := #[s, x], argTypes := #[t, t] }) {B : Nat} {v : Value} {L : List (Nat × Nat)}
    (hown : w.ownsRow B T 2 v L.length (pcells L)) (p q : Nat) (hs : a.eval s = v) (hx : a.eval x = .slice (some ⟨w.heap.size, 0, none⟩) 1 1)
    (hn : L.length + 1 ≤ 1099511627776) (hB : B ≤ w.heap.size)
    (h : ∀ v' w', w'.ownsRow B T 2 v' (L ++ [(p, q)]).length (pcells (L ++ [(p, q)])) → (w.alloc (.cells #[.int .i64 (p : Int), .int .i64 (q : Int)] T)).grownBy w' v.ownBlock → (v'.ownBlock = v.ownBlock ∨ ∃ g, v'.ownBlock = some g ∧ w.heap.size ≤ g) → wpList Try.prog ops Q rest (a.put o.dst v') w') :
    wpList Try.prog ops Q (o :: rest) a (w.alloc (.cells #[.int .i64 (p : Int), .int .i64 (q : Int)] T)) := by
  obtain ⟨i0, z, hi, hz0, hz1, hz2, hz3⟩ := info_some hinfo
  have hl := pcells_len L
  refine wpList_append_own_at _ hgd s x t ho B T i0 z 2 16 hu hi hz0 hz1 hz2 hz3 (by decide) v L.length (pcells L) hs (hown.alloc _) ⟨w.heap.size, 0, none⟩ 1 1 [.int .i64 (p : Int), .int .i64 (q : Int)] hx rfl
    (cell_new w [.int .i64 (p : Int), .int .i64 (q : Int)] T) (by simp [Value.oneCell']) (by unfold maxLen; omega) (by omega) (by simp; omega) ?_
  intro v' w' h1 h2 h3 h4
  refine h v' w' (by rw [pcells_snoc, List.length_append]; exact h1) h2 ?_
  rcases h4 with h4 | h4
  · exact .inl h4
  · exact .inr ⟨_, h4, by simp⟩

/-! ### A load of some cells inside a region that draws -/
def midVal (n : Nat) (w : World) : Value → Value
  | .pointer (some a) => .agg ((List.range n).map fun j => (w.cell? ⟨a.block, a.off + j, none⟩).getD undef).toArray
  | _ => undef
def midFits (n : Nat) (w : World) : Value → Bool
  | .pointer (some a) => a.spot.isNone && (List.range n).all fun j => (w.cell? ⟨a.block, a.off + j, none⟩).isSome
  | _ => false
theorem mid_of {w : World} {b o n : Nat} {cs : List Value} (h : w.rangeAt b o cs) (hn : cs.length = n) : midFits n w (.pointer (some ⟨b, o, none⟩)) = true ∧ midVal n w (.pointer (some ⟨b, o, none⟩)) = .agg cs.toArray := by
  subst hn
  constructor
  · simp only [midFits, Option.isNone_none, Bool.true_and, List.all_eq_true, List.mem_range]
    intro j hj
    exact h.isSome j hj
  · simp only [midVal]
    congr 2
    apply List.ext_getElem
    · simp
    · intro j h1 h2
      simp only [List.getElem_map, List.getElem_range]
      rw [h j _ (List.getElem?_eq_getElem h2)]; rfl
theorem wp_mid {T : TypeId} {n : Nat} (hu : ∃ d, Try.prog.underlying T = some d ∧ d.isRow = true) (hi : (Try.prog.info? T).map (·.size) = some n) (dst : Option Tmp) (x : Operand) (ty : TypeId) (pos : String) (af : Array Go.Edge) (g : Option (Nat × Bool)) (a : Act) (w : World) (K : Act → World → Prop) (Q : Exit → Act → World → Prop)
    (h : midFits n w (a.eval x) = true) : Oper.wp Try.prog ⟨dst, .load T x, ty, pos, af, g⟩ a w K Q = K (a.put dst (midVal n w (a.eval x))) w := by
  obtain ⟨d, hd, hrow⟩ := hu
  unfold midFits at h
  split at h
  · rename_i ad e
    obtain ⟨b, off, spot⟩ := ad
    simp only [Bool.and_eq_true, List.all_eq_true, List.mem_range] at h
    obtain ⟨hs, hc⟩ := h
    have hs' : spot = none := by cases spot <;> simp_all
    subst hs'
    have hr : w.rangeAt b off ((List.range n).map fun j => (w.cell? ⟨b, off + j, none⟩).getD undef) := by
      intro j v hv
      rw [List.getElem?_map] at hv
      by_cases hj : j < n
      · rw [List.getElem?_range hj] at hv
        simp only [Option.map_some, Option.some.injEq] at hv
        obtain ⟨u, hu⟩ := Option.isSome_iff_exists.1 (hc j hj)
        rw [← hv, hu]; rfl
      · rw [List.getElem?_eq_none (by simp; omega)] at hv; cases hv
    unfold Oper.wp execOp
    simp only [e, Instr.loadAt, Instr.sureAddr, Sem.run_bind, Sem.run_pure, Result.andThen_ok, run_loadVar_mid w b off T _ d hr hd hrow (by rw [hi]; simp)]
    rfl
  · exact absurd h (by simp)
theorem wp_mid52 (dst : Option Tmp) (x : Operand) (ty : TypeId) (pos : String) (af : Array Go.Edge) (g : Option (Nat × Bool)) (a : Act) (w : World) (K : Act → World → Prop) (Q : Exit → Act → World → Prop)
    (h : midFits 12 w (a.eval x) = true) : Oper.wp Try.prog ⟨dst, .load 52 x, ty, pos, af, g⟩ a w K Q = K (a.put dst (midVal 12 w (a.eval x))) w := wp_mid Try.under52 Try.size52 dst x ty pos af g a w K Q h
theorem wp_mid41 (dst : Option Tmp) (x : Operand) (ty : TypeId) (pos : String) (af : Array Go.Edge) (g : Option (Nat × Bool)) (a : Act) (w : World) (K : Act → World → Prop) (Q : Exit → Act → World → Prop)
    (h : midFits 12 w (a.eval x) = true) : Oper.wp Try.prog ⟨dst, .load 41 x, ty, pos, af, g⟩ a w K Q = K (a.put dst (midVal 12 w (a.eval x))) w := wp_mid Try.under41 Try.size41 dst x ty pos af g a w K Q h
end Go.Proofs.Ytlgkkjhkanpmhaa
