import Derived.Test.YtiililidehddmaaDoorA6
namespace Go.Proofs.YtiililidehddmaaDoor
open Go.RowKit

open Classical in
/-- The nodes to which a way of one edge or more leads, rising. -/
noncomputable def reachL (g : List Nat) (n : Int) : List Nat := (List.range 64).filter fun j => decide (nodeB n = true ∧ Way g n.toNat j)

theorem reachL_of {g : List Nat} {n : Int} {r : Nat} (h : ∀ j, r.testBit j = true ↔ nodeB n = true ∧ Way g n.toNat j) : bitsOf r = reachL g n := by
  unfold bitsOf reachL
  apply List.filter_congr
  intro j _
  rw [Bool.eq_iff_iff, h j]; simp

theorem reachL_len (g : List Nat) (n : Int) : (reachL g n).length ≤ 64 := by
  unfold reachL
  exact Nat.le_trans (List.length_filter_le _ _) (by simp)

set_option maxHeartbeats 1000000 in
theorem Reach_any (g : List Nat) (hg : WfG g) (n : Int) (w : World) (hT : Tab w) :
    Calls Tryd.prog 20 #[gval g, .int .i64 n] w fun e w' => ∃ v, e = .returned v ∧ w'.ownsRow w.heap.size 3 1 v (reachL g n).length (ints (reachL g n)) ∧ Below w.heap.size w w' := by
  have hTa : Tab (w.alloc (.cells (gcells g).toArray 33)) := hT.alloc _
  by_cases hn : nodeB n = true
  · obtain ⟨k, rfl, hk⟩ := nodeB_true hn
    unfold gval
    go_enter Tryd.func20, Tryd.ntmps20
    go_wp2_with (first | (go_at_call 32; refine (isNode_any _ _).mono ?_; rintro e w' ⟨rfl, rfl⟩; simp only [hn]) | (refine load_g rfl _ rfl _ rfl g hg.len (heap_alloc_new _ _) ?_))
    refine (reach_any g hg k hk _ hTa).mono ?_
    rintro e w1 ⟨r, rfl, hr, hw, hb⟩
    have hT1 : Tab w1 := hTa.below hb hTa.size
    have hf : bitsOf r = reachL g k := reachL_of (fun j => by rw [hw j]; simp [hn])
    have Hf := Lib.hid hf; clear hf
    go_wp2_with fail
    refine (list_any r hr _ hT1).mono ?_
    rintro e w2 ⟨v, rfl, hown, hb2⟩
    go_wp2
    go_ret
    refine ⟨v, rfl, ?_, below_alloc (hb.trans (hb2.mono hb.size))⟩
    rw [← Hf.out]
    exact owns_base hown (by have := hb.size; simp at this; omega)
  · have hn' : nodeB n = false := by simpa using hn
    clear hn
    have hf : reachL g n = [] := by simp [reachL, hn']
    have Hf := Lib.hid hf; clear hf
    unfold gval
    go_enter Tryd.func20, Tryd.ntmps20
    go_wp2_with (go_at_call 32; refine (isNode_any _ _).mono ?_; rintro e w' ⟨rfl, rfl⟩; simp only [hn'])
    go_ret
    exact ⟨_, rfl, by rw [Hf.out]; exact World.ownsRow_nil _ _ _ _, (Below.refl _ _).alloc (Nat.le_refl _) _⟩

/-- An element of an array that is a value. -/
theorem run_idx_g (l : List Nat) (hl : l.length = 64) (k : Nat) (hk : k < 64) (w : World) :
    (Instr.index 31 (.agg (gcells l).toArray) (.int .i64 (k : Int))).run Tryd.prog w = .ok (.int .u64 ((gAt l k : Nat) : Int)) w := by
  have hs : (sizeOf 30).run Tryd.prog w = .ok 1 w := by kernel_rfl
  have hcell : (gcells l).toArray[k]? = some (.int .u64 ((gAt l k : Nat) : Int)) := gcell l k (by omega)
  simp only [List.getElem?_toArray] at hcell
  simp [Instr.index, asIntOf, run_underlying Tryd.underlying31, Sem.run_bind, hs, part, hcell]
  intro h; omega

theorem load31 {ops : Array Oper} {rest : List Oper} {o : Oper} {a : Act} {Q : Exit → Act → World → Prop} {w : World} (hgd : o.guard = none) (x : Operand) (ho : o.op = .load 31 x) (b : Nat) (hx : a.eval x = .pointer (some ⟨b, 0, none⟩)) (l : List Nat) (hl : l.length = 64) {T : TypeId} {fr : Nat × Nat}
    (hg : w.heap[b]? = some (.cells (gcells l).toArray T fr)) (h : wpList Tryd.prog ops Q rest (a.put o.dst (.agg (gcells l).toArray)) w) : wpList Tryd.prog ops Q (o :: rest) a w :=
  wpList_load_row hgd 31 x ho b hx T _ fr _ hg Tryd.underlying31 rfl (by rw [show (Tryd.prog.info? 31).map (·.size) = some 64 from by kernel_rfl]; simp [hl]) h

/-- How many edges the first k nodes have. -/
def lenTo (g : List Nat) : Nat → Nat
  | 0 => 0
  | k + 1 => lenTo g k + pop64 (gAt g k)

theorem lenTo_zero (g : List Nat) : lenTo g 0 = 0 := rfl
theorem lenTo_succ (g : List Nat) (k : Nat) : lenTo g (k + 1) = lenTo g k + pop64 (gAt g k) := rfl
theorem lenTo_le (g : List Nat) (k : Nat) : lenTo g k ≤ 64 * k := by
  induction k with
  | zero => simp [lenTo]
  | succ k ih => have := pop64_le (gAt g k); rw [lenTo]; omega

attribute [irreducible] lenTo
set_option maxHeartbeats 1000000 in
theorem Len_any (g : List Nat) (hg : WfG g) (w : World) :
    Calls Tryd.prog 22 #[gval g] w fun e w' => e = .returned (.int .i64 (lenTo g 64)) ∧ Below w.heap.size w w' := by
  unfold gval
  go_enter Tryd.func22, Tryd.ntmps22
  go_wp2_with (refine load31 rfl _ rfl _ rfl g hg.len (heap_alloc_new _ _) ?_)
  go_loop [3, 8] (fun n i => ∃ k : Nat, k ≤ 64 ∧ i = .int .i64 k ∧ n = .int .i64 (lenTo g k)) (fun _ i => 64 - (intOf i).toNat)
  case atStart => exact ⟨0, by omega, rfl, by rw [lenTo_zero]; rfl⟩
  case round =>
    obtain ⟨k, hk, rfl, rfl⟩ := hrel
    by_cases hlt : k < 64
    · have hx := run_idx_g g hg.len k hlt
      have h1 := lenTo_le g k
      have h2 := pop64_le (gAt g k)
      have hgl := hg.lt k
      go_wp2_with (go_at_call 34; refine (ones_any _ hgl _).mono ?_; rintro e w' ⟨rfl, rfl⟩)
      go_round
      case rel => exact ⟨k + 1, by omega, by go_num, by rw [lenTo_succ]; go_num⟩
      case measure => simp [intOf]; omega
    · have hke := Lib.hid (show k = 64 by omega)
      go_wp2
      go_ret
      exact ⟨by rw [← hke.out]; rfl, (Below.refl _ _).alloc (Nat.le_refl _) _⟩

/-- The nodes that have an edge, or to which one leads, of the first k. -/
def allTo (g : List Nat) : Nat → Nat
  | 0 => 0
  | k + 1 => if gAt g k = 0 then allTo g k else allTo g k ||| gAt g k ||| 2 ^ k

theorem allTo_zero (g : List Nat) : allTo g 0 = 0 := rfl
theorem allTo_succ (g : List Nat) (k : Nat) : allTo g (k + 1) = if gAt g k = 0 then allTo g k else allTo g k ||| gAt g k ||| 2 ^ k := rfl
theorem allTo_lt {g : List Nat} (hg : WfG g) (k : Nat) (hk : k ≤ 64) : allTo g k < 2 ^ 64 := by
  induction k with
  | zero => simp [allTo]
  | succ k ih =>
    rw [allTo]
    split
    · exact ih (by omega)
    · exact Nat.or_lt_two_pow (Nat.or_lt_two_pow (ih (by omega)) (hg.lt k)) (Nat.pow_lt_pow_right (by omega) (by omega))

attribute [irreducible] allTo
set_option maxHeartbeats 1000000 in
theorem all_any (g : List Nat) (hg : WfG g) (w : World) :
    Calls Tryd.prog 24 #[gval g] w fun e w' => e = .returned (.int .u64 (allTo g 64)) ∧ Below w.heap.size w w' := by
  unfold gval
  go_enter Tryd.func24, Tryd.ntmps24
  go_wp2_with (refine load31 rfl _ rfl _ rfl g hg.len (heap_alloc_new _ _) ?_)
  go_loop [3, 8] (fun n i => ∃ k : Nat, k ≤ 64 ∧ i = .int .i64 k ∧ n = .int .u64 (allTo g k)) (fun _ i => 64 - (intOf i).toNat)
  case atStart => exact ⟨0, by omega, rfl, by rw [allTo_zero]; rfl⟩
  case round =>
    obtain ⟨k, hk, rfl, rfl⟩ := hrel
    by_cases hlt : k < 64
    · have hx := run_idx_g g hg.len k hlt
      have h1 := allTo_lt hg k hk
      have hgl := hg.lt k
      by_cases h0 : gAt g k = 0
      · have hne : (((gAt g k : Nat) : Int) != 0) = false := by simp [h0]
        have e : bits .or .u64 ((allTo g k : Nat) : Int) ((gAt g k : Nat) : Int) = ((allTo g (k + 1) : Nat) : Int) := by rw [or_u64 _ _ h1 hgl, allTo_succ, if_pos h0, h0]; simp
        have Hid0 := Lib.hid e; have Hidz := Lib.hid h0; clear e h0
        go_wp2
        go_round
        case rel => exact ⟨k + 1, by omega, by go_num, congrArg _ Hid0.out⟩
        case measure => simp [intOf]; omega
      · have hne : (((gAt g k : Nat) : Int) != 0) = true := by rw [bne_iff_ne]; omega
        have e : bits .or .u64 (bits .or .u64 ((allTo g k : Nat) : Int) ((gAt g k : Nat) : Int)) (IntKind.u64.wrap (2 ^ k)) = ((allTo g (k + 1) : Nat) : Int) := by
          rw [or_u64 _ _ h1 hgl, or_pow _ k (Nat.or_lt_two_pow h1 hgl) hlt, allTo_succ, if_neg h0]
        have Hid0 := Lib.hid e; clear e
        go_wp2
        go_round
        case rel => exact ⟨k + 1, by omega, by go_num, congrArg _ Hid0.out⟩
        case measure => simp [intOf]; omega
    · have hke := Lib.hid (show k = 64 by omega)
      go_wp2
      go_ret
      exact ⟨by rw [← hke.out]; rfl, (Below.refl _ _).alloc (Nat.le_refl _) _⟩

end Go.Proofs.YtiililidehddmaaDoor
