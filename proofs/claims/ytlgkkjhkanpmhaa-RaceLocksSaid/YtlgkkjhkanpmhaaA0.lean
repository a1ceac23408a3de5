import Derived.Test.YtlgkkjhkanpmhaaRows
import Derived.WalkKit
import Derived.WalkSpells
import Derived.WalkLawsBesides
import Derived.Lib.Hide
namespace Go.Proofs.Ytlgkkjhkanpmhaa
open Go.RowKit

/-- The k-th number of a list. -/
def gAt (g : List Nat) (k : Nat) : Nat := g.getD k 0

/-- An access. -/
structure Acc where
  th : Int
  ce : Int
  wr : Bool
  clk : List Nat
  lk : Nat

def clkCells (c : List Nat) : List Value := (List.range 8).map fun i => .int .u32 ((gAt c i : Nat) : Int)
def accCells (a : Acc) : List Value := [.int .i64 a.th, .int .i64 a.ce, .bool a.wr] ++ clkCells a.clk ++ [.int .u64 ((a.lk : Nat) : Int)]
def clkV (c : List Nat) : Value := .agg (clkCells c).toArray
def accV (a : Acc) : Value := .agg (accCells a).toArray

def isOneB (a : Acc) : Bool := decide (0 ≤ a.th) && decide (a.th ≤ 7)

set_option maxHeartbeats 400000 in
theorem isOne_any (a : Acc) (w : World) : Calls Try.prog 18 #[accV a] w fun e w' => e = .returned (.bool (isOneB a)) ∧ Below w.heap.size w w' := by
  unfold accV
  have hc : (w.alloc (.cells (accCells a).toArray 41)).cell? ⟨w.heap.size, 0, none⟩ = some (.int .i64 a.th) := by rw [cell_of_row _ _ _ _ _ _ (heap_alloc_new _ _)]; rfl
  by_cases h : 0 ≤ a.th
  · by_cases h2 : a.th ≤ 7
    · go_enter Try.func18, Try.ntmps18
      go_wp2
      go_ret
      exact ⟨by simp [isOneB, h, h2], (Below.refl _ _).alloc (Nat.le_refl _) _⟩
    · go_enter Try.func18, Try.ntmps18
      go_wp2
      go_ret
      exact ⟨by simp [isOneB, h, h2], (Below.refl _ _).alloc (Nat.le_refl _) _⟩
  · go_enter Try.func18, Try.ntmps18
    go_wp2
    go_ret
    exact ⟨by simp [isOneB]; omega, (Below.refl _ _).alloc (Nat.le_refl _) _⟩
end Go.Proofs.Ytlgkkjhkanpmhaa
