import Derived.Test.YtlgkkjhkanpmhaaA4
import Derived.RegionTactic
import Derived.BigRegion
import Derived.Deep.RegionLaw
namespace Go.Proofs.Ytlgkkjhkanpmhaa
open Go.RowKit

/-- A row of cells read whole: what it holds, and that it has n cells. -/
def rowVal (w : World) : Value → Value
  | .pointer (some a) => match w.heap[a.block]? with | some (.cells cs _ _) => .agg cs | _ => undef
  | _ => undef
def rowFits (n : Nat) (w : World) : Value → Bool
  | .pointer (some a) => match w.heap[a.block]? with | some (.cells cs _ _) => a.off == 0 && a.spot.isNone && cs.size == n | _ => false
  | _ => false
theorem rowVal_of {w : World} {b : Nat} {cs : Array Value} {T : TypeId} {fr : Nat × Nat} (h : w.heap[b]? = some (.cells cs T fr)) : rowVal w (.pointer (some ⟨b, 0, none⟩)) = .agg cs := by simp [rowVal, h]
theorem rowFits_of {w : World} {b : Nat} {cs : Array Value} {T : TypeId} {fr : Nat × Nat} (h : w.heap[b]? = some (.cells cs T fr)) : rowFits cs.size w (.pointer (some ⟨b, 0, none⟩)) = true := by simp [rowFits, h]

theorem wp_load38 (dst : Option Tmp) (x : Operand) (ty : TypeId) (pos : String) (af : Array Go.Edge) (g : Option (Nat × Bool)) (a : Act) (w : World) (K : Act → World → Prop) (Q : Exit → Act → World → Prop)
    (h : rowFits 8 w (a.eval x) = true) : Oper.wp Try.prog ⟨dst, .load 38 x, ty, pos, af, g⟩ a w K Q = K (a.put dst (rowVal w (a.eval x))) w := by
  unfold rowFits at h
  split at h
  · rename_i ad e
    split at h
    · rename_i cs T fr hh
      simp only [Bool.and_eq_true, beq_iff_eq] at h
      obtain ⟨⟨ho, hs⟩, hn⟩ := h
      obtain ⟨b, off, spot⟩ := ad
      simp only at ho hs hh
      subst ho
      have hs' : spot = none := by cases spot <;> simp_all
      subst hs'
      unfold Oper.wp execOp
      simp only [e, Instr.loadAt, Instr.sureAddr, Sem.run_bind, Sem.run_pure, Result.andThen_ok, run_loadVar_row w b T 38 cs fr _ hh Try.underlying38 rfl (by rw [Try.size38, hn])]
      rw [rowVal_of hh]
      rfl
    · exact absurd h (by simp)
  · exact absurd h (by simp)
end Go.Proofs.Ytlgkkjhkanpmhaa
