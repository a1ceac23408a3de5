import Derived.Test.YtiililidehddmaaDoorD2
import Derived.ChangeKeysEq
namespace Go.Proofs.YtiililidehddmaaDoor
open Go.RowKit

theorem items_same (d : Nat) (l : List Nat) (hl : l.length = 64) (w : World) : ∀ is : List Nat, (∀ i ∈ is, i < 64) → (Op.eqItems (d + 1) 30 1 (gcells l).toArray (gcells l).toArray is).run Tryd.prog w = .ok true w := by
  intro is
  induction is with
  | nil => intro _; simp [Op.eqItems]
  | cons i is ih =>
    intro h
    have hi := h i (by simp)
    have hp : (part 30 (gcells l).toArray (i * 1)).run Tryd.prog w = .ok (.int .u64 ((gAt l i : Nat) : Int)) w := by
      have hc := gcell l i (by omega)
      simp only [List.getElem?_toArray] at hc
      simp [part, isAgg, run_underlying Tryd.underlying30, hc]
    simp only [Op.eqItems, Sem.run_bind, hp, Result.andThen_ok, run_equalIn_int w d 30 .u64 .u64 _ _ Tryd.underlying30]
    simpa using ih (fun j hj => h j (by simp [hj]))

theorem equal_same (l : List Nat) (hl : l.length = 64) (d : Nat) (w : World) : (Op.equalIn (d + 3) 33 (.agg (gcells l).toArray) (.agg (gcells l).toArray)).run Tryd.prog w = .ok true w := by
  obtain ⟨i30, hi30⟩ : ∃ i, Tryd.prog.info? 30 = some i := Option.isSome_iff_exists.1 (by kernel_rfl)
  have hf : (Tryd.prog.fieldsOf 33).toList.map (fun f => (f.name, f.type, f.offset)) = [("edges", 31, 0)] := by kernel_rfl
  have hu : Tryd.prog.underlying 33 = some (.struct (Tryd.prog.fieldsOf 33)) := by kernel_rfl
  have hst : Tryd.prog.stoodInHeld 33 = false := by kernel_rfl
  have hsz : (sizeOf 31).run Tryd.prog w = .ok 64 w := by kernel_rfl
  have hag : (isAgg 31).run Tryd.prog w = .ok true w := by kernel_rfl
  have hc : Tryd.prog.cellsOf 30 = 1 := by kernel_rfl
  rw [run_equalIn_struct w (d + 2) 33 _ _ hu hst]
  obtain ⟨f, hfl, hfe⟩ := List.map_eq_singleton_iff.1 hf
  simp only [Prod.mk.injEq] at hfe
  obtain ⟨hn, ht, ho⟩ := hfe
  have hp : (part 31 (gcells l).toArray 0).run Tryd.prog w = .ok (.agg (gcells l).toArray) w := by
    simp only [part, Sem.run_bind, hag, Result.andThen_ok, if_true, hsz, Sem.run_pure]
    have e : List.take 64 (gcells l) = gcells l := List.take_of_length_le (by simp [hl])
    simp [e]
  have he : (Op.equalIn (d + 2) 31 (.agg (gcells l).toArray) (.agg (gcells l).toArray)).run Tryd.prog w = .ok true w := by
    rw [run_equalIn_array w (d + 1) _ _ Tryd.underlying31 hi30, hc]
    exact items_same d l hl w _ (fun i hi => List.mem_range.1 hi)
  rw [hfl]
  have hne : f.name ≠ "_" := by rw [hn]; simp
  unfold Op.eqFields
  rw [if_pos hne, ht, ho, Sem.run_bind, hp, Result.andThen_ok, Sem.run_bind, hp, Result.andThen_ok, Sem.run_bind]
  generalize (Op.equalIn (d + 2) 31 (.agg (gcells l).toArray) (.agg (gcells l).toArray)).run Tryd.prog w = R at *
  subst he
  rfl

theorem neq_same (l : List Nat) (hl : l.length = 64) (w : World) : (binOp .neq 33 (.agg (gcells l).toArray) (.agg (gcells l).toArray)).run Tryd.prog w = .ok (.bool false) w := by
  rw [run_neq_struct]
  have h : (Op.equalIn 10000 33 (.agg (gcells l).toArray) (.agg (gcells l).toArray)).run Tryd.prog w = .ok true w := equal_same l hl 9997 w
  generalize (Op.equalIn 10000 33 (.agg (gcells l).toArray) (.agg (gcells l).toArray)).run Tryd.prog w = R at *
  subst h
  rfl

/-- A row of cells read whole: what it holds, and that it has n cells. -/
def rowVal (w : World) : Value → Value
  | .pointer (some a) => match w.heap[a.block]? with | some (.cells cs _ _) => .agg cs | _ => undef
  | _ => undef
def rowFits (n : Nat) (w : World) : Value → Bool
  | .pointer (some a) => match w.heap[a.block]? with | some (.cells cs _ _) => a.off == 0 && a.spot.isNone && cs.size == n | _ => false
  | _ => false

theorem rowVal_of {w : World} {b : Nat} {cs : Array Value} {T : TypeId} {fr : Nat × Nat} (h : w.heap[b]? = some (.cells cs T fr)) : rowVal w (.pointer (some ⟨b, 0, none⟩)) = .agg cs := by simp [rowVal, h]
theorem rowFits_of {w : World} {b : Nat} {cs : Array Value} {T : TypeId} {fr : Nat × Nat} (h : w.heap[b]? = some (.cells cs T fr)) : rowFits cs.size w (.pointer (some ⟨b, 0, none⟩)) = true := by simp [rowFits, h]

theorem wp_load33 (dst : Option Tmp) (x : Operand) (ty : TypeId) (pos : String) (af : Array Go.Edge) (g : Option (Nat × Bool)) (a : Act) (w : World) (K : Act → World → Prop) (Q : Exit → Act → World → Prop)
    (h : rowFits 64 w (a.eval x) = true) : Oper.wp Tryd.prog ⟨dst, .load 33 x, ty, pos, af, g⟩ a w K Q = K (a.put dst (rowVal w (a.eval x))) w := by
  unfold rowFits at h
  split at h
  · rename_i ad e
    split at h
    · rename_i cs T fr hh
      simp only [Bool.and_eq_true, beq_iff_eq] at h
      obtain ⟨⟨ho, hs⟩, hn⟩ := h
      obtain ⟨b, off, spot⟩ := ad
      simp only at ho hs hh
      subst ho
      have hs' : spot = none := by cases spot <;> simp_all
      subst hs'
      unfold Oper.wp execOp
      simp only [e, Instr.loadAt, Instr.sureAddr, Sem.run_bind, Sem.run_pure, Result.andThen_ok, run_loadVar_row w b T 33 cs fr _ hh Tryd.underlying33 rfl (by rw [Tryd.size33, hn])]
      rw [rowVal_of hh]
      rfl
    · exact absurd h (by simp)
  · exact absurd h (by simp)

end Go.Proofs.YtiililidehddmaaDoor
