import Derived.Test.YtlgkkjhkanpmhaaA3
import Derived.ChangeKeysEq
namespace Go.Proofs.Ytlgkkjhkanpmhaa
open Go.RowKit

/-- Are two lists alike at the places? -/
def sameAt (a b : List Nat) (is : List Nat) : Bool := is.all fun i => gAt a i == gAt b i

theorem items_c (d : Nat) (a b : List Nat) (ha : a.length = 8) (hb : b.length = 8) (w : World) : ∀ is : List Nat, (∀ i ∈ is, i < 8) → (Op.eqItems (d + 1) 36 1 (ccells a).toArray (ccells b).toArray is).run Try.prog w = .ok (sameAt a b is) w := by
  intro is
  induction is with
  | nil => intro _; simp [Op.eqItems, sameAt]
  | cons i is ih =>
    intro h
    have hi := h i (by simp)
    have hp : ∀ l : List Nat, l.length = 8 → (part 36 (ccells l).toArray (i * 1)).run Try.prog w = .ok (.int .u32 ((gAt l i : Nat) : Int)) w := by
      intro l hl
      have hc := ccell l i (by omega)
      simp only [List.getElem?_toArray] at hc
      simp [part, isAgg, run_underlying Try.underlying36, hc]
    simp only [Op.eqItems, Sem.run_bind, hp a ha, hp b hb, Result.andThen_ok, run_equalIn_int w d 36 .u32 .u32 _ _ Try.underlying36]
    have ih' := ih (fun j hj => h j (by simp [hj]))
    by_cases e : gAt a i = gAt b i
    · simp [sameAt, e] at ih' ⊢; exact ih'
    · have e' : ¬ ((gAt a i : Nat) : Int) = ((gAt b i : Nat) : Int) := by omega
      simp [sameAt, e, e']

theorem equal_c (d : Nat) (a b : List Nat) (ha : a.length = 8) (hb : b.length = 8) (w : World) : (Op.equalIn (d + 2) 38 (.agg (ccells a).toArray) (.agg (ccells b).toArray)).run Try.prog w = .ok (a == b) w := by
  obtain ⟨i36, hi36⟩ : ∃ i, Try.prog.info? 36 = some i := Option.isSome_iff_exists.1 (by kernel_rfl)
  have hc : Try.prog.cellsOf 36 = 1 := by kernel_rfl
  rw [run_equalIn_array w (d + 1) _ _ Try.underlying38 hi36, hc]
  have h := items_c d a b ha hb w (List.range 8) (fun i hi => List.mem_range.1 hi)
  have e : sameAt a b (List.range 8) = (a == b) := by
    rw [Bool.eq_iff_iff, beq_iff_eq]
    unfold sameAt
    rw [List.all_eq_true]
    constructor
    · intro h1
      apply List.ext_getElem (by omega)
      intro i h2 h3
      have := h1 i (List.mem_range.2 (by omega))
      simpa [gAt, h2, h3] using this
    · rintro rfl i _; simp
  rw [e] at h
  exact h
end Go.Proofs.Ytlgkkjhkanpmhaa
