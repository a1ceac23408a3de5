import Derived.Test.YtiililidehddmaaDoorH1
import Derived.Test.YtiililidehddmaaDoorG3
import Derived.Maps.OwnOps
import Derived.Maps.Views
import Derived.WalkArith
namespace Go.Proofs.YtiililidehddmaaDoor
open Go.RowKit Go.Maps Go.WideShapes

theorem under47 : Tryd.prog.underlying 47 = some (.map 3 3) := by kernel_rfl
theorem law3 : Keyed Tryd.prog 3 := int_keyed Tryd.underlying3
theorem zeroInt (w : World) : (zeroValue 3).run Tryd.prog w = .ok (.int .i64 0) w := by kernel_rfl

/-- The places: behind i rounds. -/
def plcD (O : List Nat) : Nat → DataW Unit
  | 0 => .map []
  | i + 1 => (plcD O i).put (.int .i64 ((gAt O i : Nat) : Int)) (.lit (.int .i64 ((i : Int) + 1)))
theorem plcD_zero (O : List Nat) : plcD O 0 = .map [] := rfl
theorem plcD_succ (O : List Nat) (i : Nat) : plcD O (i + 1) = (plcD O i).put (.int .i64 ((gAt O i : Nat) : Int)) (.lit (.int .i64 ((i : Int) + 1))) := rfl
theorem plcD_isMap (O : List Nat) (i : Nat) : IsMap (plcD O i) := by
  induction i with
  | zero => exact isMap_empty
  | succ i ih => exact ih.put _ _
theorem plcD_at (O : List Nat) (k : Nat) (i : Nat) (hi : i ≤ O.length) (h : k ∈ O.take i) : ∃ c : Int, 1 ≤ c ∧ c ≤ i ∧ (plcD O i).atKey (.int .i64 (k : Int)) (.lit (.int .i64 0)) = .lit (.int .i64 c) := by
  induction i with
  | zero => simp at h
  | succ i ih =>
    rw [plcD_succ]
    by_cases e : k = gAt O i
    · subst e
      refine ⟨(i : Int) + 1, by omega, by omega, ?_⟩
      rw [atKey_put_same (plcD_isMap O i) (by trivial)]
    · rw [take_succ_gAt _ _ (by omega), List.mem_append, List.mem_singleton] at h
      obtain ⟨c, h1, h2, h3⟩ := ih (by omega) (by rcases h with h | h; exact h; exact absurd h e)
      refine ⟨c, h1, by omega, ?_⟩
      rw [atKey_put_other (by intro e2; injection e2 with _ e2; omega), h3]
theorem plcD_look (O : List Nat) (k : Nat) (i : Nat) (hi : i < O.length) (h : k ∈ O.take i) (hne : k ≠ gAt O i) (c : Int) (hc : (plcD O (i + 1)).atKey (.int .i64 (k : Int)) (.lit (.int .i64 0)) = .lit (.int .i64 c)) : 1 ≤ c ∧ c ≤ i := by
  obtain ⟨c', h1, h2, h3⟩ := plcD_at O k i (by omega) h
  rw [plcD_succ, atKey_put_other (by intro e2; injection e2 with _ e2; omega), h3] at hc
  injection hc with hc
  injection hc with _ hc
  omega
attribute [irreducible] plcD

theorem map_more {w w1 : World} {b n : Nat} {D : DataW Unit} (h : w.ownsMap Tryd.prog 3 (plainElem Tryd.prog 3) b n D) (hb : Below w.heap.size w w1) : w1.ownsMap Tryd.prog 3 (plainElem Tryd.prog 3) b n D := by
  obtain ⟨es, clock, h1, F, hs, hD⟩ := h
  exact ⟨es, clock, keeps hb h1, F, hs, hD⟩

/-- The order's three facts. -/
structure OrdOk (g O : List Nat) : Prop where
  behind : Behind g O
  apart : ∀ i, i < O.length → ¬ Edge g (gAt O i) (gAt O i)
  len : O.length ≤ 64
  lt : ∀ i, i < O.length → gAt O i < 64
theorem rOrderGo_lt (E : List (Int × Int)) (A : List Nat) (hA : ∀ x ∈ A, x < 64) (f : Nat) : ∀ out r, (∀ x ∈ out, x < 64) → rOrderGo E A f out = some r → ∀ x ∈ r, x < 64 := by
  induction f with
  | zero => intro out r ho h; rw [rOrderGo_zero] at h; injection h with h; rw [← h]; exact ho
  | succ f ih =>
    intro out r ho h
    rw [rOrderGo] at h
    split at h
    · rename_i n hn
      refine ih _ _ ?_ h
      intro x hx
      rw [List.mem_append, List.mem_singleton] at hx
      rcases hx with hx | rfl
      · exact ho x hx
      · exact hA _ (List.mem_of_find?_eq_some hn)
    · exact absurd h (by simp)
theorem ord_ok {g : List Nat} {E : List (Int × Int)} (h : Link g E) : OrdOk g (orderL (orderF g)) := by
  have hlen : (orderL (orderF g)).length ≤ 64 := by rw [order_same h]; exact orderL_len E
  refine ⟨?_, ?_, hlen, ?_⟩
  rotate_left 2
  · rw [order_same h]
    unfold orderL
    rcases ho : rOrder E with _ | r
    · intro i hi; simp at hi
    · intro i hi
      rw [rOrder_eq] at ho
      exact rOrderGo_lt E (rAll E) (by
        intro x hx
        unfold rAll at hx
        rw [selTo_bits, List.mem_filter] at hx
        exact List.mem_range.1 hx.1) _ [] r (by simp) ho _ (gAt_mem _ i hi)
  · cases ho : orderF g with
    | none => intro i hi; simp [orderL] at hi
    | some r => exact (order_some h.wf r ho).1
  · cases ho : orderF g with
    | none => intro i hi; simp [orderL] at hi
    | some r => intro i _ he; exact (order_some h.wf r ho).2 ⟨_, .single he⟩
theorem ord_is {g : List Nat} (hg : WfG g) {sm : Bool} (hs : sm = true ↔ ∃ n, Way g n n) : orderB (orderF g) = !sm := by
  cases ho : orderF g with
  | none =>
    have := hs.2 (order_none hg ho)
    rw [this]; rfl
  | some r =>
    have h2 := (order_some hg r ho).2
    cases sm
    · rfl
    · exact absurd (hs.1 rfl) h2
end Go.Proofs.YtiililidehddmaaDoor
