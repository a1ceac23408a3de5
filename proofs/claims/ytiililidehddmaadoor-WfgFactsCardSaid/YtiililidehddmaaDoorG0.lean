import Derived.Test.YtiililidehddmaaDoorF2
import Derived.Test.YtiililidehddmaaDoorD2
namespace Go.Proofs.YtiililidehddmaaDoor
/- Plain: the shortest ring, the document's and the reference's. -/

/-- A way of r edges from n back to s, all behind s. -/
def Wk (g : List Nat) (s : Nat) : Nat → Nat → Prop
  | 0, _ => False
  | r + 1, n => s ≤ n ∧ ((r = 0 ∧ Edge g n s) ∨ ∃ k, s < k ∧ Edge g n k ∧ Wk g s r k)

theorem mem_hi {g : List Nat} (hg : WfG g) (s n k : Nat) : k ∈ bitsOf (hiOf (gAt g n) s) ↔ s ≤ k ∧ Edge g n k := by
  rw [mem_bitsOf (hiOf_lt (hg.lt n) s), hiOf_bit, Bool.and_eq_true, decide_eq_true_eq]; rfl

theorem tells_any {g : List Nat} (hg : WfG g) (s r n : Nat) : (bitsOf (hiOf (gAt g n) s)).any (tells s (r + 1) (waysW g s r)) = true ↔ (r = 0 ∧ Edge g n s) ∨ ∃ k, s < k ∧ Edge g n k ∧ waysW g s r k = r := by
  rw [List.any_eq_true]
  constructor
  · rintro ⟨k, hk, ht⟩
    obtain ⟨h1, h2⟩ := (mem_hi hg s n k).1 hk
    simp only [tells, Bool.or_eq_true, Bool.and_eq_true, beq_iff_eq, bne_iff_ne] at ht
    rcases ht with ⟨rfl, ht⟩ | ⟨ht, hw⟩
    · exact .inl ⟨by omega, h2⟩
    · exact .inr ⟨k, by omega, h2, by simpa using hw⟩
  · rintro (⟨rfl, he⟩ | ⟨k, h1, h2, h3⟩)
    · exact ⟨s, (mem_hi hg s n s).2 ⟨by omega, he⟩, by simp [tells]⟩
    · refine ⟨k, (mem_hi hg s n k).2 ⟨by omega, h2⟩, ?_⟩
      simp only [tells, Bool.or_eq_true, Bool.and_eq_true, beq_iff_eq, bne_iff_ne]
      exact .inr ⟨by omega, by rw [h3]; rfl⟩

/-- What 'ways' reckons is the length of the shortest way. -/
theorem waysW_is {g : List Nat} (hg : WfG g) (s : Nat) (R : Nat) (hR : R ≤ 64) : ∀ n r, r ≤ 64 → (waysW g s R n = r ↔ (1 ≤ r ∧ r ≤ R ∧ Wk g s r n ∧ ∀ r', r' < r → ¬ Wk g s r' n)) := by
  induction R with
  | zero =>
    intro n r hr
    rw [waysW_zero]
    constructor
    · intro h; omega
    · rintro ⟨h1, h2, _⟩; omega
  | succ R ih =>
    intro n r hr
    have ih' := ih (by omega)
    have hnone : waysW g s R n = 65 ↔ ∀ r', r' ≤ R → ¬ Wk g s r' n := by
      constructor
      · intro h r' hr' hw
        -- the least one
        have hex : ∃ m, m ≤ R ∧ Wk g s m n ∧ ∀ r'', r'' < m → ¬ Wk g s r'' n := by
          induction r' using Nat.strongRecOn with
          | ind m ihm =>
            by_cases hc : ∃ r'', r'' < m ∧ Wk g s r'' n
            · obtain ⟨r'', h1, h2⟩ := hc
              exact ihm r'' h1 (by omega) h2
            · exact ⟨m, hr', hw, fun r'' h1 h2 => hc ⟨r'', h1, h2⟩⟩
        obtain ⟨m, h1, h2, h3⟩ := hex
        have hm : 1 ≤ m := by
          cases m with
          | zero => exact h2.elim
          | succ m => omega
        have := (ih' n m (by omega)).2 ⟨hm, h1, h2, h3⟩
        omega
      · intro h
        rcases waysW_range g s R n with h1 | h1
        · obtain ⟨_, h3, h4, _⟩ := (ih' n (waysW g s R n) (by omega)).1 rfl
          exact absurd h4 (h _ h3)
        · exact h1
    have hr1 := waysW_range g s R n
    have Hta := Lib.hid (tells_any hg s R n)
    rw [waysW_succ]
    by_cases hc : s ≤ n ∧ waysW g s R n = 65 ∧ (bitsOf (hiOf (gAt g n) s)).any (tells s (R + 1) (waysW g s R)) = true
    · rw [if_pos hc]
      obtain ⟨hc1, hc2, hc3⟩ := hc
      have hno := hnone.1 hc2
      have hw : Wk g s (R + 1) n := by
        refine ⟨hc1, ?_⟩
        rcases Hta.out.1 hc3 with h | ⟨k, h1, h2, h3⟩
        · exact .inl h
        · exact .inr ⟨k, h1, h2, ((ih' k R (by omega)).1 h3).2.2.1⟩
      constructor
      · rintro rfl
        exact ⟨by omega, by omega, hw, fun r' hr' => hno r' (by omega)⟩
      · rintro ⟨h1, h2, h3, h4⟩
        rcases Nat.lt_or_ge r (R + 1) with hlt | hge
        · exact absurd h3 (hno r (by omega))
        · omega
    · rw [if_neg hc]
      rcases Nat.lt_or_ge r (R + 1) with hlt | hge
      · rw [ih' n r hr]
        constructor
        · rintro ⟨h1, h2, h3, h4⟩; exact ⟨h1, by omega, h3, h4⟩
        · rintro ⟨h1, h2, h3, h4⟩; exact ⟨h1, by omega, h3, h4⟩
      · constructor
        · intro h; omega
        · rintro ⟨h1, h2, h3, h4⟩
          exfalso
          have hrR : r = R + 1 := by omega
          subst hrR
          apply hc
          have h65 := hnone.2 (fun r' hr' => h4 r' (by omega))
          refine ⟨h3.1, h65, Hta.out.2 ?_⟩
          rcases h3.2 with h | ⟨k, k1, k2, k3⟩
          · exact .inl h
          · refine .inr ⟨k, k1, k2, (ih' k R (by omega)).2 ⟨?_, by omega, k3, fun r' hr' hw => ?_⟩⟩
            · cases R with
              | zero => exact k3.elim
              | succ R => omega
            · exact h4 (r' + 1) (by omega) ⟨h3.1, .inr ⟨k, k1, k2, hw⟩⟩

theorem waysW_le_of {g : List Nat} (hg : WfG g) (s n r : Nat) (hr : r ≤ 64) (h : Wk g s r n) : waysW g s 64 n ≤ r := by
  rcases Nat.lt_or_ge r (waysW g s 64 n) with hlt | hge
  · exfalso
    have key : ∀ m, m ≤ 64 → Wk g s m n → waysW g s 64 n ≤ m := by
      intro m
      induction m using Nat.strongRecOn with
      | ind m ihm =>
        intro hm hw
        by_cases hc : ∃ r'', r'' < m ∧ Wk g s r'' n
        · obtain ⟨r'', h1, h2⟩ := hc
          have := ihm r'' h1 (by omega) h2
          omega
        · have h1 : 1 ≤ m := by
            cases m with
            | zero => exact hw.elim
            | succ m => omega
          have := (waysW_is hg s 64 (by omega) n m hm).2 ⟨h1, hm, hw, fun r'' h1 h2 => hc ⟨r'', h1, h2⟩⟩
          omega
    have := key r hr h
    omega
  · exact hge

theorem selTo_bits (p : Nat → Bool) (k : Nat) : selTo p k = (List.range k).filter p := by unfold selTo; rfl

section
variable {g : List Nat} {E : List (Int × Int)} (h : Link g E)
include h

theorem Link.rnext (n : Nat) (hn : n < 64) : rNext E (n : Int) = bitsOf (gAt g n) := by
  rw [← h.next]
  unfold nextF
  rw [if_pos (nodeB_nat hn)]
  rfl

theorem Link.rhas (a b : Nat) : rHas E (a : Int) (b : Int) = true ↔ Edge g a b := by
  rw [rHas_mem]
  constructor
  · intro hm
    obtain ⟨ha, hb⟩ := h.ends _ hm
    simp only [nodeB, decide_eq_true_eq] at ha hb
    exact (h.edge a b (by omega) (by omega)).2 hm
  · intro he
    exact (h.edge a b (he.left h.wf) (he.right h.wf)).1 he

/-- What the search finds is a way back. -/
theorem Link.long_wk (f : Nat) : ∀ (l : List Nat) (out : List Nat), 0 < l.length → (∀ i, i < l.length → gAt l i < 64) → gAt l 0 ≤ gAt l (l.length - 1) → rLong E f l = some out → Wk g (gAt l 0) (f + 1) (gAt l (l.length - 1)) := by
  induction f with
  | zero =>
    intro l out hpos h64 hle ho
    rw [rLong_zero] at ho
    split at ho
    · rename_i hh
      exact ⟨hle, .inl ⟨rfl, (h.rhas _ _).1 hh⟩⟩
    · exact absurd ho (by simp)
  | succ f ih =>
    intro l out hpos h64 hle ho
    rw [rLong_succ] at ho
    obtain ⟨x, hx, hp⟩ := List.exists_of_findSome?_eq_some ho
    rw [h.rnext _ (h64 _ (by omega)), mem_bitsOf (h.wf.lt _)] at hx
    unfold tryOn at hp
    split at hp
    · rename_i hc
      have hx64 := bit_lt (h.wf.lt _) hx
      have e0 : gAt (l ++ [x]) 0 = gAt l 0 := by
        unfold gAt; rw [List.getD_eq_getElem?_getD, List.getD_eq_getElem?_getD, List.getElem?_append_left hpos]
      have e1 : gAt (l ++ [x]) ((l ++ [x]).length - 1) = x := by
        unfold gAt; simp
      have := ih (l ++ [x]) out (by simp) (fun i hi => by
        by_cases hil : i < l.length
        · have : gAt (l ++ [x]) i = gAt l i := by unfold gAt; rw [List.getD_eq_getElem?_getD, List.getD_eq_getElem?_getD, List.getElem?_append_left hil]
          rw [this]; exact h64 i hil
        · have hil' : i = (l ++ [x]).length - 1 := by simp at hi ⊢; omega
          rw [hil', e1]; exact hx64) (by rw [e0, e1]; omega) hp
      rw [e0, e1] at this
      exact ⟨hle, .inr ⟨x, hc.1, hx, this⟩⟩
    · exact absurd hp (by simp)

end
end Go.Proofs.YtiililidehddmaaDoor
