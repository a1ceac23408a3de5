import Derived.Test.YtiililidehddmaaDoorA0g
/- Plain: the reference's 'Reach'. No Go. -/
namespace Go.Proofs.YtiililidehddmaaDoor

def bAt (m : List Bool) (k : Nat) : Bool := m.getD k false
theorem bAt_set (m : List Bool) (n k : Nat) (x : Bool) (h : n < m.length) : bAt (m.set n x) k = if n = k then x else bAt m k := by
  unfold bAt
  simp only [List.getD_eq_getElem?_getD, List.getElem?_set]
  by_cases e : n = k
  · subst e; simp [h]
  · simp [e]

/-- All edges' ends are nodes. -/
def Ends (E : List (Int × Int)) : Prop := ∀ i, i < E.length → nodeB (eA E i) = true ∧ nodeB (eB E i) = true

/-- Does an edge lead on? -/
def goesOn (E : List (Int × Int)) (a : Int) (m : List Bool) (j : Nat) : Bool := eA E j == a || bAt m (eA E j).toNat
def pass (E : List (Int × Int)) (a : Int) (m : List Bool) : Nat → List Bool
  | 0 => m
  | j + 1 => if goesOn E a (pass E a m j) j = true then (pass E a m j).set (eB E j).toNat true else pass E a m j
def rounds (E : List (Int × Int)) (a : Int) : Nat → List Bool
  | 0 => List.replicate 64 false
  | r + 1 => pass E a (rounds E a r) E.length

theorem pass_zero (E : List (Int × Int)) (a : Int) (m : List Bool) : pass E a m 0 = m := rfl
theorem pass_succ (E : List (Int × Int)) (a : Int) (m : List Bool) (j : Nat) : pass E a m (j + 1) = if goesOn E a (pass E a m j) j = true then (pass E a m j).set (eB E j).toNat true else pass E a m j := rfl
theorem rounds_zero (E : List (Int × Int)) (a : Int) : rounds E a 0 = List.replicate 64 false := rfl
theorem rounds_succ (E : List (Int × Int)) (a : Int) (r : Nat) : rounds E a (r + 1) = pass E a (rounds E a r) E.length := rfl

theorem pass_len (E : List (Int × Int)) (a : Int) (m : List Bool) (j : Nat) : (pass E a m j).length = m.length := by
  induction j with
  | zero => rfl
  | succ j ih => rw [pass_succ]; split <;> simp [ih]
theorem rounds_len (E : List (Int × Int)) (a : Int) (r : Nat) : (rounds E a r).length = 64 := by
  induction r with
  | zero => simp [rounds]
  | succ r ih => rw [rounds_succ, pass_len, ih]

/-- An edge of a list. -/
def REdge (E : List (Int × Int)) (a b : Nat) : Prop := ∃ i, i < E.length ∧ eA E i = a ∧ eB E i = b

theorem pass_mono (E : List (Int × Int)) (a : Int) (m : List Bool) (hm : m.length = 64) (hE : Ends E) (j : Nat) (hj : j ≤ E.length) (k : Nat) (h : bAt m k = true) : bAt (pass E a m j) k = true := by
  induction j with
  | zero => exact h
  | succ j ih =>
    have ih' := ih (by omega)
    rw [pass_succ]
    split
    · obtain ⟨h1, h2⟩ : 0 ≤ eB E j ∧ eB E j < 64 := by simpa [nodeB] using (hE j (by omega)).2
      rw [bAt_set _ _ _ _ (by rw [pass_len, hm]; omega)]
      split
      · rfl
      · exact ih'
    · exact ih'

/-- Behind a whole pass every edge out of what was there ahead leads to what is there. -/
theorem pass_adds (E : List (Int × Int)) (a : Int) (m : List Bool) (hm : m.length = 64) (hE : Ends E) (j : Nat) (hj : j ≤ E.length) (i : Nat) (hi : i < j) (h : eA E i = a ∨ bAt m (eA E i).toNat = true) : bAt (pass E a m j) (eB E i).toNat = true := by
  induction j with
  | zero => omega
  | succ j ih =>
    rw [pass_succ]
    obtain ⟨h1, h2⟩ : 0 ≤ eB E j ∧ eB E j < 64 := by simpa [nodeB] using (hE j (by omega)).2
    by_cases e : i = j
    · subst e
      have hg : goesOn E a (pass E a m i) i = true := by
        unfold goesOn
        rw [Bool.or_eq_true, beq_iff_eq]
        rcases h with h | h
        · exact .inl h
        · exact .inr (pass_mono E a m hm hE i (by omega) _ h)
      rw [if_pos hg, bAt_set _ _ _ _ (by rw [pass_len, hm]; omega), if_pos rfl]
    · have ih' := ih (by omega) (by omega)
      split
      · rw [bAt_set _ _ _ _ (by rw [pass_len, hm]; omega)]
        split
        · rfl
        · exact ih'
      · exact ih'

theorem pass_sound (E : List (Int × Int)) (a : Nat) (m : List Bool) (hm : m.length = 64) (hE : Ends E) (h : ∀ k, bAt m k = true → Relation.TransGen (REdge E) a k) (j : Nat) (hj : j ≤ E.length) :
    ∀ k, bAt (pass E a m j) k = true → Relation.TransGen (REdge E) a k := by
  induction j with
  | zero => exact h
  | succ j ih =>
    intro k hk
    obtain ⟨h1, h2⟩ : 0 ≤ eB E j ∧ eB E j < 64 := by simpa [nodeB] using (hE j (by omega)).2
    obtain ⟨h3, h4⟩ : 0 ≤ eA E j ∧ eA E j < 64 := by simpa [nodeB] using (hE j (by omega)).1
    rw [pass_succ] at hk
    split at hk
    · rename_i hg
      rw [bAt_set _ _ _ _ (by rw [pass_len, hm]; omega)] at hk
      split at hk
      · rename_i e
        have hedge : REdge E (eA E j).toNat k := ⟨j, by omega, by omega, by omega⟩
        unfold goesOn at hg
        rw [Bool.or_eq_true, beq_iff_eq] at hg
        rcases hg with hg | hg
        · have : (eA E j).toNat = a := by omega
          rw [this] at hedge
          exact .single hedge
        · exact .tail (ih (by omega) _ hg) hedge
      · exact ih (by omega) k hk
    · exact ih (by omega) k hk

theorem rounds_sound (E : List (Int × Int)) (a : Nat) (hE : Ends E) (r : Nat) : ∀ k, bAt (rounds E a r) k = true → Relation.TransGen (REdge E) a k := by
  induction r with
  | zero => intro k hk; simp only [rounds_zero, bAt, List.getD_eq_getElem?_getD, List.getElem?_replicate] at hk; split at hk <;> simp at hk
  | succ r ih => rw [rounds_succ]; exact pass_sound E a _ (rounds_len E a r) hE ih _ (Nat.le_refl _)

theorem rounds_mono (E : List (Int × Int)) (a : Int) (hE : Ends E) (r k : Nat) (h : bAt (rounds E a r) k = true) : bAt (rounds E a (r + 1)) k = true := by
  rw [rounds_succ]; exact pass_mono E a _ (rounds_len E a r) hE _ (Nat.le_refl _) k h

/-- How many are there. -/
def many (m : List Bool) : Nat := ((List.range 64).filter (bAt m)).length

theorem filter_len_mono {p q : Nat → Bool} (l : List Nat) (h : ∀ k ∈ l, p k = true → q k = true) : (l.filter p).length ≤ (l.filter q).length := by
  induction l with
  | nil => simp
  | cons x l ih =>
    have ih' := ih (fun k hk => h k (by simp [hk]))
    have hx := h x (by simp)
    cases hp : p x
    · rw [List.filter_cons_of_neg (by simp [hp])]
      by_cases hq : q x = true
      · rw [List.filter_cons_of_pos hq]; simp; omega
      · rw [List.filter_cons_of_neg hq]; exact ih'
    · rw [List.filter_cons_of_pos hp, List.filter_cons_of_pos (hx hp)]; simp; omega

theorem filter_len_lt {p q : Nat → Bool} (l : List Nat) (h : ∀ k ∈ l, p k = true → q k = true) (x : Nat) (hx : x ∈ l) (h1 : p x = false) (h2 : q x = true) : (l.filter p).length < (l.filter q).length := by
  induction l with
  | nil => simp at hx
  | cons y l ih =>
    have hl := filter_len_mono (p := p) (q := q) l (fun k hk => h k (by simp [hk]))
    rcases List.mem_cons.1 hx with e | e
    · subst e
      rw [List.filter_cons_of_neg (by simp [h1]), List.filter_cons_of_pos h2]; simp; omega
    · have ih' := ih (fun k hk => h k (by simp [hk])) e
      have hy := h y (by simp)
      cases hp : p y
      · rw [List.filter_cons_of_neg (by simp [hp])]
        by_cases hq : q y = true
        · rw [List.filter_cons_of_pos hq]; simp; omega
        · rw [List.filter_cons_of_neg hq]; exact ih'
      · rw [List.filter_cons_of_pos hp, List.filter_cons_of_pos (hy hp)]; simp; omega

theorem many_le (m : List Bool) : many m ≤ 64 := by unfold many; exact Nat.le_trans (List.length_filter_le _ _) (by simp)

/-- A round that finds nothing new: all is there. -/
theorem closed_all (E : List (Int × Int)) (a : Nat) (hE : Ends E) (r : Nat) (h : ∀ k, k < 64 → bAt (rounds E a (r + 1)) k = true → bAt (rounds E a r) k = true) :
    ∀ k, Relation.TransGen (REdge E) a k → bAt (rounds E a r) k = true := by
  intro k hk
  have adds : ∀ i, i < E.length → (eA E i = a ∨ bAt (rounds E a r) (eA E i).toNat = true) → bAt (rounds E a r) (eB E i).toNat = true := fun i hi hh => by
    obtain ⟨h1, h2⟩ : 0 ≤ eB E i ∧ eB E i < 64 := by simpa [nodeB] using (hE i hi).2
    exact h _ (by omega) (by rw [rounds_succ]; exact pass_adds E a _ (rounds_len E a r) hE _ (Nat.le_refl _) i hi hh)
  induction hk with
  | single he =>
    obtain ⟨i, hi, h1, h2⟩ := he
    have := adds i hi (.inl h1)
    rwa [h2, Int.toNat_natCast] at this
  | tail _ he ih =>
    obtain ⟨i, hi, h1, h2⟩ := he
    have := adds i hi (.inr (by rw [h1, Int.toNat_natCast]; exact ih))
    rwa [h2, Int.toNat_natCast] at this

theorem rounds_stay (E : List (Int × Int)) (a : Nat) (hE : Ends E) (r : Nat) (h : ∀ k, Relation.TransGen (REdge E) a k → bAt (rounds E a r) k = true) (d : Nat) :
    ∀ k, Relation.TransGen (REdge E) a k → bAt (rounds E a (r + d)) k = true := by
  induction d with
  | zero => exact h
  | succ d ih => intro k hk; exact rounds_mono E a hE (r + d) k (ih k hk)

theorem rounds_grow (E : List (Int × Int)) (a : Nat) (hE : Ends E) (r : Nat) : (∀ k, Relation.TransGen (REdge E) a k → bAt (rounds E a r) k = true) ∨ r ≤ many (rounds E a r) := by
  induction r with
  | zero => exact .inr (by omega)
  | succ r ih =>
    rcases ih with ih | ih
    · exact .inl (rounds_stay E a hE r ih 1)
    · by_cases h : ∀ k, k < 64 → bAt (rounds E a (r + 1)) k = true → bAt (rounds E a r) k = true
      · exact .inl (rounds_stay E a hE r (closed_all E a hE r h) 1)
      · right
        simp only [Classical.not_forall] at h
        obtain ⟨k, hk, h1, h2⟩ := h
        have : many (rounds E a r) < many (rounds E a (r + 1)) :=
          filter_len_lt _ (fun j _ hj => rounds_mono E a hE r j hj) k (by simpa using hk) (by simpa using h2) h1
        omega

theorem rounds_all (E : List (Int × Int)) (a : Nat) (hE : Ends E) (k : Nat) : bAt (rounds E a 64) k = true ↔ Relation.TransGen (REdge E) a k := by
  refine ⟨rounds_sound E a hE 64 k, fun hk => ?_⟩
  rcases rounds_grow E a hE 64 with h | h
  · exact h k hk
  · have hall : ∀ j, j < 64 → bAt (rounds E a 64) j = true := by
      intro j hj
      rcases Bool.eq_false_or_eq_true (bAt (rounds E a 64) j) with h1 | h1
      · exact h1
      · exfalso
        have hlt := filter_len_lt (p := bAt (rounds E a 64)) (q := fun _ => true) (List.range 64) (fun _ _ _ => rfl) j (by simpa using hj) h1 rfl
        have e : ((List.range 64).filter fun _ => true).length = 64 := by rw [List.filter_eq_self.2 (fun _ _ => rfl)]; exact List.length_range
        unfold many at h
        omega
    have hk64 : k < 64 := by
      cases hk with
      | single he =>
        obtain ⟨i, hi, _, h2⟩ := he
        have hh := (hE i hi).2; simp [nodeB] at hh; omega
      | tail _ he =>
        obtain ⟨i, hi, _, h2⟩ := he
        have hh := (hE i hi).2; simp [nodeB] at hh; omega
    exact hall k hk64

attribute [irreducible] pass rounds
end Go.Proofs.YtiililidehddmaaDoor
