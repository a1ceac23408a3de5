import Derived.Test.YtlgkkjhkanpmhaaC2
namespace Go.Proofs.Ytlgkkjhkanpmhaa
open Go.RowKit Go.Maps Go.WideShapes

/-! ### A list of accesses, each turned by h -/
def turnTo (h : Acc → Acc) (L : List Acc) (k : Nat) : List Acc := (List.range L.length).map fun i => if i < k then h (aAt L i) else aAt L i
theorem turnTo_len (h : Acc → Acc) (L : List Acc) (k : Nat) : (turnTo h L k).length = L.length := by simp [turnTo]
theorem turnTo_at (h : Acc → Acc) (L : List Acc) (k i : Nat) (hi : i < L.length) : aAt (turnTo h L k) i = if i < k then h (aAt L i) else aAt L i := by
  simp [turnTo, aAt, hi]
theorem turnTo_zero (h : Acc → Acc) (L : List Acc) : turnTo h L 0 = L := by
  apply List.ext_getElem
  · rw [turnTo_len]
  · intro i h1 h2
    simp [turnTo, aAt, h2]
theorem turnTo_succ (h : Acc → Acc) (L : List Acc) (k : Nat) : turnTo h L (k + 1) = (turnTo h L k).set k (h (aAt L k)) := by
  apply List.ext_getElem
  · simp [turnTo_len]
  · intro i h1 h2
    rw [List.getElem_set]
    by_cases e : k = i
    · subst e; simp [turnTo]
    · rw [if_neg e]
      simp only [turnTo, List.getElem_map, List.getElem_range]
      by_cases h3 : i < k
      · rw [if_pos h3, if_pos (by omega)]
      · rw [if_neg h3, if_neg (by omega)]

theorem flat_set {α : Type} (f : α → List Value) (s : Nat) (hf : ∀ a, (f a).length = s) (a b : α) (j : Nat) (hj : j < s) (v : Value) (h : f b = (f a).set j v) (L : List α) : ∀ i, L[i]? = some a → (L.set i b).flatMap f = (L.flatMap f).set (i * s + j) v := by
  induction L with
  | nil => intro i h; simp at h
  | cons x L ih =>
    intro i hi
    cases i with
    | zero =>
      simp only [List.getElem?_cons_zero, Option.some.injEq] at hi
      subst hi
      rw [List.set_cons_zero, List.flatMap_cons, List.flatMap_cons, h, Nat.zero_mul, Nat.zero_add, List.set_append_left _ _ (by rw [hf]; exact hj)]
    | succ i =>
      simp only [List.getElem?_cons_succ] at hi
      rw [List.set_cons_succ, List.flatMap_cons, List.flatMap_cons, ih i hi, List.set_append_right _ _ (by rw [hf, Nat.add_mul]; omega), hf]
      congr 2
      rw [Nat.add_mul]; omega
theorem acells_set (L : List Acc) (i : Nat) (hi : i < L.length) (b : Acc) (j : Nat) (hj : j < 12) (v : Value) (h : accCells b = (accCells (aAt L i)).set j v) : acells (L.set i b) = (acells L).set (i * 12 + j) v :=
  flat_set accCells 12 (fun _ => rfl) (aAt L i) b j hj v h L i (by simp [aAt, hi])
theorem set_lk (a : Acc) (x : Nat) : accCells { a with lk := x } = (accCells a).set 11 (.int .u64 (x : Int)) := rfl
theorem set_th (a : Acc) (x : Int) : accCells { a with th := x } = (accCells a).set 0 (.int .i64 x) := rfl

theorem owns_set {w : World} {B : Nat} {T : TypeId} {s n cap g : Nat} {xs : List Value} (h : w.ownsRow B T s (.slice (some ⟨g, 0, none⟩) n cap) n xs) (j : Nat) (x : Value) :
    (w.setCell ⟨g, j, none⟩ x).ownsRow B T s (.slice (some ⟨g, 0, none⟩) n cap) n (xs.set j x) := by
  refine ⟨by rw [List.length_set]; exact h.1, .inr ?_⟩
  rcases h.2 with ⟨hv, _⟩ | ⟨g', cap', cur, hv, hB, hg, h1, h2, h3, h4⟩
  · cases hv
  · injection hv with e1 e2 e3
    injection e1 with e1
    injection e1 with e1
    subst e1 e3
    have hcap : n * s ≤ cap * s := Nat.mul_le_mul_right _ h1
    refine ⟨g, cap, cur.setIfInBounds j x, rfl, hB, ?_, h1, h2, by simp [h3], ?_⟩
    · exact heap_setCell_same _ _ _ _ _ _ hg
    · rw [← h4, Array.toList_setIfInBounds, List.take_set]
theorem owns_other {w : World} {B : Nat} {T : TypeId} {s n : Nat} {v : Value} {xs : List Value} (h : w.ownsRow B T s v n xs) (p : Addr) (hp : v.ownBlock ≠ some p.block) (x : Value) : (w.setCell p x).ownsRow B T s v n xs := by
  refine ⟨h.1, ?_⟩
  rcases h.2 with h2 | ⟨g, cap, cur, hv, hB, hg, r⟩
  · exact .inl h2
  · refine .inr ⟨g, cap, cur, hv, hB, (heap_setCell_other _ _ _ _ (by intro e; rw [hv] at hp; exact hp (by simp [Value.ownBlock, e]))).trans hg, r⟩

/-! ### Locks -/
def orL (m : Nat) (a : Acc) : Acc := { a with lk := a.lk ||| 2 ^ m }
def thL (t : Int) (a : Acc) : Acc := { a with th := t }
/-- A state that keeps the lock m. -/
def Keeps (m : Nat) (s : Sta) : Prop := (s.kd = 0 ∨ s.kd = 1) ∨ ((s.kd = 2 ∨ s.kd = 3) ∧ s.lk.testBit m = true)
theorem bit_ne {n m : Nat} (h : n.testBit m = true) : n ≠ 0 := by
  rintro rfl; simp at h
theorem metF_keeps {m : Nat} {k : Int} {n : Nat} (hk : k = 2 ∨ k = 3) (h : n.testBit m = true) : Keeps m (metF k n) := by
  rw [metF_eq, if_neg (fun e => bit_ne h e.2)]
  exact .inr ⟨hk, h⟩
theorem next_keeps {m : Nat} {s : Sta} {a : Acc} (hs : Keeps m s) (ha : a.lk.testBit m = true) : Keeps m (nextF s a) := by
  have hw : (if a.wr = true then (3 : Int) else 2) = 2 ∨ (if a.wr = true then (3 : Int) else 2) = 3 := by cases a.wr <;> simp
  rw [nextF_eq]
  split
  · exact hs
  · split
    · exact .inl (.inr rfl)
    · split
      · exact hs
      · split
        · exact metF_keeps hw ha
        · rename_i h0 _ h1
          have h23 : (s.kd = 2 ∨ s.kd = 3) ∧ s.lk.testBit m = true := by
            rcases hs with (h | h) | h
            · exact absurd h h0
            · exact absurd h h1
            · exact h
          have hand : (s.lk &&& a.lk).testBit m = true := by rw [Nat.testBit_and, h23.2, ha]; rfl
          split
          · exact metF_keeps hw hand
          · exact metF_keeps h23.1 hand
theorem sta_keeps {m : Nat} {L : List Acc} (c : Int) (k : Nat) (hk : k ≤ L.length) (h : ∀ i, i < L.length → (aAt L i).lk.testBit m = true) : Keeps m (staTo L c k) := by
  induction k with
  | zero => rw [staTo_zero]; exact .inl (.inl rfl)
  | succ k ih =>
    rw [staTo_succ]
    split
    · exact next_keeps (ih (by omega)) (h k (by omega))
    · exact ih (by omega)
theorem keeps_bare {m : Nat} {s : Sta} (h : Keeps m s) : s.kd ≠ 4 := by
  rcases h with (h | h) | ⟨h | h, _⟩ <;> omega
theorem locks_none {m : Nat} {L : List Acc} (h : ∀ i, i < L.length → (aAt L i).lk.testBit m = true) {n : Nat} (hb : BareLen L n) : n = 0 :=
  hb.none fun c _ => keeps_bare (sta_keeps c _ (Nat.le_refl _) h)

/-- A state of one thread. -/
def OneT (t : Int) (s : Sta) : Prop := s.kd = 0 ∨ (s.kd = 1 ∧ s.th = t)
theorem next_one {t : Int} {s : Sta} {a : Acc} (hs : OneT t s) (ha : a.th = t) : OneT t (nextF s a) := by
  rw [nextF_eq]
  split
  · exact hs
  · split
    · exact .inr ⟨rfl, ha⟩
    · rename_i h0
      rcases hs with h | ⟨h1, h2⟩
      · exact absurd h h0
      · rw [if_pos ⟨h1, by rw [ha, h2]⟩]; exact .inr ⟨h1, h2⟩
theorem sta_one {t : Int} {L : List Acc} (c : Int) (k : Nat) (hk : k ≤ L.length) (h : ∀ i, i < L.length → (aAt L i).th = t) : OneT t (staTo L c k) := by
  induction k with
  | zero => rw [staTo_zero]; exact .inl rfl
  | succ k ih =>
    rw [staTo_succ]
    split
    · exact next_one (ih (by omega)) (h k (by omega))
    · exact ih (by omega)

theorem orL_wf {m : Nat} (hm : m < 64) {a : Acc} (h : WfA a) : WfA (orL m a) :=
  ⟨h.clk, h.th, h.ce, Nat.or_lt_two_pow (n := 64) h.lk (Nat.pow_lt_pow_right (by omega) hm)⟩
theorem orL_bit (m : Nat) (a : Acc) : (orL m a).lk.testBit m = true := by
  unfold orL; simp [Nat.testBit_or, Nat.testBit_two_pow_self]
theorem thL_wf {t : Int} (ht : (Lit.int .i64 t).wf = true) {a : Acc} (h : WfA a) : WfA (thL t a) := ⟨h.clk, ht, h.ce, h.lk⟩

/-- The first n of a list of accesses. -/
theorem aAt_take (L : List Acc) (n i : Nat) (h : i < n) : aAt (L.take n) i = aAt L i := by
  simp [aAt, List.getD, h]
theorem AccAt.first {w : World} {base : Option Addr} {L : List Acc} (h : AccAt w base L) (n : Nat) : AccAt w base (L.take n) := fun i hi => by
  rw [List.length_take] at hi
  rw [aAt_take _ _ _ (by omega)]
  exact h i (by omega)
end Go.Proofs.Ytlgkkjhkanpmhaa
