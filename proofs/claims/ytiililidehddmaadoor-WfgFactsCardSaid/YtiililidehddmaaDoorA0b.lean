import Derived.Test.YtiililidehddmaaDoorA0
/- Plain facts on graphs of 64 nodes as sets of bits. No Go. -/
namespace Go.Proofs.YtiililidehddmaaDoor

/-- The k-th number of a list. -/
def gAt (g : List Nat) (k : Nat) : Nat := g.getD k 0

theorem gAt_past (g : List Nat) (k : Nat) (h : g.length ≤ k) : gAt g k = 0 := by simp [gAt, List.getElem?_eq_none h]
theorem gAt_mem (g : List Nat) (k : Nat) (h : k < g.length) : gAt g k ∈ g := by simp [gAt, List.getElem?_eq_getElem h]

/-- A graph: of each node the set of those to whom it has edges. -/
structure WfG (g : List Nat) : Prop where
  len : g.length = 64
  lt : ∀ k, gAt g k < 2 ^ 64

/-- An edge. -/
def Edge (g : List Nat) (a b : Nat) : Prop := (gAt g a).testBit b = true
/-- A way of one edge or more. -/
abbrev Way (g : List Nat) : Nat → Nat → Prop := Relation.TransGen (Edge g)

theorem bit_lt {x j : Nat} (hx : x < 2 ^ 64) (h : x.testBit j = true) : j < 64 := by
  rcases Nat.lt_or_ge j 64 with h' | h'
  · exact h'
  · rw [Nat.testBit_lt_two_pow (Nat.lt_of_lt_of_le hx (Nat.pow_le_pow_right (by omega) h'))] at h
    exact absurd h (by simp)

theorem Edge.right {g : List Nat} (hg : WfG g) {a b : Nat} (h : Edge g a b) : b < 64 := bit_lt (hg.lt a) h
theorem Edge.left {g : List Nat} (hg : WfG g) {a b : Nat} (h : Edge g a b) : a < 64 := by
  rcases Nat.lt_or_ge a 64 with h' | h'
  · exact h'
  · unfold Edge at h; rw [gAt_past g a (by rw [hg.len]; exact h')] at h; simp at h

theorem Way.right {g : List Nat} (hg : WfG g) {a b : Nat} (h : Way g a b) : b < 64 := by
  cases h with
  | single h => exact h.right hg
  | tail _ h => exact h.right hg

theorem mem_bitsOf {s j : Nat} (hs : s < 2 ^ 64) : j ∈ bitsOf s ↔ s.testBit j = true := by
  simp only [bitsOf, List.mem_filter, List.mem_range]
  exact ⟨fun h => h.2, fun h => ⟨bit_lt hs h, h⟩⟩

/-- The union of the sets of the first k of a list of nodes. -/
def orTo (g l : List Nat) : Nat → Nat
  | 0 => 0
  | k + 1 => orTo g l k ||| gAt g (gAt l k)

theorem orTo_lt {g : List Nat} (hg : WfG g) (l : List Nat) (k : Nat) : orTo g l k < 2 ^ 64 := by
  induction k with
  | zero => simp [orTo]
  | succ k ih => exact Nat.or_lt_two_pow ih (hg.lt _)

theorem orTo_bit (g l : List Nat) (k j : Nat) : (orTo g l k).testBit j = true ↔ ∃ i, i < k ∧ Edge g (gAt l i) j := by
  induction k with
  | zero => simp [orTo]
  | succ k ih =>
    simp only [orTo, Nat.testBit_or, Bool.or_eq_true, ih]
    constructor
    · rintro (⟨i, hi, h⟩ | h)
      · exact ⟨i, by omega, h⟩
      · exact ⟨k, by omega, h⟩
    · rintro ⟨i, hi, h⟩
      by_cases e : i = k
      · subst e; exact .inr h
      · exact .inl ⟨i, by omega, h⟩

theorem gAt_of_mem {l : List Nat} {x : Nat} (h : x ∈ l) : ∃ i, i < l.length ∧ gAt l i = x := by
  obtain ⟨i, hi, e⟩ := List.mem_iff_getElem.1 h
  exact ⟨i, hi, by simp [gAt, List.getElem?_eq_getElem hi, e]⟩

theorem orTo_all (g : List Nat) (t : Nat) (ht : t < 2 ^ 64) (j : Nat) : (orTo g (bitsOf t) (bitsOf t).length).testBit j = true ↔ ∃ a, t.testBit a = true ∧ Edge g a j := by
  rw [orTo_bit]
  constructor
  · rintro ⟨i, hi, h⟩
    exact ⟨_, (mem_bitsOf ht).1 (gAt_mem _ _ hi), h⟩
  · rintro ⟨a, ha, h⟩
    obtain ⟨i, hi, e⟩ := gAt_of_mem ((mem_bitsOf ht).2 ha)
    exact ⟨i, hi, by rw [e]; exact h⟩

/-- x &^ y. -/
def minus (x y : Nat) : Nat := x &&& (18446744073709551615 - y)
theorem minus_bit (x y : Nat) (hx : x < 2 ^ 64) (hy : y < 2 ^ 64) (j : Nat) : (minus x y).testBit j = (x.testBit j && !y.testBit j) := by
  have e : (18446744073709551615 - y) = 2 ^ 64 - (y + 1) := by omega
  unfold minus
  rw [Nat.testBit_and, e, Nat.testBit_two_pow_sub_succ hy]
  by_cases h : x.testBit j = true
  · rw [h]; simp [bit_lt hx h]
  · rw [Bool.not_eq_true] at h; rw [h]; simp
theorem minus_lt (x y : Nat) (hx : x < 2 ^ 64) : minus x y < 2 ^ 64 := Nat.lt_of_le_of_lt Nat.and_le_left hx

/-- What the search of 'reach' keeps: met is closed but for todo, all of it is reached, and todo is new. -/
structure Search (g : List Nat) (n met todo : Nat) : Prop where
  mlt : met < 2 ^ 64
  tlt : todo < 2 ^ 64
  first : ∀ j, Edge g n j → met.testBit j = true ∨ todo.testBit j = true
  closed : ∀ a j, met.testBit a = true → Edge g a j → met.testBit j = true ∨ todo.testBit j = true
  sound : ∀ j, met.testBit j = true ∨ todo.testBit j = true → Way g n j
  fresh : ∀ j, todo.testBit j = true → met.testBit j = false

theorem Search.start {g : List Nat} (hg : WfG g) (n : Nat) : Search g n 0 (gAt g n) where
  mlt := by decide
  tlt := hg.lt n
  first := fun j h => .inr h
  closed := fun a j h => by simp at h
  sound := fun j h => by
    rcases h with h | h
    · simp at h
    · exact .single h
  fresh := fun j _ => by simp

theorem Search.round {g : List Nat} (hg : WfG g) {n met todo : Nat} (h : Search g n met todo) (h0 : todo ≠ 0) :
    Search g n (met ||| todo) (minus (orTo g (bitsOf todo) (bitsOf todo).length) (met ||| todo)) ∧ met < met ||| todo := by
  have hm : met ||| todo < 2 ^ 64 := Nat.or_lt_two_pow h.mlt h.tlt
  have hmore := orTo_lt hg (bitsOf todo) (bitsOf todo).length
  have hb : ∀ j, (met ||| todo).testBit j = true ↔ met.testBit j = true ∨ todo.testBit j = true := fun j => by rw [Nat.testBit_or, Bool.or_eq_true]
  have ht : ∀ j, (minus (orTo g (bitsOf todo) (bitsOf todo).length) (met ||| todo)).testBit j = true ↔ (∃ a, todo.testBit a = true ∧ Edge g a j) ∧ ¬ (met ||| todo).testBit j = true := fun j => by
    rw [minus_bit _ _ hmore hm, Bool.and_eq_true, orTo_all g todo h.tlt]; simp
  refine ⟨⟨hm, minus_lt _ _ hmore, fun j e => .inl ((hb j).2 (h.first j e)), ?_, ?_, ?_⟩, ?_⟩
  · intro a j ha e
    by_cases hj : (met ||| todo).testBit j = true
    · exact .inl hj
    · rcases (hb a).1 ha with ha | ha
      · exact .inl ((hb j).2 (h.closed a j ha e))
      · exact .inr ((ht j).2 ⟨⟨a, ha, e⟩, hj⟩)
  · rintro j (hj | hj)
    · exact h.sound j ((hb j).1 hj)
    · obtain ⟨⟨a, ha, e⟩, _⟩ := (ht j).1 hj
      exact .tail (h.sound a (.inr ha)) e
  · intro j hj
    have := ((ht j).1 hj).2
    simpa using this
  · have hle : met ≤ met ||| todo := Nat.left_le_or
    rcases Nat.lt_or_ge met (met ||| todo) with hl | hl
    · exact hl
    · exfalso
      have e : met ||| todo = met := by omega
      have hz : todo = 0 := by
        apply Nat.eq_of_testBit_eq
        intro j
        rw [Nat.zero_testBit, Bool.eq_false_iff]
        intro hj
        have := (hb j).2 (.inr hj)
        rw [e, h.fresh j hj] at this
        exact absurd this (by simp)
      exact h0 hz

theorem Search.done {g : List Nat} {n met : Nat} (h : Search g n met 0) (j : Nat) : met.testBit j = true ↔ Way g n j := by
  have hz : ∀ j, Nat.testBit 0 j = false := fun j => by simp
  refine ⟨fun hj => h.sound j (.inl hj), fun w => ?_⟩
  induction w with
  | single e => rcases h.first _ e with h1 | h1; exact h1; simp [hz] at h1
  | tail _ e ih => rcases h.closed _ _ ih e with h1 | h1; exact h1; simp [hz] at h1

end Go.Proofs.YtiililidehddmaaDoor
