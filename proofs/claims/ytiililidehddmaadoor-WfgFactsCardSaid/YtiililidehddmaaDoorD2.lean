import Derived.Test.YtiililidehddmaaDoorD1
namespace Go.Proofs.YtiililidehddmaaDoor

/- Plain: the two graphs say the same. -/

structure Link (g : List Nat) (E : List (Int × Int)) : Prop where
  wf : WfG g
  edge : ∀ a b : Nat, a < 64 → b < 64 → (Edge g a b ↔ ((a : Int), (b : Int)) ∈ E)
  ends : ∀ e ∈ E, nodeB e.1 = true ∧ nodeB e.2 = true
  nodup : E.Nodup

theorem rHas_mem (E : List (Int × Int)) (a b : Int) : rHas E a b = true ↔ (a, b) ∈ E := by
  rw [rHas_eq, List.any_eq_true]
  constructor
  · rintro ⟨e, he, h⟩
    simp only [Bool.and_eq_true, beq_iff_eq] at h
    obtain ⟨x, y⟩ := e
    simp only at h
    rw [← h.1, ← h.2]; exact he
  · intro h; exact ⟨_, h, by simp⟩

theorem Link.start : Link zeroG [] where
  wf := zeroG_wf
  edge := fun a b _ _ => by
    unfold Edge
    have z : gAt zeroG a = 0 := by unfold gAt zeroG; rw [List.getD_eq_getElem?_getD, List.getElem?_replicate]; split <;> rfl
    rw [z]; simp
  ends := fun e he => by simp at he
  nodup := List.nodup_nil

theorem Link.add {g : List Nat} {E : List (Int × Int)} (h : Link g E) (a b : Int) : Link (addF g a b) (rAdd E a b) := by
  by_cases hn : nodeB a = true ∧ nodeB b = true
  · obtain ⟨ha, hb⟩ := hn
    obtain ⟨na, rfl, hna⟩ := nodeB_true ha
    obtain ⟨nb, rfl, hnb⟩ := nodeB_true hb
    have eg : addF g na nb = addG g na nb := by simp [addF, ha, hb]
    rw [eg]
    have hedge : ∀ x y : Nat, x < 64 → y < 64 → (Edge (addG g na nb) x y ↔ Edge g x y ∨ (x = na ∧ y = nb)) := by
      intro x y hx hy
      unfold Edge addG
      rw [gAt_set _ _ _ _ (by rw [h.wf.len]; exact hna)]
      by_cases e : na = x
      · subst e
        rw [if_pos rfl, Nat.testBit_or, Nat.testBit_two_pow]
        simp only [Bool.or_eq_true, decide_eq_true_eq, true_and]
        constructor
        · rintro (h1 | h1); exact .inl h1; exact .inr h1.symm
        · rintro (h1 | h1); exact .inl h1; exact .inr h1.symm
      · rw [if_neg e]
        constructor
        · intro h1; exact .inl h1
        · rintro (h1 | h1)
          · exact h1
          · exact absurd h1.1.symm e
    have hmem : ∀ e, e ∈ rAdd E na nb ↔ e ∈ E ∨ e = ((na : Int), (nb : Int)) := by
      intro e
      unfold rAdd
      rw [ha, hb]
      cases hr : rHas E na nb
      · simp
      · simp only [Bool.and_self, Bool.not_true, Bool.and_false, Bool.false_eq_true, if_false]
        constructor
        · intro h1; exact .inl h1
        · rintro (h1 | h1)
          · exact h1
          · rw [h1]; exact (rHas_mem _ _ _).1 hr
    refine ⟨addG_wf h.wf hna hnb, ?_, ?_, ?_⟩
    · intro x y hx hy
      rw [hedge x y hx hy, hmem, h.edge x y hx hy]
      constructor
      · rintro (h1 | ⟨h1, h2⟩); exact .inl h1; right; rw [h1, h2]
      · rintro (h1 | h1)
        · exact .inl h1
        · right
          injection h1 with h1 h2
          omega
    · intro e he
      rcases (hmem e).1 he with h1 | h1
      · exact h.ends e h1
      · rw [h1]; exact ⟨ha, hb⟩
    · unfold rAdd
      rw [ha, hb]
      cases hr : rHas E na nb
      · simp only [Bool.and_self, Bool.not_false, if_true]
        rw [List.nodup_append]
        refine ⟨h.nodup, by simp, ?_⟩
        intro x hx y hy e
        rw [List.mem_singleton] at hy
        rw [e, hy] at hx
        rw [(rHas_mem _ _ _).2 hx] at hr
        exact absurd hr (by simp)
      · simpa using h.nodup
  · have eg : addF g a b = g := by
      unfold addF; rw [if_neg]; rw [Bool.and_eq_true]; exact hn
    have er : rAdd E a b = E := by
      unfold rAdd; rw [if_neg]; rw [Bool.and_eq_true, Bool.and_eq_true]; exact fun h => hn h.1
    rw [eg, er]; exact h

theorem link_all (L : List (Int × Int)) : Link (theirsG L) (rEdges L) := by
  have h : ∀ (L : List (Int × Int)) (g : List Nat) (E : List (Int × Int)), Link g E → Link (L.foldl (fun g e => addF g e.1 e.2) g) (L.foldl (fun r e => rAdd r e.1 e.2) E) := by
    intro L
    induction L with
    | nil => intro g E h; exact h
    | cons e L ih => intro g E h; exact ih _ _ (h.add e.1 e.2)
  exact h L _ _ Link.start

theorem addE_rErr (a b : Int) : addE a b = rErr a b := rfl

section
variable {g : List Nat} {E : List (Int × Int)} (h : Link g E)
include h

theorem Link.has (a b : Int) : hasF g a b = rHas E a b := by
  rw [Bool.eq_iff_iff, rHas_mem]
  unfold hasF
  rw [Bool.and_eq_true, Bool.and_eq_true]
  constructor
  · rintro ⟨⟨ha, hb⟩, ht⟩
    obtain ⟨na, rfl, hna⟩ := nodeB_true ha
    obtain ⟨nb, rfl, hnb⟩ := nodeB_true hb
    exact (h.edge na nb hna hnb).1 ht
  · intro hm
    obtain ⟨ha, hb⟩ := h.ends _ hm
    refine ⟨⟨ha, hb⟩, ?_⟩
    obtain ⟨na, hna, hna64⟩ := nodeB_true ha
    obtain ⟨nb, hnb, hnb64⟩ := nodeB_true hb
    simp only at hna hnb
    subst hna hnb
    exact (h.edge na nb hna64 hnb64).2 hm

theorem Link.next (a : Int) : nextF g a = rNext E a := by
  unfold nextF rNext selTo
  by_cases ha : nodeB a = true
  · rw [if_pos ha]
    unfold bitsOf
    apply List.filter_congr
    intro k hk
    have hk' := List.mem_range.1 hk
    rw [← h.has a k]
    unfold hasF
    rw [ha, nodeB_nat hk']; simp
  · rw [if_neg ha]
    symm
    rw [List.filter_eq_nil_iff]
    intro k _
    rw [← h.has a k]
    unfold hasF
    simp [ha]

theorem Link.Ends : Ends E := by
  intro i hi
  have := h.ends E[i] (List.getElem_mem hi)
  simpa only [eA, eB, List.getD_eq_getElem?_getD, List.getElem?_eq_getElem hi, Option.getD_some] using this

theorem Link.redge (a b : Nat) : REdge E a b ↔ Edge g a b := by
  constructor
  · rintro ⟨i, hi, h1, h2⟩
    have hm : ((a : Int), (b : Int)) ∈ E := by
      have : (eA E i, eB E i) = E[i] := by simp [eA, eB, List.getElem?_eq_getElem hi]
      rw [← h1, ← h2, this]; exact List.getElem_mem hi
    obtain ⟨ha, hb⟩ := h.ends _ hm
    simp only [nodeB, decide_eq_true_eq] at ha hb
    exact (h.edge a b (by omega) (by omega)).2 hm
  · intro he
    have hm := (h.edge a b (he.left h.wf) (he.right h.wf)).1 he
    obtain ⟨i, hi, e⟩ := List.mem_iff_getElem.1 hm
    exact ⟨i, hi, by simp [eA, List.getElem?_eq_getElem hi, e], by simp [eB, List.getElem?_eq_getElem hi, e]⟩

theorem Link.way (a b : Nat) : Relation.TransGen (REdge E) a b ↔ Way g a b := by
  have e : REdge E = Edge g := by funext x y; exact propext (h.redge x y)
  rw [e]

theorem Link.reach (a : Int) : reachL g a = rReach E a := by
  unfold reachL rReach selTo
  apply List.filter_congr
  intro k hk
  rw [Bool.eq_iff_iff]
  simp only [decide_eq_true_eq]
  by_cases ha : 0 ≤ a
  · obtain ⟨na, rfl⟩ : ∃ n : Nat, a = n := ⟨a.toNat, by omega⟩
    rw [rounds_all E na h.Ends k, h.way, Int.toNat_natCast]
    constructor
    · exact fun h1 => h1.2
    · intro h1
      refine ⟨?_, h1⟩
      have hl : na < 64 := by
        have : ∀ {x y : Nat}, Way g x y → x < 64 := by
          intro x y hw
          induction hw with
          | single e => exact e.left h.wf
          | tail _ _ ih => exact ih
        exact this h1
      exact nodeB_nat hl
  · constructor
    · rintro ⟨hn, _⟩
      simp only [nodeB, decide_eq_true_eq] at hn; omega
    · intro hk2
      exfalso
      have hno : ∀ r j, bAt (rounds E a r) j = false := by
        intro r
        induction r with
        | zero => intro j; rw [rounds_zero]; simp only [bAt, List.getD_eq_getElem?_getD, List.getElem?_replicate]; split <;> rfl
        | succ r ih =>
          rw [rounds_succ]
          have hp : ∀ n, n ≤ E.length → pass E a (rounds E a r) n = rounds E a r := by
            intro n
            induction n with
            | zero => intro _; rw [pass_zero]
            | succ n ihn =>
              intro hn
              rw [pass_succ, ihn (by omega), if_neg]
              unfold goesOn
              rw [ih, Bool.or_false, beq_iff_eq]
              have := (h.Ends n (by omega)).1
              simp only [nodeB, decide_eq_true_eq] at this
              omega
          rw [hp _ (Nat.le_refl _)]; exact ih
      rw [hno] at hk2; exact absurd hk2 (by simp)

end

/-- How many edges: one row after the other. -/
theorem row_count (E : List (Int × Int)) (hnd : E.Nodup) (a : Nat) (s : Nat) (hs : s < 2 ^ 64) (hb : ∀ e ∈ E, e.1 = (a : Int) → nodeB e.2 = true) (h : ∀ b : Nat, b < 64 → (s.testBit b = true ↔ ((a : Int), (b : Int)) ∈ E)) :
    (bitsOf s).length = (E.filter fun e => e.1 == (a : Int)).length := by
  have hperm : ((bitsOf s).map fun (b : Nat) => ((a : Int), (b : Int))).Perm (E.filter fun e => e.1 == (a : Int)) := by
    rw [List.perm_ext_iff_of_nodup]
    · rintro ⟨x, y⟩
      simp only [List.mem_map, List.mem_filter, beq_iff_eq, Prod.mk.injEq]
      constructor
      · rintro ⟨b, hbm, rfl, rfl⟩
        have := (mem_bitsOf hs).1 hbm
        exact ⟨(h b (bit_lt hs this)).1 this, rfl⟩
      · rintro ⟨hm, rfl⟩
        obtain ⟨nb, hnb, hnb64⟩ := nodeB_true (hb _ hm rfl)
        simp only at hnb
        subst hnb
        exact ⟨nb, (mem_bitsOf hs).2 ((h nb hnb64).2 hm), rfl, rfl⟩
    · refine List.Pairwise.map (R := fun x y => x ≠ y) _ (fun x y hxy e => hxy (by injection e with _ e2; omega)) ?_
      exact List.Pairwise.filter _ List.nodup_range
    · exact List.Pairwise.filter _ hnd
  have := hperm.length_eq
  simpa using this

theorem Link.len {g : List Nat} {E : List (Int × Int)} (h : Link g E) : lenTo g 64 = E.length := by
  have hk : ∀ k, k ≤ 64 → lenTo g k = (E.filter fun e => decide (e.1 < (k : Int))).length := by
    intro k
    induction k with
    | zero =>
      intro _
      rw [lenTo_zero]
      symm
      rw [List.length_eq_zero_iff, List.filter_eq_nil_iff]
      intro e he
      have := (h.ends e he).1
      simp only [nodeB, decide_eq_true_eq] at this
      simp; omega
    | succ k ih =>
      intro hk
      rw [lenTo_succ, ih (by omega), pop64_bits, row_count E h.nodup k (gAt g k) (h.wf.lt k) (fun e he _ => (h.ends e he).2) (fun b hb => h.edge k b (by omega) hb)]
      have split : ∀ l : List (Int × Int), (l.filter fun e => decide (e.1 < ((k + 1 : Nat) : Int))).length = (l.filter fun e => decide (e.1 < (k : Int))).length + (l.filter fun e => e.1 == (k : Int)).length := by
        intro l
        induction l with
        | nil => rfl
        | cons e l ihl =>
          rcases Int.lt_trichotomy e.1 (k : Int) with h1 | h1 | h1
          · rw [List.filter_cons_of_pos (by simp; omega), List.filter_cons_of_pos (by simpa using h1), List.filter_cons_of_neg (by simp; omega), List.length_cons, List.length_cons, ihl]; omega
          · rw [List.filter_cons_of_pos (by simp; omega), List.filter_cons_of_neg (by simp; omega), List.filter_cons_of_pos (by simpa using h1), List.length_cons, List.length_cons, ihl]; omega
          · rw [List.filter_cons_of_neg (by simp; omega), List.filter_cons_of_neg (by simp; omega), List.filter_cons_of_neg (by simp; omega), ihl]
      exact (split E).symm
  rw [hk 64 (Nat.le_refl _)]
  congr 1
  rw [List.filter_eq_self]
  intro e he
  have := (h.ends e he).1
  simp only [nodeB, decide_eq_true_eq] at this
  simp; omega

end Go.Proofs.YtiililidehddmaaDoor
