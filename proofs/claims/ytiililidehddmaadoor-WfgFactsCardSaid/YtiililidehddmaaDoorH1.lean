import Derived.Test.YtiililidehddmaaDoorH0
namespace Go.Proofs.YtiililidehddmaaDoor
/- Plain: what 'Ring' answers is a ring. -/

def Joined (g : List Nat) (l : List Nat) : Prop := ∀ i, i + 1 < l.length → Edge g (gAt l i) (gAt l (i + 1))

theorem Joined.snoc {g l : List Nat} (h : Joined g l) (k : Nat) (hpos : 0 < l.length) (he : Edge g (gAt l (l.length - 1)) k) : Joined g (l ++ [k]) := by
  intro i hi
  rw [List.length_append] at hi
  by_cases e : i + 1 < l.length
  · rw [gAt_app_lt _ _ _ e, gAt_app_lt _ _ _ (by omega)]; exact h i e
  · have e1 : i = l.length - 1 := by simp at hi; omega
    have e2 : i + 1 = l.length := by omega
    rw [e2, gAt_app_last, gAt_app_lt _ _ _ (by omega), e1]; exact he

theorem RLine.step {g : List Nat} (hg : WfG g) {s m : Nat} {l : List Nat} (hl : RLine g s m l) (hlt : l.length < m) : ∃ k, (bitsOf (hiOf (gAt g (gAt l (l.length - 1))) s)).find? (nextOk g s (m - l.length)) = some k ∧ s < k ∧ k < 64 ∧ Edge g (gAt l (l.length - 1)) k ∧ waysW g s 64 k = m - l.length := by
  have hpos := hl.pos
  have hm64 := hl.m64
  obtain ⟨h1, h2⟩ := hl.far (l.length - 1) (by omega)
  have hwk := ((waysW_is hg s 64 (by omega) _ _ (by omega)).1 h2).2.2.1
  obtain ⟨f, hf⟩ : ∃ f, m - (l.length - 1) = (f + 1) + 1 := ⟨m - l.length - 1, by omega⟩
  rw [hf] at hwk
  have hex : ∃ k, k ∈ bitsOf (hiOf (gAt g (gAt l (l.length - 1))) s) ∧ nextOk g s (m - l.length) k = true := by
    rcases hwk.2 with ⟨h0, _⟩ | ⟨k, k1, k2, k3⟩
    · omega
    · refine ⟨k, (mem_hi hg s _ k).2 ⟨by omega, k2⟩, ?_⟩
      simp only [nextOk, Bool.and_eq_true, bne_iff_ne, beq_iff_eq]
      refine ⟨by omega, ?_⟩
      have hle := waysW_le_of hg s k (f + 1) (by omega) k3
      have hr := waysW_range g s 64 k
      rcases Nat.lt_or_ge (waysW g s 64 k) (m - l.length) with hlt | hge
      · exfalso
        have hw' := ((waysW_is hg s 64 (by omega) k (waysW g s 64 k) (by omega)).1 rfl).2.2.1
        have hw2 : Wk g s (waysW g s 64 k + 1) (gAt l (l.length - 1)) := ⟨h1, .inr ⟨k, k1, k2, hw'⟩⟩
        have := waysW_le_of hg s _ _ (by omega) hw2
        omega
      · omega
  cases hf2 : (bitsOf (hiOf (gAt g (gAt l (l.length - 1))) s)).find? (nextOk g s (m - l.length)) with
  | none =>
    exfalso
    obtain ⟨k, k1, k2⟩ := hex
    rw [List.find?_eq_none] at hf2
    exact hf2 k k1 k2
  | some k =>
    have hk := List.find?_some hf2
    have hm := List.mem_of_find?_eq_some hf2
    obtain ⟨h3, h4⟩ := (mem_hi hg s _ k).1 hm
    simp only [nextOk, Bool.and_eq_true, bne_iff_ne, beq_iff_eq] at hk
    exact ⟨k, rfl, by omega, h4.right hg, h4, hk.2⟩

theorem ringGo_line {g : List Nat} (hg : WfG g) (s m : Nat) (f : Nat) : ∀ (l : List Nat), RLine g s m l → Joined g l → m = l.length + f → ∀ fuel, f ≤ fuel →
    RLine g s m (ringGo g s m fuel (gAt l (l.length - 1)) l) ∧ Joined g (ringGo g s m fuel (gAt l (l.length - 1)) l) ∧ (ringGo g s m fuel (gAt l (l.length - 1)) l).length = m := by
  induction f with
  | zero =>
    intro l hl hJ hm fuel hf
    rw [ringGo_stop _ _ _ _ _ _ (by omega)]
    exact ⟨hl, hJ, by omega⟩
  | succ f ih =>
    intro l hl hJ hm fuel hf
    obtain ⟨fuel, rfl⟩ : ∃ k, fuel = k + 1 := ⟨fuel - 1, by omega⟩
    obtain ⟨k, hk, k1, k2, k3, k4⟩ := hl.step hg (by omega)
    rw [ringGo_hit _ _ _ _ _ _ _ (by omega) hk]
    have := ih (l ++ [k]) (hl.next (by omega) k2 (by omega) k4) (hJ.snoc k hl.pos k3) (by simp; omega) fuel (by omega)
    rwa [show (l ++ [k]).length - 1 = l.length from by simp, gAt_app_last] at this

/-- What 'Ring' answers. -/
structure RingFacts (g R : List Nat) : Prop where
  some : 0 < R.length ↔ ∃ n, Way g n n
  edge : ∀ i, i < R.length → Edge g (gAt R i) (gAt R ((i + 1) % R.length))
  first : ∀ i, i < R.length → gAt R 0 ≤ gAt R i
  len : R.length ≤ 65

theorem ring_facts {g : List Nat} (hg : WfG g) : RingFacts g (ringF g) := by
  have hb := bestTo_le g 64
  have hi := bestTo_is g 64
  have hp := ring_pos hg
  by_cases hm : (bestTo g 64).1 = 65
  · rw [ringF_none g hm]
    refine ⟨⟨fun h => by simp at h, fun h => absurd hm (hp.2 h)⟩, fun i hi => by simp at hi, fun i hi => by simp at hi, by simp⟩
  · have hcy := hp.1 hm
    have hm2 : (bestTo g 64).1 < 65 := by omega
    obtain ⟨h1, _⟩ := hi.2 hm2
    have hs64 := hb.2.2.2 hm2
    obtain ⟨m, hm3⟩ : ∃ m, (bestTo g 64).1 = m := ⟨_, rfl⟩
    obtain ⟨s, hs3⟩ : ∃ s, (bestTo g 64).2 = s := ⟨_, rfl⟩
    rw [ringF_some g s m hm hm3 hs3]
    rw [hm3] at hm hm2 h1 hb
    rw [hs3] at h1 hs64
    have hL := RLine.one g s m hs64 hb.1 (by omega) h1
    have hJ : Joined g [s] := fun i hi => by simp at hi
    have hgo := ringGo_line hg s m (m - 1) [s] hL hJ (by rw [show [s].length = 1 from rfl]; omega) 64 (by omega)
    rw [show [s].length - 1 = 0 from rfl, gAt_one] at hgo
    generalize ringGo g s m 64 s [s] = R at *
    obtain ⟨hR, hJR, hlen⟩ := hgo
    refine ⟨⟨fun _ => hcy, fun _ => hR.pos⟩, fun i hi => ?_, fun i hi => ?_, by omega⟩
    · by_cases e : i + 1 < R.length
      · rw [Nat.mod_eq_of_lt e]; exact hJR i e
      · have e1 : i + 1 = R.length := by omega
        rw [e1, Nat.mod_self, hR.first]
        obtain ⟨h3, h4⟩ := hR.far i hi
        have hwk := ((waysW_is hg s 64 (by omega) _ _ (by omega)).1 h4).2.2.1
        rw [show m - i = 0 + 1 from by omega] at hwk
        rcases hwk.2 with ⟨_, he⟩ | ⟨k, _, _, hk⟩
        · exact he
        · exact hk.elim
    · rw [hR.first]; exact (hR.far i hi).1

/-- Is a node one of those that it reaches, of the first n? -/
noncomputable def selfTo (g : List Nat) : Nat → Bool
  | 0 => false
  | n + 1 => selfTo g n || hasN (reachL g n) (n : Int)
theorem selfTo_zero (g : List Nat) : selfTo g 0 = false := rfl
theorem selfTo_succ (g : List Nat) (n : Nat) : selfTo g (n + 1) = (selfTo g n || hasN (reachL g n) (n : Int)) := rfl
theorem selfTo_is {g : List Nat} (K : Nat) (hK : K ≤ 64) : selfTo g K = true ↔ ∃ n, n < K ∧ Way g n n := by
  induction K with
  | zero => rw [selfTo_zero]; simp
  | succ K ih =>
    have hr : hasN (reachL g K) (K : Int) = true ↔ Way g K K := by
      rw [hasN_iff]
      unfold reachL
      rw [List.mem_filter]
      simp only [List.mem_range, decide_eq_true_eq, Int.toNat_natCast]
      exact ⟨fun h => h.2.2, fun h => ⟨by omega, nodeB_nat (by omega), h⟩⟩
    rw [selfTo_succ, Bool.or_eq_true, ih (by omega), hr]
    constructor
    · rintro (⟨n, hn, h⟩ | h)
      · exact ⟨n, by omega, h⟩
      · exact ⟨K, by omega, h⟩
    · rintro ⟨n, hn, h⟩
      by_cases e : n = K
      · subst e; exact .inr h
      · exact .inl ⟨n, by omega, h⟩
theorem self_all {g : List Nat} (hg : WfG g) : selfTo g 64 = true ↔ ∃ n, Way g n n := by
  rw [selfTo_is 64 (Nat.le_refl _)]
  exact ⟨fun ⟨n, _, h⟩ => ⟨n, h⟩, fun ⟨n, h⟩ => ⟨n, h.right hg, h⟩⟩

/-- The first k of a list hold n. -/
def hasTo (L : List Nat) (n : Int) (b : Bool) : Nat → Bool
  | 0 => b
  | k + 1 => hasTo L n b k || ((gAt L k : Int) == n)
theorem hasTo_zero (L : List Nat) (n : Int) (b : Bool) : hasTo L n b 0 = b := rfl
theorem hasTo_succ (L : List Nat) (n : Int) (b : Bool) (k : Nat) : hasTo L n b (k + 1) = (hasTo L n b k || ((gAt L k : Int) == n)) := rfl
theorem hasTo_all (L : List Nat) (n : Int) (b : Bool) : hasTo L n b L.length = (b || hasN L n) := by
  have h : ∀ k, k ≤ L.length → hasTo L n b k = (b || (L.take k).any fun x => (x : Int) == n) := by
    intro k
    induction k with
    | zero => intro _; rw [hasTo_zero]; simp
    | succ k ih =>
      intro hk
      rw [hasTo_succ, ih (by omega), take_succ_gAt _ _ (by omega), List.any_append]
      simp [Bool.or_assoc]
  rw [h _ (Nat.le_refl _), List.take_length, hasN_eq]
attribute [irreducible] hasTo selfTo
end Go.Proofs.YtiililidehddmaaDoor
