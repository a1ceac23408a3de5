import Derived.Test.YtiililidehddmaaDoorG2
namespace Go.Proofs.YtiililidehddmaaDoor
/- Plain: a ring is there just if some node reaches itself; an order, just if none does. -/

/-- Ways over nodes from s on. -/
def EdgeGE (g : List Nat) (s a b : Nat) : Prop := s ≤ a ∧ s ≤ b ∧ Edge g a b
abbrev WayGE (g : List Nat) (s : Nat) : Nat → Nat → Prop := Relation.TransGen (EdgeGE g s)

theorem WayGE.way {g : List Nat} {s a b : Nat} (h : WayGE g s a b) : Way g a b := by
  induction h with
  | single h => exact .single h.2.2
  | tail _ h ih => exact .tail ih h.2.2

theorem way_ge0 {g : List Nat} {a b : Nat} (h : Way g a b) : WayGE g 0 a b := by
  induction h with
  | single h => exact .single ⟨Nat.zero_le _, Nat.zero_le _, h⟩
  | tail _ h ih => exact .tail ih ⟨Nat.zero_le _, Nat.zero_le _, h⟩

theorem WayGE.right {g : List Nat} {s a b : Nat} (h : WayGE g s a b) : s ≤ b := by
  cases h with
  | single h => exact h.2.1
  | tail _ h => exact h.2.1

theorem WayGE.split {g : List Nat} {s a b : Nat} (h : WayGE g s a b) : WayGE g (s + 1) a b ∨ ((a = s ∨ WayGE g s a s) ∧ (b = s ∨ WayGE g s s b)) := by
  induction h with
  | single h =>
    rename_i b
    by_cases ha : a = s
    · subst ha; exact .inr ⟨.inl rfl, .inr (.single h)⟩
    · by_cases hb : b = s
      · subst hb; exact .inr ⟨.inr (.single h), .inl rfl⟩
      · exact .inl (.single ⟨by have := h.1; omega, by have := h.2.1; omega, h.2.2⟩)
  | tail hw h ih =>
    rename_i b c
    rcases ih with ih | ⟨h1, h2⟩
    · by_cases hc : c = s
      · subst hc; exact .inr ⟨.inr (.tail hw h), .inl rfl⟩
      · exact .inl (.tail ih ⟨ih.right, by have := h.2.1; omega, h.2.2⟩)
    · refine .inr ⟨h1, .inr ?_⟩
      rcases h2 with rfl | h2
      · exact .single h
      · exact .tail h2 h

theorem tg_trans {g : List Nat} {s a b c : Nat} (h1 : WayGE g s a b) (h2 : WayGE g s b c) : WayGE g s a c := by
  induction h2 with
  | single h => exact .tail h1 h
  | tail _ h ih => exact .tail ih h

theorem cycle_at {g : List Nat} (s n : Nat) (h : WayGE g s n n) : WayGE g (s + 1) n n ∨ WayGE g s s s := by
  rcases h.split with h1 | ⟨h1, h2⟩
  · exact .inl h1
  · right
    rcases h1 with rfl | h1
    · exact h
    · rcases h2 with rfl | h2
      · exact h
      · exact tg_trans h2 h1

theorem cycle_least {g : List Nat} (hg : WfG g) (d : Nat) : ∀ s n, 64 - s = d → WayGE g s n n → ∃ s', WayGE g s' s' s' := by
  induction d with
  | zero =>
    intro s n hs h
    have h1 := h.right
    have h2 := h.way.right hg
    omega
  | succ d ih =>
    intro s n hs h
    rcases cycle_at s n h with h1 | h1
    · exact ih (s + 1) n (by omega) h1
    · exact ⟨s, h1⟩

theorem head_ind {g : List Nat} {s : Nat} {b : Nat} {p : Nat → Prop} {a : Nat} (h : WayGE g s a b) (h1 : ∀ x, EdgeGE g s x b → p x) (h2 : ∀ x y, EdgeGE g s x y → p y → p x) : p a := by
  induction h generalizing p with
  | single h => exact h1 _ h
  | tail _ h ih =>
    exact ih (p := p) (fun x hx => h2 _ _ hx (h1 _ h)) h2

theorem wk_of_way {g : List Nat} {s a : Nat} (h : WayGE g s a s) : ∃ r, Wk g s r a := by
  refine head_ind (p := fun a => ∃ r, Wk g s r a) h (fun x hx => ⟨1, hx.1, .inl ⟨rfl, hx.2.2⟩⟩) (fun x y hxy hy => ?_)
  by_cases e : y = s
  · exact ⟨1, hxy.1, .inl ⟨rfl, by rw [← e]; exact hxy.2.2⟩⟩
  · obtain ⟨r, hr⟩ := hy
    exact ⟨r + 1, hxy.1, .inr ⟨y, by have := hxy.2.1; omega, hxy.2.2, hr⟩⟩

theorem edge_way {g : List Nat} {a b c : Nat} (he : Edge g a b) (h : Way g b c) : Way g a c := by
  induction h with
  | single h1 => exact .tail (.single he) h1
  | tail _ h1 ih => exact .tail ih h1

theorem Wk.way {g : List Nat} {s : Nat} : ∀ r n, Wk g s r n → Way g n s := by
  intro r
  induction r with
  | zero => intro n h; exact h.elim
  | succ r ih =>
    intro n h
    rcases h.2 with ⟨_, he⟩ | ⟨k, _, he, hk⟩
    · exact .single he
    · exact edge_way he (ih k hk)

theorem Wk.min_down {g : List Nat} (hg : WfG g) (s : Nat) : ∀ r n, Wk g s r n → (∀ r', r' < r → ¬ Wk g s r' n) → ∀ d, 1 ≤ d → d ≤ r → ∃ x, x < 64 ∧ Wk g s d x ∧ ∀ d', d' < d → ¬ Wk g s d' x := by
  intro r
  induction r with
  | zero => intro n h; exact h.elim
  | succ r ih =>
    intro n h hmin d h1 h2
    by_cases e : d = r + 1
    · subst e
      refine ⟨n, ?_, h, hmin⟩
      rcases h.2 with ⟨_, he⟩ | ⟨k, _, he, _⟩
      · exact he.left hg
      · exact he.left hg
    · rcases h.2 with ⟨h0, _⟩ | ⟨k, k1, he, hk⟩
      · omega
      · exact ih k hk (fun r' hr' hw => hmin (r' + 1) (by omega) ⟨h.1, .inr ⟨k, k1, he, hw⟩⟩) d h1 (by omega)

theorem wk_short {g : List Nat} (hg : WfG g) (s n r : Nat) (h : Wk g s r n) : ∃ r', r' ≤ 64 ∧ Wk g s r' n := by
  have hex : ∃ m, Wk g s m n ∧ ∀ r'', r'' < m → ¬ Wk g s r'' n := by
    induction r using Nat.strongRecOn with
    | ind m ihm =>
      by_cases hc : ∃ r'', r'' < m ∧ Wk g s r'' n
      · obtain ⟨r'', h1, h2⟩ := hc
        exact ihm r'' h1 h2
      · exact ⟨m, h, fun r'' h1 h2 => hc ⟨r'', h1, h2⟩⟩
  obtain ⟨m, hm, hmin⟩ := hex
  by_cases hm64 : m ≤ 64
  · exact ⟨m, hm64, hm⟩
  · exfalso
    have := len_of_all 65 ((List.range 64).map (waysW g s 64)) (fun d d1 d2 => by
      obtain ⟨x, hx, hw, hno⟩ := Wk.min_down hg s m n hm hmin d d1 (by omega)
      rw [List.mem_map]
      refine ⟨x, List.mem_range.2 hx, ?_⟩
      by_cases e : d ≤ 64
      · exact (waysW_is hg s 64 (by omega) x d e).2 ⟨d1, e, hw, hno⟩
      · have hd : d = 65 := by omega
        subst hd
        rcases waysW_range g s 64 x with h1 | h1
        · exfalso
          have := ((waysW_is hg s 64 (by omega) x _ h1.2).1 rfl).2.2.1
          exact hno _ (by omega) this
        · exact h1)
    rw [List.length_map, List.length_range] at this
    omega

theorem ring_pos {g : List Nat} (hg : WfG g) : (bestTo g 64).1 ≠ 65 ↔ ∃ n, Way g n n := by
  have hb := bestTo_le g 64
  have hi := bestTo_is g 64
  constructor
  · intro h
    have hlt : (bestTo g 64).1 < 65 := by omega
    obtain ⟨h1, _⟩ := hi.2 hlt
    refine ⟨(bestTo g 64).2, ?_⟩
    rw [ringLen_eq] at h1
    have := ((waysW_is hg _ 64 (by omega) _ _ (by omega)).1 h1).2.2.1
    exact this.way
  · rintro ⟨n, hn⟩ h
    obtain ⟨s, hs⟩ := cycle_least hg 64 0 n rfl (way_ge0 hn)
    obtain ⟨r, hr⟩ := wk_of_way hs
    obtain ⟨r', h1, h2⟩ := wk_short hg s s r hr
    have hs64 := hs.way.right hg
    have h3 := waysW_le_of hg s s r' h1 h2
    have h4 := hi.1 s hs64
    rw [ringLen_eq] at h4
    omega

/-- Each node stands behind all to whom it has edges. -/
def Behind (g : List Nat) (out : List Nat) : Prop := ∀ i, i < out.length → ∀ k, Edge g (gAt out i) k → k ∈ out.take i

theorem Behind.snoc {g : List Nat} {out : List Nat} (h : Behind g out) (x : Nat) (hx : ∀ k, Edge g x k → k ∈ out) : Behind g (out ++ [x]) := by
  intro i hi k hk
  by_cases e : i < out.length
  · rw [gAt_app_lt _ _ _ e] at hk
    rw [List.take_append_of_le_length (by omega)]
    exact h i e k hk
  · have : i = out.length := by simp at hi; omega
    subst this
    rw [gAt_app_last] at hk
    rw [List.take_left]
    exact hx k hk

theorem free_is {g : List Nat} (hg : WfG g) (out : List Nat) (d n : Nat) (hd : d < 2 ^ 64) (hdo : ∀ k, d.testBit k = true ↔ k ∈ out) : free g d n = true ↔ ∀ k, Edge g n k → k ∈ out := by
  rw [free_eq, beq_iff_eq]
  constructor
  · intro h1 k hk
    have h2 := minus_bit (gAt g n) d (hg.lt n) hd k
    unfold Edge at hk
    rw [h1, Nat.zero_testBit, hk, Bool.true_and] at h2
    apply (hdo _).1
    cases hc : d.testBit k
    · rw [hc] at h2; simp at h2
    · rfl
  · intro h1
    apply Nat.eq_of_testBit_eq
    intro j
    rw [minus_bit _ _ (hg.lt n) hd, Nat.zero_testBit]
    cases hj : (gAt g n).testBit j
    · rfl
    · rw [(hdo j).2 (h1 j hj)]; rfl

/-- What holds of what 'Order' reckons. -/
def OrdFacts (g : List Nat) (A : List Nat) : Option (List Nat) → Prop
  | some r => Behind g r ∧ ∀ x ∈ A, x ∈ r
  | none => ∃ S : List Nat, S ≠ [] ∧ ∀ x ∈ S, ∃ k, Edge g x k ∧ (k ∈ A → k ∈ S)

theorem order_facts_go {g : List Nat} (hg : WfG g) (A : List Nat) (hA : A.Nodup) (hA64 : ∀ x ∈ A, x < 64) (f : Nat) : ∀ (out : List Nat) (d fuel : Nat), (leftOf A out).length = f → f ≤ fuel → d < 2 ^ 64 → (∀ k, d.testBit k = true ↔ k ∈ out) → Behind g out →
    OrdFacts g A (orderGo g fuel (leftOf A out) d out) := by
  induction f with
  | zero =>
    intro out d fuel hf _ _ _ hB
    have h0 := List.length_eq_zero_iff.1 hf
    rw [h0, orderGo_done]
    refine ⟨hB, fun x hx => ?_⟩
    by_cases hc : x ∈ out
    · exact hc
    · exfalso
      have : x ∈ leftOf A out := by
        unfold leftOf
        rw [List.mem_filter]
        refine ⟨hx, ?_⟩
        rw [Bool.not_eq_true', Bool.eq_false_iff, Ne, hasN_iff]; exact hc
      rw [h0] at this; simp at this
  | succ f ih =>
    intro out d fuel hf hfu hd hdo hB
    obtain ⟨fuel, rfl⟩ : ∃ k, fuel = k + 1 := ⟨fuel - 1, by omega⟩
    have hne : leftOf A out ≠ [] := by
      intro e; rw [e] at hf; simp at hf
    rcases idxOf_cases (free g d) (leftOf A out) with ⟨h1, h2⟩ | ⟨j, hj, h1, h2, h3, h4⟩
    · rw [orderGo_none _ _ _ _ _ hne (by omega)]
      refine ⟨leftOf A out, hne, fun x hx => ?_⟩
      rw [List.find?_eq_none] at h2
      have hf := h2 x hx
      rw [free_is hg out d x hd hdo] at hf
      simp only [Classical.not_forall] at hf
      obtain ⟨k, hk, hko⟩ := hf
      refine ⟨k, hk, fun hkA => ?_⟩
      unfold leftOf
      rw [List.mem_filter]
      refine ⟨hkA, ?_⟩
      rw [Bool.not_eq_true', Bool.eq_false_iff, Ne, hasN_iff]; exact hko
    · rw [orderGo_step _ _ _ _ _ _ hne h1]
      generalize hx : gAt (leftOf A out) j = x at *
      have hnd : (leftOf A out).Nodup := by unfold leftOf; exact List.Pairwise.filter _ hA
      have hxm : x ∈ leftOf A out := by rw [← hx]; exact gAt_mem _ j hj
      have hxA : x ∈ A := by unfold leftOf at hxm; exact (List.mem_filter.1 hxm).1
      have her : (leftOf A out).eraseIdx j = leftOf A (out ++ [x]) := by
        rw [erase_filter _ hnd j hj, hx, leftOf_snoc]
      have hlen : (leftOf A (out ++ [x])).length = f := by
        rw [← her, List.length_eraseIdx, if_pos hj]; omega
      rw [her]
      exact ih (out ++ [x]) _ fuel hlen (by omega) (Nat.or_lt_two_pow hd (Nat.pow_lt_pow_right (by omega) (hA64 x hxA))) (fun k => by
        rw [Nat.testBit_or, Nat.testBit_two_pow, Bool.or_eq_true, hdo k, decide_eq_true_eq, List.mem_append, List.mem_singleton]
        constructor
        · rintro (h | h); exact .inl h; exact .inr h.symm
        · rintro (h | h); exact .inl h; exact .inr h.symm) (hB.snoc x ((free_is hg out d x hd hdo).1 h4))

theorem order_facts {g : List Nat} (hg : WfG g) : OrdFacts g (bitsOf (allTo g 64)) (orderF g) := by
  have hnd : (bitsOf (allTo g 64)).Nodup := by unfold bitsOf; exact List.Pairwise.filter _ List.nodup_range
  have h64 : ∀ x ∈ bitsOf (allTo g 64), x < 64 := by
    intro x hx
    exact bit_lt (allTo_lt hg 64 (Nat.le_refl _)) ((mem_bitsOf (allTo_lt hg 64 (Nat.le_refl _))).1 hx)
  have hl0 : leftOf (bitsOf (allTo g 64)) [] = bitsOf (allTo g 64) := by
    unfold leftOf
    rw [List.filter_eq_self]
    intro x _
    rw [hasN_eq]; rfl
  have := order_facts_go hg _ hnd h64 _ [] 0 64 rfl (by rw [hl0]; exact bitsOf_len _) (Nat.two_pow_pos 64) (fun k => by simp) (fun i hi => by simp at hi)
  rw [hl0] at this
  rw [orderF_eq]; exact this

theorem all_mem {g : List Nat} (hg : WfG g) {a b : Nat} (h : Edge g a b) : a ∈ bitsOf (allTo g 64) ∧ b ∈ bitsOf (allTo g 64) := by
  rw [mem_bitsOf (allTo_lt hg 64 (Nat.le_refl _)), mem_bitsOf (allTo_lt hg 64 (Nat.le_refl _)), allTo_bit, allTo_bit]
  exact ⟨⟨a, h.left hg, .inr ⟨rfl, ne_zero_bit.2 ⟨b, h⟩⟩⟩, ⟨a, h.left hg, .inl h⟩⟩

/-- A stuck set holds a ring. -/
theorem stuck_ring {g : List Nat} (hg : WfG g) (S : List Nat) (h0 : S ≠ []) (hS : ∀ x ∈ S, ∃ k, Edge g x k ∧ k ∈ S) : ∃ n, Way g n n := by
  by_cases hc : ∃ n, Way g n n
  · exact hc
  · exfalso
    have key : ∀ m x, x ∈ S → ((List.range 64).filter (fun k => @decide (Way g x k) (Classical.propDecidable _))).length = m → False := by
      intro m
      induction m using Nat.strongRecOn with
      | ind m ih =>
        intro x hx hm
        obtain ⟨k, hk, hkS⟩ := hS x hx
        have hlt := filter_len_lt (p := fun j => @decide (Way g k j) (Classical.propDecidable _)) (q := fun j => @decide (Way g x j) (Classical.propDecidable _)) (List.range 64)
          (fun j _ hj => by
            have hj' := @of_decide_eq_true _ (Classical.propDecidable _) hj
            exact @decide_eq_true _ (Classical.propDecidable _) (edge_way hk hj'))
          k (List.mem_range.2 (hk.right hg)) (@decide_eq_false _ (Classical.propDecidable _) (fun h => hc ⟨k, h⟩)) (@decide_eq_true _ (Classical.propDecidable _) (.single hk))
        exact ih _ (by omega) k hkS rfl
    obtain ⟨x, hx⟩ := List.exists_mem_of_ne_nil S h0
    exact key _ x hx rfl

theorem order_none {g : List Nat} (hg : WfG g) (h : orderF g = none) : ∃ n, Way g n n := by
  have hf := order_facts hg
  rw [h] at hf
  obtain ⟨S, h0, hS⟩ := hf
  refine stuck_ring hg S h0 (fun x hx => ?_)
  obtain ⟨k, hk, hkS⟩ := hS x hx
  exact ⟨k, hk, hkS (all_mem hg hk).2⟩

theorem order_some {g : List Nat} (hg : WfG g) (r : List Nat) (h : orderF g = some r) : Behind g r ∧ ¬ ∃ n, Way g n n := by
  have hf := order_facts hg
  rw [h] at hf
  obtain ⟨hB, hall⟩ := hf
  refine ⟨hB, ?_⟩
  rintro ⟨n, hn⟩
  -- whoever a way leads to stands ahead
  have key : ∀ i a b, Way g a b → a ∈ r.take i → b ∈ r.take i ∧ ∃ j, j < i ∧ b ∈ r.take j := by
    intro i a b hw
    induction hw with
    | single he =>
      intro ha
      obtain ⟨j, hj, e⟩ := gAt_of_mem ha
      have hji : j < i := by rw [List.length_take] at hj; omega
      have hjr : j < r.length := by rw [List.length_take] at hj; omega
      have e2 : gAt r j = a := by rw [← e]; simp [gAt, hji]
      have hb := hB j hjr _ (by rw [e2]; exact he)
      exact ⟨(List.take_subset_take_left r (by omega)) hb, j, hji, hb⟩
    | @tail b' c' _ he ih =>
      intro ha
      have ha2 := (ih ha).1
      obtain ⟨j, hj, e⟩ := gAt_of_mem ha2
      have hji : j < i := by rw [List.length_take] at hj; omega
      have hjr : j < r.length := by rw [List.length_take] at hj; omega
      have e2 : gAt r j = b' := by rw [← e]; simp [gAt, hji]
      have hb := hB j hjr _ (by rw [e2]; exact he)
      exact ⟨(List.take_subset_take_left r (by omega)) hb, j, hji, hb⟩
  have hnr : n ∈ r := by
    have : ∃ b, Edge g b n := by
      cases hn with
      | single h1 => exact ⟨_, h1⟩
      | tail _ h1 => exact ⟨_, h1⟩
    obtain ⟨b, hb⟩ := this
    exact hall n (all_mem hg hb).2
  have down : ∀ i, n ∈ r.take i → False := by
    intro i
    induction i using Nat.strongRecOn with
    | ind i ih =>
      intro hi
      obtain ⟨_, j, hj, hj2⟩ := key i n n hn hi
      exact ih j hj hj2
  exact down r.length (by rw [List.take_length]; exact hnr)
end Go.Proofs.YtiililidehddmaaDoor
