import Derived.Test.YtiililidehddmaaDoorG0
namespace Go.Proofs.YtiililidehddmaaDoor
/- Plain: the shortest ring, joined. -/

theorem gAt_app_lt (l : List Nat) (x i : Nat) (hi : i < l.length) : gAt (l ++ [x]) i = gAt l i := by
  unfold gAt; rw [List.getD_eq_getElem?_getD, List.getD_eq_getElem?_getD, List.getElem?_append_left hi]
theorem gAt_app_last (l : List Nat) (x : Nat) : gAt (l ++ [x]) l.length = x := by
  unfold gAt; simp

theorem hi_filter (x s : Nat) : bitsOf (hiOf x s) = (bitsOf x).filter (fun k => decide (s ≤ k)) := by
  unfold bitsOf
  rw [List.filter_filter]
  apply List.filter_congr
  intro k _
  rw [hiOf_bit]

/-- What the ring's search keeps: each node's distance. -/
structure RLine (g : List Nat) (s m : Nat) (l : List Nat) : Prop where
  pos : 0 < l.length
  first : gAt l 0 = s
  lt : ∀ i, i < l.length → gAt l i < 64
  far : ∀ i, i < l.length → s ≤ gAt l i ∧ waysW g s 64 (gAt l i) = m - i
  le : l.length ≤ m
  m64 : m ≤ 64

theorem RLine.next {g : List Nat} {s m : Nat} {l : List Nat} (h : RLine g s m l) {k : Nat} (hk : s ≤ k) (hk64 : k < 64) (hl : l.length < m) (hw : waysW g s 64 k = m - l.length) : RLine g s m (l ++ [k]) where
  pos := by simp
  first := by rw [gAt_app_lt _ _ _ h.pos]; exact h.first
  lt := fun i hi => by
    by_cases e : i < l.length
    · rw [gAt_app_lt _ _ _ e]; exact h.lt i e
    · have : i = l.length := by simp at hi; omega
      rw [this, gAt_app_last]; exact hk64
  far := fun i hi => by
    by_cases e : i < l.length
    · rw [gAt_app_lt _ _ _ e]; exact h.far i e
    · have : i = l.length := by simp at hi; omega
      rw [this, gAt_app_last]; exact ⟨hk, hw⟩
  le := by simp; omega
  m64 := h.m64

theorem RLine.new {g : List Nat} {s m : Nat} {l : List Nat} (h : RLine g s m l) {x : Nat} (hw : waysW g s 64 x = m - l.length) (hl : l.length < m) : hasN l (x : Int) = false := by
  rw [Bool.eq_false_iff, Ne, hasN_iff]
  intro hm
  obtain ⟨i, hi, e⟩ := gAt_of_mem hm
  have h1 := (h.far i hi).2
  rw [e, hw] at h1
  omega

theorem ringGo_hit (g : List Nat) (s best f a k : Nat) (l : List Nat) (h : l.length < best) (hf : (bitsOf (hiOf (gAt g a) s)).find? (nextOk g s (best - l.length)) = some k) :
    ringGo g s best (f + 1) a l = ringGo g s best f k (l ++ [k]) := by
  rw [ringGo, if_pos h, hf]

section
variable {g : List Nat} {E : List (Int × Int)} (h : Link g E)
include h

/-- The same search, in one list of nodes. -/
theorem Link.pick (s m f : Nat) (l : List Nat) (hl : RLine g s m l) (hm : m = l.length + (f + 1)) (fuel : Nat)
    (ih : ∀ k, s ≤ k → k < 64 → waysW g s 64 k = m - l.length → rLong E f (l ++ [k]) = some (ringGo g s m fuel k (l ++ [k])))
    (N : List Nat) (hN : ∀ x ∈ N, Edge g (gAt l (l.length - 1)) x) :
    N.findSome? (tryOn (rLong E f) l) = ((N.filter (fun k => decide (s ≤ k))).find? (nextOk g s (m - l.length))).map fun k => ringGo g s m fuel k (l ++ [k]) := by
  induction N with
  | nil => rfl
  | cons x N ihN =>
    have ihN' := ihN (fun y hy => hN y (by simp [hy]))
    have hx := hN x (by simp)
    have hx64 := hx.right h.wf
    have hlast := hl.far (l.length - 1) (by have := hl.pos; omega)
    by_cases hs : s ≤ x
    · rw [List.filter_cons_of_pos (by simpa using hs)]
      by_cases hok : nextOk g s (m - l.length) x = true
      · rw [List.find?_cons_of_pos hok]
        simp only [nextOk, Bool.and_eq_true, bne_iff_ne, beq_iff_eq] at hok
        obtain ⟨h1, h2⟩ := hok
        have hnew := hl.new (x := x) h2 (by omega)
        rw [List.findSome?_cons]
        have e : tryOn (rLong E f) l x = some (ringGo g s m fuel x (l ++ [x])) := by
          unfold tryOn
          rw [if_pos ⟨by rw [hl.first]; omega, hnew⟩, ih x hs hx64 h2]
        rw [e]; rfl
      · rw [List.find?_cons_of_neg hok, ← ihN', List.findSome?_cons]
        have e : tryOn (rLong E f) l x = none := by
          rcases he : tryOn (rLong E f) l x with _ | out
          · rfl
          · exfalso
            unfold tryOn at he
            split at he
            · rename_i hc
              rw [hl.first] at hc
              have hwk := h.long_wk f (l ++ [x]) out (by simp) (fun i hi => by
                by_cases e : i < l.length
                · rw [gAt_app_lt _ _ _ e]; exact hl.lt i e
                · have : i = l.length := by simp at hi; omega
                  rw [this, gAt_app_last]; exact hx64) (by rw [gAt_app_lt _ _ _ hl.pos, hl.first, show (l ++ [x]).length - 1 = l.length from by simp, gAt_app_last]; omega) he
              rw [gAt_app_lt _ _ _ hl.pos, hl.first, show (l ++ [x]).length - 1 = l.length from by simp, gAt_app_last] at hwk
              have hm64 := hl.m64
              have hle := waysW_le_of h.wf s x (f + 1) (by omega) hwk
              apply hok
              simp only [nextOk, Bool.and_eq_true, bne_iff_ne, beq_iff_eq]
              refine ⟨by omega, ?_⟩
              rcases Nat.lt_or_ge (waysW g s 64 x) (m - l.length) with hlt | hge
              · exfalso
                have hr := waysW_range g s 64 x
                have hw' := ((waysW_is h.wf s 64 (by omega) x (waysW g s 64 x) (by omega)).1 rfl).2.2.1
                have hw2 : Wk g s (waysW g s 64 x + 1) (gAt l (l.length - 1)) := ⟨hlast.1, .inr ⟨x, hc.1, hx, hw'⟩⟩
                have := waysW_le_of h.wf s _ _ (by omega) hw2
                have hpos := hl.pos
                omega
              · omega
            · exact absurd he (by simp)
        rw [e]
    · rw [List.filter_cons_of_neg (by simpa using hs), ← ihN', List.findSome?_cons]
      have e : tryOn (rLong E f) l x = none := by
        unfold tryOn
        rw [if_neg]
        rw [hl.first]
        omega
      rw [e]

theorem Link.long_is (s m : Nat) (f : Nat) : ∀ (l : List Nat), RLine g s m l → m = l.length + f → ∀ fuel, f ≤ fuel → rLong E f l = some (ringGo g s m fuel (gAt l (l.length - 1)) l) := by
  induction f with
  | zero =>
    intro l hl hm fuel hf
    have hpos := hl.pos
    have hm64 := hl.m64
    obtain ⟨h1, h2⟩ := hl.far (l.length - 1) (by omega)
    have hwk := ((waysW_is h.wf s 64 (by omega) _ _ (by omega)).1 h2).2.2.1
    rw [show m - (l.length - 1) = 0 + 1 from by omega] at hwk
    have he : Edge g (gAt l (l.length - 1)) s := by
      rcases hwk.2 with ⟨_, he⟩ | ⟨k, _, _, hk⟩
      · exact he
      · exact hk.elim
    rw [rLong_zero, if_pos (by rw [hl.first]; exact (h.rhas _ _).2 he), ringGo_stop _ _ _ _ _ _ (by omega)]
  | succ f ih =>
    intro l hl hm fuel hf
    obtain ⟨fuel, rfl⟩ : ∃ k, fuel = k + 1 := ⟨fuel - 1, by omega⟩
    have hpos := hl.pos
    have hm64 := hl.m64
    have hlast64 := hl.lt (l.length - 1) (by omega)
    obtain ⟨h1, h2⟩ := hl.far (l.length - 1) (by omega)
    have hpick := h.pick s m f l hl (by omega) fuel (fun k hk hk64 hw => by
      have := ih (l ++ [k]) (hl.next hk hk64 (by omega) hw) (by simp; omega) fuel (by omega)
      rwa [show (l ++ [k]).length - 1 = l.length from by simp, gAt_app_last] at this)
      (bitsOf (gAt g (gAt l (l.length - 1)))) (fun x hx => (mem_bitsOf (h.wf.lt _)).1 hx)
    rw [rLong_succ, h.rnext _ hlast64, hpick, ← hi_filter]
    have hwk := ((waysW_is h.wf s 64 (by omega) _ _ (by omega)).1 h2).2.2.1
    rw [show m - (l.length - 1) = (f + 1) + 1 from by omega] at hwk
    have hex : ∃ k, k ∈ bitsOf (hiOf (gAt g (gAt l (l.length - 1))) s) ∧ nextOk g s (m - l.length) k = true := by
      rcases hwk.2 with ⟨h0, _⟩ | ⟨k, k1, k2, k3⟩
      · omega
      · refine ⟨k, (mem_hi h.wf s _ k).2 ⟨by omega, k2⟩, ?_⟩
        simp only [nextOk, Bool.and_eq_true, bne_iff_ne, beq_iff_eq]
        refine ⟨by omega, ?_⟩
        have hle := waysW_le_of h.wf s k (f + 1) (by omega) k3
        have hr := waysW_range g s 64 k
        rcases Nat.lt_or_ge (waysW g s 64 k) (m - l.length) with hlt | hge
        · exfalso
          have hw' := ((waysW_is h.wf s 64 (by omega) k (waysW g s 64 k) (by omega)).1 rfl).2.2.1
          have hw2 : Wk g s (waysW g s 64 k + 1) (gAt l (l.length - 1)) := ⟨h1, .inr ⟨k, k1, k2, hw'⟩⟩
          have := waysW_le_of h.wf s _ _ (by omega) hw2
          omega
        · omega
    cases hf2 : (bitsOf (hiOf (gAt g (gAt l (l.length - 1))) s)).find? (nextOk g s (m - l.length)) with
    | none =>
      exfalso
      obtain ⟨k, k1, k2⟩ := hex
      rw [List.find?_eq_none] at hf2
      exact hf2 k k1 k2
    | some k =>
      rw [Option.map_some, ringGo_hit _ _ _ _ _ _ _ (by omega) hf2]

end

theorem bestTo_is (g : List Nat) (k : Nat) : (∀ s, s < k → (bestTo g k).1 ≤ ringLen g s) ∧ ((bestTo g k).1 < 65 → ringLen g (bestTo g k).2 = (bestTo g k).1 ∧ ∀ s, s < (bestTo g k).2 → (bestTo g k).1 < ringLen g s) := by
  induction k with
  | zero => rw [bestTo_zero]; exact ⟨fun s hs => by omega, fun h => by simp at h⟩
  | succ k ih =>
    have hb := bestTo_le g k
    rw [bestTo_succ]
    split
    · rename_i hlt
      refine ⟨fun s hs => ?_, fun _ => ⟨rfl, fun s hs => ?_⟩⟩
      · dsimp only
        by_cases e : s = k
        · rw [e]; exact Nat.le_refl _
        · have := ih.1 s (by omega); omega
      · dsimp only at hs ⊢
        have := ih.1 s (by omega); omega
    · rename_i hlt
      refine ⟨fun s hs => ?_, ih.2⟩
      by_cases e : s = k
      · rw [e]; omega
      · exact ih.1 s (by omega)



/-- Lists that hold 1 .. m are that long. -/
theorem len_of_all (m : Nat) : ∀ (L : List Nat), (∀ d, 1 ≤ d → d ≤ m → d ∈ L) → m ≤ L.length := by
  induction m with
  | zero => intro L _; omega
  | succ m ih =>
    intro L hL
    have hm := hL (m + 1) (by omega) (by omega)
    have := ih (L.erase (m + 1)) (fun d h1 h2 => (List.mem_erase_of_ne (by omega)).2 (hL d h1 (by omega)))
    rw [List.length_erase_of_mem hm] at this
    have hpos : 0 < L.length := List.length_pos_of_mem hm
    omega

/-- On a shortest way back the node that is d edges away is no nearer. -/
theorem Wk.dist {g : List Nat} (hg : WfG g) (s : Nat) : ∀ r n, r ≤ 64 → waysW g s 64 n = r → ∀ d, 1 ≤ d → d ≤ r → ∃ x y, Edge g x y ∧ waysW g s 64 x = d := by
  intro r
  induction r with
  | zero => intro n hr hw d h1 h2; omega
  | succ r ih =>
    intro n hr hw d h1 h2
    obtain ⟨_, _, h3, h4⟩ := (waysW_is hg s 64 (by omega) n (r + 1) hr).1 hw
    by_cases e : d = r + 1
    · subst e
      rcases h3.2 with ⟨_, he⟩ | ⟨k, _, he, _⟩
      · exact ⟨n, s, he, hw⟩
      · exact ⟨n, k, he, hw⟩
    · rcases h3.2 with ⟨h0, _⟩ | ⟨k, k1, he, hk⟩
      · omega
      · refine ih k (by omega) ?_ d h1 (by omega)
        refine (waysW_is hg s 64 (by omega) k r (by omega)).2 ⟨by omega, by omega, hk, fun r' hr' hw' => ?_⟩
        exact h4 (r' + 1) (by omega) ⟨h3.1, .inr ⟨k, k1, he, hw'⟩⟩

theorem gAt_one (s : Nat) : gAt [s] 0 = s := rfl

theorem RLine.one (g : List Nat) (s m : Nat) (hs : s < 64) (h1 : 1 ≤ m) (hm : m ≤ 64) (hr : ringLen g s = m) : RLine g s m [s] where
  pos := by simp
  first := gAt_one s
  lt := fun i hi => by
    match i, hi with
    | 0, _ => exact hs
  far := fun i hi => by
    match i, hi with
    | 0, _ => rw [gAt_one]; exact ⟨Nat.le_refl _, by rw [← ringLen_eq]; exact hr⟩
  le := h1
  m64 := hm

theorem Link.long_one {g : List Nat} {E : List (Int × Int)} (h : Link g E) (z s : Nat) (hs : s < 64) (hz : z + 1 < ringLen g s) (hz64 : z < 64) : rLong E z [s] = none := by
  rcases he : rLong E z [s] with _ | out
  · rfl
  · exfalso
    have hw := h.long_wk z [s] out (by simp) (fun i hi => by
      match i, hi with
      | 0, _ => exact hs) (Nat.le_refl _) he
    rw [show [s].length - 1 = 0 from rfl, gAt_one] at hw
    have := waysW_le_of h.wf s s (z + 1) (by omega) hw
    rw [ringLen_eq] at hz
    omega

theorem Link.long_best {g : List Nat} {E : List (Int × Int)} (h : Link g E) (s m : Nat) (hs : s < 64) (h1 : 1 ≤ m) (hm : m ≤ 64) (hr : ringLen g s = m) : rLong E (m - 1) [s] = some (ringGo g s m 64 s [s]) := by
  have hL := RLine.one g s m hs h1 hm hr
  have hlast := h.long_is s m (m - 1) [s] hL (by rw [show [s].length = 1 from rfl]; omega) 64 (by omega)
  rwa [show [s].length - 1 = 0 from rfl, gAt_one] at hlast

theorem ringF_none (g : List Nat) (h : (bestTo g 64).1 = 65) : ringF g = [] := by unfold ringF; rw [if_pos h]
theorem ringF_some (g : List Nat) (s m : Nat) (h : (bestTo g 64).1 ≠ 65) (hm : (bestTo g 64).1 = m) (hs : (bestTo g 64).2 = s) : ringF g = ringGo g s m 64 s [s] := by unfold ringF; rw [if_neg h, hm, hs]

theorem ring_same {g : List Nat} {E : List (Int × Int)} (h : Link g E) : ringF g = rRing E := by
  have hb := bestTo_le g 64
  have hi := bestTo_is g 64
  by_cases hm : (bestTo g 64).1 = 65
  · rw [ringF_none g hm]
    symm
    apply rRing_none
    intro z hz
    apply rowRing_none
    intro s hs
    have h1 := hi.1 s hs
    have h2 := ringLen_le g s
    have hz64 : z < 64 := by omega
    by_cases e : z + 1 < ringLen g s
    · exact h.long_one z s hs e hz64
    · omega
  · have hm2 : (bestTo g 64).1 < 65 := by omega
    obtain ⟨h1, h2⟩ := hi.2 hm2
    have hs64 := hb.2.2.2 hm2
    obtain ⟨m, hm3⟩ : ∃ m, (bestTo g 64).1 = m := ⟨_, rfl⟩
    obtain ⟨s, hs3⟩ : ∃ s, (bestTo g 64).2 = s := ⟨_, rfl⟩
    rw [ringF_some g s m hm hm3 hs3]
    rw [hm3] at hm hm2 h1 h2 hb hi
    rw [hs3] at h1 h2 hs64
    have hE : m ≤ E.length := by
      have hl := len_of_all m (E.map fun e => waysW g s 64 e.1.toNat) (fun d d1 d2 => by
        obtain ⟨x, y, hxy, hw⟩ := Wk.dist h.wf s m s (by omega) (by rw [← ringLen_eq, h1]) d d1 d2
        rw [List.mem_map]
        refine ⟨((x : Int), (y : Int)), (h.edge x y (hxy.left h.wf) (hxy.right h.wf)).1 hxy, ?_⟩
        dsimp only
        rw [Int.toNat_natCast]; exact hw)
      rwa [List.length_map] at hl
    have hlast := h.long_best s m hs64 hb.1 (by omega) h1
    symm
    refine rRing_some E (m - 1) (by omega) _ (fun z' hz' => ?_) (rowRing_some E (m - 1) s hs64 _ (fun s' hs' => ?_) hlast)
    · apply rowRing_none
      intro s' hs'
      have := hi.1 s' hs'
      exact h.long_one z' s' hs' (by omega) (by omega)
    · have := h2 s' hs'
      exact h.long_one (m - 1) s' (by omega) (by omega) (by omega)
end Go.Proofs.YtiililidehddmaaDoor
