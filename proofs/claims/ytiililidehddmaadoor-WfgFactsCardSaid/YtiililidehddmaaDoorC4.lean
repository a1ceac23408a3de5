import Derived.Test.YtiililidehddmaaDoorC3
import Derived.Laws.AppendOwnNone
namespace Go.Proofs.YtiililidehddmaaDoor
open Go.RowKit

theorem Tryd.info28 : (Tryd.prog.info? 28).map (fun i => (i.zero, i.size, i.bytes)) = some (some (.agg #[.int .i64 0, .int .i64 0]), 2, 16) := by kernel_rfl

def ecells (E : List (Int × Int)) : List Value := E.flatMap fun e => [.int .i64 e.1, .int .i64 e.2]
theorem ecells_snoc (E : List (Int × Int)) (a b : Int) : ecells (E ++ [(a, b)]) = ecells E ++ [.int .i64 a, .int .i64 b] := by simp [ecells]
theorem ecells_len (E : List (Int × Int)) : (ecells E).length = E.length * 2 := by
  induction E with
  | nil => rfl
  | cons e E ih => show ([_, _] ++ ecells E).length = _; rw [List.length_append, ih]; simp; omega
theorem ecells_at (E : List (Int × Int)) : ∀ i, i < E.length → (ecells E)[i * 2]? = some (.int .i64 (eA E i)) ∧ (ecells E)[i * 2 + 1]? = some (.int .i64 (eB E i)) := by
  induction E with
  | nil => intro i hi; simp at hi
  | cons e E ih =>
    intro i hi
    have h : ecells (e :: E) = .int .i64 e.1 :: .int .i64 e.2 :: ecells E := rfl
    rw [h]
    cases i with
    | zero => simp [eA, eB]
    | succ i =>
      obtain ⟨h1, h2⟩ := ih i (by simpa using hi)
      rw [show (i + 1) * 2 = i * 2 + 1 + 1 from by omega]
      simp only [List.getElem?_cons_succ]
      exact ⟨by rw [h1]; simp [eA], by rw [h2]; simp [eB]⟩
theorem ecells_one (E : List (Int × Int)) : ∀ u ∈ ecells E, u.oneCell' = true := by
  intro u hu
  simp only [ecells, List.mem_flatMap, List.mem_cons, List.not_mem_nil, or_false] at hu
  obtain ⟨e, _, h | h⟩ := hu <;> rw [h] <;> rfl

/-- A reference graph behind a pointer: its slice is nil or its own. -/
structure RG (w : World) (br : Nat) (v : Value) (E : List (Int × Int)) : Prop where
  cell : w.heap[br]? = some (.cells #[v] 26 (0, 0))
  owns : w.ownsRow (br + 1) 28 2 v E.length (ecells E)

theorem RG.rd {w : World} {br : Nat} {v : Value} {E : List (Int × Int)} (h : RG w br v E) : ∃ base cap, v = .slice base E.length cap ∧ RD w br base cap E := by
  have hc : w.cell? ⟨br, 0, none⟩ = some v := by rw [cell_of_row _ _ _ _ _ _ h.cell]; rfl
  rcases h.owns.2 with ⟨rfl, h0⟩ | ⟨b, cap, cur, rfl, _⟩
  · have he : E = [] := List.eq_nil_of_length_eq_zero h0
    subst he
    exact ⟨none, 0, rfl, hc, fun i hi => by simp at hi⟩
  · refine ⟨some ⟨b, 0, none⟩, cap, rfl, hc, fun i hi => ?_⟩
    have hcl := World.ownsRow.cells h.owns (g := b) rfl
    have hadd : ∀ j, (⟨b, 0, none⟩ : Addr).add j = ⟨b, j, none⟩ := fun j => by unfold Addr.add; split <;> simp_all
    obtain ⟨h1, h2⟩ := ecells_at E i hi
    refine ⟨b, 0, rfl, ?_, ?_⟩
    · have := hcl _ _ h1; rw [hadd] at this; rw [Nat.zero_add]; exact this
    · have := hcl _ _ h2; rw [hadd] at this; rw [Nat.zero_add]; exact this

theorem RG.more {w w1 : World} {br : Nat} {v : Value} {E : List (Int × Int)} (h : RG w br v E) (hb : Below w.heap.size w w1) : RG w1 br v E := by
  refine ⟨keeps hb h.cell, h.owns.1, ?_⟩
  rcases h.owns.2 with h2 | ⟨g, cap, cur, hv, hg, hgg, r⟩
  · exact .inl h2
  · exact .inr ⟨g, cap, cur, hv, hg, keeps hb hgg, r⟩

/-- 'append([]Edge(nil), l...)': a copy. -/
theorem app_copy {ops : Array Oper} {rest : List Oper} {o : Oper} {a : Act} {Q : Exit → Act → World → Prop} {w : World} (hgd : o.guard = none) (s x : Operand)
    (ho : o.op = .call { callee := .builtin .append, args := #[s, x], argTypes := #[22, 22] }) {B : Nat} {v : Value} {E : List (Int × Int)}
    (hown : w.ownsRow B 28 2 v E.length (ecells E)) (hs : a.eval s = .slice none 0 0) (hx : a.eval x = v) (hn : E.length ≤ 1099511627776)
    (h : ∀ v' w', w'.ownsRow w.heap.size 28 2 v' E.length (ecells E) → w.grownBy w' none → wpList Tryd.prog ops Q rest (a.put o.dst v') w') :
    wpList Tryd.prog ops Q (o :: rest) a w := by
  obtain ⟨i0, hi, hz0, hz1, hz2⟩ := info_parts Tryd.info28
  have hl := ecells_len E
  rcases hown.2 with ⟨rfl, h0⟩ | ⟨b, cap, cur, rfl, _⟩
  · have he : E = [] := List.eq_nil_of_length_eq_zero h0
    subst he
    exact wpList_append_own_none hgd s x 22 ho w.heap.size 28 i0 2 Tryd.underlying22 hi (.slice none 0 0) 0 [] hs (World.ownsRow_nil _ _ _ _) hx
      (h _ _ (World.ownsRow_nil _ _ _ _) ⟨rfl, rfl, rfl, Nat.le_refl _, fun _ _ _ => rfl⟩)
  · have hcl := World.ownsRow.cells hown (g := b) rfl
    refine wpList_append_own _ hgd s x 22 ho w.heap.size 28 i0 _ 2 16 Tryd.underlying22 hi hz0 hz1 hz2 rfl (by decide) (.slice none 0 0) 0 [] hs (World.ownsRow_nil _ _ _ _) ⟨b, 0, none⟩ E.length cap (ecells E) hx hl hcl (ecells_one E) (by unfold maxLen; omega) (by omega) (Nat.le_refl _) ?_
    intro v' w' h1 h2 _
    rw [Nat.zero_add, List.nil_append] at h1
    exact h v' w' h1 h2
/-- 'append(l, e)' of one edge, l the call's own: e lies in a block just made. -/
theorem app_edge {ops : Array Oper} {rest : List Oper} {o : Oper} {a : Act} {Q : Exit → Act → World → Prop} {w : World} (hgd : o.guard = none) (s x : Operand)
    (ho : o.op = .call { callee := .builtin .append, args := #[s, x], argTypes := #[22, 22] }) {B : Nat} {v : Value} {E : List (Int × Int)}
    (hown : w.ownsRow B 28 2 v E.length (ecells E)) (p q : Int) (hs : a.eval s = v) (hx : a.eval x = .slice (some ⟨w.heap.size, 0, none⟩) 1 1)
    (hn : E.length + 1 ≤ 1099511627776) (hB : B ≤ w.heap.size)
    (h : ∀ v' w', w'.ownsRow B 28 2 v' (E ++ [(p, q)]).length (ecells (E ++ [(p, q)])) → (w.alloc (.cells #[.int .i64 p, .int .i64 q] 28)).grownBy w' v.ownBlock → wpList Tryd.prog ops Q rest (a.put o.dst v') w') :
    wpList Tryd.prog ops Q (o :: rest) a (w.alloc (.cells #[.int .i64 p, .int .i64 q] 28)) := by
  obtain ⟨i0, hi, hz0, hz1, hz2⟩ := info_parts Tryd.info28
  have hl := ecells_len E
  refine wpList_append_own _ hgd s x 22 ho B 28 i0 _ 2 16 Tryd.underlying22 hi hz0 hz1 hz2 rfl (by decide) v E.length (ecells E) hs (hown.alloc _) ⟨w.heap.size, 0, none⟩ 1 1 [.int .i64 p, .int .i64 q] hx rfl
    (cell_two_new _ _ _ _) (by simp [Value.oneCell']) (by unfold maxLen; omega) (by omega) (by simp; omega) ?_
  intro v' w' h1 h2 _
  exact h v' w' (by rw [ecells_snoc, List.length_append]; exact h1) h2

theorem owns_slice {w : World} {B n : Nat} {e : TypeId} {s : Nat} {v : Value} {xs : List Value} (h : w.ownsRow B e s v n xs) : ∃ base cap, v = .slice base n cap := by
  rcases h.2 with ⟨rfl, rfl⟩ | ⟨g, cap, cur, rfl, _⟩
  · exact ⟨none, 0, rfl⟩
  · exact ⟨_, _, rfl⟩

theorem add_keep {w w1 w2 : World} {br : Nat} {v v1 : Value} {o : Obj} {E : List (Int × Int)} (hc : w.heap[br]? = some (.cells #[v] 26 (0, 0))) (h1 : w.grownBy w1 none) (hown1 : w1.ownsRow w.heap.size 28 2 v1 E.length (ecells E))
    (h2 : (w1.alloc o).grownBy w2 v1.ownBlock) : w2.heap[br]? = some (.cells #[v] 26 (0, 0)) ∧ w.grownBy w2 none := by
  have hlt : br < w.heap.size := (Array.getElem?_eq_some_iff.1 hc).1
  have hsz := h1.size
  have hno : ∀ k, k < w.heap.size → some k ≠ v1.ownBlock := fun k hk e => by have := (hown1.lt k e.symm).1; omega
  have hb : ∀ k, k < w.heap.size → w2.heap[k]? = w.heap[k]? := fun k hk =>
    (h2.block k (by simp; omega) (hno k hk)).trans ((Below.heap_alloc _ _ _ (by omega)).trans (h1.block k hk (by simp)))
  exact ⟨(hb br hlt).trans hc, h2.os.trans h1.os, h2.tape.trans h1.tape, h2.output.trans h1.output, Nat.le_trans hsz (Nat.le_trans (by simp) h2.size), fun k hk _ => hb k hk⟩

theorem add_done {w w2 : World} {br : Nat} {v v2 : Value} {E : List (Int × Int)} (hc : w2.heap[br]? = some (.cells #[v] 26 (0, 0))) (hlt : br < w.heap.size) (hg : w.grownBy w2 none) (hown : w2.ownsRow w.heap.size 28 2 v2 E.length (ecells E)) :
    RG (w2.setCell ⟨br, 0, none⟩ v2) br v2 E ∧ w.grownBy (w2.setCell ⟨br, 0, none⟩ v2) (some br) := by
  refine ⟨⟨?_, ?_⟩, G_trans ⟨hg.os, hg.tape, hg.output, hg.size, fun k hk _ => hg.block k hk (by simp)⟩ (G_setCell _ _ _)⟩
  · rw [heap_setCell_same _ _ _ _ _ _ hc]; rfl
  · refine ⟨hown.1, ?_⟩
    rcases hown.2 with h2 | ⟨g, cap, cur, hv, hgb, hgg, r⟩
    · exact .inl h2
    · exact .inr ⟨g, cap, cur, hv, by omega, (heap_setCell_other _ _ _ _ (by show g ≠ br; omega)).trans hgg, r⟩

set_option maxHeartbeats 1000000 in
theorem radd_any (E : List (Int × Int)) (a b : Int) (br : Nat) (v : Value) (w : World) (hR : RG w br v E) (hl : E.length ≤ 1099511627775) :
    Calls Tryd.prog 8 #[.pointer (some ⟨br, 0, none⟩), .int .i64 a, .int .i64 b] w fun e w' => e = .returned (.int .i64 (rErr a b)) ∧ (∃ v', RG w' br v' (rAdd E a b)) ∧ w.grownBy w' (some br) := by
  have hlt : br < w.heap.size := (Array.getElem?_eq_some_iff.1 hR.cell).1
  by_cases ha : nodeB a = true
  · obtain ⟨na, rfl, hna⟩ := nodeB_true ha
    by_cases hb : nodeB b = true
    · obtain ⟨nb, rfl, hnb⟩ := nodeB_true hb
      obtain ⟨base, cap, hv, hrd⟩ := hR.rd
      have He := Lib.hid (show rErr (na : Int) (nb : Int) = 0 by simp [rErr, ha, hb])
      by_cases hq : rHas E na nb = true
      · have Ha := Lib.hid (show rAdd E na nb = E by simp [rAdd, hq])
        go_enter Tryd.func8, Tryd.ntmps8
        go_wp2_with (go_at_call 17; refine (rhas_any E _ _ br cap base _ hrd (by omega)).mono ?_; rintro e w1 ⟨rfl, rfl⟩; rw [hq])
        go_ret
        exact ⟨by rw [He.out]; rfl, ⟨v, by rw [Ha.out]; exact hR⟩, ⟨rfl, rfl, rfl, Nat.le_refl _, fun _ _ _ => rfl⟩⟩
      · have hq' : rHas E na nb = false := by simpa using hq
        clear hq
        have Ha := Lib.hid (show rAdd E na nb = E ++ [((na : Int), (nb : Int))] by simp [rAdd, ha, hb, hq'])
        have hcell : w.cell? ⟨br, 0, none⟩ = some v := by rw [cell_of_row _ _ _ _ _ _ hR.cell]; rfl
        have hl' : E.length ≤ 1099511627776 := by omega
        have Hv := Lib.hid hv; clear hv
        go_enter Tryd.func8, Tryd.ntmps8
        have hown := hR.owns
        have hL1 : E.length + 1 ≤ 1099511627776 := by omega
        go_wp2_with (first | (go_at_call 17; refine (rhas_any E _ _ br cap base _ hrd hl').mono ?_; rintro e w1 ⟨rfl, rfl⟩; rw [hq']) | (at_builtin; refine app_copy rfl _ _ rfl hown rfl rfl hl' ?_; intro v1 w1 hown1 hg1; have hsz1 := hg1.size) | (at_builtin; refine app_edge rfl _ _ rfl hown1 _ _ rfl rfl hL1 hsz1 ?_; intro v2 w2 hown2 hg2; obtain ⟨hk2, hG2⟩ := add_keep hR.cell hg1 hown1 hg2; have hc2 := (cell_of_row _ _ 0 _ _ _ hk2 : w2.cell? ⟨br, 0, none⟩ = some v); obtain ⟨bs2, cp2, rfl⟩ := owns_slice hown2; have hf2 := frozen_of_row _ _ 0 _ _ hk2))
        go_ret
        obtain ⟨hd1, hd2⟩ := add_done hk2 hlt hG2 hown2
        rw [show (E ++ [((na : Int), (nb : Int))]).length = E.length + 1 from by simp] at hd1 hd2
        exact ⟨by rw [He.out]; rfl, ⟨_, by rw [Ha.out]; exact hd1⟩, hd2⟩
    · have hb' : nodeB b = false := by simpa using hb
      have Ha := Lib.hid (show rAdd E na b = E by simp [rAdd, hb'])
      have He := Lib.hid (show rErr (na : Int) b = 1 by simp [rErr, hb'])
      have hG : w.grownBy w (some br) := ⟨rfl, rfl, rfl, Nat.le_refl _, fun _ _ _ => rfl⟩
      have hb2 : b < 0 ∨ 64 ≤ b := by simp [nodeB] at hb'; omega
      clear hb hb'
      rcases hb2 with hb2 | hb2
      · go_enter Tryd.func8, Tryd.ntmps8
        go_wp2
        go_ret
        exact ⟨by rw [He.out]; rfl, ⟨v, by rw [Ha.out]; exact hR⟩, hG⟩
      · go_enter Tryd.func8, Tryd.ntmps8
        go_wp2
        go_ret
        exact ⟨by rw [He.out]; rfl, ⟨v, by rw [Ha.out]; exact hR⟩, hG⟩
  · have ha' : nodeB a = false := by simpa using ha
    have Ha := Lib.hid (show rAdd E a b = E by simp [rAdd, ha'])
    have He := Lib.hid (show rErr a b = 1 by simp [rErr, ha'])
    have hG : w.grownBy w (some br) := ⟨rfl, rfl, rfl, Nat.le_refl _, fun _ _ _ => rfl⟩
    have ha2 : a < 0 ∨ 64 ≤ a := by simp [nodeB] at ha'; omega
    clear ha ha'
    rcases ha2 with ha2 | ha2
    · go_enter Tryd.func8, Tryd.ntmps8
      go_wp2
      go_ret
      exact ⟨by rw [He.out]; rfl, ⟨v, by rw [Ha.out]; exact hR⟩, hG⟩
    · go_enter Tryd.func8, Tryd.ntmps8
      go_wp2
      go_ret
      exact ⟨by rw [He.out]; rfl, ⟨v, by rw [Ha.out]; exact hR⟩, hG⟩
end Go.Proofs.YtiililidehddmaaDoor
