import Derived.Test.YtiililidehddmaaDoorC1
namespace Go.Proofs.YtiililidehddmaaDoor
open Go.RowKit

set_option maxHeartbeats 400000 in
theorem far_any (base : Option Addr) (n cap : Nat) (w : World) (hn : n ≤ 1099511627776) : Calls Tryd.prog 6 #[.slice base n cap] w fun e w' => e = .returned (.bool (decide (14 < n))) ∧ w = w' := by
  by_cases h : 14 < n
  · go_enter Tryd.func6, Tryd.ntmps6
    go_wp2
    go_ret
    exact ⟨by simp; omega, rfl⟩
  · go_enter Tryd.func6, Tryd.ntmps6
    go_wp2
    go_ret
    exact ⟨by simp; omega, rfl⟩

/-- Are two lists the same? -/
@[irreducible] def sameL (A B : List Nat) : Bool := A == B
theorem sameL_eq (A B : List Nat) : sameL A B = (A == B) := by unfold sameL; rfl
theorem sameL_self (A : List Nat) : sameL A A = true := by rw [sameL_eq]; simp
theorem sameL_len {A B : List Nat} (h : A.length ≠ B.length) : sameL A B = false := by
  rw [sameL_eq, beq_eq_false_iff_ne]; intro e; exact h (by rw [e])
theorem sameL_at {A B : List Nat} {i : Nat} (h : gAt A i ≠ gAt B i) : sameL A B = false := by
  rw [sameL_eq, beq_eq_false_iff_ne]; intro e; exact h (by rw [e])
theorem sameL_all {A B : List Nat} (hl : A.length = B.length) (h : ∀ i, i < A.length → gAt A i = gAt B i) : sameL A B = true := by
  rw [sameL_eq, beq_iff_eq]
  apply List.ext_getElem hl
  intro i h1 h2
  have := h i h1
  simpa [gAt, h1, h2] using this

set_option maxHeartbeats 1000000 in
theorem same_any (A B : List Nat) (a b : Option Addr) (ca cb M N : Nat) (w : World) (hA : Reads w M a A) (hB : Reads w N b B) (hl : A.length ≤ 1099511627776) :
    Calls Tryd.prog 12 #[.slice a A.length ca, .slice b B.length cb] w fun e w' => e = .returned (.bool (sameL A B)) ∧ Below w.heap.size w w' := by
  by_cases hne : A.length = B.length
  · have b0 : ((A.length : Int) != (B.length : Int)) = false := by rw [bne_eq_false_iff_eq]; omega
    have Hne := Lib.hid hne; clear hne
    go_enter Tryd.func12, Tryd.ntmps12
    go_wp2_with fail
    go_loopw [5, 13] (fun _ i wr => ∃ k : Nat, k ≤ A.length ∧ i = .int .i64 k ∧ Below w.heap.size w wr ∧ Hid (∀ i, i < k → gAt A i = gAt B i)) (fun _ i _ => A.length - (intOf i).toNat)
    case atStart => exact ⟨0, by omega, rfl, Below.refl _ _, fun i hi => by omega⟩
    case round =>
      obtain ⟨k, hk, rfl, hb, hs⟩ := hrel
      by_cases hlt : k < A.length
      · have hlt2 : k < B.length := by rw [← Hne.out]; exact hlt
        obtain ⟨b1, ha1, _, c1⟩ := (hA.mono hb) k hlt
        obtain ⟨b2, ha2, _, c2⟩ := (hB.mono hb) k hlt2
        subst ha1 ha2
        by_cases e : gAt A k = gAt B k
        · have t1 : (((gAt A k : Nat) : Int) != ((gAt B k : Nat) : Int)) = false := by rw [bne_eq_false_iff_eq]; omega
          have Hs := Lib.hid (show ∀ i, i < k + 1 → gAt A i = gAt B i from fun i hi => by
            by_cases e2 : i = k
            · rw [e2]; exact e
            · exact hs.out i (by omega))
          clear e
          go_wp2_with fail
          go_quiet (fail)
          go_wp2
          go_roundw
          case rel => exact ⟨k + 1, by omega, by go_num, below_drewN hb _, Hs.out⟩
          case measure => simp [intOf]; omega
        · have t1 : (((gAt A k : Nat) : Int) != ((gAt B k : Nat) : Int)) = true := by rw [bne_iff_ne]; omega
          have He := Lib.hid (sameL_at e); clear e
          go_wp2_with fail
          go_quiet (fail)
          go_wp2
          go_ret
          exact ⟨by rw [He.out]; rfl, below_drewN hb _⟩
      · have He := Lib.hid (sameL_all Hne.out (fun i hi => hs.out i (by omega)))
        go_wp2
        go_ret
        exact ⟨by rw [He.out]; rfl, hb⟩
  · have b0 : ((A.length : Int) != (B.length : Int)) = true := by rw [bne_iff_ne]; omega
    have He := Lib.hid (sameL_len hne); clear hne
    go_enter Tryd.func12, Tryd.ntmps12
    go_wp2
    go_ret
    exact ⟨by rw [He.out]; rfl, Below.refl _ _⟩

/-- Is a number in a list? -/
@[irreducible] def hasN (L : List Nat) (n : Int) : Bool := L.any fun x => (x : Int) == n
theorem hasN_eq (L : List Nat) (n : Int) : hasN L n = L.any fun x => (x : Int) == n := by unfold hasN; rfl
theorem hasN_iff (L : List Nat) (n : Nat) : hasN L (n : Int) = true ↔ n ∈ L := by
  rw [hasN_eq, List.any_eq_true]
  constructor
  · rintro ⟨x, hx, e⟩
    rw [beq_iff_eq] at e
    have : x = n := by omega
    rw [← this]; exact hx
  · intro h; exact ⟨n, h, by simp⟩
theorem hasN_no (L : List Nat) (n : Int) (h : ∀ i, i < L.length → ((gAt L i : Int) == n) = false) : hasN L n = false := by
  rw [hasN_eq, List.any_eq_false]
  intro x hx
  obtain ⟨i, hi, rfl⟩ := gAt_of_mem hx
  rw [h i hi]; simp
theorem hasN_yes (L : List Nat) (n : Int) (i : Nat) (hi : i < L.length) (h : ((gAt L i : Int) == n) = true) : hasN L n = true := by
  rw [hasN_eq, List.any_eq_true]
  exact ⟨gAt L i, gAt_mem L i hi, h⟩

set_option maxHeartbeats 1000000 in
theorem has_list (L : List Nat) (n : Int) (a : Option Addr) (ca M : Nat) (w : World) (hL : Reads w M a L) (hl : L.length ≤ 1099511627776) :
    Calls Tryd.prog 29 #[.slice a L.length ca, .int .i64 n] w fun e w' => e = .returned (.bool (hasN L n)) ∧ w = w' := by
  go_enter Tryd.func29, Tryd.ntmps29
  go_wp2_with fail
  go_loop [5] (fun i => ∃ k : Nat, k ≤ L.length ∧ i = .int .i64 k ∧ Hid (∀ i, i < k → ((gAt L i : Int) == n) = false)) (fun i => L.length - (intOf i).toNat)
  case atStart => exact ⟨0, by omega, rfl, fun i hi => by omega⟩
  case round =>
    obtain ⟨k, hk, rfl, hs⟩ := hrel
    by_cases hlt : k < L.length
    · obtain ⟨b1, ha1, _, c1⟩ := hL k hlt
      subst ha1
      by_cases e : ((gAt L k : Int) == n) = true
      · have He := Lib.hid (hasN_yes L n k hlt e)
        go_wp2
        go_ret
        exact ⟨by rw [He.out]; rfl, rfl⟩
      · have e' : ((gAt L k : Int) == n) = false := by simpa using e
        clear e
        have Hs := Lib.hid (show ∀ i, i < k + 1 → ((gAt L i : Int) == n) = false from fun i hi => by
          by_cases e2 : i = k
          · rw [e2]; exact e'
          · exact hs.out i (by omega))
        go_wp2
        go_round
        case rel => exact ⟨k + 1, by omega, by go_num, Hs.out⟩
        case measure => simp [intOf]; omega
    · have He := Lib.hid (hasN_no L n (fun i hi => hs.out i (by omega)))
      go_wp2
      go_ret
      exact ⟨by rw [He.out]; rfl, rfl⟩
end Go.Proofs.YtiililidehddmaaDoor
