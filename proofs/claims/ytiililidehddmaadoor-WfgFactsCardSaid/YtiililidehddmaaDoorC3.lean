import Derived.Test.YtiililidehddmaaDoorC2
namespace Go.Proofs.YtiililidehddmaaDoor
open Go.RowKit

/-- A reference graph behind a pointer, as its readers see it. -/
structure RD (w : World) (br : Nat) (base : Option Addr) (cap : Nat) (E : List (Int × Int)) : Prop where
  cell : w.cell? ⟨br, 0, none⟩ = some (.slice base E.length cap)
  edges : EdgesAt w base E
theorem RD.more {w w1 : World} {br : Nat} {base : Option Addr} {cap : Nat} {E : List (Int × Int)} (h : RD w br base cap E) (hb : Below w.heap.size w w1) : RD w1 br base cap E :=
  ⟨keeps_cell hb h.cell, h.edges.more hb⟩

set_option maxHeartbeats 1000000 in
theorem rhas_any (E : List (Int × Int)) (a b : Int) (br cap : Nat) (base : Option Addr) (w : World) (hR : RD w br base cap E) (hl : E.length ≤ 1099511627776) :
    Calls Tryd.prog 17 #[.pointer (some ⟨br, 0, none⟩), .int .i64 a, .int .i64 b] w fun e w' => e = .returned (.bool (rHas E a b)) ∧ w = w' := by
  have hc := hR.cell
  go_enter Tryd.func17, Tryd.ntmps17
  go_wp2_with fail
  go_loop [7] (fun i => ∃ k : Nat, k ≤ E.length ∧ i = .int .i64 k ∧ Hid (∀ i, i < k → (eA E i == a && eB E i == b) = false)) (fun i => E.length - (intOf i).toNat)
  case atStart => exact ⟨0, by omega, rfl, fun i hi => by omega⟩
  case round =>
    obtain ⟨k, hk, rfl, hs⟩ := hrel
    by_cases hlt : k < E.length
    · obtain ⟨b1, off, ha1, c1, c2⟩ := hR.edges k hlt
      subst ha1
      by_cases e1 : (eA E k == a) = true
      · by_cases e2 : (eB E k == b) = true
        · have He := Lib.hid (rHas_yes E a b k hlt (by rw [e1, e2]; rfl))
          go_wp2
          go_ret
          exact ⟨by rw [He.out]; rfl, rfl⟩
        · have e2' : (eB E k == b) = false := by simpa using e2
          clear e2
          have Hs := Lib.hid (show ∀ i, i < k + 1 → (eA E i == a && eB E i == b) = false from fun i hi => by
            by_cases e3 : i = k
            · rw [e3, e2']; simp
            · exact hs.out i (by omega))
          go_wp2
          go_round
          case rel => exact ⟨k + 1, by omega, by go_num, Hs.out⟩
          case measure => simp [intOf]; omega
      · have e1' : (eA E k == a) = false := by simpa using e1
        clear e1
        have Hs := Lib.hid (show ∀ i, i < k + 1 → (eA E i == a && eB E i == b) = false from fun i hi => by
          by_cases e3 : i = k
          · rw [e3, e1']; simp
          · exact hs.out i (by omega))
        go_wp2
        go_round
        case rel => exact ⟨k + 1, by omega, by go_num, Hs.out⟩
        case measure => simp [intOf]; omega
    · have He := Lib.hid (rHas_no E a b (fun i hi => hs.out i (by omega)))
      go_wp2
      go_ret
      exact ⟨by rw [He.out]; rfl, rfl⟩

/-- The first k of those of whom something holds. -/
def selTo (p : Nat → Bool) (k : Nat) : List Nat := (List.range k).filter p
theorem selTo_succ (p : Nat → Bool) (k : Nat) : selTo p (k + 1) = if p k then selTo p k ++ [k] else selTo p k := by
  unfold selTo; rw [List.range_succ, List.filter_append]; by_cases h : p k <;> simp [h]
theorem selTo_len (p : Nat → Bool) (k : Nat) : (selTo p k).length ≤ k := by
  unfold selTo; exact Nat.le_trans (List.length_filter_le _ _) (by simp)
attribute [irreducible] selTo

def rNext (E : List (Int × Int)) (a : Int) : List Nat := selTo (fun k => rHas E a (k : Int)) 64

set_option maxHeartbeats 1000000 in
theorem rnext_any (E : List (Int × Int)) (a : Int) (br cap : Nat) (base : Option Addr) (w : World) (hR : RD w br base cap E) (hl : E.length ≤ 1099511627776) :
    Calls Tryd.prog 19 #[.pointer (some ⟨br, 0, none⟩), .int .i64 a] w fun e w' => ∃ v, e = .returned v ∧ w'.ownsRow w.heap.size 3 1 v (rNext E a).length (ints (rNext E a)) ∧ Below w.heap.size w w' := by
  obtain ⟨p, hp⟩ : ∃ p : Nat → Bool, (fun k : Nat => rHas E a (k : Int)) = p := ⟨_, rfl⟩
  have hpk : ∀ k : Nat, rHas E a (k : Int) = p k := fun k => by rw [← hp]
  have Hf := Lib.hid (show rNext E a = selTo p 64 from by unfold rNext; rw [hp])
  have Hp := Lib.hid hpk; clear hp hpk
  go_enter Tryd.func19, Tryd.ntmps19
  go_wp2_with fail
  go_loopw [5, 6] (fun v i wr => ∃ k : Nat, k ≤ 64 ∧ i = .int .i64 k ∧ wr.ownsRow w.heap.size 3 1 v (selTo p k).length (ints (selTo p k)) ∧ Below w.heap.size w wr) (fun _ i _ => 64 - (intOf i).toNat)
  case atStart => exact ⟨0, by omega, rfl, by rw [show selTo p 0 = [] from by unfold selTo; rfl]; exact World.ownsRow_nil _ _ _ _, Below.refl _ _⟩
  case round =>
    obtain ⟨k, hk, rfl, hown, hb⟩ := hrel
    by_cases hlt : k < 64
    · have hR' := hR.more hb
      have hlen := selTo_len p k
      have hz := hb.size
      have hpk := Hp.out k
      by_cases hq : p k = true
      · have Hs := Lib.hid (show selTo p (k + 1) = selTo p k ++ [k] from by rw [selTo_succ, if_pos hq])
        have hL2 : (selTo p k).length + 1 ≤ 1099511627776 := by omega
        have Hq := Lib.hid hpk; clear hpk
        go_wp2_with (first | (go_at_call 17; refine (rhas_any E a _ br cap base _ hR' hl).mono ?_; rintro e w1 ⟨rfl, rfl⟩; rw [Hq.out, hq]) | (at_builtin; refine app_int rfl _ _ rfl hown _ rfl rfl hL2 hz ?_; intro v' w1 hown1 hg1))
        go_roundw
        case rel => exact ⟨k + 1, by omega, by go_num, by rw [Hs.out, ints_snoc, List.length_append]; exact hown1, below_app hb hz hown hg1⟩
        case measure => simp [intOf]; omega
      · have hq' : p k = false := by simpa using hq
        clear hq
        have Hs := Lib.hid (show selTo p (k + 1) = selTo p k from by rw [selTo_succ, if_neg (by rw [hq']; simp)])
        have Hq := Lib.hid hpk; clear hpk
        go_wp2_with (go_at_call 17; refine (rhas_any E a _ br cap base _ hR' hl).mono ?_; rintro e w1 ⟨rfl, rfl⟩; rw [Hq.out, hq'])
        go_roundw
        case rel => exact ⟨k + 1, by omega, by go_num, by rw [Hs.out]; exact hown, hb⟩
        case measure => simp [intOf]; omega
    · have hke := Lib.hid (show k = 64 by omega)
      go_wp2
      go_ret
      exact ⟨_, rfl, by rw [Hf.out, ← hke.out]; exact hown, hb⟩
end Go.Proofs.YtiililidehddmaaDoor
