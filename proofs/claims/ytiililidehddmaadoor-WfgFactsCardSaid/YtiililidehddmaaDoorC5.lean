import Derived.Test.YtiililidehddmaaDoorC4
namespace Go.Proofs.YtiililidehddmaaDoor
open Go.RowKit

/-- Has a node an edge, or leads one to it, of the first j? -/
def touch (E : List (Int × Int)) (k : Nat) : Nat → Bool
  | 0 => false
  | j + 1 => touch E k j || (eA E j == (k : Int) || eB E j == (k : Int))
theorem touch_zero (E : List (Int × Int)) (k : Nat) : touch E k 0 = false := rfl
theorem touch_succ (E : List (Int × Int)) (k j : Nat) : touch E k (j + 1) = (touch E k j || (eA E j == (k : Int) || eB E j == (k : Int))) := rfl
theorem touch_iff (E : List (Int × Int)) (k j : Nat) : touch E k j = true ↔ ∃ i, i < j ∧ (eA E i = k ∨ eB E i = k) := by
  induction j with
  | zero => simp [touch]
  | succ j ih =>
    rw [touch_succ, Bool.or_eq_true, ih, Bool.or_eq_true, beq_iff_eq, beq_iff_eq]
    constructor
    · rintro (⟨i, hi, h⟩ | h)
      · exact ⟨i, by omega, h⟩
      · exact ⟨j, by omega, h⟩
    · rintro ⟨i, hi, h⟩
      by_cases e : i = j
      · subst e; exact .inr h
      · exact .inl ⟨i, by omega, h⟩
attribute [irreducible] touch

def rAll (E : List (Int × Int)) : List Nat := selTo (fun k => touch E k E.length) 64

set_option maxHeartbeats 2000000 in
theorem rall_any (E : List (Int × Int)) (br cap : Nat) (base : Option Addr) (w : World) (hR : RD w br base cap E) (hl : E.length ≤ 1099511627776) :
    Calls Tryd.prog 28 #[.pointer (some ⟨br, 0, none⟩)] w fun e w' => ∃ v, e = .returned v ∧ w'.ownsRow w.heap.size 3 1 v (rAll E).length (ints (rAll E)) ∧ Below w.heap.size w w' := by
  obtain ⟨p, hp⟩ : ∃ p : Nat → Bool, (fun k : Nat => touch E k E.length) = p := ⟨_, rfl⟩
  have hpk : ∀ k : Nat, touch E k E.length = p k := fun k => by rw [← hp]
  have Hf := Lib.hid (show rAll E = selTo p 64 from by unfold rAll; rw [hp])
  have Hp := Lib.hid hpk; clear hp hpk
  go_enter Tryd.func28, Tryd.ntmps28
  go_wp2_with fail
  go_loopw [3, 4, 5, 6] (fun v i _ _ wr => ∃ k : Nat, k ≤ 64 ∧ i = .int .i64 k ∧ wr.ownsRow w.heap.size 3 1 v (selTo p k).length (ints (selTo p k)) ∧ Below w.heap.size w wr) (fun _ i _ _ _ => 64 - (intOf i).toNat)
  case atStart => exact ⟨0, by omega, rfl, by rw [show selTo p 0 = [] from by unfold selTo; rfl]; exact World.ownsRow_nil _ _ _ _, Below.refl _ _⟩
  case round =>
    obtain ⟨k, hk, rfl, hown, hb⟩ := hrel
    by_cases hlt : k < 64
    · have hR' := hR.more hb
      have hlen := selTo_len p k
      have hz := hb.size
      have hc := hR'.cell
      have b0 : decide ((k : Int) < 64) = true := decide_eq_true (by omega)
      go_wp2_with fail
      obtain ⟨wo, hwo⟩ : ∃ wo : World, wo = wr := ⟨_, rfl⟩
      go_loopw [5, 6] (fun t i wi => ∃ j : Nat, j ≤ E.length ∧ i = .int .i64 j ∧ t = .bool (touch E k j) ∧ wi = wo) (fun _ i _ => E.length - (intOf i).toNat)
      case atStart => exact ⟨0, by omega, rfl, by rw [touch_zero], hwo.symm⟩
      case round =>
        obtain ⟨j, hj, rfl, rfl, rfl⟩ := hrel
        subst hwo
        by_cases hlt2 : j < E.length
        · obtain ⟨b1, off, ha1, c1, c2⟩ := hR'.edges j hlt2
          subst ha1
          have hts := touch_succ E k j
          by_cases t1 : touch E k j = true
          · have Hs := Lib.hid (show touch E k (j + 1) = true by rw [hts, t1]; rfl)
            clear hts
            go_wp2
            go_roundw
            case rel => exact ⟨j + 1, by omega, by go_num, by rw [Hs.out], (by first | rfl | trivial)⟩
            case measure => simp [intOf]; omega
          · have t1' : touch E k j = false := by simpa using t1
            clear t1
            by_cases t2 : (eA E j == (k : Int)) = true
            · have Hs := Lib.hid (show touch E k (j + 1) = true by rw [hts, t2]; simp)
              clear hts
              go_wp2
              go_roundw
              case rel => exact ⟨j + 1, by omega, by go_num, by rw [Hs.out], (by first | rfl | trivial)⟩
              case measure => simp [intOf]; omega
            · have t2' : (eA E j == (k : Int)) = false := by simpa using t2
              clear t2
              have Hs := Lib.hid (show touch E k (j + 1) = (eB E j == (k : Int)) by rw [hts, t1', t2']; simp)
              clear hts
              go_wp2
              go_roundw
              case rel => exact ⟨j + 1, by omega, by go_num, by rw [Hs.out], (by first | rfl | trivial)⟩
              case measure => simp [intOf]; omega
        · have hje := Lib.hid (show j = E.length by omega)
          by_cases hq : p k = true
          · have hq1 : touch E k j = true := by rw [hje.out, Hp.out, hq]
            have Hs := Lib.hid (show selTo p (k + 1) = selTo p k ++ [k] from by rw [selTo_succ, if_pos hq])
            have hL2 : (selTo p k).length + 1 ≤ 1099511627776 := by omega
            clear hq
            rw [hq1]
            go_wp2_with (at_builtin; refine app_int rfl _ _ rfl hown _ rfl rfl hL2 hz ?_; intro v' w1 hown1 hg1)
            go_roundw
            case rel => exact ⟨k + 1, by omega, by go_num, by rw [Hs.out, ints_snoc, List.length_append]; exact hown1, below_app hb hz hown hg1⟩
            case measure => simp [intOf]; omega
          · have hq' : p k = false := by simpa using hq
            have hq1 : touch E k j = false := by rw [hje.out, Hp.out, hq']
            have Hs := Lib.hid (show selTo p (k + 1) = selTo p k from by rw [selTo_succ, if_neg (by rw [hq']; simp)])
            clear hq hq'
            rw [hq1]
            go_wp2
            go_roundw
            case rel => exact ⟨k + 1, by omega, by go_num, by rw [Hs.out]; exact hown, hb⟩
            case measure => simp [intOf]; omega
    · have hke := Lib.hid (show k = 64 by omega)
      go_wp2
      go_ret
      exact ⟨_, rfl, by rw [Hf.out, ← hke.out]; exact hown, hb⟩
end Go.Proofs.YtiililidehddmaaDoor
