import Derived.Test.YtiililidehddmaaDoorA3b
import Derived.RegionTactic
import Derived.BigRegion
import Derived.ChangeAlike
namespace Go.Proofs.YtiililidehddmaaDoor
open Go.RowKit

def hasF (g : List Nat) (n k : Int) : Bool := nodeB n && nodeB k && (gAt g n.toNat).testBit k.toNat

theorem nodeB_true {n : Int} (h : nodeB n = true) : ∃ k : Nat, n = k ∧ k < 64 := by
  have ⟨h0, h1⟩ : 0 ≤ n ∧ n < 64 := by simpa [nodeB] using h
  exact ⟨n.toNat, by omega, by omega⟩
theorem nodeB_nat {k : Nat} (h : k < 64) : nodeB (k : Int) = true := by simp [nodeB]; omega

theorem has_bit (x b : Nat) (hx : x < 2 ^ 64) : (bits .and .u64 ((x : Int) / 2 ^ b) 1 == 1) = x.testBit b := by
  have e : (x : Int) / 2 ^ b = ((x / 2 ^ b : Nat) : Int) := by simp
  have hl : x / 2 ^ b < 18446744073709551616 := Nat.lt_of_le_of_lt (Nat.div_le_self _ _) hx
  rw [e, show (1 : Int) = ((1 : Nat) : Int) from rfl, u64_and_nat _ 1 hl (by omega), nat_mask1, Nat.testBit_eq_decide_div_mod_eq]
  rw [Bool.eq_iff_iff]; simp; omega

set_option maxHeartbeats 1000000 in
theorem has_any (g : List Nat) (hg : WfG g) (n k : Int) (w : World) :
    Calls Tryd.prog 16 #[gval g, .int .i64 n, .int .i64 k] w fun e w' => e = .returned (.bool (hasF g n k)) ∧ Below w.heap.size w w' := by
  by_cases hn : nodeB n = true
  · obtain ⟨a, rfl, ha⟩ := nodeB_true hn
    have hal : a < g.length := by rw [hg.len]; omega
    have hc := gcell_alloc w g 33 a hal
    by_cases hk : nodeB k = true
    · obtain ⟨b, rfl, hb⟩ := nodeB_true hk
      unfold gval
      go_enter Tryd.func16, Tryd.ntmps16
      go_wp2_with (go_at_call 32; refine (isNode_any _ _).mono ?_; rintro e w' ⟨rfl, rfl⟩; simp only [hn, hk])
      go_ret
      exact ⟨congrArg (fun b => Ending.returned (.bool b)) ((has_bit _ b (hg.lt a)).trans (by simp [hasF, hn, hk])), (Below.refl _ _).alloc (Nat.le_refl _) _⟩
    · have hk' : nodeB k = false := by simpa using hk
      clear hk
      unfold gval
      go_enter Tryd.func16, Tryd.ntmps16
      go_wp2_with (go_at_call 32; refine (isNode_any _ _).mono ?_; rintro e w' ⟨rfl, rfl⟩; simp only [hn, hk'])
      go_ret
      exact ⟨congrArg (fun b => Ending.returned (.bool b)) (by simp [hasF, hk']), (Below.refl _ _).alloc (Nat.le_refl _) _⟩
  · have hn' : nodeB n = false := by simpa using hn
    clear hn
    unfold gval
    go_enter Tryd.func16, Tryd.ntmps16
    go_wp2_with (go_at_call 32; refine (isNode_any _ _).mono ?_; rintro e w' ⟨rfl, rfl⟩; simp only [hn'])
    go_ret
    exact ⟨congrArg (fun b => Ending.returned (.bool b)) (by simp [hasF, hn']), (Below.refl _ _).alloc (Nat.le_refl _) _⟩

def addG (g : List Nat) (n k : Nat) : List Nat := g.set n (gAt g n ||| 2 ^ k)
def addF (g : List Nat) (n k : Int) : List Nat := if nodeB n && nodeB k then addG g n.toNat k.toNat else g
def addE (n k : Int) : Int := if nodeB n && nodeB k then 0 else 1

theorem gAt_set (g : List Nat) (n k x : Nat) (h : n < g.length) : gAt (g.set n x) k = if n = k then x else gAt g k := by
  unfold gAt
  simp only [List.getD_eq_getElem?_getD, List.getElem?_set]
  by_cases e : n = k
  · subst e; simp [h]
  · simp [e]

theorem addG_wf {g : List Nat} (hg : WfG g) {n k : Nat} (hn : n < 64) (hk : k < 64) : WfG (addG g n k) := by
  refine ⟨by simp [addG, hg.len], fun j => ?_⟩
  unfold addG
  rw [gAt_set _ _ _ _ (by rw [hg.len]; omega)]
  split
  · exact Nat.or_lt_two_pow (hg.lt n) (Nat.pow_lt_pow_right (by omega) hk)
  · exact hg.lt j

theorem addF_wf {g : List Nat} (hg : WfG g) (n k : Int) : WfG (addF g n k) := by
  unfold addF
  split
  · rename_i h
    simp only [Bool.and_eq_true] at h
    obtain ⟨a, rfl, ha⟩ := nodeB_true h.1
    obtain ⟨b, rfl, hb⟩ := nodeB_true h.2
    exact addG_wf hg ha hb
  · exact hg

theorem or_pow (x b : Nat) (hx : x < 2 ^ 64) (hb : b < 64) : bits .or .u64 (x : Int) (IntKind.u64.wrap (2 ^ b)) = ((x ||| 2 ^ b : Nat) : Int) := by
  have hl : 2 ^ b < 2 ^ 64 := Nat.pow_lt_pow_right (by omega) hb
  have e : IntKind.u64.wrap (2 ^ b) = ((2 ^ b : Nat) : Int) := by
    rw [IntKind.wrap_u64, show ((2 : Int) ^ b) = ((2 ^ b : Nat) : Int) from by simp]
    generalize 2 ^ b = y at hl
    omega
  rw [e]
  exact u64_or_nat x _ hx hl

theorem add_cells (g : List Nat) (a b : Nat) (hx : gAt g a < 2 ^ 64) (hb : b < 64) :
    (gcells g).set a (.int .u64 (bits .or .u64 ((gAt g a : Nat) : Int) (IntKind.u64.wrap (2 ^ b)))) = gcells (addG g a b) := by
  rw [or_pow _ b hx hb]; exact gcells_set _ _ _

set_option maxHeartbeats 1000000 in
theorem add_any (g : List Nat) (hg : WfG g) (n k : Int) (w : World) :
    Calls Tryd.prog 15 #[gval g, .int .i64 n, .int .i64 k] w fun e w' => e = .returned (.tuple #[gval (addF g n k), .int .i64 (addE n k)]) ∧ Below w.heap.size w w' := by
  by_cases hn : nodeB n = true
  · obtain ⟨a, rfl, ha⟩ := nodeB_true hn
    have hal : a < g.length := by rw [hg.len]; omega
    have hc := gcell_alloc w g 33 a hal
    by_cases hk : nodeB k = true
    · obtain ⟨b, rfl, hb⟩ := nodeB_true hk
      unfold gval
      go_enter Tryd.func15, Tryd.ntmps15
      go_wp2_with (first | (go_at_call 32; refine (isNode_any _ _).mono ?_; rintro e w' ⟨rfl, rfl⟩; simp only [hn, hk]) | (refine row_alloc rfl 33 rfl _ (Tryd.zero33 _) ?_))
      go_region
      rw [add_cells g a b (hg.lt a) hb]
      have hG := addG_wf hg ha hb
      go_wp2_with (first | (refine load_g rfl _ rfl _ rfl (addG g a b) hG.len (heap_alloc2_old _ _ _) ?_) | (refine store_g rfl _ _ rfl _ (addG g a b) hG.len rfl rfl zeroG_wf.len (heap_alloc2_new _ _ _) ?_; rw [setRow_drew, setRow_alloc2]))
      refine bodyPost_ret (v := .tuple #[.agg (gcells (addG g a b)).toArray, .int .i64 0]) (results_g_tmp Tryd.results15 _ _ _ (addG g a b) hG.len rfl (heap_alloc2_new _ _ _)) rfl ⟨?_, ?_⟩
      · simp [addF, addE, hn, hk]
      · exact (((Below.refl _ _).alloc (Nat.le_refl _) _).alloc (by simp) _).drew
    · have hk' : nodeB k = false := by simpa using hk
      clear hk
      unfold gval
      go_enter Tryd.func15, Tryd.ntmps15
      go_wp2_with (first | (go_at_call 32; refine (isNode_any _ _).mono ?_; rintro e w' ⟨rfl, rfl⟩; simp only [hn, hk']) | (refine row_alloc rfl 33 rfl _ (Tryd.zero33 _) ?_) | (refine load_g rfl _ rfl _ rfl g hg.len (heap_alloc2_old _ _ _) ?_) | (refine store_g rfl _ _ rfl _ g hg.len rfl rfl zeroG_wf.len (heap_alloc2_new _ _ _) ?_; rw [setRow_alloc2]))
      refine bodyPost_ret (v := .tuple #[.agg (gcells g).toArray, .int .i64 1]) (results_g_tmp Tryd.results15 _ _ _ g hg.len rfl (heap_alloc2_new _ _ _)) rfl ⟨?_, ?_⟩
      · simp [addF, addE, hn, hk']
      · exact (((Below.refl _ _).alloc (Nat.le_refl _) _).alloc (by simp) _)
  · have hn' : nodeB n = false := by simpa using hn
    clear hn
    unfold gval
    go_enter Tryd.func15, Tryd.ntmps15
    go_wp2_with (first | (go_at_call 32; refine (isNode_any _ _).mono ?_; rintro e w' ⟨rfl, rfl⟩; simp only [hn']) | (refine row_alloc rfl 33 rfl _ (Tryd.zero33 _) ?_) | (refine load_g rfl _ rfl _ rfl g hg.len (heap_alloc2_old _ _ _) ?_) | (refine store_g rfl _ _ rfl _ g hg.len rfl rfl zeroG_wf.len (heap_alloc2_new _ _ _) ?_; rw [setRow_alloc2]))
    refine bodyPost_ret (v := .tuple #[.agg (gcells g).toArray, .int .i64 1]) (results_g_tmp Tryd.results15 _ _ _ g hg.len rfl (heap_alloc2_new _ _ _)) rfl ⟨?_, ?_⟩
    · simp [addF, addE, hn']
    · exact (((Below.refl _ _).alloc (Nat.le_refl _) _).alloc (by simp) _)
end Go.Proofs.YtiililidehddmaaDoor
