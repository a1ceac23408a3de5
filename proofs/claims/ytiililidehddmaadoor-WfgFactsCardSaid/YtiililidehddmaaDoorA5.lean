import Derived.Test.YtiililidehddmaaDoorA4
namespace Go.Proofs.YtiililidehddmaaDoor
open Go.RowKit

/-- The cells of a list that a call handed back. -/
theorem owns_ints {w : World} {B n : Nat} {v : Value} {l : List Nat} (h : w.ownsRow B 3 1 v n (ints l)) :
    n = l.length ∧ ((v = .slice none 0 0 ∧ l = []) ∨ ∃ b cap, v = .slice (some ⟨b, 0, none⟩) n cap ∧ B ≤ b ∧ ∀ j, j < n → w.cell? ⟨b, j, none⟩ = some (.int .i64 ((gAt l j : Nat) : Int))) := by
  have hn : n = l.length := by have := h.1; simp at this; omega
  refine ⟨hn, ?_⟩
  have hc := fun g hg => World.ownsRow.cells h (g := g) hg
  rcases h.2 with ⟨rfl, h0⟩ | ⟨b, cap, cur, rfl, hb, _⟩
  · exact .inl ⟨rfl, List.eq_nil_of_length_eq_zero (by omega)⟩
  · refine .inr ⟨b, cap, rfl, hb, fun j hj => ?_⟩
    have := hc b rfl j (.int .i64 ((gAt l j : Nat) : Int)) (by simp [ints, gAt, List.getElem?_eq_getElem (show j < l.length by omega)])
    have hadd : (⟨b, 0, none⟩ : Addr).add j = ⟨b, j, none⟩ := by unfold Addr.add; split <;> simp_all
    rwa [hadd] at this

theorem or_u64 (a b : Nat) (ha : a < 2 ^ 64) (hb : b < 2 ^ 64) : bits .or .u64 (a : Int) (b : Int) = ((a ||| b : Nat) : Int) := u64_or_nat a b ha hb
theorem minus_u64 (a b : Nat) (ha : a < 2 ^ 64) (hb : b < 2 ^ 64) : bits .andNot .u64 (a : Int) (b : Int) = ((minus a b : Nat) : Int) := u64_andNot_nat a b ha hb

set_option maxHeartbeats 1000000 in
theorem reach_any (g : List Nat) (hg : WfG g) (n : Nat) (hn : n < 64) (w : World) (hT : Tab w) :
    Calls Tryd.prog 33 #[gval g, .int .i64 n] w fun e w' => ∃ r : Nat, e = .returned (.int .u64 r) ∧ r < 2 ^ 64 ∧ (∀ j, r.testBit j = true ↔ Way g n j) ∧ Below w.heap.size w w' := by
  have hnl : n < g.length := by rw [hg.len]; exact hn
  have hc := gcell_alloc w g 33 n hnl
  have hz : (w.alloc (.cells (gcells g).toArray 33)).heap.size = w.heap.size + 1 := by simp
  have hbox : ∀ wr, Below (w.heap.size + 1) (w.alloc (.cells (gcells g).toArray 33)) wr → ∀ k, k < 64 → wr.cell? ⟨w.heap.size, k, none⟩ = some (.int .u64 ((gAt g k : Nat) : Int)) := fun wr hb k hk =>
    (hb.cell (p := ⟨w.heap.size, k, none⟩) (by simp)).trans (gcell_alloc w g 33 k (by rw [hg.len]; exact hk))
  have Hbox := Lib.hid hbox; clear hbox
  have hTa : Tab (w.alloc (.cells (gcells g).toArray 33)) := hT.alloc _
  unfold gval
  go_enter Tryd.func33, Tryd.ntmps33
  go_wp2
  go_loopw [5, 6] (fun m t wr => ∃ (met todo : Nat), m = .int .u64 met ∧ t = .int .u64 todo ∧ Search g n met todo ∧ Below (w.heap.size + 1) (w.alloc (.cells (gcells g).toArray 33)) wr) (fun m _ _ => (18446744073709551616 - intOf m).toNat)
  case atStart => exact ⟨0, _, rfl, rfl, Search.start hg n, Below.refl _ _⟩
  case round =>
    obtain ⟨met, todo, rfl, rfl, hs, hb⟩ := hrel
    have hml := hs.mlt
    have htl := hs.tlt
    by_cases h0 : todo = 0
    · subst h0
      go_wp2
      go_ret
      exact ⟨met, rfl, hs.mlt, hs.done, ((Below.refl _ _).alloc (Nat.le_refl _) _).trans (hb.mono (by omega))⟩
    · have hT' : Tab wr := hTa.below hb (by omega)
      have hne : ((todo : Int) != 0) = true := by rw [bne_iff_ne]; omega
      obtain ⟨hst, _⟩ := bitsOf_step todo h0 htl
      have hnil : bitsOf todo ≠ [] := by rw [hst]; simp
      clear hst
      have hlen := bitsOf_len todo
      go_wp2_with fail
      refine (list_any todo htl _ hT').mono ?_
      rintro e w1 ⟨v, rfl, hown, hbl⟩
      have hb1 : Below (w.heap.size + 1) (w.alloc (.cells (gcells g).toArray 33)) w1 := hb.trans (hbl.mono (by have := hb.size; omega))
      have hcell1 := Hbox.out w1 hb1
      obtain ⟨hN, hv⟩ := owns_ints hown
      rcases hv with ⟨_, hv⟩ | ⟨b, cap, rfl, hB, hcl⟩
      · exact absurd hv hnil
      have Hround := Lib.hid (hs.round hg h0); clear hs hown
      have hl64 : ∀ k, k < (bitsOf todo).length → gAt (bitsOf todo) k < 64 := fun k hk => bit_lt htl ((mem_bitsOf htl).1 (gAt_mem _ _ hk))
      have Hl64 := Lib.hid hl64; clear hl64
      generalize hl : bitsOf todo = l at *
      have Hl := Lib.hid hl; clear hl
      clear hN
      have Hcl := Lib.hid hcl; clear hcl
      have Hcell1 := Lib.hid hcell1; clear hcell1
      go_wp2_with fail
      go_loop [7, 22] (fun m i => ∃ k : Nat, k ≤ l.length ∧ i = .int .i64 k ∧ m = .int .u64 (orTo g l k)) (fun _ i => l.length - (intOf i).toNat)
      case atStart => exact ⟨0, Nat.zero_le _, rfl, rfl⟩
      case round =>
        obtain ⟨k, hk, rfl, rfl⟩ := hrel
        by_cases hlt : k < l.length
        · have c1 := Hcl.out k hlt
          have hx : gAt l k < 64 := Hl64.out k hlt
          have c2 := Hcell1.out (gAt l k) hx
          go_wp2
          go_round
          case rel => exact ⟨k + 1, by omega, by go_num, congrArg _ (or_u64 _ _ (orTo_lt hg l k) (hg.lt _))⟩
          case measure => simp [intOf]; omega
        · have hke : k = l.length := by omega
          subst hke
          go_wp2
          go_roundw
          case rel =>
            refine ⟨met ||| todo, minus (orTo g l l.length) (met ||| todo), congrArg _ (or_u64 met todo hml htl), ?_, Hround.out.1, hb1⟩
            rw [or_u64 met todo hml htl]
            exact congrArg _ (minus_u64 _ _ (orTo_lt hg l _) (Nat.or_lt_two_pow hml htl))
          case measure =>
            have hr := Hround.out.2
            have hr2 : met ||| todo < 2 ^ 64 := Nat.or_lt_two_pow hml htl
            rw [or_u64 met todo hml htl]
            simp only [intOf]
            omega
end Go.Proofs.YtiililidehddmaaDoor
