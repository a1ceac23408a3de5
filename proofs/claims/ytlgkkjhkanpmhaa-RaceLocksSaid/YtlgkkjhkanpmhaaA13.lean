import Derived.Test.YtlgkkjhkanpmhaaA12
namespace Go.Proofs.Ytlgkkjhkanpmhaa
open Go.RowKit

/-- The world beside a growing list of pairs. -/
structure PrIn (T : TypeId) (w wr : World) (v : Value) (ps : List (Nat × Nat)) : Prop where
  below : Below w.heap.size w wr
  own : wr.ownsRow w.heap.size T 2 v ps.length (pcells ps)
theorem PrIn.start (T : TypeId) (w : World) : PrIn T w w (.slice none 0 0) [] := ⟨Below.refl _ _, World.ownsRow_nil _ _ _ _⟩
theorem PrIn.more {T : TypeId} {w wr w1 : World} {v : Value} {L : List (Nat × Nat)} (h : PrIn T w wr v L) (hb : Below wr.heap.size wr w1) : PrIn T w w1 v L :=
  ⟨h.below.trans (hb.mono h.below.size), owns_keep h.own hb⟩
theorem PrIn.grown {T : TypeId} {w wr w1 w2 : World} {v v' : Value} {L L' : List (Nat × Nat)} (h : PrIn T w wr v L) (hb : Below wr.heap.size wr w1) (hg : w1.grownBy w2 v.ownBlock) (hown : w2.ownsRow w.heap.size T 2 v' L'.length (pcells L')) : PrIn T w w2 v' L' := by
  refine ⟨?_, hown⟩
  have h1 := h.more hb
  exact h1.below.grown hg h1.below.size (fun k hk => (h1.own.lt k hk).1)

attribute [local go_sem ↓] wp_mid52

set_option maxHeartbeats 1000000 in
theorem RAll_any (L : List Acc) (base : Option Addr) (cap : Nat) (w : World) (hL : AccAt w base L) (hW : WfL L) (hn : L.length ≤ 1000000) :
    Calls Try.prog 10 #[.slice base L.length cap] w fun e w' => ∃ v, e = .returned v ∧ w'.ownsRow w.heap.size 35 2 v (allTo L L.length).length (pcells (allTo L L.length)) ∧ Below w.heap.size w w' := by
  have H0 := Lib.hid (PrIn.start 35 w)
  go_enter Try.func10, Try.ntmps10
  go_wp2
  go_loopw [3, 4, 5] (fun s i _ wr => ∃ (k : Nat) (v : Value), k ≤ L.length ∧ i = .int .i64 k ∧ s = v ∧ PrIn 35 w wr v (allTo L k)) (fun _ i _ _ => L.length - (intOf i).toNat)
  case atStart => exact ⟨0, _, by omega, rfl, rfl, by rw [allTo_zero]; exact H0.out⟩
  case round =>
    obtain ⟨k, v, hk, rfl, rfl, hI⟩ := hrel
    by_cases hlt : k < L.length
    · have hlen : (allTo L k).length ≤ 1000000 * k := by
        have h1 := allTo_len L k
        have h2 : k * k ≤ 1000000 * k := Nat.mul_le_mul_right _ (by omega)
        omega
      have Hs := Lib.hid (allTo_succ L k)
      generalize hA : allTo L k = A at *
      clear hA
      obtain ⟨wo, hwo⟩ : ∃ wo : World, wo = wr := ⟨_, rfl⟩
      go_wp2
      go_loopw [3, 5] (fun s i wi => ∃ (j : Nat) (v : Value), j ≤ k ∧ i = .int .i64 j ∧ s = v ∧ PrIn 35 w wi v (A ++ innerL L k (List.range j))) (fun _ i _ => k - (intOf i).toNat)
      case atStart => exact ⟨0, _, by omega, rfl, rfl, by rw [List.range_zero, innerL_nil, List.append_nil]; exact hI⟩
      case round =>
        clear hI hwo wo
        obtain ⟨j, v, hj, rfl, rfl, hI⟩ := hrel
        by_cases hlt2 : j < k
        · have hjL : j < L.length := by omega
          obtain ⟨b, off, hbase, hr1⟩ := ((hL.more hI.below)) j hjL
          obtain ⟨b2, off2, hbase2, hr2⟩ := ((hL.more hI.below)) k hlt
          subst hbase
          injection hbase2 with e2
          injection e2 with e2 e3
          subst e2 e3
          obtain ⟨f1, v1⟩ := mid_of (n := 12) (World.rangeAt_drew _ _ _ _ |>.2 hr1) rfl
          obtain ⟨f2, v2⟩ := mid_of (n := 12) (World.rangeAt_drew _ _ _ _ |>.2 hr2) rfl
          have hil := innerL_len L k (List.range j)
          have hsn := innerL_snoc L k (List.range j) j
          rw [← List.range_succ] at hsn
          rw [List.length_range] at hil
          have hwf1 := (hW j hjL).clk; have hwf2 := (hW k hlt).clk
          have Hrace := Lib.hid (fun w => Race_any (aAt L j) (aAt L k) hwf1 hwf2 w)
          have HRrace := Lib.hid (fun w => RRace_any (aAt L j) (aAt L k) hwf1 hwf2 w)
          generalize aAt L j = a at *
          generalize aAt L k = c at *
          generalize innerL L k (List.range j) = I at *
          generalize raceB a c = r at *
          have hcl : (A ++ I).length + 1 ≤ 1099511627776 := by rw [List.length_append]; omega
          have Hsn := Lib.hid hsn; clear hsn
          clear hr1 hr2 hL hW
          have hII := hI.more (Below.refl _ _).drew
          have hbX0 : Below wr.heap.size wr wr.drew := (Below.refl _ _).drew
          go_wp2
          go_region_law (go_simp; go_at_call 16; refine (HRrace.out _).mono ?_; rintro e wX ⟨rfl, hbX⟩)
          all_goals
            have hII := hII.more hbX
            cases r
            · go_wp2
              go_roundw
              case rel => exact ⟨j + 1, _, by omega, by go_num, rfl, by rw [Hsn.out]; simpa using hII⟩
              case measure => simp [intOf]; omega
            · go_wp2_with (at_builtin; refine app_pair 29 35 Try.under29 Try.info35 rfl _ _ rfl hII.own j k rfl rfl hcl hII.below.size ?_; intro v' w3 hown3 hg3 _)
              go_roundw
              case rel => exact ⟨j + 1, v', by omega, by go_num, rfl, by rw [Hsn.out, if_pos rfl, ← List.append_assoc]; exact hII.grown ((Below.refl _ _).alloc (Nat.le_refl _) _) hg3 hown3⟩
              case measure => simp [intOf]; omega
        · have hje := Lib.hid (show j = k by omega)
          go_wp2
          go_roundw
          case rel => exact ⟨k + 1, _, by omega, by go_num, rfl, by rw [hje.out] at hI; rw [Hs.out]; exact hI⟩
          case measure => simp [intOf]; omega
    · have hke := Lib.hid (show k = L.length by omega)
      go_wp2
      go_ret
      exact ⟨_, rfl, by have := hI.own; rw [hke.out] at this; exact this, hI.below⟩
end Go.Proofs.Ytlgkkjhkanpmhaa
