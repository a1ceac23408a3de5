import Derived.Test.YtiililidehddmaaDoorA8
import Derived.Test.YtiililidehddmaaDoorA0e
import Derived.StillTailTactics
namespace Go.Proofs.YtiililidehddmaaDoor
open Go.RowKit

section
variable {ops : Array Oper} {o : Oper} {rest : List Oper} {w : World} {Q : Act → Prop} {a : Act}
theorem still_load_i (hgd : o.guard = none) (x : Operand) (ho : o.op = .load 55 x) (b : Nat) (hx : a.eval x = .pointer (some ⟨b, 0, none⟩)) (l : List Int) (hl : l.length = 64) {T : TypeId} {fr : Nat × Nat}
    (hg : w.heap[b]? = some (.cells (icells l).toArray T fr)) (h : wpStill Tryd.prog ops w Q rest (a.put o.dst (.agg (icells l).toArray))) : wpStill Tryd.prog ops w Q (o :: rest) a :=
  wpStill_step fun K hK => by
    rw [if_pos (by simp [Region.wanted, hgd])]
    unfold Oper.still execOp
    simp only [ho, hx, Instr.loadAt, Instr.sureAddr, Sem.run_bind, Sem.run_pure, Result.andThen_ok, run_loadVar_row w b T 55 _ fr _ hg Tryd.underlying55 rfl (i_size l hl)]
    exact ⟨rfl, hK _ h⟩
end

/-- The world inside 'Ring': the graph's box, the array. -/
structure RingIn (w wr : World) (g : List Nat) (l : List Int) : Prop where
  below : Below w.heap.size w wr
  box : wr.heap[w.heap.size]? = some (.cells (gcells g).toArray 33 (0, 0))
  arr : wr.heap[w.heap.size + 1]? = some (.cells (icells l).toArray 55 (0, 0))
  size : w.heap.size + 2 ≤ wr.heap.size
  len : l.length = 64

theorem RingIn.gcell {w wr : World} {g : List Nat} {l : List Int} (h : RingIn w wr g l) (hg : WfG g) (k : Nat) (hk : k < 64) : wr.cell? ⟨w.heap.size, k, none⟩ = some (.int .u64 ((gAt g k : Nat) : Int)) := by
  rw [cell_of_row _ _ _ _ _ _ h.box]; exact Go.Proofs.YtiililidehddmaaDoor.gcell g k (by rw [hg.len]; exact hk)
theorem RingIn.cell {w wr : World} {g : List Nat} {l : List Int} (h : RingIn w wr g l) (k : Nat) (hk : k < 64) : wr.cell? ⟨w.heap.size + 1, k, none⟩ = some (.int .i64 (iAt l k)) := by
  rw [cell_of_row _ _ _ _ _ _ h.arr]; exact icell l k (by rw [h.len]; exact hk)
theorem RingIn.row {w wr : World} {g : List Nat} {l l' : List Int} (h : RingIn w wr g l) (hl : l'.length = 64) : RingIn w (wr.setRow (w.heap.size + 1) (icells l').toArray) g l' where
  below := below_setRow h.below (by omega) _
  box := (setRow_other _ _ _ _ (by omega)).trans h.box
  arr := setRow_heap _ _ _ _ _ _ h.arr
  size := by simpa using h.size
  len := hl
theorem RingIn.more {w wr w1 : World} {g : List Nat} {l : List Int} (h : RingIn w wr g l) (hb : Below wr.heap.size wr w1) : RingIn w w1 g l where
  below := h.below.trans (hb.mono (by have := h.size; omega))
  box := (hb.block _ (by have := h.size; omega)).trans h.box
  arr := (hb.block _ (by have := h.size; omega)).trans h.arr
  size := Nat.le_trans h.size hb.size
  len := h.len
theorem RingIn.drew {w wr : World} {g : List Nat} {l : List Int} (h : RingIn w wr g l) : RingIn w wr.drew g l := h.more (Below.refl _ _).drew
theorem RingIn.start (w : World) (g : List Nat) : RingIn w ((w.alloc (.cells (gcells g).toArray 33)).alloc (.cells (icells zeroI).toArray 55)) g zeroI where
  below := ((Below.refl _ _).alloc (Nat.le_refl _) _).alloc (by simp) _
  box := (Below.heap_alloc _ _ _ (by simp)).trans (heap_alloc_new _ _)
  arr := by have := heap_alloc_new (w.alloc (.cells (gcells g).toArray 33)) (.cells (icells zeroI).toArray 55); simpa using this
  size := by simp
  len := by simp [zeroI]

def lenOf : Value → Nat | .slice _ n _ => n | _ => 0

theorem owns_one (w : World) (x : Nat) (B : Nat) (hB : B ≤ w.heap.size) : (w.alloc (.cells #[.int .i64 (x : Int)] 3)).ownsRow B 3 1 (.slice (some ⟨w.heap.size, 0, none⟩) 1 1) 1 (ints [x]) :=
  ⟨rfl, .inr ⟨w.heap.size, 1, _, rfl, hB, heap_alloc_new _ _, Nat.le_refl _, by simp [maxLen], rfl, rfl⟩⟩

theorem owns_len {w : World} {B n : Nat} {v : Value} {l : List Nat} (h : w.ownsRow B 3 1 v n (ints l)) : ∃ base cap, v = .slice base l.length cap := by
  obtain ⟨base, cap, e, _⟩ := owns_reads h
  exact ⟨base, cap, e⟩

theorem RingIn.app {w wr w' : World} {g : List Nat} {l : List Int} {o : Obj} {v : Value} {n : Nat} {xs : List Value} (h : RingIn w wr g l) (hown : wr.ownsRow (w.heap.size + 2) 3 1 v n xs)
    (hg : (wr.alloc o).grownBy w' v.ownBlock) : RingIn w w' g l where
  below := below_app h.below (by have := h.size; omega) (owns_base hown (by omega)) hg
  box := ((below_app (Below.refl (w.heap.size + 2) wr) h.size hown hg).block _ (by omega)).trans h.box
  arr := ((below_app (Below.refl (w.heap.size + 2) wr) h.size hown hg).block _ (by omega)).trans h.arr
  size := Nat.le_trans h.size (below_app (Below.refl (w.heap.size + 2) wr) h.size hown hg).size
  len := h.len

theorem owns_more {w w1 : World} {B n : Nat} {v : Value} {xs : List Value} (h : w.ownsRow B 3 1 v n xs) (hb : Below w.heap.size w w1) : w1.ownsRow B 3 1 v n xs := by
  refine ⟨h.1, ?_⟩
  rcases h.2 with h2 | ⟨g, cap, cur, hv, hg, hgg, r⟩
  · exact .inl h2
  · exact .inr ⟨g, cap, cur, hv, hg, (hb.block g (Array.getElem?_eq_some_iff.1 hgg).1).trans hgg, r⟩

set_option maxHeartbeats 2000000 in
theorem Ring_any (g : List Nat) (hg : WfG g) (w : World) (hT : Tab w) :
    Calls Tryd.prog 13 #[gval g] w fun e w' => ∃ v, e = .returned v ∧ w'.ownsRow w.heap.size 3 1 v (ringF g).length (ints (ringF g)) ∧ Below w.heap.size w w' := by
  have H0 := Lib.hid (RingIn.start w g)
  unfold gval
  go_enter Tryd.func13, Tryd.ntmps13
  go_wp2_with fail
  go_step3
  go_wp2_with (refine row_alloc rfl 55 rfl _ (Tryd.zero55 _) ?_)
  go_loopw [3, 4, 6, 7, 13] (fun b f _ _ i wr => ∃ (k : Nat) (l : List Int), k ≤ 64 ∧ i = .int .i64 k ∧ b = .int .i64 (bestTo g k).1 ∧ f = .int .i64 (bestTo g k).2 ∧ RingIn w wr g l ∧ ((bestTo g k).1 < 65 → ∀ n, n < 64 → iAt l n = ((waysW g (bestTo g k).2 64 n : Nat) : Int))) (fun _ _ _ _ i _ => 64 - (intOf i).toNat)
  case atStart => exact ⟨0, zeroI, by omega, rfl, by rw [bestTo_zero]; rfl, by rw [bestTo_zero]; rfl, H0.out, fun h => by rw [bestTo_zero] at h; simp at h⟩
  case round =>
    obtain ⟨k, l, hk, rfl, rfl, rfl, hI, hl⟩ := hrel
    have hbt := bestTo_le g k
    have Hl := Lib.hid hl; clear hl
    by_cases hlt : k < 64
    · have hT' : Tab wr := hT.below hI.below hT.size
      go_wp2_with (refine load_g rfl _ rfl _ rfl g hg.len hI.box ?_)
      refine (ways_any g hg k hlt _ hT').mono ?_
      rintro e w1 ⟨l1, rfl, hl1, hw, hb⟩
      have hI1 := hI.more hb
      have hr : iAt l1 k = ((ringLen g k : Nat) : Int) := by rw [hw k hlt, ringLen_eq]
      have Hw := Lib.hid hw; clear hw
      have hkl : k < l1.length := by omega
      have hrl := ringLen_le g k
      have hI2 := hI1.more ((Below.refl w1.heap.size w1).alloc (Nat.le_refl _) (.cells (icells l1).toArray 55))
      have Hsucc := Lib.hid (bestTo_succ g k)
      by_cases hb2 : ringLen g k < (bestTo g k).1
      · go_wp2_with (first | (refine row_alloc rfl 55 rfl _ (Tryd.zero55 _) ?_) | (refine store_i rfl _ _ rfl _ l1 hl1 rfl rfl (by simp [zeroI] : zeroI.length = 64) (heap_alloc_new _ _) ?_; rw [setRow_alloc _ _ _ _ _ rfl]))
        refine wp_region_still_tail 7 rfl (by kernel_rfl) ?_
        simp only [List.take_succ_cons, List.take_zero, List.drop_succ_cons, List.drop_zero]
        change wpStill _ _ (World.drew _) _ _ _
        iterate 4 still_step
        refine still_load_i rfl _ rfl _ rfl l1 hl1 (heap_alloc_new w1 _) ?_
        iterate 2 still_step
        refine wpStill_nil ?_
        change wpList _ _ _ _ _ (World.drew _)
        have hI3 := hI2.drew
        refine store_i rfl _ _ rfl _ l1 hl1 rfl rfl hI3.len hI3.arr ?_
        have hI4 := hI3.row hl1
        go_wp2_with fail
        go_roundw
        case rel =>
          have e : bestTo g (k + 1) = (ringLen g k, k) := by rw [Hsucc.out, if_pos hb2]
          exact ⟨k + 1, l1, by omega, by go_num, by rw [e], by rw [e], hI4, by rw [e]; exact fun _ => Hw.out⟩
        case measure => simp [intOf]; omega
      · go_wp2_with (first | (refine row_alloc rfl 55 rfl _ (Tryd.zero55 _) ?_) | (refine store_i rfl _ _ rfl _ l1 hl1 rfl rfl (by simp [zeroI] : zeroI.length = 64) (heap_alloc_new _ _) ?_; rw [setRow_alloc _ _ _ _ _ rfl]))
        go_roundw
        case rel =>
          have e : bestTo g (k + 1) = bestTo g k := by rw [Hsucc.out, if_neg hb2]
          exact ⟨k + 1, l, by omega, by go_num, by rw [e], by rw [e], hI2, by rw [e]; exact Hl.out⟩
        case measure => simp [intOf]; omega
    · have hke := Lib.hid (show k = 64 by omega)
      by_cases h65 : (bestTo g k).1 = 65
      · have b1 : (((bestTo g k).1 : Int) == 65) = true := by rw [beq_iff_eq]; omega
        have H65 := Lib.hid h65; clear h65
        go_wp2_with fail
        try rw [Exit.noGoto_ret]
        go_ret
        have e : ringF g = [] := by unfold ringF; rw [← hke.out, if_pos H65.out]
        exact ⟨_, rfl, by rw [e]; exact World.ownsRow_nil _ _ _ _, hI.below⟩
      · have b1 : (((bestTo g k).1 : Int) == 65) = false := by rw [beq_eq_false_iff_ne]; omega
        go_wp2_with fail
        go_step3
        have Hw := Lib.hid (Hl.out (by omega))
        have hs : (bestTo g k).2 < 64 := by omega
        have hI1 := hI.more ((Below.refl wr.heap.size wr).alloc (Nat.le_refl _) (.cells #[.int .i64 ((bestTo g k).2 : Int)] 3))
        have hown := owns_one wr (bestTo g k).2 (w.heap.size + 2) hI.size
        have HF : Hid (ringF g = ringGo g (bestTo g k).2 (bestTo g k).1 64 (bestTo g k).2 [(bestTo g k).2]) := by
          show _ = _
          unfold ringF; rw [← hke.out, if_neg h65]
        go_wp2_with fail
        go_loopw [8, 9, 10, 12] (fun v at_ _ _ wi => ∃ (L : List Nat) (a f : Nat), a < 64 ∧ L.length ≤ (bestTo g k).1 ∧ (bestTo g k).1 ≤ f + L.length ∧ at_ = .int .i64 a ∧ RingIn w wi g l ∧ wi.ownsRow (w.heap.size + 2) 3 1 v L.length (ints L) ∧ Hid (ringF g = ringGo g (bestTo g k).2 (bestTo g k).1 f a L)) (fun v _ _ _ _ => (bestTo g k).1 - lenOf v)
        case atStart => exact ⟨[(bestTo g k).2], _, 64, hs, by simp; omega, by simp; omega, rfl, hI1, hown, HF⟩
        case round =>
          obtain ⟨L, a, f, ha, hL, hf, rfl, hI2, hown2, HF2⟩ := hrel
          obtain ⟨base, cap, rfl⟩ := owns_len hown2
          by_cases hlt2 : L.length < (bestTo g k).1
          · have hw := hi_u64 (gAt g a) (bestTo g k).2 (hg.lt a)
            have hc := hI2.gcell hg a ha
            have hT' : Tab wr := hT.below hI2.below hT.size
            have hx := hiOf_lt (hg.lt a) (bestTo g k).2
            have hf1 : 1 ≤ f := by omega
            have b2 : decide ((L.length : Int) < ((bestTo g k).1 : Int)) = true := decide_eq_true (by omega)
            have b3 : decide (L.length < (bestTo g k).1) = true := decide_eq_true hlt2
            go_wp2_with fail
            refine (list_any _ hx _ hT').mono ?_
            rintro e w1 ⟨v, rfl, hownN, hb⟩
            have hI3 := hI2.more hb
            have hown3 := owns_more hown2 hb
            obtain ⟨baseN, capN, rfl, hrd⟩ := owns_reads hownN
            have hz1 := hI2.size
            have hz2 := hb.size
            clear hI2 hown2 hc hw hT' hownN
            have hn64 : ∀ i, i < (bitsOf (hiOf (gAt g a) (bestTo g k).2)).length → gAt (bitsOf (hiOf (gAt g a) (bestTo g k).2)) i < 64 := fun i hi => bit_lt hx ((mem_bitsOf hx).1 (gAt_mem _ i hi))
            have Hn64 := Lib.hid hn64; clear hn64
            have hNl := bitsOf_len (hiOf (gAt g a) (bestTo g k).2)
            generalize hN : bitsOf (hiOf (gAt g a) (bestTo g k).2) = N at *
            have HN := Lib.hid hN; clear hN
            go_wp2_with fail
            obtain ⟨wo, hwo⟩ : ∃ wo : World, wo = w1 := ⟨_, rfl⟩
            go_loopw [8, 9, 12, 53] (fun v at_ _ i wi => ∃ j : Nat, j ≤ N.length ∧ i = .int .i64 j ∧ v = .slice base L.length cap ∧ at_ = .int .i64 a ∧ wi = wo ∧ Hid (∀ i, i < j → nextOk g (bestTo g k).2 ((bestTo g k).1 - L.length) (gAt N i) = false)) (fun _ _ _ i _ => N.length - (intOf i).toNat)
            case atStart => exact ⟨0, by omega, rfl, rfl, rfl, hwo.symm, fun i hi => by omega⟩
            case round =>
              obtain ⟨j, hj, rfl, rfl, rfl, rfl, hno⟩ := hrel
              subst hwo
              by_cases hlt3 : j < N.length
              · obtain ⟨b, hbase, hB, hcj⟩ := hrd j hlt3
                have hk64 : gAt N j < 64 := Hn64.out j hlt3
                have hck := hI3.cell (gAt N j) hk64
                rw [Hw.out _ hk64] at hck
                by_cases t1 : gAt N j = (bestTo g k).2
                · have b4 : (((gAt N j : Nat) : Int) != (((bestTo g k).2 : Nat) : Int)) = false := by rw [bne_eq_false_iff_eq]; omega
                  have hq : nextOk g (bestTo g k).2 ((bestTo g k).1 - L.length) (gAt N j) = false := by simp [nextOk, t1]
                  have T1 := Lib.hid t1; clear t1 hck
                  have Hn2 := Lib.hid (show ∀ i, i < j + 1 → nextOk g (bestTo g k).2 ((bestTo g k).1 - L.length) (gAt N i) = false from fun i hi => by
                    by_cases e : i = j
                    · rw [e]; exact hq
                    · exact hno.out i (by omega))
                  clear hq
                  go_wp2
                  go_roundw
                  case rel => exact ⟨j + 1, by omega, by go_num, rfl, rfl, (by first | rfl | trivial), Hn2.out⟩
                  case measure => simp [intOf]; omega
                · have b4 : (((gAt N j : Nat) : Int) != (((bestTo g k).2 : Nat) : Int)) = true := by rw [bne_iff_ne]; omega
                  by_cases t2 : waysW g (bestTo g k).2 64 (gAt N j) = (bestTo g k).1 - L.length
                  · have b5 : (((waysW g (bestTo g k).2 64 (gAt N j) : Nat) : Int) == (((bestTo g k).1 : Nat) : Int) - (L.length : Int)) = true := by rw [beq_iff_eq]; omega
                    have hq : nextOk g (bestTo g k).2 ((bestTo g k).1 - L.length) (gAt N j) = true := by simp [nextOk, t1, t2]
                    obtain ⟨f, rfl⟩ : ∃ f', f = f' + 1 := ⟨f - 1, by omega⟩
                    have Hgo := Lib.hid (ringGo_some g (bestTo g k).2 (bestTo g k).1 f a L N j hlt2 HN.out hlt3 hno.out hq)
                    have T2 := Lib.hid t2; clear t2 hq
                    have hL2 : L.length + 1 ≤ 1099511627776 := by omega
                    have hB2 : w.heap.size + 2 ≤ wr.heap.size := by omega
                    go_wp2_with (at_builtin; refine app_int rfl _ _ rfl hown3 _ rfl rfl hL2 hB2 ?_; intro v' w2 hown4 hg2)
                    have hI4 := hI3.app hown3 hg2
                    go_roundw
                    case rel =>
                      refine ⟨L ++ [gAt N j], gAt N j, f, hk64, by simp; omega, by simp; omega, rfl, hI4, by rw [ints_snoc, List.length_append]; exact hown4, ?_⟩
                      show _ = _
                      rw [HF2.out, Hgo.out]
                    case measure =>
                      obtain ⟨b4, c4, rfl⟩ := owns_len (l := L ++ [gAt N j]) (by rw [ints_snoc]; exact hown4)
                      simp [lenOf]; omega
                  · have b5 : (((waysW g (bestTo g k).2 64 (gAt N j) : Nat) : Int) == (((bestTo g k).1 : Nat) : Int) - (L.length : Int)) = false := by rw [beq_eq_false_iff_ne]; omega
                    have hq : nextOk g (bestTo g k).2 ((bestTo g k).1 - L.length) (gAt N j) = false := by simp [nextOk, t1, t2]
                    have Hn2 := Lib.hid (show ∀ i, i < j + 1 → nextOk g (bestTo g k).2 ((bestTo g k).1 - L.length) (gAt N i) = false from fun i hi => by
                      by_cases e : i = j
                      · rw [e]; exact hq
                      · exact hno.out i (by omega))
                    clear hq
                    go_wp2
                    go_roundw
                    case rel => exact ⟨j + 1, by omega, by go_num, rfl, rfl, (by first | rfl | trivial), Hn2.out⟩
                    case measure => simp [intOf]; omega
              · have Hn2 := Lib.hid (show ∀ i, i < N.length → nextOk g (bestTo g k).2 ((bestTo g k).1 - L.length) (gAt N i) = false from fun i hi => hno.out i (by omega))
                obtain ⟨f, rfl⟩ : ∃ f', f = f' + 1 := ⟨f - 1, by omega⟩
                have e : ringF g = L := by rw [HF2.out, ringGo_none g _ _ f a L N hlt2 HN.out Hn2.out]
                have He := Lib.hid e; clear e
                go_wp2_with fail
                try rw [Exit.noGoto_ret]
                go_ret
                exact ⟨_, rfl, by rw [He.out]; exact owns_base hown3 (show w.heap.size ≤ w.heap.size + 2 by omega), hI3.below⟩
          · go_wp2_with fail
            try rw [Exit.noGoto_ret]
            go_ret
            have e : ringF g = L := by rw [HF2.out, ringGo_stop _ _ _ _ _ _ hlt2]
            exact ⟨_, rfl, by rw [e]; exact owns_base hown2 (by omega), hI2.below⟩
end Go.Proofs.YtiililidehddmaaDoor
