import Derived.Test.YtiililidehddmaaDoorE1
import Derived.Test.YtiililidehddmaaDoorG2
namespace Go.Proofs.YtiililidehddmaaDoor
open Go.RowKit

/-- The world inside the law's loop: the reference's graph. -/
structure RIn (w wr : World) (v : Value) (E : List (Int × Int)) : Prop where
  below : Below w.heap.size w wr
  rg : RG wr w.heap.size v E
  size : w.heap.size + 1 ≤ wr.heap.size
theorem RIn.more {w wr w1 : World} {v : Value} {E : List (Int × Int)} (h : RIn w wr v E) (hb : Below wr.heap.size wr w1) : RIn w w1 v E where
  below := h.below.trans (hb.mono (by have := h.size; omega))
  rg := h.rg.more hb
  size := Nat.le_trans h.size hb.size
theorem RIn.added {w wr w1 : World} {v v' : Value} {E E' : List (Int × Int)} (h : RIn w wr v E) (hr : RG w1 w.heap.size v' E') (hg : wr.grownBy w1 (some w.heap.size)) : RIn w w1 v' E' where
  below := h.below.grown hg (by have := h.size; omega) (fun k hk => by injection hk; omega)
  rg := hr
  size := Nat.le_trans h.size hg.size
theorem RIn.start (w : World) : RIn w (w.alloc (.cells #[.slice none 0 0] 26)) (.slice none 0 0) [] where
  below := (Below.refl _ _).alloc (Nat.le_refl _) _
  rg := ⟨heap_alloc_new _ _, World.ownsRow_nil _ _ _ _⟩
  size := by simp
theorem RIn.rd {w wr : World} {base : Option Addr} {n cap : Nat} {E : List (Int × Int)} (h : RIn w wr (.slice base n cap) E) : RD wr w.heap.size base cap E := by
  obtain ⟨b', c', e, hr⟩ := h.rg.rd
  injection e with e1 _ e3
  rw [← e1, ← e3] at hr
  exact hr

theorem ringGo_len (g : List Nat) (s best : Nat) (f : Nat) : ∀ a l, (ringGo g s best f a l).length ≤ l.length + f := by
  induction f with
  | zero => intro a l; rw [ringGo]; omega
  | succ f ih =>
    intro a l
    rw [ringGo]
    split
    · split
      · rename_i k _
        have := ih k (l ++ [k])
        rw [List.length_append, show [k].length = 1 from rfl] at this
        omega
      · omega
    · omega
theorem ringF_len (g : List Nat) : (ringF g).length ≤ 65 := by
  unfold ringF
  split
  · simp
  · have := ringGo_len g (bestTo g 64).2 (bestTo g 64).1 64 (bestTo g 64).2 [(bestTo g 64).2]
    rw [show ([(bestTo g 64).2] : List Nat).length = 1 from rfl] at this
    omega
theorem rOrderGo_len (E : List (Int × Int)) (A : List Nat) (f : Nat) : ∀ out r, rOrderGo E A f out = some r → r.length = out.length + f := by
  induction f with
  | zero => intro out r h; rw [rOrderGo_zero] at h; injection h with h; rw [h]; rfl
  | succ f ih =>
    intro out r h
    rw [rOrderGo] at h
    split at h
    · have := ih _ _ h
      rw [this, List.length_append]; simp; omega
    · exact absurd h (by simp)
theorem orderL_len (E : List (Int × Int)) : (orderL (rOrder E)).length ≤ 64 := by
  rw [rOrder_eq]
  unfold orderL
  rcases h : rOrderGo E (rAll E) (rAll E).length [] with _ | r
  · simp
  · have := rOrderGo_len _ _ _ _ _ h
    have hA : (rAll E).length ≤ 64 := by unfold rAll; exact selTo_len _ _
    simp at this ⊢
    omega

theorem far_big (base : Option Addr) (n cap : Nat) (w : World) (h : 14 < n) : Calls Tryd.prog 6 #[.slice base n cap] w fun e w' => e = .returned (.bool true) ∧ w = w' := by
  go_enter Tryd.func6, Tryd.ntmps6
  go_wp2
  go_ret
  exact ⟨by simp; omega, rfl⟩

set_option maxHeartbeats 2000000 in
theorem rings_any (L : List (Int × Int)) (base : Option Addr) (cap : Nat) (w : World) (hE : EdgesAt w base L) (hT : Tab w) :
    Calls Tryd.prog 3 #[.slice base L.length cap] w fun e w' => e = .returned (.bool true) ∧ Below w.heap.size w w' := by
  by_cases hbig : 14 < L.length
  · go_enter Tryd.func3, Tryd.ntmps3
    go_wp2_with fail
    refine (far_big base L.length cap _ hbig).mono ?_
    rintro e w1 ⟨rfl, rfl⟩
    go_wp2_with fail
    refine (alive_any _ hT).mono ?_
    rintro e w1 ⟨rfl, hb1⟩
    go_wp2
    go_ret
    exact ⟨rfl, hb1⟩
  · have H0 := Lib.hid (RIn.start w)
    have hd : decide (14 < L.length) = false := decide_eq_false hbig
    have hl15 : L.length ≤ 1099511627776 := by omega
    go_enter Tryd.func3, Tryd.ntmps3
    go_wp2_with fail
    refine (far_any base L.length cap _ hl15).mono ?_
    rintro e w1 ⟨rfl, rfl⟩
    rw [hd]
    go_wp2_with fail
    go_loopw [5, 16] (fun _ i wr => ∃ (j : Nat) (v : Value), j ≤ L.length ∧ i = .int .i64 j ∧ RIn w wr v (rEdges (L.take j))) (fun _ i _ => L.length - (intOf i).toNat)
    case atStart => exact ⟨0, .slice none 0 0, by omega, rfl, H0.out⟩
    case round =>
      obtain ⟨j, v, hj, rfl, hI⟩ := hrel
      have hel := rEdges_len (L.take j)
      have htl : (L.take j).length ≤ j := List.length_take_le _ _
      by_cases hlt : j < L.length
      · obtain ⟨b, off, hbase, c1, c2⟩ := (hE.more (hI.below)) j hlt
        subst hbase
        have hs2 := rEdges_snoc (L.take j) (eA L j) (eB L j)
        rw [← take_snoc_edge L j hlt] at hs2
        have Hs2 := Lib.hid hs2; clear hs2
        have hel2 : (rEdges (L.take j)).length ≤ 1099511627775 := by omega
        clear htl hel
        generalize rEdges (L.take j) = E at *
        generalize eA L j = a at *
        generalize eB L j = c at *
        have hI1 : ∀ o, RIn w (wr.alloc o) v E := fun o => hI.more ((Below.refl _ _).alloc (Nat.le_refl _) o)
        go_wp2_with fail
        refine (radd_any E a c _ v _ (hI1 _).rg hel2).mono ?_
        rintro e w3 ⟨rfl, ⟨v', hr3⟩, hg3⟩
        have hI4 := (hI1 _).added hr3 hg3
        go_wp2
        go_roundw
        case rel => exact ⟨j + 1, v', by omega, by go_num, by rw [Hs2.out]; exact hI4⟩
        case measure => simp [intOf]; omega
      · have hje := Lib.hid (show L.take j = L by rw [show j = L.length by omega, List.take_length])
        rw [hje.out] at hI
        have hlk := link_all L
        have hwf := hlk.wf
        have Hring := Lib.hid (ring_same hlk)
        have Hord := Lib.hid (order_same hlk)
        obtain ⟨base2, cap2, rfl, _⟩ := hI.rg.rd
        have hel2 : (rEdges L).length ≤ 1099511627776 := by have := rEdges_len L; omega
        have hTw : Tab wr := hT.below hI.below hT.size
        have hEw := hE.more hI.below
        clear hlk H0 hE hel htl hd hbig
        go_wp2_with fail
        refine (theirs_any L base cap _ hEw hl15).mono ?_
        rintro e w1 ⟨rfl, hb1⟩
        have hI1 := hI.more hb1
        have hT1 := hTw.below hb1 hTw.size
        generalize rEdges L = E at *
        generalize theirsG L = g at *
        unfold gval
        go_wp2_with (first | (refine row_alloc rfl 33 rfl _ (Tryd.zero33 _) ?_) | (refine store_g rfl _ _ rfl _ _ hwf.len rfl rfl zeroG_wf.len (heap_alloc_new _ _) ?_; rw [setRow_alloc _ _ _ _ _ rfl]) | (refine load_g rfl _ rfl _ rfl g hwf.len (heap_alloc_new _ _) ?_))
        have hbx : (w1.alloc (.cells (gcells g).toArray 33)).heap[w1.heap.size]? = some (.cells (gcells g).toArray 33 (0, 0)) := heap_alloc_new _ _
        have hba : Below w1.heap.size w1 (w1.alloc (.cells (gcells g).toArray 33)) := (Below.refl w1.heap.size w1).alloc (Nat.le_refl _) _
        have hI2 := hI1.more hba
        have hT2 := hT1.below hba hT1.size
        refine (Order_any g hwf _ hT2).mono ?_
        rintro e w3 ⟨v3, rfl, hown3, hb3⟩
        rw [Hord.out] at hown3 ⊢
        obtain ⟨b3, c3, rfl, hr3⟩ := owns_reads hown3
        clear hown3
        have hbx3 := keeps hb3 hbx
        have hI3 := hI2.more hb3
        have hT3 := hT2.below hb3 hT2.size
        go_wp2_with fail
        refine (rorder_any E _ _ _ _ hI3.rd hel2).mono ?_
        rintro e w4 ⟨v4, b4, c4, rfl, rfl, hr4, hb4⟩
        have hr34 := hr3.mono hb4
        have hbx4 := keeps hb4 hbx3
        have hI4 := hI3.more hb4
        have hT4 := hT3.below hb4 hT3.size
        go_wp2_with (refine load_g rfl _ rfl _ rfl g hwf.len hbx4 ?_)
        refine (Ring_any g hwf _ hT4).mono ?_
        rintro e w5 ⟨v5, rfl, hown5, hb5⟩
        rw [Hring.out] at hown5
        obtain ⟨b5, c5, rfl, hr5⟩ := owns_reads hown5
        clear hown5
        have hr35 := hr34.mono hb5
        have hr45 := hr4.mono hb5
        have hI5 := hI4.more hb5
        have hT5 := hT4.below hb5 hT4.size
        go_wp2_with fail
        refine (rring_any E _ _ _ _ hI5.rd hel2).mono ?_
        rintro e w6 ⟨v6, b6, c6, rfl, rfl, hr6, hb6⟩
        have hr36 := hr35.mono hb6
        have hr46 := hr45.mono hb6
        have hr56 := hr5.mono hb6
        have hI6 := hI5.more hb6
        have hT6 := hT5.below hb6 hT5.size
        have hq1 : (rRing E).length ≤ 1099511627776 := by rw [← Hring.out]; have := ringF_len g; omega
        have hq2 : (orderL (rOrder E)).length ≤ 1099511627776 := by have := orderL_len E; omega
        go_wp2_with fail
        refine (same_any _ _ _ _ _ _ _ _ _ hr56 hr6 hq1).mono ?_
        rintro e w7 ⟨rfl, hb7⟩
        rw [sameL_self]
        have hr37 := hr36.mono hb7
        have hr47 := hr46.mono hb7
        have hI7 := hI6.more hb7
        have hT7 := hT6.below hb7 hT6.size
        go_wp2_with (go_at_call 12; refine (same_any _ _ _ _ _ _ _ _ _ hr37 hr47 hq2).mono ?_; rintro e w8 ⟨rfl, hb8⟩; rw [sameL_self])
        have hI8 := hI7.more hb8
        have hT8 := hT7.below hb8 hT7.size
        refine (alive_any _ hT8).mono ?_
        rintro e w9 ⟨rfl, hb9⟩
        have hI9 := hI8.more hb9
        go_wp2
        go_ret
        exact ⟨rfl, hI9.below⟩
end Go.Proofs.YtiililidehddmaaDoor
