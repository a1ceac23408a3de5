import Derived.Test.YtiililidehddmaaDoorE0
import Derived.Deep.RegionLaw
namespace Go.Proofs.YtiililidehddmaaDoor
open Go.RowKit

/-- The world inside the law's loop: the graph's box, the reference's graph. -/
structure GIn (w wr : World) (g : List Nat) (v : Value) (E : List (Int × Int)) : Prop where
  below : Below w.heap.size w wr
  box : wr.heap[w.heap.size]? = some (.cells (gcells g).toArray 33 (0, 0))
  rg : RG wr (w.heap.size + 1) v E
  size : w.heap.size + 2 ≤ wr.heap.size
theorem GIn.more {w wr w1 : World} {g : List Nat} {v : Value} {E : List (Int × Int)} (h : GIn w wr g v E) (hb : Below wr.heap.size wr w1) : GIn w w1 g v E where
  below := h.below.trans (hb.mono (by have := h.size; omega))
  box := keeps hb h.box
  rg := h.rg.more hb
  size := Nat.le_trans h.size hb.size
theorem GIn.added {w wr w1 : World} {g : List Nat} {v v' : Value} {E E' : List (Int × Int)} (h : GIn w wr g v E) (hr : RG w1 (w.heap.size + 1) v' E') (hg : wr.grownBy w1 (some (w.heap.size + 1))) : GIn w w1 g v' E' where
  below := h.below.grown hg (by have := h.size; omega) (fun k hk => by injection hk; omega)
  box := (hg.block _ (by have := h.size; omega) (fun e => by injection e; omega)).trans h.box
  rg := hr
  size := Nat.le_trans h.size hg.size
theorem GIn.row {w wr : World} {g : List Nat} {v : Value} {E : List (Int × Int)} (h : GIn w wr g v E) (g' : List Nat) : GIn w (wr.setRow w.heap.size (gcells g').toArray) g' v E where
  below := below_setRow h.below (Nat.le_refl _) _
  box := setRow_heap _ _ _ _ _ _ h.box
  rg := by
    refine ⟨(setRow_other _ _ _ _ (by omega)).trans h.rg.cell, h.rg.owns.1, ?_⟩
    rcases h.rg.owns.2 with h2 | ⟨b, cap, cur, hv, hb, hbb, r⟩
    · exact .inl h2
    · exact .inr ⟨b, cap, cur, hv, hb, (setRow_other _ _ _ _ (by omega)).trans hbb, r⟩
  size := by simpa using h.size

theorem Tryd.zero26 (w : World) : (zeroValue 26).run Tryd.prog w = .ok (.agg #[.slice none 0 0]) w := by kernel_rfl

theorem GIn.start (w : World) : GIn w ((w.alloc (.cells (gcells zeroG).toArray 33)).alloc (.cells #[.slice none 0 0] 26)) zeroG (.slice none 0 0) [] where
  below := ((Below.refl _ _).alloc (Nat.le_refl _) _).alloc (by simp) _
  box := (Below.heap_alloc _ _ _ (by simp)).trans (heap_alloc_new _ _)
  rg := ⟨by have := heap_alloc_new (w.alloc (.cells (gcells zeroG).toArray 33)) (.cells #[.slice none 0 0] 26); simpa using this, World.ownsRow_nil _ _ _ _⟩
  size := by simp

theorem GIn.fits {w wr : World} {g : List Nat} {v : Value} {E : List (Int × Int)} (h : GIn w wr g v E) (hl : g.length = 64) : rowFits 64 wr (.pointer (some ⟨w.heap.size, 0, none⟩)) = true := by
  have := rowFits_of h.box
  rw [show (gcells g).toArray.size = 64 from by simp [hl]] at this
  exact this
theorem GIn.val {w wr : World} {g : List Nat} {v : Value} {E : List (Int × Int)} (h : GIn w wr g v E) : rowVal wr (.pointer (some ⟨w.heap.size, 0, none⟩)) = .agg (gcells g).toArray := rowVal_of h.box
theorem GIn.lcell {w wr : World} {g : List Nat} {v : Value} {E : List (Int × Int)} (h : GIn w wr g v E) : wr.cell? ⟨w.heap.size + 1, 0, none⟩ = some v := by rw [cell_of_row _ _ _ _ _ _ h.rg.cell]; rfl
theorem GIn.rd {w wr : World} {g : List Nat} {base : Option Addr} {n cap : Nat} {E : List (Int × Int)} (h : GIn w wr g (.slice base n cap) E) : RD wr (w.heap.size + 1) base cap E := by
  obtain ⟨b', c', e, hr⟩ := h.rg.rd
  injection e with e1 _ e3
  rw [← e1, ← e3] at hr
  exact hr

theorem gr_ne (a b : Int) : (addE a b != rErr a b) = false := by rw [addE_rErr]; simp

attribute [local go_sem ↓] wp_load33

set_option maxHeartbeats 2000000 in
theorem graphs_any (L : List (Int × Int)) (base : Option Addr) (cap : Nat) (n k : Int) (w : World) (hE : EdgesAt w base L) (hT : Tab w) :
    Calls Tryd.prog 4 #[.slice base L.length cap, .int .i64 n, .int .i64 k] w fun e w' => e = .returned (.bool true) ∧ Below w.heap.size w w' := by
  by_cases hbig : 100 < L.length
  · go_enter Tryd.func4, Tryd.ntmps4
    go_wp2_with (go_at_call 7; refine (alive_any _ hT).mono ?_; rintro e w1 ⟨rfl, hb1⟩)
    go_ret
    exact ⟨rfl, hb1⟩
  · have H0 := Lib.hid (GIn.start w)
    go_enter Tryd.func4, Tryd.ntmps4
    go_wp2_with (refine row_alloc rfl 33 rfl _ (Tryd.zero33 _) ?_)
    go_loopw [10, 11, 12, 19, 23] (fun _ _ _ i _ wr => ∃ (j : Nat) (v : Value), j ≤ L.length ∧ i = .int .i64 j ∧ GIn w wr (theirsG (L.take j)) v (rEdges (L.take j))) (fun _ _ _ i _ _ => L.length - (intOf i).toNat)
    case atStart => exact ⟨0, .slice none 0 0, by omega, rfl, H0.out⟩
    case round =>
      obtain ⟨j, v, hj, rfl, hI⟩ := hrel
      have hwf := theirsG_wf (L.take j)
      have hel := rEdges_len (L.take j)
      have htl : (L.take j).length ≤ j := List.length_take_le _ _
      have helj : (rEdges (L.take j)).length ≤ 100 := by omega
      by_cases hlt : j < L.length
      · obtain ⟨b, off, hbase, c1, c2⟩ := (hE.more (hI.below)) j hlt
        subst hbase
        have hs1 := theirsG_snoc (L.take j) (eA L j) (eB L j)
        have hs2 := rEdges_snoc (L.take j) (eA L j) (eB L j)
        rw [← take_snoc_edge L j hlt] at hs1 hs2
        have Hs1 := Lib.hid hs1; have Hs2 := Lib.hid hs2; clear hs1 hs2
        have hel2 : (rEdges (L.take j)).length ≤ 1099511627775 := by omega
        clear htl hel
        generalize theirsG (L.take j) = g at *
        generalize rEdges (L.take j) = E at *
        generalize eA L j = a at *
        generalize eB L j = c at *
        have hI1 : ∀ o, GIn w (wr.alloc o) g v E := fun o => hI.more ((Below.refl _ _).alloc (Nat.le_refl _) o)
        have hgr : ∀ o, (wr.alloc o).heap[w.heap.size]? = some (.cells (gcells g).toArray 33 (0, 0)) := fun o => (hI1 o).box
        have hce : (wr.alloc (.cells #[.int .i64 a, .int .i64 c] 28)).heap[wr.heap.size]? = some (.cells #[.int .i64 a, .int .i64 c] 28 (0, 0)) := heap_alloc_new _ _
        have HI1 := Lib.hid hI1; clear hI1
        have Hgr := Lib.hid hgr; clear hgr
        go_wp2_with (refine load_g rfl _ rfl _ rfl g hwf.len (Hgr.out _) ?_)
        refine (add_any g hwf _ _ _).mono ?_
        rintro e w1 ⟨rfl, hb1⟩
        have hI2 := (HI1.out _).more hb1
        have hce1 := keeps hb1 hce
        unfold gval
        have hwf2 := addF_wf hwf a c
        have hx1 : (w1.alloc (.cells (gcells (addF g a c)).toArray 33)).heap[w1.heap.size]? = some (.cells (gcells (addF g a c)).toArray 33 (0, 0)) := heap_alloc_new _ _
        have hI3 := hI2.more ((Below.refl w1.heap.size w1).alloc (Nat.le_refl _) (.cells (gcells (addF g a c)).toArray 33))
        have hce2 := keeps ((Below.refl w1.heap.size w1).alloc (Nat.le_refl _) (.cells (gcells (addF g a c)).toArray 33)) hce1
        have hea : (w1.alloc (.cells (gcells (addF g a c)).toArray 33)).cell? ⟨wr.heap.size, 0, none⟩ = some (.int .i64 a) := cell_of_row _ _ _ _ _ _ hce2
        have hec : (w1.alloc (.cells (gcells (addF g a c)).toArray 33)).cell? ⟨wr.heap.size, 1, none⟩ = some (.int .i64 c) := cell_of_row _ _ _ _ _ _ hce2
        clear hce hce1 hce2 hb1
        go_wp2_with (first | (refine row_alloc rfl 33 rfl _ (Tryd.zero33 _) ?_) | (refine store_g rfl _ _ rfl _ _ hwf2.len rfl rfl zeroG_wf.len (heap_alloc_new _ _) ?_; rw [setRow_alloc _ _ _ _ _ rfl]))
        refine (radd_any E a c _ v _ hI3.rg hel2).mono ?_
        rintro e w3 ⟨rfl, ⟨v', hr3⟩, hg3⟩
        have hI4 := hI3.added hr3 hg3
        have hsz2 := hI2.size
        have hx3 := (hg3.block _ (by simp) (fun e => by injection e; omega)).trans hx1
        have hne := gr_ne a c
        clear hx1 hea hec hr3 hg3
        by_cases hok : (nodeB a && nodeB c) = true
        · have h0 : addE a c = 0 := by simp only [addE, hok, if_true]
          have h0' : (addE a c != 0) = false := by rw [h0]; rfl
          have H0 := Lib.hid h0; clear h0
          go_wp2_with (first | (refine load_g rfl _ rfl _ rfl _ hwf2.len hx3 ?_) | (refine store_g rfl _ _ rfl _ _ hwf2.len rfl rfl hwf.len hI4.box ?_))
          go_roundw
          case rel => exact ⟨j + 1, v', by omega, by go_num, by rw [Hs1.out, Hs2.out]; exact hI4.row _⟩
          case measure => simp [intOf]; omega
        · have h0 : addE a c = 1 := by simp only [addE]; rw [if_neg hok]
          have h0' : (addE a c != 0) = true := by rw [h0]; rfl
          have hxg : addF g a c = g := by simp only [addF]; rw [if_neg hok]
          have H0 := Lib.hid h0; clear h0
          rw [hxg] at hx3 ⊢
          have hnq := neq_same g hwf.len
          have Hxg := Lib.hid hxg; clear hxg
          go_wp2_with (first | (refine load_g_if rfl _ rfl _ rfl g hwf.len hx3 ?_) | (refine load_g_if rfl _ rfl _ rfl g hwf.len hI4.box ?_) | (refine load_g rfl _ rfl _ rfl g hwf.len hx3 ?_) | (refine store_g rfl _ _ rfl _ g hwf.len rfl rfl hwf.len hI4.box ?_))
          go_roundw
          case rel => exact ⟨j + 1, v', by omega, by go_num, by rw [Hs1.out, Hs2.out, Hxg.out]; exact hI4.row _⟩
          case measure => simp [intOf]; omega
      · have hlk := link_all (L.take j)
        have e : theirsG (L.take j) = theirsG L ∧ rEdges (L.take j) = rEdges L := by rw [show j = L.length by omega, List.take_length]; exact ⟨rfl, rfl⟩
        clear e htl
        generalize theirsG (L.take j) = g at *
        generalize rEdges (L.take j) = E at *
        obtain ⟨base2, cap2, rfl, _⟩ := hI.rg.rd
        have hel2 : E.length ≤ 1099511627776 := by omega
        clear helj
        have hTw : Tab wr := hT.below hI.below hT.size
        have hends := hlk.Ends
        have Eh := Lib.hid (hlk.has n k); have En := Lib.hid (hlk.next n); have Er := Lib.hid (hlk.reach n); have El := Lib.hid hlk.len
        clear hlk H0 hE hbig
        go_wp2_with fail
        have hI := hI.more (Below.refl _ _).drew
        have hTw : Tab wr.drew := hTw.below (Below.refl wr.heap.size wr).drew hTw.size
        have hf := hI.fits hwf.len
        have hv := hI.val
        have hc := hI.lcell
        have hn1 : (rNext E n).length ≤ 1099511627776 := by have := selTo_len (fun k => rHas E n (k : Int)) 64; unfold rNext; omega
        have hn2 : (rReach E n).length ≤ 1099511627776 := by have := selTo_len (fun k => bAt (rounds E n 64) k) 64; unfold rReach; omega
        go_region_law (first | (go_simp; go_at_call 16; refine (has_any g hwf n k _).mono ?_; rintro e wX ⟨rfl, hb⟩; have hI := hI.more hb; have hTw := hTw.below hb hTw.size; have hf := hI.fits hwf.len; have hv := hI.val; have hc := hI.lcell; rw [Eh.out]) | (go_simp; go_at_call 17; refine (rhas_any E n k _ _ _ _ hI.rd hel2).mono ?_; rintro e wX ⟨rfl, rfl⟩) | (go_simp; go_at_call 18; refine (next_any g hwf n _ hTw).mono ?_; rintro e wX ⟨v1, rfl, hown, hb⟩; have hI := hI.more hb; have hTw := hTw.below hb hTw.size; have hf := hI.fits hwf.len; have hv := hI.val; have hc := hI.lcell; rw [En.out] at hown; obtain ⟨b1, c1, rfl, hr1⟩ := owns_reads hown; have hq1 := hn1; clear hown) | (go_simp; go_at_call 19; refine (rnext_any E n _ _ _ _ hI.rd hel2).mono ?_; rintro e wX ⟨v2, rfl, hown, hb⟩; have hI := hI.more hb; have hTw := hTw.below hb hTw.size; have hf := hI.fits hwf.len; have hv := hI.val; have hc := hI.lcell; have hr1 := hr1.mono hb; obtain ⟨b2, c2, rfl, hr2⟩ := owns_reads hown; clear hown) | (go_simp; go_at_call 20; refine (Reach_any g hwf n _ hTw).mono ?_; rintro e wX ⟨v1, rfl, hown, hb⟩; have hI := hI.more hb; have hTw := hTw.below hb hTw.size; have hf := hI.fits hwf.len; have hv := hI.val; have hc := hI.lcell; rw [Er.out] at hown; obtain ⟨b1, c1, rfl, hr1⟩ := owns_reads hown; have hq1 := hn2; clear hown) | (go_simp; go_at_call 21; refine (rreach_any E hends n _ _ _ _ hI.rd hel2).mono ?_; rintro e wX ⟨v2, rfl, hown, hb⟩; have hI := hI.more hb; have hTw := hTw.below hb hTw.size; have hf := hI.fits hwf.len; have hv := hI.val; have hc := hI.lcell; have hr1 := hr1.mono hb; obtain ⟨b2, c2, rfl, hr2⟩ := owns_reads hown; clear hown) | (go_simp; go_at_call 12; refine (same_any _ _ _ _ _ _ _ _ _ hr1 hr2 hq1).mono ?_; rintro e wX ⟨rfl, hb⟩; have hI := hI.more hb; have hTw := hTw.below hb hTw.size; have hf := hI.fits hwf.len; have hv := hI.val; have hc := hI.lcell; rw [sameL_self]; clear hr1 hr2 hq1) | (go_simp; go_at_call 22; refine (Len_any g hwf _).mono ?_; rintro e wX ⟨rfl, hb⟩; have hI := hI.more hb; have hTw := hTw.below hb hTw.size; have hf := hI.fits hwf.len; have hv := hI.val; have hc := hI.lcell; rw [El.out]) | (go_simp; go_at_call 7; refine (alive_any _ hTw).mono ?_; rintro e wX ⟨rfl, hb⟩; have hI := hI.more hb; have hTw := hTw.below hb hTw.size; have hf := hI.fits hwf.len; have hv := hI.val; have hc := hI.lcell))
        all_goals go_wp2
        all_goals go_ret
        all_goals exact ⟨rfl, hI.below⟩
end Go.Proofs.YtiililidehddmaaDoor
