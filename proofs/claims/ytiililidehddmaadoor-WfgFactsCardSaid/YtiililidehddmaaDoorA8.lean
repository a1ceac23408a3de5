import Derived.Test.YtiililidehddmaaDoorA7
import Derived.Test.YtiililidehddmaaDoorA0d
namespace Go.Proofs.YtiililidehddmaaDoor
open Go.RowKit

/-- The world inside 'ways': the graph's box, the result's cells, the array. -/
structure WaysIn (w wr : World) (g : List Nat) (l : List Int) : Prop where
  below : Below w.heap.size w wr
  box : wr.heap[w.heap.size]? = some (.cells (gcells g).toArray 33 (0, 0))
  res : wr.heap[w.heap.size + 1]? = some (.cells (icells zeroI).toArray 55 (0, 0))
  arr : wr.heap[w.heap.size + 2]? = some (.cells (icells l).toArray 55 (0, 0))
  size : w.heap.size + 3 ≤ wr.heap.size
  len : l.length = 64

theorem WaysIn.gcell {w wr : World} {g : List Nat} {l : List Int} (h : WaysIn w wr g l) (hg : WfG g) (k : Nat) (hk : k < 64) : wr.cell? ⟨w.heap.size, k, none⟩ = some (.int .u64 ((gAt g k : Nat) : Int)) := by
  rw [cell_of_row _ _ _ _ _ _ h.box]; exact Go.Proofs.YtiililidehddmaaDoor.gcell g k (by rw [hg.len]; exact hk)
theorem WaysIn.cell {w wr : World} {g : List Nat} {l : List Int} (h : WaysIn w wr g l) (k : Nat) (hk : k < 64) : wr.cell? ⟨w.heap.size + 2, k, none⟩ = some (.int .i64 (iAt l k)) := by
  rw [cell_of_row _ _ _ _ _ _ h.arr]; exact icell l k (by rw [h.len]; exact hk)
theorem WaysIn.free {w wr : World} {g : List Nat} {l : List Int} (h : WaysIn w wr g l) (k : Nat) : wr.frozen? ⟨w.heap.size + 2, k, none⟩ = false :=
  frozen_of_row _ _ _ _ _ h.arr
theorem WaysIn.store {w wr : World} {g : List Nat} {l : List Int} (h : WaysIn w wr g l) (k : Nat) (x : Int) : WaysIn w (wr.setCell ⟨w.heap.size + 2, k, none⟩ (.int .i64 x)) g (l.set k x) where
  below := h.below.setCell (by show w.heap.size ≤ w.heap.size + 2; omega) _
  box := (heap_setCell_other _ _ _ _ (by show w.heap.size ≠ w.heap.size + 2; omega)).trans h.box
  res := (heap_setCell_other _ _ _ _ (by show w.heap.size + 1 ≠ w.heap.size + 2; omega)).trans h.res
  arr := by rw [heap_setCell_same _ _ _ _ _ _ h.arr]; simp [icells, List.map_set]
  size := by simpa [World.setCell] using h.size
  len := by simp [h.len]
theorem WaysIn.more {w wr w1 : World} {g : List Nat} {l : List Int} (h : WaysIn w wr g l) (hb : Below wr.heap.size wr w1) : WaysIn w w1 g l where
  below := h.below.trans (hb.mono (by have := h.size; omega))
  box := (hb.block _ (by have := h.size; omega)).trans h.box
  res := (hb.block _ (by have := h.size; omega)).trans h.res
  arr := (hb.block _ (by have := h.size; omega)).trans h.arr
  size := Nat.le_trans h.size hb.size
  len := h.len

theorem WaysIn.start (w : World) (g : List Nat) : WaysIn w (((w.alloc (.cells (gcells g).toArray 33)).alloc (.cells (icells zeroI).toArray 55)).alloc (.cells (icells zeroI).toArray 55)) g zeroI where
  below := (((Below.refl _ _).alloc (Nat.le_refl _) _).alloc (by simp) _).alloc (by simp; omega) _
  box := (Below.heap_alloc _ _ _ (by simp; omega)).trans ((Below.heap_alloc _ _ _ (by simp)).trans (heap_alloc_new _ _))
  res := (Below.heap_alloc _ _ _ (by simp)).trans (by have := heap_alloc_new (w.alloc (.cells (gcells g).toArray 33)) (.cells (icells zeroI).toArray 55); simpa using this)
  arr := by have := heap_alloc_new ((w.alloc (.cells (gcells g).toArray 33)).alloc (.cells (icells zeroI).toArray 55)) (.cells (icells zeroI).toArray 55); simpa using this
  size := by simp
  len := by simp [zeroI]

/-- A list of numbers read behind a slice value, in blocks from B on. -/
def Reads (w : World) (B : Nat) (base : Option Addr) (L : List Nat) : Prop :=
  ∀ j, j < L.length → ∃ b, base = some ⟨b, 0, none⟩ ∧ B ≤ b ∧ w.cell? ⟨b, j, none⟩ = some (.int .i64 ((gAt L j : Nat) : Int))

theorem owns_reads {w : World} {B n : Nat} {v : Value} {l : List Nat} (h : w.ownsRow B 3 1 v n (ints l)) :
    ∃ base cap, v = .slice base l.length cap ∧ Reads w B base l := by
  obtain ⟨hn, h | h⟩ := owns_ints h
  · obtain ⟨rfl, rfl⟩ := h
    exact ⟨none, 0, rfl, fun j hj => by simp at hj⟩
  · obtain ⟨b, cap, rfl, hB, hc⟩ := h
    exact ⟨some ⟨b, 0, none⟩, cap, by rw [hn], fun j hj => ⟨b, rfl, hB, hc j (by omega)⟩⟩

theorem Reads.store {w : World} {B : Nat} {base : Option Addr} {L : List Nat} (h : Reads w B base L) {p : Addr} (hp : p.block < B) (x : Value) : Reads (w.setCell p x) B base L := by
  intro j hj
  obtain ⟨b, e, hb, hc⟩ := h j hj
  refine ⟨b, e, hb, ?_⟩
  rw [World.cell?_setCell_other _ _ _ _ (by intro e2; rw [e2] at hp; simp at hp; omega)]
  exact hc

theorem Reads.mono {w w1 : World} {B : Nat} {base : Option Addr} {L : List Nat} (h : Reads w B base L) (hb : Below w.heap.size w w1) : Reads w1 B base L := by
  intro j hj
  obtain ⟨b, e, hB, hc⟩ := h j hj
  exact ⟨b, e, hB, (hb.cell (p := ⟨b, j, none⟩) (World.block_lt_of_cell? w _ hc)).trans hc⟩

theorem hi_u64 (x s : Nat) (hx : x < 2 ^ 64) : IntKind.u64.wrap ((x : Int) / 2 ^ s * 2 ^ s) = ((hiOf x s : Nat) : Int) := by
  have e : (x : Int) / 2 ^ s * 2 ^ s = ((hiOf x s : Nat) : Int) := by simp [hiOf]
  have hl := hiOf_lt hx s
  rw [e, IntKind.wrap_u64]
  omega

theorem below_setRow {B : Nat} {a w : World} (h : Below B a w) {g : Nat} (hg : B ≤ g) (cs : Array Value) : Below B a (w.setRow g cs) :=
  h.trans ⟨rfl, rfl, rfl, by simp, fun k hk => setRow_other w g k _ (by omega)⟩

set_option maxHeartbeats 2000000 in
theorem ways_any (g : List Nat) (hg : WfG g) (s : Nat) (hs : s < 64) (w : World) (hT : Tab w) :
    Calls Tryd.prog 30 #[gval g, .int .i64 s] w fun e w' => ∃ l : List Int, e = .returned (.agg (icells l).toArray) ∧ l.length = 64 ∧ (∀ n, n < 64 → iAt l n = ((waysW g s 64 n : Nat) : Int)) ∧ Below w.heap.size w w' := by
  have H0 := Lib.hid (WaysIn.start w g)
  unfold gval
  go_enter Tryd.func30, Tryd.ntmps30
  go_wp2_with (refine row_alloc rfl 55 rfl _ (Tryd.zero55 _) ?_)
  go_loopw [6, 11] (fun _ i wr => ∃ (k : Nat) (l : List Int), k ≤ 64 ∧ i = .int .i64 k ∧ WaysIn w wr g l ∧ ∀ n, n < k → iAt l n = 65) (fun _ i _ => 64 - (intOf i).toNat)
  case atStart => exact ⟨0, zeroI, by omega, rfl, H0.out, fun n h => by omega⟩
  case round =>
    obtain ⟨k, l, hk, rfl, hI, hl⟩ := hrel
    by_cases hlt : k < 64
    · have hc := hI.cell k hlt
      have hf := hI.free k
      have Hl := Lib.hid hl; clear hl
      go_wp2
      go_roundw
      case rel =>
        refine ⟨k + 1, l.set k 65, by omega, by go_num, hI.store k 65, fun n hn => ?_⟩
        rw [iAt_set _ _ _ _ (by rw [hI.len]; exact hlt)]
        split
        · rfl
        · exact Hl.out n (by omega)
      case measure => simp [intOf]; omega
    · have hke := Lib.hid (show k = 64 by omega)
      have Hl := Lib.hid hl; clear hl
      go_wp2_with fail
      obtain ⟨wo, hwo⟩ : ∃ wo : World, wo = wr := ⟨_, rfl⟩
      go_loopw [7, 8, 10, 34, 35, 36] (fun i _ _ _ _ _ wr => ∃ (r : Nat) (l : List Int), r ≤ 64 ∧ i = .int .i64 ((r : Int) + 1) ∧ WaysIn w wr g l ∧ ∀ n, n < 64 → iAt l n = ((waysW g s r n : Nat) : Int)) (fun i _ _ _ _ _ _ => 65 - (intOf i).toNat)
      case atStart => exact ⟨0, l, by omega, rfl, hI, fun n hn => by rw [Hl.out n (by rw [hke.out]; exact hn), waysW_zero]; rfl⟩
      case round =>
        obtain ⟨r, l, hr, rfl, hI, hl⟩ := hrel
        have Hl := Lib.hid hl; clear hl
        by_cases hlt : r < 64
        · clear hwo
          have b0 : decide ((r : Int) + 1 ≤ 64) = true := decide_eq_true (by omega)
          go_wp2_with fail
          obtain ⟨wo2, hwo2⟩ : ∃ wo : World, wo = wr := ⟨_, rfl⟩
          go_loopw [8, 10, 34, 35, 36] (fun i _ _ _ _ wr => ∃ (m : Nat) (l : List Int), s ≤ m ∧ m ≤ 64 ∧ i = .int .i64 m ∧ WaysIn w wr g l ∧ ∀ n, n < 64 → iAt l n = ((midW g s r m n : Nat) : Int)) (fun i _ _ _ _ _ => 64 - (intOf i).toNat)
          case atStart => exact ⟨s, l, Nat.le_refl _, by omega, rfl, hI, fun n hn => by rw [midW_start]; exact Hl.out n hn⟩
          case round =>
            obtain ⟨m, l, hsm, hm, rfl, hI, hl⟩ := hrel
            have Hl := Lib.hid hl; clear hl
            clear hwo2
            by_cases hlt2 : m < 64
            · have hw := hi_u64 (gAt g m) s (hg.lt m)
              have hc := hI.gcell hg m hlt2
              have hT' : Tab wr := hT.below hI.below hT.size
              have hx := hiOf_lt (hg.lt m) s
              go_wp2_with fail
              refine (list_any _ hx _ hT').mono ?_
              rintro e w1 ⟨v, rfl, hown, hb⟩
              have hI1 := hI.more hb
              have hl1 : ∀ n, n < 64 → iAt l n = (((if n = m then waysW g s r m else midW g s r m n) : Nat) : Int) := fun n hn => by
                rw [Hl.out n hn]
                split
                · rename_i e; rw [e, midW_self]
                · rfl
              have hz1 := hI.size
              clear hI hc hw hT'
              obtain ⟨base, cap, rfl, hrd⟩ := owns_reads hown
              clear hown hb
              have Hl1 := Lib.hid hl1; clear hl1
              generalize hL : bitsOf (hiOf (gAt g m) s) = L at *
              have HL := Lib.hid hL; clear hL
              have hLn : L.length ≤ 64 := by rw [← HL.out]; exact bitsOf_len _
              go_wp2_with fail
              obtain ⟨wo3, hwo3⟩ : ∃ wo : World, wo = w1 := ⟨_, rfl⟩
              go_loopw [10, 36] (fun _ i wi => ∃ (j : Nat) (l : List Int), j ≤ L.length ∧ i = .int .i64 j ∧ WaysIn w wi g l ∧ Reads wi wr.heap.size base L ∧ ∀ n, n < 64 → iAt l n = (((if n = m then inW g s r m j else midW g s r m n) : Nat) : Int)) (fun _ i _ => L.length - (intOf i).toNat)
              case atStart => exact ⟨0, l, by omega, rfl, hI1, hrd, fun n hn => by rw [Hl1.out n hn]; rw [inW_zero]⟩
              case round =>
                obtain ⟨j, l, hj, rfl, hI, hrd, hl⟩ := hrel
                clear hwo3
                by_cases hlt3 : j < L.length
                · obtain ⟨b, hbase, hB, hcj⟩ := hrd j hlt3
                  have hmem : gAt L j ∈ bitsOf (hiOf (gAt g m) s) := by rw [HL.out]; exact gAt_mem L j hlt3
                  have hk64 : gAt L j < 64 := bit_lt hx ((mem_bitsOf hx).1 hmem)
                  clear hmem
                  have hcm := hI.cell m hlt2
                  have hck := hI.cell (gAt L j) hk64
                  have hfm := hI.free m
                  rw [hl m hlt2, if_pos rfl] at hcm
                  rw [hl (gAt L j) hk64] at hck
                  have Hl := Lib.hid hl; clear hl
                  obtain ⟨y, hy⟩ : ∃ y, (if gAt L j = m then inW g s r m j else midW g s r m (gAt L j)) = y := ⟨_, rfl⟩
                  rw [hy] at hck
                  have Hy := Lib.hid hy; clear hy
                  obtain ⟨x, hx65⟩ : ∃ x, inW g s r m j = x := ⟨_, rfl⟩
                  rw [hx65] at hcm
                  have Hx := Lib.hid hx65; clear hx65
                  by_cases t1 : x = 65
                  · subst t1
                    by_cases hks : gAt L j = s
                    · have b2 : (((gAt L j : Nat) : Int) == (s : Int)) = true := by rw [beq_iff_eq]; omega
                      have b3 : (((gAt L j : Nat) : Int) != (s : Int)) = false := by rw [bne_eq_false_iff_eq]; omega
                      by_cases hr0 : r = 0
                      · have b4 : ((r : Int) + 1 == 1) = true := by rw [beq_iff_eq]; omega
                        have Hs := Lib.hid (in_next (y := y) hlt HL.out hlt3 Hx.out Hy.out (by simp only [Bool.or_eq_true, Bool.and_eq_true, beq_iff_eq, bne_iff_ne]; omega))
                        have Hks := Lib.hid hks; have Hr0 := Lib.hid hr0; clear hks hr0
                        go_wp2
                        go_roundw
                        case rel =>
                          refine ⟨j + 1, l.set m ((r : Int) + 1), by omega, by go_num, hI.store m _, hrd.store (by show w.heap.size + 2 < _; omega) _, fun n hn => ?_⟩
                          rw [iAt_set _ _ _ _ (by rw [hI.len]; exact hlt2), Hl.out n hn, Hs.out]
                          by_cases e : n = m
                          · rw [if_pos e.symm, if_pos e]; rfl
                          · rw [if_neg (fun h => e h.symm), if_neg e, if_neg e]
                        case measure => simp [intOf]; omega
                      · have b4 : ((r : Int) + 1 == 1) = false := by rw [beq_eq_false_iff_ne]; omega
                        have Hs := Lib.hid (in_same (y := y) hlt HL.out hlt3 Hy.out (.inr (by simp only [Bool.or_eq_false_iff, Bool.and_eq_false_iff, beq_eq_false_iff_ne, bne_eq_false_iff_eq]; omega)))
                        have Hks := Lib.hid hks; clear hks
                        go_wp2
                        go_roundw
                        case rel => exact ⟨j + 1, l, by omega, by go_num, hI, hrd, fun n hn => by rw [Hl.out n hn, Hs.out]⟩
                        case measure => simp [intOf]; omega
                    · have b2 : (((gAt L j : Nat) : Int) == (s : Int)) = false := by rw [beq_eq_false_iff_ne]; omega
                      have b3 : (((gAt L j : Nat) : Int) != (s : Int)) = true := by rw [bne_iff_ne]; omega
                      by_cases hyr : y = r
                      · have b4 : ((y : Int) == (r : Int)) = true := by rw [beq_iff_eq]; omega
                        have Hs := Lib.hid (in_next (y := y) hlt HL.out hlt3 Hx.out Hy.out (by simp only [Bool.or_eq_true, Bool.and_eq_true, beq_iff_eq, bne_iff_ne]; omega))
                        have Hyr := Lib.hid hyr; clear hyr
                        go_wp2
                        go_roundw
                        case rel =>
                          refine ⟨j + 1, l.set m ((r : Int) + 1), by omega, by go_num, hI.store m _, hrd.store (by show w.heap.size + 2 < _; omega) _, fun n hn => ?_⟩
                          rw [iAt_set _ _ _ _ (by rw [hI.len]; exact hlt2), Hl.out n hn, Hs.out]
                          by_cases e : n = m
                          · rw [if_pos e.symm, if_pos e]; rfl
                          · rw [if_neg (fun h => e h.symm), if_neg e, if_neg e]
                        case measure => simp [intOf]; omega
                      · have b4 : ((y : Int) == (r : Int)) = false := by rw [beq_eq_false_iff_ne]; omega
                        have Hs := Lib.hid (in_same (y := y) hlt HL.out hlt3 Hy.out (.inr (by simp only [Bool.or_eq_false_iff, Bool.and_eq_false_iff, beq_eq_false_iff_ne, bne_eq_false_iff_eq]; omega)))
                        go_wp2
                        go_roundw
                        case rel => exact ⟨j + 1, l, by omega, by go_num, hI, hrd, fun n hn => by rw [Hl.out n hn, Hs.out]⟩
                        case measure => simp [intOf]; omega
                  · have b1 : ((x : Int) == 65) = false := by rw [beq_eq_false_iff_ne]; omega
                    have Hs := Lib.hid (in_same (y := y) hlt HL.out hlt3 Hy.out (.inl (by rw [Hx.out]; exact t1)))
                    clear hck
                    go_wp2
                    go_roundw
                    case rel => exact ⟨j + 1, l, by omega, by go_num, hI, hrd, fun n hn => by rw [Hl.out n hn, Hs.out]⟩
                    case measure => simp [intOf]; omega
                · have hje := Lib.hid (show j = L.length by omega)
                  have Hl := Lib.hid hl; clear hl
                  go_wp2
                  go_roundw
                  case rel =>
                    refine ⟨m + 1, l, by omega, by omega, by go_num, hI, fun n hn => ?_⟩
                    rw [Hl.out n hn, hje.out, ← HL.out, inW_end _ _ _ _ hsm, midW_next _ _ _ _ _]
                  case measure => simp [intOf]; omega
            · have hme := Lib.hid (show m = 64 by omega)
              go_wp2
              go_roundw
              case rel => exact ⟨r + 1, l, by omega, by go_num, hI, fun n hn => by rw [Hl.out n hn, hme.out, midW_end _ _ _ _ hn]⟩
              case measure => simp [intOf]; omega
        · have hre := Lib.hid (show r = 64 by omega)
          go_wp2_with (first | (refine load_i rfl _ rfl _ rfl l hI.len hI.arr ?_) | (refine store_i rfl _ _ rfl _ l hI.len rfl rfl (by simp [zeroI] : zeroI.length = 64) hI.res ?_))
          refine bodyPost_ret (v := .agg (icells l).toArray) (results_cell_row Tryd.results30 _ _ _ 55 _ (0, 0) _ rfl (setRow_heap _ _ _ _ _ _ hI.res) Tryd.underlying55 rfl (i_size l hI.len)) rfl ⟨l, rfl, hI.len, fun n hn => by rw [← hre.out]; exact Hl.out n hn, below_setRow hI.below (by omega) _⟩
end Go.Proofs.YtiililidehddmaaDoor
