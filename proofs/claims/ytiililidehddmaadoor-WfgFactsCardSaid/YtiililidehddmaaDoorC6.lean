import Derived.Test.YtiililidehddmaaDoorC5
import Derived.Test.YtiililidehddmaaDoorA0h
namespace Go.Proofs.YtiililidehddmaaDoor
open Go.RowKit

def bcells (l : List Bool) : List Value := l.map Value.bool
@[simp] theorem bcells_length (l : List Bool) : (bcells l).length = l.length := by simp [bcells]
theorem bcell (l : List Bool) (k : Nat) (h : k < l.length) : (bcells l).toArray[k]? = some (.bool (bAt l k)) := by
  simp [bcells, bAt, List.getElem?_eq_getElem h]
theorem Tryd.zero59 (w : World) : (zeroValue 59).run Tryd.prog w = .ok (.agg (bcells (List.replicate 64 false)).toArray) w := by kernel_rfl

/-- The world inside the reference's 'Reach'. -/
structure MetIn (w wr : World) (m : List Bool) : Prop where
  below : Below w.heap.size w wr
  row : wr.heap[w.heap.size]? = some (.cells (bcells m).toArray 59 (0, 0))
  size : w.heap.size + 1 ≤ wr.heap.size
  len : m.length = 64
theorem MetIn.more {w wr w1 : World} {m : List Bool} (h : MetIn w wr m) (hb : Below wr.heap.size wr w1) : MetIn w w1 m where
  below := h.below.trans (hb.mono (by have := h.size; omega))
  row := keeps hb h.row
  size := Nat.le_trans h.size hb.size
  len := h.len
theorem MetIn.cell {w wr : World} {m : List Bool} (h : MetIn w wr m) (k : Nat) (hk : k < 64) : wr.cell? ⟨w.heap.size, k, none⟩ = some (.bool (bAt m k)) := by
  rw [cell_of_row _ _ _ _ _ _ h.row]; exact bcell m k (by rw [h.len]; exact hk)
theorem MetIn.free {w wr : World} {m : List Bool} (h : MetIn w wr m) (k : Nat) : wr.frozen? ⟨w.heap.size, k, none⟩ = false := frozen_of_row _ _ _ _ _ h.row
theorem MetIn.store {w wr : World} {m : List Bool} (h : MetIn w wr m) (k : Nat) (x : Bool) : MetIn w (wr.setCell ⟨w.heap.size, k, none⟩ (.bool x)) (m.set k x) where
  below := h.below.setCell (by show w.heap.size ≤ w.heap.size; omega) _
  row := by rw [heap_setCell_same _ _ _ _ _ _ h.row]; simp [bcells, List.map_set]
  size := by simpa [World.setCell] using h.size
  len := by simp [h.len]
theorem MetIn.kept {w wr w1 : World} {m : List Bool} {r : Option Nat} (h : MetIn w wr m) (hg : wr.grownBy w1 r) (hr : ∀ k, r = some k → w.heap.size + 1 ≤ k) : MetIn w w1 m where
  below := h.below.grown hg (by have := h.size; omega) (fun k hk => by have := hr k hk; omega)
  row := (hg.block _ (by have := h.size; omega) (fun e => by have := hr _ e.symm; omega)).trans h.row
  size := Nat.le_trans h.size hg.size
  len := h.len
theorem MetIn.start (w : World) : MetIn w (w.alloc (.cells (bcells (List.replicate 64 false)).toArray 59)) (List.replicate 64 false) where
  below := (Below.refl _ _).alloc (Nat.le_refl _) _
  row := heap_alloc_new _ _
  size := by simp
  len := by simp

def rReach (E : List (Int × Int)) (a : Int) : List Nat := selTo (fun k => bAt (rounds E a 64) k) 64

set_option maxHeartbeats 2000000 in
theorem rreach_any (E : List (Int × Int)) (hE : Ends E) (a : Int) (br cap : Nat) (base : Option Addr) (w : World) (hR : RD w br base cap E) (hl : E.length ≤ 1099511627776) :
    Calls Tryd.prog 21 #[.pointer (some ⟨br, 0, none⟩), .int .i64 a] w fun e w' => ∃ v, e = .returned v ∧ w'.ownsRow w.heap.size 3 1 v (rReach E a).length (ints (rReach E a)) ∧ Below w.heap.size w w' := by
  have H0 := Lib.hid (MetIn.start w)
  obtain ⟨m64, hm64⟩ : ∃ m, rounds E a 64 = m := ⟨_, rfl⟩
  have Hf := Lib.hid (show rReach E a = selTo (fun k => bAt m64 k) 64 from by unfold rReach; rw [hm64])
  have Hm := Lib.hid hm64; clear hm64
  go_enter Tryd.func21, Tryd.ntmps21
  go_wp2_with (refine row_alloc rfl 59 rfl _ (Tryd.zero59 _) ?_)
  go_loopw [6, 7, 8] (fun i _ _ wr => ∃ r : Nat, r ≤ 64 ∧ i = .int .i64 r ∧ MetIn w wr (rounds E a r)) (fun i _ _ _ => 64 - (intOf i).toNat)
  case atStart => exact ⟨0, by omega, rfl, by rw [rounds_zero]; exact H0.out⟩
  case round =>
    obtain ⟨r, hr, rfl, hI⟩ := hrel
    by_cases hlt : r < 64
    · have b0 : decide ((r : Int) < 64) = true := decide_eq_true (by omega)
      have Hrs := Lib.hid (rounds_succ E a r)
      go_wp2_with fail
      obtain ⟨wo, hwo⟩ : ∃ wo : World, wo = wr := ⟨_, rfl⟩
      go_loopw [7, 8] (fun i _ wi => ∃ j : Nat, j ≤ E.length ∧ i = .int .i64 j ∧ MetIn w wi (pass E a (rounds E a r) j)) (fun i _ _ => E.length - (intOf i).toNat)
      case atStart => exact ⟨0, by omega, rfl, by rw [pass_zero]; exact hI⟩
      case round =>
        obtain ⟨j, hj, rfl, hI2⟩ := hrel
        clear hwo hI
        have hR' := hR.more hI2.below
        have hc := hR'.cell
        by_cases hlt2 : j < E.length
        · obtain ⟨b1, off, ha1, c1, c2⟩ := hR'.edges j hlt2
          subst ha1
          obtain ⟨na, hna, hna64⟩ := nodeB_true (hE j hlt2).1
          obtain ⟨nb, hnb, hnb64⟩ := nodeB_true (hE j hlt2).2
          have hps := pass_succ E a (rounds E a r) j
          have hgo : goesOn E a (pass E a (rounds E a r) j) j = ((na : Int) == a || bAt (pass E a (rounds E a r) j) na) := by unfold goesOn; rw [hna, Int.toNat_natCast]
          rw [hgo, hnb, Int.toNat_natCast] at hps
          rw [hna] at c1
          rw [hnb] at c2
          have Hna := Lib.hid hna; clear hna hgo
          have Hnb := Lib.hid hnb; clear hnb
          generalize hm : pass E a (rounds E a r) j = m at *
          have Hm2 := Lib.hid hm; clear hm
          have hI3 : ∀ o, MetIn w (wr.alloc o) m := fun o => hI2.more ((Below.refl _ _).alloc (Nat.le_refl _) o)
          have hcm := (hI3 (.cells #[.int .i64 na, .int .i64 nb] 28)).cell na hna64
          have hcb := (hI3 (.cells #[.int .i64 na, .int .i64 nb] 28)).cell nb hnb64
          have hfb := (hI3 (.cells #[.int .i64 na, .int .i64 nb] 28)).free nb
          have hI4 := hI3 (.cells #[.int .i64 na, .int .i64 nb] 28)
          clear hI3
          by_cases t1 : ((na : Int) == a) = true
          · have Hs := Lib.hid (show pass E a (rounds E a r) (j + 1) = m.set nb true by rw [hps, t1]; rfl)
            clear hps
            go_wp2
            go_roundw
            case rel => exact ⟨j + 1, by omega, by go_num, by rw [Hs.out]; exact hI4.store nb true⟩
            case measure => simp [intOf]; omega
          · have t1' : ((na : Int) == a) = false := by simpa using t1
            clear t1
            by_cases t2 : bAt m na = true
            · have Hs := Lib.hid (show pass E a (rounds E a r) (j + 1) = m.set nb true by rw [hps, t1', t2]; rfl)
              clear hps
              rw [t2] at hcm
              go_wp2
              go_roundw
              case rel => exact ⟨j + 1, by omega, by go_num, by rw [Hs.out]; exact hI4.store nb true⟩
              case measure => simp [intOf]; omega
            · have t2' : bAt m na = false := by simpa using t2
              have Hs := Lib.hid (show pass E a (rounds E a r) (j + 1) = m by rw [hps, t1', t2']; rfl)
              clear hps t2
              rw [t2'] at hcm
              go_wp2
              go_roundw
              case rel => exact ⟨j + 1, by omega, by go_num, by rw [Hs.out]; exact hI4⟩
              case measure => simp [intOf]; omega
        · have hje := Lib.hid (show j = E.length by omega)
          go_wp2
          go_roundw
          case rel => exact ⟨r + 1, by omega, by go_num, by rw [Hrs.out, ← hje.out]; exact hI2⟩
          case measure => simp [intOf]; omega
    · have hre := Lib.hid (show r = 64 by omega)
      have hI2 : MetIn w wr m64 := by rw [← Hm.out, ← hre.out]; exact hI
      clear hI
      obtain ⟨p, hp⟩ : ∃ p : Nat → Bool, (fun k : Nat => bAt m64 k) = p := ⟨_, rfl⟩
      have hpk : ∀ k : Nat, bAt m64 k = p k := fun k => by rw [← hp]
      have Hf2 := Lib.hid (show rReach E a = selTo p 64 from by rw [Hf.out, hp])
      have Hp := Lib.hid hpk; clear hp hpk
      go_wp2_with fail
      obtain ⟨wo, hwo⟩ : ∃ wo : World, wo = wr := ⟨_, rfl⟩
      go_loopw [9, 10] (fun v i wi => ∃ k : Nat, k ≤ 64 ∧ i = .int .i64 k ∧ MetIn w wi m64 ∧ wi.ownsRow (w.heap.size + 1) 3 1 v (selTo p k).length (ints (selTo p k))) (fun _ i _ => 64 - (intOf i).toNat)
      case atStart => exact ⟨0, by omega, rfl, hI2, by rw [show selTo p 0 = [] from by unfold selTo; rfl]; exact World.ownsRow_nil _ _ _ _⟩
      case round =>
        obtain ⟨k, hk, rfl, hI, hown⟩ := hrel
        clear hwo hI2
        by_cases hlt2 : k < 64
        · have hlen := selTo_len p k
          have hz := hI.size
          have hck := hI.cell k hlt2
          rw [Hp.out k] at hck
          by_cases hq : p k = true
          · have Hs := Lib.hid (show selTo p (k + 1) = selTo p k ++ [k] from by rw [selTo_succ, if_pos hq])
            have hL2 : (selTo p k).length + 1 ≤ 1099511627776 := by omega
            rw [hq] at hck
            clear hq
            go_wp2_with (at_builtin; refine app_int rfl _ _ rfl hown _ rfl rfl hL2 hz ?_; intro v' w1 hown1 hg1)
            go_roundw
            case rel => exact ⟨k + 1, by omega, by go_num, hI.kept (G_trans (World.grownBy_alloc _ _ _) hg1) (fun j hj => (hown.lt j hj).1), by rw [Hs.out, ints_snoc, List.length_append]; exact hown1⟩
            case measure => simp [intOf]; omega
          · have hq' : p k = false := by simpa using hq
            have Hs := Lib.hid (show selTo p (k + 1) = selTo p k from by rw [selTo_succ, if_neg (by rw [hq']; simp)])
            rw [hq'] at hck
            clear hq hq'
            go_wp2
            go_roundw
            case rel => exact ⟨k + 1, by omega, by go_num, hI, by rw [Hs.out]; exact hown⟩
            case measure => simp [intOf]; omega
        · have hke := Lib.hid (show k = 64 by omega)
          go_wp2
          go_ret
          exact ⟨_, rfl, by rw [Hf2.out, ← hke.out]; exact owns_base hown (by omega), hI.below⟩
end Go.Proofs.YtiililidehddmaaDoor
