import Derived.Test.YtiililidehddmaaDoorB2
import Derived.RegionTactic
import Derived.BigRegion
namespace Go.Proofs.YtiililidehddmaaDoor
open Go.RowKit Go.Lib Go.Sort

/-- What 'Order' reckons. -/
@[irreducible] def orderF (g : List Nat) : Option (List Nat) := orderGo g 64 (bitsOf (allTo g 64)) 0 []
theorem orderF_eq (g : List Nat) : orderF g = orderGo g 64 (bitsOf (allTo g 64)) 0 [] := by unfold orderF; rfl

theorem gAt_erase_lt {l : List Nat} (h : ∀ i, i < l.length → gAt l i < 64) (j : Nat) : ∀ i, i < (l.eraseIdx j).length → gAt (l.eraseIdx j) i < 64 := by
  intro i hi
  have hm := gAt_mem _ _ hi
  have hm' : gAt (l.eraseIdx j) i ∈ l := List.mem_of_mem_eraseIdx hm
  obtain ⟨k, hk, e⟩ := gAt_of_mem hm'
  rw [← e]; exact h k hk

theorem owns_kept {w w' : World} {B B' n : Nat} {v : Value} {xs : List Value} {r : Option Nat} (h : w.ownsRow B 3 1 v n xs) (hg : w.grownBy w' r) (hr : ∀ k, r = some k → k < B' ∧ B' ≤ B) : w'.ownsRow B 3 1 v n xs := by
  refine h.kept hg ?_
  cases hv : v.ownBlock with
  | none => exact .inl rfl
  | some k =>
    right
    intro e
    have h1 := h.lt k hv
    have h2 := hr k e.symm
    omega

set_option maxHeartbeats 2000000 in
theorem Order_any (g : List Nat) (hg : WfG g) (w : World) (hT : Tab w) :
    Calls Tryd.prog 10 #[gval g] w fun e w' => ∃ v, e = .returned (.tuple #[v, .bool (orderB (orderF g))]) ∧ w'.ownsRow w.heap.size 3 1 v (orderL (orderF g)).length (ints (orderL (orderF g))) ∧ Below w.heap.size w w' := by
  have hmf : ∀ (fn : Fn) (first cap : Array Value) (w : World), (Instr.makeFunc fn first cap).run Tryd.prog w = .ok (.func fn first cap) w := fun _ _ _ _ => rfl
  have hO : OrdIn w ((w.alloc (.cells (gcells g).toArray 33)).alloc (.cells #[.int .u64 ((0 : Nat) : Int)] 30)) g 0 := {
    below := ((Below.refl _ _).alloc (Nat.le_refl _) _).alloc (by simp) _
    box := (Below.heap_alloc _ _ _ (by simp)).trans (heap_alloc_new _ _)
    done := by have := heap_alloc_new (w.alloc (.cells (gcells g).toArray 33)) (.cells #[.int .u64 ((0 : Nat) : Int)] 30); simpa using this
    size := by simp }
  have HO := Lib.hid hO; clear hO
  have hTa : Tab ((w.alloc (.cells (gcells g).toArray 33)).alloc (.cells #[.int .u64 0] 30)) := (hT.alloc _).alloc _
  have hal := allTo_lt hg 64 (Nat.le_refl _)
  unfold gval
  go_enter Tryd.func10, Tryd.ntmps10
  go_wp2_with (refine load_g rfl _ rfl _ rfl g hg.len (heap_alloc2_old _ _ _) ?_)
  refine (all_any g hg _).mono ?_
  rintro e w1 ⟨rfl, hb1⟩
  have hT1 : Tab w1 := hTa.below hb1 hTa.size
  have hO1 : OrdIn w w1 g 0 := HO.out.more hb1
  go_wp2_with fail
  refine (list_any _ hal _ hT1).mono ?_
  rintro e w2 ⟨v, rfl, hown, hb2⟩
  have hO2 := hO1.more hb2
  have hown2 := owns_base hown hO1.size
  have hl64 : ∀ i, i < (bitsOf (allTo g 64)).length → gAt (bitsOf (allTo g 64)) i < 64 := fun i hi => bit_lt hal ((mem_bitsOf hal).1 (gAt_mem _ i hi))
  have Hl64 := Lib.hid hl64; clear hl64
  have hlen := bitsOf_len (allTo g 64)
  have hlt2 : ∀ k, v.ownBlock = some k → k < w2.heap.size := fun k hk => (hown.lt k hk).2
  have Hlt2 := Lib.hid hlt2; clear hlt2 hown hb2 hb1 hT1 hO1
  have hM2 := hO2.size
  generalize hM : w2.heap.size = M at *
  have HM := Lib.hid hM; clear hM
  go_wp2_with fail
  go_loopw [4, 6, 7] (fun lv leftv _ wr => ∃ (left l : List Nat) (d f : Nat), d < 2 ^ 64 ∧ left.length ≤ f ∧ l.length + left.length ≤ 64 ∧ Hid (∀ i, i < left.length → gAt left i < 64) ∧ OrdIn w wr g d ∧ wr.ownsRow (w.heap.size + 2) 3 1 leftv left.length (ints left) ∧ Hid (∀ k, leftv.ownBlock = some k → k < M)
    ∧ wr.ownsRow M 3 1 lv l.length (ints l) ∧ M ≤ wr.heap.size ∧ Hid (orderF g = orderGo g f left d l)) (fun _ v _ _ => lenOf v)
  case atStart => exact ⟨bitsOf (allTo g 64), [], 0, 64, by decide, hlen, by simpa using hlen, Hl64, hO2, hown2, Hlt2, World.ownsRow_nil _ _ _ _, Nat.le_of_eq HM.out.symm, orderF_eq g⟩
  case round =>
    obtain ⟨left, l, d, f, hd, hf, hll, hl64, hO, hownL, hblk, hown, hMr, HF⟩ := hrel
    by_cases h0 : left = []
    · subst h0
      obtain ⟨base, cap, rfl⟩ := owns_len hownL
      go_wp2
      have e : orderF g = some l := by rw [HF.out, orderGo_done]
      have He := Lib.hid e; clear e
      go_ret2
      have e1 : orderB (orderF g) = true := by rw [He.out]; rfl
      have e2 : orderL (orderF g) = l := by rw [He.out]; rfl
      rw [e1, e2]
      exact ⟨_, rfl, owns_base hown (by have := hO.size; omega), hO.below⟩
    · obtain ⟨f, rfl⟩ : ∃ f', f = f' + 1 := ⟨f - 1, by have : left.length ≠ 0 := fun e => h0 (List.eq_nil_of_length_eq_zero e); omega⟩
      have hpos : 0 < left.length := by have : left.length ≠ 0 := fun e => h0 (List.eq_nil_of_length_eq_zero e); omega
      have hnn := Lib.hid h0; clear h0
      obtain ⟨base, cap, rfl, hrd⟩ := owns_reads hownL
      have hcell := hO.cell
      go_wp2_with fail
      refine (index_any g hg d _ _ _ _ left base hl64.out (by omega) hd _ hO.box hcell hrd).mono ?_
      rintro e w3 ⟨rfl, hb3⟩
      have hO3 := hO.more hb3
      have hownL3 := owns_more hownL hb3
      have hown3 := owns_more hown hb3
      have hz3 := hb3.size
      obtain ⟨hi, _⟩ | ⟨j, hj, hi, _, _, _⟩ := idxOf_cases (free g d) left
      · have e : orderF g = none := by rw [HF.out, orderGo_none _ _ _ _ _ hnn.out (by omega)]
        have He := Lib.hid e; clear e
        clear hcell
        go_wp2
        go_ret2
        have e1 : orderB (orderF g) = false := by rw [He.out]; rfl
        have e2 : orderL (orderF g) = [] := by rw [He.out]; rfl
        rw [e1, e2]
        exact ⟨_, rfl, World.ownsRow_nil _ _ _ _, hO3.below⟩
      · have Hstep := Lib.hid (orderGo_step g f d j left l hnn.out hi)
        obtain ⟨b, hbase, hB, hcj⟩ := (hrd.mono hb3) j hj
        subst hbase
        have hx64 := hl64.out j hj
        have hbM : b < M := hblk.out b rfl
        have hL2 : l.length + 1 ≤ 1099511627776 := by omega
        have hB2 : M ≤ w3.heap.size := by omega
        clear hcell
        go_wp2_with (at_builtin; refine app_int rfl _ _ rfl hown3 _ rfl rfl hL2 hB2 ?_; intro v' w4 hown4 hg4)
        have hG := G_trans (World.grownBy_alloc w3 (.cells #[.int .i64 ((gAt left j : Nat) : Int)] 3) _) hg4
        have hrow := fun k hk => (hown3.lt k hk).1
        have hO4 := hO3.kept hG (fun k hk => by have := hrow k hk; omega)
        have hownL4 := World.ownsRow.kept hownL3 hG (.inr (fun e => by have := hrow b e.symm; omega))
        have hcj4 : w4.cell? ⟨b, j, none⟩ = some (.int .i64 ((gAt left j : Nat) : Int)) := hG.cell hcj (fun e => by have := hrow b e.symm; omega)
        have hdc := hO4.cell
        have hdf := frozen_of_row _ _ 0 _ _ hO4.done
        have hM4 : M ≤ w4.heap.size := Nat.le_trans hB2 hG.size
        have hor := or_pow d (gAt left j) hd hx64
        have Hor := Lib.hid hor; clear hor
        clear hcj hO3 hownL3 hown3 hg4 hG hrow hrd
        go_region
        rw [Hor.out]
        have hd' : d ||| 2 ^ gAt left j < 2 ^ 64 := Nat.or_lt_two_pow hd (Nat.pow_lt_pow_right (by omega) hx64)
        have hO5 := (hO4.store (d ||| 2 ^ gAt left j)).kept (G_drew _ none) (fun k hk => by cases hk)
        have hownL5 := World.ownsRow.kept (ownsRow_setCell_below hownL4 (a := ⟨w.heap.size + 1, 0, none⟩) (by show w.heap.size + 1 < w.heap.size + 2; omega) (.int .u64 ((d ||| 2 ^ gAt left j : Nat) : Int))) (G_drew _ none) (by cases hq : Value.ownBlock _ <;> simp)
        have hown5 := World.ownsRow.kept (ownsRow_setCell_below hown4 (a := ⟨w.heap.size + 1, 0, none⟩) (by show w.heap.size + 1 < M; omega) (.int .u64 ((d ||| 2 ^ gAt left j : Nat) : Int))) (G_drew _ none) (by cases hq : Value.ownBlock _ <;> simp)
        have hM5 : M ≤ (w4.setCell ⟨w.heap.size + 1, 0, none⟩ (.int .u64 ((d ||| 2 ^ gAt left j : Nat) : Int))).drew.heap.size := by simpa [World.setCell] using hM4
        clear hO4 hownL4 hcj4 hdc hdf hM4 hown4
        generalize (w4.setCell ⟨w.heap.size + 1, 0, none⟩ (.int .u64 ((d ||| 2 ^ gAt left j : Nat) : Int))).drew = w5 at *
        go_wp2_with fail
        refine (delete_any b cap j left _ _ hownL5 hj).mono ?_
        rintro e w6 ⟨rfl, hownL6, hG6⟩
        have hO6 := hO5.kept hG6 (fun k hk => by cases hk; exact hB)
        have hown6 := owns_kept (B' := M) hown5 hG6 (fun k hk => by cases hk; omega)
        have hM6 := Nat.le_trans hM5 hG6.size
        have hel : (left.eraseIdx j).length = left.length - 1 := by rw [List.length_eraseIdx, if_pos hj]
        have Hel := Lib.hid hel; clear hel
        go_wp2_with fail
        go_roundw
        case rel =>
          refine ⟨left.eraseIdx j, l ++ [gAt left j], d ||| 2 ^ gAt left j, f, hd', by rw [Hel.out]; omega, by rw [Hel.out, List.length_append]; simp; omega, gAt_erase_lt hl64.out j, hO6, hownL6, ?_, by rw [ints_snoc, List.length_append]; exact hown6, hM6, ?_⟩
          · exact fun k hk => by cases hk; exact hbM
          · show _ = _
            rw [HF.out, Hstep.out]
        case measure => simp only [lenOf]; rw [Hel.out]; omega
end Go.Proofs.YtiililidehddmaaDoor
