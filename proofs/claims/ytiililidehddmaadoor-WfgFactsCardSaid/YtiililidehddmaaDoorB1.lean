import Derived.Test.YtiililidehddmaaDoorA9
import Derived.Test.YtiililidehddmaaDoorA0f
import Derived.Test.YtiililidehddmaaDoorShelf
import Derived.Lib.OwnBridge
import Derived.Deep.QuietTactic
import Derived.BigQuiet
namespace Go.Proofs.YtiililidehddmaaDoor
open Go.RowKit

theorem beq_zero_cast (x : Nat) : ((x : Int) == 0) = (x == 0) := by
  rw [Bool.eq_iff_iff]; simp

set_option maxHeartbeats 1000000 in
theorem free_any (g : List Nat) (hg : WfG g) (d n bg bd : Nat) (hn : n < 64) (hd : d < 2 ^ 64) (w : World) (hb : w.heap[bg]? = some (.cells (gcells g).toArray 33 (0, 0))) (hc : w.cell? ⟨bd, 0, none⟩ = some (.int .u64 (d : Int))) :
    Calls Tryd.prog 26 #[.int .i64 n, .pointer (some ⟨bg, 0, none⟩), .pointer (some ⟨bd, 0, none⟩)] w fun e w' => e = .returned (.bool (free g d n)) ∧ Below w.heap.size w w' := by
  have hcg : w.cell? ⟨bg, n, none⟩ = some (.int .u64 ((gAt g n : Nat) : Int)) := by rw [cell_of_row _ _ _ _ _ _ hb]; exact gcell g n (by rw [hg.len]; exact hn)
  have hm : bits .andNot .u64 ((gAt g n : Nat) : Int) (d : Int) = ((minus (gAt g n) d : Nat) : Int) := minus_u64 _ _ (hg.lt n) hd
  have Hm := Lib.hid hm; clear hm
  go_enter Tryd.func26, Tryd.ntmps26
  go_wp2_with fail
  go_quiet (fail)
  go_wp2
  go_ret
  refine ⟨?_, below_drewN (Below.refl _ _) _⟩
  exact congrArg (fun b => Ending.returned (.bool b)) (by rw [Hm.out, beq_zero_cast, free_eq])

/-- A world in which nothing that was there has turned keeps the two variables. -/
theorem keeps {w w' : World} (hb : Below w.heap.size w w') {b : Nat} {o : Obj} (h : w.heap[b]? = some o) : w'.heap[b]? = some o :=
  (hb.block b (Array.getElem?_eq_some_iff.1 h).1).trans h
theorem keeps_cell {w w' : World} (hb : Below w.heap.size w w') {a : Addr} {v : Value} (h : w.cell? a = some v) : w'.cell? a = some v :=
  (hb.cell (p := a) (World.block_lt_of_cell? w a h)).trans h

set_option maxHeartbeats 1000000 in
theorem index_any (g : List Nat) (hg : WfG g) (d bg bd B cap : Nat) (L : List Nat) (base : Option Addr) (hL : ∀ i, i < L.length → gAt L i < 64) (hLl : L.length ≤ 64) (hd : d < 2 ^ 64) (w : World)
    (hb : w.heap[bg]? = some (.cells (gcells g).toArray 33 (0, 0))) (hc : w.cell? ⟨bd, 0, none⟩ = some (.int .u64 (d : Int))) (hr : Reads w B base L) :
    Calls Tryd.prog 25 #[.slice base L.length cap, .func (.func 26) #[] #[.pointer (some ⟨bg, 0, none⟩), .pointer (some ⟨bd, 0, none⟩)]] w fun e w' => e = .returned (.int .i64 (idxOf (free g d) L)) ∧ Below w.heap.size w w' := by
  go_enter Tryd.func25, Tryd.ntmps25
  go_wp2_with fail
  go_loopw [5, 8] (fun _ i wr => ∃ k : Nat, k ≤ L.length ∧ i = .int .i64 k ∧ Below w.heap.size w wr ∧ Hid (∀ i, i < k → free g d (gAt L i) = false)) (fun _ i _ => L.length - (intOf i).toNat)
  case atStart => exact ⟨0, by omega, rfl, Below.refl _ _, fun i hi => by omega⟩
  case round =>
    obtain ⟨k, hk, rfl, hbw, hno⟩ := hrel
    by_cases hlt : k < L.length
    · have hk64 := hL k hlt
      obtain ⟨b, hbase, _, hcell⟩ := hr k hlt
      have hcell' := keeps_cell hbw hcell
      have hb' := keeps hbw hb
      have hc' := keeps_cell hbw hc
      clear hcell
      by_cases hf : free g d (gAt L k) = true
      · have e := Lib.hid (idxOf_first (free g d) L k hlt hno.out hf)
        go_wp2_with (go_at_call 26; refine (free_any g hg d _ bg bd hk64 hd _ hb' hc').mono ?_; rintro e w1 ⟨rfl, hb1⟩; simp only [hf])
        go_ret
        exact ⟨by rw [e.out]; rfl, hbw.trans (hb1.mono hbw.size)⟩
      · have hf' : free g d (gAt L k) = false := by simpa using hf
        clear hf
        have Hn := Lib.hid (show ∀ i, i < k + 1 → free g d (gAt L i) = false from fun i hi => by
          by_cases e : i = k
          · rw [e]; exact hf'
          · exact hno.out i (by omega))
        go_wp2_with (go_at_call 26; refine (free_any g hg d _ bg bd hk64 hd _ hb' hc').mono ?_; rintro e w1 ⟨rfl, hb1⟩; simp only [hf'])
        go_roundw
        case rel => exact ⟨k + 1, by omega, by go_num, hbw.trans (hb1.mono hbw.size), Hn.out⟩
        case measure => simp [intOf]; omega
    · have e := Lib.hid (idxOf_none (free g d) L (fun i hi => hno.out i (by omega)))
      go_wp2
      go_ret
      exact ⟨by rw [e.out]; rfl, hbw⟩
end Go.Proofs.YtiililidehddmaaDoor
