import Derived.Test.YtiililidehddmaaDoorF2
import Derived.Test.YtiililidehddmaaDoorA0f
namespace Go.Proofs.YtiililidehddmaaDoor
open Go.RowKit

/-- The first k of a list are all in another one (and b). -/
def okTo (out N : List Nat) (b : Bool) : Nat → Bool
  | 0 => b
  | k + 1 => okTo out N b k && hasN out (gAt N k : Nat)
theorem okTo_zero (out N : List Nat) (b : Bool) : okTo out N b 0 = b := rfl
theorem okTo_succ (out N : List Nat) (b : Bool) (k : Nat) : okTo out N b (k + 1) = (okTo out N b k && hasN out (gAt N k : Nat)) := rfl
attribute [irreducible] okTo

/-- May a node come now, by the reference? -/
def rFree (E : List (Int × Int)) (out : List Nat) (n : Nat) : Bool := okTo out (rNext E (n : Int)) (!hasN out (n : Int)) (rNext E (n : Int)).length
theorem rFree_eq (E : List (Int × Int)) (out : List Nat) (n : Nat) : rFree E out n = okTo out (rNext E (n : Int)) (!hasN out (n : Int)) (rNext E (n : Int)).length := rfl
attribute [irreducible] rFree

def rOrderGo (E : List (Int × Int)) (A : List Nat) : Nat → List Nat → Option (List Nat)
  | 0, out => some out
  | f + 1, out => match A.find? (rFree E out) with | some n => rOrderGo E A f (out ++ [n]) | none => none
theorem rOrderGo_zero (E : List (Int × Int)) (A out : List Nat) : rOrderGo E A 0 out = some out := rfl
theorem rOrderGo_none (E : List (Int × Int)) (A out : List Nat) (f : Nat) (h : ∀ i, i < A.length → rFree E out (gAt A i) = false) : rOrderGo E A (f + 1) out = none := by
  rw [rOrderGo, find_none _ _ h]
theorem rOrderGo_some (E : List (Int × Int)) (A out : List Nat) (f j : Nat) (hj : j < A.length) (h : ∀ i, i < j → rFree E out (gAt A i) = false) (hp : rFree E out (gAt A j) = true) : rOrderGo E A (f + 1) out = rOrderGo E A f (out ++ [gAt A j]) := by
  rw [rOrderGo, find_first _ _ j hj h hp]
attribute [irreducible] rOrderGo
/-- The reference's 'Order'. -/
@[irreducible] def rOrder (E : List (Int × Int)) : Option (List Nat) := rOrderGo E (rAll E) (rAll E).length []
theorem rOrder_eq (E : List (Int × Int)) : rOrder E = rOrderGo E (rAll E) (rAll E).length [] := by unfold rOrder; rfl

/-- The search for the next one, i have been looked at. -/
def BestIs (E : List (Int × Int)) (A out : List Nat) (i : Nat) (b : Int) : Prop :=
  (b = -1 ∧ ∀ i', i' < i → rFree E out (gAt A i') = false) ∨ ∃ j, i = j + 1 ∧ j < A.length ∧ b = (gAt A j : Nat) ∧ (∀ i', i' < j → rFree E out (gAt A i') = false) ∧ rFree E out (gAt A j) = true

def OrderPost (w : World) (r : Option (List Nat)) (e : Ending) (w' : World) : Prop :=
  ∃ v base cap, e = .returned (.tuple #[v, .bool (orderB r)]) ∧ v = .slice base (orderL r).length cap ∧ Reads w' w.heap.size base (orderL r) ∧ Below w.heap.size w w'

set_option maxHeartbeats 4000000 in
theorem rorder_any (E : List (Int × Int)) (br cap : Nat) (base : Option Addr) (w : World) (hR : RD w br base cap E) (hl : E.length ≤ 1099511627776) :
    Calls Tryd.prog 11 #[.pointer (some ⟨br, 0, none⟩)] w (OrderPost w (rOrder E)) := by
  have He := Lib.hid (rOrder_eq E)
  have hAl : (rAll E).length ≤ 64 := by unfold rAll; exact selTo_len _ _
  go_enter Tryd.func11, Tryd.ntmps11
  go_wp2_with fail
  refine (rall_any E br cap base _ hR hl).mono ?_
  rintro e w1 ⟨v, rfl, hown, hb1⟩
  obtain ⟨baseA, capA, rfl, hrdA⟩ := owns_reads hown
  have hR1 := hR.more hb1
  have hsz1 := hb1.size
  clear hown hR
  generalize hA : rAll E = A at *
  have HA := Lib.hid hA; clear hA
  go_wp2_with fail
  go_loopw [5, 6, 7, 8, 9, 10, 11] (fun v i _ _ _ _ _ wr => ∃ (r : Nat) (out : List Nat), r ≤ A.length ∧ out.length = r ∧ i = .int .i64 r ∧ Below w1.heap.size w1 wr ∧ wr.ownsRow w1.heap.size 3 1 v out.length (ints out) ∧ Hid (rOrder E = rOrderGo E A (A.length - r) out)) (fun _ i _ _ _ _ _ _ => A.length - (intOf i).toNat)
  case atStart => exact ⟨0, [], by omega, rfl, rfl, Below.refl _ _, World.ownsRow_nil _ _ _ _, He.out⟩
  case round =>
    obtain ⟨r, out, hr, hor, rfl, hb, hownO, HO⟩ := hrel
    have Hor := Lib.hid hor; clear hor
    have hol : out.length ≤ 64 := by rw [Hor.out]; omega
    obtain ⟨baseO, capO, rfl, hrdO⟩ := owns_reads hownO
    by_cases hlt : r < A.length
    · have b0 : decide ((r : Int) < (A.length : Int)) = true := decide_eq_true (by omega)
      go_wp2_with fail
      obtain ⟨wo, hwo⟩ : ∃ wo : World, wo = wr := ⟨_, rfl⟩
      go_loopw [7, 8, 9, 10, 11] (fun bv iv _ _ _ wi => ∃ (i : Nat) (b : Int), i ≤ A.length ∧ iv = .int .i64 i ∧ bv = .int .i64 b ∧ Hid (BestIs E A out i b) ∧ Below wo.heap.size wo wi) (fun _ i _ _ _ _ => A.length - (intOf i).toNat)
      case atStart => exact ⟨0, -1, by omega, rfl, rfl, .inl ⟨rfl, fun i' h => by omega⟩, by rw [hwo]; exact Below.refl _ _⟩
      case round =>
        obtain ⟨i, b, hi, rfl, rfl, hbest, hbi⟩ := hrel
        subst hwo
        have hbw : Below w1.heap.size w1 wr := hb.trans (hbi.mono hb.size)
        have hRi := hR1.more hbw
        have hrdAi := hrdA.mono hbw
        have hrdOi := hrdO.mono hbi
        have hownOi := owns_more hownO hbi
        have hszi := hbi.size
        have hsz2 := hb.size
        have hol2 : out.length ≤ 1099511627776 := by omega
        rcases hbest.out with ⟨hb1', hno⟩ | ⟨j, hij, hj, hbj, hno, hyes⟩
        · subst hb1'
          have Hno := Lib.hid hno; clear hno hbest
          by_cases hlt2 : i < A.length
          · have b2 : decide ((i : Int) < (A.length : Int)) = true := decide_eq_true (by omega)
            obtain ⟨bA, hbase, hBA, cA⟩ := hrdAi i hlt2
            subst hbase
            have hxA : 0 ≤ ((gAt A i : Nat) : Int) := by omega
            obtain ⟨q, hq⟩ : ∃ q, hasN out (gAt A i : Nat) = q := ⟨_, rfl⟩
            have Hq := Lib.hid hq; clear hq
            have hFree := rFree_eq E out (gAt A i)
            rw [Hq.out] at hFree
            go_wp2_with (first | (go_at_call 29; refine (has_list out _ _ _ _ _ hrdOi hol2).mono ?_; rintro e w5 ⟨rfl, rfl⟩; rw [Hq.out]) | (go_at_call 19; refine (rnext_any E _ br cap base _ hRi hl).mono ?_; rintro e w6 ⟨v6, rfl, hown6, hb6⟩; obtain ⟨baseN, capN, rfl, hrdN⟩ := owns_reads hown6; clear hown6))
            have hNl : (rNext E (gAt A i : Nat)).length ≤ 64 := by unfold rNext; exact selTo_len _ _
            generalize hN : rNext E (gAt A i : Nat) = N at *
            have HN := Lib.hid hN; clear hN
            have HFree := Lib.hid hFree; clear hFree
            have hrdO6 := hrdOi.mono hb6
            have cA6 := keeps_cell hb6 cA
            have hb67 := hbi.trans (hb6.mono hszi)
            clear hRi hrdAi hrdOi hownOi hbw cA
            obtain ⟨wo2, hwo2⟩ : ∃ wo : World, wo = w6 := ⟨_, rfl⟩
            go_loopw [9, 11] (fun ov kv w7 => ∃ k : Nat, k ≤ N.length ∧ kv = .int .i64 k ∧ ov = .bool (okTo out N (!q) k) ∧ w7 = wo2) (fun _ k _ => N.length - (intOf k).toNat)
            case atStart => exact ⟨0, by omega, rfl, by rw [okTo_zero], hwo2.symm⟩
            case round =>
              obtain ⟨k, hk, rfl, rfl, rfl⟩ := hrel
              subst hwo2
              by_cases hlt3 : k < N.length
              · obtain ⟨bN, hbN, _, cN⟩ := hrdN k hlt3
                subst hbN
                have hs := okTo_succ out N (!q) k
                by_cases t1 : okTo out N (!q) k = true
                · obtain ⟨q2, hq2⟩ : ∃ q, hasN out (gAt N k : Nat) = q := ⟨_, rfl⟩
                  have Hs := Lib.hid (show okTo out N (!q) (k + 1) = q2 by rw [hs, t1, hq2]; rfl)
                  have Hq2 := Lib.hid hq2; clear hq2 hs
                  go_wp2_with (go_at_call 29; refine (has_list out _ _ _ _ _ hrdO6 hol2).mono ?_; rintro e w5 ⟨rfl, rfl⟩; rw [Hq2.out])
                  go_roundw
                  case rel => exact ⟨k + 1, by omega, by go_num, by rw [Hs.out], (by first | rfl | trivial)⟩
                  case measure => simp [intOf]; omega
                · have t1' : okTo out N (!q) k = false := by simpa using t1
                  have Hs := Lib.hid (show okTo out N (!q) (k + 1) = false by rw [hs, t1']; rfl)
                  clear t1 hs
                  go_wp2
                  go_roundw
                  case rel => exact ⟨k + 1, by omega, by go_num, by rw [Hs.out], (by first | rfl | trivial)⟩
                  case measure => simp [intOf]; omega
              · have hke := Lib.hid (show k = N.length by omega)
                by_cases t1 : rFree E out (gAt A i) = true
                · have t2 : okTo out N (!q) k = true := by rw [hke.out, ← HFree.out]; exact t1
                  have Hb := Lib.hid (show BestIs E A out (i + 1) ((gAt A i : Nat) : Int) from .inr ⟨i, rfl, hlt2, rfl, Hno.out, t1⟩)
                  clear t1
                  rw [t2]
                  go_wp2
                  go_roundw
                  case rel => exact ⟨i + 1, _, by omega, by go_num, rfl, Hb, hb67⟩
                  case measure => simp [intOf]; omega
                · have t1' : rFree E out (gAt A i) = false := by simpa using t1
                  have t2 : okTo out N (!q) k = false := by rw [hke.out, ← HFree.out]; exact t1'
                  have Hb := Lib.hid (show BestIs E A out (i + 1) (-1) from .inl ⟨rfl, fun i' hi' => by
                    by_cases e : i' = i
                    · rw [e]; exact t1'
                    · exact Hno.out i' (by omega)⟩)
                  clear t1 t1'
                  rw [t2]
                  go_wp2
                  go_roundw
                  case rel => exact ⟨i + 1, _, by omega, by go_num, rfl, Hb, hb67⟩
                  case measure => simp [intOf]; omega
          · have b2 : decide ((i : Int) < (A.length : Int)) = false := decide_eq_false (by omega)
            have e : rOrder E = none := by
              rw [HO.out, show A.length - r = (A.length - r - 1) + 1 from by omega]
              exact rOrderGo_none E A out _ (fun i' hi' => Hno.out i' (by omega))
            have Hres := Lib.hid e; clear e
            go_wp2
            go_ret2
            rw [Hres.out]
            exact ⟨_, none, 0, rfl, rfl, fun j hj => by simp [orderL] at hj, hb1.trans (hbw.mono hsz1)⟩
        · have b2 : decide (b < 0) = false := decide_eq_false (by omega)
          have Hres := Lib.hid (show rOrder E = rOrderGo E A (A.length - (r + 1)) (out ++ [gAt A j]) from by
            rw [HO.out, show A.length - r = (A.length - (r + 1)) + 1 from by omega]
            exact rOrderGo_some E A out _ j hj hno hyes)
          have Hbj := Lib.hid hbj; clear hbj hno hyes hbest
          have hL2 : out.length + 1 ≤ 1099511627776 := by omega
          have hB2 : w1.heap.size ≤ wr.heap.size := by omega
          rw [Hbj.out]
          by_cases hlt2 : i < A.length
          · have b3 : decide ((i : Int) < (A.length : Int)) = true := decide_eq_true (by omega)
            go_wp2_with (at_builtin; refine app_int rfl _ _ rfl hownOi _ rfl rfl hL2 hB2 ?_; intro v' w8 hown8 hg8)
            go_roundw
            case rel => exact ⟨r + 1, out ++ [gAt A j], by omega, by rw [List.length_append, Hor.out]; rfl, by go_num, below_app hbw hB2 hownOi hg8, by rw [ints_snoc, List.length_append]; exact hown8, Hres⟩
            case measure => simp [intOf]; omega
          · have b3 : decide ((i : Int) < (A.length : Int)) = false := decide_eq_false (by omega)
            go_wp2_with (at_builtin; refine app_int rfl _ _ rfl hownOi _ rfl rfl hL2 hB2 ?_; intro v' w8 hown8 hg8)
            go_roundw
            case rel => exact ⟨r + 1, out ++ [gAt A j], by omega, by rw [List.length_append, Hor.out]; rfl, by go_num, below_app hbw hB2 hownOi hg8, by rw [ints_snoc, List.length_append]; exact hown8, Hres⟩
            case measure => simp [intOf]; omega
    · have hre := Lib.hid (show A.length - r = 0 by omega)
      go_wp2
      go_ret2
      have e : rOrder E = some out := by rw [HO.out, hre.out, rOrderGo_zero]
      rw [e]
      exact ⟨_, baseO, capO, rfl, rfl, hrdO.weak hsz1, hb1.trans (hb.mono hsz1)⟩
end Go.Proofs.YtiililidehddmaaDoor
