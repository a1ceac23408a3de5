import Derived.Test.YtlgkkjhkanpmhaaE1
namespace Go.Proofs.Ytlgkkjhkanpmhaa
open Go.RowKit Go.Maps Go.WideShapes

/-- The world inside the law: both lists, each in a row of its own. -/
structure LkIn (w wr : World) (B1 B2 g1 g2 : Nat) (n c1 c2 : Nat) (La Lb : List Acc) : Prop where
  below : Below w.heap.size w wr
  a : wr.ownsRow B1 41 12 (.slice (some ⟨g1, 0, none⟩) n c1) n (acells La)
  b : wr.ownsRow B2 41 12 (.slice (some ⟨g2, 0, none⟩) n c2) n (acells Lb)
  la : La.length = n
  lb : Lb.length = n
  lo1 : w.heap.size ≤ g1
  lo2 : w.heap.size ≤ g2
  ne : g1 ≠ g2
theorem LkIn.more {w wr w1 : World} {B1 B2 g1 g2 n c1 c2 : Nat} {La Lb : List Acc} (h : LkIn w wr B1 B2 g1 g2 n c1 c2 La Lb) (hb : Below wr.heap.size wr w1) : LkIn w w1 B1 B2 g1 g2 n c1 c2 La Lb :=
  ⟨h.below.trans (hb.mono h.below.size), owns_keep h.a hb, owns_keep h.b hb, h.la, h.lb, h.lo1, h.lo2, h.ne⟩
theorem LkIn.setA {w wr : World} {B1 B2 g1 g2 n c1 c2 : Nat} {La Lb : List Acc} (h : LkIn w wr B1 B2 g1 g2 n c1 c2 La Lb) (k : Nat) (hk : k < n) (x : Nat) :
    LkIn w (wr.setCell ⟨g1, k * 12 + 11, none⟩ (.int .u64 (x : Int))) B1 B2 g1 g2 n c1 c2 (La.set k { aAt La k with lk := x }) Lb := by
  refine ⟨h.below.setCell h.lo1 _, ?_, owns_other h.b _ (by intro e; injection e with e; exact h.ne e.symm) _, by rw [List.length_set]; exact h.la, h.lb, h.lo1, h.lo2, h.ne⟩
  rw [acells_set La k (by rw [h.la]; exact hk) _ 11 (by omega) _ (set_lk _ _)]
  exact owns_set h.a _ _
theorem LkIn.setB {w wr : World} {B1 B2 g1 g2 n c1 c2 : Nat} {La Lb : List Acc} (h : LkIn w wr B1 B2 g1 g2 n c1 c2 La Lb) (k : Nat) (hk : k < n) (x : Int) :
    LkIn w (wr.setCell ⟨g2, k * 12, none⟩ (.int .i64 x)) B1 B2 g1 g2 n c1 c2 La (Lb.set k { aAt Lb k with th := x }) := by
  refine ⟨h.below.setCell h.lo2 _, owns_other h.a _ (by intro e; injection e with e; exact h.ne e) _, ?_, h.la, by rw [List.length_set]; exact h.lb, h.lo1, h.lo2, h.ne⟩
  rw [acells_set Lb k (by rw [h.lb]; exact hk) _ 0 (by omega) _ (set_th _ _)]
  exact owns_set h.b _ _
theorem LkIn.cellA {w wr : World} {B1 B2 g1 g2 n c1 c2 : Nat} {La Lb : List Acc} (h : LkIn w wr B1 B2 g1 g2 n c1 c2 La Lb) (k : Nat) (hk : k < n) :
    wr.cell? ⟨g1, k * 12 + 11, none⟩ = some (.int .u64 ((aAt La k).lk : Int)) ∧ wr.frozen? ⟨g1, k * 12 + 11, none⟩ = false := by
  have h1 := acells_at La k (by rw [h.la]; exact hk) 11 (by omega)
  have h2 := h.a.cells (g := g1) rfl _ (.int .u64 ((aAt La k).lk : Int)) (h1.trans rfl)
  rw [Addr.add_mid, Nat.zero_add] at h2
  refine ⟨h2, ?_⟩
  obtain ⟨cur, hc⟩ := owns_block h.a (g := g1) rfl
  exact frozen_of_row _ _ _ _ _ hc
theorem LkIn.cellB {w wr : World} {B1 B2 g1 g2 n c1 c2 : Nat} {La Lb : List Acc} (h : LkIn w wr B1 B2 g1 g2 n c1 c2 La Lb) (k : Nat) (hk : k < n) (j : Nat) (hj : j < 12) (v : Value) (hv : (accCells (aAt Lb k))[j]? = some v) :
    wr.cell? ⟨g2, k * 12 + j, none⟩ = some v ∧ wr.frozen? ⟨g2, k * 12 + j, none⟩ = false := by
  have h1 := acells_at Lb k (by rw [h.lb]; exact hk) j hj
  have h2 := h.b.cells (g := g2) rfl _ v (h1.trans hv)
  rw [Addr.add_mid, Nat.zero_add] at h2
  refine ⟨h2, ?_⟩
  obtain ⟨cur, hc⟩ := owns_block h.b (g := g2) rfl
  exact frozen_of_row _ _ _ _ _ hc

theorem shl_bit (n : Nat) : IntKind.u64.wrap ((2 : Int) ^ (n % 64)) = ((2 ^ (n % 64) : Nat) : Int) := by
  have h : (2 : Nat) ^ (n % 64) < 2 ^ 64 := Nat.pow_lt_pow_right (by omega) (Nat.mod_lt _ (by omega))
  have e : ((2 : Int) ^ (n % 64)) = ((2 ^ (n % 64) : Nat) : Int) := by norm_cast
  rw [e]
  generalize (2 : Nat) ^ (n % 64) = x at *
  have : IntKind.u64.wrap (x : Int) = (x : Int) % 18446744073709551616 := by simp [IntKind.wrap, IntKind.bits, IntKind.signed]
  rw [this]
  omega

theorem owns_pos {w : World} {B n : Nat} {T : TypeId} {s : Nat} {v : Value} {xs : List Value} (h : w.ownsRow B T s v n xs) (hn : 0 < n) : ∃ g c, v = .slice (some ⟨g, 0, none⟩) n c ∧ B ≤ g ∧ g < w.heap.size ∧ n ≤ c := by
  rcases h.2 with ⟨_, h0⟩ | ⟨g, cap, cur, rfl, hB, hg, hc, _⟩
  · omega
  · exact ⟨g, cap, rfl, hB, (Array.getElem?_eq_some_iff.1 hg).1, hc⟩
theorem turnA (m B : Nat) (hB : 2 ^ m = B) (L : List Acc) (k : Nat) (hk : k < L.length) :
    (turnTo (orL m) L k).set k { aAt (turnTo (orL m) L k) k with lk := (aAt (turnTo (orL m) L k) k).lk ||| B } = turnTo (orL m) L (k + 1) := by
  rw [turnTo_succ, turnTo_at _ _ _ _ hk, if_neg (by omega)]
  unfold orL
  rw [hB]
theorem turnB (t : Int) (L : List Acc) (k : Nat) (hk : k < L.length) :
    (turnTo (thL t) L k).set k { aAt (turnTo (thL t) L k) k with th := t } = turnTo (thL t) L (k + 1) := by
  rw [turnTo_succ, turnTo_at _ _ _ _ hk, if_neg (by omega)]
  rfl
theorem turn_wfA {m : Nat} (hm : m < 64) {L : List Acc} (hW : WfL L) (k : Nat) : WfL (turnTo (orL m) L k) := fun i hi => by
  rw [turnTo_len] at hi
  rw [turnTo_at _ _ _ _ hi]
  split
  · exact orL_wf hm (hW i hi)
  · exact hW i hi
theorem turn_wfB {t : Int} (ht : (Lit.int .i64 t).wf = true) {L : List Acc} (hW : WfL L) (k : Nat) : WfL (turnTo (thL t) L k) := fun i hi => by
  rw [turnTo_len] at hi
  rw [turnTo_at _ _ _ _ hi]
  split
  · exact thL_wf ht (hW i hi)
  · exact hW i hi
theorem LkIn.accA {w wr : World} {B1 B2 g1 g2 n c1 c2 : Nat} {La Lb : List Acc} (h : LkIn w wr B1 B2 g1 g2 n c1 c2 La Lb) : AccAt wr (some ⟨g1, 0, none⟩) La := by
  obtain ⟨b, c, e, ha⟩ := owns_acc h.a h.la.symm
  injection e with e
  rw [e]; exact ha
theorem LkIn.accB {w wr : World} {B1 B2 g1 g2 n c1 c2 : Nat} {La Lb : List Acc} (h : LkIn w wr B1 B2 g1 g2 n c1 c2 La Lb) : AccAt wr (some ⟨g2, 0, none⟩) Lb := by
  obtain ⟨b, c, e, ha⟩ := owns_acc h.b h.lb.symm
  injection e with e
  rw [e]; exact ha

set_option maxHeartbeats 4000000 in
theorem RaceLocks_any (L : List Acc) (base : Option Addr) (cap : Nat) (ln : Nat) (hln : ln < 256) (t : Int) (ht : (Lit.int .i64 t).wf = true) (w : World) (hL : AccAt w base L) (hW : WfL L) (hn : L.length ≤ 9223372036854775807) :
    Calls Try.prog 5 #[.slice base L.length cap, .int .u8 (ln : Int), .int .i64 t] w fun e w' => e = .returned (.bool true) ∧ Below w.heap.size w w' := by
  by_cases hbig : 40 < L.length
  · have hd : decide (40 < L.length) = true := decide_eq_true hbig
    go_enter Try.func5, Try.ntmps5
    go_wp2_with fail
    refine (far_any base L.length cap _ hn).mono ?_
    rintro e w1 ⟨rfl, rfl⟩
    rw [hd]
    go_wp2_with fail
    refine (alive_any _).mono ?_
    rintro e w1 ⟨rfl, hb1⟩
    go_wp2
    go_ret
    exact ⟨rfl, hb1⟩
  · have hd : decide (40 < L.length) = false := decide_eq_false hbig
    have hl40 : L.length ≤ 40 := by omega
    clear hbig
    have hmil : L.length ≤ 1000000 := by omega
    obtain ⟨m, hm⟩ : ∃ m, ln % 64 = m := ⟨_, rfl⟩
    have hm64 : m < 64 := by omega
    have hsb := shl_bit ln
    rw [hm] at hsb
    have hpow : ((2 : Int) ^ m) = ((2 ^ m : Nat) : Int) := by norm_cast
    have hBlt : (2 : Nat) ^ m < 18446744073709551616 := Nat.pow_lt_pow_right (a := 2) (by omega) hm64
    generalize hB : (2 : Nat) ^ m = B at *
    have HB := Lib.hid hB; clear hB
    rw [hpow] at hsb
    go_enter Try.func5, Try.ntmps5
    go_wp2_with fail
    refine (far_any base L.length cap _ hn).mono ?_
    rintro e w1 ⟨rfl, rfl⟩
    rw [hd]
    go_wp2_with fail
    refine (theirs_any L base cap _ hL hW (by omega)).mono ?_
    rintro e w1 ⟨v1, rfl, hown1, hb1⟩
    have Hv1 := Lib.hid (fun g h => (hown1.lt g h).2)
    go_wp2_with fail
    refine (theirs_any L base cap _ (hL.more hb1) hW (by omega)).mono ?_
    rintro e w2 ⟨v2, rfl, hown2, hb2⟩
    have hown1 := owns_keep hown1 hb2
    have hb12 := hb1.trans (hb2.mono hb1.size)
    clear hL
    by_cases hl0 : L = []
    · subst hl0
      obtain ⟨b1, c1, rfl⟩ := owns_slice hown1
      obtain ⟨b2, c2, rfl⟩ := owns_slice hown2
      have hba := Bares_any [] b1 c1 w2 (fun i hi => by simp at hi) (fun i hi => by simp at hi) (by decide)
      have hzl : ([] : List Acc).length = 0 := rfl
      rw [hzl] at hba ⊢
      clear hown1 hown2 hW
      go_wp2_with fail
      refine wp_loop_rounds 1 ?_
      rw [rounds_succ]
      go_wp2_with fail
      refine wp_loop_rounds 1 ?_
      rw [rounds_succ]
      go_wp2_with fail
      refine hba.mono ?_
      rintro e w3 ⟨vb, q, vc, rfl, hbl, hq, hb3⟩
      have hq0 : q = 0 := locks_none (m := 0) (fun i hi => by simp at hi) hbl
      subst hq0
      go_wp2_with fail
      refine (alive_any _).mono ?_
      rintro e w4 ⟨rfl, hb4⟩
      go_wp2
      go_ret
      exact ⟨rfl, hb12.trans ((hb3.trans (hb4.mono hb3.size)).mono hb12.size)⟩
    · have hpos : 0 < L.length := List.length_pos_iff.2 hl0
      clear hl0
      obtain ⟨g1, c1, rfl, hg1, hg1l, hc1⟩ := owns_pos hown1 hpos
      obtain ⟨g2, c2, rfl, hg2, hg2l, hc2⟩ := owns_pos hown2 hpos
      have hI0 : LkIn w w2 w.heap.size w1.heap.size g1 g2 L.length c1 c2 (turnTo (orL m) L 0) L := by
        rw [turnTo_zero]
        have hlt : g1 < w1.heap.size := Hv1.out g1 rfl
        exact ⟨hb12, hown1, hown2, rfl, rfl, hg1, Nat.le_trans hb1.size hg2, by omega⟩
      have HI0 := Lib.hid hI0; clear hI0 hown1 hown2 hb1 hb2 hb12 hg1 hg2 hg1l hg2l
      have HW := Lib.hid hW; clear hW
      generalize hB1 : w.heap.size = B1 at HI0
      have Hbx := Lib.hid hB1; clear hB1
      go_wp2_with fail
      go_loopw [10, 25] (fun _ i wr => ∃ k : Nat, k ≤ L.length ∧ i = .int .i64 k ∧ LkIn w wr B1 w1.heap.size g1 g2 L.length c1 c2 (turnTo (orL m) L k) L) (fun _ i _ => L.length - (intOf i).toNat)
      case atStart => exact ⟨0, by omega, rfl, HI0.out⟩
      case round =>
        clear HI0
        obtain ⟨k, hk, rfl, hI⟩ := hrel
        by_cases hlt : k < L.length
        · obtain ⟨ca, fa⟩ := hI.cellA k hlt
          have hwa := (turn_wfA hm64 HW.out k k (by rw [turnTo_len]; exact hlt)).lk
          have hS := hI.setA k hlt ((aAt (turnTo (orL m) L k) k).lk ||| B)
          rw [turnA m B HB.out L k hlt] at hS
          generalize (aAt (turnTo (orL m) L k) k).lk = x at *
          have hor := bits_or_u64_nat x B hwa hBlt
          have HS := Lib.hid hS; clear hS
          go_wp2
          go_roundw
          case rel => exact ⟨k + 1, by omega, by go_num, HS.out⟩
          case measure => simp [intOf]; omega
        · have hke := Lib.hid (show k = L.length by omega)
          rw [hke.out] at hI
          have hI0 : LkIn w wr B1 w1.heap.size g1 g2 L.length c1 c2 (turnTo (orL m) L L.length) (turnTo (thL t) L 0) := by rw [turnTo_zero]; exact hI
          clear hI
          have HI0 := Lib.hid hI0; clear hI0
          go_wp2_with fail
          obtain ⟨wo, hwo⟩ : ∃ wo : World, wo = wr := ⟨_, rfl⟩
          go_loopw [11, 12, 40] (fun _ _ i wi => ∃ k : Nat, k ≤ L.length ∧ i = .int .i64 k ∧ LkIn w wi B1 w1.heap.size g1 g2 L.length c1 c2 (turnTo (orL m) L L.length) (turnTo (thL t) L k)) (fun _ _ i _ => L.length - (intOf i).toNat)
          case atStart => exact ⟨0, by omega, rfl, HI0.out⟩
          case round =>
            clear HI0 hwo wo hke hk
            obtain ⟨k, hk, rfl, hI⟩ := hrel
            by_cases hlt : k < L.length
            · have hlb : k < (turnTo (thL t) L k).length := by rw [turnTo_len]; exact hlt
              have hfb := (hI.cellB k hlt 0 (by omega) _ rfl).2
              have hcb := (hI.cellB k hlt 0 (by omega) _ rfl).1
              have hS := hI.setB k hlt t
              rw [turnB t L k hlt] at hS
              have hwfb := turn_wfB ht HW.out (k + 1)
              have hce := (hS.cellB k hlt 1 (by omega) _ rfl).1
              have hcewf := (hwfb k (by rw [turnTo_len]; exact hlt)).ce
              have hth : ∀ i, i < k + 1 → (aAt (turnTo (thL t) L (k + 1)) i).th = t := fun i hi => by
                rw [turnTo_at _ _ _ _ (by omega), if_pos hi]; rfl
              have hlb2 : (turnTo (thL t) L (k + 1)).length = L.length := turnTo_len _ _ _
              have hacc := hS.accB
              generalize hLb : turnTo (thL t) L (k + 1) = Lb at *
              have HLb := Lib.hid hLb; clear hLb
              have hl1 : (Lb.take (k + 1)).length = k + 1 := by rw [List.length_take]; omega
              have hone := sta_one (t := t) (L := Lb.take (k + 1)) (aAt Lb k).ce (k + 1) (by omega) (fun i hi => by rw [aAt_take _ _ _ (by omega)]; exact hth i (by omega))
              have hcell := fun (W : World) (hb : Below (wr.setCell ⟨g2, k * 12, none⟩ (.int .i64 t)).heap.size (wr.setCell ⟨g2, k * 12, none⟩ (.int .i64 t)) W) => Cell_any (Lb.take (k + 1)) (some ⟨g2, 0, none⟩) c2 (aAt Lb k).ce W ((hacc.first (k + 1)).more hb) (fun i hi => by rw [aAt_take _ _ _ (by omega)]; exact hwfb i (by rw [hlb2]; omega)) (by omega) hcewf
              rw [hl1] at hcell
              generalize staTo (Lb.take (k + 1)) (aAt Lb k).ce (k + 1) = st at *
              generalize (aAt Lb k).ce = ce at *
              have Hcell := Lib.hid hcell; clear hcell
              have Hone := Lib.hid hone; clear hone hth hacc hwfb hl1 hlb2 hlb
              have hkc : k + 1 ≤ c2 := by omega
              have hw1 : IntKind.i64.wrap ((k : Int) + 1) = (k : Int) + 1 := IntWalk.i64_in _ (by omega)
              have hk1 : ((k : Int) + 1).toNat = k + 1 := by omega
              have hk2 : (k : Int) + 1 ≤ (c2 : Int) := by omega
              have hk3 : (0 : Int) ≤ (k : Int) + 1 := by omega
              rw [Nat.add_zero] at hfb hcb
              obtain ⟨kd, th, lk⟩ := st
              have Hfd := Lib.hid (fun w => run_field0 kd th lk w)
              have HS := Lib.hid hS; clear hS
              go_wp2_with fail
              generalize hw3 : wr.setCell ⟨g2, k * 12, none⟩ (.int .i64 t) = w3 at *
              clear hw3 hfb hcb hI
              have hd0 : Below w3.heap.size w3 w3.drew := (Below.refl _ _).drew
              have hce2 : w3.drew.cell? ⟨g2, k * 12 + 1, none⟩ = some (.int .i64 ce) := by rw [World.cell?_drew]; exact hce
              clear hce
              go_region_law (go_simp; go_at_call 14; refine (Hcell.out _ hd0).mono ?_; rintro e wX ⟨rfl, hbX⟩; unfold staV staCells; have hfd := Hfd.out wX)
              all_goals
                have hI2 := (HS.out.more hd0).more hbX
                have ho : kd = 0 ∨ kd = 1 := by
                  rcases Hone.out with h | ⟨h, _⟩
                  · exact .inl h
                  · exact .inr h
                rcases ho with rfl | rfl
                all_goals
                  go_wp2
                  go_roundw
                  case rel => exact ⟨k + 1, by omega, by go_num, by rw [HLb.out]; exact hI2⟩
                  case measure => simp [intOf]; omega
            · have hwfa := turn_wfA hm64 HW.out L.length
              have hacc := hI.accA
              have hla : (turnTo (orL m) L L.length).length = L.length := turnTo_len _ _ _
              have hbit : ∀ i, i < (turnTo (orL m) L L.length).length → (aAt (turnTo (orL m) L L.length) i).lk.testBit m = true := fun i hi => by
                rw [hla] at hi
                rw [turnTo_at _ _ _ _ hi, if_pos hi]; exact orL_bit m _
              have hba := Bares_any (turnTo (orL m) L L.length) (some ⟨g1, 0, none⟩) c1 wr hacc hwfa (by omega)
              rw [hla] at hba
              have hbelow := hI.below
              clear hI hacc hwfa
              have Hbit := Lib.hid hbit; clear hbit
              go_wp2_with fail
              refine hba.mono ?_
              rintro e w3 ⟨vb, q, vc, rfl, hbl, hq, hb3⟩
              have hq0 : q = 0 := locks_none Hbit.out hbl
              subst hq0
              go_wp2_with fail
              refine (alive_any _).mono ?_
              rintro e w4 ⟨rfl, hb4⟩
              go_wp2
              go_ret
              exact ⟨rfl, hbelow.trans ((hb3.trans (hb4.mono hb3.size)).mono hbelow.size)⟩
end Go.Proofs.Ytlgkkjhkanpmhaa
