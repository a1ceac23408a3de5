import Derived.Test.YtlgkkjhkanpmhaaB7
namespace Go.Proofs.Ytlgkkjhkanpmhaa
open Go.RowKit Go.Maps Go.WideShapes

theorem far_any (base : Option Addr) (n cap : Nat) (w : World) (h : n ≤ 9223372036854775807) : Calls Try.prog 6 #[.slice base n cap] w fun e w' => e = .returned (.bool (decide (40 < n))) ∧ w = w' := by
  go_enter Try.func6, Try.ntmps6
  go_wp2
  go_ret
  exact ⟨by simp; omega, rfl⟩

theorem pair_cell {w : World} {B : Nat} {T : TypeId} {base : Option Addr} {n cap : Nat} {ps : List (Nat × Nat)} (h : w.ownsRow B T 2 (.slice base n cap) n (pcells ps)) (j : Nat) (p : Nat × Nat) (hj : ps[j]? = some p) :
    ∃ b, base = some ⟨b, 0, none⟩ ∧ w.cell? ⟨b, j * 2, none⟩ = some (.int .i64 (p.1 : Int)) ∧ w.cell? ⟨b, j * 2 + 1, none⟩ = some (.int .i64 (p.2 : Int)) := by
  obtain ⟨h1, h2⟩ := pcells_at ps j p hj
  have hl := h.1
  have hlt : j * 2 < (pcells ps).length := (List.getElem?_eq_some_iff.1 h1).1
  rcases h.2 with ⟨hv, h0⟩ | ⟨g, cap, cur, hv, _⟩
  · omega
  · injection hv with e1 e2 e3
    subst e1
    have c1 := h.cells (g := g) rfl _ _ h1
    have c2 := h.cells (g := g) rfl _ _ h2
    rw [Addr.add_mid, Nat.zero_add] at c1 c2
    exact ⟨g, rfl, c1, c2⟩

/-- The world inside the law's loop. -/
structure LIn (w wr : World) (b1 b2 : Option Addr) (c1 c2 : Nat) (bx : Nat) (ps : List (Nat × Nat)) : Prop where
  below : Below w.heap.size w wr
  a : ∃ B, wr.ownsRow B 32 2 (.slice b1 ps.length c1) ps.length (pcells ps)
  b : ∃ B, wr.ownsRow B 35 2 (.slice b2 ps.length c2) ps.length (pcells ps)
  p : ∀ q qs, ps = q :: qs → wr.cell? ⟨bx, 0, none⟩ = some (.int .i64 (q.1 : Int)) ∧ wr.cell? ⟨bx, 1, none⟩ = some (.int .i64 (q.2 : Int))
theorem LIn.more {w wr w1 : World} {b1 b2 : Option Addr} {c1 c2 bx : Nat} {ps : List (Nat × Nat)} (h : LIn w wr b1 b2 c1 c2 bx ps) (hb : Below wr.heap.size wr w1) : LIn w w1 b1 b2 c1 c2 bx ps := by
  refine ⟨h.below.trans (hb.mono h.below.size), ?_, ?_, fun q qs e => ?_⟩
  · obtain ⟨B, h1⟩ := h.a; exact ⟨B, owns_keep h1 hb⟩
  · obtain ⟨B, h1⟩ := h.b; exact ⟨B, owns_keep h1 hb⟩
  · obtain ⟨h1, h2⟩ := h.p q qs e
    exact ⟨by rw [hb.cell (World.block_lt_of_cell? _ _ h1)]; exact h1, by rw [hb.cell (World.block_lt_of_cell? _ _ h2)]; exact h2⟩

theorem keepc {w w1 : World} (hb : Below w.heap.size w w1) {a : Addr} {v : Value} (h : w.cell? a = some v) : w1.cell? a = some v := by
  rw [hb.cell (World.block_lt_of_cell? _ _ h)]; exact h

theorem neq_pair (x y : Int) (w : World) : (binOp .neq 32 (.agg #[.int .i64 x, .int .i64 y]) (.agg #[.int .i64 x, .int .i64 y])).run Try.prog w = .ok (.bool false) w := by
  go_simp

set_option maxHeartbeats 4000000 in
theorem RaceAll_any (L : List Acc) (base : Option Addr) (cap : Nat) (w : World) (hL : AccAt w base L) (hW : WfL L) (hn : L.length ≤ 9223372036854775807) :
    Calls Try.prog 3 #[.slice base L.length cap] w fun e w' => e = .returned (.bool true) ∧ Below w.heap.size w w' := by
  by_cases hbig : 40 < L.length
  · have hd : decide (40 < L.length) = true := decide_eq_true hbig
    go_enter Try.func3, Try.ntmps3
    go_wp2_with fail
    refine (far_any base L.length cap _ hn).mono ?_
    rintro e w1 ⟨rfl, rfl⟩
    rw [hd]
    go_wp2_with fail
    refine (alive_any _).mono ?_
    rintro e w1 ⟨rfl, hb1⟩
    go_wp2
    go_ret
    exact ⟨rfl, hb1⟩
  · have hd : decide (40 < L.length) = false := decide_eq_false hbig
    have hl40 : L.length ≤ 40 := by omega
    clear hbig
    have hlen : (allTo L L.length).length ≤ 1600 := Nat.le_trans (allTo_len L _) (Nat.mul_le_mul hl40 hl40)
    have hmil : L.length ≤ 1000000 := by omega
    go_enter Try.func3, Try.ntmps3
    go_wp2_with fail
    refine (far_any base L.length cap _ hn).mono ?_
    rintro e w1 ⟨rfl, rfl⟩
    rw [hd]
    go_wp2_with fail
    refine (theirs_any L base cap _ hL hW (by omega)).mono ?_
    rintro e w1 ⟨v1, rfl, hown1, hb1⟩
    obtain ⟨base1, cap1, rfl, hL1⟩ := owns_acc hown1 rfl
    go_wp2_with fail
    refine (All_any L base1 cap1 _ hL1 hW hmil).mono ?_
    rintro e w2 ⟨v2, rfl, hown2, hb2⟩
    have hb12 := hb1.trans (hb2.mono hb1.size)
    go_wp2_with fail
    refine (RAll_any L base cap _ (hL.more hb12) hW hmil).mono ?_
    rintro e w3 ⟨v3, rfl, hown3, hb3⟩
    have hb13 := hb12.trans (hb3.mono hb12.size)
    have hown2 := owns_keep hown2 hb3
    clear hL1 hown1
    go_wp2_with fail
    refine (theirs_any L base cap _ (hL.more hb13) hW (by omega)).mono ?_
    rintro e w4 ⟨v4, rfl, hown4, hb4⟩
    obtain ⟨base4, cap4, rfl, hL4⟩ := owns_acc hown4 rfl
    have hb14 := hb13.trans (hb4.mono hb13.size)
    have hown2 := owns_keep hown2 hb4
    have hown3 := owns_keep hown3 hb4
    go_wp2_with fail
    refine (First_any L base4 cap4 _ hL4 hW hmil).mono ?_
    rintro e w5 ⟨rfl, hb5⟩
    have hb15 := hb14.trans (hb5.mono hb14.size)
    have hown2 := owns_keep hown2 hb5
    have hown3 := owns_keep hown3 hb5
    obtain ⟨b2, c2, rfl⟩ := owns_slice hown2
    obtain ⟨b3, c3, rfl⟩ := owns_slice hown3
    clear hL hW hL4 hown4 hb1 hb2 hb3 hb4 hb5 hb12 hb13 hb14
    generalize allTo L L.length = ps at *
    cases ps with
    | nil =>
      unfold firstV
      have hl0 : ([] : List (Nat × Nat)).length = 0 := rfl
      rw [hl0]
      have hal : Below w5.heap.size w5 (w5.alloc (.cells #[.int .i64 0, .int .i64 0] 32)) := (Below.refl _ _).alloc (Nat.le_refl _) _
      have hb16 := hb15.trans (hal.mono hb15.size)
      go_wp2_with fail
      refine wp_loop_rounds 1 ?_
      rw [rounds_succ]
      go_wp2_with fail
      refine (alive_any _).mono ?_
      rintro e w7 ⟨rfl, hb7⟩
      go_wp2
      go_ret
      exact ⟨rfl, hb16.trans (hb7.mono hb16.size)⟩
    | cons q qs =>
      have efi : firstV (q :: qs) = .tuple #[.agg #[.int .i64 (q.1 : Int), .int .i64 (q.2 : Int)], .bool true] := rfl
      rw [efi]
      clear efi
      have hI : LIn w (w5.alloc (.cells #[.int .i64 (q.1 : Int), .int .i64 (q.2 : Int)] 32)) b2 b3 c2 c3 w5.heap.size (q :: qs) := by
        have hal : Below w5.heap.size w5 (w5.alloc (.cells #[.int .i64 (q.1 : Int), .int .i64 (q.2 : Int)] 32)) := (Below.refl _ _).alloc (Nat.le_refl _) _
        refine ⟨hb15.trans (hal.mono hb15.size), ⟨_, owns_keep hown2 hal⟩, ⟨_, owns_keep hown3 hal⟩, fun q' qs' e => ?_⟩
        injection e with e1 e2
        subst e1
        exact ⟨cell_of_row _ _ _ _ _ _ (heap_alloc_new _ _), cell_of_row _ _ _ _ _ _ (heap_alloc_new _ _)⟩
      clear hown2 hown3 hb15
      obtain ⟨ps, hps⟩ : ∃ ps, q :: qs = ps := ⟨_, rfl⟩
      have hpos : 0 < ps.length := by rw [← hps]; simp
      rw [hps] at hI hlen ⊢
      have Hps := Lib.hid hps; clear hps
      have hne : decide (0 < ps.length) = true := decide_eq_true hpos
      have HI := Lib.hid hI; clear hI
      go_wp2_with fail
      go_loopw [7, 36] (fun _ i wr => ∃ k : Nat, k ≤ ps.length ∧ i = .int .i64 k ∧ LIn w wr b2 b3 c2 c3 w5.heap.size ps) (fun _ i _ => ps.length - (intOf i).toNat)
      case atStart => exact ⟨0, by omega, rfl, HI.out⟩
      case round =>
        obtain ⟨k, hk, rfl, hI⟩ := hrel
        clear HI
        by_cases hlt : k < ps.length
        · obtain ⟨B1, ha⟩ := hI.a
          obtain ⟨B2, hb⟩ := hI.b
          obtain ⟨r, hr⟩ : ∃ r, ps[k]? = some r := ⟨_, List.getElem?_eq_getElem hlt⟩
          obtain ⟨x1, e1, a1, a2⟩ := pair_cell ha k r hr
          obtain ⟨x2, e2, a3, a4⟩ := pair_cell hb k r hr
          obtain ⟨x1', e1', a5, a6⟩ := pair_cell ha 0 q (by rw [← Hps.out]; rfl)
          subst e1 e2
          injection e1' with e1'
          injection e1' with e1'
          subst e1'
          obtain ⟨p1, p2⟩ := hI.p q qs Hps.out.symm
          clear hr ha hb
          have hI1 := fun n => hI.more (below_dn wr n)
          rw [Nat.zero_mul] at a5 a6
          by_cases k0 : k = 0
          · have b0 : ((k : Int) == 0) = true := by rw [beq_iff_eq]; omega
            have K0 := Lib.hid k0; clear k0
            have hneq := fun w => neq_pair (q.1 : Int) (q.2 : Int) w
            go_wp2
            go_quiet (fail)
            all_goals go_wp2
            all_goals go_roundw
            case rel => exact ⟨k + 1, by omega, by go_num, hI1 _⟩
            case measure => simp [intOf]; omega
          · have b0 : ((k : Int) == 0) = false := by rw [beq_eq_false_iff_ne]; omega
            go_wp2
            go_quiet (fail)
            all_goals go_wp2
            all_goals go_roundw
            case rel => exact ⟨k + 1, by omega, by go_num, hI1 _⟩
            case measure => simp [intOf]; omega
        · go_wp2_with fail
          refine (alive_any _).mono ?_
          rintro e w7 ⟨rfl, hb7⟩
          go_wp2
          go_ret
          exact ⟨rfl, (hI.more hb7).below⟩
end Go.Proofs.Ytlgkkjhkanpmhaa
