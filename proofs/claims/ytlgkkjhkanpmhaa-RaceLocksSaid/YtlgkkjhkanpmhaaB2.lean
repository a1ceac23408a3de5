import Derived.Test.YtlgkkjhkanpmhaaB1
import Derived.Laws.Bits64b
namespace Go.Proofs.Ytlgkkjhkanpmhaa
open Go.RowKit Go.Maps Go.WideShapes

/-- A cell's state. -/
structure Sta where
  kd : Int
  th : Int
  lk : Nat
def staCells (s : Sta) : List Value := [.int .i64 s.kd, .int .i64 s.th, .int .u64 (s.lk : Int)]
def staV (s : Sta) : Value := .agg (staCells s).toArray
def zeroS : Sta := ⟨0, 0, 0⟩
@[irreducible] def metF (kd : Int) (lk : Nat) : Sta := ⟨if kd = 3 ∧ lk = 0 then 4 else kd, 0, lk⟩
theorem metF_eq (kd : Int) (lk : Nat) : metF kd lk = ⟨if kd = 3 ∧ lk = 0 then 4 else kd, 0, lk⟩ := by unfold metF; rfl
@[irreducible] def nextF (s : Sta) (a : Acc) : Sta :=
  if isOneB a = false then s
  else if s.kd = 0 then ⟨1, a.th, 0⟩
  else if s.kd = 1 ∧ a.th = s.th then s
  else if s.kd = 1 then metF (if a.wr then 3 else 2) a.lk
  else if s.kd = 2 then metF (if a.wr then 3 else 2) (s.lk &&& a.lk)
  else metF s.kd (s.lk &&& a.lk)
theorem nextF_eq (s : Sta) (a : Acc) : nextF s a = (if isOneB a = false then s
  else if s.kd = 0 then ⟨1, a.th, 0⟩
  else if s.kd = 1 ∧ a.th = s.th then s
  else if s.kd = 1 then metF (if a.wr then 3 else 2) a.lk
  else if s.kd = 2 then metF (if a.wr then 3 else 2) (s.lk &&& a.lk)
  else metF s.kd (s.lk &&& a.lk)) := by unfold nextF; rfl

theorem staCells_one (s : Sta) : (staCells s).toArray.all (·.oneCell') = true := by
  rw [Array.all_eq_true_iff_forall_mem]
  intro u hu
  simp only [staCells, List.mem_toArray, List.mem_cons, List.not_mem_nil, or_false] at hu
  rcases hu with rfl | rfl | rfl <;> rfl
theorem zero45 (w : World) : (zeroValue 45).run Try.prog w = .ok (staV zeroS) w := by kernel_rfl
theorem Try.under45 : ∃ d, Try.prog.underlying 45 = some d ∧ d.isRow = true := row_of (by kernel_rfl)
theorem Try.size45 : (Try.prog.info? 45).map (·.size) = some 3 := by kernel_rfl

set_option maxHeartbeats 1000000 in
theorem met_any (kd : Int) (lk : Nat) (hk : lk < 18446744073709551616) (w : World) :
    Calls Try.prog 31 #[.int .i64 kd, .int .u64 (lk : Int)] w fun e w' => e = .returned (staV (metF kd lk)) ∧ Below w.heap.size w w' := by
  have Hm := Lib.hid (metF_eq kd lk)
  generalize metF kd lk = m at *
  by_cases h3 : kd = 3
  · by_cases h0 : lk = 0
    · subst h3 h0
      go_enter Try.func31, Try.ntmps31
      go_wp2
      refine bodyPost_ret (v := staV ⟨4, 0, 0⟩) (by simp [results, Try.results31, go_sem, staV, staCells]) rfl ⟨by rw [Hm.out]; rfl, ?_⟩
      exact (Below.refl _ _).alloc (Nat.le_refl _) _
    · have b0 : ((lk : Int) == 0) = false := by rw [beq_eq_false_iff_ne]; omega
      have Hq := Lib.hid (show m = ⟨3, 0, lk⟩ by rw [Hm.out, if_neg (by omega), h3])
      subst h3
      clear Hm
      go_enter Try.func31, Try.ntmps31
      go_wp2
      refine bodyPost_ret (v := staV ⟨3, 0, lk⟩) (by simp [results, Try.results31, go_sem, staV, staCells]) rfl ⟨by rw [Hq.out], ?_⟩
      exact (Below.refl _ _).alloc (Nat.le_refl _) _
  · have b0 : (kd == 3) = false := by rw [beq_eq_false_iff_ne]; omega
    have Hq := Lib.hid (show m = ⟨kd, 0, lk⟩ by rw [Hm.out, if_neg (by omega)])
    clear Hm
    go_enter Try.func31, Try.ntmps31
    go_wp2
    refine bodyPost_ret (v := staV ⟨kd, 0, lk⟩) (by simp [results, Try.results31, go_sem, staV, staCells]) rfl ⟨by rw [Hq.out], ?_⟩
    exact (Below.refl _ _).alloc (Nat.le_refl _) _

set_option maxHeartbeats 4000000 in
theorem Next_any (s : Sta) (a : Acc) (hl : a.lk < 18446744073709551616) (hs : s.lk < 18446744073709551616) (w : World) :
    Calls Try.prog 27 #[staV s, accV a] w fun e w' => e = .returned (staV (nextF s a)) ∧ Below w.heap.size w w' := by
  have hN := Lib.hid (nextF_eq s a)
  generalize nextF s a = r at *
  have hbelow : Below w.heap.size w (((w.alloc (.cells (staCells s).toArray 45)).alloc (.cells (accCells a).toArray 41)).alloc (.cells (staCells zeroS).toArray 45)) := (((Below.refl _ _).alloc (Nat.le_refl _) _).alloc (by simp) _).alloc (by simp; omega) _
  have hsb : (((w.alloc (.cells (staCells s).toArray 45)).alloc (.cells (accCells a).toArray 41)).alloc (.cells (staCells zeroS).toArray 45)).heap[w.heap.size]? = some (.cells (staCells s).toArray 45 (0, 0)) :=
    (Below.heap_alloc _ _ _ (by simp; omega)).trans ((Below.heap_alloc _ _ _ (by simp)).trans (heap_alloc_new _ _))
  have hab : BoxA (((w.alloc (.cells (staCells s).toArray 45)).alloc (.cells (accCells a).toArray 41)).alloc (.cells (staCells zeroS).toArray 45)) (w.heap.size + 1) 41 a :=
    ⟨(Below.heap_alloc _ _ _ (by simp)).trans (by have := heap_alloc_new (w.alloc (.cells (staCells s).toArray 45)) (.cells (accCells a).toArray 41); simpa using this)⟩
  have hrb : (((w.alloc (.cells (staCells s).toArray 45)).alloc (.cells (accCells a).toArray 41)).alloc (.cells (staCells zeroS).toArray 45)).heap[w.heap.size + 2]? = some (.cells (staCells zeroS).toArray 45 (0, 0)) := by
    have := heap_alloc_new ((w.alloc (.cells (staCells s).toArray 45)).alloc (.cells (accCells a).toArray 41)) (.cells (staCells zeroS).toArray 45); simpa using this
  unfold staV accV
  have hgaa := hab.all
  have hwa := hab.wr
  have hlo : w.heap.size ≤ w.heap.size + 2 := by omega
  go_enter Try.func27, Try.ntmps27
  cases hwr : a.wr
  · rw [hwr] at hwa
    go_wp2_with (first | (refine row_alloc rfl 45 rfl _ (zero45 _) ?_) | (refine load_r rfl 41 _ rfl _ 0 rfl _ hgaa Try.under41 Try.size41 ?_))
    clear hgaa hwa
    generalize hW : ((w.alloc (.cells (staCells s).toArray 45)).alloc (.cells (accCells a).toArray 41)).alloc (.cells (staCells zeroS).toArray 45) = w0 at *
    clear hW
    have h1 := isOne_any a w0
    unfold accV at h1
    refine h1.mono ?_
    clear h1
    rintro e w1 ⟨rfl, hb1⟩
    have hbelow := hbelow.trans (hb1.mono hbelow.size)
    have hsb := keeps hb1 hsb
    have hrb := keeps hb1 hrb
    have hab := hab.keep hb1
    clear hb1
    have s0 : w1.cell? ⟨w.heap.size, 0, none⟩ = some (.int .i64 s.kd) := cell_of_row _ _ _ _ _ _ hsb
    have s1 : w1.cell? ⟨w.heap.size, 1, none⟩ = some (.int .i64 s.th) := cell_of_row _ _ _ _ _ _ hsb
    have s2 : w1.cell? ⟨w.heap.size, 2, none⟩ = some (.int .u64 (s.lk : Int)) := cell_of_row _ _ _ _ _ _ hsb
    have hth := hab.th
    have hlk := hab.lk
    have hN := hN.out
    rw [hwr] at hN
    cases hp1 : isOneB a
    · have HN := Lib.hid (show r = s by rw [hN, if_pos hp1])
      clear hN
      have hsr : w1.rangeAt w.heap.size 0 (staCells s) := by
        intro j v hv
        rw [cell_of_row _ _ _ _ _ _ hsb]
        simpa using hv
      go_wp2_with (first | (refine store_r rfl 45 _ _ rfl (w.heap.size + 2) (staCells s).toArray rfl rfl hrb Try.size45 rfl (staCells_one _) ?_) | (refine load_r rfl 45 _ rfl w.heap.size 0 rfl _ hsr Try.under45 Try.size45 ?_))
      refine bodyPost_ret (v := staV s) (results_cell_row Try.results27 _ _ _ 45 _ (0, 0) _ rfl (setRow_heap _ _ _ _ _ _ hrb) Try.underlying45 rfl Try.size45) rfl ⟨by rw [HN.out]; rfl, below_setRow hbelow (by omega) _⟩
    · rw [if_neg (by rw [hp1]; simp)] at hN
      by_cases k0 : s.kd = 0
      · have HN := Lib.hid (show r = ⟨1, a.th, 0⟩ by rw [hN, if_pos k0])
        clear hN
        rw [k0] at s0
        clear k0
        go_wp2_with (first | (refine store_r rfl 45 _ _ rfl (w.heap.size + 2) (staCells ⟨1, a.th, 0⟩).toArray rfl rfl hrb Try.size45 rfl (staCells_one _) ?_))
        refine bodyPost_ret (v := staV ⟨1, a.th, 0⟩) (results_cell_row Try.results27 _ _ _ 45 _ (0, 0) _ rfl (setRow_heap _ _ _ _ _ _ hrb) Try.underlying45 rfl Try.size45) rfl ⟨by rw [HN.out]; rfl, below_setRow hbelow (by omega) _⟩
      · rw [if_neg k0] at hN
        have b0 : (s.kd == 0) = false := by rw [beq_eq_false_iff_ne]; omega
        by_cases k1 : s.kd = 1
        · by_cases kt : a.th = s.th
          · have HN := Lib.hid (show r = s by rw [hN, if_pos ⟨k1, kt⟩])
            clear hN
            have hsr : w1.rangeAt w.heap.size 0 (staCells s) := by
              intro j v hv
              rw [cell_of_row _ _ _ _ _ _ hsb]
              simpa using hv
            rw [k1] at s0
            have bt : (a.th == s.th) = true := by rw [beq_iff_eq]; exact kt
            clear k1 kt k0 b0
            go_wp2_with (first | (refine store_r rfl 45 _ _ rfl (w.heap.size + 2) (staCells s).toArray rfl rfl hrb Try.size45 rfl (staCells_one _) ?_) | (refine load_r rfl 45 _ rfl w.heap.size 0 rfl _ hsr Try.under45 Try.size45 ?_))
            refine bodyPost_ret (v := staV s) (results_cell_row Try.results27 _ _ _ 45 _ (0, 0) _ rfl (setRow_heap _ _ _ _ _ _ hrb) Try.underlying45 rfl Try.size45) rfl ⟨by rw [HN.out]; rfl, below_setRow hbelow (by omega) _⟩
          · have HN := Lib.hid (show r = metF 2 a.lk by rw [hN, if_neg (fun h => kt h.2), if_pos k1]; rfl)
            clear hN
            have bt : (a.th == s.th) = false := by rw [beq_eq_false_iff_ne]; exact kt
            rw [k1] at s0
            clear k1 kt k0 b0
            go_wp2_with fail
            refine (met_any 2 a.lk hl _).mono ?_
            rintro e w2 ⟨rfl, hb2⟩
            have hrb2 := keeps hb2 hrb
            have hbelow2 := hbelow.trans (hb2.mono hbelow.size)
            go_wp2_with (first | (refine store_r rfl 45 _ _ rfl (w.heap.size + 2) (staCells (metF 2 a.lk)).toArray rfl rfl hrb2 Try.size45 rfl (staCells_one _) ?_))
            refine bodyPost_ret (v := staV (metF 2 a.lk)) (results_cell_row Try.results27 _ _ _ 45 _ (0, 0) _ rfl (setRow_heap _ _ _ _ _ _ hrb2) Try.underlying45 rfl Try.size45) rfl ⟨by rw [HN.out]; rfl, below_setRow hbelow2 (by omega) _⟩
        · rw [if_neg (fun h => k1 h.1), if_neg k1] at hN
          have b1 : (s.kd == 1) = false := by rw [beq_eq_false_iff_ne]; omega
          have hba := bits_and_u64_nat s.lk a.lk hs hl
          have hbl : s.lk &&& a.lk < 18446744073709551616 := Nat.lt_of_le_of_lt Nat.and_le_left hs
          by_cases k2 : s.kd = 2
          · have HN := Lib.hid (show r = metF 2 (s.lk &&& a.lk) by rw [hN, if_pos k2]; rfl)
            clear hN
            rw [k2] at s0
            clear k2 k1 k0 b1 b0
            go_wp2_with fail
            refine (met_any 2 (s.lk &&& a.lk) hbl _).mono ?_
            rintro e w2 ⟨rfl, hb2⟩
            have hrb2 := keeps hb2 hrb
            have hbelow2 := hbelow.trans (hb2.mono hbelow.size)
            go_wp2_with (first | (refine store_r rfl 45 _ _ rfl (w.heap.size + 2) (staCells (metF 2 (s.lk &&& a.lk))).toArray rfl rfl hrb2 Try.size45 rfl (staCells_one _) ?_))
            refine bodyPost_ret (v := staV (metF 2 (s.lk &&& a.lk))) (results_cell_row Try.results27 _ _ _ 45 _ (0, 0) _ rfl (setRow_heap _ _ _ _ _ _ hrb2) Try.underlying45 rfl Try.size45) rfl ⟨by rw [HN.out]; rfl, below_setRow hbelow2 (by omega) _⟩
          · have HN := Lib.hid (show r = metF s.kd (s.lk &&& a.lk) by rw [hN, if_neg k2])
            clear hN
            have b2 : (s.kd == 2) = false := by rw [beq_eq_false_iff_ne]; omega
            clear k2 k1 k0
            go_wp2_with fail
            refine (met_any s.kd (s.lk &&& a.lk) hbl _).mono ?_
            rintro e w2 ⟨rfl, hb2⟩
            have hrb2 := keeps hb2 hrb
            have hbelow2 := hbelow.trans (hb2.mono hbelow.size)
            go_wp2_with (first | (refine store_r rfl 45 _ _ rfl (w.heap.size + 2) (staCells (metF s.kd (s.lk &&& a.lk))).toArray rfl rfl hrb2 Try.size45 rfl (staCells_one _) ?_))
            refine bodyPost_ret (v := staV (metF s.kd (s.lk &&& a.lk))) (results_cell_row Try.results27 _ _ _ 45 _ (0, 0) _ rfl (setRow_heap _ _ _ _ _ _ hrb2) Try.underlying45 rfl Try.size45) rfl ⟨by rw [HN.out]; rfl, below_setRow hbelow2 (by omega) _⟩
  · rw [hwr] at hwa
    go_wp2_with (first | (refine row_alloc rfl 45 rfl _ (zero45 _) ?_) | (refine load_r rfl 41 _ rfl _ 0 rfl _ hgaa Try.under41 Try.size41 ?_))
    clear hgaa hwa
    generalize hW : ((w.alloc (.cells (staCells s).toArray 45)).alloc (.cells (accCells a).toArray 41)).alloc (.cells (staCells zeroS).toArray 45) = w0 at *
    clear hW
    have h1 := isOne_any a w0
    unfold accV at h1
    refine h1.mono ?_
    clear h1
    rintro e w1 ⟨rfl, hb1⟩
    have hbelow := hbelow.trans (hb1.mono hbelow.size)
    have hsb := keeps hb1 hsb
    have hrb := keeps hb1 hrb
    have hab := hab.keep hb1
    clear hb1
    have s0 : w1.cell? ⟨w.heap.size, 0, none⟩ = some (.int .i64 s.kd) := cell_of_row _ _ _ _ _ _ hsb
    have s1 : w1.cell? ⟨w.heap.size, 1, none⟩ = some (.int .i64 s.th) := cell_of_row _ _ _ _ _ _ hsb
    have s2 : w1.cell? ⟨w.heap.size, 2, none⟩ = some (.int .u64 (s.lk : Int)) := cell_of_row _ _ _ _ _ _ hsb
    have hth := hab.th
    have hlk := hab.lk
    have hN := hN.out
    rw [hwr] at hN
    cases hp1 : isOneB a
    · have HN := Lib.hid (show r = s by rw [hN, if_pos hp1])
      clear hN
      have hsr : w1.rangeAt w.heap.size 0 (staCells s) := by
        intro j v hv
        rw [cell_of_row _ _ _ _ _ _ hsb]
        simpa using hv
      go_wp2_with (first | (refine store_r rfl 45 _ _ rfl (w.heap.size + 2) (staCells s).toArray rfl rfl hrb Try.size45 rfl (staCells_one _) ?_) | (refine load_r rfl 45 _ rfl w.heap.size 0 rfl _ hsr Try.under45 Try.size45 ?_))
      refine bodyPost_ret (v := staV s) (results_cell_row Try.results27 _ _ _ 45 _ (0, 0) _ rfl (setRow_heap _ _ _ _ _ _ hrb) Try.underlying45 rfl Try.size45) rfl ⟨by rw [HN.out]; rfl, below_setRow hbelow (by omega) _⟩
    · rw [if_neg (by rw [hp1]; simp)] at hN
      by_cases k0 : s.kd = 0
      · have HN := Lib.hid (show r = ⟨1, a.th, 0⟩ by rw [hN, if_pos k0])
        clear hN
        rw [k0] at s0
        clear k0
        go_wp2_with (first | (refine store_r rfl 45 _ _ rfl (w.heap.size + 2) (staCells ⟨1, a.th, 0⟩).toArray rfl rfl hrb Try.size45 rfl (staCells_one _) ?_))
        refine bodyPost_ret (v := staV ⟨1, a.th, 0⟩) (results_cell_row Try.results27 _ _ _ 45 _ (0, 0) _ rfl (setRow_heap _ _ _ _ _ _ hrb) Try.underlying45 rfl Try.size45) rfl ⟨by rw [HN.out]; rfl, below_setRow hbelow (by omega) _⟩
      · rw [if_neg k0] at hN
        have b0 : (s.kd == 0) = false := by rw [beq_eq_false_iff_ne]; omega
        by_cases k1 : s.kd = 1
        · by_cases kt : a.th = s.th
          · have HN := Lib.hid (show r = s by rw [hN, if_pos ⟨k1, kt⟩])
            clear hN
            have hsr : w1.rangeAt w.heap.size 0 (staCells s) := by
              intro j v hv
              rw [cell_of_row _ _ _ _ _ _ hsb]
              simpa using hv
            rw [k1] at s0
            have bt : (a.th == s.th) = true := by rw [beq_iff_eq]; exact kt
            clear k1 kt k0 b0
            go_wp2_with (first | (refine store_r rfl 45 _ _ rfl (w.heap.size + 2) (staCells s).toArray rfl rfl hrb Try.size45 rfl (staCells_one _) ?_) | (refine load_r rfl 45 _ rfl w.heap.size 0 rfl _ hsr Try.under45 Try.size45 ?_))
            refine bodyPost_ret (v := staV s) (results_cell_row Try.results27 _ _ _ 45 _ (0, 0) _ rfl (setRow_heap _ _ _ _ _ _ hrb) Try.underlying45 rfl Try.size45) rfl ⟨by rw [HN.out]; rfl, below_setRow hbelow (by omega) _⟩
          · have HN := Lib.hid (show r = metF 3 a.lk by rw [hN, if_neg (fun h => kt h.2), if_pos k1]; rfl)
            clear hN
            have bt : (a.th == s.th) = false := by rw [beq_eq_false_iff_ne]; exact kt
            rw [k1] at s0
            clear k1 kt k0 b0
            go_wp2_with fail
            refine (met_any 3 a.lk hl _).mono ?_
            rintro e w2 ⟨rfl, hb2⟩
            have hrb2 := keeps hb2 hrb
            have hbelow2 := hbelow.trans (hb2.mono hbelow.size)
            go_wp2_with (first | (refine store_r rfl 45 _ _ rfl (w.heap.size + 2) (staCells (metF 3 a.lk)).toArray rfl rfl hrb2 Try.size45 rfl (staCells_one _) ?_))
            refine bodyPost_ret (v := staV (metF 3 a.lk)) (results_cell_row Try.results27 _ _ _ 45 _ (0, 0) _ rfl (setRow_heap _ _ _ _ _ _ hrb2) Try.underlying45 rfl Try.size45) rfl ⟨by rw [HN.out]; rfl, below_setRow hbelow2 (by omega) _⟩
        · rw [if_neg (fun h => k1 h.1), if_neg k1] at hN
          have b1 : (s.kd == 1) = false := by rw [beq_eq_false_iff_ne]; omega
          have hba := bits_and_u64_nat s.lk a.lk hs hl
          have hbl : s.lk &&& a.lk < 18446744073709551616 := Nat.lt_of_le_of_lt Nat.and_le_left hs
          by_cases k2 : s.kd = 2
          · have HN := Lib.hid (show r = metF 3 (s.lk &&& a.lk) by rw [hN, if_pos k2]; rfl)
            clear hN
            rw [k2] at s0
            clear k2 k1 k0 b1 b0
            go_wp2_with fail
            refine (met_any 3 (s.lk &&& a.lk) hbl _).mono ?_
            rintro e w2 ⟨rfl, hb2⟩
            have hrb2 := keeps hb2 hrb
            have hbelow2 := hbelow.trans (hb2.mono hbelow.size)
            go_wp2_with (first | (refine store_r rfl 45 _ _ rfl (w.heap.size + 2) (staCells (metF 3 (s.lk &&& a.lk))).toArray rfl rfl hrb2 Try.size45 rfl (staCells_one _) ?_))
            refine bodyPost_ret (v := staV (metF 3 (s.lk &&& a.lk))) (results_cell_row Try.results27 _ _ _ 45 _ (0, 0) _ rfl (setRow_heap _ _ _ _ _ _ hrb2) Try.underlying45 rfl Try.size45) rfl ⟨by rw [HN.out]; rfl, below_setRow hbelow2 (by omega) _⟩
          · have HN := Lib.hid (show r = metF s.kd (s.lk &&& a.lk) by rw [hN, if_neg k2])
            clear hN
            have b2 : (s.kd == 2) = false := by rw [beq_eq_false_iff_ne]; omega
            clear k2 k1 k0
            go_wp2_with fail
            refine (met_any s.kd (s.lk &&& a.lk) hbl _).mono ?_
            rintro e w2 ⟨rfl, hb2⟩
            have hrb2 := keeps hb2 hrb
            have hbelow2 := hbelow.trans (hb2.mono hbelow.size)
            go_wp2_with (first | (refine store_r rfl 45 _ _ rfl (w.heap.size + 2) (staCells (metF s.kd (s.lk &&& a.lk))).toArray rfl rfl hrb2 Try.size45 rfl (staCells_one _) ?_))
            refine bodyPost_ret (v := staV (metF s.kd (s.lk &&& a.lk))) (results_cell_row Try.results27 _ _ _ 45 _ (0, 0) _ rfl (setRow_heap _ _ _ _ _ _ hrb2) Try.underlying45 rfl Try.size45) rfl ⟨by rw [HN.out]; rfl, below_setRow hbelow2 (by omega) _⟩
end Go.Proofs.Ytlgkkjhkanpmhaa
