import Derived.Test.YtlgkkjhkanpmhaaB6
namespace Go.Proofs.Ytlgkkjhkanpmhaa
open Go.RowKit Go.Maps Go.WideShapes

def acc0 : Acc := ⟨0, 0, true, [1, 0, 0, 0, 0, 0, 0, 0], 0⟩
def acc1 : Acc := ⟨1, 0, true, [0, 1, 0, 0, 0, 0, 0, 0], 0⟩
def twoL : List Acc := [acc0, acc1]
theorem wfc0 : WfC [1, 0, 0, 0, 0, 0, 0, 0] := ⟨rfl, fun k => by
  match k with
  | 0 => decide
  | 1 => decide
  | 2 => decide
  | 3 => decide
  | 4 => decide
  | 5 => decide
  | 6 => decide
  | 7 => decide
  | k + 8 => show gAt _ _ < _; simp [gAt]⟩
theorem wfc1 : WfC [0, 1, 0, 0, 0, 0, 0, 0] := ⟨rfl, fun k => by
  match k with
  | 0 => decide
  | 1 => decide
  | 2 => decide
  | 3 => decide
  | 4 => decide
  | 5 => decide
  | 6 => decide
  | 7 => decide
  | k + 8 => show gAt _ _ < _; simp [gAt]⟩
theorem two_wf : WfL twoL := by
  intro i hi
  match i, hi with
  | 0, _ => exact ⟨wfc0, by decide, by decide, by decide⟩
  | 1, _ => exact ⟨wfc1, by decide, by decide, by decide⟩
theorem two_leq : leqC [1, 0, 0, 0, 0, 0, 0, 0] [0, 1, 0, 0, 0, 0, 0, 0] = false := by
  rw [Bool.eq_false_iff]
  intro h
  have := (leqC_is wfc0 wfc1).1 h 0 (by decide)
  exact absurd this (by decide)
theorem two_leq' : leqC [0, 1, 0, 0, 0, 0, 0, 0] [1, 0, 0, 0, 0, 0, 0, 0] = false := by
  rw [Bool.eq_false_iff]
  intro h
  have := (leqC_is wfc1 wfc0).1 h 1 (by decide)
  exact absurd this (by decide)
theorem two_race : raceB acc0 acc1 = true := by
  rw [raceB_eq, besideC_eq]
  simp only [acc0, acc1, two_leq, two_leq']
  decide
theorem two_all : allTo twoL twoL.length = [(0, 1)] := by
  show allTo twoL 2 = _
  rw [allTo_succ, allTo_succ, allTo_zero]
  have e0 : innerL twoL 0 (List.range 0) = [] := innerL_nil _ _
  have e1 : innerL twoL 1 (List.range 1) = [(0, 1)] := by
    rw [show List.range 1 = [] ++ [0] from rfl, innerL_snoc, innerL_nil]
    have : raceB (aAt twoL 0) (aAt twoL 1) = true := two_race
    rw [if_pos this]; rfl
  rw [e0, e1]; rfl
theorem two_sta : (staTo twoL 0 2).kd = 4 := by
  rw [staTo_succ, staTo_succ, staTo_zero]
  have a0 : aAt twoL 0 = acc0 := rfl
  have a1 : aAt twoL 1 = acc1 := rfl
  rw [a0, a1, if_pos (by rfl), if_pos (by rfl)]
  have n0 : nextF zeroS acc0 = ⟨1, 0, 0⟩ := by rw [nextF_eq]; rfl
  rw [n0, nextF_eq]
  rw [if_neg (by decide), if_neg (by decide), if_neg (by decide), if_pos (by decide), metF_eq]
  rfl
theorem two_none (c : Int) (h : c ≠ 0) : (staTo twoL c 2).kd = 0 := by
  rw [staTo_none]
  · rfl
  · rintro ⟨i, hi, e⟩
    match i, hi with
    | 0, _ => exact h e.symm
    | 1, _ => exact h e.symm
theorem two_bare {m : Nat} (h : BareLen twoL m) : m = 1 := by
  refine h.one 0 (by decide) (fun c _ => ?_)
  show (staTo twoL c 2).kd = 4 ↔ c = 0
  by_cases e : c = 0
  · subst e; exact ⟨fun _ => rfl, fun _ => two_sta⟩
  · rw [two_none c e]; exact ⟨fun h => absurd h (by decide), fun h => absurd h e⟩

theorem run_field0 (kd th lk : Int) (w : World) : (Instr.field 45 (.agg #[.int .i64 kd, .int .i64 th, .int .u64 lk]) 0).run Try.prog w = .ok (.int .i64 kd) w := by kernel_rfl

set_option maxHeartbeats 2000000 in
theorem alive_any (w : World) : Calls Try.prog 7 #[] w fun e w' => e = .returned (.bool true) ∧ Below w.heap.size w w' := by
  have hat : AccAt (w.alloc (.cells (acells twoL).toArray 52)) (some ⟨w.heap.size, 0, none⟩) twoL := by
    intro i hi
    refine ⟨w.heap.size, 0, rfl, fun j v hv => ?_⟩
    have hj : j < 12 := (List.getElem?_eq_some_iff.1 hv).1
    rw [← acells_at twoL i hi j hj] at hv
    rw [show 0 + i * 12 + j = i * 12 + j by omega, cell_of_row _ _ _ _ _ _ (heap_alloc_new _ _)]
    simpa using hv
  have hal : Below w.heap.size w (w.alloc (.cells (acells twoL).toArray 52)) := (Below.refl _ _).alloc (Nat.le_refl _) _
  have hth := theirs_any twoL (some ⟨w.heap.size, 0, none⟩) 2 _ hat two_wf (by decide)
  have Hth := Lib.hid hth; clear hth hat
  go_enter Try.func7, Try.ntmps7
  go_wp2_with fail
  refine Hth.out.mono ?_
  clear Hth
  rintro e w1 ⟨v, rfl, hown, hb1⟩
  have hb1 := hal.trans (hb1.mono hal.size)
  obtain ⟨base, cap, rfl, hL⟩ := owns_acc hown rfl
  clear hown hal
  have hfi := First_any twoL base cap w1 hL two_wf (by decide)
  rw [two_all] at hfi
  have hce := fun w' (hb : Below w1.heap.size w1 w') => Cell_any twoL base cap 0 w' (hL.more hb) two_wf (by decide) (by decide)
  have hba := fun w' (hb : Below w1.heap.size w1 w') => Bares_any twoL base cap w' (hL.more hb) two_wf (by decide)
  have hst : staTo twoL 0 twoL.length = staTo twoL 0 2 := rfl
  rw [hst] at hce
  have hkd := two_sta
  generalize hsta : staTo twoL 0 2 = s2 at *
  have Hkd := Lib.hid hkd; clear hkd hst hsta
  have Hce := Lib.hid hce; clear hce
  have Hba := Lib.hid hba; clear hba hL
  go_wp2_with fail
  refine hfi.mono ?_
  clear hfi
  rintro e w2 ⟨rfl, hb2⟩
  unfold firstV pairV
  go_wp2_with fail
  have hal2 : Below w2.heap.size w2 (w2.alloc (.cells #[.int .i64 0, .int .i64 1] 32)) := (Below.refl _ _).alloc (Nat.le_refl _) _
  have hb3 := hb2.trans (hal2.mono hb2.size)
  refine (Hce.out _ hb3).mono ?_
  rintro e w4 ⟨rfl, hb4⟩
  have hb5 := hb3.trans (hb4.mono hb3.size)
  obtain ⟨kd, th, lk⟩ := s2
  have e4 : kd = 4 := Hkd.out
  subst e4
  unfold staV staCells
  have hfd := run_field0 4 th lk w4
  go_wp2_with fail
  refine (Hba.out _ hb5).mono ?_
  rintro e w6 ⟨vb, m, vc, rfl, hbl, hm, hb6⟩
  have e1 := two_bare hbl
  subst e1
  go_wp2
  go_ret
  exact ⟨rfl, hb1.trans ((hb5.trans (hb6.mono hb5.size)).mono hb1.size)⟩
end Go.Proofs.Ytlgkkjhkanpmhaa
