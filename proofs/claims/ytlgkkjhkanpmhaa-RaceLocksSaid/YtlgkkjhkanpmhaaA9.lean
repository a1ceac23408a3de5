import Derived.Test.YtlgkkjhkanpmhaaA8
import Derived.Deep.QuietTactic
import Derived.BigQuiet
namespace Go.Proofs.Ytlgkkjhkanpmhaa
open Go.RowKit

theorem is_any (a : Acc) (w : World) : Calls Try.prog 24 #[accV a] w fun e w' => e = .returned (.bool (isOneB a)) ∧ Below w.heap.size w w' := by
  unfold accV
  have hc : (w.alloc (.cells (accCells a).toArray 52)).cell? ⟨w.heap.size, 0, none⟩ = some (.int .i64 a.th) := by rw [cell_of_row _ _ _ _ _ _ (heap_alloc_new _ _)]; rfl
  by_cases h : 0 ≤ a.th
  · by_cases h2 : a.th ≤ 7
    · go_enter Try.func24, Try.ntmps24
      go_wp2
      go_ret
      exact ⟨by simp [isOneB, h, h2], (Below.refl _ _).alloc (Nat.le_refl _) _⟩
    · go_enter Try.func24, Try.ntmps24
      go_wp2
      go_ret
      exact ⟨by simp [isOneB, h, h2], (Below.refl _ _).alloc (Nat.le_refl _) _⟩
  · go_enter Try.func24, Try.ntmps24
    go_wp2
    go_ret
    exact ⟨by simp [isOneB]; omega, (Below.refl _ _).alloc (Nat.le_refl _) _⟩

theorem ccell_at {w : World} {b : Nat} {l : List Nat} {T : TypeId} (h : w.heap[b]? = some (.cells (ccells l).toArray T (0, 0))) (k : Nat) (hk : k < l.length) : w.cell? ⟨b, k, none⟩ = some (.int .u32 ((gAt l k : Nat) : Int)) := by
  rw [cell_of_row _ _ _ _ _ _ h]; exact ccell l k hk

theorem below_dn (w : World) (n : Nat) : Below w.heap.size w (w.drewN n) := (Below.refl w.heap.size w).trans ⟨rfl, rfl, rfl, Nat.le_refl _, fun _ _ => rfl⟩

/-- The first k are at most those. -/
def leUpTo (a b : List Nat) (k : Nat) : Prop := ∀ j, j < k → gAt a j ≤ gAt b j
theorem leqC_true {a b : List Nat} (ha : WfC a) (hb : WfC b) (h : leUpTo a b 8) : leqC a b = true := (leqC_is ha hb).2 h
theorem leqC_false {a b : List Nat} (ha : WfC a) (hb : WfC b) (k : Nat) (hk : k < 8) (h : gAt b k < gAt a k) : leqC a b = false := by
  rw [Bool.eq_false_iff]
  intro e
  have := (leqC_is ha hb).1 e k hk
  omega

set_option maxHeartbeats 1000000 in
theorem RLeq_any (a b : List Nat) (ha : WfC a) (hb : WfC b) (w : World) :
    Calls Try.prog 25 #[.agg (ccells a).toArray, .agg (ccells b).toArray] w fun e w' => e = .returned (.bool (leqC a b)) ∧ Below w.heap.size w w' := by
  have hbelow : Below w.heap.size w ((w.alloc (.cells (ccells a).toArray 50)).alloc (.cells (ccells b).toArray 50)) := ((Below.refl _ _).alloc (Nat.le_refl _) _).alloc (by simp) _
  have ga : ((w.alloc (.cells (ccells a).toArray 50)).alloc (.cells (ccells b).toArray 50)).heap[w.heap.size]? = some (.cells (ccells a).toArray 50 (0, 0)) := (Below.heap_alloc _ _ _ (by simp)).trans (heap_alloc_new _ _)
  have gb : ((w.alloc (.cells (ccells a).toArray 50)).alloc (.cells (ccells b).toArray 50)).heap[w.heap.size + 1]? = some (.cells (ccells b).toArray 50 (0, 0)) := by
    have := heap_alloc_new (w.alloc (.cells (ccells a).toArray 50)) (.cells (ccells b).toArray 50); simpa using this
  have HT := Lib.hid (fun h => leqC_true ha hb h)
  have HF := Lib.hid (fun k hk h => leqC_false ha hb k hk h)
  generalize leqC a b = q at *
  go_enter Try.func25, Try.ntmps25
  go_wp2
  generalize hW : (w.alloc (.cells (ccells a).toArray 50)).alloc (.cells (ccells b).toArray 50) = w0 at *
  clear hW
  have hla := ha.len
  have hlb := hb.len
  have hua := ha.lt
  have hub := hb.lt
  have Hla := Lib.hid hla; have Hlb := Lib.hid hlb; have Hua := Lib.hid hua; have Hub := Lib.hid hub
  clear hla hlb hua hub ha hb
  go_loopw [5] (fun i wr => ∃ k : Nat, k ≤ 8 ∧ i = .int .i64 k ∧ leUpTo a b k ∧ Below w0.heap.size w0 wr) (fun i _ => 8 - (intOf i).toNat)
  case atStart => exact ⟨0, by omega, rfl, fun j hj => absurd hj (by omega), Below.refl _ _⟩
  case round =>
    obtain ⟨k, hk, rfl, hle, hbr⟩ := hrel
    have Hle := Lib.hid hle; clear hle
    by_cases hlt : k < 8
    · have ca := ccell_at (keeps hbr ga) k (by rw [Hla.out]; exact hlt)
      have cb := ccell_at (keeps hbr gb) k (by rw [Hlb.out]; exact hlt)
      have hu1 := Hua.out k
      have hu2 := Hub.out k
      by_cases ht : gAt b k < gAt a k
      · have hd : decide (((gAt b k : Nat) : Int) < ((gAt a k : Nat) : Int)) = true := decide_eq_true (by omega)
        have hq := HF.out k hlt ht
        have Hq := Lib.hid hq; clear hq
        go_wp2
        go_quiet (fail)
        all_goals go_wp2
        all_goals go_ret
        all_goals exact ⟨by rw [Hq.out]; rfl, hbelow.trans ((hbr.trans ((below_dn _ _).mono hbr.size)).mono hbelow.size)⟩
      · have hd : decide (((gAt b k : Nat) : Int) < ((gAt a k : Nat) : Int)) = false := decide_eq_false (by omega)
        go_wp2
        go_quiet (fail)
        all_goals go_wp2
        all_goals go_roundw
        case rel => exact ⟨k + 1, by omega, by go_num, (fun j hj => by by_cases e : j = k; (subst e; omega); exact Hle.out j (by omega)), hbr.trans ((below_dn _ _).mono hbr.size)⟩
        case measure => simp [intOf]; omega
    · have hq := HT.out (fun j hj => Hle.out j (by omega))
      have Hq := Lib.hid hq; clear hq
      go_wp2
      go_ret
      exact ⟨by rw [Hq.out]; rfl, hbelow.trans (hbr.mono hbelow.size)⟩

theorem raceB_split (a b : Acc) : raceB a b = (!(!isOneB a || !isOneB b || (a.ce != b.ce) || (a.th == b.th) || (!a.wr && !b.wr)) && (!leqC a.clk b.clk && !leqC b.clk a.clk)) := by
  rw [raceB_eq, besideC_eq]
  cases isOneB a <;> cases isOneB b <;> cases ha : a.ce == b.ce <;> cases hb : a.th == b.th <;> cases a.wr <;> cases b.wr <;> simp_all [bne]

set_option maxHeartbeats 4000000 in
theorem RRace_any (a b : Acc) (ha : WfC a.clk) (hb : WfC b.clk) (w : World) :
    Calls Try.prog 16 #[accV a, accV b] w fun e w' => e = .returned (.bool (raceB a b)) ∧ Below w.heap.size w w' := by
  have hR := Lib.hid (raceB_split a b)
  generalize raceB a b = r at *
  have hsa : (Try.prog.info? 50).map (·.size) = some (ccells a.clk).length := by rw [Try.size50]; simp [ha.len]
  have hsb : (Try.prog.info? 50).map (·.size) = some (ccells b.clk).length := by rw [Try.size50]; simp [hb.len]
  have hbelow : Below w.heap.size w ((w.alloc (.cells (accCells a).toArray 52)).alloc (.cells (accCells b).toArray 52)) := ((Below.refl _ _).alloc (Nat.le_refl _) _).alloc (by simp) _
  have ga : BoxA ((w.alloc (.cells (accCells a).toArray 52)).alloc (.cells (accCells b).toArray 52)) w.heap.size 52 a := (BoxA.new w 52 a).keep ((Below.refl _ _).alloc (by simp) _)
  have gb : BoxA ((w.alloc (.cells (accCells a).toArray 52)).alloc (.cells (accCells b).toArray 52)) (w.heap.size + 1) 52 b := by
    have := BoxA.new (w.alloc (.cells (accCells a).toArray 52)) 52 b; simpa using this
  have gaa := ga.all
  have gba := gb.all
  unfold accV
  go_enter Try.func16, Try.ntmps16
  go_wp2_with (first | (refine load_r rfl 52 _ rfl _ 0 rfl _ gaa Try.under52 Try.size52 ?_))
  generalize hW : (w.alloc (.cells (accCells a).toArray 52)).alloc (.cells (accCells b).toArray 52) = w0 at *
  clear hW gaa gba
  have h1 := is_any a w0
  unfold accV at h1
  refine h1.mono ?_
  clear h1
  rintro e w1 ⟨rfl, hb1⟩
  have hbelow := hbelow.trans (hb1.mono hbelow.size)
  have ga := ga.keep hb1
  have gb := gb.keep hb1
  clear hb1
  have gba := gb.all
  have hca := ga.ce; have hcb := gb.ce; have hta := ga.th; have htb := gb.th; have hwa := ga.wr; have hwb := gb.wr
  cases hp1 : isOneB a
  · have HR := hR.out; rw [hp1] at HR; have HR := Lib.hid HR; clear hR
    go_wp2
    go_ret
    exact ⟨by rw [HR.out]; rfl, hbelow⟩
  · go_wp2_with (first | (refine load_r_if rfl 52 _ rfl _ 0 rfl _ gba Try.under52 Try.size52 ?_))
    have h1 := is_any b w1
    unfold accV at h1
    refine h1.mono ?_
    clear h1 hca hcb hta htb hwa hwb
    rintro e w2 ⟨rfl, hb2⟩
    have hbelow := hbelow.trans (hb2.mono hbelow.size)
    have ga := ga.keep hb2
    have gb := gb.keep hb2
    clear hb2
    have hca := ga.ce; have hcb := gb.ce; have hta := ga.th; have htb := gb.th; have hwa := ga.wr; have hwb := gb.wr
    have hra := ga.clk ha.len; have hrb := gb.clk hb.len
    have HR := hR.out; rw [hp1] at HR
    clear hR
    cases hp2 : isOneB b
    · rw [hp2] at HR; have HR := Lib.hid HR
      go_wp2
      go_ret
      exact ⟨by rw [HR.out]; rfl, hbelow⟩
    · rw [hp2] at HR
      cases hp3 : a.ce != b.ce
      · cases hp4 : a.th == b.th
        · by_cases hp5 : (!a.wr && !b.wr) = true
          · have h5 : a.wr = false := by revert hp5; cases a.wr <;> simp
            have h6 : b.wr = false := by revert hp5; cases b.wr <;> simp
            rw [h5, h6] at HR; have HR := Lib.hid HR
            rw [h5] at hwa; rw [h6] at hwb
            clear hp5 h5 h6
            go_wp2
            go_ret
            exact ⟨by rw [HR.out]; simp, hbelow⟩
          · have hp5 : (!a.wr && !b.wr) = false := by simpa using hp5
            rw [hp3, hp4, hp5] at HR; have HR := Lib.hid HR
            have hq : a.wr = true ∨ a.wr = false ∧ b.wr = true := by revert hp5; cases a.wr <;> cases b.wr <;> simp
            clear hp5
            rcases hq with h5 | ⟨h5, h6⟩
            all_goals
              rw [h5] at hwa
              try rw [h6] at hwb
              clear h5
              try clear h6
              go_wp2_with (first | (refine load_r rfl 50 _ rfl _ 3 rfl _ hra Try.under50 hsa ?_) | (refine load_r rfl 50 _ rfl _ 3 rfl _ hrb Try.under50 hsb ?_))
              refine (RLeq_any a.clk b.clk ha hb _).mono ?_
              rintro e w3 ⟨rfl, hb3⟩
              have hbelow := hbelow.trans (hb3.mono hbelow.size)
              have hra := (ga.keep hb3).clk ha.len; have hrb := (gb.keep hb3).clk hb.len
              have HR := HR.out
              cases hp6 : leqC a.clk b.clk
              · rw [hp6] at HR; have HR := Lib.hid HR
                go_wp2_with (first | (refine load_r_if rfl 50 _ rfl _ 3 rfl _ hra Try.under50 hsa ?_) | (refine load_r_if rfl 50 _ rfl _ 3 rfl _ hrb Try.under50 hsb ?_))
                refine (RLeq_any b.clk a.clk hb ha _).mono ?_
                rintro e w4 ⟨rfl, hb4⟩
                go_wp2
                go_ret
                exact ⟨by rw [HR.out]; simp, hbelow.trans (hb4.mono hbelow.size)⟩
              · rw [hp6] at HR; have HR := Lib.hid HR
                go_wp2
                go_ret
                exact ⟨by rw [HR.out]; rfl, hbelow⟩
        · rw [hp4] at HR; have HR := Lib.hid HR
          go_wp2
          go_ret
          exact ⟨by rw [HR.out]; simp, hbelow⟩
      · rw [hp3] at HR; have HR := Lib.hid HR
        go_wp2
        go_ret
        exact ⟨by rw [HR.out]; simp, hbelow⟩
end Go.Proofs.Ytlgkkjhkanpmhaa
