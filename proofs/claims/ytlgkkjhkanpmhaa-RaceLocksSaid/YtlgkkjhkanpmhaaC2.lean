import Derived.Test.YtlgkkjhkanpmhaaC1
import Derived.ProofKit
import Derived.OpenShut
import Derived.Deep.DeepHandedRow
import Derived.Deep.Slices
namespace Go.Proofs.Ytlgkkjhkanpmhaa
open Go.ChangeShapes Go.WideShapes Go.ChangeAt Go.RowKit Go.Deep

theorem own : ownKnob Try.prog.godebug = none := by kernel_rfl
theorem laidOut : laidOutB Try.prog = true := by kernel_rfl
theorem cells3 : Try.prog.cellsOf 3 = 1 := by kernel_rfl
theorem cells4 : Try.prog.cellsOf 4 = 1 := by kernel_rfl
theorem cells36 : Try.prog.cellsOf 36 = 1 := by kernel_rfl
theorem cells39 : Try.prog.cellsOf 39 = 1 := by kernel_rfl
theorem cells50 : Try.prog.cellsOf 50 = 8 := by kernel_rfl
theorem cells52 : Try.prog.cellsOf 52 = 12 := by kernel_rfl

section
variable {H : Type} {enc : TypeId × Value → H} {w : World} {base : Nat} {spare : Nat → Bool} {held : Bool}
theorem wf_u32 {n : Int} (h : (Lit.int .u32 n).wf = true) : ∃ k : Nat, n = (k : Int) ∧ k < 4294967296 := by
  simp [Lit.wf, IntKind.min, IntKind.max, IntKind.signed, IntKind.bits] at h
  exact ⟨n.toNat, by omega, by omega⟩
theorem wf_u64 {n : Int} (h : (Lit.int .u64 n).wf = true) : ∃ k : Nat, n = (k : Int) ∧ k < 18446744073709551616 := by
  simp [Lit.wf, IntKind.min, IntKind.max, IntKind.signed, IntKind.bits] at h
  exact ⟨n.toNat, by omega, by omega⟩
theorem trod_u32 {fuel : Nat} {c : Value} {x : DataW H × List MemPlace} (h : DataW.trod enc Try.prog w base spare held fuel 36 [c] = some x) : ∃ k : Nat, c = .int .u32 (k : Int) ∧ k < 4294967296 := by
  obtain ⟨y, e0, _, h2⟩ := DataW.trod_int Try.underlying36 h
  simp only [List.cons.injEq, and_true] at e0
  obtain ⟨k, rfl, hk⟩ := wf_u32 h2
  exact ⟨k, e0, hk⟩
theorem some_at {α : Type} (xs : List α) (n i : Nat) (h : xs.length = n) (hi : i < n) : ∃ y, xs[i]? = some y := ⟨_, List.getElem?_eq_getElem (by omega)⟩
theorem trod_clk {fuel : Nat} {cs : List Value} {x : DataW H × List MemPlace} (h : DataW.trod enc Try.prog w base spare held fuel 50 cs = some x) : ∃ c : List Nat, WfC c ∧ cs = ccells c := by
  obtain ⟨xs, m, _, _, hl, hn, hi⟩ := DataW.trod_array Try.underlying50 h
  rw [cells50] at hl
  rw [cells36] at hi
  have each : ∀ i, ∃ k : Nat, k < 4294967296 ∧ (i < 8 → cs[i]? = some (.int .u32 (k : Int))) := by
    intro i
    by_cases hi8 : i < 8
    · obtain ⟨y, hy⟩ := some_at xs 8 i hn hi8
      have h1 := hi i hi8
      rw [hy, Nat.mul_one, List.drop_eq_getElem_cons (by omega)] at h1
      obtain ⟨k, hk, hlt⟩ := trod_u32 h1
      exact ⟨k, hlt, fun _ => by rw [List.getElem?_eq_getElem (by omega), hk]⟩
    · exact ⟨0, by omega, fun h => absurd h hi8⟩
  obtain ⟨f, hf⟩ := Classical.axiomOfChoice each
  refine ⟨(List.range 8).map f, ⟨by simp, fun k => ?_⟩, ?_⟩
  · by_cases hk : k < 8
    · have : gAt ((List.range 8).map f) k = f k := by simp [gAt, hk]
      rw [this]; exact (hf k).1
    · have : gAt ((List.range 8).map f) k = 0 := by simp [gAt, hk]
      rw [this]; omega
  · apply List.ext_getElem?
    intro i
    by_cases hi8 : i < 8
    · rw [(hf i).2 hi8]; simp [ccells, hi8]
    · rw [List.getElem?_eq_none (by omega), List.getElem?_eq_none (by simp; omega)]

theorem trod_acc {fuel : Nat} {cs : List Value} {x : DataW H × List MemPlace} (h : DataW.trod enc Try.prog w base spare held fuel 52 cs = some x) : ∃ a : Acc, WfA a ∧ cs = accCells a := by
  obtain ⟨xs, m, _, _, hl, hn, hi⟩ := DataW.trod_struct Try.underlying52 h
  rw [cells52] at hl
  obtain ⟨y0, hy0⟩ := some_at xs 5 0 hn (by omega)
  obtain ⟨y1, hy1⟩ := some_at xs 5 1 hn (by omega)
  obtain ⟨y2, hy2⟩ := some_at xs 5 2 hn (by omega)
  obtain ⟨y3, hy3⟩ := some_at xs 5 3 hn (by omega)
  obtain ⟨y4, hy4⟩ := some_at xs 5 4 hn (by omega)
  have h0 : DataW.trod enc Try.prog w base spare held m 3 ((cs.drop 0).take (Try.prog.cellsOf 3)) = xs[0]? := hi 0 _ rfl
  rw [hy0, cells3] at h0
  have h1 : DataW.trod enc Try.prog w base spare held m 3 ((cs.drop 1).take (Try.prog.cellsOf 3)) = xs[1]? := hi 1 _ rfl
  rw [hy1, cells3] at h1
  have h2 : DataW.trod enc Try.prog w base spare held m 4 ((cs.drop 2).take (Try.prog.cellsOf 4)) = xs[2]? := hi 2 _ rfl
  rw [hy2, cells4] at h2
  have h3 : DataW.trod enc Try.prog w base spare held m 50 ((cs.drop 3).take (Try.prog.cellsOf 50)) = xs[3]? := hi 3 _ rfl
  rw [hy3, cells50] at h3
  have h4 : DataW.trod enc Try.prog w base spare held m 39 ((cs.drop 11).take (Try.prog.cellsOf 39)) = xs[4]? := hi 4 _ rfl
  rw [hy4, cells39] at h4
  match cs, hl with
  | [c0, c1, c2, c3, c4, c5, c6, c7, c8, c9, c10, c11], _ =>
    simp only [List.drop_zero, List.drop_succ_cons, List.take_succ_cons, List.take_zero] at h0 h1 h2 h3 h4
    obtain ⟨th, e0, _, w0⟩ := DataW.trod_int Try.underlying3 h0
    obtain ⟨ce, e1, _, w1⟩ := DataW.trod_int Try.underlying3 h1
    obtain ⟨wr, e2, _⟩ := DataW.trod_bool Try.underlying4 h2
    obtain ⟨clk, wc, e3⟩ := trod_clk h3
    obtain ⟨lk, e4, _, w4⟩ := DataW.trod_int Try.underlying39 h4
    obtain ⟨lkn, rfl, hlk⟩ := wf_u64 w4
    simp only [List.cons.injEq, and_true] at e0 e1 e2 e4
    subst e0 e1 e2 e4
    refine ⟨⟨th, ce, wr, clk, lkn⟩, ⟨wc, w0, w1, hlk⟩, ?_⟩
    unfold accCells
    rw [clkCells_eq wc.len, ← e3]
    rfl
end

/-- The argument: a list of accesses behind a slice. -/
theorem open_accs {H : Type} {enc : TypeId × Value → H} {W : World} {v : Value} {d : DataW H} {p : List MemPlace} {base : Nat} (hv : Value.okWide Try.prog W .any base 22 v)
    (h : DataW.Trod enc Try.prog W 0 (fun _ => true) true 22 v d p) : ∃ (b : Option Addr) (L : List Acc) (cap : Nat), v = .slice b L.length cap ∧ L.length ≤ 9223372036854775807 ∧ AccAt W b L ∧ WfL L := by
  obtain ⟨a0, len0, cap0, rfl⟩ := okWide_slice Try.underlying22 hv
  obtain ⟨fuel, hf⟩ := h
  rcases open_slice Try.underlying22 hf with ⟨hcs, _⟩ | ⟨a, len, cap, m, n, D, Pl, hcs, _, hl, hm, hmm, _, hi⟩
  · simp only [Value.cells, List.cons.injEq, and_true] at hcs
    injection hcs with h1 h2 h3
    subst h1; subst h2; subst h3
    exact ⟨none, [], 0, rfl, by simp, fun i hi => by simp at hi, fun i hi => by simp at hi⟩
  · simp only [Value.cells, List.cons.injEq, and_true] at hcs
    injection hcs with h1 h2 h3
    subst h1; subst h2; subst h3
    rw [cells52] at hi
    have each : ∀ i, ∃ c : Acc, i < len0 → WfA c ∧ ∀ j v, (accCells c)[j]? = some v → W.cell? ((a.add (i * 12)).add j) = some v := by
      intro i
      by_cases hlt : i < len0
      · obtain ⟨cs, hc, ht⟩ := hi i (by rw [hmm]; simp; omega)
        obtain ⟨c, hw, rfl⟩ := trod_acc ht
        refine ⟨c, fun _ => ⟨hw, fun j v hj => ?_⟩⟩
        obtain ⟨_, _, hat⟩ := World.cells?_some hc
        have := hat j (List.getElem?_eq_some_iff.1 hj).1
        rw [this, hj]
      · exact ⟨zeroA, fun h => absurd h hlt⟩
    obtain ⟨f, hfe⟩ := Classical.axiomOfChoice each
    have hat : ∀ i, i < len0 → aAt ((List.range len0).map f) i = f i := fun i hi => by simp [aAt, hi]
    refine ⟨some a, (List.range len0).map f, cap0, by simp, by simp; unfold maxLen at hm; omega, fun i hi => ?_, fun i hi => ?_⟩
    · have hlt : i < len0 := by simpa using hi
      obtain ⟨_, hc⟩ := hfe i hlt
      rw [hat i hlt]
      obtain ⟨b, off, spot⟩ := a
      have hs : spot = none := by
        have h0 := (hfe 0 (by omega)).2 0 _ rfl
        cases spot with
        | none => rfl
        | some s =>
          simp only [Nat.zero_mul, Addr.add, if_true] at h0
          simp only [World.cell?] at h0
          split at h0 <;> simp at h0
      subst hs
      refine ⟨b, off, rfl, fun j v hj => ?_⟩
      have := hc j v hj
      rw [Addr.add_mid, Addr.add_mid] at this
      exact this
    · have hlt : i < len0 := by simpa using hi
      rw [hat i hlt]; exact (hfe i hlt).1
end Go.Proofs.Ytlgkkjhkanpmhaa
