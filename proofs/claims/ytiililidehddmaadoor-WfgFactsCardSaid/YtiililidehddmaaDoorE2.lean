import Derived.Test.YtiililidehddmaaDoorCards
import Derived.Test.YtiililidehddmaaDoorTie
import Derived.Test.YtiililidehddmaaDoorC1
import Derived.ProofKit
import Derived.OpenShut
import Derived.Deep.DeepHandedRow
import Derived.Lib.LaidTab
import Derived.Deep.SlicePairs
namespace Go.Proofs.YtiililidehddmaaDoor
open Go.ChangeShapes Go.WideShapes Go.ChangeAt Go.RowKit Go.Deep

theorem own : ownKnob Tryd.prog.godebug = none := by kernel_rfl
theorem gTab : Tryd.prog.globalNamed "math/bits.deBruijn64tab" = some 0 := by kernel_rfl
theorem gTabType : (Tryd.prog.globals[0]?).map (·.type) = some 62 := by kernel_rfl
theorem cells62 : Tryd.prog.cellsOf 62 = 64 := by kernel_rfl
theorem cells5 : Tryd.prog.cellsOf 5 = 1 := by kernel_rfl
theorem cells3 : Tryd.prog.cellsOf 3 = 1 := by kernel_rfl
theorem cells28 : Tryd.prog.cellsOf 28 = 2 := by kernel_rfl
theorem laidOut : laidOutB Tryd.prog = true := by kernel_rfl

def tabInts : List Int := Lib.deBruijn64tab.map fun (n : Nat) => (n : Int)

/-- What the row's list gives: the table's cells hold its numbers. -/
theorem tab_of_laid {W : World} {l : List (String × DataW Unit)} (hl : l = [("math/bits.deBruijn64tab", Rows.laid_math_bits_deBruijn64tab)]) (h : laidMetH Tryd.prog l W) : Tab W := by
  subst hl
  have ht : Lib.TabIs Tryd.prog W "math/bits.deBruijn64tab" .u8 tabInts := Lib.tabIs_of_head (rest := []) gTab gTabType Tryd.underlying62 Tryd.underlying5 cells5 cells62 h
  intro j hj
  have := ht.cell gTab j (by simpa [tabInts] using hj)
  rw [this]
  simp [tabInts, List.getElem?_eq_getElem hj]

/-- The argument: a list of edges behind a slice. -/
theorem open_edges {H : Type} {enc : TypeId × Value → H} {W : World} {v : Value} {d : DataW H} {p : List MemPlace} {base : Nat} (hv : Value.okWide Tryd.prog W .any base 22 v)
    (h : DataW.Trod enc Tryd.prog W 0 (fun _ => true) true 22 v d p) : ∃ (b : Option Addr) (L : List (Int × Int)) (cap : Nat), v = .slice b L.length cap ∧ EdgesAt W b L := by
  obtain ⟨a0, len0, cap0, rfl⟩ := okWide_slice Tryd.underlying22 hv
  obtain ⟨fuel, hf⟩ := h
  rcases open_slice_pairs Tryd.underlying22 Tryd.underlying28 cells28 rfl rfl cells3 cells3 hf with ⟨hcs, _⟩ | ⟨a, len, cap, m, n, V0, V1, D0, D1, P0, P1, hcs, _, hl, hm, hmm, _, hi⟩
  · simp only [Value.cells, List.cons.injEq, and_true] at hcs
    injection hcs with h1 h2 h3
    subst h1; subst h2; subst h3
    exact ⟨none, [], 0, rfl, fun i hi => by simp at hi⟩
  · simp only [Value.cells, List.cons.injEq, and_true] at hcs
    injection hcs with h1 h2 h3
    subst h1; subst h2; subst h3
    have each : ∀ i, ∃ e : Int × Int, i < len0 → W.cell? (a.add (i * 2)) = some (.int .i64 e.1) ∧ W.cell? (a.add (i * 2 + 1)) = some (.int .i64 e.2) := by
      intro i
      by_cases hlt : i < len0
      · obtain ⟨c0, c1, t0, t1⟩ := hi i (by rw [hmm]; simp; omega)
        obtain ⟨x, e0, _, _⟩ := DataW.trod_int Tryd.underlying3 t0
        obtain ⟨y, e1, _, _⟩ := DataW.trod_int Tryd.underlying3 t1
        simp only [List.cons.injEq, and_true] at e0 e1
        exact ⟨(x, y), fun _ => ⟨by rw [c0, e0], by rw [c1, e1]⟩⟩
      · exact ⟨(0, 0), fun h => absurd h hlt⟩
    obtain ⟨f, hfe⟩ := Classical.axiomOfChoice each
    refine ⟨some a, (List.range len0).map f, cap0, by simp, fun i hi => ?_⟩
    have hlt : i < len0 := by simpa using hi
    obtain ⟨c0, c1⟩ := hfe i hlt
    have hA : eA ((List.range len0).map f) i = (f i).1 := by simp [eA, hlt]
    have hB : eB ((List.range len0).map f) i = (f i).2 := by simp [eB, hlt]
    rw [hA, hB]
    obtain ⟨b, off, spot⟩ := a
    have hs : spot = none := by
      have h0 := (hfe 0 (by omega)).1
      cases spot with
      | none => rfl
      | some s =>
        simp only [Nat.zero_mul, Addr.add, if_true] at h0
        simp only [World.cell?] at h0
        split at h0 <;> simp at h0
    subst hs
    refine ⟨b, off, rfl, ?_, ?_⟩
    · have e : (⟨b, off, none⟩ : Addr).add (i * 2) = ⟨b, off + i * 2, none⟩ := by unfold Addr.add; split <;> simp_all
      rw [← e]; exact c0
    · have e : (⟨b, off, none⟩ : Addr).add (i * 2 + 1) = ⟨b, off + i * 2 + 1, none⟩ := by unfold Addr.add; rw [if_neg (by omega), Nat.add_assoc]
      rw [← e]; exact c1

end Go.Proofs.YtiililidehddmaaDoor
