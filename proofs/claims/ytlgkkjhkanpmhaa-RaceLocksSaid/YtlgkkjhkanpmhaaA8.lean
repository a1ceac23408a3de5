import Derived.Test.YtlgkkjhkanpmhaaA7
import Derived.Deep.MidRow
namespace Go.Proofs.Ytlgkkjhkanpmhaa
open Go.RowKit

theorem clkCells_eq {c : List Nat} (h : c.length = 8) : clkCells c = ccells c := by
  apply List.ext_getElem
  · simp [clkCells, h]
  · intro i h1 h2
    have hi : i < c.length := by simpa using h2
    simp [clkCells, ccells, gAt, hi]

/-- An access in a box of its own. -/
structure BoxA (w : World) (b : Nat) (T : TypeId) (a : Acc) : Prop where
  row : w.heap[b]? = some (.cells (accCells a).toArray T (0, 0))
theorem BoxA.keep {w w1 : World} {b : Nat} {T : TypeId} {a : Acc} (h : BoxA w b T a) (hb : Below w.heap.size w w1) : BoxA w1 b T a := ⟨keeps hb h.row⟩
theorem BoxA.th {w : World} {b : Nat} {T : TypeId} {a : Acc} (h : BoxA w b T a) : w.cell? ⟨b, 0, none⟩ = some (.int .i64 a.th) := by rw [cell_of_row _ _ _ _ _ _ h.row]; rfl
theorem BoxA.ce {w : World} {b : Nat} {T : TypeId} {a : Acc} (h : BoxA w b T a) : w.cell? ⟨b, 1, none⟩ = some (.int .i64 a.ce) := by rw [cell_of_row _ _ _ _ _ _ h.row]; rfl
theorem BoxA.wr {w : World} {b : Nat} {T : TypeId} {a : Acc} (h : BoxA w b T a) : w.cell? ⟨b, 2, none⟩ = some (.bool a.wr) := by rw [cell_of_row _ _ _ _ _ _ h.row]; rfl
theorem BoxA.lk {w : World} {b : Nat} {T : TypeId} {a : Acc} (h : BoxA w b T a) : w.cell? ⟨b, 11, none⟩ = some (.int .u64 (a.lk : Int)) := by rw [cell_of_row _ _ _ _ _ _ h.row]; rfl
theorem BoxA.clk {w : World} {b : Nat} {T : TypeId} {a : Acc} (h : BoxA w b T a) (hc : a.clk.length = 8) : w.rangeAt b 3 (ccells a.clk) := by
  rw [← clkCells_eq hc]
  exact World.rangeAt_of_block h.row 3 8
theorem BoxA.all {w : World} {b : Nat} {T : TypeId} {a : Acc} (h : BoxA w b T a) : w.rangeAt b 0 (accCells a) := by
  intro j v hv
  rw [cell_of_row _ _ _ _ _ _ h.row]
  simpa using hv
theorem accCells_length (a : Acc) : (accCells a).length = 12 := rfl
theorem BoxA.new (w : World) (T : TypeId) (a : Acc) : BoxA (w.alloc (.cells (accCells a).toArray T)) w.heap.size T a := ⟨heap_alloc_new _ _⟩

theorem row_of {T : TypeId} (h : (Try.prog.underlying T).map (·.isRow) = some true) : ∃ d, Try.prog.underlying T = some d ∧ d.isRow = true := by
  cases hd : Try.prog.underlying T with
  | none => rw [hd] at h; cases h
  | some d => rw [hd] at h; exact ⟨d, rfl, by injection h⟩
theorem Try.under41 : ∃ d, Try.prog.underlying 41 = some d ∧ d.isRow = true := row_of (by kernel_rfl)
theorem Try.under52 : ∃ d, Try.prog.underlying 52 = some d ∧ d.isRow = true := row_of (by kernel_rfl)
theorem Try.under38 : ∃ d, Try.prog.underlying 38 = some d ∧ d.isRow = true := row_of (by kernel_rfl)
theorem Try.under50 : ∃ d, Try.prog.underlying 50 = some d ∧ d.isRow = true := row_of (by kernel_rfl)
theorem Try.size41 : (Try.prog.info? 41).map (·.size) = some 12 := by kernel_rfl
theorem Try.size52 : (Try.prog.info? 52).map (·.size) = some 12 := by kernel_rfl
theorem Try.size50 : (Try.prog.info? 50).map (·.size) = some 8 := by kernel_rfl

section
variable {ops : Array Oper} {rest : List Oper} {o : Oper} {a : Act} {Q : Exit → Act → World → Prop} {w : World}
theorem load_r (hgd : o.guard = none) (T : TypeId) (x : Operand) (ho : o.op = .load T x) (b off : Nat) (hx : a.eval x = .pointer (some ⟨b, off, none⟩)) (cs : List Value) (hr : w.rangeAt b off cs)
    (hu : ∃ d, Try.prog.underlying T = some d ∧ d.isRow = true) (hi : (Try.prog.info? T).map (·.size) = some cs.length) (h : wpList Try.prog ops Q rest (a.put o.dst (.agg cs.toArray)) w) : wpList Try.prog ops Q (o :: rest) a w := by
  obtain ⟨d, hd, hrow⟩ := hu
  exact wpList_load_mid hgd T x ho b off hx cs d hr hd hrow hi h
theorem load_r_if (hw : Region.wanted o (yielded ops a.tmps) = true) (T : TypeId) (x : Operand) (ho : o.op = .load T x) (b off : Nat) (hx : a.eval x = .pointer (some ⟨b, off, none⟩)) (cs : List Value) (hr : w.rangeAt b off cs)
    (hu : ∃ d, Try.prog.underlying T = some d ∧ d.isRow = true) (hi : (Try.prog.info? T).map (·.size) = some cs.length) (h : wpList Try.prog ops Q rest (a.put o.dst (.agg cs.toArray)) w) : wpList Try.prog ops Q (o :: rest) a w := by
  obtain ⟨d, hd, hrow⟩ := hu
  exact wpList_step fun K hK => by
    rw [if_pos hw]
    exact wp_load_mid T x ho b off hx cs d hr hd hrow hi (hK _ _ h)
end

/-- Do two accesses race? -/
@[irreducible] def raceB (a b : Acc) : Bool := isOneB a && isOneB b && (a.ce == b.ce) && (a.th != b.th) && (a.wr || b.wr) && besideC a.clk b.clk
theorem raceB_eq (a b : Acc) : raceB a b = (isOneB a && isOneB b && (a.ce == b.ce) && (a.th != b.th) && (a.wr || b.wr) && besideC a.clk b.clk) := by unfold raceB; rfl

set_option maxHeartbeats 4000000 in
theorem Race_any (a b : Acc) (ha : WfC a.clk) (hb : WfC b.clk) (w : World) :
    Calls Try.prog 13 #[accV a, accV b] w fun e w' => e = .returned (.bool (raceB a b)) ∧ Below w.heap.size w w' := by
  have hR := Lib.hid (raceB_eq a b)
  generalize raceB a b = r at *
  have hsa : (Try.prog.info? 38).map (·.size) = some (ccells a.clk).length := by rw [Try.size38]; simp [ha.len]
  have hsb : (Try.prog.info? 38).map (·.size) = some (ccells b.clk).length := by rw [Try.size38]; simp [hb.len]
  have hbelow : Below w.heap.size w ((w.alloc (.cells (accCells a).toArray 41)).alloc (.cells (accCells b).toArray 41)) := ((Below.refl _ _).alloc (Nat.le_refl _) _).alloc (by simp) _
  have ga : BoxA ((w.alloc (.cells (accCells a).toArray 41)).alloc (.cells (accCells b).toArray 41)) w.heap.size 41 a := (BoxA.new w 41 a).keep ((Below.refl _ _).alloc (by simp) _)
  have gb : BoxA ((w.alloc (.cells (accCells a).toArray 41)).alloc (.cells (accCells b).toArray 41)) (w.heap.size + 1) 41 b := by
    have := BoxA.new (w.alloc (.cells (accCells a).toArray 41)) 41 b; simpa using this
  have gaa := ga.all
  have gba := gb.all
  unfold accV
  go_enter Try.func13, Try.ntmps13
  go_wp2_with (first | (refine load_r rfl 41 _ rfl _ 0 rfl _ gaa Try.under41 Try.size41 ?_))
  generalize hW : (w.alloc (.cells (accCells a).toArray 41)).alloc (.cells (accCells b).toArray 41) = w0 at *
  clear hW gaa gba
  have h1 := isOne_any a w0
  unfold accV at h1
  refine h1.mono ?_
  clear h1
  rintro e w1 ⟨rfl, hb1⟩
  have hbelow := hbelow.trans (hb1.mono hbelow.size)
  have ga := ga.keep hb1
  have gb := gb.keep hb1
  clear hb1
  have gba := gb.all
  have hca := ga.ce; have hcb := gb.ce; have hta := ga.th; have htb := gb.th; have hwa := ga.wr; have hwb := gb.wr
  cases hp1 : isOneB a
  · have HR := hR.out; rw [hp1] at HR; have HR := Lib.hid HR; clear hR
    go_wp2
    go_ret
    exact ⟨by rw [HR.out]; rfl, hbelow⟩
  · go_wp2_with (first | (refine load_r_if rfl 41 _ rfl _ 0 rfl _ gba Try.under41 Try.size41 ?_))
    have h1 := isOne_any b w1
    unfold accV at h1
    refine h1.mono ?_
    clear h1 hca hcb hta htb hwa hwb
    rintro e w2 ⟨rfl, hb2⟩
    have hbelow := hbelow.trans (hb2.mono hbelow.size)
    have ga := ga.keep hb2
    have gb := gb.keep hb2
    clear hb2
    have hca := ga.ce; have hcb := gb.ce; have hta := ga.th; have htb := gb.th; have hwa := ga.wr; have hwb := gb.wr
    have hra := ga.clk ha.len; have hrb := gb.clk hb.len
    have HR := hR.out; rw [hp1] at HR
    clear hR
    cases hp2 : isOneB b
    · rw [hp2] at HR; have HR := Lib.hid HR
      go_wp2
      go_ret
      exact ⟨by rw [HR.out]; rfl, hbelow⟩
    · rw [hp2] at HR
      cases hp3 : a.ce == b.ce
      · rw [hp3] at HR; have HR := Lib.hid HR
        go_wp2
        go_ret
        exact ⟨by rw [HR.out]; rfl, hbelow⟩
      · cases hp4 : a.th != b.th
        · rw [hp4] at HR; have HR := Lib.hid HR
          go_wp2
          go_ret
          exact ⟨by rw [HR.out]; simp, hbelow⟩
        · cases hp5 : a.wr
          · cases hp6 : b.wr
            · rw [hp5, hp6] at HR; have HR := Lib.hid HR
              rw [hp5] at hwa; rw [hp6] at hwb
              go_wp2
              go_ret
              exact ⟨by rw [HR.out]; simp, hbelow⟩
            · rw [hp3, hp4, hp5, hp6] at HR; have HR := Lib.hid HR
              rw [hp5] at hwa; rw [hp6] at hwb
              go_wp2_with (first | (refine load_r_if rfl 38 _ rfl _ 3 rfl _ hra Try.under38 hsa ?_) | (refine load_r_if rfl 38 _ rfl _ 3 rfl _ hrb Try.under38 hsb ?_))
              refine (Beside_any a.clk b.clk ha hb _).mono ?_
              rintro e w3 ⟨rfl, hb3⟩
              go_wp2
              go_ret
              exact ⟨by rw [HR.out]; rfl, hbelow.trans (hb3.mono hbelow.size)⟩
          · rw [hp3, hp4, hp5] at HR; have HR := Lib.hid HR
            rw [hp5] at hwa
            go_wp2_with (first | (refine load_r_if rfl 38 _ rfl _ 3 rfl _ hra Try.under38 hsa ?_) | (refine load_r_if rfl 38 _ rfl _ 3 rfl _ hrb Try.under38 hsb ?_))
            refine (Beside_any a.clk b.clk ha hb _).mono ?_
            rintro e w3 ⟨rfl, hb3⟩
            go_wp2
            go_ret
            exact ⟨by rw [HR.out]; rfl, hbelow.trans (hb3.mono hbelow.size)⟩
end Go.Proofs.Ytlgkkjhkanpmhaa
