import Derived.Test.YtlgkkjhkanpmhaaB2
namespace Go.Proofs.Ytlgkkjhkanpmhaa
open Go.RowKit Go.Maps Go.WideShapes

theorem under55 : Try.prog.underlying 55 = some (.map 3 45) := by kernel_rfl

/-! ### A look-up and a store, in a map of states, inside a region that draws -/
def lkOk5 (w : World) (m x : Value) : Prop := ∃ v, (Instr.lookup 55 m x false).run Try.prog w = .ok v w
open Classical in
noncomputable def lkVal5 (w : World) (m x : Value) : Value := if h : ∃ v, (Instr.lookup 55 m x false).run Try.prog w = .ok v w then Classical.choose h else undef
theorem lk5_of {w : World} {m x v : Value} (h : (Instr.lookup 55 m x false).run Try.prog w = .ok v w) : lkOk5 w m x ∧ lkVal5 w m x = v := by
  have hex : ∃ v, (Instr.lookup 55 m x false).run Try.prog w = .ok v w := ⟨v, h⟩
  refine ⟨hex, ?_⟩
  unfold lkVal5
  rw [dif_pos hex]
  injection (h.symm.trans (Classical.choose_spec hex)) with e
  exact e.symm
theorem wp_look55 (dst : Option Tmp) (m x : Operand) (ty : TypeId) (pos : String) (af : Array Go.Edge) (g : Option (Nat × Bool)) (a : Act) (w : World) (K : Act → World → Prop) (Q : Exit → Act → World → Prop)
    (h : lkOk5 w (a.eval m) (a.eval x)) : Oper.wp Try.prog ⟨dst, .lookup 55 m x false, ty, pos, af, g⟩ a w K Q = K (a.put dst (lkVal5 w (a.eval m) (a.eval x))) w := by
  obtain ⟨v, hv⟩ := h
  rw [(lk5_of hv).2]
  unfold Oper.wp
  simp [execOp, hv, Result.andThen]
  exact Iff.rfl
def updOk5 (w : World) (m x v : Value) : Prop := ∃ w', (Instr.mapUpdate 55 m x v).run Try.prog w = .ok () w'
open Classical in
noncomputable def updW5 (w : World) (m x v : Value) : World := if h : ∃ w', (Instr.mapUpdate 55 m x v).run Try.prog w = .ok () w' then Classical.choose h else w
theorem upd5_of {w w' : World} {m x v : Value} (h : (Instr.mapUpdate 55 m x v).run Try.prog w = .ok () w') : updOk5 w m x v ∧ updW5 w m x v = w' := by
  have hex : ∃ w', (Instr.mapUpdate 55 m x v).run Try.prog w = .ok () w' := ⟨w', h⟩
  refine ⟨hex, ?_⟩
  unfold updW5
  rw [dif_pos hex]
  injection (h.symm.trans (Classical.choose_spec hex)) with _ e
  exact e.symm
theorem wp_upd55 (m x v : Operand) (ty : TypeId) (pos : String) (af : Array Go.Edge) (g : Option (Nat × Bool)) (a : Act) (w : World) (K : Act → World → Prop) (Q : Exit → Act → World → Prop)
    (h : updOk5 w (a.eval m) (a.eval x) (a.eval v)) : Oper.wp Try.prog ⟨none, .mapUpdate 55 m x v, ty, pos, af, g⟩ a w K Q = K (a.put none undef) (updW5 w (a.eval m) (a.eval x) (a.eval v)) := by
  obtain ⟨w', hw⟩ := h
  rw [(upd5_of hw).2]
  unfold Oper.wp
  simp [execOp, hw, Result.andThen]
  exact Iff.rfl
theorem upd5_facts {w : World} {mb n : Nat} {f : Lit → Option Value} (h : MapAt w Try.prog 3 mb n f) (hn : n < maxLen) {c : Int} (hc : (Lit.int .i64 c).wf = true) (v : Value) :
    updOk5 w (.map (some mb)) (.int .i64 c) v ∧ MapAt (updW5 w (.map (some mb)) (.int .i64 c) v) Try.prog 3 mb (n + 1) (fset f (.int .i64 c) v) ∧ w.grownBy (updW5 w (.map (some mb)) (.int .i64 c) v) (some mb) := by
  obtain ⟨w', hrun, h1, h2⟩ := h.upd law3 under55 hn v (key3 hc)
  obtain ⟨h3, h4⟩ := upd5_of hrun
  rw [h4]
  exact ⟨h3, h1, h2.grown⟩
theorem look5_facts {w : World} {mb n : Nat} {f : Lit → Option Value} (h : MapAt w Try.prog 3 mb n f) {c : Int} (hc : (Lit.int .i64 c).wf = true) :
    lkOk5 w (.map (some mb)) (.int .i64 c) ∧ lkVal5 w (.map (some mb)) (.int .i64 c) = (f (.int .i64 c)).getD (staV zeroS) :=
  lk5_of (h.look law3 under55 (zero45 w) (key3 hc))

/-! ### The states of the cells -/
def staTo (L : List Acc) (c : Int) : Nat → Sta
  | 0 => zeroS
  | k + 1 => if (aAt L k).ce = c then nextF (staTo L c k) (aAt L k) else staTo L c k
theorem staTo_zero (L : List Acc) (c : Int) : staTo L c 0 = zeroS := rfl
theorem staTo_succ (L : List Acc) (c : Int) (k : Nat) : staTo L c (k + 1) = if (aAt L k).ce = c then nextF (staTo L c k) (aAt L k) else staTo L c k := rfl
def hasTo (L : List Acc) (c : Int) (k : Nat) : Prop := ∃ i, i < k ∧ (aAt L i).ce = c
theorem staTo_none (L : List Acc) (c : Int) (k : Nat) (h : ¬ hasTo L c k) : staTo L c k = zeroS := by
  induction k with
  | zero => rfl
  | succ k ih =>
    rw [staTo_succ, if_neg (fun e => h ⟨k, by omega, e⟩)]
    exact ih (fun ⟨i, hi, e⟩ => h ⟨i, by omega, e⟩)
theorem metF_lk (k : Int) (n : Nat) : (metF k n).lk = n := by rw [metF_eq]
theorem nextF_lk (s : Sta) (a : Acc) (h1 : s.lk < 18446744073709551616) (h2 : a.lk < 18446744073709551616) : (nextF s a).lk < 18446744073709551616 := by
  have h3 : s.lk &&& a.lk < 18446744073709551616 := Nat.lt_of_le_of_lt Nat.and_le_left h1
  rw [nextF_eq]
  repeat' split
  all_goals first | exact h1 | (rw [metF_lk]; first | exact h2 | exact h3) | (show 0 < _; omega)
theorem staTo_lk {L : List Acc} (hW : WfL L) (c : Int) (k : Nat) (hk : k ≤ L.length) : (staTo L c k).lk < 18446744073709551616 := by
  induction k with
  | zero => show 0 < _; omega
  | succ k ih =>
    rw [staTo_succ]
    split
    · exact nextF_lk _ _ (ih (by omega)) (hW k (by omega)).lk
    · exact ih (by omega)
attribute [irreducible] staTo

open Classical in
/-- What the map is behind k rounds. -/
def CellFn (L : List Acc) (k : Nat) (f : Lit → Option Value) : Prop := ∀ c : Int, (Lit.int .i64 c).wf = true → f (.int .i64 c) = if hasTo L c k then some (staV (staTo L c k)) else none
theorem CellFn.get {L : List Acc} {k : Nat} {f : Lit → Option Value} (h : CellFn L k f) (c : Int) (hc : (Lit.int .i64 c).wf = true) : (f (.int .i64 c)).getD (staV zeroS) = staV (staTo L c k) := by
  rw [h c hc]
  split
  · rfl
  · rename_i hn; rw [staTo_none L c k hn]; rfl
theorem CellFn.next {L : List Acc} {k : Nat} {f : Lit → Option Value} (h : CellFn L k f) : CellFn L (k + 1) (fset f (.int .i64 (aAt L k).ce) (staV (nextF (staTo L (aAt L k).ce k) (aAt L k)))) := by
  intro c hc
  unfold fset
  by_cases e : c = (aAt L k).ce
  · subst e
    rw [if_pos rfl, if_pos ⟨k, by omega, rfl⟩, staTo_succ, if_pos rfl]
  · have hne : ¬ (aAt L k).ce = c := fun e2 => e e2.symm
    have hne2 : ¬ (Lit.int .i64 c = Lit.int .i64 (aAt L k).ce) := by intro e2; injection e2 with _ e2; exact e e2
    rw [if_neg hne2, h c hc, staTo_succ, if_neg hne]
    have : hasTo L c (k + 1) ↔ hasTo L c k := by
      constructor
      · rintro ⟨i, hi, e2⟩
        by_cases hik : i = k
        · subst hik; exact absurd e2.symm e
        · exact ⟨i, by omega, e2⟩
      · rintro ⟨i, hi, e2⟩; exact ⟨i, by omega, e2⟩
    by_cases hh : hasTo L c k
    · rw [if_pos hh, if_pos (this.2 hh)]
    · rw [if_neg hh, if_neg (fun h2 => hh (this.1 h2))]
theorem CellFn.start (L : List Acc) : CellFn L 0 (fun _ => none) := by
  intro c _
  rw [if_neg (by rintro ⟨i, hi, _⟩; omega)]

attribute [local go_sem ↓] wp_mid41 wp_look55 wp_upd55

set_option maxHeartbeats 4000000 in
theorem cells_any (L : List Acc) (base : Option Addr) (cap : Nat) (w : World) (hL : AccAt w base L) (hW : WfL L) (hn : L.length ≤ 1000000) :
    Calls Try.prog 19 #[.slice base L.length cap] w fun e w' => ∃ mb f, e = .returned (.map (some mb)) ∧ MapAt w' Try.prog 3 mb L.length f ∧ CellFn L L.length f ∧ w.heap.size ≤ mb ∧ Below w.heap.size w w' := by
  have H0 := Lib.hid (MapAt.made w Try.prog 3)
  have Hb0 := Lib.hid (show Below w.heap.size w (w.alloc (.map #[] 0)) from (Below.refl _ _).alloc (Nat.le_refl _) _)
  have hmm := @run_makeMap Try.prog
  go_enter Try.func19, Try.ntmps19
  go_wp2
  have Hmb := Lib.hid (Nat.le_refl w.heap.size)
  go_loopw [5, 9] (fun _ i wr => ∃ (k : Nat) (f : Lit → Option Value), k ≤ L.length ∧ i = .int .i64 k ∧ MapAt wr Try.prog 3 w.heap.size k f ∧ CellFn L k f ∧ Below w.heap.size w wr) (fun _ i _ => L.length - (intOf i).toNat)
  case atStart => exact ⟨0, _, by omega, rfl, H0.out, CellFn.start L, Hb0.out⟩
  case round =>
    obtain ⟨k, f, hk, rfl, hm, hf, hb⟩ := hrel
    have HF := Lib.hid hf; clear hf
    by_cases hlt : k < L.length
    · have HW := Lib.hid hW; clear hW
      have hwf := HW.out k hlt
      obtain ⟨b, off, hbase, hr⟩ := (hL.more hb) k hlt
      subst hbase
      have hget := HF.out.get (aAt L k).ce hwf.ce
      have hlk := staTo_lk HW.out (aAt L k).ce k hk
      have hnx := HF.out.next
      generalize staTo L (aAt L k).ce k = s at *
      generalize aAt L k = c at *
      have Hnx := Lib.hid hnx; clear hnx
      have Hget := Lib.hid hget; clear hget
      have hal : Below wr.heap.size wr (wr.alloc (.cells (accCells c).toArray 41)) := (Below.refl _ _).alloc (Nat.le_refl _) _
      have hbox : BoxA (wr.alloc (.cells (accCells c).toArray 41)) wr.heap.size 41 c := BoxA.new wr 41 c
      have hm1 := hm.more hal
      have hb1 := hb.trans (hal.mono hb.size)
      have hkm : k < maxLen := by unfold maxLen; omega
      have Hm := Lib.hid hm; clear hm hL
      go_wp2_with (first | (refine load_r rfl 41 _ rfl b (off + k * 12) rfl _ hr Try.under41 Try.size41 ?_) | (refine row_alloc rfl 41 rfl _ (Try.zero41 _) ?_) | (refine store_r rfl 41 _ _ rfl wr.heap.size (accCells c).toArray rfl rfl (heap_alloc_new _ _) Try.size41 rfl (accCells_one c) ?_; rw [setRow_alloc _ _ _ _ _ rfl]))
      clear hr
      generalize hbx : wr.heap.size = bx at *
      generalize hw1 : wr.alloc (.cells (accCells c).toArray 41) = w1 at *
      clear hw1 hbx hb
      have hd0 : Below w1.heap.size w1 w1.drew := (Below.refl _ _).drew
      have hbox2 := hbox.keep hd0
      have hce := hbox2.ce
      obtain ⟨f1, v1⟩ := mid_of (n := 12) hbox2.all rfl
      have hm2 := hm1.more hd0
      obtain ⟨q1, q2⟩ := look5_facts hm2 hwf.ce
      rw [Hget.out] at q2
      have hb2 := hb1.trans (hd0.mono hb1.size)
      have HN := Lib.hid (fun w => Next_any s c hwf.lk hlk w)
      have Hm2 := Lib.hid hm2; clear hm2
      go_region_law (go_simp; go_at_call 27; refine (HN.out _).mono ?_; rintro e wX ⟨rfl, hbX⟩; have hceX := (hbox2.keep hbX).ce; obtain ⟨u1, u2, u3⟩ := upd5_facts (Hm2.out.more hbX) hkm hwf.ce (staV (nextF s c)); have hb3 := hb2.trans (hbX.mono hb2.size))
      all_goals
        go_wp2
        go_roundw
        case rel => exact ⟨k + 1, _, by omega, by go_num, u2, Hnx.out, hb3.grown u3 hb3.size (fun g hg => by injection hg with e; rw [← e]; exact Hmb.out)⟩
        case measure => simp [intOf]; omega
    · have hke := Lib.hid (show k = L.length by omega)
      go_wp2
      go_ret
      exact ⟨_, f, rfl, by rw [← hke.out]; exact hm, by rw [← hke.out]; exact HF.out, Hmb.out, hb⟩
end Go.Proofs.Ytlgkkjhkanpmhaa
