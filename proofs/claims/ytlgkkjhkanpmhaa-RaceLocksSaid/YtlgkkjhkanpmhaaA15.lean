import Derived.Test.YtlgkkjhkanpmhaaA14
namespace Go.Proofs.Ytlgkkjhkanpmhaa
open Go.RowKit Go.Maps Go.WideShapes

theorem under53 : Try.prog.underlying 53 = some (.map 3 47) := by kernel_rfl
theorem under47 : Try.prog.underlying 47 = some (.slice 3) := by kernel_rfl
theorem law3 : Keyed Try.prog 3 := int_keyed Try.underlying3
theorem zero47 (w : World) : (zeroValue 47).run Try.prog w = .ok (.slice none 0 0) w := by kernel_rfl
theorem key3 {c : Int} (h : (Lit.int .i64 c).wf = true) : keyOf Try.prog 3 (.int .i64 c) = some (.int .i64 c) := keyOf_int_mk Try.underlying3 h
theorem Try.info3 : (Try.prog.info? 3).map (fun i => (i.zero.map (·.cells.size), i.size, i.bytes)) = some (some 1, 1, 8) := by kernel_rfl

/-! ### A look-up and a store in a map, inside a region that draws -/
def lkOk (w : World) (m x : Value) : Prop := ∃ v, (Instr.lookup 53 m x false).run Try.prog w = .ok v w
open Classical in
noncomputable def lkVal (w : World) (m x : Value) : Value := if h : ∃ v, (Instr.lookup 53 m x false).run Try.prog w = .ok v w then Classical.choose h else undef
theorem lk_of {w : World} {m x v : Value} (h : (Instr.lookup 53 m x false).run Try.prog w = .ok v w) : lkOk w m x ∧ lkVal w m x = v := by
  have hex : ∃ v, (Instr.lookup 53 m x false).run Try.prog w = .ok v w := ⟨v, h⟩
  refine ⟨hex, ?_⟩
  unfold lkVal
  rw [dif_pos hex]
  injection (h.symm.trans (Classical.choose_spec hex)) with e
  exact e.symm
theorem wp_look53 (dst : Option Tmp) (m x : Operand) (ty : TypeId) (pos : String) (af : Array Go.Edge) (g : Option (Nat × Bool)) (a : Act) (w : World) (K : Act → World → Prop) (Q : Exit → Act → World → Prop)
    (h : lkOk w (a.eval m) (a.eval x)) : Oper.wp Try.prog ⟨dst, .lookup 53 m x false, ty, pos, af, g⟩ a w K Q = K (a.put dst (lkVal w (a.eval m) (a.eval x))) w := by
  obtain ⟨v, hv⟩ := h
  rw [(lk_of hv).2]
  unfold Oper.wp
  simp [execOp, hv, Result.andThen]
  exact Iff.rfl
def updOk (w : World) (m x v : Value) : Prop := ∃ w', (Instr.mapUpdate 53 m x v).run Try.prog w = .ok () w'
open Classical in
noncomputable def updW (w : World) (m x v : Value) : World := if h : ∃ w', (Instr.mapUpdate 53 m x v).run Try.prog w = .ok () w' then Classical.choose h else w
theorem upd_of {w w' : World} {m x v : Value} (h : (Instr.mapUpdate 53 m x v).run Try.prog w = .ok () w') : updOk w m x v ∧ updW w m x v = w' := by
  have hex : ∃ w', (Instr.mapUpdate 53 m x v).run Try.prog w = .ok () w' := ⟨w', h⟩
  refine ⟨hex, ?_⟩
  unfold updW
  rw [dif_pos hex]
  injection (h.symm.trans (Classical.choose_spec hex)) with _ e
  exact e.symm
theorem wp_upd53 (m x v : Operand) (ty : TypeId) (pos : String) (af : Array Go.Edge) (g : Option (Nat × Bool)) (a : Act) (w : World) (K : Act → World → Prop) (Q : Exit → Act → World → Prop)
    (h : updOk w (a.eval m) (a.eval x) (a.eval v)) : Oper.wp Try.prog ⟨none, .mapUpdate 53 m x v, ty, pos, af, g⟩ a w K Q = K (a.put none undef) (updW w (a.eval m) (a.eval x) (a.eval v)) := by
  obtain ⟨w', hw⟩ := h
  rw [(upd_of hw).2]
  unfold Oper.wp
  simp [execOp, hw, Result.andThen]
  exact Iff.rfl
theorem upd_facts {w : World} {mb n : Nat} {f : Lit → Option Value} (h : MapAt w Try.prog 3 mb n f) (hn : n < maxLen) {c : Int} (hc : (Lit.int .i64 c).wf = true) (v : Value) :
    updOk w (.map (some mb)) (.int .i64 c) v ∧ MapAt (updW w (.map (some mb)) (.int .i64 c) v) Try.prog 3 mb (n + 1) (fset f (.int .i64 c) v) ∧ w.grownBy (updW w (.map (some mb)) (.int .i64 c) v) (some mb) := by
  obtain ⟨w', hrun, h1, h2⟩ := h.upd law3 under53 hn v (key3 hc)
  obtain ⟨h3, h4⟩ := upd_of hrun
  rw [h4]
  exact ⟨h3, h1, h2.grown⟩
theorem look_facts {w : World} {mb n : Nat} {f : Lit → Option Value} (h : MapAt w Try.prog 3 mb n f) {c : Int} (hc : (Lit.int .i64 c).wf = true) :
    lkOk w (.map (some mb)) (.int .i64 c) ∧ lkVal w (.map (some mb)) (.int .i64 c) = gval f c :=
  lk_of (h.look law3 under53 (zero47 w) (key3 hc))

theorem step_of_wp {P : Program} {ops : Array Oper} {o : Oper} {a : Act} {w : World} {K : Act → World → Prop} {Q : Exit → Act → World → Prop} {F : Prop} (hgd : o.guard = none) (h : o.wp P a w K Q) :
    if Region.wanted o (yielded ops a.tmps) = true then Oper.wp P o a w K Q else F := by
  rw [if_pos (by simp [Region.wanted, hgd])]; exact h
/-- 'append(l, x)' of one int, as a step of a region that draws; x lies in an older block. -/
theorem step_int_at {ops : Array Oper} {o : Oper} {a : Act} {w : World} {K : Act → World → Prop} {Q : Exit → Act → World → Prop} {F : Prop} (hgd : o.guard = none) (s x : Operand)
    (ho : o.op = .call { callee := .builtin .append, args := #[s, x], argTypes := #[47, 47] }) {B n : Nat} {v : Value} {xs : List Value} (k : Int) (g : Nat)
    (hown : w.ownsRow B 3 1 v n xs) (hcell : w.cell? ⟨g, 0, none⟩ = some (.int .i64 k)) (hs : a.eval s = v) (hx : a.eval x = .slice (some ⟨g, 0, none⟩) 1 1)
    (hn : n + 1 ≤ 1099511627776) (hB : B ≤ w.heap.size)
    (h : ∀ v' w', w'.ownsRow B 3 1 v' (n + 1) (xs ++ [.int .i64 k]) → w.grownBy w' v.ownBlock → (v'.ownBlock = v.ownBlock ∨ v'.ownBlock = some w.heap.size) → K (a.put o.dst v') w') :
    if Region.wanted o (yielded ops a.tmps) = true then Oper.wp Try.prog o a w K Q else F := by
  obtain ⟨i0, z, hi, hz0, hz1, hz2, hz3⟩ := info_some Try.info3
  refine step_of_wp hgd ?_
  obtain ⟨v', w', hr, h2, h3, h4, h5⟩ := run_append_own_at (P := Try.prog) w B 47 o.type 3 i0 z 1 8 under47 hi hz0 hz1 hz2 hz3 (by decide) v n xs hown ⟨g, 0, none⟩ 1 1 [.int .i64 k] rfl
    (fun j u hu => by
      match j, hu with
      | 0, hu => simp at hu; rw [← hu]; exact hcell) (by simp [Value.oneCell']) (by unfold maxLen; omega) (by omega) hB
  unfold Oper.wp execOp
  simp only [ho, resolve, invoke, builtin, Sem.run_bind, Sem.run_pure, Result.andThen_ok, List.map_toArray, List.map_cons, List.map_nil, hs, hx, hr]
  exact h v' w' h2 h3 h5

theorem Try.zero41 (w : World) : (zeroValue 41).run Try.prog w = .ok (accV ⟨0, 0, false, zeroC, 0⟩) w := by kernel_rfl
theorem owns_slice {w : World} {B n : Nat} {e : TypeId} {s : Nat} {v : Value} {xs : List Value} (h : w.ownsRow B e s v n xs) : ∃ base cap, v = .slice base n cap := by
  rcases h.2 with ⟨rfl, rfl⟩ | ⟨g, cap, cur, rfl, _⟩
  · exact ⟨none, 0, rfl⟩
  · exact ⟨_, _, rfl⟩
theorem icl_cell {w : World} {B : Nat} {base : Option Addr} {n cap : Nat} {l : List Nat} (h : w.ownsRow B 3 1 (.slice base n cap) n (icl l)) (j : Nat) (hj : j < l.length) : ∃ b, base = some ⟨b, 0, none⟩ ∧ w.cell? ⟨b, j, none⟩ = some (.int .i64 ((gAt l j : Nat) : Int)) := by
  have hl := h.1
  rcases h.2 with ⟨hv, h0⟩ | ⟨g, cap, cur, hv, _⟩
  · simp [icl] at hl; omega
  · injection hv with h1 h2 h3
    subst h1
    have := h.cells (g := g) rfl j (.int .i64 ((gAt l j : Nat) : Int)) (by simp [icl, gAt, hj])
    rw [Addr.add_mid, Nat.zero_add] at this
    exact ⟨g, rfl, this⟩
theorem take_succ_gAt (l : List Nat) (k : Nat) (h : k < l.length) : l.take (k + 1) = l.take k ++ [gAt l k] := by
  rw [List.take_succ_eq_append_getElem h]; simp [gAt, h]
end Go.Proofs.Ytlgkkjhkanpmhaa
