import Derived.Maps.OwnOps
import Derived.Maps.OwnSet
import Derived.Maps.Views
import Derived.Maps.RangeWalk
import Derived.WalkArith
import Derived.WalkKit
namespace Go.Proofs.Ytlgkkjhkanpmhaa
open Go.RowKit Go.Maps Go.WideShapes

/-- How an element reads: as itself. -/
def rawElem (v : Value) : Option (DataW Value × List MemPlace) := some (.held v, [])
/-- What a map's datum is as a function. -/
def Fnc (D : DataW Value) (f : Lit → Option Value) : Prop :=
  IsMap D ∧ ∀ kl, WideAt.IsKeyLit kl → ∀ z, D.atKey kl z = match f kl with | none => z | some v => .held v
/-- Block b is a map of at most n entries that is the function f. -/
def MapAt (w : World) (P : Program) (k : TypeId) (b n : Nat) (f : Lit → Option Value) : Prop := ∃ D, w.ownsMap P k rawElem b n D ∧ Fnc D f
open Classical in
noncomputable def fset (f : Lit → Option Value) (kl : Lit) (v : Value) : Lit → Option Value := fun x => if x = kl then some v else f x
open Classical in
noncomputable def fdel (f : Lit → Option Value) (kl : Lit) : Lit → Option Value := fun x => if x = kl then none else f x

section
variable {P : Program} {k : TypeId} {b n : Nat} {f : Lit → Option Value} {w : World}
theorem MapAt.made (w : World) (P : Program) (k : TypeId) : MapAt (w.alloc (.map #[] 0)) P k w.heap.size 0 (fun _ => none) :=
  ⟨_, World.ownsMap_made w P k rawElem, isMap_empty, fun _ _ _ => rfl⟩
theorem MapAt.mono (h : MapAt w P k b n f) {n' : Nat} (hn : n ≤ n') : MapAt w P k b n' f := by
  obtain ⟨D, h1, h2⟩ := h; exact ⟨D, h1.mono hn, h2⟩
theorem MapAt.lt (h : MapAt w P k b n f) : b < w.heap.size := by obtain ⟨D, h1, _⟩ := h; exact h1.lt
theorem MapAt.kept {w' : World} {row : Option Nat} (h : MapAt w P k b n f) (hg : w.grownBy w' row) (hne : some b ≠ row) : MapAt w' P k b n f := by
  obtain ⟨D, h1, h2⟩ := h; exact ⟨D, h1.kept hg hne, h2⟩
theorem MapAt.more {w' : World} (h : MapAt w P k b n f) (hb : Below w.heap.size w w') : MapAt w' P k b n f := by
  have hl := h.lt
  obtain ⟨D, ⟨es, clock, h1, F, hs, hD⟩, h2⟩ := h
  exact ⟨D, ⟨es, clock, (hb.block b hl).trans h1, F, hs, hD⟩, h2⟩
theorem MapAt.look {t e : TypeId} (h : MapAt w P k b n f) (K : Keyed P k) (ht : P.underlying t = some (.map k e)) {z : Value} (hz : (zeroValue e).run P w = .ok z w) {key : Value} {kl : Lit} (hkey : keyOf P k key = some kl) :
    (Instr.lookup t (.map (some b)) key false).run P w = .ok ((f kl).getD z) w := by
  obtain ⟨D, h1, h2, h3⟩ := h
  obtain ⟨v, ps, hrun, hv⟩ := h1.lookup K ht hz (zd := .held z) (zp := []) rfl hkey
  rw [hrun]
  have := h3 kl (K.key hkey) (.held z)
  rw [this] at hv
  unfold rawElem at hv
  cases hf : f kl with
  | none => rw [hf] at hv; simp at hv; rw [hv.1]; rfl
  | some v' => rw [hf] at hv; simp at hv; rw [hv.1]; rfl
theorem MapAt.look_ok {t e : TypeId} (h : MapAt w P k b n f) (K : Keyed P k) (ht : P.underlying t = some (.map k e)) {z : Value} (hz : (zeroValue e).run P w = .ok z w) {key : Value} {kl : Lit} (hkey : keyOf P k key = some kl) :
    (Instr.lookup t (.map (some b)) key true).run P w = .ok (.tuple #[(f kl).getD z, .bool (f kl).isSome]) w := by
  obtain ⟨D, h1, h2, h3⟩ := h
  obtain ⟨v, ps, hrun, hv⟩ := h1.look_ok K ht hz (zd := .held z) (zp := []) rfl hkey
  rw [hrun]
  have h4 := h3 kl (K.key hkey)
  have := h4 (.held z)
  rw [this] at hv
  unfold rawElem at hv
  cases hf : f kl with
  | none =>
    rw [hf] at hv; simp at hv; rw [hv.1]
    rw [Maps.has_false_of_atKey (fun z => by rw [h4 z, hf])]; rfl
  | some v' =>
    rw [hf] at hv; simp at hv; rw [hv.1]
    rw [Maps.has_true_of_atKey (y := .held v') (fun z => by rw [h4 z, hf])]; rfl
theorem Fnc.put {D : DataW Value} (h : Fnc D f) {kl : Lit} (hk : WideAt.IsKeyLit kl) (v : Value) : Fnc (D.put kl (.held v)) (fset f kl v) := by
  refine ⟨h.1.put _ _, fun x hx z => ?_⟩
  unfold fset
  by_cases e : x = kl
  · subst e; rw [atKey_put_same h.1 hk, if_pos rfl]
  · rw [atKey_put_other e, if_neg e, h.2 x hx]
theorem Fnc.del {D : DataW Value} (h : Fnc D f) {kl : Lit} : Fnc (D.del kl) (fdel f kl) := by
  refine ⟨h.1.del _, fun x hx z => ?_⟩
  unfold fdel
  by_cases e : x = kl
  · subst e; rw [atKey_del_same, if_pos rfl]
  · rw [atKey_del_other e, if_neg e, h.2 x hx]
theorem MapAt.upd {t e : TypeId} (h : MapAt w P k b n f) (K : Keyed P k) (ht : P.underlying t = some (.map k e)) (hn : n < maxLen) {key : Value} {kl : Lit} (val : Value) (hkey : keyOf P k key = some kl) :
    ∃ w', (Instr.mapUpdate t (.map (some b)) key val).run P w = .ok () w' ∧ MapAt w' P k b (n + 1) (fset f kl val) ∧ w.mapTurned w' b := by
  obtain ⟨D, h1, h2⟩ := h
  obtain ⟨w', hrun, h3, h4⟩ := h1.store K ht hn hkey (val := val) (d := .held val) (ps := []) rfl
  exact ⟨w', hrun, ⟨_, h3, h2.put (K.key hkey) val⟩, h4⟩
theorem MapAt.drop {t e : TypeId} (h : MapAt w P k b n f) (K : Keyed P k) (ht : P.underlying t = some (.map k e)) {key : Value} {kl : Lit} (hkey : keyOf P k key = some kl) (ty : TypeId) :
    ∃ w', (Builtin.delete_ #[t, k] ty #[.map (some b), key]).run P w = .ok (.tuple #[]) w' ∧ MapAt w' P k b n (fdel f kl) ∧ w.mapTurned w' b := by
  obtain ⟨D, h1, h2⟩ := h
  obtain ⟨w', hrun, h3, h4⟩ := h1.drop K ht hkey ty
  exact ⟨w', hrun, ⟨_, h3, h2.del⟩, h4⟩

variable {ops : Array Oper} {rest : List Oper} {o : Oper} {a : Act} {Q : Exit → Act → World → Prop}
theorem wpList_look_m (hg : o.guard = none) (m x : Operand) (t : TypeId) (hop : o.op = Op.lookup t m x false) (e : TypeId) (K : Keyed P k) (ht : P.underlying t = some (.map k e)) {z : Value} (hz : (zeroValue e).run P w = .ok z w)
    (h : MapAt w P k b n f) (hm : a.eval m = .map (some b)) (key : Value) (kl : Lit) (hx : a.eval x = key) (hkey : keyOf P k key = some kl) (hK : wpList P ops Q rest (a.put o.dst ((f kl).getD z)) w) : wpList P ops Q (o :: rest) a w := by
  refine wpList_plain hg fun K' hK' => ?_
  have hrun := h.look K ht hz hkey
  generalize (f kl).getD z = r at *
  unfold Oper.wp
  simp [execOp, hop, hm, hx, hrun, Result.andThen]
  exact hK' _ _ hK
theorem wpList_update_m (hg : o.guard = none) (m x v : Operand) (t : TypeId) (hop : o.op = Op.mapUpdate t m x v) (e : TypeId) (K : Keyed P k) (ht : P.underlying t = some (.map k e))
    (h : MapAt w P k b n f) (hn : n < maxLen) (hm : a.eval m = .map (some b)) (key : Value) (kl : Lit) (hx : a.eval x = key) (hkey : keyOf P k key = some kl) (val : Value) (hv : a.eval v = val)
    (hK : ∀ w', MapAt w' P k b (n + 1) (fset f kl val) → w.mapTurned w' b → wpList P ops Q rest (a.put o.dst undef) w') : wpList P ops Q (o :: rest) a w := by
  refine wpList_plain hg fun K' hK' => ?_
  obtain ⟨w', hrun, h1, h2⟩ := h.upd K ht hn val hkey
  unfold Oper.wp
  simp [execOp, hop, hm, hx, hv, hrun, Result.andThen]
  exact hK' _ _ (hK w' h1 h2)
end
end Go.Proofs.Ytlgkkjhkanpmhaa
