import Derived.Test.YtlgkkjhkanpmhaaA13
import Derived.Test.YtlgkkjhkanpmhaaM0
import Derived.Maps.AppendAt
namespace Go.Proofs.Ytlgkkjhkanpmhaa
open Go.RowKit Go.Maps Go.WideShapes

def icl (l : List Nat) : List Value := l.map fun (n : Nat) => Value.int .i64 (n : Int)
theorem icl_snoc (l : List Nat) (k : Nat) : icl (l ++ [k]) = icl l ++ [.int .i64 (k : Int)] := by simp [icl]

/-- Those of the first k that access the cell c. -/
def grpL (L : List Acc) (k : Nat) (c : Int) : List Nat := (List.range k).filter fun i => (aAt L i).ce == c
theorem grpL_zero (L : List Acc) (c : Int) : grpL L 0 c = [] := rfl
theorem grpL_same (L : List Acc) (k : Nat) : grpL L (k + 1) (aAt L k).ce = grpL L k (aAt L k).ce ++ [k] := by
  unfold grpL; rw [List.range_succ, List.filter_append]; simp
theorem grpL_other (L : List Acc) (k : Nat) (c : Int) (h : c ≠ (aAt L k).ce) : grpL L (k + 1) c = grpL L k c := by
  unfold grpL; rw [List.range_succ, List.filter_append]; simp; exact fun e => h e.symm
theorem grpL_len (L : List Acc) (k : Nat) (c : Int) : (grpL L k c).length ≤ k := by
  unfold grpL
  have := List.length_filter_le (fun i => (aAt L i).ce == c) (List.range k)
  rw [List.length_range] at this; exact this
theorem grpL_lt (L : List Acc) (k : Nat) (c : Int) (i : Nat) (hi : i ∈ grpL L k c) : i < k := by
  unfold grpL at hi
  exact List.mem_range.1 (List.mem_filter.1 hi).1
theorem raceB_ce (a b : Acc) (h : raceB a b = true) : a.ce = b.ce := by
  rw [raceB_eq] at h
  simp only [Bool.and_eq_true, beq_iff_eq] at h
  exact h.1.1.1.2
theorem inner_grp (L : List Acc) (k : Nat) : innerL L k (grpL L k (aAt L k).ce) = innerL L k (List.range k) := by
  unfold innerL grpL
  rw [List.filter_filter]
  congr 1
  apply List.filter_congr
  intro i _
  cases h : raceB (aAt L i) (aAt L k)
  · rfl
  · simp [raceB_ce _ _ h]
attribute [irreducible] grpL

theorem G_below {B : Nat} {a b c : World} {row : Option Nat} (h : Below B a b) (hg : b.grownBy c row) (hB : B ≤ b.heap.size) (hrow : ∀ k, row = some k → B ≤ k) : Below B a c := h.grown hg hB hrow
theorem owns_block {w : World} {B : Nat} {T : TypeId} {s : Nat} {v : Value} {n : Nat} {xs : List Value} (h : w.ownsRow B T s v n xs) {g : Nat} (hg : v.ownBlock = some g) : ∃ cur, w.heap[g]? = some (.cells cur T (0, 0)) := by
  rcases h.2 with ⟨rfl, _⟩ | ⟨g', cap, cur, rfl, _, hh, _⟩
  · cases hg
  · simp only [Value.ownBlock, Option.some.injEq] at hg
    subst hg
    exact ⟨cur, hh⟩
theorem map_ne {w : World} {P : Program} {k : TypeId} {mb n : Nat} {f : Lit → Option Value} {B : Nat} {T : TypeId} {s : Nat} {v : Value} {n' : Nat} {xs : List Value} (hm : MapAt w P k mb n f) (h : w.ownsRow B T s v n' xs) : some mb ≠ v.ownBlock := by
  intro e
  obtain ⟨cur, hc⟩ := owns_block h e.symm
  obtain ⟨D, ⟨es, clock, hb, _⟩, _⟩ := hm
  rw [hb] at hc; cases hc
theorem none_or {v : Value} {row : Option Nat} (h : ∀ g, v.ownBlock = some g → row ≠ some g) : v.ownBlock = none ∨ v.ownBlock ≠ row := by
  cases hv : v.ownBlock with
  | none => exact .inl rfl
  | some g => exact .inr (fun e => h g hv e.symm)

/-- A group's slice. -/
def gval (f : Lit → Option Value) (c : Int) : Value := (f (.int .i64 c)).getD (.slice none 0 0)
theorem gval_block {f : Lit → Option Value} {c : Int} {g : Nat} (h : (gval f c).ownBlock = some g) : ∃ u, f (.int .i64 c) = some u ∧ u.ownBlock = some g := by
  unfold gval at h
  cases hf : f (.int .i64 c) with
  | none => rw [hf] at h; cases h
  | some u => rw [hf] at h; exact ⟨u, rfl, h⟩

/-- The world inside 'All': the pairs, the map of the groups. -/
structure Grp (L : List Acc) (w wr : World) (mb : Nat) (v : Value) (ps : List (Nat × Nat)) (k : Nat) (f : Lit → Option Value) : Prop where
  pr : PrIn 32 w wr v ps
  mp : MapAt wr Try.prog 3 mb k f
  mlo : w.heap.size ≤ mb
  own : ∀ c : Int, (Lit.int .i64 c).wf = true → wr.ownsRow w.heap.size 3 1 (gval f c) (grpL L k c).length (icl (grpL L k c))
  out : ∀ c g, (Lit.int .i64 c).wf = true → (gval f c).ownBlock = some g → v.ownBlock ≠ some g
  apart : ∀ c c' g, (Lit.int .i64 c).wf = true → (Lit.int .i64 c').wf = true → c ≠ c' → (gval f c).ownBlock = some g → (gval f c').ownBlock ≠ some g

theorem Grp.more {L : List Acc} {w wr w1 : World} {mb : Nat} {v : Value} {ps : List (Nat × Nat)} {k : Nat} {f : Lit → Option Value} (h : Grp L w wr mb v ps k f) (hb : Below wr.heap.size wr w1) : Grp L w w1 mb v ps k f :=
  ⟨h.pr.more hb, h.mp.more hb, h.mlo, fun c hc => owns_keep (h.own c hc) hb, h.out, h.apart⟩
theorem Grp.pushed {L : List Acc} {w wr w1 w2 : World} {mb : Nat} {v v' : Value} {ps ps' : List (Nat × Nat)} {k : Nat} {f : Lit → Option Value} (h : Grp L w wr mb v ps k f) (hb : Below wr.heap.size wr w1)
    (hg : w1.grownBy w2 v.ownBlock) (hown : w2.ownsRow w.heap.size 32 2 v' ps'.length (pcells ps')) (hat : v'.ownBlock = v.ownBlock ∨ ∃ g, v'.ownBlock = some g ∧ wr.heap.size ≤ g) : Grp L w w2 mb v' ps' k f := by
  have h1 := h.more hb
  refine ⟨h.pr.grown hb hg hown, h1.mp.kept hg (map_ne h1.mp h1.pr.own), h.mlo, fun c hc => (h1.own c hc).kept hg (none_or (h1.out c · hc)), fun c g hc hcg e => ?_, h.apart⟩
  rcases hat with hat | ⟨g', hat, hge⟩
  · exact h.out c g hc hcg (hat ▸ e)
  · rw [hat] at e
    injection e with e
    have := ((h.own c hc).lt g hcg).2
    omega
theorem gval_set_same (f : Lit → Option Value) (c : Int) (v : Value) : gval (fset f (.int .i64 c) v) c = v := by simp [gval, fset]
theorem gval_set_other (f : Lit → Option Value) (c c' : Int) (v : Value) (h : c' ≠ c) : gval (fset f (.int .i64 c) v) c' = gval f c' := by simp [gval, fset, h]
/-- Behind 'cells[c] = append(cells[c], k)'. -/
theorem Grp.stored {L : List Acc} {w wr w1 w2 w3 : World} {mb : Nat} {v u' : Value} {ps : List (Nat × Nat)} {k : Nat} {f : Lit → Option Value} (h : Grp L w wr mb v ps k f) (hb : Below wr.heap.size wr w1)
    (c : Int) (hc : (Lit.int .i64 c).wf = true) (hce : c = (aAt L k).ce)
    (hg : w1.grownBy w2 (gval f c).ownBlock) (hown : w2.ownsRow w.heap.size 3 1 u' ((grpL L k c).length + 1) (icl (grpL L k c) ++ [.int .i64 (k : Int)])) (hat : u'.ownBlock = (gval f c).ownBlock ∨ ∃ g, u'.ownBlock = some g ∧ wr.heap.size ≤ g)
    (hm : MapAt w2 Try.prog 3 mb k f → MapAt w3 Try.prog 3 mb (k + 1) (fset f (.int .i64 c) u')) (hg3 : MapAt w2 Try.prog 3 mb k f → w2.grownBy w3 (some mb)) : Grp L w w3 mb v ps (k + 1) (fset f (.int .i64 c) u') := by
  have h1 := h.more hb
  have hm2 : MapAt w2 Try.prog 3 mb k f := h1.mp.kept hg (map_ne h1.mp (h1.own c hc))
  have hg3 := hg3 hm2
  have hnew : ∀ g, u'.ownBlock = some g → v.ownBlock ≠ some g := by
    intro g hu e
    rcases hat with hat | ⟨g', hat, hge⟩
    · exact h.out c g hc (hat ▸ hu) e
    · rw [hat] at hu; injection hu with hu
      have := (h.pr.own.lt g e).2; omega
  have hpr2 : w2.ownsRow w.heap.size 32 2 v ps.length (pcells ps) := h1.pr.own.kept hg (none_or (fun g hv e => h1.out c g hc e hv))
  have hB2 : Below w.heap.size w w2 := h1.pr.below.grown hg h1.pr.below.size (fun g hgg => ((h1.own c hc).lt g hgg).1)
  have hB3 : Below w.heap.size w w3 := hB2.grown hg3 hB2.size (fun g hgg => by injection hgg with e; rw [← e]; exact h.mlo)
  refine ⟨⟨hB3, hpr2.kept hg3 (none_or (fun g hv e => map_ne hm2 hpr2 (e.trans hv.symm)))⟩, hm hm2, h.mlo, fun x hx => ?_, fun x g hx hxg => ?_, fun x y g hx hy hne hxg => ?_⟩
  · by_cases e : x = c
    · subst e
      rw [gval_set_same, show grpL L (k + 1) x = grpL L k x ++ [k] from hce ▸ grpL_same L k, icl_snoc, List.length_append]
      exact hown.kept hg3 (none_or (fun g hv e => map_ne hm2 hown (e.trans hv.symm)))
    · rw [gval_set_other _ _ _ _ e, grpL_other L k x (hce ▸ e)]
      have ho2 := (h1.own x hx).kept hg (none_or (fun g hv e2 => h.apart x c g hx hc e hv e2))
      exact ho2.kept hg3 (none_or (fun g hv e => map_ne hm2 ho2 (e.trans hv.symm)))
  · by_cases e : x = c
    · subst e; rw [gval_set_same] at hxg; exact hnew g hxg
    · rw [gval_set_other _ _ _ _ e] at hxg; exact h.out x g hx hxg
  · have key : ∀ z g, (Lit.int .i64 z).wf = true → z ≠ c → u'.ownBlock = some g → (gval f z).ownBlock ≠ some g := by
      intro z g hz hzc hu e2
      rcases hat with hat | ⟨g', hat, hge⟩
      · exact h.apart c z g hc hz (fun e => hzc e.symm) (hat ▸ hu) e2
      · rw [hat] at hu; injection hu with hu
        have := ((h.own z hz).lt g e2).2; omega
    by_cases e : x = c
    · subst e
      rw [gval_set_same] at hxg
      rw [gval_set_other _ _ _ _ (fun e => hne e.symm)]
      exact key y g hy (fun e => hne e.symm) hxg
    · rw [gval_set_other _ _ _ _ e] at hxg
      by_cases e2 : y = c
      · subst e2; rw [gval_set_same]; exact fun e3 => key x g hx e e3 hxg
      · rw [gval_set_other _ _ _ _ e2]; exact h.apart x y g hx hy hne hxg
theorem Grp.start (L : List Acc) (w : World) : Grp L w (w.alloc (.map #[] 0)) w.heap.size (.slice none 0 0) [] 0 (fun _ => none) := by
  refine ⟨⟨(Below.refl _ _).alloc (Nat.le_refl _) _, World.ownsRow_nil _ _ _ _⟩, MapAt.made _ _ _, Nat.le_refl _, fun c hc => ?_, fun c g _ h => (by cases h), fun c c' g _ _ _ h => (by cases h)⟩
  rw [grpL_zero]
  show World.ownsRow _ _ _ _ (.slice none 0 0) 0 []
  exact World.ownsRow_nil _ _ _ _
end Go.Proofs.Ytlgkkjhkanpmhaa
