import Derived.Test.YtiililidehddmaaDoorA1
namespace Go.Proofs.YtiililidehddmaaDoor
open Go.RowKit

theorem Tryd.info3 : (Tryd.prog.info? 3).map (fun i => (i.zero, i.size, i.bytes)) = some (some (.int .i64 0), 1, 8) := by kernel_rfl

abbrev ints (l : List Nat) : List Value := l.map fun (i : Nat) => Value.int .i64 (i : Int)

theorem ints_snoc (l : List Nat) (x : Nat) : ints (l ++ [x]) = ints l ++ [.int .i64 x] := by simp [ints]

/-- 'append(l, x)' of one int, l the call's own: x lies in a block just made. -/
theorem app_int {ops : Array Oper} {rest : List Oper} {o : Oper} {a : Act} {Q : Exit → Act → World → Prop} {w : World} (hgd : o.guard = none) (s x : Operand)
    (ho : o.op = .call { callee := .builtin .append, args := #[s, x], argTypes := #[35, 35] }) {B n : Nat} {v : Value} {xs : List Value}
    (hown : w.ownsRow B 3 1 v n xs) (k : Int) (hs : a.eval s = v) (hx : a.eval x = .slice (some ⟨w.heap.size, 0, none⟩) 1 1)
    (hn : n + 1 ≤ 1099511627776) (hB : B ≤ w.heap.size)
    (h : ∀ v' w', w'.ownsRow B 3 1 v' (n + 1) (xs ++ [.int .i64 k]) → (w.alloc (.cells #[.int .i64 k] 3)).grownBy w' v.ownBlock → wpList Tryd.prog ops Q rest (a.put o.dst v') w') :
    wpList Tryd.prog ops Q (o :: rest) a (w.alloc (.cells #[.int .i64 k] 3)) := by
  obtain ⟨i0, hi, hz0, hz1, hz2⟩ := info_parts Tryd.info3
  refine wpList_append_own _ hgd s x 35 ho B 3 i0 (.int .i64 0) 1 8 Tryd.underlying35 hi hz0 hz1 hz2 rfl (by decide) v n xs hs (hown.alloc _) ⟨w.heap.size, 0, none⟩ 1 1 [.int .i64 k] hx rfl
    (cell_one_new _ _ _) (by simp [Value.oneCell']) (by unfold maxLen; omega) (by omega) (by simp; omega) ?_
  intro v' w' h1 h2 _
  exact h v' w' h1 h2

theorem below_app {B : Nat} {w wr w' : World} {v : Value} {o : Obj} {e : TypeId} {n : Nat} {xs : List Value} (hb : Below B w wr) (hB : B ≤ wr.heap.size) (hown : wr.ownsRow B e 1 v n xs)
    (hg : (wr.alloc o).grownBy w' v.ownBlock) : Below B w w' :=
  (hb.alloc hB o).grown hg (by simp; omega) (fun k hk => (hown.lt k hk).1)

theorem bits_and_pred (t : Nat) (ht : t < 2 ^ 64) (h0 : t ≠ 0) : bits .and .u64 (t : Int) ((t : Int) - 1) = ((t &&& (t - 1) : Nat) : Int) := by
  rw [show (t : Int) - 1 = ((t - 1 : Nat) : Int) from by omega]
  exact u64_and_nat t (t - 1) ht (by omega)

set_option maxHeartbeats 1000000 in
theorem list_any (s : Nat) (hs : s < 2 ^ 64) (w : World) (hT : Tab w) :
    Calls Tryd.prog 23 #[.int .u64 s] w fun e w' => ∃ v, e = .returned v ∧ w'.ownsRow w.heap.size 3 1 v (bitsOf s).length (ints (bitsOf s)) ∧ Below w.heap.size w w' := by
  obtain ⟨i0, hi, hz0, hz1, hz2⟩ := info_parts Tryd.info3
  go_enter Tryd.func23, Tryd.ntmps23
  go_wp2
  go_loopw [0, 3] (fun x v wr => ∃ (t : Nat) (l : List Nat), t < 2 ^ 64 ∧ x = .int .u64 t ∧ Hid (l ++ bitsOf t = bitsOf s) ∧ wr.ownsRow w.heap.size 3 1 v l.length (ints l) ∧ Below w.heap.size w wr) (fun x _ _ => (intOf x).toNat)
  case atStart => exact ⟨s, [], hs, rfl, rfl, World.ownsRow_nil _ _ _ _, Below.refl _ _⟩
  case round =>
    obtain ⟨t, l, ht, rfl, hl, hown, hb⟩ := hrel
    by_cases h0 : t = 0
    · subst h0
      go_wp2
      go_ret
      have e : l = bitsOf s := by have := hl.out; rw [bitsOf_zero, List.append_nil] at this; exact this
      exact ⟨_, rfl, by rw [← e]; exact hown, hb⟩
    · have hT' : Tab wr := hT.below hb hT.size
      obtain ⟨hst, hlt⟩ := bitsOf_step t h0 ht
      have Hst := Lib.hid hst; clear hst
      have hz : wr.heap.size ≥ w.heap.size := hb.size
      have hne : ((t : Int) != 0) = true := by rw [bne_iff_ne]; omega
      have hlen : l.length + 1 ≤ 1099511627776 := by
        have e := congrArg List.length hl.out
        have := bitsOf_len s
        simp at e; omega
      go_wp2_with (first | (go_at_call 35; refine (tz64 _ ht h0 _ hT').mono ?_; rintro e w' ⟨rfl, rfl⟩) | (at_builtin; refine app_int rfl _ _ rfl hown _ rfl rfl hlen hz ?_; intro v' w1 hown1 hg1))
      go_roundw
      case rel =>
        refine ⟨t &&& (t - 1), l ++ [Lib.ctz 64 t], by omega, ?_, ?_, by rw [ints_snoc, List.length_append]; exact hown1, below_app hb hz hown hg1⟩
        · exact congrArg _ (bits_and_pred t ht h0)
        · show _ = _
          rw [List.append_assoc, List.singleton_append, ← Hst.out]; exact hl.out
      case measure => rw [bits_and_pred t ht h0]; simp [intOf]; omega
end Go.Proofs.YtiililidehddmaaDoor
