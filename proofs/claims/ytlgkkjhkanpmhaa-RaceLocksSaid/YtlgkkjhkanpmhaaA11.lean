import Derived.Test.YtlgkkjhkanpmhaaA10
namespace Go.Proofs.Ytlgkkjhkanpmhaa
open Go.RowKit

theorem G_trans {a b c : World} {row : Option Nat} (h : a.grownBy b row) (k : b.grownBy c row) : a.grownBy c row :=
  ⟨k.os.trans h.os, k.tape.trans h.tape, k.output.trans h.output, Nat.le_trans h.size k.size, fun i hi hne => (k.block i (Nat.lt_of_lt_of_le hi h.size) hne).trans (h.block i hi hne)⟩
theorem store_r {ops : Array Oper} {rest : List Oper} {o : Oper} {a : Act} {Q : Exit → Act → World → Prop} {w : World} (hgd : o.guard = none) (S : TypeId) (x y : Operand) (ho : o.op = .store S x y) (b : Nat) (cs : Array Value) (hx : a.eval x = .pointer (some ⟨b, 0, none⟩)) (hy : a.eval y = .agg cs)
    {T : TypeId} {cs0 : Array Value} (hg : w.heap[b]? = some (.cells cs0 T (0, 0))) (hi : (Try.prog.info? S).map (·.size) = some cs.size) (hl : cs.size = cs0.size) (h1 : cs.all (·.oneCell') = true)
    (h : wpList Try.prog ops Q rest (a.put o.dst undef) (w.setRow b cs)) : wpList Try.prog ops Q (o :: rest) a w :=
  wpList_store_row hgd S x y ho b _ hx hy T _ hg hi hl.symm h1 h

theorem setRow_alloc (w : World) (cs cs' : Array Value) (T : TypeId) (g : Nat) (hg : g = w.heap.size) : (w.alloc (.cells cs T)).setRow g cs' = w.alloc (.cells cs' T) := by
  subst hg
  simp only [World.setRow, World.alloc]
  congr 1
  apply Array.ext
  · simp
  · intro i h1 h2
    simp only [Array.getElem_modify, Array.getElem_push]
    split
    · rename_i e; subst e; simp
    · rename_i e; simp at h2; rw [dif_pos (by omega), dif_pos (by omega)]

section
variable {ops : Array Oper} {rest : List Oper} {o : Oper} {a : Act} {Q : Exit → Act → World → Prop} {w : World}
theorem build_op (hgd : o.guard = none) (x0 x1 x2 x3 x4 : Operand) (ho : o.op = .build 41 #[(0, x0), (1, x1), (2, x2), (3, x3), (4, x4)]) (c : Acc) (hc : c.clk.length = 8)
    (h0 : a.eval x0 = .int .i64 c.th) (h1 : a.eval x1 = .int .i64 c.ce) (h2 : a.eval x2 = .bool c.wr) (h3 : a.eval x3 = .agg (ccells c.clk).toArray) (h4 : a.eval x4 = .int .u64 (c.lk : Int))
    (h : wpList Try.prog ops Q rest (a.put o.dst (accV c)) w) : wpList Try.prog ops Q (o :: rest) a w :=
  wpList_plain hgd fun _ hK => by
    have hb := build_acc c hc w
    unfold Oper.wp execOp
    simp only [ho, Sem.run_bind, List.map_toArray, List.map_cons, List.map_nil, h0, h1, h2, h3, h4, hb, Result.andThen_ok]
    exact hK _ _ h
theorem bs_op (hgd : o.guard = none) (x0 : Operand) (ho : o.op = .buildSlice 27 1 #[(0, x0)]) (c : Acc) (h0 : a.eval x0 = accV c)
    (h : wpList Try.prog ops Q rest (a.put o.dst (.slice (some ⟨w.heap.size, 0, none⟩) 1 1)) (w.alloc (.cells (accCells c).toArray 41))) : wpList Try.prog ops Q (o :: rest) a w :=
  wpList_plain hgd fun _ hK => by
    have hb := bs_acc c w
    unfold Oper.wp execOp
    simp only [ho, Sem.run_bind, List.map_toArray, List.map_cons, List.map_nil, h0, hb, Result.andThen_ok]
    exact hK _ _ h
end

/-- The world inside 'theirs'. -/
structure ThIn (w wr : World) (v : Value) (L : List Acc) : Prop where
  below : Below w.heap.size w wr
  own : wr.ownsRow w.heap.size 41 12 v L.length (acells L)
theorem ThIn.start (w : World) : ThIn w w (.slice none 0 0) [] := ⟨Below.refl _ _, World.ownsRow_nil _ _ _ _⟩
theorem owns_keep {w w1 : World} {B : Nat} {T : TypeId} {s : Nat} {v : Value} {n : Nat} {xs : List Value} (h : w.ownsRow B T s v n xs) (hb : Below w.heap.size w w1) : w1.ownsRow B T s v n xs := by
  refine ⟨h.1, ?_⟩
  rcases h.2 with h2 | ⟨g, cap, cur, hv, hg, hgg, r⟩
  · exact .inl h2
  · exact .inr ⟨g, cap, cur, hv, hg, keeps hb hgg, r⟩
theorem ThIn.more {w wr w1 : World} {v : Value} {L : List Acc} (h : ThIn w wr v L) (hb : Below wr.heap.size wr w1) : ThIn w w1 v L :=
  ⟨h.below.trans (hb.mono h.below.size), owns_keep h.own hb⟩
theorem ThIn.grown {w wr w1 w2 : World} {v v' : Value} {L L' : List Acc} (h : ThIn w wr v L) (hb : Below wr.heap.size wr w1) (hg : w1.grownBy w2 v.ownBlock) (hown : w2.ownsRow w.heap.size 41 12 v' L'.length (acells L')) : ThIn w w2 v' L' := by
  refine ⟨?_, hown⟩
  have h1 := h.more hb
  exact h1.below.grown hg h1.below.size (fun k hk => (h1.own.lt k hk).1)

set_option maxHeartbeats 1000000 in
theorem theirs_any (L : List Acc) (base : Option Addr) (cap : Nat) (w : World) (hL : AccAt w base L) (hW : WfL L) (hn : L.length ≤ 1099511627775) :
    Calls Try.prog 9 #[.slice base L.length cap] w fun e w' => ∃ v, e = .returned v ∧ w'.ownsRow w.heap.size 41 12 v L.length (acells L) ∧ Below w.heap.size w w' := by
  have H0 := Lib.hid (ThIn.start w)
  go_enter Try.func9, Try.ntmps9
  go_wp2
  go_loopw [3, 5, 8] (fun s _ i wr => ∃ (k : Nat) (v : Value), k ≤ L.length ∧ i = .int .i64 k ∧ s = v ∧ ThIn w wr v (L.take k)) (fun _ _ i _ => L.length - (intOf i).toNat)
  case atStart => exact ⟨0, _, by omega, rfl, rfl, H0.out⟩
  case round =>
    obtain ⟨k, v, hk, rfl, rfl, hI⟩ := hrel
    by_cases hlt : k < L.length
    · obtain ⟨b, off, hbase, hr⟩ := (hL.more hI.below) k hlt
      subst hbase
      have hwf := hW k hlt
      have hsn := Lib.hid (take_snoc_a L k hlt)
      have htl : (L.take k).length = k := by rw [List.length_take]; omega
      generalize aAt L k = c at *
      generalize L.take k = M at *
      have hMl : M.length + 1 ≤ 1099511627776 := by omega
      have Htl := Lib.hid htl; clear htl
      have hclk := hwf.clk.len
      have hsz50 : (Try.prog.info? 50).map (·.size) = some (ccells c.clk).length := by rw [Try.size50]; simp [hclk]
      have hbox : BoxA (wr.alloc (.cells (accCells c).toArray 52)) wr.heap.size 52 c := BoxA.new wr 52 c
      have h1 := hbox.th; have h2 := hbox.ce; have h3 := hbox.wr; have h4 := hbox.lk; have h5 := hbox.clk hclk
      have hbb : Below wr.heap.size wr (wr.alloc (.cells (accCells c).toArray 52)) := (Below.refl _ _).alloc (Nat.le_refl _) _
      have Hclk := Lib.hid hclk; clear hclk
      have hI1 := hI.more hbb
      have Hrow := Lib.hid hbox.row
      go_wp2_with (first | (refine load_r rfl 52 _ rfl b (off + k * 12) rfl _ hr Try.under52 Try.size52 ?_) | (refine row_alloc rfl 52 rfl _ (Try.zero52 _) ?_) | (refine store_r rfl 52 _ _ rfl wr.heap.size (accCells c).toArray rfl rfl (heap_alloc_new _ _) Try.size52 rfl (accCells_one c) ?_; rw [setRow_alloc _ _ _ _ _ rfl]) | (refine load_r rfl 50 _ rfl wr.heap.size 3 rfl _ h5 Try.under50 hsz50 ?_) | (refine build_op rfl _ _ _ _ _ rfl c Hclk.out rfl rfl rfl rfl rfl ?_) | (refine bs_op rfl _ rfl c rfl ?_) | (refine app_acc rfl _ _ rfl hI1.own c rfl rfl hMl hI1.below.size ?_; intro v' w3 hown3 hg3))
      go_roundw
      case rel => exact ⟨k + 1, v', by omega, by go_num, rfl, by rw [hsn.out]; exact hI1.grown ((Below.refl _ _).alloc (Nat.le_refl _) _) hg3 hown3⟩
      case measure => simp [intOf]; omega
    · have hke := Lib.hid (show L.take k = L by rw [show k = L.length by omega, List.take_length])
      go_wp2
      go_ret
      exact ⟨_, rfl, by have := hI.own; rw [hke.out] at this; exact this, hI.below⟩
end Go.Proofs.Ytlgkkjhkanpmhaa
