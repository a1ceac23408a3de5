import Derived.Test.YtiililidehddmaaDoorA3
namespace Go.Proofs.YtiililidehddmaaDoor
open Go.RowKit

def zeroG : List Nat := List.replicate 64 0
theorem zeroG_wf : WfG zeroG := ⟨by simp [zeroG], fun k => by
  unfold gAt zeroG
  rw [List.getD_eq_getElem?_getD, List.getElem?_replicate]
  split <;> decide⟩

def icells (l : List Int) : List Value := l.map fun (n : Int) => Value.int .i64 n
@[simp] theorem icells_length (l : List Int) : (icells l).length = l.length := by simp [icells]
/-- The k-th number. -/
def iAt (l : List Int) (k : Nat) : Int := l.getD k 0
@[simp] theorem icells_get (l : List Int) (k : Nat) (h : k < (icells l).length) : (icells l)[k] = .int .i64 (iAt l k) := by
  have h' : k < l.length := by simpa using h
  simp [icells, iAt, h']
theorem icell (l : List Int) (k : Nat) (h : k < l.length) : (icells l).toArray[k]? = some (.int .i64 (iAt l k)) := by
  simp [icells, List.getElem?_map, List.getElem?_eq_getElem h, iAt, List.getD]
theorem iAt_set (l : List Int) (n k : Nat) (x : Int) (h : n < l.length) : iAt (l.set n x) k = if n = k then x else iAt l k := by
  unfold iAt
  simp only [List.getD_eq_getElem?_getD, List.getElem?_set]
  by_cases e : n = k
  · subst e; simp [h]
  · simp [e]
def zeroI : List Int := List.replicate 64 0

theorem Tryd.size33 : (Tryd.prog.info? 33).map (·.size) = some 64 := by kernel_rfl
theorem Tryd.size55 : (Tryd.prog.info? 55).map (·.size) = some 64 := by kernel_rfl
theorem Tryd.zero33 (w : World) : (zeroValue 33).run Tryd.prog w = .ok (.agg (gcells zeroG).toArray) w := by kernel_rfl
theorem Tryd.zero55 (w : World) : (zeroValue 55).run Tryd.prog w = .ok (.agg (icells zeroI).toArray) w := by kernel_rfl

section
variable {ops : Array Oper} {rest : List Oper} {o : Oper} {a : Act} {Q : Exit → Act → World → Prop} {w : World}

/-- A variable of an array's or a struct's type is made. -/
theorem row_alloc (hgd : o.guard = none) (T : TypeId) (ho : o.op = .alloc T) (cs : Array Value) (hz : (zeroValue T).run Tryd.prog w = .ok (.agg cs) w)
    (h : wpList Tryd.prog ops Q rest (a.put o.dst (.pointer (some ⟨w.heap.size, 0, none⟩))) (w.alloc (.cells cs T))) : wpList Tryd.prog ops Q (o :: rest) a w :=
  wpList_plain hgd fun _ hK => by
    unfold Oper.wp execOp
    simp only [ho, Instr.alloc, Sem.run_bind, hz, Result.andThen_ok]
    exact hK _ _ h

end

theorem g_size (l : List Nat) (h : l.length = 64) : (Tryd.prog.info? 33).map (·.size) = some (gcells l).toArray.size := by rw [Tryd.size33]; simp [h]
theorem i_size (l : List Int) (h : l.length = 64) : (Tryd.prog.info? 55).map (·.size) = some (icells l).toArray.size := by rw [Tryd.size55]; simp [h]
theorem g_one (l : List Nat) : (gcells l).toArray.all (·.oneCell') = true := by simp [gcells, Value.oneCell']
theorem i_one (l : List Int) : (icells l).toArray.all (·.oneCell') = true := by simp [icells, Value.oneCell']

section
variable {ops : Array Oper} {rest : List Oper} {o : Oper} {a : Act} {Q : Exit → Act → World → Prop} {w : World}

theorem load_g (hgd : o.guard = none) (x : Operand) (ho : o.op = .load 33 x) (b : Nat) (hx : a.eval x = .pointer (some ⟨b, 0, none⟩)) (l : List Nat) (hl : l.length = 64) {T : TypeId} {fr : Nat × Nat}
    (hg : w.heap[b]? = some (.cells (gcells l).toArray T fr)) (h : wpList Tryd.prog ops Q rest (a.put o.dst (.agg (gcells l).toArray)) w) : wpList Tryd.prog ops Q (o :: rest) a w :=
  wpList_load_row hgd 33 x ho b hx T _ fr _ hg Tryd.underlying33 rfl (g_size l hl) h
theorem load_i (hgd : o.guard = none) (x : Operand) (ho : o.op = .load 55 x) (b : Nat) (hx : a.eval x = .pointer (some ⟨b, 0, none⟩)) (l : List Int) (hl : l.length = 64) {T : TypeId} {fr : Nat × Nat}
    (hg : w.heap[b]? = some (.cells (icells l).toArray T fr)) (h : wpList Tryd.prog ops Q rest (a.put o.dst (.agg (icells l).toArray)) w) : wpList Tryd.prog ops Q (o :: rest) a w :=
  wpList_load_row hgd 55 x ho b hx T _ fr _ hg Tryd.underlying55 rfl (i_size l hl) h
theorem store_g (hgd : o.guard = none) (x y : Operand) (ho : o.op = .store 33 x y) (b : Nat) (l : List Nat) (hl : l.length = 64) (hx : a.eval x = .pointer (some ⟨b, 0, none⟩)) (hy : a.eval y = .agg (gcells l).toArray)
    {T : TypeId} {l0 : List Nat} (hl0 : l0.length = 64) (hg : w.heap[b]? = some (.cells (gcells l0).toArray T (0, 0)))
    (h : wpList Tryd.prog ops Q rest (a.put o.dst undef) (w.setRow b (gcells l).toArray)) : wpList Tryd.prog ops Q (o :: rest) a w :=
  wpList_store_row hgd 33 x y ho b _ hx hy T _ hg (g_size l hl) (by simp [hl, hl0]) (g_one l) h
theorem store_i (hgd : o.guard = none) (x y : Operand) (ho : o.op = .store 55 x y) (b : Nat) (l : List Int) (hl : l.length = 64) (hx : a.eval x = .pointer (some ⟨b, 0, none⟩)) (hy : a.eval y = .agg (icells l).toArray)
    {T : TypeId} {l0 : List Int} (hl0 : l0.length = 64) (hg : w.heap[b]? = some (.cells (icells l0).toArray T (0, 0)))
    (h : wpList Tryd.prog ops Q rest (a.put o.dst undef) (w.setRow b (icells l).toArray)) : wpList Tryd.prog ops Q (o :: rest) a w :=
  wpList_store_row hgd 55 x y ho b _ hx hy T _ hg (i_size l hl) (by simp [hl, hl0]) (i_one l) h
end

theorem results_g_tmp {fn : Func} {p q : Tmp} (h : fn.results = #[.cell p 33, .tmp q]) (tmps : Array Value) (w : World) (b : Nat) (l : List Nat) (hl : l.length = 64) {T : TypeId} {fr : Nat × Nat}
    (hp : tmps.getD p undef = .pointer (some ⟨b, 0, none⟩)) (hg : w.heap[b]? = some (.cells (gcells l).toArray T fr)) :
    (results fn tmps).run Tryd.prog w = .ok (.tuple #[.agg (gcells l).toArray, tmps.getD q undef]) w := by
  have hp' : tmps[p]?.getD undef = .pointer (some ⟨b, 0, none⟩) := by simpa using hp
  simp [results, h, hp', asAddr, run_loadVar_row w b T 33 _ fr _ hg Tryd.underlying33 rfl (g_size l hl)]

theorem setRow_alloc (w : World) (cs cs' : Array Value) (T : TypeId) (g : Nat) (hg : g = w.heap.size) : (w.alloc (.cells cs T)).setRow g cs' = w.alloc (.cells cs' T) := by
  subst hg
  simp only [World.setRow, World.alloc]
  congr 1
  apply Array.ext
  · simp
  · intro i h1 h2
    simp only [Array.getElem_modify, Array.getElem_push]
    split
    · rename_i e; subst e; simp
    · rename_i e; simp at h2; rw [dif_pos (by omega), dif_pos (by omega)]

theorem gcells_set (l : List Nat) (k x : Nat) : (gcells l).set k (.int .u64 (x : Int)) = gcells (l.set k x) := by
  simp [gcells, List.map_set]
theorem icells_set (l : List Int) (k : Nat) (x : Int) : (icells l).set k (.int .i64 x) = icells (l.set k x) := by
  simp [icells, List.map_set]
theorem setRow_alloc2 (w : World) (o : Obj) (cs cs' : Array Value) (T : TypeId) : ((w.alloc o).alloc (.cells cs T)).setRow (w.heap.size + 1) cs' = (w.alloc o).alloc (.cells cs' T) :=
  setRow_alloc _ _ _ _ _ (by simp)
theorem setRow_drew (w : World) (g : Nat) (cs : Array Value) : w.drew.setRow g cs = (w.setRow g cs).drew := rfl

end Go.Proofs.YtiililidehddmaaDoor
