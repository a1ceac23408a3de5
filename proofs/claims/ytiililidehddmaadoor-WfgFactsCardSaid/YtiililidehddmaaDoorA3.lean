import Derived.Test.YtiililidehddmaaDoorA2
import Derived.Test.YtiililidehddmaaDoorA0b
namespace Go.Proofs.YtiililidehddmaaDoor
open Go.RowKit

def gcells (g : List Nat) : List Value := g.map fun (n : Nat) => Value.int .u64 (n : Int)
@[simp] theorem gcells_length (g : List Nat) : (gcells g).length = g.length := by simp [gcells]
@[simp] theorem gcells_get (g : List Nat) (k : Nat) (h : k < (gcells g).length) : (gcells g)[k] = .int .u64 ((gAt g k : Nat) : Int) := by
  have h' : k < g.length := by simpa using h
  simp [gcells, gAt, h']
def gval (g : List Nat) : Value := .agg (gcells g).toArray

theorem gcell (g : List Nat) (k : Nat) (h : k < g.length) : (gcells g).toArray[k]? = some (.int .u64 ((gAt g k : Nat) : Int)) := by
  simp [gcells, List.getElem?_map, List.getElem?_eq_getElem h, gAt, List.getD]

theorem gcell_alloc (w : World) (g : List Nat) (T : TypeId) (k : Nat) (h : k < g.length) :
    (w.alloc (.cells (gcells g).toArray T)).cell? ⟨w.heap.size, k, none⟩ = some (.int .u64 ((gAt g k : Nat) : Int)) := by
  rw [World.cell?_alloc_at _ _ _ _ rfl]
  exact gcell g k h

theorem owns_base {w : World} {B B' : Nat} {e : TypeId} {s : Nat} {v : Value} {n : Nat} {xs : List Value} (h : w.ownsRow B e s v n xs) (hB : B' ≤ B) : w.ownsRow B' e s v n xs := by
  refine ⟨h.1, ?_⟩
  rcases h.2 with h2 | ⟨g, cap, cur, hv, hg, r⟩
  · exact .inl h2
  · exact .inr ⟨g, cap, cur, hv, Nat.le_trans hB hg, r⟩

theorem Tab.alloc {w : World} (h : Tab w) (o : Obj) : Tab (w.alloc o) :=
  h.below ((Below.refl w.heap.size w).alloc (Nat.le_refl _) o) h.size

theorem below_alloc {w w1 : World} {o : Obj} (h : Below (w.alloc o).heap.size (w.alloc o) w1) : Below w.heap.size w w1 :=
  ((Below.refl _ _).alloc (Nat.le_refl _) o).trans (h.mono (by simp))

def nextF (g : List Nat) (n : Int) : List Nat := if nodeB n then bitsOf (gAt g n.toNat) else []

set_option maxHeartbeats 1000000 in
theorem next_any (g : List Nat) (hg : WfG g) (n : Int) (w : World) (hT : Tab w) :
    Calls Tryd.prog 18 #[gval g, .int .i64 n] w fun e w' => ∃ v, e = .returned v ∧ w'.ownsRow w.heap.size 3 1 v (nextF g n).length (ints (nextF g n)) ∧ Below w.heap.size w w' := by
  by_cases hn : nodeB n = true
  · obtain ⟨h0, h1⟩ : 0 ≤ n ∧ n < 64 := by simpa [nodeB] using hn
    obtain ⟨k, rfl⟩ : ∃ k : Nat, n = k := ⟨n.toNat, by omega⟩
    have hk : k < g.length := by rw [hg.len]; omega
    have hc := gcell_alloc w g 33 k hk
    have hf : nextF g (k : Int) = bitsOf (gAt g k) := by simp [nextF, hn]
    have Hf := Lib.hid hf; clear hf
    unfold gval
    go_enter Tryd.func18, Tryd.ntmps18
    have hTa : Tab (w.alloc (.cells (gcells g).toArray 33)) := hT.alloc _
    go_wp2_with (first | (go_at_call 32; refine (isNode_any _ _).mono ?_; rintro e w' ⟨rfl, rfl⟩; simp only [hn]) | (go_at_call 23; refine (list_any _ (hg.lt k) _ hTa).mono ?_; rintro e w1 ⟨v, rfl, hown, hb⟩))
    go_ret
    exact ⟨v, rfl, by rw [Hf.out]; exact owns_base hown (by simp), below_alloc hb⟩
  · have hn' : nodeB n = false := by simpa using hn
    have hf : nextF g n = [] := by simp [nextF, hn']
    have Hf := Lib.hid hf; clear hf hn
    unfold gval
    go_enter Tryd.func18, Tryd.ntmps18
    go_wp2_with (go_at_call 32; refine (isNode_any _ _).mono ?_; rintro e w' ⟨rfl, rfl⟩; simp only [hn'])
    go_ret
    exact ⟨_, rfl, by rw [Hf.out]; exact World.ownsRow_nil _ _ _ _, (Below.refl _ _).alloc (Nat.le_refl _) _⟩
end Go.Proofs.YtiililidehddmaaDoor
