import Derived.Test.YtlgkkjhkanpmhaaB4
import Derived.Lib.SlMapFilter
import Derived.Maps.Ext
import Derived.Laws.IdiomRangeMap
import Derived.Deep.LoopGhost
import Derived.Shelf.Abstract
namespace Go.Proofs.Ytlgkkjhkanpmhaa
open Go.RowKit Go.Maps Go.WideShapes Go.Shelf

open Classical in
/-- Is a state none that is bare? -/
noncomputable def pdB (_ : Lit) (d : DataW Value) : Bool := decide (∃ s : Sta, d = .held (staV s) ∧ s.kd ≠ 4)
theorem staV_kd {s t : Sta} (h : staV s = staV t) : s.kd = t.kd := by
  unfold staV staCells at h
  simp at h
  exact h.1
theorem pdB_true (l : Lit) {s : Sta} (h : s.kd ≠ 4) : pdB l (.held (staV s)) = true := by
  unfold pdB
  simp only [decide_eq_true_eq]
  exact ⟨s, rfl, h⟩
theorem pdB_false (l : Lit) {s : Sta} (h : s.kd = 4) : pdB l (.held (staV s)) = false := by
  unfold pdB
  simp only [decide_eq_false_iff_not]
  rintro ⟨t, e, ht⟩
  injection e with e
  exact ht (by rw [← staV_kd e]; exact h)

theorem closure_any (k : Value) (s : Sta) (w : World) : Calls Try.prog 21 #[k, staV s] w fun e w' => e = .returned (.bool (s.kd != 4)) ∧ w.grownBy w' none := by
  unfold staV
  have hc : (w.alloc (.cells (staCells s).toArray 45)).cell? ⟨w.heap.size, 0, none⟩ = some (.int .i64 s.kd) := cell_of_row _ _ _ _ _ _ (heap_alloc_new _ _)
  go_enter Try.func21, Try.ntmps21
  go_wp2
  go_ret
  exact ⟨rfl, World.grownBy_alloc _ _ none⟩

theorem Fk_mem {pd : Lit → DataW Value → Bool} {es0 : List (Lit × DataW Value)} {left : Lit → Bool} {kl : Lit} {d : DataW Value} (hat : ∀ zd, (Fk pd es0 left).atKey kl zd = d) : ∃ p ∈ es0, p.1.sameKey kl = true ∧ p.2 = d := by
  have hex : ∃ z : DataW Value, z ≠ d := by
    by_cases e : d = .nil
    · exact ⟨.map [], by rw [e]; intro h; cases h⟩
    · exact ⟨.nil, fun h => e h.symm⟩
  obtain ⟨z, hz⟩ := hex
  have h := hat z
  unfold Fk DataW.atKey at h
  simp only at h
  split at h
  · rename_i p hp
    have h1 := List.find?_some hp
    have h2 := List.mem_of_find?_eq_some hp
    exact ⟨p, (List.mem_filter.1 h2).1, h1, h⟩
  · exact absurd h hz

set_option maxHeartbeats 4000000 in
theorem DeleteFunc_any (b n : Nat) (D : DataW Value) (w : World) (hown : w.ownsMap Try.prog 3 rawElem b n D) (hst : ∀ kl v, WideAt.IsKeyLit kl → (∀ z, D.atKey kl z = .held v) → ∃ s, v = staV s) :
    Calls Try.prog 20 #[.map (some b), .func (.func 21) #[] #[]] w fun e w' => e = .returned (.tuple #[]) ∧ w'.ownsMap Try.prog 3 rawElem b n (Lib.deleteFuncD pdB D) ∧ w.grownBy w' (some b) := by
  obtain ⟨es0, rfl, hap, hkeys⟩ := hown.entries law3
  have HS := Lib.hid hst; clear hst
  have eg : ∀ args w, (callFunc 21 args).run Try.prog w = .ok (.enter 21 args) w := enters_of Try.func21 (by kernel_rfl) rfl
  go_enter Try.func20, Try.ntmps20
  go_wp2_with (first
    | (at_range; refine wpList_range_own _ rfl _ 55 rfl 3 45 law3 under55 rawElem b n _ rfl hown ?_; intro w0 hrg0 hg0 hs0)
    | go_in)
  go_frame
  go_loopw [4, 5, 8] (fun _ _ _ wr => ∃ (left : Lit → Bool) (cnt : Nat), wr.ranges Try.prog 3 rawElem b w.heap.size n (Fk pdB es0 left) left cnt ∧ w.grownBy wr (some b))
    (fun _ _ _ wr => wr.rangeLeft b w.heap.size)
  case atStart => exact ⟨_, _, by rw [Fk_start hkeys]; exact hrg0, hg0.but _⟩
  case round =>
    obtain ⟨left, cnt, hrg, hgw⟩ := hrel
    go_wp2_with (first
      | (at_next; refine wpList_next_ranges _ rfl _ rfl 3 law3 rawElem id id (fun key _ _ => ⟨key, rfl⟩) (fun v _ _ => ⟨v, rfl⟩) b w.heap.size n _ _ _ rfl hrg ?_ ?_)
      | go_in)
    · intro _ hl0
      go_wp2
      go_end0
      exact ⟨rfl, by rw [← Fk_end hl0]; exact hrg.owns, hgw⟩
    · intro x c kl yd yp w1 cnt1 hkey hlx hv hat hrg1 hlt hg1 hs1 hen
      have hgw1 := hgw.andThen hg1 (fun j hj => by cases hj; exact Or.inl (Nat.le_refl _))
      clear hs1
      have hgn : ∀ {w2 : World}, w1.grownBy w2 none → w.grownBy w2 (some b) := fun h => hgw1.andThen h (fun j hj => by cases hj)
      obtain ⟨p, hpm, hpk, hpd⟩ := Fk_mem hat
      have hkl : p.1 = kl := WideAt.sameKey_eq hpk
      have hv2 : yd = .held c := by
        unfold rawElem at hv
        simp only [Option.some.injEq, Prod.mk.injEq] at hv
        exact hv.1.symm
      obtain ⟨s, hs⟩ := HS.out kl c (law3.key hkey) (fun z => by
        have := WideAt.atKey_mem z (law3.key hkey) hap (d := yd) (by rw [← hkl, ← hpd]; exact hpm)
        rw [this, hv2])
      subst hs
      clear hpm hpk hkl hpd p
      have hcl := fun w => closure_any x s w
      have Hcl := Lib.hid hcl; clear hcl
      have hal : Below w1.heap.size w1 (w1.alloc (.cells (staCells s).toArray 45)) := (Below.refl _ _).alloc (Nat.le_refl _) _
      have hga : w1.grownBy (w1.alloc (.cells (staCells s).toArray 45)) none := World.grownBy_alloc _ _ none
      have hr1 : (w1.alloc (.cells (staCells s).toArray 45)).rangeAt w1.heap.size 0 (staCells s) := fun j v hv => by
        rw [cell_of_row _ _ _ _ _ _ (heap_alloc_new _ _)]
        simpa using hv
      have hsz : (Try.prog.info? 45).map (·.size) = some (staCells s).length := Try.size45
      cases hp : s.kd != 4
      · have hpb : pdB kl yd = false := by rw [hv2]; exact pdB_false kl (by simpa using hp)
        go_wp2_with (first
          | (refine row_alloc rfl 45 rfl _ (zero45 _) ?_)
          | (refine store_r rfl 45 _ _ rfl w1.heap.size (staCells s).toArray rfl rfl (heap_alloc_new _ _) Try.size45 rfl (staCells_one _) ?_; rw [setRow_alloc _ _ _ _ _ rfl])
          | (refine load_r rfl 45 _ rfl w1.heap.size 0 rfl _ hr1 Try.under45 hsz ?_)
          | (go_at_fn 21; refine (Hcl.out _).mono ?_; rintro e w2 ⟨rfl, hg2⟩; rw [hp])
          | go_in)
        have hg3 := G_trans hga hg2
        have hrg2 := hrg1.kept hg3 (by simp) (by simp)
        go_roundw
        case rel => exact ⟨_, cnt1, by rw [← Fk_stays hap (law3.key hkey) hlx hpb hat]; exact hrg2, hgn hg3⟩
        case measure => rw [hrg2.left_eq, hrg.left_eq]; exact hlt
      · have hpb : pdB kl yd = true := by rw [hv2]; exact pdB_true kl (by simpa using hp)
        go_wp2_with (first
          | (refine row_alloc rfl 45 rfl _ (zero45 _) ?_)
          | (refine store_r rfl 45 _ _ rfl w1.heap.size (staCells s).toArray rfl rfl (heap_alloc_new _ _) Try.size45 rfl (staCells_one _) ?_; rw [setRow_alloc _ _ _ _ _ rfl])
          | (refine load_r rfl 45 _ rfl w1.heap.size 0 rfl _ hr1 Try.under45 hsz ?_)
          | (go_at_fn 21; refine (Hcl.out _).mono ?_; rintro e w2 ⟨rfl, hg2⟩; rw [hp]; have hg3 := G_trans hga hg2; have hrg2 := hrg1.kept hg3 (by simp) (by simp))
          | (at_delete; refine wpList_delete_ranges _ rfl _ _ 55 3 rfl 45 law3 under55 rawElem b w.heap.size n _ _ _ rfl hrg2 _ _ rfl hkey ?_; intro w3 cnt3 hrg4 hle hturn; go_frame)
          | go_in)
        rw [strike_twice] at hrg4
        go_roundw
        case rel => exact ⟨_, cnt3, by rw [← Fk_struck hap (law3.key hkey) hlx hpb hat]; exact hrg4, (hgn hg3).andThen hturn.grown (fun j hj => by cases hj; exact Or.inr rfl)⟩
        case measure => rw [hrg4.left_eq, hrg.left_eq]; omega
end Go.Proofs.Ytlgkkjhkanpmhaa
