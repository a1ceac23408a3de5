import Derived.Test.YtlgkkjhkanpmhaaB5
import Derived.Test.YtlgkkjhkanpmhaaShelf
namespace Go.Proofs.Ytlgkkjhkanpmhaa
open Go.RowKit Go.Maps Go.WideShapes Go.Shelf Go.Sort

theorem sorts_any (m : Nat) : AnyZI.SortsIn Try.prog Try.sortedA_ren Fence.wide m :=
  ⟨fun blk off cap ss W hH hblk hsz => callsIn_wide.2 (AnyM.slices_Sort_int Try.sortA blk off cap ss W hH hblk hsz),
   fun p cap W => callsIn_wide.2 (AnyM.slices_Sort_int_none Try.sortA p cap W)⟩

theorem Keys_any (mb : Option Nat) (W : World) : Calls Try.prog 23 #[.map mb] W fun e w' => e = .returned (.func (.func 30) #[] #[.pointer (some ⟨W.heap.size, 0, none⟩)]) ∧ w' = W.alloc (.cells #[.map mb] 55) :=
  (callsIn_wide (n := 5)).1 (AnyZI.keys_in Try.keysA Fence.wide 5 trivial rfl mb W)

theorem Sorted_any (b nn : Nat) (D0 : DataW Value) (w : World) (hown : w.ownsMap Try.prog 3 rawElem b nn D0) (hmax : Maps.size D0 ≤ 1000000) :
    Calls Try.prog 22 #[.func (.func 30) #[] #[.pointer (some ⟨w.heap.size, 0, none⟩)]] (w.alloc (.cells #[.map (some b)] 55)) fun e w' => ∃ (v : Value) (ss : List Int), e = .returned v ∧ ss.Perm (intKeys D0) ∧
      w'.ownsRow (w.alloc (.cells #[.map (some b)] 55)).heap.size 3 1 v ss.length ((ss.mergeSort (fun x y => decide (x ≤ y))).map encZ) ∧ Below (w.alloc (.cells #[.map (some b)] 55)).heap.size (w.alloc (.cells #[.map (some b)] 55)) w' := by
  have hbl := hown.lt
  have hseq : SeqGives Fence.wide 2 Try.prog 30 #[.pointer (some ⟨w.heap.size, 0, none⟩)] encZ (fun ss => ss.Perm (intKeys D0)) (Maps.size D0) (w.alloc (.cells #[.map (some b)] 55)) :=
    AnyZI.keys_gives (ρ := Try.keysA_ren) { Try.keysA with } Fence.wide _ trivial rfl (by omega) w.heap.size b nn D0 _ (by simp) (by simp) (by
      obtain ⟨es, clock, hb, Ft, hs, hD⟩ := hown
      exact ⟨es, clock, (Below.heap_alloc _ _ b hbl).trans hb, Ft, hs, hD⟩)
  have cS := AnyZI.sorted_in Try.sortedA Fence.wide 5 trivial trivial trivial trivial rfl (by omega) (sorts_any _) (enters_of Try.func29 (by kernel_rfl) rfl) 30 #[.pointer (some ⟨w.heap.size, 0, none⟩)] trivial (enters_of Try.func30 (by kernel_rfl) rfl) _ _ (by unfold maxLen; omega) (by omega) _ hseq
  change CallsIn _ _ Try.prog 22 _ _ _ at cS
  refine ((callsIn_wide (n := 5)).1 cS).mono ?_
  rintro e w' ⟨v, ss, he, hS, hrow, _, hb⟩
  exact ⟨v, ss, he, hS, hrow, hb⟩

/-! ### How many are bare -/
theorem entries_int {w : World} {b n : Nat} {D : DataW Value} (hown : w.ownsMap Try.prog 3 rawElem b n D) : ∃ es, D = .map es ∧ es.Pairwise (fun p q => p.1 ≠ q.1) ∧ ∀ p ∈ es, ∃ c : Int, p.1 = .int .i64 c ∧ (Lit.int .i64 c).wf = true := by
  obtain ⟨es, clock, _, F, _, rfl⟩ := hown
  refine ⟨_, rfl, ((sorted_perm _).pairwise_iff (fun {_ _} hne => Ne.symm hne)).2 (Maps.fit_apart law3 F), fun p hp => ?_⟩
  obtain ⟨x, hx, rfl⟩ := List.mem_map.1 (mem_sorted.1 hp)
  obtain ⟨y, hy⟩ := F.reads x hx
  rw [WideElems.rg_of hy]
  obtain ⟨c, _, h1, h2⟩ := Maps.keyOf_int_inv Try.underlying3 (WideElems.rd_key hy)
  exact ⟨c, h1, h2⟩
theorem two_data (d : DataW Value) : ∃ z : DataW Value, z ≠ d := by
  by_cases e : d = .nil
  · exact ⟨.map [], by rw [e]; intro h; cases h⟩
  · exact ⟨.nil, fun h => e h.symm⟩
theorem keys_bare {L : List Acc} {n b : Nat} {f : Lit → Option Value} {w : World} {D : DataW Value} (hown : w.ownsMap Try.prog 3 rawElem b n D) (hD : Fnc D f) (hf : CellFn L L.length f) :
    ∃ es : List (Lit × DataW Value), Lib.deleteFuncD pdB D = .map es ∧ es.Pairwise (fun p q => p.1 ≠ q.1) ∧
      (∀ p ∈ es, ∃ c : Int, p.1 = .int .i64 c ∧ (Lit.int .i64 c).wf = true ∧ hasTo L c L.length ∧ (staTo L c L.length).kd = 4) ∧
      ∀ c : Int, (Lit.int .i64 c).wf = true → (staTo L c L.length).kd = 4 → ∃ p ∈ es, p.1 = .int .i64 c := by
  obtain ⟨es0, rfl, hap, hk⟩ := entries_int hown
  have key : ∀ p ∈ es0, ∃ c : Int, p.1 = .int .i64 c ∧ (Lit.int .i64 c).wf = true ∧ hasTo L c L.length ∧ p.2 = .held (staV (staTo L c L.length)) := by
    intro p hp
    obtain ⟨c, h1, h2⟩ := hk p hp
    have hkl : WideAt.IsKeyLit p.1 := by rw [h1]; trivial
    have hat := fun z => WideAt.atKey_mem z hkl hap (d := p.2) (k := p.1) hp
    have h3 := hD.2 p.1 hkl
    obtain ⟨z, hz⟩ := two_data p.2
    have h4 := h3 z
    rw [hat z, h1, hf c h2] at h4
    by_cases hh : hasTo L c L.length
    · rw [if_pos hh] at h4; exact ⟨c, h1, h2, hh, h4⟩
    · rw [if_neg hh] at h4; exact absurd h4.symm hz
  refine ⟨es0.filter fun p => !pdB p.1 p.2, rfl, hap.filter _, fun p hp => ?_, fun c hc hb => ?_⟩
  · obtain ⟨hp0, hpd⟩ := List.mem_filter.1 hp
    obtain ⟨c, h1, h2, h3, h4⟩ := key p hp0
    refine ⟨c, h1, h2, h3, ?_⟩
    by_cases e : (staTo L c L.length).kd = 4
    · exact e
    · rw [h4, pdB_true _ e] at hpd; exact absurd hpd (by simp)
  · have hh : hasTo L c L.length := by
      by_cases hh : hasTo L c L.length
      · exact hh
      · rw [staTo_none L c _ hh] at hb; exact absurd hb (by decide)
    have h3 := hD.2 (.int .i64 c) trivial .nil
    rw [hf c hc, if_pos hh] at h3
    unfold DataW.atKey at h3
    simp only at h3
    split at h3
    · rename_i p hp
      have h5 := List.find?_some hp
      have h6 := List.mem_of_find?_eq_some hp
      have h7 : p.1 = .int .i64 c := WideAt.sameKey_eq h5
      refine ⟨p, List.mem_filter.2 ⟨h6, ?_⟩, h7⟩
      rw [h3, pdB_false _ hb]; rfl
    · cases h3

/-- How long what 'Bares' hands back is. -/
structure BareLen (L : List Acc) (m : Nat) : Prop where
  none : (∀ c : Int, (Lit.int .i64 c).wf = true → (staTo L c L.length).kd ≠ 4) → m = 0
  one : ∀ c0 : Int, (Lit.int .i64 c0).wf = true → (∀ c : Int, (Lit.int .i64 c).wf = true → ((staTo L c L.length).kd = 4 ↔ c = c0)) → m = 1

theorem bare_len {L : List Acc} {n b : Nat} {f : Lit → Option Value} {w : World} {D : DataW Value} (hown : w.ownsMap Try.prog 3 rawElem b n D) (hD : Fnc D f) (hf : CellFn L L.length f) : BareLen L (intKeys (Lib.deleteFuncD pdB D)).length := by
  obtain ⟨es, h1, h2, h3, h4⟩ := keys_bare hown hD hf
  rw [h1]
  have hl : (intKeys (.map es : DataW Value)).length = es.length := by simp [intKeys]
  rw [hl]
  constructor
  · intro h
    cases es with
    | nil => rfl
    | cons p es =>
      obtain ⟨c, _, hc, _, hk⟩ := h3 p (by simp)
      exact absurd hk (h c hc)
  · intro c0 hc0 h
    cases es with
    | nil =>
      obtain ⟨p, hp, _⟩ := h4 c0 hc0 ((h c0 hc0).2 rfl)
      simp at hp
    | cons p es =>
      cases es with
      | nil => rfl
      | cons q es =>
        obtain ⟨c, e1, hc, _, hk⟩ := h3 p (by simp)
        obtain ⟨c', e1', hc', _, hk'⟩ := h3 q (by simp)
        have hpq := List.rel_of_pairwise_cons h2 (by simp : q ∈ q :: es)
        rw [e1, e1', (h c hc).1 hk, (h c' hc').1 hk'] at hpq
        exact absurd rfl hpq

set_option maxHeartbeats 1000000 in
theorem Bares_any (L : List Acc) (base : Option Addr) (cap : Nat) (w : World) (hL : AccAt w base L) (hW : WfL L) (hn : L.length ≤ 1000000) :
    Calls Try.prog 15 #[.slice base L.length cap] w fun e w' => ∃ vb m vc, e = .returned (.slice vb m vc) ∧ BareLen L m ∧ m ≤ 1000000 ∧ Below w.heap.size w w' := by
  have hall := cells_any L base cap w hL hW hn
  clear hL hW
  generalize hl : L.length = n at *
  have Hl := Lib.hid hl; clear hl
  go_enter Try.func15, Try.ntmps15
  go_wp2_with fail
  refine hall.mono ?_
  rintro e w1 ⟨mb, f, rfl, ⟨D, hown, hfn⟩, hf, hlo, hb1⟩
  rw [← Hl.out] at hf
  have hst : ∀ kl v, WideAt.IsKeyLit kl → (∀ z, D.atKey kl z = .held v) → ∃ s, v = staV s := by
    intro kl v hkl hat
    obtain ⟨es, rfl, hap, hk⟩ := entries_int hown
    obtain ⟨p, hp, hpk, _⟩ : ∃ p ∈ es, p.1.sameKey kl = true ∧ p.2 = .held v := by
      have h := hat .nil
      unfold DataW.atKey at h
      simp only at h
      split at h
      · rename_i p hp
        have h5 := List.find?_some hp
        exact ⟨p, List.mem_of_find?_eq_some hp, h5, h⟩
      · cases h
    obtain ⟨c, h1, h2⟩ := hk p hp
    have h3 : kl = .int .i64 c := by rw [← WideAt.sameKey_eq hpk, h1]
    subst h3
    have h4 := hfn.2 _ hkl .nil
    rw [hat, hf c h2] at h4
    by_cases hh : hasTo L c L.length
    · rw [if_pos hh] at h4; injection h4 with h4; exact ⟨_, h4⟩
    · rw [if_neg hh] at h4; cases h4
  have hbl := bare_len hown hfn hf
  have hsz : Maps.size (Lib.deleteFuncD pdB D) ≤ 1000000 → True := fun _ => trivial
  clear hsz
  have Hbl := Lib.hid hbl; clear hbl
  have Hf := Lib.hid hf; clear hf
  have hbs := hb1.size
  have hdel := DeleteFunc_any mb n D w1 hown hst
  generalize hE : Lib.deleteFuncD pdB D = E at *
  clear hE hst hown hfn
  go_wp2_with fail
  refine hdel.mono ?_
  rintro e w2 ⟨rfl, hown2, hg2⟩
  have hb2 : Below w.heap.size w w2 := hb1.grown hg2 hb1.size (fun g hg => by injection hg with e; rw [← e]; exact hlo)
  have hsz : Maps.size E ≤ 1000000 := Nat.le_trans hown2.size_le hn
  clear hdel hg2
  go_wp2_with fail
  refine (Keys_any (some mb) _).mono ?_
  rintro e w3 ⟨rfl, rfl⟩
  go_wp2_with fail
  refine (Sorted_any mb n E w2 hown2 hsz).mono ?_
  rintro e w4 ⟨v, ss, rfl, hperm, hrow, hb4⟩
  obtain ⟨vb, vc, rfl⟩ := owns_slice hrow
  have hlen : ss.length = (intKeys E).length := hperm.length_eq
  have hal : Below w2.heap.size w2 (w2.alloc (.cells #[.map (some mb)] 55)) := (Below.refl _ _).alloc (Nat.le_refl _) _
  have Hlen := Lib.hid hlen; clear hlen
  go_wp2
  go_ret
  refine ⟨vb, ss.length, vc, rfl, by rw [Hlen.out]; exact Hbl.out, ?_, hb2.trans ((hal.trans (hb4.mono hal.size)).mono hb2.size)⟩
  have : (intKeys E).length = Maps.size E := by
    cases E <;> simp [intKeys, Maps.size]
  rw [Hlen.out, this]; exact hsz
end Go.Proofs.Ytlgkkjhkanpmhaa
