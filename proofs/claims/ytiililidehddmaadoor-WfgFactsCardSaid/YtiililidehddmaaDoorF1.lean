import Derived.Test.YtiililidehddmaaDoorC6
import Derived.Test.YtiililidehddmaaDoorA0i
import Derived.Deep.RegionLaw
namespace Go.Proofs.YtiililidehddmaaDoor
open Go.RowKit

theorem rNext_lt (E : List (Int × Int)) (a : Int) (i : Nat) (hi : i < (rNext E a).length) : gAt (rNext E a) i < 64 := by
  have h := gAt_mem _ i hi
  have e : ∀ x, x ∈ rNext E a → x < 64 := by
    intro x hx
    unfold rNext selTo at hx
    exact List.mem_range.1 (List.mem_filter.1 hx).1
  exact e _ h

theorem has_list' (L : List Nat) (n : Int) (a : Option Addr) (ca M : Nat) (w : World) (hL : Reads w M a L) (hl : L.length ≤ 1099511627776) :
    Calls Tryd.prog 29 #[.slice a L.length ca, .int .i64 n] w fun e w' => e = .returned (.bool (hasN L n)) ∧ w' = w :=
  (has_list L n a ca M w hL hl).mono fun _ _ ⟨h1, h2⟩ => ⟨h1, h2.symm⟩

/-- May the search go on to x, and what does it find there? -/
def tryOn (go : List Nat → Option (List Nat)) (l : List Nat) (x : Nat) : Option (List Nat) := if gAt l 0 < x ∧ hasN l (x : Int) = false then go (l ++ [x]) else none
/-- The reference's search for a ring: f nodes are to come. -/
def rLong (E : List (Int × Int)) : Nat → List Nat → Option (List Nat)
  | 0, l => if rHas E (gAt l (l.length - 1) : Nat) (gAt l 0 : Nat) = true then some l else none
  | f + 1, l => (rNext E (gAt l (l.length - 1) : Nat)).findSome? (tryOn (rLong E f) l)
theorem rLong_zero (E : List (Int × Int)) (l : List Nat) : rLong E 0 l = if rHas E (gAt l (l.length - 1) : Nat) (gAt l 0 : Nat) = true then some l else none := rfl
theorem rLong_succ (E : List (Int × Int)) (f : Nat) (l : List Nat) : rLong E (f + 1) l = (rNext E (gAt l (l.length - 1) : Nat)).findSome? (tryOn (rLong E f) l) := rfl
attribute [irreducible] rLong

theorem step_of_wp {P : Program} {ops : Array Oper} {o : Oper} {a : Act} {w : World} {K : Act → World → Prop} {Q : Exit → Act → World → Prop} {F : Prop} (hgd : o.guard = none) (h : o.wp P a w K Q) :
    if Region.wanted o (yielded ops a.tmps) = true then Oper.wp P o a w K Q else F := by
  rw [if_pos (by simp [Region.wanted, hgd])]; exact h

/-- 'append([]int(nil), l...)': a copy, as a step of a region that draws. -/
theorem step_copy {ops : Array Oper} {o : Oper} {a : Act} {w : World} {K : Act → World → Prop} {Q : Exit → Act → World → Prop} {F : Prop} (hgd : o.guard = none) (s x : Operand)
    (ho : o.op = .call { callee := .builtin .append, args := #[s, x], argTypes := #[35, 35] }) (b c M : Nat) (L : List Nat) (hR : Reads w M (some ⟨b, 0, none⟩) L)
    (hs : a.eval s = .slice none 0 0) (hx : a.eval x = .slice (some ⟨b, 0, none⟩) L.length c) (hn : L.length ≤ 1099511627776)
    (h : ∀ v' w', w'.ownsRow w.heap.size 3 1 v' L.length (ints L) → w.grownBy w' none → K (a.put o.dst v') w') :
    if Region.wanted o (yielded ops a.tmps) = true then Oper.wp Tryd.prog o a w K Q else F := by
  obtain ⟨i0, hi, hz0, hz1, hz2⟩ := info_parts Tryd.info3
  refine step_of_wp hgd (wp_append_own w s x 35 ho w.heap.size 3 i0 (.int .i64 0) 1 8 Tryd.underlying35 hi hz0 hz1 hz2 rfl (by decide) (.slice none 0 0) 0 [] hs (World.ownsRow_nil _ _ _ _) ⟨b, 0, none⟩ L.length c (ints L) hx (by simp) ?_ ?_ (by unfold maxLen; omega) (by omega) (Nat.le_refl _) ?_)
  · intro j u hu
    have hj : j < L.length := by
      have := (List.getElem?_eq_some_iff.1 hu).1
      simpa using this
    obtain ⟨b', e, _, hc⟩ := hR j hj
    injection e with e
    injection e with e
    subst e
    have hadd : (⟨b, 0, none⟩ : Addr).add j = ⟨b, j, none⟩ := by unfold Addr.add; split <;> simp_all
    rw [hadd, hc]
    simp [ints, List.getElem?_map, List.getElem?_eq_getElem hj] at hu
    rw [← hu]; simp [gAt, hj]
  · intro u hu
    simp only [ints, List.mem_map] at hu
    obtain ⟨_, _, rfl⟩ := hu
    rfl
  · intro v' w' h1 h2 _
    rw [Nat.zero_add, List.nil_append] at h1
    exact h v' w' h1 h2

/-- 'append(l, x)' of one int, as a step of a region that draws. -/
theorem step_int {ops : Array Oper} {o : Oper} {a : Act} {w : World} {K : Act → World → Prop} {Q : Exit → Act → World → Prop} {F : Prop} (hgd : o.guard = none) (s x : Operand)
    (ho : o.op = .call { callee := .builtin .append, args := #[s, x], argTypes := #[35, 35] }) {B n : Nat} {v : Value} {xs : List Value} (k : Int)
    (hown : w.ownsRow B 3 1 v n xs) (hs : a.eval s = v) (hx : a.eval x = .slice (some ⟨w.heap.size, 0, none⟩) 1 1)
    (hn : n + 1 ≤ 1099511627776) (hB : B ≤ w.heap.size)
    (h : ∀ v' w', w'.ownsRow B 3 1 v' (n + 1) (xs ++ [.int .i64 k]) → (w.alloc (.cells #[.int .i64 k] 3)).grownBy w' v.ownBlock → K (a.put o.dst v') w') :
    if Region.wanted o (yielded ops a.tmps) = true then Oper.wp Tryd.prog o a (w.alloc (.cells #[.int .i64 k] 3)) K Q else F := by
  obtain ⟨i0, hi, hz0, hz1, hz2⟩ := info_parts Tryd.info3
  refine step_of_wp hgd (wp_append_own _ s x 35 ho B 3 i0 (.int .i64 0) 1 8 Tryd.underlying35 hi hz0 hz1 hz2 rfl (by decide) v n xs hs (hown.alloc _) ⟨w.heap.size, 0, none⟩ 1 1 [.int .i64 k] hx rfl
    (cell_one_new _ _ _) (by simp [Value.oneCell']) (by unfold maxLen; omega) (by omega) (by simp; omega) ?_)
  intro v' w' h1 h2 _
  exact h v' w' h1 h2

/-- The same where x lies in an older block. -/
theorem step_int_at {ops : Array Oper} {o : Oper} {a : Act} {w : World} {K : Act → World → Prop} {Q : Exit → Act → World → Prop} {F : Prop} (hgd : o.guard = none) (s x : Operand)
    (ho : o.op = .call { callee := .builtin .append, args := #[s, x], argTypes := #[35, 35] }) {B n : Nat} {v : Value} {xs : List Value} (k : Int) (g : Nat)
    (hown : w.ownsRow B 3 1 v n xs) (hcell : w.cell? ⟨g, 0, none⟩ = some (.int .i64 k)) (hs : a.eval s = v) (hx : a.eval x = .slice (some ⟨g, 0, none⟩) 1 1)
    (hn : n + 1 ≤ 1099511627776) (hB : B ≤ w.heap.size)
    (h : ∀ v' w', w'.ownsRow B 3 1 v' (n + 1) (xs ++ [.int .i64 k]) → w.grownBy w' v.ownBlock → K (a.put o.dst v') w') :
    if Region.wanted o (yielded ops a.tmps) = true then Oper.wp Tryd.prog o a w K Q else F := by
  obtain ⟨i0, hi, hz0, hz1, hz2⟩ := info_parts Tryd.info3
  refine step_of_wp hgd (wp_append_own _ s x 35 ho B 3 i0 (.int .i64 0) 1 8 Tryd.underlying35 hi hz0 hz1 hz2 rfl (by decide) v n xs hs hown ⟨g, 0, none⟩ 1 1 [.int .i64 k] hx rfl
    (fun j u hu => ?_) (by simp [Value.oneCell']) (by unfold maxLen; omega) (by omega) hB ?_)
  · match j, hu with
    | 0, hu => simp at hu; rw [← hu]; exact hcell
  · intro v' w' h1 h2 _
    exact h v' w' h1 h2

theorem G_none_b {w2 w3 : World} {o : Obj} (hg : (w2.alloc o).drew.grownBy w3 none) : Below w2.heap.size w2 w3 :=
  ((Below.refl _ _).alloc (Nat.le_refl _) o).trans ⟨hg.os, hg.tape, hg.output, hg.size, fun k hk => hg.block k (by show k < (w2.alloc o).heap.size; simp; omega) (by simp)⟩
theorem G_cell_b {w2 w3 : World} {x : Value} {T : TypeId} (hg : (w2.alloc (.cells #[x] T)).drew.grownBy w3 none) : w3.cell? ⟨w2.heap.size, 0, none⟩ = some x :=
  hg.cell (World.cell?_alloc_at _ _ _ _ rfl : (w2.alloc (.cells #[x] T)).cell? ⟨w2.heap.size, 0, none⟩ = some x) (by simp)
theorem below_app_at {B : Nat} {w wr w' : World} {v : Value} {e : TypeId} {n : Nat} {xs : List Value} (hb : Below B w wr) (hB : B ≤ wr.heap.size) (hown : wr.ownsRow B e 1 v n xs)
    (hg : wr.grownBy w' v.ownBlock) : Below B w w' :=
  hb.grown hg hB (fun k hk => (hown.lt k hk).1)

theorem Reads.weak {w : World} {B B' : Nat} {base : Option Addr} {L : List Nat} (h : Reads w B base L) (hB : B' ≤ B) : Reads w B' base L := fun j hj => by
  obtain ⟨b, e, hb, hc⟩ := h j hj
  exact ⟨b, e, Nat.le_trans hB hb, hc⟩
theorem Reads.base {w : World} {B : Nat} {base : Option Addr} {L : List Nat} (h : Reads w B base L) (hp : 0 < L.length) : ∃ b, base = some ⟨b, 0, none⟩ := by
  obtain ⟨b, e, _⟩ := h 0 hp
  exact ⟨b, e⟩
theorem G_none {w2 w3 : World} (hg : w2.drew.grownBy w3 none) : Below w2.heap.size w2 w3 := ⟨hg.os, hg.tape, hg.output, hg.size, fun k hk => hg.block k hk (by simp)⟩

/-- What 'longer' answers. -/
def LongPost (w : World) (M : Nat) (r : Option (List Nat)) (e : Ending) (w' : World) : Prop :=
  ∃ (v : Value), e = .returned (.tuple #[v, .bool r.isSome]) ∧ Below w.heap.size w w' ∧ (∃ base n cap, v = .slice base n cap) ∧ ∀ out, r = some out → ∃ base cap, v = .slice base out.length cap ∧ Reads w' M base out

set_option maxHeartbeats 2000000 in
theorem long_zero (E : List (Int × Int)) (br cap : Nat) (base : Option Addr) (hl : E.length ≤ 1099511627776) (l : List Nat) (hpos : 0 < l.length) (hlen : l.length ≤ 64)
    (b c M : Nat) (w : World) (hR : RD w br base cap E) (hL : Reads w M (some ⟨b, 0, none⟩) l) :
    Calls Tryd.prog 31 #[.pointer (some ⟨br, 0, none⟩), .slice (some ⟨b, 0, none⟩) l.length c, .int .i64 l.length] w (LongPost w M (rLong E 0 l)) := by
  obtain ⟨b0, e0, _, c0⟩ := hL 0 hpos
  obtain ⟨b1, e1, _, c1⟩ := hL (l.length - 1) (by omega)
  injection e0 with e0; injection e0 with e0; subst e0
  injection e1 with e1; injection e1 with e1; subst e1
  have Hz := Lib.hid (rLong_zero E l)
  go_enter Tryd.func31, Tryd.ntmps31
  go_wp2_with fail
  refine (rhas_any E _ _ br cap base _ hR hl).mono ?_
  rintro e w1 ⟨rfl, rfl⟩
  go_wp2
  go_ret2
  have hz := Hz.out
  cases hq : rHas E (gAt l (l.length - 1) : Nat) (gAt l 0 : Nat) with
  | true =>
    rw [hq, if_pos rfl] at hz
    rw [hz]
    refine ⟨_, rfl, Below.refl _ _, ⟨_, _, _, rfl⟩, fun out ho => ?_⟩
    injection ho with ho
    subst ho
    exact ⟨_, _, rfl, hL⟩
  | false =>
    rw [hq, if_neg (by simp)] at hz
    rw [hz]
    exact ⟨_, rfl, Below.refl _ _, ⟨_, _, _, rfl⟩, fun out ho => by cases ho⟩

set_option maxHeartbeats 4000000 in
theorem long_any (E : List (Int × Int)) (br cap : Nat) (base : Option Addr) (hl : E.length ≤ 1099511627776) (f : Nat) : ∀ (l : List Nat) (size : Nat), 0 < l.length → f + l.length = size → size ≤ 64 → (∀ i, i < l.length → gAt l i < 64) →
    ∀ (b c M : Nat) (w : World), RD w br base cap E → Reads w M (some ⟨b, 0, none⟩) l →
    Calls Tryd.prog 31 #[.pointer (some ⟨br, 0, none⟩), .slice (some ⟨b, 0, none⟩) l.length c, .int .i64 size] w (LongPost w M (rLong E f l)) := by
  induction f with
  | zero =>
    intro l size hpos hsz hle h64 b c M w hR hL
    have e : size = l.length := by omega
    rw [e]
    exact long_zero E br cap base hl l hpos (by omega) b c M w hR hL
  | succ f ih =>
    intro l size hpos hsz hle h64 b c M w hR hL
    have Ih := Lib.hid ih; clear ih
    obtain ⟨b0, e0, hM0, c0⟩ := hL 0 hpos
    obtain ⟨b1, e1, _, c1⟩ := hL (l.length - 1) (by omega)
    injection e0 with e0; injection e0 with e0; subst e0
    injection e1 with e1; injection e1 with e1; subst e1
    have hz := rLong_succ E f l
    have Hz := Lib.hid hz; clear hz
    have hll : l.length ≤ 64 := by omega
    have Hsz := Lib.hid hsz; clear hsz
    have H64 := Lib.hid h64; clear h64
    have b0 : ((l.length : Int) == (size : Int)) = false := by rw [beq_eq_false_iff_ne]; have := Hsz.out; omega
    go_enter Tryd.func31, Tryd.ntmps31
    go_wp2_with fail
    refine (rnext_any E _ br cap base _ hR hl).mono ?_
    rintro e w1 ⟨v, rfl, hown, hb1⟩
    have hR1 := hR.more hb1
    have hL1 := hL.mono hb1
    obtain ⟨baseN, capN, rfl, hrd⟩ := owns_reads hown
    have hNl : (rNext E (gAt l (l.length - 1) : Nat)).length ≤ 64 := by unfold rNext; exact selTo_len _ _
    have hN64 : ∀ i, i < (rNext E (gAt l (l.length - 1) : Nat)).length → gAt (rNext E (gAt l (l.length - 1) : Nat)) i < 64 := fun i hi => by
      exact rNext_lt E _ i hi
    have HN64 := Lib.hid hN64; clear hN64 hown
    generalize hN : rNext E (gAt l (l.length - 1) : Nat) = N at *
    have HN := Lib.hid hN; clear hN
    have hsz1 := hb1.size
    have hb0 : b < w.heap.size := World.block_lt_of_cell? w _ c0
    have c0' := keeps_cell hb1 c0
    go_wp2_with fail
    obtain ⟨wo, hwo⟩ : ∃ wo : World, wo = w1 := ⟨_, rfl⟩
    go_loopw [10, 11, 12, 56] (fun i _ _ _ wi => ∃ k : Nat, k ≤ N.length ∧ i = .int .i64 k ∧ Below w.heap.size w wi ∧ Reads wi w.heap.size baseN N ∧ Hid (∀ i, i < k → tryOn (rLong E f) l (gAt N i) = none)) (fun i _ _ _ _ => N.length - (intOf i).toNat)
    case atStart => exact ⟨0, by omega, rfl, hb1, hrd, fun i hi => by omega⟩
    case round =>
      obtain ⟨k, hk, rfl, hb, hrd2, hno⟩ := hrel
      clear hwo hrd hR1 hL1 c0' hb1 hsz1
      have hR2 := hR.more hb
      have hL2 := hL.mono hb
      have c0' := keeps_cell hb c0
      have hsz2 := hb.size
      by_cases hlt : k < N.length
      · obtain ⟨bN, hbase, hBN, cN⟩ := hrd2 k hlt
        subst hbase
        by_cases t1 : gAt l 0 < gAt N k
        · have d1 : decide (((gAt l 0 : Nat) : Int) < ((gAt N k : Nat) : Int)) = true := decide_eq_true (by omega)
          have hll2 : l.length ≤ 1099511627776 := by omega
          have hLd : ∀ q, Reads (wr.drewN q) M (some ⟨b, 0, none⟩) l := fun q => hL2.mono (below_drewN (Below.refl _ _) q)
          have Hc29 := Lib.hid (fun q => has_list' l (gAt N k : Nat) (some ⟨b, 0, none⟩) c M (wr.drewN q) (hLd q) hll2)
          clear hLd
          by_cases t2 : hasN l (gAt N k : Nat) = true
          · have hq : tryOn (rLong E f) l (gAt N k) = none := by unfold tryOn; rw [if_neg (fun h => by rw [t2] at h; exact absurd h.2 (by simp))]
            have Hn2 := Lib.hid (show ∀ i, i < k + 1 → tryOn (rLong E f) l (gAt N i) = none from fun i hi => by
              by_cases e : i = k
              · rw [e]; exact hq
              · exact hno.out i (by omega))
            clear hq
            rw [t2] at Hc29
            have T2 := Lib.hid t2; clear t2
            go_wp2_with fail
            go_quiet ((go_at_call 29; exact Calls.quiet_of_same (Hc29.out _)))
            go_wp2
            go_roundw
            case rel => exact ⟨k + 1, by omega, by go_num, below_drewN hb _, hrd2.mono (below_drewN (Below.refl _ _) _), Hn2.out⟩
            case measure => simp [intOf]; omega
          · have t2' : hasN l (gAt N k : Nat) = false := by simpa using t2
            rw [t2'] at Hc29
            have Htry := Lib.hid (show tryOn (rLong E f) l (gAt N k) = rLong E f (l ++ [gAt N k]) from by unfold tryOn; rw [if_pos ⟨t1, t2'⟩])
            have T2 := Lib.hid t2'; clear t2 t2'
            have hxl : (l ++ [gAt N k]).length = l.length + 1 := by simp
            have h64' : ∀ i, i < (l ++ [gAt N k]).length → gAt (l ++ [gAt N k]) i < 64 := by
              intro i hi
              have hm := gAt_mem _ _ hi
              rcases List.mem_append.1 hm with h1 | h1
              · obtain ⟨j, hj, e⟩ := gAt_of_mem h1
                rw [← e]; exact H64.out j hj
              · rw [List.mem_singleton.1 h1]; exact HN64.out k hlt
            have hih := Ih.out (l ++ [gAt N k]) size (by rw [hxl]; omega) (by rw [hxl]; have := Hsz.out; omega) hle h64'
            rw [hxl] at hih
            have Hih := Lib.hid hih; clear hih h64' hxl
            go_wp2_with fail
            go_quiet ((go_at_call 29; exact Calls.quiet_of_same (Hc29.out _)))
            obtain ⟨w2, hw2⟩ : ∃ w2, w2 = wr.drewN nq := ⟨_, rfl⟩
            have hd2 : Below wr.heap.size wr w2 := by rw [hw2]; exact below_drewN (Below.refl _ _) _
            rw [← hw2]
            have hb2 : Below w.heap.size w w2 := hb.trans (hd2.mono hsz2)
            have hL3 := (hL2.mono hd2).mono (Below.refl w2.heap.size w2).drew
            have hR3 := hR2.more hd2
            have hrd3 := hrd2.mono hd2
            have cN3 := keeps_cell hd2 cN
            have hsz3 : w.heap.size ≤ w2.heap.size := Nat.le_trans hsz2 hd2.size
            clear hw2 hd2 hL2 hR2 hrd2 cN hb c0' Hc29 hsz2
            have hl2 : l.length + 1 ≤ 1099511627776 := by omega
            go_wp2_with fail
            have hMb : M ≤ w2.heap.size := by omega
            have hxp := Lib.hid (show 0 < (l ++ [gAt N k]).length by simp)
            generalize hr : rLong E f (l ++ [gAt N k]) = r at *
            have Hr := Lib.hid hr; clear hr
            have hL3b := (hL3.mono (Below.refl w2.drew.heap.size w2.drew)).mono ((Below.refl w2.drew.heap.size w2.drew).alloc (Nat.le_refl _) (.cells #[.int .i64 ((gAt N k : Nat) : Int)] 3))
            have hL3c : Reads (w2.alloc (.cells #[.int .i64 ((gAt N k : Nat) : Int)] 3)).drew M (some ⟨b, 0, none⟩) l := hL3b
            clear hL3b
            go_region_law (first | (refine step_copy rfl _ _ rfl b c M l hL3 rfl rfl hll2 ?_; intro v1 w3 hown1 hg1; have hb3 := G_none hg1; have cN3 := keeps_cell hb3 cN3; have hs3 := hb3.size) | (refine step_copy rfl _ _ rfl b c M l hL3c rfl rfl hll2 ?_; intro v1 w3 hown1 hg1; have hcx := G_cell_b hg1; have hb3 := G_none_b hg1; have hown1 := owns_base hown1 (show w2.heap.size ≤ _ by simp); have hs3 := hb3.size) | (refine step_int rfl _ _ rfl _ hown1 rfl rfl hl2 hs3 ?_; intro v2 w4 hown2 hg2; have hb4 := below_app hb3 hs3 hown1 hg2; rw [← ints_snoc] at hown2; obtain ⟨b2, c2, rfl, hr2⟩ := owns_reads hown2; obtain ⟨bb, rfl⟩ := hr2.base hxp.out; have hr2 := hr2.weak hMb; have hR4 := hR3.more hb4) | (refine step_int_at rfl _ _ rfl _ _ hown1 hcx rfl rfl hl2 hs3 ?_; intro v2 w4 hown2 hg2; have hb4 := below_app_at hb3 hs3 hown1 hg2; rw [← ints_snoc] at hown2; obtain ⟨b2, c2, rfl, hr2⟩ := owns_reads hown2; obtain ⟨bb, rfl⟩ := hr2.base hxp.out; have hr2 := hr2.weak hMb; have hR4 := hR3.more hb4) | (go_simp; go_at_call 31; refine (Hih.out bb c2 M w4 hR4 hr2).mono ?_; rintro e w5 ⟨v3, rfl, hb5, ⟨bs3, n3, cp3, rfl⟩, hout⟩; have hbF := hb2.trans ((hb4.mono hsz3).trans (hb5.mono (Nat.le_trans hsz3 hb4.size))); have hrdF := (hrd3.mono hb4).mono hb5; clear hb5 hb4 hR4 hr2 hown2))
            all_goals
              cases r with
              | none =>
                have Hn2 := Lib.hid (show ∀ i, i < k + 1 → tryOn (rLong E f) l (gAt N i) = none from fun i hi => by
                  by_cases e : i = k
                  · rw [e, Htry.out]
                  · exact hno.out i (by omega))
                clear hout
                go_wp2
                go_roundw
                case rel => exact ⟨k + 1, by omega, by go_num, hbF, hrdF, Hn2.out⟩
                case measure => simp [intOf]; omega
              | some out =>
                have Hres := Lib.hid (show rLong E (f + 1) l = some out from by
                  rw [Hz.out]; exact findSome_first _ _ k hlt out (fun i hi => hno.out i hi) (by rw [Htry.out]))
                have Hout := Lib.hid hout; clear hout
                go_wp2
                go_ret2
                rw [Hres.out]
                exact ⟨_, rfl, hbF, ⟨_, _, _, rfl⟩, Hout.out⟩
        · have d1 : decide (((gAt l 0 : Nat) : Int) < ((gAt N k : Nat) : Int)) = false := decide_eq_false (by omega)
          have hq : tryOn (rLong E f) l (gAt N k) = none := by unfold tryOn; rw [if_neg (fun h => t1 h.1)]
          have Hn2 := Lib.hid (show ∀ i, i < k + 1 → tryOn (rLong E f) l (gAt N i) = none from fun i hi => by
            by_cases e : i = k
            · rw [e]; exact hq
            · exact hno.out i (by omega))
          clear hq
          go_wp2_with fail
          go_quiet (fail)
          go_wp2
          go_roundw
          case rel => exact ⟨k + 1, by omega, by go_num, below_drewN hb _, hrd2.mono (below_drewN (Below.refl _ _) _), Hn2.out⟩
          case measure => simp [intOf]; omega
      · have hke := Lib.hid (show rLong E (f + 1) l = none from by rw [Hz.out]; exact findSome_none _ _ (fun i hi => hno.out i (by omega)))
        go_wp2
        go_ret2
        rw [hke.out]
        exact ⟨_, rfl, hb, ⟨_, _, _, rfl⟩, fun out ho => by cases ho⟩
end Go.Proofs.YtiililidehddmaaDoor
