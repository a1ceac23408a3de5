import Derived.Test.YtiililidehddmaaDoorH1b
namespace Go.Proofs.YtiililidehddmaaDoor
open Go.RowKit Go.Maps

/-- The world behind the law's start: the graph's box. -/
structure BIn (w wr : World) (B : Nat) (g : List Nat) : Prop where
  below : Below w.heap.size w wr
  box : wr.heap[B]? = some (.cells (gcells g).toArray 33 (0, 0))
  tab : Tab wr
  size : B + 1 ≤ wr.heap.size
  lo : w.heap.size ≤ B
theorem BIn.more {w wr w1 : World} {B : Nat} {g : List Nat} (h : BIn w wr B g) (hb : Below wr.heap.size wr w1) : BIn w w1 B g where
  below := h.below.trans (hb.mono (by have := h.size; have := h.lo; omega))
  box := keeps hb h.box
  tab := h.tab.below hb h.tab.size
  size := Nat.le_trans h.size hb.size
  lo := h.lo

theorem BIn.fits {w wr : World} {B : Nat} {g : List Nat} (h : BIn w wr B g) (hl : g.length = 64) : rowFits 64 wr (.pointer (some ⟨B, 0, none⟩)) = true := by
  have := rowFits_of h.box
  rw [show (gcells g).toArray.size = 64 from by simp [hl]] at this
  exact this
theorem BIn.val {w wr : World} {B : Nat} {g : List Nat} (h : BIn w wr B g) : rowVal wr (.pointer (some ⟨B, 0, none⟩)) = .agg (gcells g).toArray := rowVal_of h.box

theorem next_mod (k n : Nat) (h : k ≤ 1000) : (IntKind.i64.wrap ((k : Int) + 1)).tmod (n : Int) = (((k + 1) % n : Nat) : Int) := by
  rw [IntWalk.i64_in _ (by omega), Int.tmod_eq_emod_of_nonneg (by omega), Int.natCast_emod, Int.natCast_add]; rfl
theorem next_edge {g : List Nat} (hg : WfG g) (n : Nat) (hn : n < 64) (j : Nat) (hj : j < (nextF g (n : Int)).length) : Edge g n (gAt (nextF g (n : Int)) j) := by
  have e : nextF g (n : Int) = bitsOf (gAt g n) := by
    unfold nextF; rw [if_pos (nodeB_nat hn), Int.toNat_natCast]
  rw [e] at hj ⊢
  exact (mem_bitsOf (hg.lt n)).1 (gAt_mem _ j hj)
theorem nextF_len (g : List Nat) (n : Int) : (nextF g n).length ≤ 64 := by
  unfold nextF
  split
  · exact bitsOf_len _
  · simp
theorem self_at {g : List Nat} (hg : WfG g) (n : Nat) (h : n = 64) : selfTo g n = true ↔ ∃ n, Way g n n := by rw [h]; exact self_all hg
theorem hasF_edge {g : List Nat} (hg : WfG g) {a b : Nat} (h : Edge g a b) : hasF g (a : Int) (b : Int) = true := by
  unfold hasF
  rw [nodeB_nat (h.left hg), nodeB_nat (h.right hg)]
  simpa [Edge] using h

attribute [local go_sem ↓] wp_load33

set_option maxHeartbeats 2000000 in
theorem facts_any (L : List (Int × Int)) (base : Option Addr) (cap : Nat) (w : World) (hE : EdgesAt w base L) (hT : Tab w) :
    Calls Tryd.prog 5 #[.slice base L.length cap] w fun e w' => e = .returned (.bool true) ∧ Below w.heap.size w w' := by
  by_cases hbig : 200 < L.length
  · go_enter Tryd.func5, Tryd.ntmps5
    go_wp2_with fail
    refine (alive_any _ hT).mono ?_
    rintro e w1 ⟨rfl, hb1⟩
    go_wp2
    go_ret
    exact ⟨rfl, hb1⟩
  · have hl15 : L.length ≤ 1099511627776 := by omega
    have hmm := @run_makeMap Tryd.prog
    have hlk := link_all L
    have hwf := hlk.wf
    have hRF := Lib.hid (ring_facts hwf)
    have hSA := Lib.hid (self_at hwf)
    have hOK := Lib.hid (ord_ok hlk)
    have hOI := Lib.hid (fun (sm : Bool) (h : sm = true ↔ ∃ n, Way (theirsG L) n n) => ord_is hwf h)
    clear hlk
    go_enter Tryd.func5, Tryd.ntmps5
    go_wp2_with fail
    refine (theirs_any L base cap _ hE hl15).mono ?_
    rintro e w1 ⟨rfl, hb1⟩
    have hT1 := hT.below hb1 hT.size
    clear hE
    generalize theirsG L = g at *
    unfold gval
    go_wp2_with (first | (refine row_alloc rfl 33 rfl _ (Tryd.zero33 _) ?_) | (refine store_g rfl _ _ rfl _ _ hwf.len rfl rfl zeroG_wf.len (heap_alloc_new _ _) ?_; rw [setRow_alloc _ _ _ _ _ rfl]) | (refine load_g rfl _ rfl _ rfl g hwf.len (heap_alloc_new _ _) ?_))
    have hI : BIn w (w1.alloc (.cells (gcells g).toArray 33)) w1.heap.size g := {
      below := hb1.alloc hb1.size _
      box := heap_alloc_new _ _
      tab := hT1.alloc _
      size := by simp
      lo := hb1.size }
    generalize hB : w1.heap.size = B at *
    generalize hW : w1.alloc (.cells (gcells g).toArray 33) = w2 at *
    clear hW hB hT1 hb1
    refine (Ring_any g hwf _ hI.tab).mono ?_
    rintro e w3 ⟨v3, rfl, hown3, hb3⟩
    obtain ⟨bR, cR, rfl, hrR⟩ := owns_reads hown3
    clear hown3
    have hI3 := hI.more hb3
    clear hI hb3
    generalize hR : ringF g = R at *
    have HR := Lib.hid hR; clear hR
    have hRlen := hRF.out.len
    go_wp2_with fail
    go_loopw [5, 6, 8, 26, 33] (fun s _ _ i _ wr => ∃ (n : Nat), n ≤ 64 ∧ i = .int .i64 n ∧ s = .bool (selfTo g n) ∧ Below w3.heap.size w3 wr) (fun _ _ _ i _ _ => 64 - (intOf i).toNat)
    case atStart => exact ⟨0, by omega, rfl, by rw [selfTo_zero], Below.refl _ _⟩
    case round =>
      obtain ⟨n, hn, rfl, rfl, hb4⟩ := hrel
      have hI4 := hI3.more hb4
      have hbx4 := hI4.box
      have hrR4 := hrR.mono hb4
      by_cases hlt : n < 64
      · have b0 : decide ((n : Int) < 64) = true := decide_eq_true (by omega)
        have hs := selfTo_succ g n
        go_wp2_with (refine load_g rfl _ rfl _ rfl g hwf.len hbx4 ?_)
        refine (Reach_any g hwf n _ hI4.tab).mono ?_
        rintro e w5 ⟨v5, rfl, hown5, hb5⟩
        obtain ⟨b5, c5, rfl, hr5⟩ := owns_reads hown5
        clear hown5
        have hl5 : (reachL g n).length ≤ 64 := by unfold reachL; exact Nat.le_trans (List.length_filter_le _ _) (by simp)
        have hall := hasTo_all (reachL g n) n (selfTo g n)
        rw [← hs] at hall
        have Hall := Lib.hid hall; clear hall hs
        have hb45 := hb4.trans (hb5.mono hb4.size)
        generalize reachL g n = A at *
        generalize hs0 : selfTo g n = s0 at *
        obtain ⟨wo, hwo⟩ : ∃ wo : World, wo = w5 := ⟨_, rfl⟩
        go_wp2_with fail
        go_loopw [5, 8, 33] (fun s _ i wi => ∃ (k : Nat), k ≤ A.length ∧ i = .int .i64 k ∧ s = .bool (hasTo A n s0 k) ∧ wi = wo) (fun _ _ i _ => A.length - (intOf i).toNat)
        case atStart => exact ⟨0, by omega, rfl, by rw [hasTo_zero], hwo.symm⟩
        case round =>
          obtain ⟨k, hk, rfl, rfl, rfl⟩ := hrel
          subst hwo
          by_cases hlt2 : k < A.length
          · have b2 : decide ((k : Int) < (A.length : Int)) = true := decide_eq_true (by omega)
            obtain ⟨b6, hb6, _, c6⟩ := hr5 k hlt2
            subst hb6
            have hs2 := hasTo_succ A n s0 k
            by_cases t1 : hasTo A n s0 k = true
            · have Hs := Lib.hid (show hasTo A n s0 (k + 1) = true by rw [hs2, t1]; rfl)
              clear hs2
              rw [t1]
              go_wp2
              go_roundw
              case rel => exact ⟨k + 1, by omega, by go_num, by rw [Hs.out], (by first | rfl | trivial)⟩
              case measure => simp [intOf]; omega
            · have t1' : hasTo A n s0 k = false := by simpa using t1
              have Hs := Lib.hid (show hasTo A n s0 (k + 1) = ((gAt A k : Int) == n) by rw [hs2, t1']; rfl)
              clear hs2 t1
              rw [t1']
              go_wp2
              go_roundw
              case rel => exact ⟨k + 1, by omega, by go_num, by rw [Hs.out], (by first | rfl | trivial)⟩
              case measure => simp [intOf]; omega
          · have b2 : decide ((k : Int) < (A.length : Int)) = false := decide_eq_false (by omega)
            have hke := Lib.hid (show k = A.length by omega)
            go_wp2
            go_roundw
            case rel => exact ⟨n + 1, by omega, by go_num, by rw [hke.out, Hall.out], hb45⟩
            case measure => simp [intOf]; omega
      · have hn64 := Lib.hid (show n = 64 by omega)
        have hsm := hSA.out n hn64.out
        generalize selfTo g n = sm at *
        have b0 : decide ((n : Int) < 64) = false := decide_eq_false (by omega)
        clear hSA hn64
        have hSA := Lib.hid hsm
        clear hsm
        go_wp2_with fail
        go_loopw [9, 10, 47] (fun _ _ i wi => ∃ (k : Nat), k ≤ R.length ∧ i = .int .i64 k ∧ Below w3.heap.size w3 wi) (fun _ _ i _ => R.length - (intOf i).toNat)
        case atStart => exact ⟨0, by omega, rfl, hb4⟩
        case round =>
          clear hbx4 hrR4 hI4 hb4
          obtain ⟨k, hk, rfl, hb6⟩ := hrel
          have hI6 := hI3.more hb6
          have hbx6 := hI6.box
          have hrR6 := hrR.mono hb6
          by_cases hlt2 : k < R.length
          · have b2 : decide ((k : Int) < (R.length : Int)) = true := decide_eq_true (by omega)
            have hj : (k + 1) % R.length < R.length := Nat.mod_lt _ (by omega)
            have hedge := hasF_edge hwf (hRF.out.edge k hlt2)
            have hfirst := hRF.out.first k hlt2
            have htm := next_mod k R.length (by omega)
            have hRne : R ≠ [] := by intro e; rw [e] at hlt2; simp at hlt2
            have hj0 : (0 : Int) ≤ ((((k + 1) % R.length : Nat)) : Int) := by omega
            have hj1 : ((((k + 1) % R.length : Nat)) : Int) < (R.length : Int) := by omega
            have hj2 : ((((k + 1) % R.length : Nat)) : Int).toNat = (k + 1) % R.length := Int.toNat_natCast _
            have hlt0 : decide (((gAt R k : Nat) : Int) < ((gAt R 0 : Nat) : Int)) = false := decide_eq_false (by omega)
            have hR0 : 0 < R.length := by omega
            generalize (k + 1) % R.length = j at *
            obtain ⟨b6, hb6e, _, c6⟩ := hrR6 k hlt2
            subst hb6e
            obtain ⟨b7, hb7e, _, c7⟩ := hrR6 j hj
            obtain ⟨b8, hb8e, _, c8⟩ := hrR6 0 (by omega)
            injection hb7e with hb7e
            injection hb7e with hb7e
            injection hb8e with hb8e
            injection hb8e with hb8e
            subst hb7e
            subst hb8e
            go_wp2_with fail
            have hI6 := hI6.more (Below.refl _ _).drew
            have hf := hI6.fits hwf.len
            have hv := hI6.val
            have hb6 := hb6.trans ((Below.refl _ _).drew.mono hb6.size)
            have c7 := keeps_cell (Below.refl wr.heap.size wr).drew c7
            have c8 := keeps_cell (Below.refl wr.heap.size wr).drew c8
            go_region_law (first | (go_simp; go_at_call 16; refine (has_any g hwf _ _ _).mono ?_; rintro e wX ⟨rfl, hb⟩; have hI6 := hI6.more hb; have hb6 := hb6.trans (hb.mono hb6.size); have c7 := keeps_cell hb c7; have c8 := keeps_cell hb c8; have hf := hI6.fits hwf.len; have hv := hI6.val; rw [hedge]))
            all_goals
              go_wp2
              go_roundw
              case rel => exact ⟨k + 1, by omega, by go_num, hb6⟩
              case measure => simp [intOf]; omega
          · have b2 : decide ((k : Int) < (R.length : Int)) = false := decide_eq_false (by omega)
            have hOI2 := hOI.out sm hSA.out
            have hRs : decide (0 < R.length) = sm := by
              rw [Bool.eq_iff_iff, decide_eq_true_eq, hSA.out, ← hRF.out.some]
            have hq1 : (decide (0 < R.length) != sm) = false := by rw [hRs]; simp
            have hq2 : (orderB (orderF g) == sm) = false := by rw [hOI2]; cases sm <;> rfl
            have hOk := hOK.out
            clear hOI2 hOI hOK hSA hRF
            go_wp2_with (refine load_g rfl _ rfl _ rfl g hwf.len hbx6 ?_)
            refine (Order_any g hwf _ hI6.tab).mono ?_
            rintro e w7 ⟨v7, rfl, hown7, hb7⟩
            obtain ⟨b7, c7, rfl, hr7⟩ := owns_reads hown7
            clear hown7
            have hI7 := hI6.more hb7
            clear hI6 hbx6 hrR6 hb6 hrR hI3 hb7
            generalize orderB (orderF g) = bo at *
            generalize hO : orderL (orderF g) = O at *
            clear hO
            have hOlen := hOk.len
            have HOk := Lib.hid hOk; clear hOk
            go_wp2_with fail
            have hm0 : (w7.alloc (.map #[] 0)).ownsMap Tryd.prog 3 (plainElem (H := Unit) Tryd.prog 3) w7.heap.size 0 (plcD O 0) := by rw [plcD_zero]; exact World.ownsMap_made _ _ _ _
            have hb70 : Below w7.heap.size w7 (w7.alloc (.map #[] 0)) := (Below.refl _ _).alloc (Nat.le_refl _) _
            go_loopw [14, 15, 17, 90, 103] (fun _ _ _ i _ wi => ∃ (k : Nat), k ≤ O.length ∧ i = .int .i64 k ∧ Below w7.heap.size w7 wi ∧ wi.ownsMap Tryd.prog 3 (plainElem (H := Unit) Tryd.prog 3) w7.heap.size k (plcD O k)) (fun _ _ _ i _ _ => O.length - (intOf i).toNat)
            case atStart => exact ⟨0, by omega, rfl, hb70, hm0⟩
            case round =>
              clear hm0 hb70
              obtain ⟨k, hk, rfl, hb8, hown8⟩ := hrel
              have hI8 := hI7.more hb8
              have hr8 := hr7.mono hb8
              by_cases hlt3 : k < O.length
              · have b3 : decide ((k : Int) < (O.length : Int)) = true := decide_eq_true (by omega)
                obtain ⟨b9, hb9e, _, c9⟩ := hr8 k hlt3
                subst hb9e
                have hap := HOk.out.apart k hlt3
                have hbe := HOk.out.behind k hlt3
                have hlo9 : k + 1 ≤ 65 := by omega
                have hkey : keyOf Tryd.prog 3 (.int .i64 ((gAt O k : Nat) : Int)) = some (.int .i64 ((gAt O k : Nat) : Int)) := keyOf_int_mk Tryd.underlying3 (WalkArith.wf_i64 (by have := HOk.out.lt k hlt3; omega))
                go_wp2_with (first | (at_mapUpdate; refine wpList_mapUpdate_own _ rfl _ _ _ 47 rfl 3 3 law3 under47 _ w7.heap.size k _ rfl hown8 (by unfold maxLen; omega) _ _ _ rfl rfl hkey _ [] (plainElem_int Tryd.underlying3 (WalkArith.wf_i64 (by omega))) ?_; intro w10 hown10 hg10; have hb10 := hb8.grown hg10 hb8.size (fun k hk => by cases hk; exact Nat.le_refl _); have hI10 := hI7.more hb10) | (refine load_g rfl _ rfl _ rfl g hwf.len hI10.box ?_))
                rw [← plcD_succ] at hown10
                refine (next_any g hwf _ _ hI10.tab).mono ?_
                rintro e w11 ⟨v11, rfl, hown11, hb11⟩
                obtain ⟨b11, c11, rfl, hr11⟩ := owns_reads hown11
                clear hown11
                have hownM := map_more hown10 hb11
                have hbM := hb10.trans (hb11.mono hb10.size)
                have hed := next_edge hwf (gAt O k) (HOk.out.lt k hlt3)
                have hNl := nextF_len g ((gAt O k : Nat) : Int)
                have hlook : ∀ j, j < (nextF g ((gAt O k : Nat) : Int)).length → ∀ c : Int, (plcD O (k + 1)).atKey (.int .i64 ((gAt (nextF g ((gAt O k : Nat) : Int)) j : Nat) : Int)) (.lit (.int .i64 0)) = .lit (.int .i64 c) → 1 ≤ c ∧ c ≤ k :=
                  fun j hj c hc => plcD_look O _ k hlt3 (hbe _ (hed j hj)) (fun e => hap (by have := hed j hj; rwa [e] at this)) c hc
                have hN64 : ∀ j, j < (nextF g ((gAt O k : Nat) : Int)).length → gAt (nextF g ((gAt O k : Nat) : Int)) j < 64 := fun j hj => (hed j hj).right hwf
                clear hed
                have Hlook := Lib.hid hlook; clear hlook
                have HN64 := Lib.hid hN64; clear hN64 hap hbe
                generalize nextF g ((gAt O k : Nat) : Int) = N at *
                go_wp2_with fail
                obtain ⟨wo, hwo⟩ : ∃ wo : World, wo = w11 := ⟨_, rfl⟩
                go_loopw [17, 103] (fun _ i wi => ∃ (j : Nat), j ≤ N.length ∧ i = .int .i64 j ∧ wi = wo) (fun _ i _ => N.length - (intOf i).toNat)
                case atStart => exact ⟨0, by omega, rfl, hwo.symm⟩
                case round =>
                  obtain ⟨j, hj, rfl, rfl⟩ := hrel
                  subst hwo
                  by_cases hlt4 : j < N.length
                  · have b4 : decide ((j : Int) < (N.length : Int)) = true := decide_eq_true (by omega)
                    obtain ⟨b12, hb12, _, c12⟩ := hr11 j hlt4
                    subst hb12
                    obtain ⟨c, hrun, hat, _⟩ := hownM.lookup_int law3 under47 Tryd.underlying3 (zeroInt _) (keyOf_int_mk (a := ((gAt N j : Nat) : Int)) Tryd.underlying3 (WalkArith.wf_i64 (by have := HN64.out j hlt4; omega)))
                    obtain ⟨hc1, hc2⟩ := Hlook.out j hlt4 c hat
                    have hq3 : (c == 0) = false := by rw [beq_eq_false_iff_ne]; omega
                    have hq4 : decide ((k : Int) < c) = false := decide_eq_false (by omega)
                    go_wp2
                    go_roundw
                    case rel => exact ⟨j + 1, by omega, by go_num, (by first | rfl | trivial)⟩
                    case measure => simp [intOf]; omega
                  · have b4 : decide ((j : Int) < (N.length : Int)) = false := decide_eq_false (by omega)
                    go_wp2
                    go_roundw
                    case rel => exact ⟨k + 1, by omega, by go_num, hbM, hownM⟩
                    case measure => simp [intOf]; omega
              · have b3 : decide ((k : Int) < (O.length : Int)) = false := decide_eq_false (by omega)
                go_wp2_with fail
                refine (alive_any _ hI8.tab).mono ?_
                rintro e w12 ⟨rfl, hb12⟩
                have hI12 := hI8.more hb12
                go_wp2
                go_ret
                exact ⟨rfl, hI12.below⟩
end Go.Proofs.YtiililidehddmaaDoor
