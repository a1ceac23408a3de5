import Derived.Test.YtlgkkjhkanpmhaaC2
import Derived.Deep.RegionHeld3
namespace Go.Proofs.Ytlgkkjhkanpmhaa
open Go.RowKit Go.Maps Go.WideShapes

theorem raceB_symm (a b : Acc) : raceB a b = raceB b a := by
  rw [raceB_eq, raceB_eq, besideC_symm]
  have e1 : (a.ce == b.ce) = (b.ce == a.ce) := by rw [Bool.eq_iff_iff, beq_iff_eq, beq_iff_eq]; exact eq_comm
  have e2 : (a.th == b.th) = (b.th == a.th) := by rw [Bool.eq_iff_iff, beq_iff_eq, beq_iff_eq]; exact eq_comm
  simp only [bne, e1, e2]
  cases isOneB a <;> cases isOneB b <;> cases a.wr <;> cases b.wr <;> simp
theorem raceB_true {a b : Acc} (h : raceB a b = true) : (a.th == b.th) = false ∧ (a.ce != b.ce) = false ∧ besideC a.clk b.clk = true := by
  rw [raceB_eq] at h
  simp only [Bool.and_eq_true] at h
  obtain ⟨⟨⟨⟨_, h1⟩, h2⟩, _⟩, h3⟩ := h
  exact ⟨by simpa [bne] using h2, by simpa [bne] using h1, h3⟩
theorem allTo_some {L : List Acc} {p : Nat × Nat} {n : Nat} (h : p ∈ allTo L n) : p.1 < n ∧ p.2 < n ∧ raceB (aAt L p.1) (aAt L p.2) = true := by
  induction n with
  | zero => rw [allTo_zero] at h; simp at h
  | succ n ih =>
    rw [allTo_succ, List.mem_append] at h
    rcases h with h | h
    · obtain ⟨h1, h2, h3⟩ := ih h; exact ⟨by omega, by omega, h3⟩
    · unfold innerL at h
      obtain ⟨i, hi, rfl⟩ := List.mem_map.1 h
      obtain ⟨h1, h2⟩ := List.mem_filter.1 hi
      have := List.mem_range.1 h1
      exact ⟨by show i < n + 1; omega, by show n < n + 1; omega, h2⟩

/-- Both boxes, and what was there. -/
structure RS (w1 : World) (bxa bxb : Nat) (a c : Acc) (w' : World) : Prop where
  ba : BoxA w' bxa 41 a
  bb : BoxA w' bxb 41 c
  below : Below w1.heap.size w1 w'
theorem RS.more {w1 w' w2 : World} {bxa bxb : Nat} {a c : Acc} (h : RS w1 bxa bxb a c w') (hb : Below w'.heap.size w' w2) : RS w1 bxa bxb a c w2 := ⟨h.ba.keep hb, h.bb.keep hb, h.below.trans (hb.mono h.below.size)⟩
theorem RS.drew {w1 w' : World} {bxa bxb : Nat} {a c : Acc} (h : RS w1 bxa bxb a c w') : RS w1 bxa bxb a c w'.drew := h.more (Below.refl _ _).drew
theorem BoxA.load {w : World} {b : Nat} {a : Acc} (h : BoxA w b 41 a) : (Instr.loadAt 41 (.pointer (some ⟨b, 0, none⟩))).run Try.prog w = .ok (accV a) w := by
  obtain ⟨d, hd, hrow⟩ := Try.under41
  exact run_loadAt_mid w b 0 41 (accCells a) d h.all hd hrow Try.size41

theorem run_load41 (p : Value) (w : World) (h : midFits 12 w p = true) : (Instr.loadAt 41 p).run Try.prog w = .ok (midVal 12 w p) w := by
  unfold midFits at h
  split at h
  · rename_i ad
    obtain ⟨b, off, spot⟩ := ad
    simp only [Bool.and_eq_true, List.all_eq_true, List.mem_range] at h
    obtain ⟨hs, hc⟩ := h
    have hs' : spot = none := by cases spot <;> simp_all
    subst hs'
    have hr : w.rangeAt b off ((List.range 12).map fun j => (w.cell? ⟨b, off + j, none⟩).getD undef) := by
      intro j v hv
      rw [List.getElem?_map] at hv
      by_cases hj : j < 12
      · rw [List.getElem?_range hj] at hv
        simp only [Option.map_some, Option.some.injEq] at hv
        obtain ⟨u, hu⟩ := Option.isSome_iff_exists.1 (hc j hj)
        rw [← hv, hu]; rfl
      · rw [List.getElem?_eq_none (by simp; omega)] at hv; cases hv
    obtain ⟨d, hd, hrow⟩ := Try.under41
    rw [run_loadAt_mid w b off 41 _ d hr hd hrow (by rw [Try.size41]; simp)]
    rfl
  · exact absurd h (by simp)
theorem BoxA.fits {w : World} {b : Nat} {a : Acc} (h : BoxA w b 41 a) : midFits 12 w (.pointer (some ⟨b, 0, none⟩)) = true := (mid_of h.all rfl).1
theorem BoxA.val {w : World} {b : Nat} {a : Acc} (h : BoxA w b 41 a) : midVal 12 w (.pointer (some ⟨b, 0, none⟩)) = accV a := (mid_of h.all rfl).2
theorem exec_load41 (f : Operand → Value) (dst : Option Tmp) (x : Operand) (ty : TypeId) (pos : String) (af : Array Go.Edge) (g : Option (Nat × Bool)) (w : World) (h : midFits 12 w (f x) = true) :
    (execOp f ⟨dst, .load 41 x, ty, pos, af, g⟩).run Try.prog w = .ok (.value (midVal 12 w (f x))) w := by
  unfold execOp
  simp only [Sem.run_bind, run_load41 _ _ h, Result.andThen_ok]
  rfl
attribute [local go_sem ↓] exec_load41

set_option maxHeartbeats 8000000 in
theorem RaceEither_any (L : List Acc) (base : Option Addr) (cap : Nat) (w : World) (hL : AccAt w base L) (hW : WfL L) (hn : L.length ≤ 9223372036854775807) :
    Calls Try.prog 4 #[.slice base L.length cap] w fun e w' => e = .returned (.bool true) ∧ Below w.heap.size w w' := by
  by_cases hbig : 40 < L.length
  · have hd : decide (40 < L.length) = true := decide_eq_true hbig
    go_enter Try.func4, Try.ntmps4
    go_wp2_with fail
    refine (far_any base L.length cap _ hn).mono ?_
    rintro e w1 ⟨rfl, rfl⟩
    rw [hd]
    go_wp2_with fail
    refine (alive_any _).mono ?_
    rintro e w1 ⟨rfl, hb1⟩
    go_wp2
    go_ret
    exact ⟨rfl, hb1⟩
  · have hd : decide (40 < L.length) = false := decide_eq_false hbig
    have hl40 : L.length ≤ 40 := by omega
    clear hbig
    have hmil : L.length ≤ 1000000 := by omega
    go_enter Try.func4, Try.ntmps4
    go_wp2_with fail
    refine (far_any base L.length cap _ hn).mono ?_
    rintro e w1 ⟨rfl, rfl⟩
    rw [hd]
    go_wp2_with fail
    refine (theirs_any L base cap _ hL hW (by omega)).mono ?_
    rintro e w1 ⟨v1, rfl, hown1, hb1⟩
    obtain ⟨base1, cap1, rfl, hL1⟩ := owns_acc hown1 rfl
    clear hL hown1
    go_wp2_with fail
    go_loopw [4, 6, 8, 18, 24] (fun b _ _ i _ wr => ∃ (k : Nat) (bs : Bool), k ≤ L.length ∧ i = .int .i64 k ∧ b = .bool bs ∧ Below w1.heap.size w1 wr ∧ Hid (∀ i, i < k → ∀ j, j < L.length → besideC (aAt L i).clk (aAt L j).clk = true → bs = true)) (fun _ _ _ i _ _ => L.length - (intOf i).toNat)
    case atStart => exact ⟨0, false, by omega, rfl, rfl, Below.refl _ _, fun i hi => absurd hi (by omega)⟩
    case round =>
      obtain ⟨k, bs, hk, rfl, rfl, hb, hbs⟩ := hrel
      have HW := Lib.hid hW; clear hW
      have HL1 := Lib.hid hL1; clear hL1
      by_cases hlt : k < L.length
      · have hwf := HW.out k hlt
        obtain ⟨b, off, hbase, hr⟩ := (HL1.out.more hb) k hlt
        subst hbase
        obtain ⟨a, hcA⟩ : ∃ c, aAt L k = c := ⟨_, rfl⟩
        rw [hcA] at hwf hr
        have HcA := Lib.hid hcA; clear hcA
        have hbox : BoxA (wr.alloc (.cells (accCells a).toArray 41)) wr.heap.size 41 a := BoxA.new wr 41 a
        have hal : Below wr.heap.size wr (wr.alloc (.cells (accCells a).toArray 41)) := (Below.refl _ _).alloc (Nat.le_refl _) _
        have hb2 := hb.trans (hal.mono hb.size)
        go_wp2_with (first | (refine load_r rfl 41 _ rfl b (off + k * 12) rfl _ hr Try.under41 Try.size41 ?_) | (refine row_alloc rfl 41 rfl _ (Try.zero41 _) ?_) | (refine store_r rfl 41 _ _ rfl wr.heap.size (accCells a).toArray rfl rfl (heap_alloc_new _ _) Try.size41 rfl (accCells_one a) ?_; rw [setRow_alloc _ _ _ _ _ rfl]))
        clear hr
        generalize hbx : wr.heap.size = bx at *
        generalize hw2 : wr.alloc (.cells (accCells a).toArray 41) = w2 at *
        clear hw2 hbx hb hal
        obtain ⟨wo, hwo⟩ : ∃ wo : World, wo = w2 := ⟨_, rfl⟩
        go_loopw [4, 8, 24] (fun b _ i wi => ∃ (j : Nat) (bt : Bool), j ≤ L.length ∧ i = .int .i64 j ∧ b = .bool bt ∧ Below w1.heap.size w1 wi ∧ BoxA wi bx 41 a ∧ Hid ((bs = true → bt = true) ∧ ∀ j', j' < j → besideC a.clk (aAt L j').clk = true → bt = true)) (fun _ _ i _ => L.length - (intOf i).toNat)
        case atStart => exact ⟨0, bs, by omega, rfl, rfl, hb2, hbox, ⟨id, fun i hi => absurd hi (by omega)⟩⟩
        case round =>
          clear hwo wo hb2 hbox
          obtain ⟨j, bt, hj, rfl, rfl, hb, hbox, hbt⟩ := hrel
          by_cases hlt2 : j < L.length
          · have hwf2 := HW.out j hlt2
            obtain ⟨b2, off2, hbase2, hr⟩ := (HL1.out.more hb) j hlt2
            injection hbase2 with e2
            injection e2 with e2 e3
            subst e2 e3
            obtain ⟨c, hcC⟩ : ∃ c, aAt L j = c := ⟨_, rfl⟩
            rw [hcC] at hwf2 hr
            have HcC := Lib.hid hcC; clear hcC
            have hal : Below wr.heap.size wr (wr.alloc (.cells (accCells c).toArray 41)) := (Below.refl _ _).alloc (Nat.le_refl _) _
            have hRS : RS w1 bx wr.heap.size a c (wr.alloc (.cells (accCells c).toArray 41)) := ⟨hbox.keep hal, BoxA.new wr 41 c, hb.trans (hal.mono hb.size)⟩
            have hka := hRS.ba.clk hwf.clk.len
            have hkc := hRS.bb.clk hwf2.clk.len
            have hsa : (Try.prog.info? 38).map (·.size) = some (ccells a.clk).length := by rw [Try.size38]; simp [hwf.clk.len]
            have hsc : (Try.prog.info? 38).map (·.size) = some (ccells c.clk).length := by rw [Try.size38]; simp [hwf2.clk.len]
            have Hrow := Lib.hid (heap_alloc_new wr (.cells (accCells c).toArray 41))
            have hsym := raceB_symm c a
            have HR1 := fun w => Race_any a c hwf.clk hwf2.clk w
            have HR2 := fun w => Race_any c a hwf2.clk hwf.clk w
            rw [hsym] at HR2
            clear hsym
            have hrt : raceB a c = true → _ := raceB_true (a := a) (b := c)
            generalize raceB a c = r at *
            have HR1 := Lib.hid HR1
            have HR2 := Lib.hid HR2
            have Hrt := Lib.hid hrt; clear hrt
            obtain ⟨q, hq⟩ : ∃ q, besideC a.clk c.clk = q := ⟨_, rfl⟩
            have hbz := fun w => Beside_any a.clk c.clk hwf.clk hwf2.clk w
            rw [hq] at hbz
            have Hbz := Lib.hid hbz; clear hbz
            have Hq := Lib.hid hq; clear hq
            cases bt
            · go_wp2_with (first | (refine load_r rfl 41 _ rfl b (off + j * 12) rfl _ hr Try.under41 Try.size41 ?_) | (refine row_alloc rfl 41 rfl _ (Try.zero41 _) ?_) | (refine store_r rfl 41 _ _ rfl wr.heap.size (accCells c).toArray rfl rfl (heap_alloc_new _ _) Try.size41 rfl (accCells_one c) ?_; rw [setRow_alloc _ _ _ _ _ rfl]) | (refine load_r_if rfl 38 _ rfl bx 3 rfl _ hka Try.under38 hsa ?_) | (refine load_r_if rfl 38 _ rfl wr.heap.size 3 rfl _ hkc Try.under38 hsc ?_))
              refine (Hbz.out _).mono ?_
              rintro e w4 ⟨rfl, hb4⟩
              have hRS := hRS.more hb4
              go_wp2_with fail
              have hla : ∀ w', RS w1 bx wr.heap.size a c w' → midFits 12 w' (.pointer (some ⟨bx, 0, none⟩)) = true ∧ midVal 12 w' (.pointer (some ⟨bx, 0, none⟩)) = accV a := fun _ h => ⟨h.ba.fits, h.ba.val⟩
              have hlc : ∀ w', RS w1 bx wr.heap.size a c w' → midFits 12 w' (.pointer (some ⟨wr.heap.size, 0, none⟩)) = true ∧ midVal 12 w' (.pointer (some ⟨wr.heap.size, 0, none⟩)) = accV c := fun _ h => ⟨h.bb.fits, h.bb.val⟩
              have ht1 : ∀ w', RS w1 bx wr.heap.size a c w' → w'.cell? ⟨bx, 0, none⟩ = some (.int .i64 a.th) := fun _ h => h.ba.th
              have ht2 : ∀ w', RS w1 bx wr.heap.size a c w' → w'.cell? ⟨wr.heap.size, 0, none⟩ = some (.int .i64 c.th) := fun _ h => h.bb.th
              have ht3 : ∀ w', RS w1 bx wr.heap.size a c w' → w'.cell? ⟨bx, 1, none⟩ = some (.int .i64 a.ce) := fun _ h => h.ba.ce
              have ht4 : ∀ w', RS w1 bx wr.heap.size a c w' → w'.cell? ⟨wr.heap.size, 1, none⟩ = some (.int .i64 c.ce) := fun _ h => h.bb.ce
              clear hka hkc hr hbox
              cases r
              · skip
                refine wp_region_held_drew (S := RS w1 bx wr.heap.size a c) (by kernel_rfl) (RS.drew hRS) (fun hHeld => ?_)
                refine wpAnyH_take (i := 0) (v := accV a) rfl (by kernel_rfl) (by kernel_rfl) (by kernel_rfl) (fun _ _ _ h => h) (Or.inl ⟨by rfl, ?_⟩) hHeld ?_
                · intro w hSw; (try simp only [List.getElem_toArray, List.getElem_cons_zero]); go_simp
                (try simp only [Act.put, List.setIfInBounds_toArray, List.set_cons_zero, List.set_cons_succ, List.getElem_toArray, List.getElem_cons_zero])
                refine wpAnyH_take (i := 1) (v := accV c) rfl (by kernel_rfl) (by kernel_rfl) (by kernel_rfl) (fun _ _ _ h => h) (Or.inl ⟨by rfl, ?_⟩) hHeld ?_
                · intro w hSw; (try simp only [List.getElem_toArray, List.getElem_cons_succ, List.getElem_cons_zero]); go_simp
                (try simp only [Act.put, List.setIfInBounds_toArray, List.set_cons_zero, List.set_cons_succ, List.getElem_toArray, List.getElem_cons_succ, List.getElem_cons_zero])
                refine wpAnyH_take (i := 3) (v := accV c) rfl (by kernel_rfl) (by kernel_rfl) (by kernel_rfl) (fun _ _ _ h => h) (Or.inl ⟨by rfl, ?_⟩) hHeld ?_
                · intro w hSw; (try simp only [List.getElem_toArray, List.getElem_cons_succ, List.getElem_cons_zero]); go_simp
                (try simp only [Act.put, List.setIfInBounds_toArray, List.set_cons_zero, List.set_cons_succ, List.getElem_toArray, List.getElem_cons_succ, List.getElem_cons_zero])
                refine wpAnyH_take (i := 4) (v := accV a) rfl (by kernel_rfl) (by kernel_rfl) (by kernel_rfl) (fun _ _ _ h => h) (Or.inl ⟨by rfl, ?_⟩) hHeld ?_
                · intro w hSw; (try simp only [List.getElem_toArray, List.getElem_cons_succ, List.getElem_cons_zero]); go_simp
                (try simp only [Act.put, List.setIfInBounds_toArray, List.set_cons_zero, List.set_cons_succ, List.getElem_toArray, List.getElem_cons_succ, List.getElem_cons_zero])
                refine wpAnyH_ready (rs := [2]) (by kernel_rfl) (by simp) ?_
                refine AllReadyH.cons rfl (fun K hK => ?_) AllReadyH.nil
                go_simp
                go_at_call 13
                (with_reducible refine (HR1.out _).mono ?_)
                rintro e wX ⟨rfl, hbX⟩
                go_wp2_with fail
                refine hK.out _ _ (RS.more hHeld hbX) (fun hHeld => ?_)
                clear hK K hbX
                (try simp only [Act.put, List.setIfInBounds_toArray, List.set_cons_zero, List.set_cons_succ, List.getElem_toArray, List.getElem_cons_succ, List.getElem_cons_zero])
                refine wpAnyH_ready (rs := [5]) (by kernel_rfl) (by simp) ?_
                refine AllReadyH.cons rfl (fun K hK => ?_) AllReadyH.nil
                go_simp
                go_at_call 13
                (with_reducible refine (HR2.out _).mono ?_)
                rintro e wX ⟨rfl, hbX⟩
                go_wp2_with fail
                refine hK.out _ _ (RS.more hHeld hbX) (fun hHeld => ?_)
                clear hK K hbX
                (try simp only [Act.put, List.setIfInBounds_toArray, List.set_cons_zero, List.set_cons_succ, List.getElem_toArray, List.getElem_cons_succ, List.getElem_cons_zero])
                refine wpAnyH_take (i := 6) (v := .bool false) rfl (by kernel_rfl) (by kernel_rfl) (by kernel_rfl) (fun _ _ _ h => h) (Or.inl ⟨by rfl, ?_⟩) hHeld ?_
                · intro w hSw; (try simp only [List.getElem_toArray, List.getElem_cons_succ, List.getElem_cons_zero]); go_simp
                (try simp only [Act.put, List.setIfInBounds_toArray, List.set_cons_zero, List.set_cons_succ, List.getElem_toArray, List.getElem_cons_succ, List.getElem_cons_zero])
                refine wpAnyH_take (i := 7) (v := .bool false) rfl (by kernel_rfl) (by kernel_rfl) (by kernel_rfl) (fun _ _ _ h => h) (Or.inl ⟨by rfl, ?_⟩) hHeld ?_
                · intro w hSw; (try simp only [List.getElem_toArray, List.getElem_cons_succ, List.getElem_cons_zero]); go_simp
                (try simp only [Act.put, List.setIfInBounds_toArray, List.set_cons_zero, List.set_cons_succ, List.getElem_toArray, List.getElem_cons_succ, List.getElem_cons_zero])
                refine wpAnyH_take (i := 8) (v := accV a) rfl (by kernel_rfl) (by kernel_rfl) (by kernel_rfl) (fun _ _ _ h => h) (Or.inl ⟨by rfl, ?_⟩) hHeld ?_
                · intro w hSw; (try simp only [List.getElem_toArray, List.getElem_cons_succ, List.getElem_cons_zero]); go_simp
                (try simp only [Act.put, List.setIfInBounds_toArray, List.set_cons_zero, List.set_cons_succ, List.getElem_toArray, List.getElem_cons_succ, List.getElem_cons_zero])
                refine wpAnyH_take (i := 9) (v := accV c) rfl (by kernel_rfl) (by kernel_rfl) (by kernel_rfl) (fun _ _ _ h => h) (Or.inl ⟨by rfl, ?_⟩) hHeld ?_
                · intro w hSw; (try simp only [List.getElem_toArray, List.getElem_cons_succ, List.getElem_cons_zero]); go_simp
                (try simp only [Act.put, List.setIfInBounds_toArray, List.set_cons_zero, List.set_cons_succ, List.getElem_toArray, List.getElem_cons_succ, List.getElem_cons_zero])
                refine wpAnyH_ready (rs := [10]) (by kernel_rfl) (by simp) ?_
                refine AllReadyH.cons rfl (fun K hK => ?_) AllReadyH.nil
                go_simp
                go_at_call 13
                (with_reducible refine (HR1.out _).mono ?_)
                rintro e wX ⟨rfl, hbX⟩
                go_wp2_with fail
                refine hK.out _ _ (RS.more hHeld hbX) (fun hHeld => ?_)
                clear hK K hbX
                (try simp only [Act.put, List.setIfInBounds_toArray, List.set_cons_zero, List.set_cons_succ, List.getElem_toArray, List.getElem_cons_succ, List.getElem_cons_zero])
                refine wpAnyH_take (i := 11) (v := .bool false) rfl (by kernel_rfl) (by kernel_rfl) (by kernel_rfl) (fun _ _ _ h => h) (Or.inl ⟨by rfl, ?_⟩) hHeld ?_
                · intro w hSw; (try simp only [List.getElem_toArray, List.getElem_cons_succ, List.getElem_cons_zero]); go_simp
                (try simp only [Act.put, List.setIfInBounds_toArray, List.set_cons_zero, List.set_cons_succ, List.getElem_toArray, List.getElem_cons_succ, List.getElem_cons_zero])
                refine wpAnyH_take (i := 12) (v := undef) rfl (by kernel_rfl) (by kernel_rfl) (by kernel_rfl) (fun _ _ _ h => h) (Or.inr ⟨by rfl, rfl⟩) hHeld ?_
                (try simp only [Act.put, List.setIfInBounds_toArray, List.set_cons_zero, List.set_cons_succ, List.getElem_toArray, List.getElem_cons_succ, List.getElem_cons_zero])
                refine wpAnyH_take (i := 13) (v := undef) rfl (by kernel_rfl) (by kernel_rfl) (by kernel_rfl) (fun _ _ _ h => h) (Or.inr ⟨by rfl, rfl⟩) hHeld ?_
                (try simp only [Act.put, List.setIfInBounds_toArray, List.set_cons_zero, List.set_cons_succ, List.getElem_toArray, List.getElem_cons_succ, List.getElem_cons_zero])
                refine wpAnyH_take (i := 14) (v := undef) rfl (by kernel_rfl) (by kernel_rfl) (by kernel_rfl) (fun _ _ _ h => h) (Or.inr ⟨by rfl, rfl⟩) hHeld ?_
                (try simp only [Act.put, List.setIfInBounds_toArray, List.set_cons_zero, List.set_cons_succ, List.getElem_toArray, List.getElem_cons_succ, List.getElem_cons_zero])
                refine wpAnyH_take (i := 15) (v := undef) rfl (by kernel_rfl) (by kernel_rfl) (by kernel_rfl) (fun _ _ _ h => h) (Or.inr ⟨by rfl, rfl⟩) hHeld ?_
                (try simp only [Act.put, List.setIfInBounds_toArray, List.set_cons_zero, List.set_cons_succ, List.getElem_toArray, List.getElem_cons_succ, List.getElem_cons_zero])
                refine wpAnyH_take (i := 16) (v := undef) rfl (by kernel_rfl) (by kernel_rfl) (by kernel_rfl) (fun _ _ _ h => h) (Or.inr ⟨by rfl, rfl⟩) hHeld ?_
                (try simp only [Act.put, List.setIfInBounds_toArray, List.set_cons_zero, List.set_cons_succ, List.getElem_toArray, List.getElem_cons_succ, List.getElem_cons_zero])
                refine wpAnyH_take (i := 17) (v := undef) rfl (by kernel_rfl) (by kernel_rfl) (by kernel_rfl) (fun _ _ _ h => h) (Or.inr ⟨by rfl, rfl⟩) hHeld ?_
                (try simp only [Act.put, List.setIfInBounds_toArray, List.set_cons_zero, List.set_cons_succ, List.getElem_toArray, List.getElem_cons_succ, List.getElem_cons_zero])
                refine wpAnyH_take (i := 18) (v := undef) rfl (by kernel_rfl) (by kernel_rfl) (by kernel_rfl) (fun _ _ _ h => h) (Or.inr ⟨by rfl, rfl⟩) hHeld ?_
                (try simp only [Act.put, List.setIfInBounds_toArray, List.set_cons_zero, List.set_cons_succ, List.getElem_toArray, List.getElem_cons_succ, List.getElem_cons_zero])
                refine wpAnyH_take (i := 19) (v := undef) rfl (by kernel_rfl) (by kernel_rfl) (by kernel_rfl) (fun _ _ _ h => h) (Or.inr ⟨by rfl, rfl⟩) hHeld ?_
                (try simp only [Act.put, List.setIfInBounds_toArray, List.set_cons_zero, List.set_cons_succ, List.getElem_toArray, List.getElem_cons_succ, List.getElem_cons_zero])
                refine wpAnyH_take (i := 20) (v := undef) rfl (by kernel_rfl) (by kernel_rfl) (by kernel_rfl) (fun _ _ _ h => h) (Or.inr ⟨by rfl, rfl⟩) hHeld ?_
                (try simp only [Act.put, List.setIfInBounds_toArray, List.set_cons_zero, List.set_cons_succ, List.getElem_toArray, List.getElem_cons_succ, List.getElem_cons_zero])
                refine wpAnyH_take (i := 21) (v := undef) rfl (by kernel_rfl) (by kernel_rfl) (by kernel_rfl) (fun _ _ _ h => h) (Or.inr ⟨by rfl, rfl⟩) hHeld ?_
                (try simp only [Act.put, List.setIfInBounds_toArray, List.set_cons_zero, List.set_cons_succ, List.getElem_toArray, List.getElem_cons_succ, List.getElem_cons_zero])
                refine wpAnyH_take (i := 22) (v := undef) rfl (by kernel_rfl) (by kernel_rfl) (by kernel_rfl) (fun _ _ _ h => h) (Or.inr ⟨by rfl, rfl⟩) hHeld ?_
                (try simp only [Act.put, List.setIfInBounds_toArray, List.set_cons_zero, List.set_cons_succ, List.getElem_toArray, List.getElem_cons_succ, List.getElem_cons_zero])
                refine wpAnyH_take (i := 23) (v := undef) rfl (by kernel_rfl) (by kernel_rfl) (by kernel_rfl) (fun _ _ _ h => h) (Or.inr ⟨by rfl, rfl⟩) hHeld ?_
                (try simp only [Act.put, List.setIfInBounds_toArray, List.set_cons_zero, List.set_cons_succ, List.getElem_toArray, List.getElem_cons_succ, List.getElem_cons_zero])
                refine wpAnyH_take (i := 24) (v := .bool false) rfl (by kernel_rfl) (by kernel_rfl) (by kernel_rfl) (fun _ _ _ h => h) (Or.inl ⟨by rfl, ?_⟩) hHeld ?_
                · intro w hSw; (try simp only [List.getElem_toArray, List.getElem_cons_succ, List.getElem_cons_zero]); go_simp
                (try simp only [Act.put, List.setIfInBounds_toArray, List.set_cons_zero, List.set_cons_succ, List.getElem_toArray, List.getElem_cons_succ, List.getElem_cons_zero])
                refine wpAnyH_take (i := 25) (v := .bool false) rfl (by kernel_rfl) (by kernel_rfl) (by kernel_rfl) (fun _ _ _ h => h) (Or.inl ⟨by rfl, ?_⟩) hHeld ?_
                · intro w hSw; (try simp only [List.getElem_toArray, List.getElem_cons_succ, List.getElem_cons_zero]); go_simp
                (try simp only [Act.put, List.setIfInBounds_toArray, List.set_cons_zero, List.set_cons_succ, List.getElem_toArray, List.getElem_cons_succ, List.getElem_cons_zero])
                refine wpAnyH_done (by kernel_rfl) ?_ _
                go_wp2
                go_roundw
                case rel => exact ⟨j + 1, q, by omega, by go_num, rfl, RS.below (by assumption), RS.ba (by assumption), ⟨(fun h => absurd (hbt.out.1 h) (by simp)), fun j' hj' hbe => by
                  by_cases e : j' = j
                  · subst e; rw [HcC.out] at hbe; rw [← Hq.out]; exact hbe
                  · exact absurd (hbt.out.2 j' (by omega) hbe) (by simp)⟩⟩
                case measure => simp [intOf]; omega
              · obtain ⟨t1, t2, t3⟩ := Hrt.out rfl
                clear t3
                go_region_held3 (RS w1 bx wr.heap.size a c) (first | assumption | exact RS.drew (by assumption) | exact RS.more (by assumption) (by assumption)) (first | (go_at_call 13; (with_reducible refine (HR1.out _).mono ?_); rintro e wX ⟨rfl, hbX⟩) | (go_at_call 13; (with_reducible refine (HR2.out _).mono ?_); rintro e wX ⟨rfl, hbX⟩))
                go_wp2
                go_roundw
                case rel => exact ⟨j + 1, q, by omega, by go_num, rfl, RS.below (by assumption), RS.ba (by assumption), ⟨(fun h => absurd (hbt.out.1 h) (by simp)), fun j' hj' hbe => by
                  by_cases e : j' = j
                  · subst e; rw [HcC.out] at hbe; rw [← Hq.out]; exact hbe
                  · exact absurd (hbt.out.2 j' (by omega) hbe) (by simp)⟩⟩
                case measure => simp [intOf]; omega
            · go_wp2_with (first | (refine load_r rfl 41 _ rfl b (off + j * 12) rfl _ hr Try.under41 Try.size41 ?_) | (refine row_alloc rfl 41 rfl _ (Try.zero41 _) ?_) | (refine store_r rfl 41 _ _ rfl wr.heap.size (accCells c).toArray rfl rfl (heap_alloc_new _ _) Try.size41 rfl (accCells_one c) ?_; rw [setRow_alloc _ _ _ _ _ rfl]) | (refine load_r_if rfl 38 _ rfl bx 3 rfl _ hka Try.under38 hsa ?_) | (refine load_r_if rfl 38 _ rfl wr.heap.size 3 rfl _ hkc Try.under38 hsc ?_))
              have hla : ∀ w', RS w1 bx wr.heap.size a c w' → midFits 12 w' (.pointer (some ⟨bx, 0, none⟩)) = true ∧ midVal 12 w' (.pointer (some ⟨bx, 0, none⟩)) = accV a := fun _ h => ⟨h.ba.fits, h.ba.val⟩
              have hlc : ∀ w', RS w1 bx wr.heap.size a c w' → midFits 12 w' (.pointer (some ⟨wr.heap.size, 0, none⟩)) = true ∧ midVal 12 w' (.pointer (some ⟨wr.heap.size, 0, none⟩)) = accV c := fun _ h => ⟨h.bb.fits, h.bb.val⟩
              have ht1 : ∀ w', RS w1 bx wr.heap.size a c w' → w'.cell? ⟨bx, 0, none⟩ = some (.int .i64 a.th) := fun _ h => h.ba.th
              have ht2 : ∀ w', RS w1 bx wr.heap.size a c w' → w'.cell? ⟨wr.heap.size, 0, none⟩ = some (.int .i64 c.th) := fun _ h => h.bb.th
              have ht3 : ∀ w', RS w1 bx wr.heap.size a c w' → w'.cell? ⟨bx, 1, none⟩ = some (.int .i64 a.ce) := fun _ h => h.ba.ce
              have ht4 : ∀ w', RS w1 bx wr.heap.size a c w' → w'.cell? ⟨wr.heap.size, 1, none⟩ = some (.int .i64 c.ce) := fun _ h => h.bb.ce
              clear hka hkc hr hbox
              cases r
              · skip
                refine wp_region_held_drew (S := RS w1 bx wr.heap.size a c) (by kernel_rfl) (RS.drew hRS) (fun hHeld => ?_)
                refine wpAnyH_take (i := 0) (v := accV a) rfl (by kernel_rfl) (by kernel_rfl) (by kernel_rfl) (fun _ _ _ h => h) (Or.inl ⟨by rfl, ?_⟩) hHeld ?_
                · intro w hSw; (try simp only [List.getElem_toArray, List.getElem_cons_zero]); go_simp
                (try simp only [Act.put, List.setIfInBounds_toArray, List.set_cons_zero, List.set_cons_succ, List.getElem_toArray, List.getElem_cons_zero])
                refine wpAnyH_take (i := 1) (v := accV c) rfl (by kernel_rfl) (by kernel_rfl) (by kernel_rfl) (fun _ _ _ h => h) (Or.inl ⟨by rfl, ?_⟩) hHeld ?_
                · intro w hSw; (try simp only [List.getElem_toArray, List.getElem_cons_succ, List.getElem_cons_zero]); go_simp
                (try simp only [Act.put, List.setIfInBounds_toArray, List.set_cons_zero, List.set_cons_succ, List.getElem_toArray, List.getElem_cons_succ, List.getElem_cons_zero])
                refine wpAnyH_take (i := 3) (v := accV c) rfl (by kernel_rfl) (by kernel_rfl) (by kernel_rfl) (fun _ _ _ h => h) (Or.inl ⟨by rfl, ?_⟩) hHeld ?_
                · intro w hSw; (try simp only [List.getElem_toArray, List.getElem_cons_succ, List.getElem_cons_zero]); go_simp
                (try simp only [Act.put, List.setIfInBounds_toArray, List.set_cons_zero, List.set_cons_succ, List.getElem_toArray, List.getElem_cons_succ, List.getElem_cons_zero])
                refine wpAnyH_take (i := 4) (v := accV a) rfl (by kernel_rfl) (by kernel_rfl) (by kernel_rfl) (fun _ _ _ h => h) (Or.inl ⟨by rfl, ?_⟩) hHeld ?_
                · intro w hSw; (try simp only [List.getElem_toArray, List.getElem_cons_succ, List.getElem_cons_zero]); go_simp
                (try simp only [Act.put, List.setIfInBounds_toArray, List.set_cons_zero, List.set_cons_succ, List.getElem_toArray, List.getElem_cons_succ, List.getElem_cons_zero])
                refine wpAnyH_ready (rs := [2]) (by kernel_rfl) (by simp) ?_
                refine AllReadyH.cons rfl (fun K hK => ?_) AllReadyH.nil
                go_simp
                go_at_call 13
                (with_reducible refine (HR1.out _).mono ?_)
                rintro e wX ⟨rfl, hbX⟩
                go_wp2_with fail
                refine hK.out _ _ (RS.more hHeld hbX) (fun hHeld => ?_)
                clear hK K hbX
                (try simp only [Act.put, List.setIfInBounds_toArray, List.set_cons_zero, List.set_cons_succ, List.getElem_toArray, List.getElem_cons_succ, List.getElem_cons_zero])
                refine wpAnyH_ready (rs := [5]) (by kernel_rfl) (by simp) ?_
                refine AllReadyH.cons rfl (fun K hK => ?_) AllReadyH.nil
                go_simp
                go_at_call 13
                (with_reducible refine (HR2.out _).mono ?_)
                rintro e wX ⟨rfl, hbX⟩
                go_wp2_with fail
                refine hK.out _ _ (RS.more hHeld hbX) (fun hHeld => ?_)
                clear hK K hbX
                (try simp only [Act.put, List.setIfInBounds_toArray, List.set_cons_zero, List.set_cons_succ, List.getElem_toArray, List.getElem_cons_succ, List.getElem_cons_zero])
                refine wpAnyH_take (i := 6) (v := .bool false) rfl (by kernel_rfl) (by kernel_rfl) (by kernel_rfl) (fun _ _ _ h => h) (Or.inl ⟨by rfl, ?_⟩) hHeld ?_
                · intro w hSw; (try simp only [List.getElem_toArray, List.getElem_cons_succ, List.getElem_cons_zero]); go_simp
                (try simp only [Act.put, List.setIfInBounds_toArray, List.set_cons_zero, List.set_cons_succ, List.getElem_toArray, List.getElem_cons_succ, List.getElem_cons_zero])
                refine wpAnyH_take (i := 7) (v := .bool false) rfl (by kernel_rfl) (by kernel_rfl) (by kernel_rfl) (fun _ _ _ h => h) (Or.inl ⟨by rfl, ?_⟩) hHeld ?_
                · intro w hSw; (try simp only [List.getElem_toArray, List.getElem_cons_succ, List.getElem_cons_zero]); go_simp
                (try simp only [Act.put, List.setIfInBounds_toArray, List.set_cons_zero, List.set_cons_succ, List.getElem_toArray, List.getElem_cons_succ, List.getElem_cons_zero])
                refine wpAnyH_take (i := 8) (v := accV a) rfl (by kernel_rfl) (by kernel_rfl) (by kernel_rfl) (fun _ _ _ h => h) (Or.inl ⟨by rfl, ?_⟩) hHeld ?_
                · intro w hSw; (try simp only [List.getElem_toArray, List.getElem_cons_succ, List.getElem_cons_zero]); go_simp
                (try simp only [Act.put, List.setIfInBounds_toArray, List.set_cons_zero, List.set_cons_succ, List.getElem_toArray, List.getElem_cons_succ, List.getElem_cons_zero])
                refine wpAnyH_take (i := 9) (v := accV c) rfl (by kernel_rfl) (by kernel_rfl) (by kernel_rfl) (fun _ _ _ h => h) (Or.inl ⟨by rfl, ?_⟩) hHeld ?_
                · intro w hSw; (try simp only [List.getElem_toArray, List.getElem_cons_succ, List.getElem_cons_zero]); go_simp
                (try simp only [Act.put, List.setIfInBounds_toArray, List.set_cons_zero, List.set_cons_succ, List.getElem_toArray, List.getElem_cons_succ, List.getElem_cons_zero])
                refine wpAnyH_ready (rs := [10]) (by kernel_rfl) (by simp) ?_
                refine AllReadyH.cons rfl (fun K hK => ?_) AllReadyH.nil
                go_simp
                go_at_call 13
                (with_reducible refine (HR1.out _).mono ?_)
                rintro e wX ⟨rfl, hbX⟩
                go_wp2_with fail
                refine hK.out _ _ (RS.more hHeld hbX) (fun hHeld => ?_)
                clear hK K hbX
                (try simp only [Act.put, List.setIfInBounds_toArray, List.set_cons_zero, List.set_cons_succ, List.getElem_toArray, List.getElem_cons_succ, List.getElem_cons_zero])
                refine wpAnyH_take (i := 11) (v := .bool false) rfl (by kernel_rfl) (by kernel_rfl) (by kernel_rfl) (fun _ _ _ h => h) (Or.inl ⟨by rfl, ?_⟩) hHeld ?_
                · intro w hSw; (try simp only [List.getElem_toArray, List.getElem_cons_succ, List.getElem_cons_zero]); go_simp
                (try simp only [Act.put, List.setIfInBounds_toArray, List.set_cons_zero, List.set_cons_succ, List.getElem_toArray, List.getElem_cons_succ, List.getElem_cons_zero])
                refine wpAnyH_take (i := 12) (v := undef) rfl (by kernel_rfl) (by kernel_rfl) (by kernel_rfl) (fun _ _ _ h => h) (Or.inr ⟨by rfl, rfl⟩) hHeld ?_
                (try simp only [Act.put, List.setIfInBounds_toArray, List.set_cons_zero, List.set_cons_succ, List.getElem_toArray, List.getElem_cons_succ, List.getElem_cons_zero])
                refine wpAnyH_take (i := 13) (v := undef) rfl (by kernel_rfl) (by kernel_rfl) (by kernel_rfl) (fun _ _ _ h => h) (Or.inr ⟨by rfl, rfl⟩) hHeld ?_
                (try simp only [Act.put, List.setIfInBounds_toArray, List.set_cons_zero, List.set_cons_succ, List.getElem_toArray, List.getElem_cons_succ, List.getElem_cons_zero])
                refine wpAnyH_take (i := 14) (v := undef) rfl (by kernel_rfl) (by kernel_rfl) (by kernel_rfl) (fun _ _ _ h => h) (Or.inr ⟨by rfl, rfl⟩) hHeld ?_
                (try simp only [Act.put, List.setIfInBounds_toArray, List.set_cons_zero, List.set_cons_succ, List.getElem_toArray, List.getElem_cons_succ, List.getElem_cons_zero])
                refine wpAnyH_take (i := 15) (v := undef) rfl (by kernel_rfl) (by kernel_rfl) (by kernel_rfl) (fun _ _ _ h => h) (Or.inr ⟨by rfl, rfl⟩) hHeld ?_
                (try simp only [Act.put, List.setIfInBounds_toArray, List.set_cons_zero, List.set_cons_succ, List.getElem_toArray, List.getElem_cons_succ, List.getElem_cons_zero])
                refine wpAnyH_take (i := 16) (v := undef) rfl (by kernel_rfl) (by kernel_rfl) (by kernel_rfl) (fun _ _ _ h => h) (Or.inr ⟨by rfl, rfl⟩) hHeld ?_
                (try simp only [Act.put, List.setIfInBounds_toArray, List.set_cons_zero, List.set_cons_succ, List.getElem_toArray, List.getElem_cons_succ, List.getElem_cons_zero])
                refine wpAnyH_take (i := 17) (v := undef) rfl (by kernel_rfl) (by kernel_rfl) (by kernel_rfl) (fun _ _ _ h => h) (Or.inr ⟨by rfl, rfl⟩) hHeld ?_
                (try simp only [Act.put, List.setIfInBounds_toArray, List.set_cons_zero, List.set_cons_succ, List.getElem_toArray, List.getElem_cons_succ, List.getElem_cons_zero])
                refine wpAnyH_take (i := 18) (v := undef) rfl (by kernel_rfl) (by kernel_rfl) (by kernel_rfl) (fun _ _ _ h => h) (Or.inr ⟨by rfl, rfl⟩) hHeld ?_
                (try simp only [Act.put, List.setIfInBounds_toArray, List.set_cons_zero, List.set_cons_succ, List.getElem_toArray, List.getElem_cons_succ, List.getElem_cons_zero])
                refine wpAnyH_take (i := 19) (v := undef) rfl (by kernel_rfl) (by kernel_rfl) (by kernel_rfl) (fun _ _ _ h => h) (Or.inr ⟨by rfl, rfl⟩) hHeld ?_
                (try simp only [Act.put, List.setIfInBounds_toArray, List.set_cons_zero, List.set_cons_succ, List.getElem_toArray, List.getElem_cons_succ, List.getElem_cons_zero])
                refine wpAnyH_take (i := 20) (v := undef) rfl (by kernel_rfl) (by kernel_rfl) (by kernel_rfl) (fun _ _ _ h => h) (Or.inr ⟨by rfl, rfl⟩) hHeld ?_
                (try simp only [Act.put, List.setIfInBounds_toArray, List.set_cons_zero, List.set_cons_succ, List.getElem_toArray, List.getElem_cons_succ, List.getElem_cons_zero])
                refine wpAnyH_take (i := 21) (v := undef) rfl (by kernel_rfl) (by kernel_rfl) (by kernel_rfl) (fun _ _ _ h => h) (Or.inr ⟨by rfl, rfl⟩) hHeld ?_
                (try simp only [Act.put, List.setIfInBounds_toArray, List.set_cons_zero, List.set_cons_succ, List.getElem_toArray, List.getElem_cons_succ, List.getElem_cons_zero])
                refine wpAnyH_take (i := 22) (v := undef) rfl (by kernel_rfl) (by kernel_rfl) (by kernel_rfl) (fun _ _ _ h => h) (Or.inr ⟨by rfl, rfl⟩) hHeld ?_
                (try simp only [Act.put, List.setIfInBounds_toArray, List.set_cons_zero, List.set_cons_succ, List.getElem_toArray, List.getElem_cons_succ, List.getElem_cons_zero])
                refine wpAnyH_take (i := 23) (v := undef) rfl (by kernel_rfl) (by kernel_rfl) (by kernel_rfl) (fun _ _ _ h => h) (Or.inr ⟨by rfl, rfl⟩) hHeld ?_
                (try simp only [Act.put, List.setIfInBounds_toArray, List.set_cons_zero, List.set_cons_succ, List.getElem_toArray, List.getElem_cons_succ, List.getElem_cons_zero])
                refine wpAnyH_take (i := 24) (v := .bool false) rfl (by kernel_rfl) (by kernel_rfl) (by kernel_rfl) (fun _ _ _ h => h) (Or.inl ⟨by rfl, ?_⟩) hHeld ?_
                · intro w hSw; (try simp only [List.getElem_toArray, List.getElem_cons_succ, List.getElem_cons_zero]); go_simp
                (try simp only [Act.put, List.setIfInBounds_toArray, List.set_cons_zero, List.set_cons_succ, List.getElem_toArray, List.getElem_cons_succ, List.getElem_cons_zero])
                refine wpAnyH_take (i := 25) (v := .bool false) rfl (by kernel_rfl) (by kernel_rfl) (by kernel_rfl) (fun _ _ _ h => h) (Or.inl ⟨by rfl, ?_⟩) hHeld ?_
                · intro w hSw; (try simp only [List.getElem_toArray, List.getElem_cons_succ, List.getElem_cons_zero]); go_simp
                (try simp only [Act.put, List.setIfInBounds_toArray, List.set_cons_zero, List.set_cons_succ, List.getElem_toArray, List.getElem_cons_succ, List.getElem_cons_zero])
                refine wpAnyH_done (by kernel_rfl) ?_ _
                go_wp2
                go_roundw
                case rel => exact ⟨j + 1, true, by omega, by go_num, rfl, RS.below (by assumption), RS.ba (by assumption), ⟨fun _ => rfl, fun _ _ _ => rfl⟩⟩
                case measure => simp [intOf]; omega
              · obtain ⟨t1, t2, t3⟩ := Hrt.out rfl
                clear t3
                go_region_held3 (RS w1 bx wr.heap.size a c) (first | assumption | exact RS.drew (by assumption) | exact RS.more (by assumption) (by assumption)) (first | (go_at_call 13; (with_reducible refine (HR1.out _).mono ?_); rintro e wX ⟨rfl, hbX⟩) | (go_at_call 13; (with_reducible refine (HR2.out _).mono ?_); rintro e wX ⟨rfl, hbX⟩))
                go_wp2
                go_roundw
                case rel => exact ⟨j + 1, true, by omega, by go_num, rfl, RS.below (by assumption), RS.ba (by assumption), ⟨fun _ => rfl, fun _ _ _ => rfl⟩⟩
                case measure => simp [intOf]; omega
          · go_wp2
            go_roundw
            case rel => exact ⟨k + 1, bt, by omega, by go_num, rfl, hb, fun i hi jj hjj hbe => by
              by_cases e : i = k
              · subst e; rw [HcA.out] at hbe; exact hbt.out.2 jj (by omega) hbe
              · exact hbt.out.1 (hbs.out i (by omega) jj hjj hbe)⟩
            case measure => simp [intOf]; omega
      · have hke := Lib.hid (show k = L.length by omega)
        have hb0 := hb1.trans (hb.mono hb1.size)
        go_wp2_with fail
        refine (First_any L base1 cap1 _ (HL1.out.more hb) HW.out hmil).mono ?_
        rintro e w3 ⟨rfl, hb3⟩
        have hb4 := hb0.trans (hb3.mono hb0.size)
        cases hps : allTo L L.length with
        | nil =>
          have efi : firstV [] = .tuple #[.agg #[.int .i64 0, .int .i64 0], .bool false] := rfl
          rw [efi]
          have hal : Below w3.heap.size w3 (w3.alloc (.cells #[.int .i64 0, .int .i64 0] 32)) := (Below.refl _ _).alloc (Nat.le_refl _) _
          have hb5 := hb4.trans (hal.mono hb4.size)
          cases bs
          all_goals
            go_wp2_with fail
            refine (alive_any _).mono ?_
            rintro e w6 ⟨rfl, hb6⟩
            go_wp2
            go_ret
            exact ⟨rfl, hb5.trans (hb6.mono hb5.size)⟩
        | cons q qs =>
          have efi : firstV (q :: qs) = .tuple #[.agg #[.int .i64 (q.1 : Int), .int .i64 (q.2 : Int)], .bool true] := rfl
          rw [efi]
          obtain ⟨p1, p2, p3⟩ := allTo_some (L := L) (p := q) (n := L.length) (by rw [hps]; simp)
          have hbe := (raceB_true p3).2.2
          have e1 : bs = true := hbs.out q.1 (by rw [hke.out]; exact p1) q.2 p2 hbe
          subst e1
          clear p1 p2 p3 hbe efi
          have hal : Below w3.heap.size w3 (w3.alloc (.cells #[.int .i64 (q.1 : Int), .int .i64 (q.2 : Int)] 32)) := (Below.refl _ _).alloc (Nat.le_refl _) _
          have hb5 := hb4.trans (hal.mono hb4.size)
          go_wp2_with fail
          refine (alive_any _).mono ?_
          rintro e w6 ⟨rfl, hb6⟩
          go_wp2
          go_ret
          exact ⟨rfl, hb5.trans (hb6.mono hb5.size)⟩
end Go.Proofs.Ytlgkkjhkanpmhaa
