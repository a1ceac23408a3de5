import Derived.Test.YtlgkkjhkanpmhaaA15
namespace Go.Proofs.Ytlgkkjhkanpmhaa
open Go.RowKit Go.Maps Go.WideShapes

attribute [local go_sem ↓] wp_mid41 wp_look53 wp_upd53

theorem gAt_mem (l : List Nat) (k : Nat) (h : k < l.length) : gAt l k ∈ l := by
  unfold gAt; rw [List.getD_eq_getElem?_getD, List.getElem?_eq_getElem h]; exact List.getElem_mem h

set_option maxHeartbeats 4000000 in
theorem All_any (L : List Acc) (base : Option Addr) (cap : Nat) (w : World) (hL : AccAt w base L) (hW : WfL L) (hn : L.length ≤ 1000000) :
    Calls Try.prog 8 #[.slice base L.length cap] w fun e w' => ∃ v, e = .returned v ∧ w'.ownsRow w.heap.size 32 2 v (allTo L L.length).length (pcells (allTo L L.length)) ∧ Below w.heap.size w w' := by
  have H0 := Lib.hid (Grp.start L w)
  have hmm := @run_makeMap Try.prog
  go_enter Try.func8, Try.ntmps8
  go_wp2
  generalize hmb : w.heap.size = mb at *
  have Hmb := Lib.hid hmb; clear hmb
  go_loopw [3, 5, 6, 8, 12, 22] (fun s _ _ _ i _ wr => ∃ (k : Nat) (v : Value) (f : Lit → Option Value), k ≤ L.length ∧ i = .int .i64 k ∧ s = v ∧ Grp L w wr mb v (allTo L k) k f) (fun _ _ _ _ i _ _ => L.length - (intOf i).toNat)
  case atStart => exact ⟨0, _, _, by omega, rfl, rfl, by rw [allTo_zero]; exact H0.out⟩
  case round =>
    obtain ⟨k, v, f, hk, rfl, rfl, hI⟩ := hrel
    by_cases hlt : k < L.length
    · have hlen : (allTo L k).length ≤ 1000000 * k := by
        have h1 := allTo_len L k
        have h2 : k * k ≤ 1000000 * k := Nat.mul_le_mul_right _ (by omega)
        omega
      have Hs := Lib.hid (allTo_succ L k)
      have Hig := Lib.hid (inner_grp L k)
      have HW := Lib.hid hW; clear hW
      have hwf := HW.out k hlt
      obtain ⟨b, off, hbase, hr⟩ := (hL.more hI.pr.below) k hlt
      subst hbase
      have HL := Lib.hid hL; clear hL
      have Hce := Lib.hid (rfl : (aAt L k).ce = (aAt L k).ce)
      have hcec : ∀ c, c = aAt L k → c.ce = (aAt L k).ce := fun c e => by rw [e]
      obtain ⟨c, hc⟩ : ∃ c, aAt L k = c := ⟨_, rfl⟩
      rw [hc] at hwf hr Hig
      have hc2 : c.ce = (aAt L k).ce := by rw [hc]
      clear hcec Hce
      have Hc := Lib.hid hc; have Hc2 := Lib.hid hc2; clear hc hc2
      have hGle := grpL_len L k c.ce
      have HGlt := Lib.hid (grpL_lt L k c.ce)
      have hown0 := hI.own c.ce hwf.ce
      obtain ⟨ub, ucap, hu⟩ := owns_slice hown0
      have hgc : (f (.int .i64 c.ce)).getD (.slice none 0 0) = .slice ub (grpL L k c.ce).length ucap := hu
      have Hu := Lib.hid hu; clear hu hown0
      have Hgc := Lib.hid hgc; clear hgc
      generalize hA : allTo L k = A at *
      clear hA
      have HG := Lib.hid (rfl : grpL L k c.ce = grpL L k c.ce)
      obtain ⟨G, hG⟩ : ∃ G, grpL L k c.ce = G := ⟨_, rfl⟩
      clear HG
      rw [hG] at hGle HGlt Hu Hgc Hig
      have HG := Lib.hid hG; clear hG
      have hbox : BoxA (wr.alloc (.cells (accCells c).toArray 41)) wr.heap.size 41 c := BoxA.new wr 41 c
      have hI1 := hI.more ((Below.refl wr.heap.size wr).alloc (Nat.le_refl _) (.cells (accCells c).toArray 41))
      have hce := hbox.ce
      have hbv : ∀ g, u3.ownBlock = some g → g < wr.heap.size := fun g hg => (hI.pr.own.lt g hg).2
      have hz53 := zero47 (wr.alloc (.cells (accCells c).toArray 41))
      go_wp2_with (first | (refine load_r rfl 41 _ rfl b (off + k * 12) rfl _ hr Try.under41 Try.size41 ?_) | (refine row_alloc rfl 41 rfl _ (Try.zero41 _) ?_) | (refine store_r rfl 41 _ _ rfl wr.heap.size (accCells c).toArray rfl rfl (heap_alloc_new _ _) Try.size41 rfl (accCells_one c) ?_; rw [setRow_alloc _ _ _ _ _ rfl]) | (at_lookup; refine wpList_look_m rfl _ _ 53 rfl 47 law3 under53 hz53 hI1.mp rfl (.int .i64 c.ce) (.int .i64 c.ce) rfl (key3 hwf.ce) ?_; rw [Hgc.out]))
      clear hz53 hr hI
      generalize hbx : wr.heap.size = bx at *
      generalize hw1 : wr.alloc (.cells (accCells c).toArray 41) = w1 at *
      clear hw1 hbx wr
      have hbv : u3.ownBlock ≠ some bx := fun e => by have := hbv bx e; omega
      obtain ⟨wo, hwo⟩ : ∃ wo : World, wo = w1 := ⟨_, rfl⟩
      go_loopw [3, 8, 22] (fun s _ i wi => ∃ (j : Nat) (v : Value), j ≤ G.length ∧ i = .int .i64 j ∧ s = v ∧ Grp L w wi mb v (A ++ innerL L k (G.take j)) k f ∧ BoxA wi bx 41 c ∧ v.ownBlock ≠ some bx ∧ bx < wi.heap.size) (fun _ _ i _ => G.length - (intOf i).toNat)
      case atStart => exact ⟨0, _, by omega, rfl, rfl, by rw [List.take_zero, innerL_nil, List.append_nil]; exact hI1, hbox, hbv, (Array.getElem?_eq_some_iff.1 hbox.row).1⟩
      case round =>
        clear hwo wo hI1 hbox hbv hce
        obtain ⟨j, v, hj, rfl, rfl, hI, hbox, hbv, hbl⟩ := hrel
        have hown := hI.own c.ce hwf.ce
        rw [HG.out, Hu.out] at hown
        by_cases hlt2 : j < G.length
        · obtain ⟨gb, hub, hcell⟩ := icl_cell hown j hlt2
          subst hub
          have hgk := HGlt.out _ (gAt_mem G j hlt2)
          have htk := take_succ_gAt G j hlt2
          have hil := innerL_len L k (G.take j)
          have htl : (G.take j).length ≤ j := List.length_take_le _ _
          have hsn := innerL_snoc L k (G.take j) (gAt G j)
          rw [← htk, Hc.out] at hsn
          have Hsn := Lib.hid hsn; clear hsn htk
          generalize hgi : gAt G j = gi at *
          have Hgi := Lib.hid hgi; clear hgi
          have hgL : gi < L.length := by omega
          obtain ⟨b2, off2, hbase2, hr1⟩ := (HL.out.more hI.pr.below) gi hgL
          injection hbase2 with e2
          injection e2 with e2 e3
          subst e2 e3
          obtain ⟨f1, v1⟩ := mid_of (n := 12) (World.rangeAt_drew _ _ _ _ |>.2 hr1) rfl
          obtain ⟨f2, v2⟩ := mid_of (n := 12) (World.rangeAt_drew _ _ _ _ |>.2 hbox.all) rfl
          have hwf1 := (HW.out gi hgL).clk
          have Hrace := Lib.hid (fun w => Race_any (aAt L gi) c hwf1 hwf.clk w)
          generalize aAt L gi = a at *
          generalize innerL L k (G.take j) = I at *
          generalize raceB a c = r at *
          have hcl : (A ++ I).length + 1 ≤ 1099511627776 := by rw [List.length_append]; omega
          clear hr1 hil htl hown
          have hbX0 : Below wr.heap.size wr wr.drew := (Below.refl _ _).drew
          have hI2 := hI.more hbX0
          have hbox2 := hbox.keep hbX0
          go_wp2
          go_region_law (go_simp; go_at_call 13; refine (Hrace.out _).mono ?_; rintro e wX ⟨rfl, hbX⟩)
          all_goals
            have hI3 := hI2.more hbX
            have hbox3 := hbox2.keep hbX
            have hbl3 : bx < wX.heap.size := Nat.lt_of_lt_of_le hbl hbX.size
            cases r
            · go_wp2
              go_roundw
              case rel => exact ⟨j + 1, _, by omega, by go_num, rfl, by rw [Hsn.out]; simpa using hI3, hbox3, hbv, hbl3⟩
              case measure => simp [intOf]; omega
            · go_wp2_with (at_builtin; refine app_pair 25 32 Try.under25 Try.info32 rfl _ _ rfl hI3.pr.own gi k rfl rfl hcl hI3.pr.below.size ?_; intro v' w3 hown3 hg3 hat3)
              have hal : Below wX.heap.size wX (wX.alloc (.cells #[.int .i64 (gi : Int), .int .i64 (k : Int)] 32)) := (Below.refl _ _).alloc (Nat.le_refl _) _
              go_roundw
              case rel =>
                refine ⟨j + 1, v', by omega, by go_num, rfl, by rw [Hsn.out, if_pos rfl, ← List.append_assoc]; exact hI3.pushed hal hg3 hown3 hat3, ⟨(hg3.block _ (Nat.lt_of_lt_of_le hbl3 hal.size) (fun e => hbv e.symm)).trans (keeps hal hbox3.row)⟩, ?_, Nat.lt_of_lt_of_le hbl3 (Nat.le_trans hal.size hg3.size)⟩
                rcases hat3 with h | ⟨g, h, hge⟩
                · rw [h]; exact hbv
                · rw [h]; intro e; injection e with e; omega
              case measure => simp [intOf]; omega
        · have hje := Lib.hid (show G.take j = G by rw [show j = G.length by omega, List.take_length])
          have hd0 : Below wr.heap.size wr wr.drew := (Below.refl _ _).drew
          have hd1 : Below wr.heap.size wr (wr.alloc (.cells #[.int .i64 (k : Int)] 3)).drew := ((Below.refl _ _).alloc (Nat.le_refl _) _).drew
          have hI0 := hI.more hd0
          have hI1 := hI.more hd1
          have hc0 := (hbox.keep hd0).ce
          have hc1 := (hbox.keep hd1).ce
          obtain ⟨q1, q2⟩ := look_facts hI0.mp hwf.ce
          obtain ⟨q3, q4⟩ := look_facts hI1.mp hwf.ce
          rw [Hu.out] at q2 q4
          have hown1 := owns_keep hown hd1
          have hcell1 : (wr.alloc (.cells #[.int .i64 (k : Int)] 3)).drew.cell? ⟨wr.heap.size, 0, none⟩ = some (.int .i64 (k : Int)) := by
            rw [World.cell?_drew]; exact World.cell?_alloc_at _ _ _ _ rfl
          have hmn : some mb ≠ (Value.slice ub G.length ucap).ownBlock := map_ne hI1.mp hown1
          have hbn : some bx ≠ (Value.slice ub G.length ucap).ownBlock := fun e => by
            obtain ⟨cur, hcur⟩ := owns_block hown1 e.symm
            rw [(hbox.keep hd1).row] at hcur
            injection hcur with hcur
            injection hcur with _ hcur
            exact absurd hcur (by decide)
          have Hbn := Lib.hid hbn; clear hbn
          have hmp1 := hI1.mp
          have hkm : k < maxLen := by unfold maxLen; omega
          have HI1 := Lib.hid hI1; clear hI0 hI1
          have Hown1 := Lib.hid hown1; clear hown1
          have Hmn := Lib.hid hmn; clear hmn
          have Hmp1 := Lib.hid hmp1; clear hmp1
          have Hu2 := Lib.hid Hu.out
          go_wp2
          go_region_law (refine step_int_at rfl _ _ rfl (k : Int) wr.heap.size Hown1.out hcell1 rfl rfl (by omega) (by have := hd1.size; have := hI.pr.below.size; omega) ?_; intro v' w3 h1 h2 hat; obtain ⟨u1, u2, u3⟩ := upd_facts (Hmp1.out.kept h2 Hmn.out) hkm hwf.ce v'; have hc3 := h2.cell hc1 Hbn.out)
          all_goals
            go_wp2
            go_roundw
            case rel => exact ⟨k + 1, _, _, by omega, by go_num, rfl, by
              rw [hje.out, Hig.out] at hI
              rw [Hs.out]
              refine hI.stored hd1 c.ce hwf.ce Hc2.out (by rw [Hu2.out]; exact h2) (by rw [HG.out]; exact h1) ?_ (fun _ => u2) (fun _ => u3)
              rw [Hu2.out]
              rcases hat with hat | hat
              · exact .inl hat
              · exact .inr ⟨_, hat, hd1.size⟩⟩
            case measure => simp [intOf]; omega
    · have hke := Lib.hid (show k = L.length by omega)
      go_wp2
      go_ret
      exact ⟨_, rfl, by have := hI.pr.own; rw [hke.out] at this; exact this, hI.pr.below⟩
end Go.Proofs.Ytlgkkjhkanpmhaa
