import Derived.Test.YtiililidehddmaaDoorF1
namespace Go.Proofs.YtiililidehddmaaDoor
open Go.RowKit

/-- The first ring of z + 1 nodes. -/
def rowRing (E : List (Int × Int)) (z : Nat) : Option (List Nat) := (List.range 64).findSome? fun s => rLong E z [s]
/-- The reference's 'Ring'. -/
def rRing (E : List (Int × Int)) : List Nat := ((List.range (min 64 E.length)).findSome? (rowRing E)).getD []

theorem rowRing_none (E : List (Int × Int)) (z : Nat) (h : ∀ s, s < 64 → rLong E z [s] = none) : rowRing E z = none := by
  unfold rowRing
  exact findSome_none _ _ (fun i hi => by rw [List.length_range] at hi; rw [gAt_range _ _ hi]; exact h i hi)
theorem rowRing_some (E : List (Int × Int)) (z s : Nat) (hs : s < 64) (out : List Nat) (h : ∀ s', s' < s → rLong E z [s'] = none) (hp : rLong E z [s] = some out) : rowRing E z = some out := by
  unfold rowRing
  exact findSome_first _ _ s (by simpa using hs) out (fun i hi => by rw [gAt_range _ _ (by omega)]; exact h i hi) (by rw [gAt_range _ _ hs]; exact hp)
theorem rRing_none (E : List (Int × Int)) (h : ∀ z, z < min 64 E.length → rowRing E z = none) : rRing E = [] := by
  unfold rRing
  rw [findSome_none _ _ (fun i hi => by rw [List.length_range] at hi; rw [gAt_range _ _ hi]; exact h i hi)]; rfl
theorem rRing_some (E : List (Int × Int)) (z : Nat) (hz : z < min 64 E.length) (out : List Nat) (h : ∀ z', z' < z → rowRing E z' = none) (hp : rowRing E z = some out) : rRing E = out := by
  unfold rRing
  rw [findSome_first _ _ z (by simpa using hz) out (fun i hi => by rw [gAt_range _ _ (by omega)]; exact h i hi) (by rw [gAt_range _ _ hz]; exact hp)]; rfl
attribute [irreducible] rowRing rRing

/-- A list handed back. -/
def ListPost (w : World) (L : List Nat) (e : Ending) (w' : World) : Prop :=
  ∃ v base cap, e = .returned v ∧ v = .slice base L.length cap ∧ Reads w' w.heap.size base L ∧ Below w.heap.size w w'

theorem reads_one (w : World) (x : Nat) : Reads (w.alloc (.cells #[.int .i64 (x : Int)] 3)) w.heap.size (some ⟨w.heap.size, 0, none⟩) [x] := by
  intro j hj
  match j, hj with
  | 0, _ => exact ⟨w.heap.size, rfl, Nat.le_refl _, World.cell?_alloc_at _ _ _ _ rfl⟩

set_option maxHeartbeats 2000000 in
theorem rring_any (E : List (Int × Int)) (br cap : Nat) (base : Option Addr) (w : World) (hR : RD w br base cap E) (hl : E.length ≤ 1099511627776) :
    Calls Tryd.prog 14 #[.pointer (some ⟨br, 0, none⟩)] w (ListPost w (rRing E)) := by
  go_enter Tryd.func14, Tryd.ntmps14
  go_wp2_with fail
  go_loopw [3, 4, 5, 6, 24] (fun i _ _ _ _ wr => ∃ z : Nat, z ≤ 64 ∧ z ≤ E.length ∧ i = .int .i64 ((z : Int) + 1) ∧ Below w.heap.size w wr ∧ Hid (∀ z', z' < z → rowRing E z' = none)) (fun i _ _ _ _ _ => 65 - (intOf i).toNat)
  case atStart => exact ⟨0, by omega, by omega, rfl, Below.refl _ _, fun z' h => by omega⟩
  case round =>
    obtain ⟨z, hz, hzE, rfl, hb, hno⟩ := hrel
    have hc := (hR.more hb).cell
    by_cases h64 : z < 64
    · have b1 : decide ((z : Int) + 1 ≤ 64) = true := decide_eq_true (by omega)
      by_cases hE : z < E.length
      · have b2 : decide ((z : Int) + 1 ≤ (E.length : Int)) = true := decide_eq_true (by omega)
        go_wp2_with fail
        obtain ⟨wo, hwo⟩ : ∃ wo : World, wo = wr := ⟨_, rfl⟩
        go_loopw [4, 5, 6, 24] (fun i _ _ _ wi => ∃ s : Nat, s ≤ 64 ∧ i = .int .i64 s ∧ Below w.heap.size w wi ∧ Hid (∀ s', s' < s → rLong E z [s'] = none)) (fun i _ _ _ _ => 64 - (intOf i).toNat)
        case atStart => exact ⟨0, by omega, rfl, hb, fun s' h => by omega⟩
        case round =>
          obtain ⟨s, hs, rfl, hb2, hno2⟩ := hrel
          clear hwo hb hc
          by_cases hlt : s < 64
          · have hR2 := (hR.more hb2).more ((Below.refl wr.heap.size wr).alloc (Nat.le_refl _) (.cells #[.int .i64 (s : Int)] 3))
            have hrd := reads_one wr s
            have hb3 : Below w.heap.size w (wr.alloc (.cells #[.int .i64 (s : Int)] 3)) := hb2.alloc hb2.size _
            have hsz := hb2.size
            have hlong := long_any E br cap base hl z [s] (z + 1) (by simp) (by simp) (by omega) (fun i hi => by
              match i, hi with
              | 0, _ => exact hlt) wr.heap.size 1 wr.heap.size _ hR2 hrd
            have e1 : ((z + 1 : Nat) : Int) = (z : Int) + 1 := by omega
            rw [e1] at hlong
            have Hlong := Lib.hid hlong; clear hlong e1 hrd
            generalize hr : rLong E z [s] = r at *
            have Hr := Lib.hid hr; clear hr
            go_wp2_with fail
            refine Hlong.out.mono ?_
            rintro e w5 ⟨v3, rfl, hb5, ⟨bs3, n3, cp3, rfl⟩, hout⟩
            have hbF := hb3.trans (hb5.mono hb3.size)
            cases r with
            | none =>
              have Hn2 := Lib.hid (show ∀ s', s' < s + 1 → rLong E z [s'] = none from fun s' hs' => by
                by_cases e : s' = s
                · rw [e]; exact Hr.out
                · exact hno2.out s' (by omega))
              clear hout
              go_wp2
              go_roundw
              case rel => exact ⟨s + 1, by omega, by go_num, hbF, Hn2.out⟩
              case measure => simp [intOf]; omega
            | some out =>
              have Hres := Lib.hid (rRing_some E z (by omega) out hno.out (rowRing_some E z s hlt out hno2.out Hr.out))
              have Hout := Lib.hid hout; clear hout
              go_wp2
              go_ret
              rw [Hres.out]
              obtain ⟨b6, c6, e6, hr6⟩ := Hout.out out rfl
              exact ⟨_, b6, c6, rfl, e6, hr6.weak hsz, hbF⟩
          · have Hrow := Lib.hid (rowRing_none E z (fun s' hs' => hno2.out s' (by omega)))
            have Hn := Lib.hid (show ∀ z', z' < z + 1 → rowRing E z' = none from fun z' hz' => by
              by_cases e : z' = z
              · rw [e]; exact Hrow.out
              · exact hno.out z' (by omega))
            go_wp2
            go_roundw
            case rel => exact ⟨z + 1, by omega, by omega, by go_num, hb2, Hn.out⟩
            case measure => simp [intOf]; omega
      · have b2 : decide ((z : Int) + 1 ≤ (E.length : Int)) = false := decide_eq_false (by omega)
        have Hres := Lib.hid (rRing_none E (fun z' hz' => hno.out z' (by omega)))
        go_wp2
        go_ret
        rw [Hres.out]
        exact ⟨_, none, 0, rfl, rfl, fun j hj => by simp at hj, hb⟩
    · have b1 : decide ((z : Int) + 1 ≤ 64) = false := decide_eq_false (by omega)
      have Hres := Lib.hid (rRing_none E (fun z' hz' => hno.out z' (by omega)))
      go_wp2
      go_ret
      rw [Hres.out]
      exact ⟨_, none, 0, rfl, rfl, fun j hj => by simp at hj, hb⟩
end Go.Proofs.YtiililidehddmaaDoor
