import Derived.Test.YtiililidehddmaaDoorA5
import Derived.Test.YtiililidehddmaaDoorA0c
namespace Go.Proofs.YtiililidehddmaaDoor
open Go.RowKit

theorem mask55 : mask 0x55 8 = 6148914691236517205 := by decide
theorem mask33 : mask 0x33 8 = 3689348814741910323 := by decide
theorem mask0f : mask 0x0f 8 = 1085102592571150095 := by decide

theorem u64_div (x k : Nat) : (x : Int) / (k : Int) = ((x / k : Nat) : Int) := by simp

theorem ones1 (x : Nat) (hx : x < 2 ^ 64) : IntKind.u64.wrap (bits .and .u64 ((x : Int) / 2) 6148914691236517205 + bits .and .u64 (x : Int) 6148914691236517205) = ((each f1 8 x : Nat) : Int) ∧ each f1 8 x < 2 ^ 64 := by
  have hl : each f1 8 x < 2 ^ 64 := each_lt f1 (fun c hc => (f1_fact c hc 0 (by omega)).2) 8 x
  have h := step1 8 x
  rw [mask55] at h
  have e1 := u64_and_nat (x / 2) 6148914691236517205 (by omega) (by omega)
  have e2 := u64_and_nat x 6148914691236517205 hx (by omega)
  rw [show ((x : Int) / 2) = ((x / 2 : Nat) : Int) from u64_div x 2, show (6148914691236517205 : Int) = ((6148914691236517205 : Nat) : Int) from rfl, e1, e2, IntKind.wrap_u64]
  rw [← h] at hl ⊢
  exact ⟨by omega, hl⟩

theorem ones2 (x : Nat) : IntKind.u64.wrap (bits .and .u64 (((each f1 8 x : Nat) : Int) / 4) 3689348814741910323 + bits .and .u64 ((each f1 8 x : Nat) : Int) 3689348814741910323) = ((each (fun c => f2 (f1 c)) 8 x : Nat) : Int) ∧ each (fun c => f2 (f1 c)) 8 x < 2 ^ 64 := by
  have hl0 : each f1 8 x < 2 ^ 64 := each_lt f1 (fun c hc => (f1_fact c hc 0 (by omega)).2) 8 x
  have hl : each (fun c => f2 (f1 c)) 8 x < 2 ^ 64 := each_lt _ (fun c hc => (f2_fact c hc 0 (by omega)).2) 8 x
  have h := step2 8 x
  rw [mask33] at h
  generalize each f1 8 x = y at h hl0
  have e1 := u64_and_nat (y / 4) 3689348814741910323 (by omega) (by omega)
  have e2 := u64_and_nat y 3689348814741910323 hl0 (by omega)
  rw [show ((y : Int) / 4) = ((y / 4 : Nat) : Int) from u64_div y 4, show (3689348814741910323 : Int) = ((3689348814741910323 : Nat) : Int) from rfl, e1, e2, IntKind.wrap_u64]
  rw [← h] at hl ⊢
  exact ⟨by omega, hl⟩

theorem ones3_lt (x : Nat) : each (popN 8) 8 x < 2 ^ 64 := each_lt _ (fun c hc => by have := pop8_le c hc; omega) 8 x

theorem each_small (f : Nat → Nat) (h : ∀ c, c < 256 → f c < 80) (n : Nat) : ∀ x, each f (n + 1) x < 80 * 256 ^ n := by
  induction n with
  | zero => intro x; have := h (x % 256) (Nat.mod_lt _ (by omega)); simp [each]; omega
  | succ n ih =>
    intro x
    have h1 := ih (x / 256)
    have h2 := h (x % 256) (Nat.mod_lt _ (by omega))
    rw [each, Nat.pow_succ]; omega

theorem each2_small (x : Nat) : each (fun c => f2 (f1 c)) 8 x < 5 * 2 ^ 60 :=
  each_small (fun c => f2 (f1 c)) (by decide +kernel) 7 x

theorem ones3 (x : Nat) : bits .and .u64 (IntKind.u64.wrap (((each (fun c => f2 (f1 c)) 8 x : Nat) : Int) / 16 + ((each (fun c => f2 (f1 c)) 8 x : Nat) : Int))) 1085102592571150095 = ((each (popN 8) 8 x : Nat) : Int) := by
  have hl := each2_small x
  have h := step3 8 x
  rw [mask0f] at h
  generalize each (fun c => f2 (f1 c)) 8 x = y at h hl
  have e0 : IntKind.u64.wrap ((y : Int) / 16 + (y : Int)) = ((y / 16 + y : Nat) : Int) := by rw [IntKind.wrap_u64]; omega
  rw [e0, show (1085102592571150095 : Int) = ((1085102592571150095 : Nat) : Int) from rfl, u64_and_nat _ _ (by omega) (by omega), h]

theorem ones4 (x : Nat) : IntKind.u64.wrap ((x : Int) + (x : Int) / 256) = (((x + x / 256) % 18446744073709551616 : Nat) : Int) := by rw [IntKind.wrap_u64]; omega
theorem ones5 (x : Nat) : IntKind.u64.wrap ((x : Int) + (x : Int) / 65536) = (((x + x / 65536) % 18446744073709551616 : Nat) : Int) := by rw [IntKind.wrap_u64]; omega
theorem ones6 (x : Nat) : IntKind.u64.wrap ((x : Int) + (x : Int) / 4294967296) = (((x + x / 4294967296) % 18446744073709551616 : Nat) : Int) := by rw [IntKind.wrap_u64]; omega

theorem ones7 (x : Nat) (hx : x < 2 ^ 64) : bits .and .i64 (wrap64 (x : Int)) 127 = ((x % 128 : Nat) : Int) := by
  have e : (BitVec.ofInt 64 (wrap64 (x : Int))).toNat = x := by
    rw [BitVec.toNat_ofInt]
    unfold wrap64
    omega
  show IntKind.i64.wrap ((BitVec.ofInt 64 (wrap64 (x : Int)) &&& BitVec.ofInt 64 127).toNat : Int) = _
  rw [BitVec.toNat_and, e, show (BitVec.ofInt 64 127).toNat = 2 ^ 7 - 1 from rfl, Nat.and_two_pow_sub_one_eq_mod]
  exact IntWalk.i64_in _ (by omega)

set_option maxHeartbeats 1000000 in
theorem ones_any (x : Nat) (hx : x < 2 ^ 64) (w : World) :
    Calls Tryd.prog 34 #[.int .u64 x] w fun e w' => e = .returned (.int .i64 (pop64 x)) ∧ w = w' := by
  obtain ⟨x4, x5, x6, h4, h5, h6, h7⟩ := last_steps x
  rw [← pop64_eq] at h7
  have l6 : x6 < 2 ^ 64 := by rw [h6]; exact Nat.mod_lt _ (by decide)
  have e1 := (ones1 x hx).1
  have e2 := (ones2 x).1
  have e3 := ones3 x
  have e4 := ones4 (each (popN 8) 8 x)
  have e5 := ones5 x4
  have e6 := ones6 x5
  rw [← h4] at e4
  rw [← h5] at e5
  rw [← h6] at e6
  have e7 := ones7 x6 l6
  rw [h7] at e7
  clear h4 h5 h6 h7 l6
  generalize each f1 8 x = y1 at *
  generalize each (fun c => f2 (f1 c)) 8 x = y2 at *
  generalize each (popN 8) 8 x = y3 at *
  generalize pop64 x = y at *
  go_enter Tryd.func34, Tryd.ntmps34
  go_wp2
  go_ret
  exact ⟨rfl, rfl⟩
end Go.Proofs.YtiililidehddmaaDoor
