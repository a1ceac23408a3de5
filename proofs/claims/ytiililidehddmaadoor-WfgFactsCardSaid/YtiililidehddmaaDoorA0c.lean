import Derived.Test.YtiililidehddmaaDoorA0
/- Plain: the count of the bits of a number of 64 bits, as math/bits.OnesCount64 reckons it. No Go. -/
namespace Go.Proofs.YtiililidehddmaaDoor

def popN : Nat → Nat → Nat
  | 0, _ => 0
  | n + 1, x => x % 2 + popN n (x / 2)

theorem popN_range (n : Nat) : ∀ x : Nat, ((List.range n).filter (fun i => x.testBit i)).length = popN n x := by
  induction n with
  | zero => intro x; rfl
  | succ n ih =>
    intro x
    rw [List.range_succ_eq_map, popN, ← ih (x / 2), List.filter_cons, List.filter_map]
    have e : (List.range n).filter ((fun i => x.testBit i) ∘ Nat.succ) = (List.range n).filter (fun i => (x / 2).testBit i) := by
      apply List.filter_congr
      intro i _
      simp [Nat.testBit_succ]
    rw [e]
    have h0 : x.testBit 0 = decide (x % 2 = 1) := Nat.testBit_zero x
    rw [h0]
    rcases Nat.mod_two_eq_zero_or_one x with h | h <;> rw [h] <;> simp; omega

theorem bitsOf_pop (x : Nat) : (bitsOf x).length = popN 64 x := popN_range 64 x

theorem popN_add (a b : Nat) : ∀ x, popN (a + b) x = popN a x + popN b (x / 2 ^ a) := by
  induction a with
  | zero => intro x; simp [popN]
  | succ a ih =>
    intro x
    rw [show a + 1 + b = (a + b) + 1 from by omega, popN, popN, ih, Nat.div_div_eq_div_mul, show 2 * 2 ^ a = 2 ^ (a + 1) from by rw [Nat.pow_succ]; omega]
    omega

theorem popN_mod (a : Nat) : ∀ x, popN a (x % 2 ^ a) = popN a x := by
  induction a with
  | zero => intro x; rfl
  | succ a ih =>
    intro x
    have e : 2 ^ (a + 1) = 2 * 2 ^ a := by rw [Nat.pow_succ]; omega
    have e1 : x % 2 ^ (a + 1) % 2 = x % 2 := by rw [e]; exact Nat.mod_mul_right_mod _ _ _
    have e2 : x % 2 ^ (a + 1) / 2 = x / 2 % 2 ^ a := by rw [e]; exact Nat.mod_mul_right_div_self _ _ _
    rw [popN, popN, e1, e2, ih]

/-- The mask whose bytes are all k. -/
def mask (k : Nat) : Nat → Nat
  | 0 => 0
  | n + 1 => k + 256 * mask k n

theorem and_byte (x k M : Nat) (hk : k < 256) : x &&& (k + 256 * M) = (x % 256 &&& k) + 256 * (x / 256 &&& M) := by
  have h1 : (x &&& (k + 256 * M)) % 2 ^ 8 = x % 2 ^ 8 &&& k := by
    rw [Nat.and_mod_two_pow, show (k + 256 * M) % 2 ^ 8 = k from by omega]
  have h2 : (x &&& (k + 256 * M)) / 2 ^ 8 = x / 2 ^ 8 &&& M := by
    rw [Nat.and_div_two_pow, show (k + 256 * M) / 2 ^ 8 = M from by omega]
  rw [show (256 : Nat) = 2 ^ 8 from rfl] at *
  rw [← h1, ← h2]; omega

def f1 (c : Nat) : Nat := (c / 2 &&& 0x55) + (c &&& 0x55)
def f2 (c : Nat) : Nat := (c / 4 &&& 0x33) + (c &&& 0x33)
def each (f : Nat → Nat) : Nat → Nat → Nat
  | 0, _ => 0
  | n + 1, x => f (x % 256) + 256 * each f n (x / 256)

theorem f1_fact : ∀ c, c < 256 → ∀ y, y < 2 → ((c / 2 + 128 * y) &&& 0x55) + (c &&& 0x55) = f1 c ∧ f1 c < 256 := by decide +kernel
theorem f2_fact : ∀ c, c < 256 → ∀ y, y < 4 → ((f1 c / 4 + 64 * y) &&& 0x33) + (f1 c &&& 0x33) = f2 (f1 c) ∧ f2 (f1 c) < 256 := by decide +kernel
theorem f3_fact : ∀ c, c < 256 → ∀ y, y < 5 → (f2 (f1 c) / 16 + 16 * y + f2 (f1 c)) < 256 ∧ (f2 (f1 c) / 16 + 16 * y + f2 (f1 c)) &&& 0x0f = popN 8 c ∧ popN 8 c ≤ 8 ∧ f2 (f1 c) % 16 < 5 := by decide +kernel

theorem each_lt (f : Nat → Nat) (h : ∀ c, c < 256 → f c < 256) (n : Nat) : ∀ x, each f n x < 256 ^ n := by
  induction n with
  | zero => intro x; simp [each]
  | succ n ih =>
    intro x
    have h1 := ih (x / 256)
    have h2 := h (x % 256) (Nat.mod_lt _ (by omega))
    rw [each, Nat.pow_succ]; omega

theorem step1 (n : Nat) : ∀ x, (x / 2 &&& mask 0x55 n) + (x &&& mask 0x55 n) = each f1 n x := by
  induction n with
  | zero => intro x; simp [mask, each]
  | succ n ih =>
    intro x
    rw [mask, each, and_byte _ _ _ (by omega), and_byte _ _ _ (by omega), ← ih]
    have e1 : x / 2 % 256 = x % 256 / 2 + 128 * (x / 256 % 2) := by omega
    have e2 : x / 2 / 256 = x / 256 / 2 := by omega
    have := (f1_fact (x % 256) (Nat.mod_lt _ (by omega)) (x / 256 % 2) (by omega)).1
    rw [e1, e2, ← this]; omega

theorem each1_mod (n x : Nat) : each f1 (n + 1) x % 256 = f1 (x % 256) := by
  have := (f1_fact (x % 256) (Nat.mod_lt _ (by omega)) 0 (by omega)).2
  rw [each]; omega
theorem each1_div (n x : Nat) : each f1 (n + 1) x / 256 = each f1 n (x / 256) := by
  have := (f1_fact (x % 256) (Nat.mod_lt _ (by omega)) 0 (by omega)).2
  rw [each]; omega

theorem step2 (n : Nat) : ∀ x, (each f1 n x / 4 &&& mask 0x33 n) + (each f1 n x &&& mask 0x33 n) = each (fun c => f2 (f1 c)) n x := by
  induction n with
  | zero => intro x; simp [mask, each]
  | succ n ih =>
    intro x
    rw [mask, and_byte _ _ _ (by omega), and_byte _ _ _ (by omega), each1_mod, each1_div]
    generalize hE : each f1 (n + 1) x = E
    have m1 : E % 256 = f1 (x % 256) := by rw [← hE]; exact each1_mod n x
    have d1 : E / 256 = each f1 n (x / 256) := by rw [← hE]; exact each1_div n x
    have e1 : E / 4 % 256 = E % 256 / 4 + 64 * (E / 256 % 4) := by omega
    have e2 : E / 4 / 256 = E / 256 / 4 := by omega
    have := (f2_fact (x % 256) (Nat.mod_lt _ (by omega)) (E / 256 % 4) (by omega)).1
    rw [e1, e2, m1, d1, each, ← ih]
    rw [d1] at this
    simp only [← this]; omega

theorem each2_mod (n x : Nat) : each (fun c => f2 (f1 c)) (n + 1) x % 256 = f2 (f1 (x % 256)) := by
  have := (f2_fact (x % 256) (Nat.mod_lt _ (by omega)) 0 (by omega)).2
  rw [each]; omega
theorem each2_div (n x : Nat) : each (fun c => f2 (f1 c)) (n + 1) x / 256 = each (fun c => f2 (f1 c)) n (x / 256) := by
  have := (f2_fact (x % 256) (Nat.mod_lt _ (by omega)) 0 (by omega)).2
  rw [each]; omega

theorem step3 (n : Nat) : ∀ x, (each (fun c => f2 (f1 c)) n x / 16 + each (fun c => f2 (f1 c)) n x) &&& mask 0x0f n = each (popN 8) n x := by
  induction n with
  | zero => intro x; simp [mask, each]
  | succ n ih =>
    intro x
    generalize hE : each (fun c => f2 (f1 c)) (n + 1) x = E
    have m1 : E % 256 = f2 (f1 (x % 256)) := by rw [← hE]; exact each2_mod n x
    have d1 : E / 256 = each (fun c => f2 (f1 c)) n (x / 256) := by rw [← hE]; exact each2_div n x
    have hy : E / 256 % 16 < 5 := by
      rw [d1]
      cases n with
      | zero => simp [each]
      | succ n =>
        have h1 := each2_mod n (x / 256)
        have h2 := (f3_fact (x / 256 % 256) (Nat.mod_lt _ (by omega)) 0 (by omega)).2.2.2
        rw [← h1] at h2; omega
    obtain ⟨b1, b2, _, _⟩ := f3_fact (x % 256) (Nat.mod_lt _ (by omega)) (E / 256 % 16) hy
    rw [← m1] at b1 b2
    have e1 : (E / 16 + E) % 256 = E % 256 / 16 + 16 * (E / 256 % 16) + E % 256 := by omega
    have e2 : (E / 16 + E) / 256 = E / 256 / 16 + E / 256 := by omega
    rw [mask, and_byte _ _ _ (by omega), e1, e2, b2, d1, ih, each]

theorem pop_bytes (n : Nat) : ∀ x, x < 256 ^ n → popN (8 * n) x = (match n with | 0 => 0 | m + 1 => popN 8 (x % 256) + popN (8 * m) (x / 256)) := by
  intro x _
  cases n with
  | zero => rfl
  | succ m =>
    show popN (8 * (m + 1)) x = popN 8 (x % 256) + popN (8 * m) (x / 256)
    rw [show 8 * (m + 1) = 8 + 8 * m from by omega, popN_add, ← popN_mod 8 x]

theorem pop8_le (c : Nat) (h : c < 256) : popN 8 c ≤ 8 := (f3_fact c h 0 (by omega)).2.2.1

theorem hdiv (a R m : Nat) (h : a < m) : (a + m * R) / m = R := by
  rw [Nat.add_mul_div_left _ _ (by omega), Nat.div_eq_of_lt h, Nat.zero_add]
theorem sum4 {p0 p1 p2 p3 p4 p5 p6 p7 : Nat} (h0 : p0 ≤ 8) (h1 : p1 ≤ 8) (h2 : p2 ≤ 8) (h3 : p3 ≤ 8) (h4 : p4 ≤ 8) (h5 : p5 ≤ 8) (h6 : p6 ≤ 8) (h7 : p7 ≤ 8) : (((p0) + 256 * ((p1) + 256 * ((p2) + 256 * ((p3) + 256 * ((p4) + 256 * ((p5) + 256 * ((p6) + 256 * (p7)))))))) + ((p0) + 256 * ((p1) + 256 * ((p2) + 256 * ((p3) + 256 * ((p4) + 256 * ((p5) + 256 * ((p6) + 256 * (p7)))))))) / 256) % 18446744073709551616 = (p0 + p1) + 256 * ((p1 + p2) + 256 * ((p2 + p3) + 256 * ((p3 + p4) + 256 * ((p4 + p5) + 256 * ((p5 + p6) + 256 * ((p6 + p7) + 256 * (p7))))))) := by
  have d : ((p0) + 256 * ((p1) + 256 * ((p2) + 256 * ((p3) + 256 * ((p4) + 256 * ((p5) + 256 * ((p6) + 256 * (p7)))))))) / 256 = (p1) + 256 * ((p2) + 256 * ((p3) + 256 * ((p4) + 256 * ((p5) + 256 * ((p6) + 256 * (p7)))))) := hdiv _ _ _ (by omega)
  rw [d]; exact (Nat.mod_eq_of_lt (by omega)).trans (by omega)
theorem sum5 {p0 p1 p2 p3 p4 p5 p6 p7 : Nat} (h0 : p0 ≤ 8) (h1 : p1 ≤ 8) (h2 : p2 ≤ 8) (h3 : p3 ≤ 8) (h4 : p4 ≤ 8) (h5 : p5 ≤ 8) (h6 : p6 ≤ 8) (h7 : p7 ≤ 8) : (((p0 + p1) + 256 * ((p1 + p2) + 256 * ((p2 + p3) + 256 * ((p3 + p4) + 256 * ((p4 + p5) + 256 * ((p5 + p6) + 256 * ((p6 + p7) + 256 * (p7)))))))) + ((p0 + p1) + 256 * ((p1 + p2) + 256 * ((p2 + p3) + 256 * ((p3 + p4) + 256 * ((p4 + p5) + 256 * ((p5 + p6) + 256 * ((p6 + p7) + 256 * (p7)))))))) / 65536) % 18446744073709551616 = (p0 + p1 + p2 + p3) + 256 * ((p1 + p2 + p3 + p4) + 256 * ((p2 + p3 + p4 + p5) + 256 * ((p3 + p4 + p5 + p6) + 256 * ((p4 + p5 + p6 + p7) + 256 * ((p5 + p6 + p7) + 256 * ((p6 + p7) + 256 * (p7))))))) := by
  have d : ((p0 + p1) + 256 * ((p1 + p2) + 256 * ((p2 + p3) + 256 * ((p3 + p4) + 256 * ((p4 + p5) + 256 * ((p5 + p6) + 256 * ((p6 + p7) + 256 * (p7)))))))) / 65536 = (p2 + p3) + 256 * ((p3 + p4) + 256 * ((p4 + p5) + 256 * ((p5 + p6) + 256 * ((p6 + p7) + 256 * (p7))))) := by
    have e : ((p0 + p1) + 256 * ((p1 + p2) + 256 * ((p2 + p3) + 256 * ((p3 + p4) + 256 * ((p4 + p5) + 256 * ((p5 + p6) + 256 * ((p6 + p7) + 256 * (p7)))))))) = ((p0 + p1) + 256 * (p1 + p2)) + 65536 * ((p2 + p3) + 256 * ((p3 + p4) + 256 * ((p4 + p5) + 256 * ((p5 + p6) + 256 * ((p6 + p7) + 256 * (p7)))))) := by omega
    rw [e]; exact hdiv _ _ _ (by omega)
  rw [d]; exact (Nat.mod_eq_of_lt (by omega)).trans (by omega)
theorem sum6 {p0 p1 p2 p3 p4 p5 p6 p7 : Nat} (h0 : p0 ≤ 8) (h1 : p1 ≤ 8) (h2 : p2 ≤ 8) (h3 : p3 ≤ 8) (h4 : p4 ≤ 8) (h5 : p5 ≤ 8) (h6 : p6 ≤ 8) (h7 : p7 ≤ 8) : (((p0 + p1 + p2 + p3) + 256 * ((p1 + p2 + p3 + p4) + 256 * ((p2 + p3 + p4 + p5) + 256 * ((p3 + p4 + p5 + p6) + 256 * ((p4 + p5 + p6 + p7) + 256 * ((p5 + p6 + p7) + 256 * ((p6 + p7) + 256 * (p7)))))))) + ((p0 + p1 + p2 + p3) + 256 * ((p1 + p2 + p3 + p4) + 256 * ((p2 + p3 + p4 + p5) + 256 * ((p3 + p4 + p5 + p6) + 256 * ((p4 + p5 + p6 + p7) + 256 * ((p5 + p6 + p7) + 256 * ((p6 + p7) + 256 * (p7)))))))) / 4294967296) % 18446744073709551616 = (p0 + p1 + p2 + p3 + p4 + p5 + p6 + p7) + 256 * ((p1 + p2 + p3 + p4 + p5 + p6 + p7) + 256 * ((p2 + p3 + p4 + p5 + p6 + p7) + 256 * ((p3 + p4 + p5 + p6 + p7) + 256 * ((p4 + p5 + p6 + p7) + 256 * ((p5 + p6 + p7) + 256 * ((p6 + p7) + 256 * (p7))))))) := by
  have d : ((p0 + p1 + p2 + p3) + 256 * ((p1 + p2 + p3 + p4) + 256 * ((p2 + p3 + p4 + p5) + 256 * ((p3 + p4 + p5 + p6) + 256 * ((p4 + p5 + p6 + p7) + 256 * ((p5 + p6 + p7) + 256 * ((p6 + p7) + 256 * (p7)))))))) / 4294967296 = (p4 + p5 + p6 + p7) + 256 * ((p5 + p6 + p7) + 256 * ((p6 + p7) + 256 * (p7))) := by
    have e : ((p0 + p1 + p2 + p3) + 256 * ((p1 + p2 + p3 + p4) + 256 * ((p2 + p3 + p4 + p5) + 256 * ((p3 + p4 + p5 + p6) + 256 * ((p4 + p5 + p6 + p7) + 256 * ((p5 + p6 + p7) + 256 * ((p6 + p7) + 256 * (p7)))))))) = ((p0 + p1 + p2 + p3) + 256 * ((p1 + p2 + p3 + p4) + 256 * ((p2 + p3 + p4 + p5) + 256 * (p3 + p4 + p5 + p6)))) + 4294967296 * ((p4 + p5 + p6 + p7) + 256 * ((p5 + p6 + p7) + 256 * ((p6 + p7) + 256 * (p7)))) := by omega
    rw [e]; exact hdiv _ _ _ (by omega)
  rw [d]; exact (Nat.mod_eq_of_lt (by omega)).trans (by omega)
theorem sum7 {p0 p1 p2 p3 p4 p5 p6 p7 : Nat} (h0 : p0 ≤ 8) (h1 : p1 ≤ 8) (h2 : p2 ≤ 8) (h3 : p3 ≤ 8) (h4 : p4 ≤ 8) (h5 : p5 ≤ 8) (h6 : p6 ≤ 8) (h7 : p7 ≤ 8) : ((p0 + p1 + p2 + p3 + p4 + p5 + p6 + p7) + 256 * ((p1 + p2 + p3 + p4 + p5 + p6 + p7) + 256 * ((p2 + p3 + p4 + p5 + p6 + p7) + 256 * ((p3 + p4 + p5 + p6 + p7) + 256 * ((p4 + p5 + p6 + p7) + 256 * ((p5 + p6 + p7) + 256 * ((p6 + p7) + 256 * (p7)))))))) % 128 = p0 + p1 + p2 + p3 + p4 + p5 + p6 + p7 := by
  have e : ((p0 + p1 + p2 + p3 + p4 + p5 + p6 + p7) + 256 * ((p1 + p2 + p3 + p4 + p5 + p6 + p7) + 256 * ((p2 + p3 + p4 + p5 + p6 + p7) + 256 * ((p3 + p4 + p5 + p6 + p7) + 256 * ((p4 + p5 + p6 + p7) + 256 * ((p5 + p6 + p7) + 256 * ((p6 + p7) + 256 * (p7)))))))) = (p0 + p1 + p2 + p3 + p4 + p5 + p6 + p7) + 128 * (2 * ((p1 + p2 + p3 + p4 + p5 + p6 + p7) + 256 * ((p2 + p3 + p4 + p5 + p6 + p7) + 256 * ((p3 + p4 + p5 + p6 + p7) + 256 * ((p4 + p5 + p6 + p7) + 256 * ((p5 + p6 + p7) + 256 * ((p6 + p7) + 256 * (p7)))))))) := by omega
  rw [e, Nat.add_mul_mod_self_left]; exact Nat.mod_eq_of_lt (by omega)

/-- The last steps: the bytes are added up. -/
theorem last_steps (x : Nat) :
    ∃ x4 x5 x6 : Nat, x4 = (each (popN 8) 8 x + each (popN 8) 8 x / 256) % 18446744073709551616 ∧ x5 = (x4 + x4 / 65536) % 18446744073709551616 ∧ x6 = (x5 + x5 / 4294967296) % 18446744073709551616 ∧ x6 % 128 = popN 64 x := by
  refine ⟨_, _, _, rfl, rfl, rfl, ?_⟩
  have q : ∀ k : Nat, popN 8 (x / 256 ^ k % 256) ≤ 8 := fun k => pop8_le _ (Nat.mod_lt _ (by omega))
  have e : each (popN 8) 8 x = popN 8 (x % 256) + 256 * (popN 8 (x / 256 % 256) + 256 * (popN 8 (x / 256 / 256 % 256) + 256 * (popN 8 (x / 256 / 256 / 256 % 256) + 256 * (popN 8 (x / 256 / 256 / 256 / 256 % 256) + 256 * (popN 8 (x / 256 / 256 / 256 / 256 / 256 % 256) + 256 * (popN 8 (x / 256 / 256 / 256 / 256 / 256 / 256 % 256) + 256 * (popN 8 (x / 256 / 256 / 256 / 256 / 256 / 256 / 256 % 256) + 256 * 0))))))) := rfl
  have p : popN 64 x = popN 8 (x % 256) + (popN 8 (x / 256 % 256) + (popN 8 (x / 256 / 256 % 256) + (popN 8 (x / 256 / 256 / 256 % 256) + (popN 8 (x / 256 / 256 / 256 / 256 % 256) + (popN 8 (x / 256 / 256 / 256 / 256 / 256 % 256) + (popN 8 (x / 256 / 256 / 256 / 256 / 256 / 256 % 256) + (popN 8 (x / 256 / 256 / 256 / 256 / 256 / 256 / 256 % 256) + 0))))))) := by
    have s8 : ∀ y, popN 64 y = popN 8 (y % 256) + popN 56 (y / 256) := fun y => by
      have h := popN_add 8 56 y
      rw [← popN_mod 8 y] at h
      exact h
    have s7 : ∀ y, popN 56 y = popN 8 (y % 256) + popN 48 (y / 256) := fun y => by
      have h := popN_add 8 48 y
      rw [← popN_mod 8 y] at h
      exact h
    have s6 : ∀ y, popN 48 y = popN 8 (y % 256) + popN 40 (y / 256) := fun y => by
      have h := popN_add 8 40 y
      rw [← popN_mod 8 y] at h
      exact h
    have s5 : ∀ y, popN 40 y = popN 8 (y % 256) + popN 32 (y / 256) := fun y => by
      have h := popN_add 8 32 y
      rw [← popN_mod 8 y] at h
      exact h
    have s4 : ∀ y, popN 32 y = popN 8 (y % 256) + popN 24 (y / 256) := fun y => by
      have h := popN_add 8 24 y
      rw [← popN_mod 8 y] at h
      exact h
    have s3 : ∀ y, popN 24 y = popN 8 (y % 256) + popN 16 (y / 256) := fun y => by
      have h := popN_add 8 16 y
      rw [← popN_mod 8 y] at h
      exact h
    have s2 : ∀ y, popN 16 y = popN 8 (y % 256) + popN 8 (y / 256) := fun y => by
      have h := popN_add 8 8 y
      rw [← popN_mod 8 y] at h
      exact h
    have s1 : ∀ y, popN 8 y = popN 8 (y % 256) := fun y => (popN_mod 8 y).symm
    rw [s8, s7, s6, s5, s4, s3, s2, s1 (x / 256 / 256 / 256 / 256 / 256 / 256 / 256)]; rfl
  rw [e, p]
  have b : ∀ y, popN 8 (y % 256) ≤ 8 := fun y => pop8_le _ (Nat.mod_lt _ (by omega))
  have b0 := b x
  have b1 := b (x / 256)
  have b2 := b (x / 256 / 256)
  have b3 := b (x / 256 / 256 / 256)
  have b4 := b (x / 256 / 256 / 256 / 256)
  have b5 := b (x / 256 / 256 / 256 / 256 / 256)
  have b6 := b (x / 256 / 256 / 256 / 256 / 256 / 256)
  have b7 := b (x / 256 / 256 / 256 / 256 / 256 / 256 / 256)
  generalize popN 8 (x % 256) = p0 at *
  generalize popN 8 (x / 256 % 256) = p1 at *
  generalize popN 8 (x / 256 / 256 % 256) = p2 at *
  generalize popN 8 (x / 256 / 256 / 256 % 256) = p3 at *
  generalize popN 8 (x / 256 / 256 / 256 / 256 % 256) = p4 at *
  generalize popN 8 (x / 256 / 256 / 256 / 256 / 256 % 256) = p5 at *
  generalize popN 8 (x / 256 / 256 / 256 / 256 / 256 / 256 % 256) = p6 at *
  generalize popN 8 (x / 256 / 256 / 256 / 256 / 256 / 256 / 256 % 256) = p7 at *
  clear b q e p
  rw [Nat.mul_zero, Nat.add_zero, sum4 b0 b1 b2 b3 b4 b5 b6 b7, sum5 b0 b1 b2 b3 b4 b5 b6 b7, sum6 b0 b1 b2 b3 b4 b5 b6 b7, sum7 b0 b1 b2 b3 b4 b5 b6 b7]
  omega

theorem popN_le (n : Nat) : ∀ x, popN n x ≤ n := by
  induction n with
  | zero => intro x; simp [popN]
  | succ n ih => intro x; have := ih (x / 2); rw [popN]; omega

/-- How many bits a number of 64 bits has. -/
@[irreducible] def pop64 (x : Nat) : Nat := popN 64 x
theorem pop64_eq (x : Nat) : pop64 x = popN 64 x := by unfold pop64; rfl
theorem pop64_le (x : Nat) : pop64 x ≤ 64 := by rw [pop64_eq]; exact popN_le 64 x
theorem pop64_bits (x : Nat) : pop64 x = (bitsOf x).length := by rw [pop64_eq, bitsOf_pop]

end Go.Proofs.YtiililidehddmaaDoor
