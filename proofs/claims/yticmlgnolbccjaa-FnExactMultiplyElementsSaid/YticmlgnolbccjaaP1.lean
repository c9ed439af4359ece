/- Plain laws on numbers: primes, powers and remainders. -/
import Derived.WalkKit
set_option linter.unusedVariables false
set_option linter.unusedSimpArgs false
namespace Go.Proofs.Yticmlgnolbccjaa

/-- Is a in the range from b to c? -/
def inB (a b c : Int) : Bool := decide (b ≤ a ∧ a ≤ c)
theorem inB_true {a b c : Int} (h : b ≤ a ∧ a ≤ c) : inB a b c = true := decide_eq_true h
theorem inB_false {a b c : Int} (h : ¬ (b ≤ a ∧ a ≤ c)) : inB a b c = false := decide_eq_false h
theorem inB_iff {a b c : Int} : inB a b c = true ↔ b ≤ a ∧ a ≤ c := by unfold inB; exact decide_eq_true_iff

/-- p is a prime of at most 97. -/
def primeB (p : Int) : Bool := decide (2 ≤ p ∧ p ≤ 97) && (List.range 98).all fun k => decide (k < 2) || decide (p ≤ k) || decide (p % (k : Int) ≠ 0)

theorem primeB_range {p : Int} (h : primeB p = true) : 2 ≤ p ∧ p ≤ 97 := by
  simp only [primeB, Bool.and_eq_true, decide_eq_true_eq] at h; exact h.1

theorem primeB_none {p : Int} (h : primeB p = true) (k : Int) (h2 : 2 ≤ k) (hk : k < p) : p % k ≠ 0 := by
  have hr := primeB_range h
  simp only [primeB, Bool.and_eq_true, List.all_eq_true, List.mem_range, Bool.or_eq_true, decide_eq_true_eq] at h
  have := h.2 k.toNat (by omega)
  rw [Int.toNat_of_nonneg (by omega)] at this
  rcases this with (h | h) | h
  · omega
  · omega
  · exact h

theorem primeB_of {p : Int} (h2 : 2 ≤ p) (h97 : p ≤ 97) (h : ∀ k : Int, 2 ≤ k → k < p → p % k ≠ 0) : primeB p = true := by
  simp only [primeB, Bool.and_eq_true, List.all_eq_true, List.mem_range, Bool.or_eq_true, decide_eq_true_eq]
  refine ⟨⟨h2, h97⟩, fun k hk => ?_⟩
  by_cases a : k < 2
  · exact .inl (.inl a)
  by_cases b : p ≤ (k : Int)
  · exact .inl (.inr b)
  exact .inr (h k (by omega) (by omega))

theorem primeB_false {p : Int} (k : Int) (h2 : 2 ≤ k) (hk : k < p) (h : p % k = 0) : primeB p = false := by
  cases hp : primeB p
  · rfl
  · exact absurd h (primeB_none hp k h2 hk)

/-- A divisor up to the root is enough. -/
theorem primeB_root {p : Int} (h2 : 2 ≤ p) (h97 : p ≤ 97) (q : Int) (hq : 2 ≤ q) (hqq : p < q * q) (h : ∀ k : Int, 2 ≤ k → k < q → p % k ≠ 0) : primeB p = true := by
  refine primeB_of h2 h97 fun k hk1 hk2 h0 => ?_
  obtain ⟨m, hm⟩ := Int.dvd_of_emod_eq_zero h0
  have hm1 : 2 ≤ m := by
    rcases Int.lt_or_le m 2 with h' | h'
    · have : m ≤ 1 := by omega
      have : k * m ≤ k * 1 := Int.mul_le_mul_of_nonneg_left this (by omega)
      omega
    · exact h'
  rcases Int.lt_or_le k q with hkq | hkq
  · exact h k hk1 hkq h0
  · have hmq : m < q := by
      rcases Int.lt_or_le m q with h' | h'
      · exact h'
      · have : q * q ≤ k * m := Int.mul_le_mul hkq h' (by omega) (by omega)
        omega
    exact h m hm1 hmq (by rw [hm]; exact Int.mul_emod_left k m)

/-- A power modulo p. -/
def powm (p c : Int) (k : Nat) : Int := c ^ k % p

theorem powm_zero (p c : Int) (hp : 2 ≤ p) : powm p c 0 = 1 := by
  unfold powm; rw [Int.pow_zero]; exact Int.emod_eq_of_lt (by omega) (by omega)
theorem powm_succ (p c : Int) (k : Nat) : powm p c (k + 1) = powm p c k * c % p := by
  unfold powm
  rw [Int.pow_succ, Int.mul_emod, Int.mul_emod (c ^ k % p) c, Int.emod_emod_of_dvd _ (Int.dvd_refl p)]
theorem powm_range (p c : Int) (k : Nat) (hp : 1 ≤ p) : 0 ≤ powm p c k ∧ powm p c k < p :=
  ⟨Int.emod_nonneg _ (by omega), Int.emod_lt_of_pos _ (by omega)⟩

/-- Go's '(x % p + p) % p'. -/
theorem mod_of_tmod (x p : Int) : ((x.tmod p + p) % p) = x % p := by
  rcases Int.le_total 0 x with h | h
  · rw [Int.tmod_eq_emod_of_nonneg h]; simp
  · have : x.tmod p = - ((-x).tmod p) := by rw [Int.neg_tmod, Int.neg_neg]
    rw [this, Int.tmod_eq_emod_of_nonneg (by omega)]
    rw [Int.add_emod_right]
    have h2 : (-x) % p + p * ((-x) / p) = -x := Int.emod_add_mul_ediv (-x) p
    have h3 : x = -((-x) % p) + p * (-((-x) / p)) := by rw [Int.mul_neg]; omega
    conv => rhs; rw [h3, Int.add_mul_emod_self_left]

theorem tmod_range (x p : Int) (hp : 0 < p) : -p < x.tmod p ∧ x.tmod p < p := by
  have h1 := Int.lt_tmod_of_pos x hp
  have h2 := Int.tmod_lt_of_pos x hp
  exact ⟨by omega, h2⟩

end Go.Proofs.Yticmlgnolbccjaa
