/- The walks of the functions on numbers alone: ranges, remainders, powers and primes, of the program and of the reference. -/
import Derived.Test.YticmlgnolbccjaaProg
import Derived.Test.YticmlgnolbccjaaM1
import Derived.Test.YticmlgnolbccjaaP1
import Derived.Test.YticmlgnolbccjaaT1
import Derived.Deep.QuietTactic
import Derived.BigQuiet
set_option linter.unusedVariables false
set_option linter.unusedSimpArgs false
namespace Go.Proofs.Yticmlgnolbccjaa
open Go.RowKit

theorem specIn_calls (a b c : Int) (w : World) :
    Calls Try.prog 54 #[.int .i64 a, .int .i64 b, .int .i64 c] w fun e w' => e = .returned (.bool (inB a b c)) ∧ w = w' := by
  by_cases h : b ≤ a
  · go_enter Try.func54, Try.ntmps54
    go_wp2
    go_ret
    exact ⟨ret_bool (by simp [inB, h]), rfl⟩
  · go_enter Try.func54, Try.ntmps54
    go_wp2
    go_ret
    exact ⟨ret_bool (by rw [inB_false (by omega)]), rfl⟩

theorem implIn_calls (a b c : Int) (w : World) :
    Calls Try.prog 56 #[.int .i64 a, .int .i64 b, .int .i64 c] w fun e w' => e = .returned (.bool (inB a b c)) ∧ w = w' := by
  by_cases h : b ≤ a
  · go_enter Try.func56, Try.ntmps56
    go_wp2
    go_ret
    exact ⟨ret_bool (by simp [inB, h]), rfl⟩
  · go_enter Try.func56, Try.ntmps56
    go_wp2
    go_ret
    exact ⟨ret_bool (by rw [inB_false (by omega)]), rfl⟩


theorem specPlace_calls (n i : Int) (w : World) (h1 : 0 ≤ n) (h2 : n ≤ 100) (h3 : 0 ≤ i) (h4 : i ≤ 1000) :
    Calls Try.prog 131 #[.int .i64 n, .int .i64 i] w fun e w' => e = .returned (.int .i64 (place n i)) ∧ w = w' := by
  go_enter Try.func131, Try.ntmps131
  go_wp2
  · go_ret; exact ⟨ret_int (by unfold place; rw [if_pos (by assumption)]), rfl⟩
  · go_ret; exact ⟨ret_int (by unfold place; rw [if_neg (by omega)]), rfl⟩

theorem implPlace_calls (n i : Int) (w : World) (h1 : 0 ≤ n) (h2 : n ≤ 100) (h3 : 0 ≤ i) (h4 : i ≤ 1000) :
    Calls Try.prog 125 #[.int .i64 n, .int .i64 i] w fun e w' => e = .returned (.int .i64 (place n i)) ∧ w = w' := by
  go_enter Try.func125, Try.ntmps125
  go_wp2
  · go_ret; exact ⟨ret_int (by unfold place; rw [if_pos (by assumption)]), rfl⟩
  · go_ret; exact ⟨ret_int (by unfold place; rw [if_neg (by omega)]), rfl⟩

theorem specMod_calls (p x : Int) (w : World) (h1 : 1 ≤ p) (h2 : p ≤ 1000) (h3 : -4611686018427387904 ≤ x) (h4 : x ≤ 4611686018427387904) :
    Calls Try.prog 103 #[.int .i64 p, .int .i64 x] w fun e w' => e = .returned (.int .i64 (x % p)) ∧ w = w' := by
  have ht := tmod_range x p (by omega)
  have hp0 : (p == 0) = false := beq_eq_false_iff_ne.2 (by omega)
  go_enter Try.func103, Try.ntmps103
  go_wp2
  go_ret
  exact ⟨ret_int (mod_of_tmod x p), rfl⟩

theorem implRest_calls (x p : Int) (w : World) (h1 : 1 ≤ p) (h2 : p ≤ 1000) (h3 : -4611686018427387904 ≤ x) (h4 : x ≤ 4611686018427387904) :
    Calls Try.prog 119 #[.int .i64 x, .int .i64 p] w fun e w' => e = .returned (.int .i64 (x % p)) ∧ w = w' := by
  have ht := tmod_range x p (by omega)
  have hp0 : (p == 0) = false := beq_eq_false_iff_ne.2 (by omega)
  go_enter Try.func119, Try.ntmps119
  go_wp2
  go_ret
  exact ⟨ret_int (mod_of_tmod x p), rfl⟩

theorem specPower_calls (p c k : Int) (w : World) (h1 : 2 ≤ p) (h2 : p ≤ 97) (h3 : 0 ≤ c) (h4 : c ≤ p) (h5 : 0 ≤ k) (h6 : k ≤ 100000) :
    Calls Try.prog 87 #[.int .i64 p, .int .i64 c, .int .i64 k] w fun e w' => e = .returned (.int .i64 (powm p c k.toNat)) ∧ w = w' := by
  have hp0 : (p == 0) = false := beq_eq_false_iff_ne.2 (by omega)
  have h1p : (1 : Int) % p = 1 := Int.emod_eq_of_lt (by omega) (by omega)
  have hz := powm_zero p c h1
  go_enter Try.func87, Try.ntmps87
  go_wp2
  go_loop [2, 7] (fun u v => ∃ j : Nat, j ≤ k.toNat ∧ u = .int .i64 (k - j) ∧ v = .int .i64 (powm p c j)) (fun u _ => (intOf u).toNat)
  case atStart => exact ⟨0, by omega, by simp, by rw [hz, h1p]⟩
  case round =>
    obtain ⟨j, hj, rfl, rfl⟩ := hrel
    have hr := powm_range p c j (by omega)
    have hm : powm p c j * c ≤ 97 * 97 := Int.mul_le_mul (by omega) (by omega) (by omega) (by omega)
    have hm0 : 0 ≤ powm p c j * c := Int.mul_nonneg (by omega) (by omega)
    clear h1p hz
    by_cases hlt : (j : Int) < k
    · go_wp2
      go_round
      case rel => exact ⟨j + 1, by omega, by go_num, by rw [powm_succ]⟩
      case measure => simp [intOf]; omega
    · obtain rfl : (j : Int) = k := by omega
      go_wp2
      go_ret
      exact ⟨by simp, rfl⟩

theorem implPower_calls (p c k : Int) (w : World) (h1 : 2 ≤ p) (h2 : p ≤ 97) (h3 : 0 ≤ c) (h4 : c ≤ p) (h5 : 0 ≤ k) (h6 : k ≤ 100000) :
    Calls Try.prog 93 #[.int .i64 c, .int .i64 k, .int .i64 p] w fun e w' => e = .returned (.int .i64 (powm p c k.toNat)) ∧ w = w' := by
  have hp0 : (p == 0) = false := beq_eq_false_iff_ne.2 (by omega)
  have hz := powm_zero p c h1
  go_enter Try.func93, Try.ntmps93
  go_wp2
  go_loop [7, 9] (fun v u => ∃ j : Nat, j ≤ k.toNat ∧ u = .int .i64 j ∧ v = .int .i64 (powm p c j)) (fun _ u => k.toNat - (intOf u).toNat)
  case atStart => exact ⟨0, by omega, by simp, by rw [hz]⟩
  case round =>
    obtain ⟨j, hj, rfl, rfl⟩ := hrel
    have hr := powm_range p c j (by omega)
    have hm : powm p c j * c ≤ 97 * 97 := Int.mul_le_mul (by omega) (by omega) (by omega) (by omega)
    have hm0 : 0 ≤ powm p c j * c := Int.mul_nonneg (by omega) (by omega)
    clear hz
    by_cases hlt : (j : Int) < k
    · go_wp2
      go_round
      case rel => exact ⟨j + 1, by omega, by go_num, by rw [powm_succ]⟩
      case measure => simp [intOf]; omega
    · obtain rfl : (j : Int) = k := by omega
      go_wp2
      go_ret
      exact ⟨by simp, rfl⟩

theorem specPrime_calls (p : Int) (w : World) :
    Calls Try.prog 83 #[.int .i64 p] w fun e w' => e = .returned (.bool (primeB p)) ∧ w = w' := by
  go_enter Try.func83, Try.ntmps83
  go_wp2
  go_loop [3] (fun u => ∃ j : Nat, 2 ≤ j ∧ j ≤ 100 ∧ u = .int .i64 j ∧ ∀ k : Int, 2 ≤ k → k < j → p % k ≠ 0) (fun u => (100 - intOf u).toNat)
  case atStart => exact ⟨2, by omega, by omega, rfl, by omega⟩
  case round =>
    obtain ⟨j, h2, h100, rfl, hno⟩ := hrel
    have Hno := Lib.hid hno
    clear hno
    have hj0 : ((j : Int) == 0) = false := beq_eq_false_iff_ne.2 (by omega)
    by_cases hlt : (j : Int) < p ∧ j < 100
    · obtain ⟨hl1, hl2⟩ := hlt
      by_cases hd : p % (j : Int) = 0
      · have hd' : (p % (j : Int) == 0) = true := by simp [hd]
        have Hd := Lib.hid hd
        clear hd
        go_wp2
        go_ret
        exact ⟨ret_bool (primeB_false j (by omega) hl1 Hd.out).symm, rfl⟩
      · have hd' : (p % (j : Int) == 0) = false := by simp [hd]
        have Hd := Lib.hid hd
        clear hd
        go_wp2
        go_round
        case rel => exact ⟨j + 1, by omega, by omega, by go_num, fun k hk1 hk2 => by
          rcases Int.lt_or_eq_of_le (show k ≤ j by omega) with h | h
          · exact Hno.out k hk1 h
          · rw [h]; exact Hd.out⟩
        case measure => simp [intOf]; omega
    · have hv : inB p 2 97 = primeB p := by
        by_cases hp : 2 ≤ p ∧ p ≤ 97
        · rw [inB_true hp, primeB_of hp.1 hp.2 fun k h1 h2 => Hno.out k h1 (by omega)]
        · cases hq : primeB p
          · exact inB_false hp
          · exact absurd (primeB_range hq) hp
      have Hv := Lib.hid hv
      clear hv
      by_cases hl1 : (j : Int) < p
      · have hl2 : ¬ (j : Int) < 100 := by omega
        clear hlt
        go_wp2_with (go_at_call 54; refine (specIn_calls _ _ _ _).mono ?_; rintro e w' ⟨rfl, rfl⟩)
        go_ret
        exact ⟨ret_bool Hv.out, rfl⟩
      · clear hlt
        go_wp2_with (go_at_call 54; refine (specIn_calls _ _ _ _).mono ?_; rintro e w' ⟨rfl, rfl⟩)
        go_ret
        exact ⟨ret_bool Hv.out, rfl⟩

theorem implPrime_calls (p : Int) (w : World) :
    Calls Try.prog 109 #[.int .i64 p] w fun e w' => e = .returned (.bool (primeB p)) ∧ w = w' := by
  by_cases hp : 2 ≤ p ∧ p ≤ 97
  · have hd : inB p 2 97 = true := inB_true hp
    obtain ⟨hp1, hp2⟩ := hp
    go_enter Try.func109, Try.ntmps109
    go_wp2_with (go_at_call 56; refine (implIn_calls _ _ _ _).mono ?_; rintro e w' ⟨rfl, rfl⟩)
    go_loop [3] (fun u => ∃ j : Nat, 2 ≤ j ∧ j ≤ 98 ∧ u = .int .i64 j ∧ ∀ k : Int, 2 ≤ k → k < j → p % k ≠ 0) (fun u => (100 - intOf u).toNat)
    case atStart => exact ⟨2, by omega, by omega, rfl, by omega⟩
    case round =>
      obtain ⟨j, h2, h100, rfl, hno⟩ := hrel
      have Hno := Lib.hid hno
      clear hno
      have hj0 : ((j : Int) == 0) = false := beq_eq_false_iff_ne.2 (by omega)
      have hjj : (j : Int) * j ≤ 98 * 98 := Int.mul_le_mul (by omega) (by omega) (by omega) (by omega)
      have hjj0 : (j : Int) * 2 ≤ j * j := Int.mul_le_mul_of_nonneg_left (by omega) (by omega)
      by_cases hlt : (j : Int) * j ≤ p
      · by_cases hd : p % (j : Int) = 0
        · have hd' : (p % (j : Int) == 0) = true := by simp [hd]
          have Hd := Lib.hid hd
          clear hd
          go_wp2
          go_ret
          exact ⟨ret_bool (primeB_false j (by omega) (by omega) Hd.out).symm, rfl⟩
        · have hd' : (p % (j : Int) == 0) = false := by simp [hd]
          have Hd := Lib.hid hd
          clear hd
          go_wp2
          go_round
          case rel => exact ⟨j + 1, by omega, by omega, by go_num, fun k hk1 hk2 => by
            rcases Int.lt_or_eq_of_le (show k ≤ j by omega) with h | h
            · exact Hno.out k hk1 h
            · rw [h]; exact Hd.out⟩
          case measure => simp [intOf]; omega
      · go_wp2
        go_ret
        exact ⟨ret_bool (primeB_root hp1 hp2 j (by omega) (by omega) Hno.out).symm, rfl⟩
  · have hd : inB p 2 97 = false := inB_false hp
    have hq : primeB p = false := by
      cases hq : primeB p
      · rfl
      · exact absurd (primeB_range hq) hp
    have Hq := Lib.hid hq
    clear hq hp
    go_enter Try.func109, Try.ntmps109
    go_wp2_with (go_at_call 56; refine (implIn_calls _ _ _ _).mono ?_; rintro e w' ⟨rfl, rfl⟩)
    go_ret
    exact ⟨ret_bool Hq.out.symm, rfl⟩

/-- p and c are right as a prime and a loop. -/
def fieldB (p c : Int) : Bool := primeB p && inB c 0 (p - 1)

theorem implField_calls (p c : Int) (w : World) :
    Calls Try.prog 73 #[.int .i64 p, .int .i64 c] w fun e w' => e = .returned (.bool (fieldB p c)) ∧ w = w' := by
  cases hp : primeB p
  · have hf : fieldB p c = false := by simp [fieldB, hp]
    have Hf := Lib.hid hf
    clear hf
    go_enter Try.func73, Try.ntmps73
    go_wp2_with (first | (go_at_call 56; refine (implIn_calls _ _ _ _).mono ?_; rintro e w' ⟨rfl, rfl⟩) | (go_at_call 109; refine (implPrime_calls _ _).mono ?_; rintro e w' ⟨rfl, rfl⟩))
    go_ret
    exact ⟨ret_bool Hf.out.symm, rfl⟩
  · have hr := primeB_range hp
    have hf : fieldB p c = inB c 0 (p - 1) := by simp [fieldB, hp]
    have Hf := Lib.hid hf
    clear hf
    go_enter Try.func73, Try.ntmps73
    go_wp2_with (first | (go_at_call 56; refine (implIn_calls _ _ _ _).mono ?_; rintro e w' ⟨rfl, rfl⟩) | (go_at_call 109; refine (implPrime_calls _ _).mono ?_; rintro e w' ⟨rfl, rfl⟩))
    go_ret
    exact ⟨ret_bool Hf.out.symm, rfl⟩

end Go.Proofs.Yticmlgnolbccjaa
