/- Marks of elements, and how they are told. -/
import Derived.Test.YticmlgnolbccjaaX4
set_option linter.unusedVariables false
set_option linter.unusedSimpArgs false
namespace Go.Proofs.Yticmlgnolbccjaa
open Go.RowKit

theorem markTermS_calls (ts : List Tm) (k : Int) (v : Value) (base : Nat) (w : World) (h : TsOwn w base v ts) (hk0 : 0 ≤ k) (hk1 : k ≤ 1000000000) (hn : ts.length ≤ 2000000) :
    Calls Try.prog 52 #[v, .int .i64 k] w fun e w' => e = .returned (.int .i64 (k + 18 * ts.length)) ∧ TsOwn w' base v (mks k ts.length) ∧ w.grownBy w' v.ownBlock := by
  rcases h.2 with ⟨rfl, h0⟩ | ⟨g, cap, cur, rfl, hb, hg, hc, hm, hs, htk⟩
  · have hts : ts = [] := List.eq_nil_of_length_eq_zero h0
    subst hts
    go_enter Try.func52, Try.ntmps52
    go_wp2_with fail
    refine wp_loop_rounds 1 ?_
    rw [rounds_succ]
    go_wp2
    go_ret
    exact ⟨by simp, by simpa [mks] using h, ⟨rfl, rfl, rfl, Nat.le_refl _, fun _ _ _ => rfl⟩⟩
  · have hcur : cur = (tc ts ++ cur.toList.drop (ts.length * 18)).toArray := by
      rw [← htk, List.take_append_drop]
    have hB : Blk w g (tc ts ++ cur.toList.drop (ts.length * 18)).toArray 57 := by rw [← hcur]; exact hg
    refine (markTermS_blk ts k g cap _ _ w hB hk0 hk1 hn hc (by unfold maxLen at hm; omega)).mono ?_
    rintro e w' ⟨rfl, h1, ho⟩
    refine ⟨rfl, ⟨length_tc _, .inr ⟨g, cap, _, by rw [mks_len], hb, h1, by rw [mks_len]; exact hc, hm, ?_, ?_⟩⟩, ⟨ho.os, ho.tape, ho.output, by rw [ho.size]; exact Nat.le_refl _, fun j _ hj => ho.block j (fun e => hj (by rw [e]; rfl))⟩⟩
    · have := hs
      have hl := Nat.mul_le_mul_right 18 hc
      simp [length_tc, mks_len]
      omega
    · rw [mks_len]
      have : (tc (mks k ts.length)).length = ts.length * 18 := by rw [length_tc, mks_len]
      rw [← this]
      simp

set_option maxRecDepth 100000 in
theorem markElement_calls (x : El) (k : Int) (v : Value) (base : Nat) (w : World) (h : TsOwn w base v x.ts) (hk0 : 0 ≤ k) (hk1 : k ≤ 1000000000) (hn : x.ts.length ≤ 2000000) :
    Calls Try.prog 19 #[x.val v, .int .i64 k] w fun e w' => e = .returned (.int .i64 (k + 18 * x.ts.length)) ∧ TsOwn w' base v (mks k x.ts.length) ∧ w.grownBy w' v.ownBlock := by
  unfold El.val El.cells
  have hg0 := World.grownBy_alloc w (.cells #[.int .i64 x.p, .int .i64 x.c, .int .i64 x.n, v] 30) v.ownBlock
  have HC := Lib.hid (markTermS_calls x.ts k v base _ (h.alloc' (.cells #[.int .i64 x.p, .int .i64 x.c, .int .i64 x.n, v] 30)) hk0 hk1 hn)
  clear h
  go_enter Try.func19, Try.ntmps19
  go_wp2_with fail
  refine HC.out.mono ?_
  rintro e w3 ⟨rfl, h3, hg3⟩
  go_wp2_with fail
  go_ret
  exact ⟨rfl, h3, hg0.trans hg3⟩

set_option maxHeartbeats 4000000 in
set_option maxRecDepth 100000 in
theorem heldTermS_calls (n : Nat) (k : Int) (v : Value) (base : Nat) (w : World) (h : TsOwn w base v (mks k n)) (hk0 : 0 ≤ k) (hk1 : k ≤ 1000000000) (hn : n ≤ 2000000) :
    Calls Try.prog 53 #[v, .int .i64 k] w fun e w' => e = .returned (.int .i64 (k + 18 * n)) ∧ w = w' := by
  by_cases h0 : n = 0
  · subst h0
    obtain ⟨ad, cap, rfl, -, -⟩ := h.slice
    go_enter Try.func53, Try.ntmps53
    go_wp2_with fail
    refine wp_loop_rounds 1 ?_
    rw [rounds_succ]
    go_wp2
    go_ret
    exact ⟨by simp, rfl⟩
  · obtain ⟨g, cap, rfl, -, hg, hc1, hc2, hr⟩ := h.pos (fun e => h0 (by have := mks_len k n; rw [e] at this; simpa using this.symm))
    rw [mks_len] at *
    clear h h0
    go_enter Try.func53, Try.ntmps53
    go_wp2_with fail
    go_loop [1, 5] (fun s1 i => ∃ j : Nat, j ≤ n ∧ i = .int .i64 j ∧ s1 = .int .i64 (k + 18 * j)) (fun _ i => n - (intOf i).toNat)
    case atStart => exact ⟨0, by omega, rfl, by simp⟩
    case round =>
      obtain ⟨j, hj, rfl, rfl⟩ := hrel
      by_cases hlt : j < n
      · have hr1 := range_tm hr j _ (mks_get k n j hlt)
        rw [Nat.zero_add] at hr1
        generalize hK : k + 18 * (j : Int) = K at *
        have hK0 : 0 ≤ K ∧ K ≤ 1000000000 + 36000000 := by omega
        have HK := Lib.hid hK
        clear hK
        have hc0 := hr1 0 (.int .i64 K) rfl
        rw [Nat.add_zero] at hc0
        have hc17 := hr1 17 (.int .i64 (K + 17)) (by rw [Tm.k_at]; rfl)
        have Hr1 := Lib.hid hr1
        clear hr1
        go_wp2_with fail
        go_loop [1, 6] (fun s1 i => ∃ m : Nat, m ≤ 16 ∧ i = .int .i64 m ∧ s1 = .int .i64 (K + 1 + m)) (fun _ i => 16 - (intOf i).toNat)
        case atStart => exact ⟨0, by omega, rfl, by simp⟩
        case round =>
          obtain ⟨m, hm, rfl, rfl⟩ := hrel
          by_cases hltm : m < 16
          · have hcm := Hr1.out (1 + m) (.int .u8 ((K + 1 + (m : Int)) % 256)) ((mkTm K).list_at _ _ (by have := (mkTm K).d.cells1 m hltm; rw [mkTm_m _ _ hltm] at this; simpa [Dg.cells] using this))
            rw [← Nat.add_assoc] at hcm
            go_wp2_with fail
            go_round
            case rel => exact ⟨m + 1, by omega, by go_num, by go_num⟩
            case measure => simp [intOf]; omega
          · obtain rfl : m = 16 := by omega
            rw [show K + 17 = K + 1 + 16 from by omega] at hc17
            go_wp2_with fail
            go_round
            case rel => exact ⟨j + 1, by omega, by go_num, by have := HK.out; go_num⟩
            case measure => simp [intOf]; omega
      · obtain rfl : j = n := by omega
        go_wp2_with fail
        go_ret
        exact ⟨rfl, rfl⟩

set_option maxRecDepth 100000 in
theorem heldElement_calls (x : El) (n : Nat) (k : Int) (v : Value) (base : Nat) (w : World) (h : TsOwn w base v (mks k n)) (hk0 : 0 ≤ k) (hk1 : k ≤ 1000000000) (hn : n ≤ 2000000) :
    Calls Try.prog 20 #[x.val v, .int .i64 k] w fun e w' => e = .returned (.int .i64 (k + 18 * n)) ∧ Below w.heap.size w w' := by
  unfold El.val El.cells
  have hb := (Below.refl w.heap.size w).alloc (Nat.le_refl _) (.cells #[.int .i64 x.p, .int .i64 x.c, .int .i64 x.n, v] 30)
  have HC := Lib.hid (heldTermS_calls n k v base _ (h.alloc' (.cells #[.int .i64 x.p, .int .i64 x.c, .int .i64 x.n, v] 30)) hk0 hk1 hn)
  clear h
  go_enter Try.func20, Try.ntmps20
  go_wp2_with fail
  refine HC.out.mono ?_
  rintro e w3 ⟨rfl, rfl⟩
  go_wp2_with fail
  go_ret
  exact ⟨rfl, hb⟩
end Go.Proofs.Yticmlgnolbccjaa
