/- The walk of the reference's test whether something is a diagram. -/
import Derived.Test.YticmlgnolbccjaaD3
set_option linter.unusedVariables false
set_option linter.unusedSimpArgs false
namespace Go.Proofs.Yticmlgnolbccjaa
open Go.RowKit

namespace Dg
/-- The mate of a point is right: 0 behind the last point, else another point whose mate is this one. -/
def OkAt (d : Dg) (i : Nat) : Prop := if 2 * d.size ≤ i then d.m i = 0 else d.m i < 2 * d.size ∧ d.m i ≠ i ∧ d.m (d.m i).toNat = i
instance (d : Dg) (i : Nat) : Decidable (d.OkAt i) := by unfold OkAt; infer_instance
/-- The lines of two points cross, the first one's lesser end being first. -/
def Cross (d : Dg) (i k : Nat) : Prop := d.low i < d.low k ∧ d.low k < d.high i ∧ d.high i < d.high k
instance (d : Dg) (i k : Nat) : Decidable (d.Cross i k) := by unfold Cross; infer_instance
/-- A diagram, as the reference has it. -/
def Ok (d : Dg) : Prop := (1 ≤ d.size ∧ d.size ≤ 8) ∧ (∀ i, i < 16 → d.OkAt i) ∧ ∀ i, i < (2 * d.size).toNat → ∀ k, k < (2 * d.size).toNat → ¬ d.Cross i k
instance (d : Dg) : Decidable d.Ok := by unfold Ok; infer_instance
def okB (d : Dg) : Bool := decide d.Ok
theorem okB_true {d : Dg} (h : d.Ok) : d.okB = true := decide_eq_true h
theorem okB_false {d : Dg} (h : ¬ d.Ok) : d.okB = false := decide_eq_false h
theorem okB_iff {d : Dg} : d.okB = true ↔ d.Ok := decide_eq_true_iff
end Dg

theorem pts_of_okAt {d : Dg} (h1 : 1 ≤ d.size) (h8 : d.size ≤ 8) (hw : d.Wf) (h : ∀ j, j < 16 → d.OkAt j) : d.Pts := by
  refine ⟨by omega, h8, fun i hi => ⟨(hw.byte i).1, ?_⟩⟩
  have := h i (by omega)
  unfold Dg.OkAt at this
  rw [if_neg (by omega)] at this
  exact this.1

set_option maxHeartbeats 1000000 in
set_option maxRecDepth 100000 in
theorem specIs_calls (d : Dg) (w : World) (hw : d.Wf) :
    Calls Try.prog 70 #[.agg d.cells] w fun e w' => e = .returned (.bool d.okB) ∧ Below w.heap.size w w' := by
  by_cases hn : 1 ≤ d.size ∧ d.size ≤ 8
  · have hin : inB d.size 1 8 = true := inB_true hn
    obtain ⟨hn1, hn8⟩ := hn
    have Hw := Lib.hid hw
    clear hw
    go_enter Try.func70, Try.ntmps70
    go_wp2_with (go_at_call 54; refine (specIn_calls _ _ _ _).mono ?_; rintro e w' ⟨rfl, rfl⟩)
    go_loop [4, 5] (fun i t => ∃ k : Nat, k ≤ 16 ∧ i = .int .i64 k ∧ ∀ j, j < k → d.OkAt j) (fun i _ => 16 - (intOf i).toNat)
    case atStart => exact ⟨0, by omega, rfl, by omega⟩
    case round =>
      obtain ⟨k, hk, rfl, hall⟩ := hrel
      have Hall := Lib.hid hall
      clear hall
      by_cases hlt : k < 16
      · have hby := Hw.out.byte k
        by_cases hout : 2 * d.size ≤ (k : Int)
        · have hok : d.OkAt k ↔ d.m k = 0 := by unfold Dg.OkAt; rw [if_pos hout]
          have Hok := Lib.hid hok
          clear hok
          by_cases h0 : d.m k = 0
          · have hb0 : (d.m k != 0) = false := by simp [h0]
            have H0 := Lib.hid h0
            clear h0
            go_wp2
            go_round
            case rel => exact ⟨k + 1, by omega, by go_num, fun j hj => by
              rcases Nat.lt_or_eq_of_le (Nat.le_of_lt_succ hj) with h | rfl
              · exact Hall.out j h
              · exact Hok.out.2 H0.out⟩
            case measure => simp [intOf]; omega
          · have hb0 : (d.m k != 0) = true := by simp [h0]
            have H0 := Lib.hid h0
            clear h0
            go_wp2
            go_ret
            exact ⟨ret_bool (Dg.okB_false fun h => H0.out (Hok.out.1 (h.2.1 k hlt))).symm, (Below.refl _ w).alloc (Nat.le_refl _) _⟩
        · have hok : d.OkAt k ↔ d.m k < 2 * d.size ∧ d.m k ≠ k ∧ d.m (d.m k).toNat = k := by unfold Dg.OkAt; rw [if_neg hout]
          have Hok := Lib.hid hok
          clear hok
          have hby2 := Hw.out.byte (d.m k).toNat
          by_cases h1 : d.m k < 2 * d.size
          · by_cases h2 : d.m k = k
            · have hb2 : (d.m k == (k : Int)) = true := by simp [h2]
              have H2 := Lib.hid h2
              clear h2
              go_wp2
              go_ret
              exact ⟨ret_bool (Dg.okB_false fun h => (Hok.out.1 (h.2.1 k hlt)).2.1 H2.out).symm, (Below.refl _ w).alloc (Nat.le_refl _) _⟩
            · have hb2 : (d.m k == (k : Int)) = false := by simp [h2]
              have H2 := Lib.hid h2
              clear h2
              have hin2 : (d.m k).toNat < 16 := by omega
              by_cases h3 : d.m (d.m k).toNat = k
              · have hb3 : (d.m (d.m k).toNat != (k : Int)) = false := by simp [h3]
                have H3 := Lib.hid h3
                clear h3
                go_wp2
                go_round
                case rel => exact ⟨k + 1, by omega, by go_num, fun j hj => by
                  rcases Nat.lt_or_eq_of_le (Nat.le_of_lt_succ hj) with h | rfl
                  · exact Hall.out j h
                  · exact Hok.out.2 ⟨h1, H2.out, H3.out⟩⟩
                case measure => simp [intOf]; omega
              · have hb3 : (d.m (d.m k).toNat != (k : Int)) = true := by simp [h3]
                have H3 := Lib.hid h3
                clear h3
                go_wp2
                go_ret
                exact ⟨ret_bool (Dg.okB_false fun h => H3.out (Hok.out.1 (h.2.1 k hlt)).2.2).symm, (Below.refl _ w).alloc (Nat.le_refl _) _⟩
          · go_wp2
            go_ret
            exact ⟨ret_bool (Dg.okB_false fun h => absurd (Hok.out.1 (h.2.1 k hlt)).1 (by omega)).symm, (Below.refl _ w).alloc (Nat.le_refl _) _⟩
      · obtain rfl : k = 16 := by omega
        have hp : d.Pts := pts_of_okAt hn1 hn8 Hw.out Hall.out
        have Hp := Lib.hid hp
        clear hp
        go_wp2
        go_loopw [6, 7, 8, 9, 10, 11] (fun i _ _ _ _ _ wr => ∃ k : Nat, k ≤ (2 * d.size).toNat ∧ i = .int .i64 k ∧ (∀ j, j < k → ∀ l, l < (2 * d.size).toNat → ¬ d.Cross j l) ∧ Blk wr w.heap.size d.cells 47 ∧ Below w.heap.size w wr) (fun i _ _ _ _ _ _ => (2 * d.size).toNat - (intOf i).toNat)
        case atStart => exact ⟨0, by omega, rfl, by omega, Blk.new _ _ _, (Below.refl _ w).alloc (Nat.le_refl _) _⟩
        case round =>
          obtain ⟨k, hk, rfl, hno, hb, hbel⟩ := hrel
          have Hno := Lib.hid hno
          clear hno
          have hc := hb.cells
          have hz := hb.lt
          by_cases hlt : k < (2 * d.size).toNat
          · go_wp2_with (first | (refine load_dg rfl _ rfl _ rfl _ 47 hb ?_) | (go_at_call 106; refine (specEnds_calls _ _ _ Hp.out (by omega) (by omega)).mono ?_; rintro e w1 ⟨rfl, hb1⟩))
            have hB1 := hb.below hb1 hz
            have hbel1 := hbel.trans (hb1.mono (by omega))
            clear hc
            go_loopw [9, 10, 11] (fun i _ _ wr => ∃ l : Nat, l ≤ (2 * d.size).toNat ∧ i = .int .i64 l ∧ (∀ j, j < l → ¬ d.Cross k j) ∧ Blk wr w.heap.size d.cells 47 ∧ Below w.heap.size w wr) (fun i _ _ _ => (2 * d.size).toNat - (intOf i).toNat)
            case atStart => exact ⟨0, by omega, rfl, by omega, hB1, hbel1⟩
            case round =>
              clear hB1 hbel1 hb1 hb hbel
              obtain ⟨l, hl, rfl, hno2, hb, hbel⟩ := hrel
              have Hno2 := Lib.hid hno2
              clear hno2
              have hc := hb.cells
              have hz := hb.lt
              by_cases hlt2 : l < (2 * d.size).toNat
              · go_wp2_with (first | (refine load_dg rfl _ rfl _ rfl _ 47 hb ?_) | (go_at_call 106; refine (specEnds_calls _ _ _ Hp.out (by omega) (by omega)).mono ?_; rintro e w1 ⟨rfl, hb1⟩))
                · go_ret
                  exact ⟨ret_bool (Dg.okB_false fun h => h.2.2 k hlt l hlt2 ⟨by assumption, by assumption, by assumption⟩).symm, hbel.trans (hb1.mono (by omega))⟩
                all_goals
                  go_roundw
                  case rel => exact ⟨l + 1, by omega, by go_num, fun j hj => by
                    rcases Nat.lt_or_eq_of_le (Nat.le_of_lt_succ hj) with h | rfl
                    · exact Hno2.out j h
                    · rintro ⟨c1, c2, c3⟩; omega, hb.below hb1 hz, hbel.trans (hb1.mono (by omega))⟩
                  case measure => simp [intOf]; omega
              · go_wp2
                go_roundw
                case rel => exact ⟨k + 1, by omega, by go_num, fun j hj q hq => by
                  rcases Nat.lt_or_eq_of_le (Nat.le_of_lt_succ hj) with h | rfl
                  · exact Hno.out j h q hq
                  · exact Hno2.out q (by omega), hb, hbel⟩
                case measure => simp [intOf]; omega
          · have hok : d.Ok := ⟨⟨hn1, hn8⟩, Hall.out, fun i hi => Hno.out i (by omega)⟩
            have Hok := Lib.hid hok
            clear hok
            go_wp2
            go_ret
            exact ⟨ret_bool (Dg.okB_true Hok.out).symm, hbel⟩
  · have hin : inB d.size 1 8 = false := inB_false hn
    have hf : d.okB = false := Dg.okB_false fun h => hn h.1
    have Hf := Lib.hid hf
    clear hf hn
    go_enter Try.func70, Try.ntmps70
    go_wp2_with (go_at_call 54; refine (specIn_calls _ _ _ _).mono ?_; rintro e w' ⟨rfl, rfl⟩)
    go_ret
    exact ⟨ret_bool Hf.out.symm, (Below.refl _ w).alloc (Nat.le_refl _) _⟩

end Go.Proofs.Yticmlgnolbccjaa
