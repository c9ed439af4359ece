/- The walk of the program's test whether something is a diagram. -/
import Derived.Test.YticmlgnolbccjaaD5
import Derived.Test.YticmlgnolbccjaaE1
import Derived.Test.YticmlgnolbccjaaD4
set_option linter.unusedVariables false
set_option linter.unusedSimpArgs false
namespace Go.Proofs.Yticmlgnolbccjaa
open Go.RowKit

namespace Dg
def mlist (d : Dg) : List Value := (List.range 16).map fun i => .int .u8 (d.m i)
theorem mlist_get (d : Dg) (i : Nat) (h : i < 16) : d.mlist[i]? = some (.int .u8 (d.m i)) := by simp [mlist, h]
theorem mlist_length (d : Dg) : d.mlist.length = 16 := by simp [mlist]
/-- Mates of points are points, those behind the last point are 0. -/
def RgAt (d : Dg) (i : Nat) : Prop := if 2 * d.size ≤ i then d.m i = 0 else d.m i < 2 * d.size
/-- The codes of the text. -/
def ctxt (d : Dg) : List Nat := d.txt.map Int.toNat
/-- A diagram, as the program has it. -/
def IOk (d : Dg) : Prop := (1 ≤ d.size ∧ d.size ≤ 8) ∧ (∀ i, i < 16 → d.RgAt i) ∧ readD d.ctxt = some d
end Dg

theorem codes_strOf (xs : List Int) (h : ∀ x ∈ xs, 0 ≤ x ∧ x ≤ 255) : codes (strOfNums xs) = xs.map Int.toNat := by
  unfold codes
  rw [strOfNums_data, List.map_map]
  apply List.map_congr_left
  intro x hx
  have := h x hx
  simp [Function.comp]
  omega

theorem txt_bytes (d : Dg) : ∀ x ∈ d.txt, 0 ≤ x ∧ x ≤ 255 := by
  intro x hx
  simp only [Dg.txt, List.mem_map] at hx
  obtain ⟨k, _, rfl⟩ := hx
  unfold Dg.sign
  split <;> omega

theorem codes_txt (d : Dg) : codes (strOfNums d.txt) = d.ctxt := codes_strOf _ (txt_bytes d)
theorem size_txt (d : Dg) (h0 : 0 ≤ d.size) : ((strOfNums d.txt).size : Int) = 2 * d.size := by
  rw [strOfNums_size]; simp [Dg.txt]; omega

instance (d : Dg) (i : Nat) : Decidable (d.RgAt i) := by unfold Dg.RgAt; infer_instance
instance (d : Dg) : Decidable d.IOk := by unfold Dg.IOk; infer_instance
def Dg.iokB (d : Dg) : Bool := decide d.IOk
theorem iokB_true {d : Dg} (h : d.IOk) : d.iokB = true := decide_eq_true h
theorem iokB_false {d : Dg} (h : ¬ d.IOk) : d.iokB = false := decide_eq_false h

section
variable {ops : Array Oper} {rest : List Oper} {o : Oper} {a : Act} {w : World} {Q : Exit → Act → World → Prop}
theorem info_mate : (Try.prog.info? 43).map (·.size) = some 16 := by kernel_rfl
theorem load_mates (hgd : o.guard = none) (x : Operand) (ho : o.op = .load 43 x) (b : Nat) (hx : a.eval x = .pointer (some ⟨b, 1, none⟩)) (d : Dg) (T : TypeId) (h : Blk w b d.cells T)
    (hK : wpList Try.prog ops Q rest (a.put o.dst (.agg d.mlist.toArray)) w) : wpList Try.prog ops Q (o :: rest) a w := by
  refine wpList_load_mid hgd _ x ho b 1 hx d.mlist _ (fun j v hv => ?_) Try.underlying43 rfl (by rw [info_mate, d.mlist_length]) hK
  have hj : j < 16 := by have := (List.getElem?_eq_some_iff.1 hv).1; rwa [d.mlist_length] at this
  rw [h.cells, d.cells1 j hj, ← hv, d.mlist_get j hj]
end

theorem run_index_mates (d : Dg) (k : Nat) (hk : k < 16) (w : World) : (Instr.index 43 (.agg d.mlist.toArray) (.int .i64 (k : Int))).run Try.prog w = .ok (.int .u8 (d.m k)) w := by
  have h1 : 0 ≤ (k : Int) ∧ (k : Int) < (16 : Nat) := by omega
  have hi : ∃ i, Try.prog.info? 5 = some i ∧ i.size = 1 := by
    have := info_u8
    obtain ⟨i0, hi, hz0, hz1, hz2⟩ := info_parts this
    exact ⟨i0, hi, hz1⟩
  obtain ⟨i0, hi0, hi1⟩ := hi
  have hp : (part 5 d.mlist.toArray k).run Try.prog w = .ok (.int .u8 (d.m k)) w := run_part_plain (P := Try.prog) w (by kernel_rfl) (by simpa using d.mlist_get k hk)
  simp only [Instr.index, asIntOf, Sem.run_bind, Sem.run_pure, Result.andThen_ok, run_underlying Try.underlying43, Sem.run_ite, if_pos h1, sizeOf, typeInfo, hi0, hi1, Int.toNat_natCast, Nat.mul_one]
  simp [hi0, hi1, hp]

set_option maxHeartbeats 1000000 in
set_option maxRecDepth 100000 in
theorem implIs_calls (d : Dg) (w : World) (hw : d.Wf) :
    Calls Try.prog 89 #[.agg d.cells] w fun e w' => e = .returned (.bool d.iokB) ∧ Below w.heap.size w w' := by
  by_cases hn : 1 ≤ d.size ∧ d.size ≤ 8
  · have hin : inB d.size 1 8 = true := inB_true hn
    obtain ⟨hn1, hn8⟩ := hn
    have Hw := Lib.hid hw
    clear hw
    go_enter Try.func89, Try.ntmps89
    go_wp2_with (first | (go_at_call 56; refine (implIn_calls _ _ _ _).mono ?_; rintro e w' ⟨rfl, rfl⟩) | (refine load_mates rfl _ rfl _ rfl d _ (Blk.new _ _ _) ?_))
    go_loop [3, 4, 13] (fun _ _ i => ∃ k : Nat, k ≤ 16 ∧ i = .int .i64 k ∧ ∀ j, j < k → d.RgAt j) (fun _ _ i => 16 - (intOf i).toNat)
    case atStart => exact ⟨0, by omega, rfl, by omega⟩
    case round =>
      obtain ⟨k, hk, rfl, hall⟩ := hrel
      have Hall := Lib.hid hall
      clear hall
      by_cases hlt : k < 16
      · have hby := Hw.out.byte k
        have hix := run_index_mates d k hlt
        by_cases hout : 2 * d.size ≤ (k : Int)
        · have hok : d.RgAt k ↔ d.m k = 0 := by unfold Dg.RgAt; rw [if_pos hout]
          have Hok := Lib.hid hok
          clear hok
          by_cases h0 : d.m k = 0
          · have hb0 : (d.m k != 0) = false := by simp [h0]
            have H0 := Lib.hid h0
            clear h0
            go_wp2_with (go_at_call 124; refine (implN_calls d _ _ _ (Blk.new _ _ _).dgAt).mono ?_; rintro e w' ⟨rfl, rfl⟩)
            go_round
            case rel => exact ⟨k + 1, by omega, by go_num, fun j hj => by
              rcases Nat.lt_or_eq_of_le (Nat.le_of_lt_succ hj) with h | rfl
              · exact Hall.out j h
              · exact Hok.out.2 H0.out⟩
            case measure => simp [intOf]; omega
          · have hb0 : (d.m k != 0) = true := by simp [h0]
            have H0 := Lib.hid h0
            clear h0
            go_wp2_with (go_at_call 124; refine (implN_calls d _ _ _ (Blk.new _ _ _).dgAt).mono ?_; rintro e w' ⟨rfl, rfl⟩)
            go_ret
            exact ⟨ret_bool (iokB_false fun h => H0.out (Hok.out.1 (h.2.1 k hlt))).symm, (Below.refl _ w).alloc (Nat.le_refl _) _⟩
        · have hok : d.RgAt k ↔ d.m k < 2 * d.size := by unfold Dg.RgAt; rw [if_neg hout]
          have Hok := Lib.hid hok
          clear hok
          by_cases h1 : d.m k < 2 * d.size
          · go_wp2_with (go_at_call 124; refine (implN_calls d _ _ _ (Blk.new _ _ _).dgAt).mono ?_; rintro e w' ⟨rfl, rfl⟩)
            go_round
            case rel => exact ⟨k + 1, by omega, by go_num, fun j hj => by
              rcases Nat.lt_or_eq_of_le (Nat.le_of_lt_succ hj) with h | rfl
              · exact Hall.out j h
              · exact Hok.out.2 (by omega)⟩
            case measure => simp [intOf]; omega
          · go_wp2_with (go_at_call 124; refine (implN_calls d _ _ _ (Blk.new _ _ _).dgAt).mono ?_; rintro e w' ⟨rfl, rfl⟩)
            go_ret
            exact ⟨ret_bool (iokB_false fun h => absurd (Hok.out.1 (h.2.1 k hlt)) (by omega)).symm, (Below.refl _ w).alloc (Nat.le_refl _) _⟩
      · obtain rfl : k = 16 := by omega
        have hp : d.Pts := by
          refine ⟨by omega, hn8, fun i hi => ⟨(Hw.out.byte i).1, ?_⟩⟩
          have := Hall.out i (by omega)
          unfold Dg.RgAt at this
          rw [if_neg (by omega)] at this
          exact this
        have hsz := size_txt d (by omega)
        have hct := codes_txt d
        have Hp := Lib.hid hp
        have Hsz := Lib.hid hsz
        have Hct := Lib.hid hct
        clear hp hsz hct
        have hgd := guard_dg
        have hio : d.iokB = decide (readD d.ctxt = some d) := by
          by_cases h : readD d.ctxt = some d
          · rw [iokB_true ⟨⟨hn1, hn8⟩, Hall.out, h⟩, decide_eq_true h]
          · rw [iokB_false (fun h' => h h'.2.2), decide_eq_false h]
        have Hio := Lib.hid hio
        clear hio
        cases hrd : readD d.ctxt with
        | none =>
          have Hrd := Lib.hid hrd
          clear hrd
          go_wp2_with fail
          refine (implText_calls d _ 0 _ (Blk.new _ _ _).dgAt Hp.out).mono ?_
          rintro e w1 ⟨rfl, hb1⟩
          go_wp2_with fail
          refine (implRead_calls _ _ (by have := Hsz.out; omega)).mono ?_
          rintro e w2 ⟨rfl, hb2⟩
          rw [Hct.out, Hrd.out]
          simp only [Option.getD_none, Option.isSome_none]
          have hz1 := hb1.size
          have hz2 := hb2.size
          simp only [World.size_alloc] at hz1
          go_wp2_with (refine store_dg rfl _ _ rfl _ rfl (Dg.zero 0) rfl _ 47 (Blk.newAt _ _ _ (by simp)) rfl ?_; intro w3 hb3 ho3)
          go_ret
          refine ⟨ret_bool (by rw [Hio.out, Hrd.out]; rfl), ?_⟩
          exact (((((Below.refl _ w).alloc (Nat.le_refl _) _).trans (hb1.mono (by simp))).trans (hb2.mono (by omega))).alloc (by omega) _).trans (ho3.below (by omega))
        | some e =>
          have hew := readD_some hrd
          have hq : d.iokB = decide (e = d) := by
            rw [Hio.out, hrd]
            by_cases h : e = d
            · subst h; simp
            · simp [h]
          have heq := run_eql_dg e d hew.1 Hw.out
          have Hrd := Lib.hid hrd
          have Hq := Lib.hid hq
          clear hrd hew hq
          go_wp2_with fail
          refine (implText_calls d _ 0 _ (Blk.new _ _ _).dgAt Hp.out).mono ?_
          rintro r w1 ⟨rfl, hb1⟩
          go_wp2_with fail
          refine (implRead_calls _ _ (by have := Hsz.out; omega)).mono ?_
          rintro r w2 ⟨rfl, hb2⟩
          rw [Hct.out, Hrd.out]
          simp only [Option.getD_some, Option.isSome_some]
          have hz1 := hb1.size
          have hz2 := hb2.size
          simp only [World.size_alloc] at hz1
          have hD := ((Blk.new w d.cells 47).below hb1 (by simp)).below hb2 (by omega)
          by_cases hed : e = d
          all_goals
            have hdb : decide (e = d) = _ := (by first | exact decide_eq_true hed | exact decide_eq_false hed)
            have Hed := Lib.hid hed
            clear hed
            go_wp2_with (first | (refine store_dg rfl _ _ rfl _ rfl e rfl _ 47 (Blk.newAt _ _ _ (by simp)) rfl ?_; intro w3 hb3 ho3) | (refine load_dgw _ rfl _ rfl _ 47 hb3 rfl ?_) | (refine load_dgw _ rfl _ rfl _ 47 ((hD.alloc _).only ho3 (by omega)) rfl ?_))
            go_ret
            refine ⟨ret_bool (by rw [Hq.out]; exact hdb.symm), ?_⟩
            exact (((((Below.refl _ w).alloc (Nat.le_refl _) _).trans (hb1.mono (by simp))).trans (hb2.mono (by omega))).alloc (by omega) _).trans (ho3.below (by omega))
  · have hin : inB d.size 1 8 = false := inB_false hn
    have hf : d.iokB = false := iokB_false fun h => hn h.1
    have Hf := Lib.hid hf
    clear hf hn
    go_enter Try.func89, Try.ntmps89
    go_wp2_with (go_at_call 56; refine (implIn_calls _ _ _ _).mono ?_; rintro e w' ⟨rfl, rfl⟩)
    go_ret
    exact ⟨ret_bool Hf.out.symm, (Below.refl _ w).alloc (Nat.le_refl _) _⟩
end Go.Proofs.Yticmlgnolbccjaa
