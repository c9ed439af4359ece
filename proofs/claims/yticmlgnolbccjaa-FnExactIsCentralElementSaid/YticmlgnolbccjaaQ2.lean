/- The walk of the reference's test whether something is a diagram. -/
import Derived.Test.YticmlgnolbccjaaQ1
import Derived.Test.YticmlgnolbccjaaChecked
import Derived.DeepKeys4
import Derived.DeepKeys5
import Derived.KernelRfl
import Derived.Maps.Keyed
import Derived.Laws.StructEq

set_option linter.unusedVariables false
set_option linter.unusedSimpArgs false
namespace Go.Proofs.Yticmlgnolbccjaa
open Go.RowKit

namespace Dg
/-- The mate of a point is right: 0 behind the last point, else another point whose mate is this one. -/
def OkAt (d : Dg) (i : Nat) : Prop := if 2 * d.size ≤ i then d.m i = 0 else d.m i < 2 * d.size ∧ d.m i ≠ i ∧ d.m (d.m i).toNat = i
instance (d : Dg) (i : Nat) : Decidable (d.OkAt i) := by unfold OkAt; infer_instance
/-- The lines of two points cross, the first one's lesser end being first. -/
def Cross (d : Dg) (i k : Nat) : Prop := d.low i < d.low k ∧ d.low k < d.high i ∧ d.high i < d.high k
instance (d : Dg) (i k : Nat) : Decidable (d.Cross i k) := by unfold Cross; infer_instance
/-- A diagram, as the reference has it. -/
def Ok (d : Dg) : Prop := (1 ≤ d.size ∧ d.size ≤ 8) ∧ (∀ i, i < 16 → d.OkAt i) ∧ ∀ i, i < (2 * d.size).toNat → ∀ k, k < (2 * d.size).toNat → ¬ d.Cross i k
instance (d : Dg) : Decidable d.Ok := by unfold Ok; infer_instance
def okB (d : Dg) : Bool := decide d.Ok
theorem okB_true {d : Dg} (h : d.Ok) : d.okB = true := decide_eq_true h
theorem okB_false {d : Dg} (h : ¬ d.Ok) : d.okB = false := decide_eq_false h
theorem okB_iff {d : Dg} : d.okB = true ↔ d.Ok := decide_eq_true_iff
end Dg

theorem pts_of_okAt {d : Dg} (h1 : 1 ≤ d.size) (h8 : d.size ≤ 8) (hw : d.Wf) (h : ∀ j, j < 16 → d.OkAt j) : d.Pts := by
  refine ⟨by omega, h8, fun i hi => ⟨(hw.byte i).1, ?_⟩⟩
  have := h i (by omega)
  unfold Dg.OkAt at this
  rw [if_neg (by omega)] at this
  exact this.1

set_option maxHeartbeats 1000000 in
set_option maxRecDepth 100000 in
theorem specIs_calls (d : Dg) (w : World) (hw : d.Wf) :
    Calls Try.prog 70 #[.agg d.cells] w fun e w' => e = .returned (.bool d.okB) ∧ Below w.heap.size w w' := by
  by_cases hn : 1 ≤ d.size ∧ d.size ≤ 8
  · have hin : inB d.size 1 8 = true := inB_true hn
    obtain ⟨hn1, hn8⟩ := hn
    have Hw := Lib.hid hw
    clear hw
    go_enter Try.func70, Try.ntmps70
    go_wp2_with (go_at_call 54; refine (specIn_calls _ _ _ _).mono ?_; rintro e w' ⟨rfl, rfl⟩)
    go_loop [4, 5] (fun i t => ∃ k : Nat, k ≤ 16 ∧ i = .int .i64 k ∧ ∀ j, j < k → d.OkAt j) (fun i _ => 16 - (intOf i).toNat)
    case atStart => exact ⟨0, by omega, rfl, by omega⟩
    case round =>
      obtain ⟨k, hk, rfl, hall⟩ := hrel
      have Hall := Lib.hid hall
      clear hall
      by_cases hlt : k < 16
      · have hby := Hw.out.byte k
        by_cases hout : 2 * d.size ≤ (k : Int)
        · have hok : d.OkAt k ↔ d.m k = 0 := by unfold Dg.OkAt; rw [if_pos hout]
          have Hok := Lib.hid hok
          clear hok
          by_cases h0 : d.m k = 0
          · have hb0 : (d.m k != 0) = false := by simp [h0]
            have H0 := Lib.hid h0
            clear h0
            go_wp2
            go_round
            case rel => exact ⟨k + 1, by omega, by go_num, fun j hj => by
              rcases Nat.lt_or_eq_of_le (Nat.le_of_lt_succ hj) with h | rfl
              · exact Hall.out j h
              · exact Hok.out.2 H0.out⟩
            case measure => simp [intOf]; omega
          · have hb0 : (d.m k != 0) = true := by simp [h0]
            have H0 := Lib.hid h0
            clear h0
            go_wp2
            go_ret
            exact ⟨ret_bool (Dg.okB_false fun h => H0.out (Hok.out.1 (h.2.1 k hlt))).symm, (Below.refl _ w).alloc (Nat.le_refl _) _⟩
        · have hok : d.OkAt k ↔ d.m k < 2 * d.size ∧ d.m k ≠ k ∧ d.m (d.m k).toNat = k := by unfold Dg.OkAt; rw [if_neg hout]
          have Hok := Lib.hid hok
          clear hok
          have hby2 := Hw.out.byte (d.m k).toNat
          by_cases h1 : d.m k < 2 * d.size
          · by_cases h2 : d.m k = k
            · have hb2 : (d.m k == (k : Int)) = true := by simp [h2]
              have H2 := Lib.hid h2
              clear h2
              go_wp2
              go_ret
              exact ⟨ret_bool (Dg.okB_false fun h => (Hok.out.1 (h.2.1 k hlt)).2.1 H2.out).symm, (Below.refl _ w).alloc (Nat.le_refl _) _⟩
            · have hb2 : (d.m k == (k : Int)) = false := by simp [h2]
              have H2 := Lib.hid h2
              clear h2
              have hin2 : (d.m k).toNat < 16 := by omega
              by_cases h3 : d.m (d.m k).toNat = k
              · have hb3 : (d.m (d.m k).toNat != (k : Int)) = false := by simp [h3]
                have H3 := Lib.hid h3
                clear h3
                go_wp2
                go_round
                case rel => exact ⟨k + 1, by omega, by go_num, fun j hj => by
                  rcases Nat.lt_or_eq_of_le (Nat.le_of_lt_succ hj) with h | rfl
                  · exact Hall.out j h
                  · exact Hok.out.2 ⟨h1, H2.out, H3.out⟩⟩
                case measure => simp [intOf]; omega
              · have hb3 : (d.m (d.m k).toNat != (k : Int)) = true := by simp [h3]
                have H3 := Lib.hid h3
                clear h3
                go_wp2
                go_ret
                exact ⟨ret_bool (Dg.okB_false fun h => H3.out (Hok.out.1 (h.2.1 k hlt)).2.2).symm, (Below.refl _ w).alloc (Nat.le_refl _) _⟩
          · go_wp2
            go_ret
            exact ⟨ret_bool (Dg.okB_false fun h => absurd (Hok.out.1 (h.2.1 k hlt)).1 (by omega)).symm, (Below.refl _ w).alloc (Nat.le_refl _) _⟩
      · obtain rfl : k = 16 := by omega
        have hp : d.Pts := pts_of_okAt hn1 hn8 Hw.out Hall.out
        have Hp := Lib.hid hp
        clear hp
        go_wp2
        go_loopw [6, 7, 8, 9, 10, 11] (fun i _ _ _ _ _ wr => ∃ k : Nat, k ≤ (2 * d.size).toNat ∧ i = .int .i64 k ∧ (∀ j, j < k → ∀ l, l < (2 * d.size).toNat → ¬ d.Cross j l) ∧ Blk wr w.heap.size d.cells 47 ∧ Below w.heap.size w wr) (fun i _ _ _ _ _ _ => (2 * d.size).toNat - (intOf i).toNat)
        case atStart => exact ⟨0, by omega, rfl, by omega, Blk.new _ _ _, (Below.refl _ w).alloc (Nat.le_refl _) _⟩
        case round =>
          obtain ⟨k, hk, rfl, hno, hb, hbel⟩ := hrel
          have Hno := Lib.hid hno
          clear hno
          have hc := hb.cells
          have hz := hb.lt
          by_cases hlt : k < (2 * d.size).toNat
          · go_wp2_with (first | (refine load_dg rfl _ rfl _ rfl _ 47 hb ?_) | (go_at_call 106; refine (specEnds_calls _ _ _ Hp.out (by omega) (by omega)).mono ?_; rintro e w1 ⟨rfl, hb1⟩))
            have hB1 := hb.below hb1 hz
            have hbel1 := hbel.trans (hb1.mono (by omega))
            clear hc
            go_loopw [9, 10, 11] (fun i _ _ wr => ∃ l : Nat, l ≤ (2 * d.size).toNat ∧ i = .int .i64 l ∧ (∀ j, j < l → ¬ d.Cross k j) ∧ Blk wr w.heap.size d.cells 47 ∧ Below w.heap.size w wr) (fun i _ _ _ => (2 * d.size).toNat - (intOf i).toNat)
            case atStart => exact ⟨0, by omega, rfl, by omega, hB1, hbel1⟩
            case round =>
              clear hB1 hbel1 hb1 hb hbel
              obtain ⟨l, hl, rfl, hno2, hb, hbel⟩ := hrel
              have Hno2 := Lib.hid hno2
              clear hno2
              have hc := hb.cells
              have hz := hb.lt
              by_cases hlt2 : l < (2 * d.size).toNat
              · go_wp2_with (first | (refine load_dg rfl _ rfl _ rfl _ 47 hb ?_) | (go_at_call 106; refine (specEnds_calls _ _ _ Hp.out (by omega) (by omega)).mono ?_; rintro e w1 ⟨rfl, hb1⟩))
                · go_ret
                  exact ⟨ret_bool (Dg.okB_false fun h => h.2.2 k hlt l hlt2 ⟨by assumption, by assumption, by assumption⟩).symm, hbel.trans (hb1.mono (by omega))⟩
                all_goals
                  go_roundw
                  case rel => exact ⟨l + 1, by omega, by go_num, fun j hj => by
                    rcases Nat.lt_or_eq_of_le (Nat.le_of_lt_succ hj) with h | rfl
                    · exact Hno2.out j h
                    · rintro ⟨c1, c2, c3⟩; omega, hb.below hb1 hz, hbel.trans (hb1.mono (by omega))⟩
                  case measure => simp [intOf]; omega
              · go_wp2
                go_roundw
                case rel => exact ⟨k + 1, by omega, by go_num, fun j hj q hq => by
                  rcases Nat.lt_or_eq_of_le (Nat.le_of_lt_succ hj) with h | rfl
                  · exact Hno.out j h q hq
                  · exact Hno2.out q (by omega), hb, hbel⟩
                case measure => simp [intOf]; omega
          · have hok : d.Ok := ⟨⟨hn1, hn8⟩, Hall.out, fun i hi => Hno.out i (by omega)⟩
            have Hok := Lib.hid hok
            clear hok
            go_wp2
            go_ret
            exact ⟨ret_bool (Dg.okB_true Hok.out).symm, hbel⟩
  · have hin : inB d.size 1 8 = false := inB_false hn
    have hf : d.okB = false := Dg.okB_false fun h => hn h.1
    have Hf := Lib.hid hf
    clear hf hn
    go_enter Try.func70, Try.ntmps70
    go_wp2_with (go_at_call 54; refine (specIn_calls _ _ _ _).mono ?_; rintro e w' ⟨rfl, rfl⟩)
    go_ret
    exact ⟨ret_bool Hf.out.symm, (Below.refl _ w).alloc (Nat.le_refl _) _⟩

end Go.Proofs.Yticmlgnolbccjaa

/- The walks of the functions that read a text of brackets, in the program. -/
set_option linter.unusedVariables false
set_option linter.unusedSimpArgs false
namespace Go.Proofs.Yticmlgnolbccjaa
open Go.RowKit

/-- What partners gives: the partners and true, or something and false. -/
def PartsPost (B : Nat) (w w' : World) (cs : List Nat) (e : Ending) : Prop :=
  ∃ v, e = .returned (.tuple #[v, .bool (parts cs).isSome]) ∧ Below B w w' ∧
    ∀ l, parts cs = some l → ∃ b, v = .slice (some ⟨b, 0, none⟩) cs.length cs.length ∧ B ≤ b ∧ Blk w' b (nums l).toArray 3

set_option maxHeartbeats 1000000 in
set_option maxRecDepth 100000 in
theorem implPartners_calls (s : ByteArray) (w : World) (hs : s.size ≤ 1000000) :
    Calls Try.prog 141 #[.string s] w fun e w' => PartsPost w.heap.size w w' (codes s) e := by
  have hcl := codes_length s
  have Hcl := Lib.hid hcl
  clear hcl
  go_enter Try.func141, Try.ntmps141
  go_wp2_with (at_make; refine make_row rowInt rfl _ _ rfl _ _ s.size _ _ rfl rfl rfl rfl (by omega) (by omega) ?_; intro w1 hb1 hg1)
  rw [made_ints] at hb1
  have hz1 := hb1.lt
  go_loopw [5, 14] (fun v i wr => ∃ (k : Nat) (out st : List Nat), k ≤ s.size ∧ i = .int .i64 k ∧ out.length = s.size ∧ st.length ≤ k ∧ (∀ x ∈ st, x < k) ∧ pgo ((codes s).drop k) k out st = parts (codes s) ∧
    Blk wr w.heap.size (nums out).toArray 3 ∧ wr.ownsRow (w.heap.size + 1) 3 1 v st.length (nums st.reverse) ∧ Below w.heap.size w wr) (fun _ i _ => s.size - (intOf i).toNat)
  case atStart =>
    refine ⟨0, List.replicate s.size 0, [], by omega, rfl, by simp, by simp, by simp, ?_, hb1.alloc _, ?_, ((Below.refl _ w).grown hg1 (Nat.le_refl _) (by simp)).alloc (by omega) _⟩
    · simp [parts, Hcl.out]
    · have := World.ownsRow_made (w := w1) (base := w.heap.size + 1) (e := 3) (size := 1) #[] 0 (by omega) (by simp [maxLen]) rfl
      simpa [nums] using this
  case round =>
    clear hb1 hg1 hz1
    obtain ⟨k, out, st, hk, rfl, hol, hsl, hst, hrest, hb, hown, hbel⟩ := hrel
    have hz := hb.lt
    have Hol := Lib.hid hol
    have Hst := Lib.hid hst
    have Hrest := Lib.hid hrest
    clear hol hst hrest
    by_cases hlt : k < s.size
    · have hcs := codes_drop s k hlt
      have Hcs := Lib.hid hcs
      clear hcs
      by_cases h40 : s[k].toNat = 40
      · have hb40 : ((s[k].toNat : Int) == 40) = true := by rw [h40]; rfl
        have H40 := Lib.hid h40
        clear h40
        go_wp2_with (at_builtin; refine append_row rowInt rfl _ _ rfl (w.heap.size + 1) _ st.length _ rfl (hown.alloc _) wr.heap.size 1 1 [.int .i64 k] rfl _ (Blk.newAt _ _ _ rfl) rfl (by intro u hu; simp at hu; subst hu; rfl) (by omega) (by omega) (by simp; omega) ?_; intro v2 w2 ho2 hg2)
        go_roundw
        case rel =>
          refine ⟨k + 1, out, k :: st, by omega, by go_num, Hol.out, by simp; omega, ?_, ?_, (hb.alloc _).grownOwn hg2 (hown.alloc _) (by omega), ?_, bel_grown (hbel.alloc (by omega) _) hg2 (hown.alloc _) (by omega) (by simp; omega)⟩
          · intro x hx
            rcases List.mem_cons.1 hx with rfl | hx
            · omega
            · have := Hst.out x hx; omega
          · rw [← Hrest.out, Hcs.out, pgo_open H40.out]
          · rw [List.reverse_cons, nums_snoc]; exact ho2
        case measure => simp [intOf]; omega
      · have hb40 : ((s[k].toNat : Int) == 40) = false := by simp; omega
        have H40 := Lib.hid h40
        clear h40
        by_cases h41 : s[k].toNat = 41
        · have hb41 : ((s[k].toNat : Int) != 41) = false := by rw [h41]; rfl
          have H41 := Lib.hid h41
          clear h41
          cases st with
          | nil =>
            obtain ⟨ad, cap, rfl⟩ := own_slice hown
            go_wp2
            go_ret2
            exact ⟨_, by rw [← Hrest.out, Hcs.out, pgo_none H41.out]; rfl, hbel, fun l hl => by rw [← Hrest.out, Hcs.out, pgo_none H41.out] at hl; cases hl⟩
          | cons i st =>
            have hik : i < k := Hst.out i (by simp)
            simp only [List.reverse_cons, nums_snoc, List.length_cons] at hown hsl
            obtain ⟨g, cap, rfl, hg1, hg2, hcap, hcap2⟩ := own_pos hown (by omega)
            have hci := own_cell hown st.length (.int .i64 (i : Int)) (by simp [nums])
            have hc := hb.cells
            have hf := hb.free
            have hn1 := nums_get out i (by rw [Hol.out]; omega)
            have hn2 := nums_get out k (by rw [Hol.out]; omega)
            go_wp2
            go_roundw
            case rel =>
              have hpop := Go.ownsRow_pop (xs := nums st.reverse) (last := [.int .i64 (i : Int)]) (by simp [nums]) hown
              have hne : some w.heap.size ≠ Value.ownBlock (.slice (some ⟨g, 0, none⟩) st.length cap) := by simp [Value.ownBlock]; omega
              refine ⟨k + 1, (out.set i k).set k i, st, by omega, by go_num, by simp [Hol.out], by omega, fun x hx => by have := Hst.out x (by simp [hx]); omega, by rw [← Hrest.out, Hcs.out, pgo_close H41.out], ?_, ?_, ?_⟩
              · have := (hb.set i (.int .i64 (k : Int))).set k (.int .i64 (i : Int))
                rwa [nums_set, nums_set] at this
              · exact own_only (own_only hpop (Only.setCell _ _ _ _) hne) (Only.setCell _ _ _ _) hne
              · exact (hbel.setCell (by simp) _).setCell (by simp) _
            case measure => simp [intOf]; omega
        · have hb41 : ((s[k].toNat : Int) != 41) = true := by simp; omega
          have H41 := Lib.hid h41
          clear h41
          go_wp2
          go_ret2
          exact ⟨_, by rw [← Hrest.out, Hcs.out, pgo_bad H40.out H41.out]; rfl, hbel, fun l hl => by rw [← Hrest.out, Hcs.out, pgo_bad H40.out H41.out] at hl; cases hl⟩
    · obtain rfl : k = s.size := by omega
      have hd : (codes s).drop s.size = [] := List.drop_eq_nil_of_le (by rw [Hcl.out]; omega)
      have Hd := Lib.hid hd
      clear hd
      cases st with
      | nil =>
        have hp : parts (codes s) = some out := by rw [← Hrest.out, Hd.out]; rfl
        have Hp := Lib.hid hp
        clear hp
        obtain ⟨ad, cap, rfl⟩ := own_slice hown
        go_wp2
        go_ret2
        refine ⟨.slice (some ⟨w.heap.size, 0, none⟩) s.size s.size, by rw [Hp.out]; simp, hbel, fun l hl => ?_⟩
        rw [Hp.out] at hl
        cases hl
        exact ⟨_, by rw [Hcl.out], Nat.le_refl _, hb⟩
      | cons i st =>
        have hp : parts (codes s) = none := by rw [← Hrest.out, Hd.out]; rfl
        have Hp := Lib.hid hp
        clear hp
        obtain ⟨g, cap, rfl, hg1, hg2, hcap, hcap2⟩ := own_pos hown (by simp)
        simp only [List.length_cons] at hcap
        go_wp2
        go_ret2
        exact ⟨.slice (some ⟨w.heap.size, 0, none⟩) s.size s.size, by rw [Hp.out]; simp; omega, hbel, fun l hl => by rw [Hp.out] at hl; cases hl⟩

set_option maxRecDepth 100000 in
theorem implJoined_calls (n : Int) (l : List Nat) (b : Nat) (T : TypeId) (w : World) (hn1 : 1 ≤ n) (hn8 : n ≤ 8) (hl : (l.length : Int) = 2 * n) (hb : Blk w b (nums l).toArray T) (hx : ∀ x ∈ l, x < l.length) :
    Calls Try.prog 142 #[.int .i64 n, .slice (some ⟨b, 0, none⟩) l.length l.length] w fun e w' => e = .returned (.agg (Dg.joinTo n l l.length).cells) ∧ Below w.heap.size w w' := by
  have hl1 : (l.length : Int) ≤ 2 * n := by omega
  have hl2 : 2 * n ≤ (l.length : Int) := by omega
  have Hx := Lib.hid hx
  have hblt := hb.lt
  clear hl hx
  go_enter Try.func142, Try.ntmps142
  go_wp2_with (refine store_dg rfl _ _ rfl _ rfl (Dg.zero n) rfl _ 47 (Blk.newAt _ _ _ (by simp)) rfl ?_; intro w1 hb1 ho1)
  go_loopw [12] (fun i wr => ∃ k : Nat, k ≤ l.length ∧ i = .int .i64 k ∧ Blk wr (w.heap.size + 1) (Dg.joinTo n l k).cells 47 ∧ Blk wr w.heap.size (Dg.zero 0).cells 47 ∧ Below w.heap.size w wr) (fun i _ => l.length - (intOf i).toNat)
  case atStart => exact ⟨0, by omega, rfl, hb1, ((Blk.new w _ _).alloc _).only ho1 (by omega), (((Below.refl _ w).alloc (Nat.le_refl _) _).alloc (by simp) _).trans (ho1.below (by simp))⟩
  case round =>
    obtain ⟨k, hk, rfl, hb2, hr, hbel⟩ := hrel
    have hz := hb2.lt
    have hbl := hb.below hbel hblt
    by_cases hlt : k < l.length
    · have hxk : l.getD k 0 < l.length := Hx.out _ (by rw [List.getD_eq_getElem?_getD, List.getElem?_eq_getElem hlt]; exact List.getElem_mem hlt)
      have hc := hbl.cells k
      rw [nums_get l k hlt] at hc
      generalize hxe : l.getD k 0 = x at hc hxk
      have Hxe := Lib.hid hxe
      clear hxe
      have hp1 := place_range (n := n) (i := k) (by omega) (by omega)
      have hp2 := place_range (n := n) (i := (x : Int)) (by omega) (by omega)
      have hcc := hb2.cells
      have hff := hb2.free
      have hpn : (place n k).toNat < 16 := by omega
      go_wp2_with (go_at_call 125; refine (implPlace_calls _ _ _ (by omega) (by omega) (by omega) (by omega)).mono ?_; rintro e w' ⟨rfl, rfl⟩)
      go_roundw
      case rel =>
        refine ⟨k + 1, by omega, by go_num, ?_, (hr.other _ _ (by simp)), hbel.setCell (by simp) _⟩
        have := hb2.set (1 + (place n k).toNat) (.int .u8 (place n x))
        rw [Dg.cells_put _ _ _ (Dg.len_joinTo n l k) hpn] at this
        rw [Dg.joinTo_succ, Hxe.out]
        exact this
      case measure => simp [intOf]; omega
    · obtain rfl : k = l.length := by omega
      go_wp2_with (first | (refine load_dg rfl _ rfl _ rfl _ 47 hb2 ?_) | (refine store_dg rfl _ _ rfl _ rfl _ rfl _ 47 hr (Dg.size_cells _) ?_; intro w3 hb3 ho3))
      exact ret_dg rfl _ rfl _ _ hb3 rfl ⟨rfl, hbel.trans (ho3.below (by omega))⟩

set_option maxRecDepth 100000 in
theorem specLess_calls (d e : Dg) (w : World) (hp : d.Pts) (hq : e.Pts) :
    Calls Try.prog 84 #[.agg d.cells, .agg e.cells] w fun r w' => r = .returned (.bool (Op.bytesLess (strOfNums d.txt).toList (strOfNums e.txt).toList)) ∧ Below w.heap.size w w' := by
  have Hp := Lib.hid hp
  have Hq := Lib.hid hq
  clear hp hq
  go_enter Try.func84, Try.ntmps84
  go_wp2
  have h1 := (Blk.new w d.cells 47).alloc (.cells e.cells 47)
  have h2 : Blk ((w.alloc (.cells d.cells 47)).alloc (.cells e.cells 47)) (w.heap.size + 1) e.cells 47 := Blk.newAt _ _ _ (by simp)
  have hbel : Below w.heap.size w ((w.alloc (.cells d.cells 47)).alloc (.cells e.cells 47)) := ((Below.refl _ w).alloc (Nat.le_refl _) _).alloc (by simp) _
  have hz : w.heap.size ≤ ((w.alloc (.cells d.cells 47)).alloc (.cells e.cells 47)).heap.size := by simp; omega
  generalize (w.alloc (.cells d.cells 47)).alloc (.cells e.cells 47) = w2 at *
  have Hbel := Lib.hid hbel
  clear hbel
  refine wp_region_ext (by kernel_rfl) (by kernel_rfl) ?_
  repeat (first | (go_big_quiet_want; refine quiet_load_dg _ rfl _ rfl _ _ h1 ?_; simp only [Act.put, List.setIfInBounds_toArray, List.set_cons_succ, List.set_cons_zero]; go_big_quiet_on) | (go_big_quiet_want; refine quiet_load_dg _ rfl _ rfl _ _ h2 ?_; simp only [Act.put, List.setIfInBounds_toArray, List.set_cons_succ, List.set_cons_zero]; go_big_quiet_on) | go_big_quiet_step ((go_at_call 113; exact ext_call _ (specText_calls _ _ (by first | exact Hp.out | exact Hq.out)))))
  refine wpQuiet_nil ?_
  rintro _ ⟨⟨W, hW⟩, rfl⟩
  go_wp2
  go_ret
  exact ⟨rfl, Hbel.out.trans (hW.mono hz)⟩

/-- What read gives: the diagram with the text and true, or nothing and false. -/
def ReadPost (w w' : World) (r : Option Dg) (e : Ending) : Prop :=
  e = .returned (.tuple #[.agg (r.getD (Dg.zero 0)).cells, .bool r.isSome]) ∧ Below w.heap.size w w'

set_option maxHeartbeats 1000000 in
set_option maxRecDepth 100000 in
theorem implRead_calls (s : ByteArray) (w : World) (hs : s.size ≤ 1000000) :
    Calls Try.prog 115 #[.string s] w fun e w' => ReadPost w w' (readD (codes s)) e := by
  have hcl := codes_length s
  have Hcl := Lib.hid hcl
  clear hcl
  by_cases hodd : s.size % 2 = 0
  · have hb1 : ((s.size : Int) % 2 != 0) = false := by simp; omega
    by_cases hin : 2 ≤ s.size ∧ s.size ≤ 16
    · have hi : inB (s.size : Int) 2 16 = true := inB_true (by omega)
      obtain ⟨hi1, hi2⟩ := hin
      have hrd : readD (codes s) = (parts (codes s)).map fun l => Dg.joinTo (s.size / 2 : Nat) l s.size := by
        unfold readD; rw [Hcl.out, if_pos ⟨hodd, hi1, hi2⟩]
      have Hrd := Lib.hid hrd
      have Hodd := Lib.hid hodd
      clear hrd hodd
      cases hpp : parts (codes s) with
      | none =>
        have hso : (parts (codes s)).isSome = false := by rw [hpp]; rfl
        have Hpp := Lib.hid hpp
        clear hpp
        go_enter Try.func115, Try.ntmps115
        go_wp2_with (first | (refine store_dg rfl _ _ rfl _ rfl (Dg.zero 0) rfl _ 47 ((Blk.new w _ _).below hbel (by simp)) rfl ?_; intro w3 hb3 ho3) | (go_at_call 56; refine (implIn_calls _ _ _ _).mono ?_; rintro e w' ⟨rfl, rfl⟩) | (go_at_call 141; refine (implPartners_calls _ _ hs).mono ?_; rintro e w1 ⟨v, rfl, hbel, hv⟩))
        refine ret_dg_tmp rfl _ rfl _ _ hb3 _ rfl rfl ⟨by rw [Hrd.out, Hpp.out]; rfl, ?_⟩
        exact (((Below.refl _ w).alloc (Nat.le_refl _) _).trans (hbel.mono (by simp))).trans (ho3.below (Nat.le_refl _))
      | some l =>
        have hso : (parts (codes s)).isSome = true := by rw [hpp]; rfl
        have hlb := parts_bound hpp
        have Hpp := Lib.hid hpp
        have Hlb := Lib.hid hlb
        clear hpp hlb
        go_enter Try.func115, Try.ntmps115
        go_wp2_with (go_at_call 56; refine (implIn_calls _ _ _ _).mono ?_; rintro e w' ⟨rfl, rfl⟩)
        refine (implPartners_calls _ _ hs).mono ?_
        rintro e w1 ⟨v, rfl, hbel, hv⟩
        obtain ⟨b, rfl, hb1, hblk⟩ := hv l Hpp.out
        have hz := hblk.lt
        have hll : l.length = s.size := Hlb.out.1.trans Hcl.out
        have h8 : s.size = 2 * (s.size / 2) := by have := Hodd.out; omega
        rw [← Hlb.out.1]
        have Hll := Lib.hid hll
        have H8 := Lib.hid h8
        clear hll h8 hv
        go_wp2_with (first | (go_at_call 142; refine (implJoined_calls _ l _ _ _ (by omega) (by omega) (by rw [Hll.out]; have := H8.out; omega) hblk (by rw [Hlb.out.1]; exact Hlb.out.2)).mono ?_; rintro e w2 ⟨rfl, hbel2⟩) | (refine store_dg rfl _ _ rfl _ rfl _ rfl _ 47 (((Blk.new w _ _).below hbel (by simp)).below hbel2 (by have := hbel.size; simp at this; omega)) rfl ?_; intro w3 hb3 ho3))
        refine ret_dg_tmp rfl _ rfl _ _ hb3 _ rfl rfl ⟨by rw [Hrd.out, Hpp.out, ← Hll.out]; rfl, ?_⟩
        exact ((((Below.refl _ w).alloc (Nat.le_refl _) _).trans (hbel.mono (by simp))).trans (hbel2.mono (by have := hbel.size; simp at this; omega))).trans (ho3.below (Nat.le_refl _))
    · have hi : inB (s.size : Int) 2 16 = false := inB_false (by omega)
      have hrd : readD (codes s) = none := by
        unfold readD; rw [Hcl.out, if_neg (fun h => hin ⟨h.2.1, h.2.2⟩)]
      have Hrd := Lib.hid hrd
      have Hodd := Lib.hid hodd
      clear hrd hodd
      go_enter Try.func115, Try.ntmps115
      go_wp2_with (first | (refine store_dg rfl _ _ rfl _ rfl (Dg.zero 0) rfl _ 47 (Blk.new _ _ _) rfl ?_; intro w3 hb3 ho3) | (go_at_call 56; refine (implIn_calls _ _ _ _).mono ?_; rintro e w' ⟨rfl, rfl⟩))
      refine ret_dg_tmp rfl _ rfl _ _ hb3 _ rfl rfl ⟨by rw [Hrd.out]; rfl, ((Below.refl _ w).alloc (Nat.le_refl _) _).trans (ho3.below (Nat.le_refl _))⟩
  · have hb1 : ((s.size : Int) % 2 != 0) = true := by simp; omega
    have hrd : readD (codes s) = none := by
      unfold readD; rw [Hcl.out, if_neg (fun h => hodd h.1)]
    have Hrd := Lib.hid hrd
    have Hodd := Lib.hid hodd
    clear hrd hodd
    go_enter Try.func115, Try.ntmps115
    go_wp2_with (refine store_dg rfl _ _ rfl _ rfl (Dg.zero 0) rfl _ 47 (Blk.new _ _ _) rfl ?_; intro w3 hb3 ho3)
    refine ret_dg_tmp rfl _ rfl _ _ hb3 _ rfl rfl ⟨by rw [Hrd.out]; rfl, ((Below.refl _ w).alloc (Nat.le_refl _) _).trans (ho3.below (Nat.le_refl _))⟩
end Go.Proofs.Yticmlgnolbccjaa

/- Diagrams as keys of maps, and Go's == on them. -/
set_option linter.unusedVariables false
set_option linter.unusedSimpArgs false
namespace Go.Proofs.Yticmlgnolbccjaa
open Go.RowKit

theorem laidOut : laidOutB Try.prog = true := by kernel_rfl
theorem keyTypeDg : Try.prog.keyTypeAt 5 47 = true := by kernel_rfl
theorem keyTypeDg' : Try.prog.keyType 47 = true := by kernel_rfl
theorem formedDg (d : Dg) : (Value.agg d.cells).formed Try.prog 47 = true := by kernel_rfl
theorem wideDg : (match Try.prog.underlying 47 with | some (.array _ _) | some (.struct _) => true | _ => false) = true := by kernel_rfl
theorem cellsOfDg : Try.prog.cellsOf 47 = 17 := by kernel_rfl
theorem cellsOfMate : Try.prog.cellsOf 43 = 16 := by kernel_rfl
theorem cellsOfU8 : Try.prog.cellsOf 5 = 1 := by kernel_rfl
theorem cellsOfI64 : Try.prog.cellsOf 2 = 1 := by kernel_rfl

theorem mapM_some {α β : Type} {f : α → Option β} {g : α → β} : ∀ (l : List α), (∀ x ∈ l, f x = some (g x)) → l.mapM f = some (l.map g)
  | [], _ => rfl
  | x :: l, h => by
    rw [List.mapM_cons, h x (by simp), mapM_some l (fun y hy => h y (by simp [hy]))]
    rfl

theorem flatten_one {α β : Type} (g : α → β) : ∀ l : List α, (l.map fun i => [g i]).flatten = l.map g
  | [] => rfl
  | x :: l => by simp only [List.map_cons, List.flatten_cons, flatten_one g l]; rfl
theorem chunk_one {β : Type} (F : Nat → β) (n i : Nat) (hi : i < n) : (((List.range n).map F).drop (i * 1)).take 1 = [F i] := by
  rw [Nat.mul_one, List.drop_eq_getElem_cons (by simpa using hi)]
  simp only [List.getElem_map, List.getElem_range, List.take_succ_cons, List.take_zero]

theorem keyLits_i64 (n : Nat) (x : Int) (h : (Lit.int .i64 x).wf = true) : Try.prog.keyLits (n + 1) 2 [.int .i64 x] = some [.int .i64 x] := by
  simp [Program.keyLits, Try.underlying2, h]
theorem keyLits_u8 (n : Nat) (x : Int) (h : (Lit.int .u8 x).wf = true) : Try.prog.keyLits (n + 1) 5 [.int .u8 x] = some [.int .u8 x] := by
  simp [Program.keyLits, Try.underlying5, h]
set_option maxRecDepth 100000 in
theorem keyLits_mate (n : Nat) (f : Nat → Int) (h : ∀ i, (Lit.int .u8 (f i)).wf = true) :
    Try.prog.keyLits (n + 2) 43 ((List.range 16).map fun i => .int .u8 (f i)) = some ((List.range 16).map fun i => .int .u8 (f i)) := by
  simp only [Program.keyLits, Try.underlying43, cellsOfMate, cellsOfU8]
  rw [if_pos (by rw [List.length_map, List.length_range]), mapM_some (g := fun i => [Lit.int .u8 (f i)])]
  · rw [Option.map_some, flatten_one]
  · intro i hi
    rw [chunk_one (fun i => Value.int .u8 (f i)) 16 i (List.mem_range.1 hi)]
    exact keyLits_u8 n (f i) (h i)

theorem keyLits_struct {P : Program} (n : Nat) (t : TypeId) (cs : List Value) (fs : Array Field) (ht : P.underlying t = some (.struct fs)) (hl : cs.length = P.cellsOf t) (hf : fs.all (·.name != "_") = true) :
    P.keyLits (n + 1) t cs = (fs.toList.mapM fun f => P.keyLits n f.type ((cs.drop f.offset).take (P.cellsOf f.type))).map List.flatten := by
  simp only [Program.keyLits, ht]
  rw [if_pos ⟨hl, hf⟩]

theorem keyLits_dg (d : Dg) (h : d.Wf) (n : Nat) : ∃ L, Try.prog.keyLits (n + 3) 47 d.cells.toList = some L := by
  have hs : (Lit.int .i64 d.size).wf = true := WalkArith.wf_i64 ⟨h.lo, h.hi⟩
  have hb : ∀ i, (Lit.int .u8 (d.m i)).wf = true := fun i => WalkArith.wf_u8 (h.byte i)
  have e : d.cells.toList = d.list := rfl
  refine ⟨.int .i64 d.size :: (List.range 16).map fun i => .int .u8 (d.m i), ?_⟩
  rw [e]
  rw [keyLits_struct (n + 2) _ _ _ Try.underlying47 (by rw [cellsOfDg, d.length_list]) (by kernel_rfl)]
  simp only [List.mapM_cons, List.mapM_nil, cellsOfI64, cellsOfMate, List.drop_zero]
  have e1 : d.list.take 1 = [.int .i64 d.size] := rfl
  have e2 : (d.list.drop 1).take 16 = (List.range 16).map fun i => .int .u8 (d.m i) := by
    simp only [Dg.list, List.drop_succ_cons, List.drop_zero]
    exact List.take_of_length_le (by simp)
  rw [e1, e2, keyLits_i64 _ _ hs, keyLits_mate _ _ hb]
  rfl

theorem keyOf_dg (d : Dg) (h : d.Wf) : ∃ l, keyOf Try.prog 47 (.agg d.cells) = some l := by
  obtain ⟨L, hL⟩ := keyLits_dg d h (Try.prog.types.size - 2)
  have hn : Try.prog.types.size - 2 + 3 = Try.prog.types.size + 1 := by kernel_rfl
  rw [hn] at hL
  refine ⟨.string (keyBytes L), ?_⟩
  unfold keyOf
  rw [Try.underlying47]
  simp only [keyTypeDg', formedDg, Bool.and_self, if_true]
  have : (Value.agg d.cells).cells.toList = d.cells.toList := rfl
  rw [this, hL]
  rfl

set_option maxRecDepth 100000 in
theorem lawDg : WideMaps.KeyLaw Try.prog 47 :=
  deep_law_gate laidOut (of_decide_eq_true (by kernel_rfl)) (of_decide_eq_true (by kernel_rfl)) keyTypeDg' wideDg

theorem cells_inj {d e : Dg} (hd : d.Wf) (he : e.Wf) (h : d.cells = e.cells) : d = e := by
  have h0 : d.cells[0]? = e.cells[0]? := by rw [h]
  rw [d.cells0, e.cells0] at h0
  refine Dg.ext hd.len he.len (by simpa using h0) fun i hi => ?_
  have h1 : d.cells[1 + i]? = e.cells[1 + i]? := by rw [h]
  rw [d.cells1 i hi, e.cells1 i hi] at h1
  simpa using h1


set_option maxRecDepth 100000 in
theorem run_eql_dg (d e : Dg) (hd : d.Wf) (he : e.Wf) (w : World) : (binOp .eql 47 (.agg d.cells) (.agg e.cells)).run Try.prog w = .ok (.bool (decide (d = e))) w := by
  obtain ⟨ld, hld⟩ := keyOf_dg d hd
  obtain ⟨le, hle⟩ := keyOf_dg e he
  obtain ⟨r, hr, hrr⟩ := run_equal_deep (P := Try.prog) w (m := 5) (by omega) keyTypeDg wideDg hld hle
  have : r = decide (d = e) := by
    rw [Bool.eq_iff_iff, hrr, decide_eq_true_iff]
    constructor
    · intro h
      subst h
      have := (Maps.Keyed.of_law lawDg).inj hld hle
      exact cells_inj hd he (Value.agg.inj this)
    · intro h
      subst h
      rw [hld] at hle
      exact Option.some.inj hle
  subst this
  rw [run_eql_struct]
  show ((Op.equal 47 (.agg d.cells) (.agg e.cells)).run Try.prog w).andThen _ = _
  rw [hr]
  rfl

theorem guard_dg : Try.prog.eqGuardType Try.prog.depth 47 = false := by kernel_rfl
end Go.Proofs.Yticmlgnolbccjaa

/- The walk of the program's test whether something is a diagram. -/
set_option linter.unusedVariables false
set_option linter.unusedSimpArgs false
namespace Go.Proofs.Yticmlgnolbccjaa
open Go.RowKit

namespace Dg
def mlist (d : Dg) : List Value := (List.range 16).map fun i => .int .u8 (d.m i)
theorem mlist_get (d : Dg) (i : Nat) (h : i < 16) : d.mlist[i]? = some (.int .u8 (d.m i)) := by simp [mlist, h]
theorem mlist_length (d : Dg) : d.mlist.length = 16 := by simp [mlist]
/-- Mates of points are points, those behind the last point are 0. -/
def RgAt (d : Dg) (i : Nat) : Prop := if 2 * d.size ≤ i then d.m i = 0 else d.m i < 2 * d.size
/-- The codes of the text. -/
def ctxt (d : Dg) : List Nat := d.txt.map Int.toNat
/-- A diagram, as the program has it. -/
def IOk (d : Dg) : Prop := (1 ≤ d.size ∧ d.size ≤ 8) ∧ (∀ i, i < 16 → d.RgAt i) ∧ readD d.ctxt = some d
end Dg

theorem codes_strOf (xs : List Int) (h : ∀ x ∈ xs, 0 ≤ x ∧ x ≤ 255) : codes (strOfNums xs) = xs.map Int.toNat := by
  unfold codes
  rw [strOfNums_data, List.map_map]
  apply List.map_congr_left
  intro x hx
  have := h x hx
  simp [Function.comp]
  omega

theorem txt_bytes (d : Dg) : ∀ x ∈ d.txt, 0 ≤ x ∧ x ≤ 255 := by
  intro x hx
  simp only [Dg.txt, List.mem_map] at hx
  obtain ⟨k, _, rfl⟩ := hx
  unfold Dg.sign
  split <;> omega

theorem codes_txt (d : Dg) : codes (strOfNums d.txt) = d.ctxt := codes_strOf _ (txt_bytes d)
theorem size_txt (d : Dg) (h0 : 0 ≤ d.size) : ((strOfNums d.txt).size : Int) = 2 * d.size := by
  rw [strOfNums_size]; simp [Dg.txt]; omega

instance (d : Dg) (i : Nat) : Decidable (d.RgAt i) := by unfold Dg.RgAt; infer_instance
instance (d : Dg) : Decidable d.IOk := by unfold Dg.IOk; infer_instance
def Dg.iokB (d : Dg) : Bool := decide d.IOk
theorem iokB_true {d : Dg} (h : d.IOk) : d.iokB = true := decide_eq_true h
theorem iokB_false {d : Dg} (h : ¬ d.IOk) : d.iokB = false := decide_eq_false h

section
variable {ops : Array Oper} {rest : List Oper} {o : Oper} {a : Act} {w : World} {Q : Exit → Act → World → Prop}
theorem info_mate : (Try.prog.info? 43).map (·.size) = some 16 := by kernel_rfl
theorem load_mates (hgd : o.guard = none) (x : Operand) (ho : o.op = .load 43 x) (b : Nat) (hx : a.eval x = .pointer (some ⟨b, 1, none⟩)) (d : Dg) (T : TypeId) (h : Blk w b d.cells T)
    (hK : wpList Try.prog ops Q rest (a.put o.dst (.agg d.mlist.toArray)) w) : wpList Try.prog ops Q (o :: rest) a w := by
  refine wpList_load_mid hgd _ x ho b 1 hx d.mlist _ (fun j v hv => ?_) Try.underlying43 rfl (by rw [info_mate, d.mlist_length]) hK
  have hj : j < 16 := by have := (List.getElem?_eq_some_iff.1 hv).1; rwa [d.mlist_length] at this
  rw [h.cells, d.cells1 j hj, ← hv, d.mlist_get j hj]
end

theorem run_index_mates (d : Dg) (k : Nat) (hk : k < 16) (w : World) : (Instr.index 43 (.agg d.mlist.toArray) (.int .i64 (k : Int))).run Try.prog w = .ok (.int .u8 (d.m k)) w := by
  have h1 : 0 ≤ (k : Int) ∧ (k : Int) < (16 : Nat) := by omega
  have hi : ∃ i, Try.prog.info? 5 = some i ∧ i.size = 1 := by
    have := info_u8
    obtain ⟨i0, hi, hz0, hz1, hz2⟩ := info_parts this
    exact ⟨i0, hi, hz1⟩
  obtain ⟨i0, hi0, hi1⟩ := hi
  have hp : (part 5 d.mlist.toArray k).run Try.prog w = .ok (.int .u8 (d.m k)) w := run_part_plain (P := Try.prog) w (by kernel_rfl) (by simpa using d.mlist_get k hk)
  simp only [Instr.index, asIntOf, Sem.run_bind, Sem.run_pure, Result.andThen_ok, run_underlying Try.underlying43, Sem.run_ite, if_pos h1, sizeOf, typeInfo, hi0, hi1, Int.toNat_natCast, Nat.mul_one]
  simp [hi0, hi1, hp]

set_option maxHeartbeats 1000000 in
set_option maxRecDepth 100000 in
theorem implIs_calls (d : Dg) (w : World) (hw : d.Wf) :
    Calls Try.prog 89 #[.agg d.cells] w fun e w' => e = .returned (.bool d.iokB) ∧ Below w.heap.size w w' := by
  by_cases hn : 1 ≤ d.size ∧ d.size ≤ 8
  · have hin : inB d.size 1 8 = true := inB_true hn
    obtain ⟨hn1, hn8⟩ := hn
    have Hw := Lib.hid hw
    clear hw
    go_enter Try.func89, Try.ntmps89
    go_wp2_with (first | (go_at_call 56; refine (implIn_calls _ _ _ _).mono ?_; rintro e w' ⟨rfl, rfl⟩) | (refine load_mates rfl _ rfl _ rfl d _ (Blk.new _ _ _) ?_))
    go_loop [3, 4, 13] (fun _ _ i => ∃ k : Nat, k ≤ 16 ∧ i = .int .i64 k ∧ ∀ j, j < k → d.RgAt j) (fun _ _ i => 16 - (intOf i).toNat)
    case atStart => exact ⟨0, by omega, rfl, by omega⟩
    case round =>
      obtain ⟨k, hk, rfl, hall⟩ := hrel
      have Hall := Lib.hid hall
      clear hall
      by_cases hlt : k < 16
      · have hby := Hw.out.byte k
        have hix := run_index_mates d k hlt
        by_cases hout : 2 * d.size ≤ (k : Int)
        · have hok : d.RgAt k ↔ d.m k = 0 := by unfold Dg.RgAt; rw [if_pos hout]
          have Hok := Lib.hid hok
          clear hok
          by_cases h0 : d.m k = 0
          · have hb0 : (d.m k != 0) = false := by simp [h0]
            have H0 := Lib.hid h0
            clear h0
            go_wp2_with (go_at_call 124; refine (implN_calls d _ _ _ (Blk.new _ _ _).dgAt).mono ?_; rintro e w' ⟨rfl, rfl⟩)
            go_round
            case rel => exact ⟨k + 1, by omega, by go_num, fun j hj => by
              rcases Nat.lt_or_eq_of_le (Nat.le_of_lt_succ hj) with h | rfl
              · exact Hall.out j h
              · exact Hok.out.2 H0.out⟩
            case measure => simp [intOf]; omega
          · have hb0 : (d.m k != 0) = true := by simp [h0]
            have H0 := Lib.hid h0
            clear h0
            go_wp2_with (go_at_call 124; refine (implN_calls d _ _ _ (Blk.new _ _ _).dgAt).mono ?_; rintro e w' ⟨rfl, rfl⟩)
            go_ret
            exact ⟨ret_bool (iokB_false fun h => H0.out (Hok.out.1 (h.2.1 k hlt))).symm, (Below.refl _ w).alloc (Nat.le_refl _) _⟩
        · have hok : d.RgAt k ↔ d.m k < 2 * d.size := by unfold Dg.RgAt; rw [if_neg hout]
          have Hok := Lib.hid hok
          clear hok
          by_cases h1 : d.m k < 2 * d.size
          · go_wp2_with (go_at_call 124; refine (implN_calls d _ _ _ (Blk.new _ _ _).dgAt).mono ?_; rintro e w' ⟨rfl, rfl⟩)
            go_round
            case rel => exact ⟨k + 1, by omega, by go_num, fun j hj => by
              rcases Nat.lt_or_eq_of_le (Nat.le_of_lt_succ hj) with h | rfl
              · exact Hall.out j h
              · exact Hok.out.2 (by omega)⟩
            case measure => simp [intOf]; omega
          · go_wp2_with (go_at_call 124; refine (implN_calls d _ _ _ (Blk.new _ _ _).dgAt).mono ?_; rintro e w' ⟨rfl, rfl⟩)
            go_ret
            exact ⟨ret_bool (iokB_false fun h => absurd (Hok.out.1 (h.2.1 k hlt)) (by omega)).symm, (Below.refl _ w).alloc (Nat.le_refl _) _⟩
      · obtain rfl : k = 16 := by omega
        have hp : d.Pts := by
          refine ⟨by omega, hn8, fun i hi => ⟨(Hw.out.byte i).1, ?_⟩⟩
          have := Hall.out i (by omega)
          unfold Dg.RgAt at this
          rw [if_neg (by omega)] at this
          exact this
        have hsz := size_txt d (by omega)
        have hct := codes_txt d
        have Hp := Lib.hid hp
        have Hsz := Lib.hid hsz
        have Hct := Lib.hid hct
        clear hp hsz hct
        have hgd := guard_dg
        have hio : d.iokB = decide (readD d.ctxt = some d) := by
          by_cases h : readD d.ctxt = some d
          · rw [iokB_true ⟨⟨hn1, hn8⟩, Hall.out, h⟩, decide_eq_true h]
          · rw [iokB_false (fun h' => h h'.2.2), decide_eq_false h]
        have Hio := Lib.hid hio
        clear hio
        cases hrd : readD d.ctxt with
        | none =>
          have Hrd := Lib.hid hrd
          clear hrd
          go_wp2_with fail
          refine (implText_calls d _ 0 _ (Blk.new _ _ _).dgAt Hp.out).mono ?_
          rintro e w1 ⟨rfl, hb1⟩
          go_wp2_with fail
          refine (implRead_calls _ _ (by have := Hsz.out; omega)).mono ?_
          rintro e w2 ⟨rfl, hb2⟩
          rw [Hct.out, Hrd.out]
          simp only [Option.getD_none, Option.isSome_none]
          have hz1 := hb1.size
          have hz2 := hb2.size
          simp only [World.size_alloc] at hz1
          go_wp2_with (refine store_dg rfl _ _ rfl _ rfl (Dg.zero 0) rfl _ 47 (Blk.newAt _ _ _ (by simp)) rfl ?_; intro w3 hb3 ho3)
          go_ret
          refine ⟨ret_bool (by rw [Hio.out, Hrd.out]; rfl), ?_⟩
          exact (((((Below.refl _ w).alloc (Nat.le_refl _) _).trans (hb1.mono (by simp))).trans (hb2.mono (by omega))).alloc (by omega) _).trans (ho3.below (by omega))
        | some e =>
          have hew := readD_some hrd
          have hq : d.iokB = decide (e = d) := by
            rw [Hio.out, hrd]
            by_cases h : e = d
            · subst h; simp
            · simp [h]
          have heq := run_eql_dg e d hew.1 Hw.out
          have Hrd := Lib.hid hrd
          have Hq := Lib.hid hq
          clear hrd hew hq
          go_wp2_with fail
          refine (implText_calls d _ 0 _ (Blk.new _ _ _).dgAt Hp.out).mono ?_
          rintro r w1 ⟨rfl, hb1⟩
          go_wp2_with fail
          refine (implRead_calls _ _ (by have := Hsz.out; omega)).mono ?_
          rintro r w2 ⟨rfl, hb2⟩
          rw [Hct.out, Hrd.out]
          simp only [Option.getD_some, Option.isSome_some]
          have hz1 := hb1.size
          have hz2 := hb2.size
          simp only [World.size_alloc] at hz1
          have hD := ((Blk.new w d.cells 47).below hb1 (by simp)).below hb2 (by omega)
          by_cases hed : e = d
          all_goals
            have hdb : decide (e = d) = _ := (by first | exact decide_eq_true hed | exact decide_eq_false hed)
            have Hed := Lib.hid hed
            clear hed
            go_wp2_with (first | (refine store_dg rfl _ _ rfl _ rfl e rfl _ 47 (Blk.newAt _ _ _ (by simp)) rfl ?_; intro w3 hb3 ho3) | (refine load_dgw _ rfl _ rfl _ 47 hb3 rfl ?_) | (refine load_dgw _ rfl _ rfl _ 47 ((hD.alloc _).only ho3 (by omega)) rfl ?_))
            go_ret
            refine ⟨ret_bool (by rw [Hq.out]; exact hdb.symm), ?_⟩
            exact (((((Below.refl _ w).alloc (Nat.le_refl _) _).trans (hb1.mono (by simp))).trans (hb2.mono (by omega))).alloc (by omega) _).trans (ho3.below (by omega))
  · have hin : inB d.size 1 8 = false := inB_false hn
    have hf : d.iokB = false := iokB_false fun h => hn h.1
    have Hf := Lib.hid hf
    clear hf hn
    go_enter Try.func89, Try.ntmps89
    go_wp2_with (go_at_call 56; refine (implIn_calls _ _ _ _).mono ?_; rintro e w' ⟨rfl, rfl⟩)
    go_ret
    exact ⟨ret_bool Hf.out.symm, (Below.refl _ w).alloc (Nat.le_refl _) _⟩
end Go.Proofs.Yticmlgnolbccjaa
