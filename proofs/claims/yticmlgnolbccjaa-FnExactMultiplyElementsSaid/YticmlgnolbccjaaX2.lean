/- The copies of the statements' own elements; their sizes. -/
import Derived.Test.YticmlgnolbccjaaX1
set_option linter.unusedVariables false
set_option linter.unusedSimpArgs false
namespace Go.Proofs.Yticmlgnolbccjaa
open Go.RowKit

def zt : Tm := ⟨Dg.zero 0, 0⟩
theorem made_terms (n : Nat) : madeCells (Value.agg (Tm.cells zt)).cells (n * 18) = (tc (List.replicate n zt)).toArray := by
  refine Array.ext_getElem? (fun j => ?_)
  show (madeCells (Value.agg (Tm.cells zt)).cells (n * 18))[j]? = (tc (List.replicate n zt)).toArray[j]?
  by_cases hj : j < n * 18
  · have h1 := tc_at (List.replicate n zt) (j / 18) (j % 18) zt (by rw [List.getElem?_replicate, if_pos (by omega)]) (by omega)
    rw [show j / 18 * 18 + j % 18 = j from by omega] at h1
    have h9 : (tc (List.replicate n zt)).toArray[j]? = (tc (List.replicate n zt))[j]? := by simp
    rw [h9, h1]
    have h2 : (Value.agg (Tm.cells zt)).cells = zt.vals.toArray := rfl
    rw [h2]
    unfold madeCells
    have h3 : zt.vals.toArray.size = 18 := by simp [zt.length_vals]
    rw [h3, Array.getElem?_map, Array.getElem?_range, if_pos hj]
    have h4 : j % 18 < zt.vals.length := by rw [zt.length_vals]; omega
    rw [Option.map_some, List.getElem?_eq_getElem h4]
    congr 1
    rw [getElem!_pos zt.vals.toArray (j % 18) (by simpa using h4)]
    simp
  · rw [Array.getElem?_eq_none (by rw [size_madeCells]; omega), Array.getElem?_eq_none (by simp [length_tc]; omega)]

theorem spl_tc (L : List Tm) (j : Nat) (t : Tm) (h : j < L.length) : spl (tc L) (j * 18) t.vals = tc (L.set j t) := by
  unfold spl
  rw [t.length_vals, show j * 18 + 18 = (j + 1) * 18 from by omega, tc_take, tc_drop, List.set_eq_take_append_cons_drop, if_pos h, tc_append, tc_cons, List.append_assoc]

theorem blk_TsS {w : World} {base g : Nat} {ts : List Tm} (h : Blk w g (tc ts).toArray 57) (hb : base ≤ g) (hn : ts.length ≤ 100000000) : TsS w base (.slice (some ⟨g, 0, none⟩) ts.length ts.length) ts :=
  ⟨⟨length_tc ts, .inr ⟨g, ts.length, _, rfl, hb, h, Nat.le_refl _, by unfold maxLen; omega, by simp [length_tc], by rw [← length_tc]; simp⟩⟩, by simp⟩

/-- What comes in: terms somewhere in memory. -/
def LIn (w : World) (v : Value) (ts : List Tm) : Prop :=
  ∃ ad cap, v = .slice ad ts.length cap ∧ ts.length ≤ cap ∧ cap ≤ 9223372036854775807 ∧ (ts ≠ [] → ∃ b off, ad = some ⟨b, off, none⟩ ∧ b < w.heap.size ∧ w.rangeAt b off (tc ts))
theorem LIn.below {w w' : World} {v : Value} {ts : List Tm} {B : Nat} (h : LIn w v ts) (hb : Below B w w') (hB : w.heap.size ≤ B) : LIn w' v ts := by
  obtain ⟨ad, cap, h1, h2, h3, h4⟩ := h
  refine ⟨ad, cap, h1, h2, h3, fun hne => ?_⟩
  obtain ⟨b, off, h5, h6, h7⟩ := h4 hne
  exact ⟨b, off, h5, by have := hb.size; omega, rangeAt_below h7 hb (by omega)⟩

set_option maxHeartbeats 4000000 in
set_option maxRecDepth 100000 in
theorem toTermS_calls (ts : List Tm) (v : Value) (w : World) (hv : LIn w v ts) (hn : ts.length ≤ 1048576) :
    Calls Try.prog 42 #[v] w fun e w' => ∃ v', e = .returned v' ∧ TsS w' w.heap.size v' ts ∧ Below w.heap.size w w' := by
  obtain ⟨ad, cap, rfl, hc1, hc2, hrd⟩ := hv
  by_cases h0 : ts = []
  · subst h0
    go_enter Try.func42, Try.ntmps42
    go_wp2_with (at_make; refine make_row rowTerm rfl _ _ rfl _ _ 0 _ _ rfl rfl rfl rfl (by omega) (by omega) ?_; intro w1 hb1 hg1)
    refine wp_loop_rounds 1 ?_
    rw [rounds_succ]
    go_wp2
    go_ret
    refine ⟨_, rfl, ?_, (Below.refl _ w).grown hg1 (Nat.le_refl _) (by simp)⟩
    have h1 : Blk w1 w.heap.size (tc []).toArray 57 := by
      rw [show ([] : List Tm) = List.replicate 0 zt from rfl, ← made_terms 0]
      exact hb1
    exact blk_TsS h1 (Nat.le_refl _) (by simp)
  · obtain ⟨b, off, rfl, hb, hr⟩ := hrd h0
    go_enter Try.func42, Try.ntmps42
    go_wp2_with (at_make; refine make_row rowTerm rfl _ _ rfl _ _ ts.length _ _ rfl rfl rfl rfl (by omega) (by omega) ?_; intro w1 hb1 hg1)
    have h1 : Blk w1 w.heap.size (tc (List.replicate ts.length zt)).toArray 57 := by
      rw [← made_terms ts.length]
      exact hb1
    have hbl := (Below.refl w.heap.size w).grown hg1 (Nat.le_refl _) (by simp)
    have hr1 := rangeAt_below hr hbl hb
    have hz1 := h1.lt
    clear hb1 hg1 hrd
    go_loopw [4] (fun i wr => ∃ j : Nat, j ≤ ts.length ∧ i = .int .i64 j ∧ Blk wr w.heap.size (tc (ts.take j ++ List.replicate (ts.length - j) zt)).toArray 57 ∧ But w1 wr [w.heap.size]) (fun i _ => ts.length - (intOf i).toNat)
    case atStart => exact ⟨0, by omega, rfl, by simpa using h1, But.refl _ _⟩
    case round =>
      clear h1
      obtain ⟨j, hj, rfl, h1, hbut⟩ := hrel
      have hz3 := hbut.size
      have hb3 : Below w.heap.size w1 wr := hbut.below (by omega) (by simp)
      by_cases hlt : j < ts.length
      · have hra := range_tm (rangeAt_below hr1 hb3 hb) j ts[j] (List.getElem?_eq_getElem hlt)
        have hset : (ts.take j ++ List.replicate (ts.length - j) zt).set j ts[j] = ts.take (j + 1) ++ List.replicate (ts.length - (j + 1)) zt := by
          rw [List.set_append_right _ _ (by rw [List.length_take]; omega), List.take_succ_eq_append_getElem hlt, List.append_assoc]
          congr 1
          rw [List.length_take, Nat.min_eq_left (by omega), Nat.sub_self, show ts.length - j = (ts.length - (j + 1)) + 1 from by omega, List.replicate_succ]
          rfl
        have hspl := spl_tc (ts.take j ++ List.replicate (ts.length - j) zt) j ts[j] (by simp; omega)
        rw [hset] at hspl
        have Hspl := Lib.hid hspl
        have hl18 : j * 18 + ts[j].vals.length ≤ (tc (ts.take j ++ List.replicate (ts.length - j) zt)).length := by
          rw [length_tc, Tm.length_vals]; simp; omega
        clear hset hspl
        generalize ts[j] = t at *
        generalize tc (ts.take j ++ List.replicate (ts.length - j) zt) = cs at *
        go_wp2_with (refine load_ltm rfl _ rfl _ _ rfl t hra ?_)
        refine (toTerm_calls t wr).mono ?_
        rintro e w4 ⟨rfl, hb4⟩
        have h4 := h1.below hb4 h1.lt
        have hbut4 := hbut.ext hb4
        clear h1 hbut hra hb3 hb4
        go_wp2_with (refine store_mid rfl _ _ _ rfl _ _ rfl t.vals rfl (by rw [info_tm, t.length_vals]) t.oneCell _ _ h4 hl18 ?_; intro w5 h5 ho5; have hbut5 := hbut4.only ho5 (.inl (by simp)))
        rw [Hspl.out] at h5
        go_roundw
        case rel => exact ⟨j + 1, by omega, by go_num, h5, hbut5⟩
        case measure => simp [intOf]; omega
      · obtain rfl : j = ts.length := by omega
        rw [List.take_length, Nat.sub_self, List.replicate_zero, List.append_nil] at h1
        go_wp2_with fail
        go_ret
        exact ⟨_, rfl, blk_TsS h1 (Nat.le_refl _) (by omega), hbl.trans hb3⟩

set_option maxRecDepth 100000 in
theorem toElement_calls (x : El) (v : Value) (w : World) (hv : LIn w v x.ts) (hn : x.ts.length ≤ 1048576) :
    Calls Try.prog 14 #[x.val v] w fun e w' => ∃ v', e = .returned (x.val v') ∧ TsS w' w.heap.size v' x.ts ∧ Below w.heap.size w w' := by
  have hvc : v.oneCell' = true := by obtain ⟨ad, cap, rfl, -⟩ := hv; rfl
  unfold El.val El.cells
  have h1 := ((Blk.new w #[.int .i64 x.p, .int .i64 x.c, .int .i64 x.n, v] 24).alloc (.cells #[.int .i64 0, .int .i64 0, .int .i64 0, .slice none 0 0] 30)).alloc (.cells #[.int .i64 0, .int .i64 0, .int .i64 0, .slice none 0 0] 30)
  have h2 := (Blk.newAt (w.alloc (.cells #[.int .i64 x.p, .int .i64 x.c, .int .i64 x.n, v] 24)) #[.int .i64 0, .int .i64 0, .int .i64 0, .slice none 0 0] 30 (b := w.heap.size + 1) (by simp)).alloc (.cells #[.int .i64 x.p, .int .i64 x.c, .int .i64 x.n, .slice none 0 0] 30)
  have h3 := Blk.newAt ((w.alloc (.cells #[.int .i64 x.p, .int .i64 x.c, .int .i64 x.n, v] 24)).alloc (.cells #[.int .i64 0, .int .i64 0, .int .i64 0, .slice none 0 0] 30)) #[.int .i64 x.p, .int .i64 x.c, .int .i64 x.n, .slice none 0 0] 30 (b := w.heap.size + 1 + 1) (by simp)
  have hbl := (((Below.refl w.heap.size w).alloc (Nat.le_refl _) (.cells #[.int .i64 x.p, .int .i64 x.c, .int .i64 x.n, v] 24)).alloc (by simp) (.cells #[.int .i64 0, .int .i64 0, .int .i64 0, .slice none 0 0] 30)).alloc (by simp; omega) (.cells #[.int .i64 x.p, .int .i64 x.c, .int .i64 x.n, .slice none 0 0] 30)
  have hv2 := hv.below hbl (Nat.le_refl _)
  go_enter Try.func14, Try.ntmps14
  go_wp2_with fail
  generalize ((w.alloc (.cells #[.int .i64 x.p, .int .i64 x.c, .int .i64 x.n, v] 24)).alloc (.cells #[.int .i64 0, .int .i64 0, .int .i64 0, .slice none 0 0] 30)).alloc (.cells #[.int .i64 x.p, .int .i64 x.c, .int .i64 x.n, .slice none 0 0] 30) = w2 at *
  have hz2 := h3.lt
  refine (toTermS_calls x.ts v w2 hv2 hn).mono ?_
  rintro e w4 ⟨v4, rfl, hv4, hb4⟩
  have h2b := h2.below hb4 (by omega)
  have h3b := h3.below hb4 hz2
  have hbb := hbl.trans (hb4.mono (by omega))
  have hz4 := hb4.size
  have h1c := hv4.oneCell
  have hc3 := h3b.cells
  have hf3 := h3b.free
  have h3s := h3b.set 3 v4
  have h2s := h2b.other ⟨w.heap.size + 1 + 1, 3, none⟩ v4 (by simp)
  have hv5 := hv4.only (Only.setCell w4 (w.heap.size + 1 + 1) 3 v4) (fun e => by have := (hv4.1.lt _ e.symm).1; omega)
  have hb5 := hbb.trans ((Only.setCell w4 (w.heap.size + 1 + 1) 3 v4).below (B := w.heap.size) (by omega))
  clear h1 h2 h3 hbl hv2 hb4 h2b h3b hbb
  obtain ⟨g4, cap4, rfl, -, -, -, -, -⟩ := hv4.out
  have h3t : Blk (w4.setCell ⟨w.heap.size + 1 + 1, 3, none⟩ (.slice (some ⟨g4, 0, none⟩) x.ts.length cap4)) (w.heap.size + 1 + 1) #[.int .i64 x.p, .int .i64 x.c, .int .i64 x.n, .slice (some ⟨g4, 0, none⟩) x.ts.length cap4] 30 := h3s
  clear h3s
  go_wp2_with (first | (refine load_el rfl _ rfl _ rfl _ rfl _ h3t ?_) | (refine store_el rfl _ _ rfl _ rfl _ rfl rfl (el_all rfl) _ _ h2s rfl ?_; intro w9 h9 ho9))
  refine ret_el rfl _ rfl _ rfl _ h9 rfl ?_
  exact ⟨_, rfl, (hv5.only ho9 (fun e => by have := (hv5.1.lt _ e.symm).1; omega)).mono (by omega), hb5.trans (ho9.below (by omega))⟩

set_option maxRecDepth 100000 in
theorem szElement_calls (x : El) (v : Value) (ad : Option Addr) (cap : Nat) (hv : v = .slice ad x.ts.length cap) (left : Int) (w : World) (h0 : 0 ≤ left) (h1 : left ≤ 1048576) (hn : x.ts.length ≤ 9223372036854775807) :
    Calls Try.prog 12 #[x.val v, .int .i64 left] w fun e w' => e = .returned (.int .i64 (if (x.ts.length : Int) ≤ left then left - x.ts.length else -1)) ∧ Below w.heap.size w w' := by
  subst hv
  unfold El.val El.cells
  have hbl := (Below.refl w.heap.size w).alloc (Nat.le_refl _) (.cells #[.int .i64 x.p, .int .i64 x.c, .int .i64 x.n, .slice ad x.ts.length cap] 24)
  by_cases h : (x.ts.length : Int) ≤ left
  · rw [if_pos h]
    go_enter Try.func12, Try.ntmps12
    go_wp2
    go_ret
    exact ⟨rfl, hbl⟩
  · rw [if_neg h]
    go_enter Try.func12, Try.ntmps12
    go_wp2
    go_ret
    exact ⟨rfl, hbl⟩
end Go.Proofs.Yticmlgnolbccjaa
