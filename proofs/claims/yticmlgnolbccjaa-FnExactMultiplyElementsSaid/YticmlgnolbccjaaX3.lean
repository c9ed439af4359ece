/- The statements' own equality, where the two are alike. -/
import Derived.Test.YticmlgnolbccjaaX2
set_option linter.unusedVariables false
set_option linter.unusedSimpArgs false
namespace Go.Proofs.Yticmlgnolbccjaa
open Go.RowKit

set_option maxRecDepth 100000 in
theorem eqByte_calls (f : Nat → Int) (w : World) : Calls Try.prog 147 #[.agg (byt f).toArray, .agg (byt f).toArray] w fun e w' => e = .returned (.bool true) ∧ Below w.heap.size w w' := by
  have h1 := (Blk.new w (byt f).toArray 43).alloc (.cells (byt f).toArray 43)
  have h2 := Blk.newAt (w.alloc (.cells (byt f).toArray 43)) (byt f).toArray 43 (b := w.heap.size + 1) (by simp)
  have hbl := ((Below.refl w.heap.size w).alloc (Nat.le_refl _) (.cells (byt f).toArray 43)).alloc (by simp) (.cells (byt f).toArray 43)
  go_enter Try.func147, Try.ntmps147
  go_wp2_with fail
  generalize (w.alloc (.cells (byt f).toArray 43)).alloc (.cells (byt f).toArray 43) = w2 at *
  go_loopw [5] (fun i wr => ∃ j : Nat, j ≤ 16 ∧ i = .int .i64 j ∧ ∃ k, wr = w2.drewN k) (fun i _ => 16 - (intOf i).toNat)
  case atStart => exact ⟨0, by omega, rfl, 0, rfl⟩
  case round =>
    obtain ⟨j, hj, rfl, k, rfl⟩ := hrel
    by_cases hlt : j < 16
    · have hc1 := h1.cells j
      have hc2 := h2.cells j
      have hg1 := byt_get f j hlt
      simp only [List.getElem?_toArray] at hc1 hc2
      rw [hg1] at hc1 hc2
      clear hg1
      go_wp2_with fail
      go_quiet (fail)
      go_wp2_with fail
      go_roundw
      case rel => exact ⟨j + 1, by omega, by go_num, k + nq, rfl⟩
      case measure => simp [intOf]; omega
    · obtain rfl : j = 16 := by omega
      go_wp2_with fail
      go_ret
      exact ⟨rfl, bel_drewN hbl _⟩

set_option maxRecDepth 100000 in
theorem eqDiagram_calls (d : Dg) (w : World) : Calls Try.prog 130 #[.agg d.cells, .agg d.cells] w fun e w' => e = .returned (.bool true) ∧ Below w.heap.size w w' := by
  have h1 := (Blk.new w d.cells 47).alloc (.cells d.cells 47)
  have h2 := Blk.newAt (w.alloc (.cells d.cells 47)) d.cells 47 (b := w.heap.size + 1) (by simp)
  have hbl := ((Below.refl w.heap.size w).alloc (Nat.le_refl _) (.cells d.cells 47)).alloc (by simp) (.cells d.cells 47)
  have hd0 := d.cells0
  go_enter Try.func130, Try.ntmps130
  have hz : w.heap.size ≤ ((w.alloc (.cells d.cells 47)).alloc (.cells d.cells 47)).heap.size := by simp; omega
  go_wp2_with (first | (refine load_byt rfl _ rfl _ _ rfl d.m (Blk.rng1 (u := .int .i64 d.size) (cs := byt d.m) h1) ?_) | (refine load_byt rfl _ rfl _ _ rfl d.m (Blk.rng1 (u := .int .i64 d.size) (cs := byt d.m) h2) ?_) | (go_at_call 147; refine (eqByte_calls _ _).mono ?_; rintro e w3 ⟨rfl, hb3⟩))
  go_ret
  exact ⟨rfl, hbl.trans (hb3.mono hz)⟩

set_option maxRecDepth 100000 in
theorem eqTerm_calls (t : Tm) (w : World) : Calls Try.prog 94 #[.agg t.cells, .agg t.cells] w fun e w' => e = .returned (.bool true) ∧ Below w.heap.size w w' := by
  have h1 := (Blk.new w t.cells 57).alloc (.cells t.cells 57)
  have h2 := Blk.newAt (w.alloc (.cells t.cells 57)) t.cells 57 (b := w.heap.size + 1) (by simp)
  have hbl := ((Below.refl w.heap.size w).alloc (Nat.le_refl _) (.cells t.cells 57)).alloc (by simp) (.cells t.cells 57)
  have hz : w.heap.size + 2 ≤ ((w.alloc (.cells t.cells 57)).alloc (.cells t.cells 57)).heap.size := by simp
  go_enter Try.func94, Try.ntmps94
  go_wp2_with (first | (refine load_dg_mid rfl _ rfl _ _ rfl t.d h1.tm_dg ?_) | (refine load_dg_mid rfl _ rfl _ _ rfl t.d h2.tm_dg ?_))
  generalize (w.alloc (.cells t.cells 57)).alloc (.cells t.cells 57) = w2 at *
  refine (eqDiagram_calls t.d w2).mono ?_
  rintro e w3 ⟨rfl, hb3⟩
  have k1 := (h1.below hb3 (by omega)).tm_k
  have k2 := (h2.below hb3 (by omega)).tm_k
  clear h1 h2
  go_wp2_with fail
  go_ret
  exact ⟨rfl, hbl.trans (hb3.mono (by omega))⟩

section
variable {P : Program} {ops : Array Oper} {a : Act} {o : Oper} {K : Act → Prop} {w : World}
theorem quiet_load_tm_mid (x : Operand) (ho : o.op = .load 57 x) (b off : Nat) (hx : a.eval x = .pointer (some ⟨b, off, none⟩)) (t : Tm) (h : w.rangeAt b off t.vals) (hlt : b < w.heap.size)
    (hK : K (a.put o.dst (.agg t.cells))) : o.quiet Try.prog a (fun w' => ∃ p : ExtOf w, w' = p.W) K := by
  refine ⟨.agg t.cells, fun W hW => ?_, hK⟩
  obtain ⟨p, rfl⟩ := hW
  unfold Oper.quietAt execOp
  simp only [ho, hx, Instr.loadAt, Instr.sureAddr, Sem.run_bind, Sem.run_pure, Result.andThen_ok, run_loadVar_mid p.W b off 57 t.vals _ (rangeAt_below h p.h hlt) Try.underlying57 rfl (by rw [t.length_vals]; exact (info_tm).trans rfl)]
  exact ⟨rfl, rfl⟩
end

set_option maxHeartbeats 4000000 in
set_option maxRecDepth 100000 in
theorem eqTermS_calls (ts : List Tm) (v u : Value) (bv bu : Nat) (w : World) (hv : TsOwn w bv v ts) (hu : TsOwn w bu u ts) (hn : ts.length ≤ 2000000) :
    Calls Try.prog 47 #[v, u] w fun e w' => e = .returned (.bool true) ∧ Below w.heap.size w w' := by
  by_cases h0 : ts = []
  · subst h0
    obtain ⟨ad, cap, rfl, -, -⟩ := hv.slice
    obtain ⟨ad', cap', rfl, -, -⟩ := hu.slice
    go_enter Try.func47, Try.ntmps47
    go_wp2_with fail
    refine wp_loop_rounds 1 ?_
    rw [rounds_succ]
    go_wp2
    go_ret
    exact ⟨rfl, Below.refl _ _⟩
  · obtain ⟨g, cap, rfl, -, hg, hc1, hc2, hr⟩ := hv.pos h0
    obtain ⟨g', cap', rfl, -, hg', hc1', hc2', hr'⟩ := hu.pos h0
    clear hv hu h0
    go_enter Try.func47, Try.ntmps47
    go_wp2_with fail
    go_loopw [5] (fun i wr => ∃ j : Nat, j ≤ ts.length ∧ i = .int .i64 j ∧ Below w.heap.size w wr) (fun i _ => ts.length - (intOf i).toNat)
    case atStart => exact ⟨0, by omega, rfl, Below.refl _ _⟩
    case round =>
      obtain ⟨j, hj, rfl, hb⟩ := hrel
      have hz := hb.size
      by_cases hlt : j < ts.length
      · have h1 := range_tm (rangeAt_below hr hb hg) j ts[j] (List.getElem?_eq_getElem hlt)
        have h2 := range_tm (rangeAt_below hr' hb hg') j ts[j] (List.getElem?_eq_getElem hlt)
        rw [Nat.zero_add] at h1 h2
        generalize ts[j] = t at *
        go_wp2_with fail
        refine wp_region_ext (by kernel_rfl) (by kernel_rfl) ?_
        repeat (first | (go_big_quiet_want; refine quiet_load_tm_mid _ rfl _ _ rfl _ h1 (by omega) ?_; simp only [Act.put, List.setIfInBounds_toArray, List.set_cons_succ, List.set_cons_zero]; go_big_quiet_on) | (go_big_quiet_want; refine quiet_load_tm_mid _ rfl _ _ rfl _ h2 (by omega) ?_; simp only [Act.put, List.setIfInBounds_toArray, List.set_cons_succ, List.set_cons_zero]; go_big_quiet_on) | go_big_quiet_step ((go_at_call 94; exact ext_call _ (eqTerm_calls _ _))))
        refine wpQuiet_nil ?_
        rintro _ ⟨⟨W, hW⟩, rfl⟩
        go_wp2_with fail
        go_roundw
        case rel => exact ⟨j + 1, by omega, by go_num, hb.trans (hW.mono hz)⟩
        case measure => simp [intOf]; omega
      · obtain rfl : j = ts.length := by omega
        go_wp2_with fail
        go_ret
        exact ⟨rfl, hb⟩

set_option maxRecDepth 100000 in
theorem eqElement_calls (x : El) (v u : Value) (bv bu : Nat) (w : World) (hv : TsOwn w bv v x.ts) (hu : TsOwn w bu u x.ts) (hn : x.ts.length ≤ 2000000) :
    Calls Try.prog 16 #[x.val v, x.val u] w fun e w' => e = .returned (.bool true) ∧ Below w.heap.size w w' := by
  unfold El.val El.cells
  have hbl := ((Below.refl w.heap.size w).alloc (Nat.le_refl _) (.cells #[.int .i64 x.p, .int .i64 x.c, .int .i64 x.n, v] 30)).alloc (by simp) (.cells #[.int .i64 x.p, .int .i64 x.c, .int .i64 x.n, u] 30)
  have hz : w.heap.size ≤ ((w.alloc (.cells #[.int .i64 x.p, .int .i64 x.c, .int .i64 x.n, v] 30)).alloc (.cells #[.int .i64 x.p, .int .i64 x.c, .int .i64 x.n, u] 30)).heap.size := by simp; omega
  have hc := Lib.hid (eqTermS_calls x.ts v u bv bu _ (hv.below hbl (Nat.le_refl _)) (hu.below hbl (Nat.le_refl _)) hn)
  clear hv hu
  go_enter Try.func16, Try.ntmps16
  go_wp2_with fail
  refine hc.out.mono ?_
  rintro e w3 ⟨rfl, hb3⟩
  go_wp2_with fail
  go_ret
  exact ⟨rfl, hbl.trans (hb3.mono hz)⟩
end Go.Proofs.Yticmlgnolbccjaa
