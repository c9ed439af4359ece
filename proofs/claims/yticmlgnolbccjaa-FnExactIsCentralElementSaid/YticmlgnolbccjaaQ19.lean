/- Go's != on terms. -/
import Derived.Test.YticmlgnolbccjaaQ17

set_option linter.unusedVariables false
set_option linter.unusedSimpArgs false
namespace Go.Proofs.Yticmlgnolbccjaa
open Go.RowKit

theorem keyTypeTm : Try.prog.keyTypeAt 6 57 = true := by kernel_rfl
theorem keyTypeTm' : Try.prog.keyType 57 = true := by kernel_rfl
theorem formedTm (t : Tm) : (Value.agg t.cells).formed Try.prog 57 = true := by kernel_rfl
theorem wideTm : (match Try.prog.underlying 57 with | some (.array _ _) | some (.struct _) => true | _ => false) = true := by kernel_rfl
theorem cellsOfTm : Try.prog.cellsOf 57 = 18 := by kernel_rfl
set_option maxRecDepth 100000 in
theorem keyLits_tm (t : Tm) (h : t.Wf) (n : Nat) : ∃ L, Try.prog.keyLits (n + 4) 57 t.cells.toList = some L := by
  obtain ⟨L0, h0⟩ := keyLits_dg t.d h.d n
  have hk : (Lit.int .i64 t.k).wf = true := WalkArith.wf_i64 ⟨h.lo, h.hi⟩
  have e : t.cells.toList = t.vals := rfl
  rw [e, keyLits_struct (n + 3) _ _ _ Try.underlying57 (by rw [cellsOfTm, t.length_vals]) (by kernel_rfl)]
  simp only [List.mapM_cons, List.mapM_nil, cellsOfI64, cellsOfDg, List.drop_zero]
  have e1 : t.vals.take 17 = t.d.cells.toList := by
    show (t.d.list ++ [Value.int .i64 t.k]).take 17 = t.d.list
    rw [← t.d.length_list, List.take_left']; rfl
  have e2 : (t.vals.drop 17).take 1 = [.int .i64 t.k] := by
    show ((t.d.list ++ [Value.int .i64 t.k]).drop 17).take 1 = _
    rw [← t.d.length_list, List.drop_left']; rfl
    rfl
  rw [e1, e2, h0, keyLits_i64 _ _ hk]
  exact ⟨_, rfl⟩
theorem keyOf_tm (t : Tm) (h : t.Wf) : ∃ l, keyOf Try.prog 57 (.agg t.cells) = some l := by
  obtain ⟨L, hL⟩ := keyLits_tm t h (Try.prog.types.size - 3)
  have hn : Try.prog.types.size - 3 + 4 = Try.prog.types.size + 1 := by kernel_rfl
  rw [hn] at hL
  refine ⟨.string (keyBytes L), ?_⟩
  unfold keyOf
  rw [Try.underlying57]
  simp only [keyTypeTm', formedTm, Bool.and_self, if_true]
  have : (Value.agg t.cells).cells.toList = t.cells.toList := rfl
  rw [this, hL]
  rfl
set_option maxRecDepth 100000 in
theorem lawTm : WideMaps.KeyLaw Try.prog 57 :=
  deep_law_gate laidOut (of_decide_eq_true (by kernel_rfl)) (of_decide_eq_true (by kernel_rfl)) keyTypeTm' wideTm
theorem cells_inj_tm {t u : Tm} (ht : t.Wf) (hu : u.Wf) (h : t.cells = u.cells) : t = u := by
  have h1 : t.d.list ++ [Value.int .i64 t.k] = u.d.list ++ [Value.int .i64 u.k] := by
    have := congrArg Array.toList h
    simpa [Tm.cells, Tm.vals] using this
  have h2 := List.append_inj h1 (by rw [t.d.length_list, u.d.length_list])
  have h3 : t.d = u.d := cells_inj ht.d hu.d (by show t.d.list.toArray = u.d.list.toArray; rw [h2.1])
  have h4 : t.k = u.k := by simpa using h2.2
  cases t; cases u
  simp only at h3 h4
  rw [h3, h4]
set_option maxRecDepth 100000 in
theorem run_neq_tm (t u : Tm) (ht : t.Wf) (hu : u.Wf) (w : World) : (binOp .neq 57 (.agg t.cells) (.agg u.cells)).run Try.prog w = .ok (.bool (!decide (t = u))) w := by
  obtain ⟨lt, hlt⟩ := keyOf_tm t ht
  obtain ⟨lu, hlu⟩ := keyOf_tm u hu
  obtain ⟨r, hr, hrr⟩ := run_equal_deep (P := Try.prog) w (m := 6) (by omega) keyTypeTm wideTm hlt hlu
  have : r = decide (t = u) := by
    rw [Bool.eq_iff_iff, hrr, decide_eq_true_iff]
    constructor
    · intro h
      subst h
      have := (Maps.Keyed.of_law lawTm).inj hlt hlu
      exact cells_inj_tm ht hu (Value.agg.inj this)
    · intro h
      subst h
      rw [hlt] at hlu
      exact Option.some.inj hlu
  subst this
  rw [run_neq_struct]
  show ((Op.equal 57 (.agg t.cells) (.agg u.cells)).run Try.prog w).andThen _ = _
  rw [hr]
  rfl
theorem guard_tm : Try.prog.eqGuardType Try.prog.depth 57 = false := by kernel_rfl
end Go.Proofs.Yticmlgnolbccjaa

/- Lists of terms compared. -/
set_option linter.unusedVariables false
set_option linter.unusedSimpArgs false
namespace Go.Proofs.Yticmlgnolbccjaa
open Go.RowKit

section
variable {o : Oper} {a : Act} {w : World}
theorem run_tm_at {v : Value} (x : Operand) (ho : o.op = .load 57 x) (b off : Nat) (hx : a.eval x = .pointer (some ⟨b, off, none⟩)) (t : Tm) (h : w.rangeAt b off t.vals) (hv : v = .agg t.cells) :
    (execOp a.eval o).run Try.prog w = .ok (.value v) w := by
  subst hv
  unfold execOp
  simp only [ho, hx, Instr.loadAt, Instr.sureAddr, Sem.run_bind, Sem.run_pure, Result.andThen_ok, run_loadVar_mid w b off 57 t.vals _ h Try.underlying57 rfl (by rw [t.length_vals]; exact (info_tm).trans rfl)]
  rfl
theorem run_neq_at {v : Bool} (x y : Operand) (ho : o.op = .binOp .neq 57 x y 57) (t u : Tm) (hx : a.eval x = .agg t.cells) (hy : a.eval y = .agg u.cells) (ht : t.Wf) (hu : u.Wf) (hv : (!decide (t = u)) = v) :
    (execOp a.eval o).run Try.prog w = .ok (.value (.bool v)) w := by
  subst hv
  unfold execOp
  simp only [ho, hx, hy, Sem.run_bind, run_eqGuard_agg _ _ _ _ _ _ _ guard_tm, run_neq_tm t u ht hu w, Result.andThen_ok, Sem.run_pure]
end
theorem Below.drew' {B : Nat} {a w : World} (h : Below B a w) : Below B a w.drew := ⟨h.os, h.tape, h.output, h.size, h.block⟩
theorem Nf.wf {p : Int} {n : Nat} {ts : List Tm} (h : Nf p n ts) (hp : p ≤ 97) : ∀ t ∈ ts, t.Wf := fun t ht => by
  have h1 := h.mem t ht
  exact ⟨h1.1.wf, by omega, by omega⟩
theorem take_next {ts us : List Tm} {j : Nat} (hl : ts.length = us.length) (hj : j < ts.length) (hj' : j < us.length) (h : ts.take j = us.take j) (he : ts[j] = us[j]) : ts.take (j + 1) = us.take (j + 1) := by
  rw [List.take_succ_eq_append_getElem hj, List.take_succ_eq_append_getElem hj', h, he]
theorem take_all {ts us : List Tm} (hl : ts.length = us.length) (h : ts.take ts.length = us.take ts.length) : ts = us := by
  rw [List.take_length, hl, List.take_length] at h
  exact h

set_option maxHeartbeats 8000000 in
set_option maxRecDepth 100000 in
theorem specSame_calls (p c : Int) (n : Nat) (ts us : List Tm) (hwt : ∀ t ∈ ts, t.Wf) (hwu : ∀ t ∈ us, t.Wf) (vx vy : Value) (w : World) (hx : LIn w vx ts) (hy : LIn w vy us) :
    Calls Try.prog 40 #[el p c n vx, el p c n vy] w fun e w' => e = .returned (.bool (decide (ts = us))) ∧ Below w.heap.size w w' := by
  obtain ⟨ad1, cap1, rfl, hc1, hm1, hrd1⟩ := hx
  obtain ⟨ad2, cap2, rfl, hc2, hm2, hrd2⟩ := hy
  have Hrd1 := Lib.hid hrd1
  have Hrd2 := Lib.hid hrd2
  have Hwt := Lib.hid hwt
  have Hwu := Lib.hid hwu
  clear hrd1 hrd2 hwt hwu
  unfold el
  have hX := (Blk.new w #[.int .i64 p, .int .i64 c, .int .i64 n, .slice ad1 ts.length cap1] 30).alloc (.cells #[.int .i64 p, .int .i64 c, .int .i64 n, .slice ad2 us.length cap2] 30)
  have hY := Blk.newAt (w.alloc (.cells #[.int .i64 p, .int .i64 c, .int .i64 n, .slice ad1 ts.length cap1] 30)) #[.int .i64 p, .int .i64 c, .int .i64 n, .slice ad2 us.length cap2] 30 (b := w.heap.size + 1) (by simp)
  have hbl := ((Below.refl w.heap.size w).alloc (Nat.le_refl _) (.cells #[.int .i64 p, .int .i64 c, .int .i64 n, .slice ad1 ts.length cap1] 30)).alloc (by simp) (.cells #[.int .i64 p, .int .i64 c, .int .i64 n, .slice ad2 us.length cap2] 30)
  have hcX := hX.cells
  have hcY := hY.cells
  have hz2 := hY.lt
  by_cases hl : ts.length = us.length
  · have hlb : ((ts.length : Int) == us.length) = true := by simp [hl]
    have hl1 : ts.length ≤ us.length := by omega
    have hl2 : us.length ≤ ts.length := by omega
    have Hl := Lib.hid hl
    clear hl
    go_enter Try.func40, Try.ntmps40
    go_wp2_with fail
    generalize (w.alloc (.cells #[.int .i64 p, .int .i64 c, .int .i64 n, .slice ad1 ts.length cap1] 30)).alloc (.cells #[.int .i64 p, .int .i64 c, .int .i64 n, .slice ad2 us.length cap2] 30) = w2 at *
    go_loopw [5] (fun i wr => ∃ j : Nat, j ≤ ts.length ∧ i = .int .i64 j ∧ ts.take j = us.take j ∧ Below w2.heap.size w2 wr) (fun i _ => ts.length - (intOf i).toNat)
    case atStart => exact ⟨0, by omega, rfl, rfl, Below.refl _ _⟩
    case round =>
      obtain ⟨j, hj, rfl, htk, hbl3⟩ := hrel
      have hX3 := hX.below hbl3 hX.lt
      have hY3 := hY.below hbl3 hY.lt
      have hcX3 := hX3.cells
      have hz3 := hbl3.size
      have hbr := hbl.trans (hbl3.mono (by omega))
      have Htk := Lib.hid htk
      clear htk
      by_cases hlt : j < ts.length
      · have hlt' : j < us.length := by omega
        obtain ⟨g1, o1, rfl, hg1, hr1⟩ := Hrd1.out (fun e => by rw [e] at hlt; simp at hlt)
        obtain ⟨g2, o2, rfl, hg2, hr2⟩ := Hrd2.out (fun e => by rw [e] at hlt'; simp at hlt')
        have hra := range_tm (rangeAt_below hr1 hbr hg1) j ts[j] (List.getElem?_eq_getElem hlt)
        have hrb := range_tm (rangeAt_below hr2 hbr hg2) j us[j] (List.getElem?_eq_getElem hlt')
        have hga : g1 < wr.heap.size := by omega
        have hgb : g2 < wr.heap.size := by omega
        have hwa := Hwt.out ts[j] (List.getElem_mem hlt)
        have hwb := Hwu.out us[j] (List.getElem_mem hlt')
        go_wp2_with fail
        by_cases heq : ts[j] = us[j]
        · have hnext := Lib.hid (take_next Hl.out hlt hlt' Htk.out heq)
          refine wp_region_old (by kernel_rfl) (fun hS => ?_)
          refine takeA 0 (v := ?_) hS ?_ ?_
          rotate_left
          focus (intro W hW; go_simp; first | done | with_reducible rfl)
          try simp only [Act.put, List.setIfInBounds_toArray, List.set_cons_zero, List.set_cons_succ]
          refine takeA 1 (v := ?_) hS ?_ ?_
          rotate_left
          focus (intro W hW; have q1 := (hX3.below hW hX3.lt).cells; have q2 := (hY3.below hW hY3.lt).cells; go_simp; first | done | with_reducible rfl)
          try simp only [Act.put, List.setIfInBounds_toArray, List.set_cons_zero, List.set_cons_succ]
          refine takeA 2 (v := ?_) hS ?_ ?_
          rotate_left
          focus (intro W hW; go_simp; first | done | with_reducible rfl)
          try simp only [Act.put, List.setIfInBounds_toArray, List.set_cons_zero, List.set_cons_succ]
          refine takeA 3 (v := ?_) hS ?_ ?_
          rotate_left
          focus (intro W hW; go_simp; first | done | with_reducible rfl)
          try simp only [Act.put, List.setIfInBounds_toArray, List.set_cons_zero, List.set_cons_succ]
          refine takeA 4 (v := .agg ts[j].cells) hS ?_ ?_
          · exact fun W hW => run_tm_at _ rfl _ _ rfl _ (rangeAt_below hra hW hga) rfl
          try simp only [Act.put, List.setIfInBounds_toArray, List.set_cons_zero, List.set_cons_succ]
          refine takeA 5 (v := ?_) hS ?_ ?_
          rotate_left
          focus (intro W hW; go_simp; first | done | with_reducible rfl)
          try simp only [Act.put, List.setIfInBounds_toArray, List.set_cons_zero, List.set_cons_succ]
          refine takeA 6 (v := ?_) hS ?_ ?_
          rotate_left
          focus (intro W hW; have q1 := (hX3.below hW hX3.lt).cells; have q2 := (hY3.below hW hY3.lt).cells; go_simp; first | done | with_reducible rfl)
          try simp only [Act.put, List.setIfInBounds_toArray, List.set_cons_zero, List.set_cons_succ]
          refine takeA 7 (v := ?_) hS ?_ ?_
          rotate_left
          focus (intro W hW; go_simp; first | done | with_reducible rfl)
          try simp only [Act.put, List.setIfInBounds_toArray, List.set_cons_zero, List.set_cons_succ]
          refine takeA 8 (v := ?_) hS ?_ ?_
          rotate_left
          focus (intro W hW; go_simp; first | done | with_reducible rfl)
          try simp only [Act.put, List.setIfInBounds_toArray, List.set_cons_zero, List.set_cons_succ]
          refine takeA 9 (v := .agg us[j].cells) hS ?_ ?_
          · exact fun W hW => run_tm_at _ rfl _ _ rfl _ (rangeAt_below hrb hW hgb) rfl
          try simp only [Act.put, List.setIfInBounds_toArray, List.set_cons_zero, List.set_cons_succ]
          refine takeA 10 (v := .bool false) hS ?_ ?_
          · exact fun W hW => run_neq_at _ _ rfl ts[j] us[j] rfl rfl hwa hwb (by rw [Bool.not_eq_eq_eq_not]; simp [heq])
          try simp only [Act.put, List.setIfInBounds_toArray, List.set_cons_zero, List.set_cons_succ]
          refine wpAnyH_done (by decide +kernel) ?_ _
          go_wp2_with fail
          go_roundw
          case rel => exact ⟨j + 1, by omega, by go_num, hnext, Below.drew' hbl3⟩
          case measure => simp [intOf] <;> omega

        · have hne : ts ≠ us := fun e => heq (by subst e; rfl)
          refine wp_region_old (by kernel_rfl) (fun hS => ?_)
          refine takeA 0 (v := ?_) hS ?_ ?_
          rotate_left
          focus (intro W hW; go_simp; first | done | with_reducible rfl)
          try simp only [Act.put, List.setIfInBounds_toArray, List.set_cons_zero, List.set_cons_succ]
          refine takeA 1 (v := ?_) hS ?_ ?_
          rotate_left
          focus (intro W hW; have q1 := (hX3.below hW hX3.lt).cells; have q2 := (hY3.below hW hY3.lt).cells; go_simp; first | done | with_reducible rfl)
          try simp only [Act.put, List.setIfInBounds_toArray, List.set_cons_zero, List.set_cons_succ]
          refine takeA 2 (v := ?_) hS ?_ ?_
          rotate_left
          focus (intro W hW; go_simp; first | done | with_reducible rfl)
          try simp only [Act.put, List.setIfInBounds_toArray, List.set_cons_zero, List.set_cons_succ]
          refine takeA 3 (v := ?_) hS ?_ ?_
          rotate_left
          focus (intro W hW; go_simp; first | done | with_reducible rfl)
          try simp only [Act.put, List.setIfInBounds_toArray, List.set_cons_zero, List.set_cons_succ]
          refine takeA 4 (v := .agg ts[j].cells) hS ?_ ?_
          · exact fun W hW => run_tm_at _ rfl _ _ rfl _ (rangeAt_below hra hW hga) rfl
          try simp only [Act.put, List.setIfInBounds_toArray, List.set_cons_zero, List.set_cons_succ]
          refine takeA 5 (v := ?_) hS ?_ ?_
          rotate_left
          focus (intro W hW; go_simp; first | done | with_reducible rfl)
          try simp only [Act.put, List.setIfInBounds_toArray, List.set_cons_zero, List.set_cons_succ]
          refine takeA 6 (v := ?_) hS ?_ ?_
          rotate_left
          focus (intro W hW; have q1 := (hX3.below hW hX3.lt).cells; have q2 := (hY3.below hW hY3.lt).cells; go_simp; first | done | with_reducible rfl)
          try simp only [Act.put, List.setIfInBounds_toArray, List.set_cons_zero, List.set_cons_succ]
          refine takeA 7 (v := ?_) hS ?_ ?_
          rotate_left
          focus (intro W hW; go_simp; first | done | with_reducible rfl)
          try simp only [Act.put, List.setIfInBounds_toArray, List.set_cons_zero, List.set_cons_succ]
          refine takeA 8 (v := ?_) hS ?_ ?_
          rotate_left
          focus (intro W hW; go_simp; first | done | with_reducible rfl)
          try simp only [Act.put, List.setIfInBounds_toArray, List.set_cons_zero, List.set_cons_succ]
          refine takeA 9 (v := .agg us[j].cells) hS ?_ ?_
          · exact fun W hW => run_tm_at _ rfl _ _ rfl _ (rangeAt_below hrb hW hgb) rfl
          try simp only [Act.put, List.setIfInBounds_toArray, List.set_cons_zero, List.set_cons_succ]
          refine takeA 10 (v := .bool true) hS ?_ ?_
          · exact fun W hW => run_neq_at _ _ rfl ts[j] us[j] rfl rfl hwa hwb (by rw [Bool.not_eq_eq_eq_not]; simp [heq])
          try simp only [Act.put, List.setIfInBounds_toArray, List.set_cons_zero, List.set_cons_succ]
          refine wpAnyH_done (by decide +kernel) ?_ _
          have hne2 : decide (ts = us) = false := decide_eq_false hne
          have Hne2 := Lib.hid hne2
          clear hne2
          go_wp2_with fail
          go_ret
          exact ⟨by first | (rw [Hne2.out]; done) | (rw [Hne2.out]; rfl), Below.drew' hbr⟩

      · obtain rfl : j = ts.length := by omega
        have he := take_all Hl.out Htk.out
        have he2 : decide (ts = us) = true := decide_eq_true he
        have He2 := Lib.hid he2
        clear he he2
        go_wp2_with fail
        go_ret
        exact ⟨by first | (rw [He2.out]; done) | (rw [He2.out]; rfl), hbr⟩
  · have hne : decide (ts = us) = false := decide_eq_false (fun e => hl (by rw [e]))
    have Hne := Lib.hid hne
    have hlb : ((ts.length : Int) == us.length) = false := beq_eq_false_iff_ne.2 (by omega)
    clear hne
    go_enter Try.func40, Try.ntmps40
    go_wp2_with fail
    go_ret
    exact ⟨by first | (rw [Hne.out]; done) | (rw [Hne.out]; rfl), hbl⟩
set_option maxHeartbeats 8000000 in
set_option maxRecDepth 100000 in
theorem implSame_calls (ts us : List Tm) (hwt : ∀ t ∈ ts, t.Wf) (hwu : ∀ t ∈ us, t.Wf) (vx vy : Value) (w : World) (hx : LIn w vx ts) (hy : LIn w vy us) :
    Calls Try.prog 46 #[vx, vy] w fun e w' => e = .returned (.bool (decide (ts = us))) ∧ Below w.heap.size w w' := by
  obtain ⟨ad1, cap1, rfl, hc1, hm1, hrd1⟩ := hx
  obtain ⟨ad2, cap2, rfl, hc2, hm2, hrd2⟩ := hy
  have Hrd1 := Lib.hid hrd1
  have Hrd2 := Lib.hid hrd2
  have Hwt := Lib.hid hwt
  have Hwu := Lib.hid hwu
  clear hrd1 hrd2 hwt hwu
  by_cases hl : ts.length = us.length
  · have hlb : ((ts.length : Int) == us.length) = true := by simp [hl]
    have hl1 : ts.length ≤ us.length := by omega
    have hl2 : us.length ≤ ts.length := by omega
    have Hl := Lib.hid hl
    clear hl
    go_enter Try.func46, Try.ntmps46
    go_wp2_with fail
    go_loopw [13] (fun i wr => ∃ j : Nat, j ≤ ts.length ∧ i = .int .i64 j ∧ ts.take j = us.take j ∧ Below w.heap.size w wr) (fun i _ => ts.length - (intOf i).toNat)
    case atStart => exact ⟨0, by omega, rfl, rfl, Below.refl _ _⟩
    case round =>
      obtain ⟨j, hj, rfl, htk, hbl3⟩ := hrel
      have hz3 := hbl3.size
      have hbr := hbl3
      have Htk := Lib.hid htk
      clear htk
      by_cases hlt : j < ts.length
      · have hlt' : j < us.length := by omega
        obtain ⟨g1, o1, rfl, hg1, hr1⟩ := Hrd1.out (fun e => by rw [e] at hlt; simp at hlt)
        obtain ⟨g2, o2, rfl, hg2, hr2⟩ := Hrd2.out (fun e => by rw [e] at hlt'; simp at hlt')
        have hra := range_tm (rangeAt_below hr1 hbr hg1) j ts[j] (List.getElem?_eq_getElem hlt)
        have hrb := range_tm (rangeAt_below hr2 hbr hg2) j us[j] (List.getElem?_eq_getElem hlt')
        have hga : g1 < wr.heap.size := by omega
        have hgb : g2 < wr.heap.size := by omega
        have hwa := Hwt.out ts[j] (List.getElem_mem hlt)
        have hwb := Hwu.out us[j] (List.getElem_mem hlt')
        go_wp2_with fail
        by_cases heq : ts[j] = us[j]
        · have hnext := Lib.hid (take_next Hl.out hlt hlt' Htk.out heq)
          refine wp_region_old (by kernel_rfl) (fun hS => ?_)
          refine takeA 0 (v := ?_) hS ?_ ?_
          rotate_left
          focus (intro W hW; go_simp; first | done | with_reducible rfl)
          try simp only [Act.put, List.setIfInBounds_toArray, List.set_cons_zero, List.set_cons_succ]
          refine takeA 1 (v := ?_) hS ?_ ?_
          rotate_left
          focus (intro W hW; go_simp; first | done | with_reducible rfl)
          try simp only [Act.put, List.setIfInBounds_toArray, List.set_cons_zero, List.set_cons_succ]
          refine takeA 2 (v := ?_) hS ?_ ?_
          rotate_left
          focus (intro W hW; go_simp; first | done | with_reducible rfl)
          try simp only [Act.put, List.setIfInBounds_toArray, List.set_cons_zero, List.set_cons_succ]
          refine takeA 3 (v := .agg ts[j].cells) hS ?_ ?_
          · exact fun W hW => run_tm_at _ rfl _ _ rfl _ (rangeAt_below hra hW hga) rfl
          try simp only [Act.put, List.setIfInBounds_toArray, List.set_cons_zero, List.set_cons_succ]
          refine takeA 4 (v := ?_) hS ?_ ?_
          rotate_left
          focus (intro W hW; go_simp; first | done | with_reducible rfl)
          try simp only [Act.put, List.setIfInBounds_toArray, List.set_cons_zero, List.set_cons_succ]
          refine takeA 5 (v := ?_) hS ?_ ?_
          rotate_left
          focus (intro W hW; go_simp; first | done | with_reducible rfl)
          try simp only [Act.put, List.setIfInBounds_toArray, List.set_cons_zero, List.set_cons_succ]
          refine takeA 6 (v := ?_) hS ?_ ?_
          rotate_left
          focus (intro W hW; go_simp; first | done | with_reducible rfl)
          try simp only [Act.put, List.setIfInBounds_toArray, List.set_cons_zero, List.set_cons_succ]
          refine takeA 7 (v := .agg us[j].cells) hS ?_ ?_
          · exact fun W hW => run_tm_at _ rfl _ _ rfl _ (rangeAt_below hrb hW hgb) rfl
          try simp only [Act.put, List.setIfInBounds_toArray, List.set_cons_zero, List.set_cons_succ]
          refine takeA 8 (v := .bool false) hS ?_ ?_
          · exact fun W hW => run_neq_at _ _ rfl ts[j] us[j] rfl rfl hwa hwb (by rw [Bool.not_eq_eq_eq_not]; simp [heq])
          try simp only [Act.put, List.setIfInBounds_toArray, List.set_cons_zero, List.set_cons_succ]
          refine wpAnyH_done (by decide +kernel) ?_ _
          go_wp2_with fail
          go_roundw
          case rel => exact ⟨j + 1, by omega, by go_num, hnext.out, Below.drew' hbl3⟩
          case measure => simp [intOf] <;> omega

        · have hne : ts ≠ us := fun e => heq (by subst e; rfl)
          refine wp_region_old (by kernel_rfl) (fun hS => ?_)
          refine takeA 0 (v := ?_) hS ?_ ?_
          rotate_left
          focus (intro W hW; go_simp; first | done | with_reducible rfl)
          try simp only [Act.put, List.setIfInBounds_toArray, List.set_cons_zero, List.set_cons_succ]
          refine takeA 1 (v := ?_) hS ?_ ?_
          rotate_left
          focus (intro W hW; go_simp; first | done | with_reducible rfl)
          try simp only [Act.put, List.setIfInBounds_toArray, List.set_cons_zero, List.set_cons_succ]
          refine takeA 2 (v := ?_) hS ?_ ?_
          rotate_left
          focus (intro W hW; go_simp; first | done | with_reducible rfl)
          try simp only [Act.put, List.setIfInBounds_toArray, List.set_cons_zero, List.set_cons_succ]
          refine takeA 3 (v := .agg ts[j].cells) hS ?_ ?_
          · exact fun W hW => run_tm_at _ rfl _ _ rfl _ (rangeAt_below hra hW hga) rfl
          try simp only [Act.put, List.setIfInBounds_toArray, List.set_cons_zero, List.set_cons_succ]
          refine takeA 4 (v := ?_) hS ?_ ?_
          rotate_left
          focus (intro W hW; go_simp; first | done | with_reducible rfl)
          try simp only [Act.put, List.setIfInBounds_toArray, List.set_cons_zero, List.set_cons_succ]
          refine takeA 5 (v := ?_) hS ?_ ?_
          rotate_left
          focus (intro W hW; go_simp; first | done | with_reducible rfl)
          try simp only [Act.put, List.setIfInBounds_toArray, List.set_cons_zero, List.set_cons_succ]
          refine takeA 6 (v := ?_) hS ?_ ?_
          rotate_left
          focus (intro W hW; go_simp; first | done | with_reducible rfl)
          try simp only [Act.put, List.setIfInBounds_toArray, List.set_cons_zero, List.set_cons_succ]
          refine takeA 7 (v := .agg us[j].cells) hS ?_ ?_
          · exact fun W hW => run_tm_at _ rfl _ _ rfl _ (rangeAt_below hrb hW hgb) rfl
          try simp only [Act.put, List.setIfInBounds_toArray, List.set_cons_zero, List.set_cons_succ]
          refine takeA 8 (v := .bool true) hS ?_ ?_
          · exact fun W hW => run_neq_at _ _ rfl ts[j] us[j] rfl rfl hwa hwb (by rw [Bool.not_eq_eq_eq_not]; simp [heq])
          try simp only [Act.put, List.setIfInBounds_toArray, List.set_cons_zero, List.set_cons_succ]
          refine wpAnyH_done (by decide +kernel) ?_ _
          have hne2 : decide (ts = us) = false := decide_eq_false hne
          have Hne2 := Lib.hid hne2
          clear hne2
          go_wp2_with fail
          go_ret
          exact ⟨by first | (rw [Hne2.out]; done) | (rw [Hne2.out]; rfl), Below.drew' hbr⟩

      · obtain rfl : j = ts.length := by omega
        have he := take_all Hl.out Htk.out
        have he2 : decide (ts = us) = true := decide_eq_true he
        have He2 := Lib.hid he2
        clear he he2
        go_wp2_with fail
        go_ret
        exact ⟨by first | (rw [He2.out]; done) | (rw [He2.out]; rfl), hbr⟩
  · have hne : decide (ts = us) = false := decide_eq_false (fun e => hl (by rw [e]))
    have Hne := Lib.hid hne
    have hlb : ((ts.length : Int) == us.length) = false := beq_eq_false_iff_ne.2 (by omega)
    clear hne
    go_enter Try.func46, Try.ntmps46
    go_wp2_with fail
    go_ret
    exact ⟨by first | (rw [Hne.out]; done) | (rw [Hne.out]; rfl), Below.refl _ _⟩
end Go.Proofs.Yticmlgnolbccjaa

/- Cups as elements; rows of elements; the generators. -/
set_option linter.unusedVariables false
set_option linter.unusedSimpArgs false
namespace Go.Proofs.Yticmlgnolbccjaa
open Go.RowKit Go.Maps

def sngT (d : Dg) : List Tm := [⟨d, 1⟩]
theorem sngT_nf {p : Int} {n : Nat} {d : Dg} (hp : 2 ≤ p) (h : Good d ∧ d.size = n) : Nf p n (sngT d) := by
  refine ⟨fun t ht => ?_, by simp [sngT]⟩
  have : t = ⟨d, 1⟩ := by simpa [sngT] using ht
  subst this
  exact ⟨h.1, h.2, by show (1 : Int) ≤ 1; omega, by show (1 : Int) < p; omega⟩
theorem coef_sng {d e : Dg} : coef (sngT d) e = if e = d then 1 else 0 := by
  show (if d = e then 1 else 0) = _
  by_cases h : e = d
  · rw [if_pos h, if_pos h.symm]
  · rw [if_neg h, if_neg (fun x => h x.symm)]
theorem cup_len : ∀ n : Nat, n < 9 → ∀ i : Nat, i < 7 → 2 ≤ n → i + 2 ≤ n → (Dg.cup n i).mate.length = 16 := by decide +kernel
theorem cup_bytes : ((List.range 9).all fun n => (List.range 7).all fun i => (List.range 16).all fun j => decide (2 ≤ n → i + 2 ≤ n → 0 ≤ (Dg.cup n i).m j ∧ (Dg.cup n i).m j ≤ 255)) = true := by decide +kernel
theorem cup_byte (j : Nat) (hj : j < 16) (n : Nat) (hn : n < 9) (i : Nat) (hi : i < 7) (h2 : 2 ≤ n) (h3 : i + 2 ≤ n) : 0 ≤ (Dg.cup n i).m j ∧ (Dg.cup n i).m j ≤ 255 := by
  have h := List.all_eq_true.1 (List.all_eq_true.1 (List.all_eq_true.1 cup_bytes n (List.mem_range.2 hn)) i (List.mem_range.2 hi)) j (List.mem_range.2 hj)
  exact of_decide_eq_true h h2 h3
theorem cup_size : ∀ n : Nat, n < 9 → ∀ i : Nat, i < 7 → 2 ≤ n → i + 2 ≤ n → (Dg.cup n i).size = n := by decide +kernel
theorem cup_ok : ∀ n : Nat, n < 9 → ∀ i : Nat, i < 7 → 2 ≤ n → i + 2 ≤ n → (Dg.cup n i).Ok := by decide +kernel
theorem cup_good (n i : Nat) (h2 : 2 ≤ n) (h8 : n ≤ 8) (hi : i + 2 ≤ n) : Good (Dg.cup n i) ∧ (Dg.cup n i).size = n := by
  have h5 := cup_size n (by omega) i (by omega) h2 hi
  exact ⟨⟨wf_of (cup_len n (by omega) i (by omega) h2 hi) (fun j hj => cup_byte j hj n (by omega) i (by omega) h2 hi) (by omega) (by omega), cup_ok n (by omega) i (by omega) h2 hi⟩, h5⟩

set_option maxHeartbeats 4000000 in
set_option maxRecDepth 100000 in
/-- One diagram of the number one, as an element of the program. -/
theorem implSingleD_calls (p c : Int) (n : Nat) (d : Dg) (w : World) (hp : 2 ≤ p) (hp97 : p ≤ 97) (hgd : Good d ∧ d.size = n) :
    Calls Try.prog 79 #[.int .i64 p, .int .i64 c, .agg d.cells, .int .i64 1] w fun e w' => ∃ v, e = .returned (el p c n v) ∧ TsOwn w' w.heap.size v (sngT d) ∧ Below w.heap.size w w' := by
  have hT := sngT_nf (p := p) hp hgd
  have hcf : ∀ e : Dg, e.Wf → (fun e => if e = d then 1 else (fun _ => 0) e : Dg → Int) e % p = coef (sngT d) e := fun e _ => by
    have h2 := coef_range hT (by omega) e
    have h3 := coef_sng (e := e) (d := d)
    show (if e = d then (1 : Int) else 0) % p = _
    rw [← h3, Int.emod_eq_of_lt h2.1 h2.2]
  have hsz := hgd.2
  have Hgd := Lib.hid hgd.1
  have HT := Lib.hid hT
  have Hcf := Lib.hid hcf
  have hpt := hgd.1.wf
  have hmm := @run_makeMap Try.prog
  have hbe := run_build_el' p c n
  clear hgd hT hcf
  have hD := ((Blk.new w (d).cells 47).alloc (.cells #[.int .i64 0, .int .i64 0, .int .i64 0, .slice none 0 0] 30))
  have hR := Blk.newAt (w.alloc (.cells (d).cells 47)) #[.int .i64 0, .int .i64 0, .int .i64 0, .slice none 0 0] 30 (b := w.heap.size + 1) (by simp)
  have hbl := ((Below.refl w.heap.size w).alloc (Nat.le_refl _) (.cells (d).cells 47)).alloc (by simp) (.cells #[.int .i64 0, .int .i64 0, .int .i64 0, .slice none 0 0] 30)
  have hs0 : (d).cells[0]? = some (.int .i64 (n : Int)) := by rw [Dg.cells0, hsz]
  have hcD := hD.cells
  go_enter Try.func79, Try.ntmps79
  go_upto_region 2 with (first | (refine store_el rfl _ _ rfl _ rfl _ rfl rfl (el_all rfl) _ _ (Blk.newAt _ _ _ (by simp)) rfl ?_; intro w3 h3 ho3))
  have hD3 := (((hD.alloc (.cells #[.int .i64 0, .int .i64 0, .int .i64 0, .slice none 0 0] 30)).only ho3 (by omega))).alloc (.map #[] 0)
  have hR3 := (((hR.alloc (.cells #[.int .i64 0, .int .i64 0, .int .i64 0, .slice none 0 0] 30)).only ho3 (by omega))).alloc (.map #[] 0)
  have hbl3 := (((hbl.alloc (by simp; omega) (.cells #[.int .i64 0, .int .i64 0, .int .i64 0, .slice none 0 0] 30)).trans (ho3.below (by omega)))).alloc (by have := h3.lt; omega) (.map #[] 0)
  have hM := MapIs.new w3 n
  have hz3 := h3.lt
  have h4 := h3.alloc (.map #[] 0)
  clear hD hR hbl h3 ho3 hcD hs0
  go_wp2_with (first | (refine load_dg rfl _ rfl _ rfl d _ hD3 ?_) | (refine insert_dg rfl _ _ _ rfl _ 0 n _ rfl hM (by omega) d Hgd.out hsz rfl 1 rfl (by decide) ?_; intro w5 hM5 hg5; have h5 := h4.grown hg5 (by simp; omega); have hR5 := hR3.grown hg5 (by simp; omega); have hbl5 : Below w.heap.size w w5 := hbl3.grown hg5 (by have := h4.lt; omega) (fun k hk => by have := Option.some.inj hk; omega)))
  have hcall := with_calls p c n n _ (sngT d) hp hp97 HT.out Hcf.out (fun e _ => by show _ ≤ (if e = d then (1 : Int) else 0) ∧ (if e = d then (1 : Int) else 0) ≤ _; split <;> omega) _ _ 1 _ _ w5 h5 hM5 (by omega)
  rw [szOf_same] at hcall
  refine hcall.mono ?_
  rintro e w6 ⟨v, rfl, hv6, hb6⟩
  have hR6 := hR5.below hb6 hR5.lt
  have hbl6 := hbl5.trans (hb6.mono (by have := hR5.lt; omega))
  have h1c : v.oneCell' = true := hv6.oneCell
  have hz5 := h5.lt
  clear hcall
  go_wp2_with (first | (refine store_el rfl _ _ rfl _ rfl _ rfl rfl (el_all h1c) _ _ hR6 rfl ?_; intro w9 hR9 ho9))
  refine ret_el rfl _ rfl _ rfl _ hR9 rfl ?_
  exact ⟨v, rfl, (hv6.only ho9 (hv6.ne_low (by omega))).mono (by omega), hbl6.trans (ho9.below (by omega))⟩

/-- The cells of a row of elements whose terms lie where L says. -/
def ec (p c : Int) (n : Nat) (L : List Value) : List Value := L.flatMap fun u => [.int .i64 p, .int .i64 c, .int .i64 n, u]
theorem length_ec (p c : Int) (n : Nat) : ∀ L : List Value, (ec p c n L).length = L.length * 4
  | [] => rfl
  | u :: L => by
    have := length_ec p c n L
    show (_ ++ ec p c n L).length = _
    rw [List.length_append, this, List.length_cons]
    simp; omega
theorem ec_append (p c : Int) (n : Nat) (L M : List Value) : ec p c n (L ++ M) = ec p c n L ++ ec p c n M := by simp [ec]
theorem ec_at (p c : Int) (n : Nat) : ∀ (L : List Value) (i k : Nat) (u : Value), L[i]? = some u → k < 4 → (ec p c n L)[i * 4 + k]? = [Value.int .i64 p, .int .i64 c, .int .i64 n, u][k]?
  | [], i, k, u, h, _ => by simp at h
  | x :: L, 0, k, u, h, hk => by
    obtain rfl : x = u := by simpa using h
    show ([Value.int .i64 p, .int .i64 c, .int .i64 n, x] ++ ec p c n L)[0 * 4 + k]? = _
    rw [List.getElem?_append_left (by simp; omega)]; simp
  | x :: L, i + 1, k, u, h, hk => by
    show ([Value.int .i64 p, .int .i64 c, .int .i64 n, x] ++ ec p c n L)[(i + 1) * 4 + k]? = _
    rw [List.getElem?_append_right (by simp; omega)]
    have := ec_at p c n L i k u (by simpa using h) hk
    rw [← this]
    congr 1
    simp; omega
/-- A row of the first j cups, as elements. -/
def Gens (w : World) (base : Nat) (v : Value) (p c : Int) (n j : Nat) : Prop :=
  ∃ L : List Value, L.length = j ∧ w.ownsRow base 30 4 v j (ec p c n L) ∧ v ≠ .slice none 0 0 ∧ ∀ (i : Nat) (u : Value), L[i]? = some u → TsS w base u (sngT (Dg.cup n i))
theorem own_gen {w : World} {base : Nat} {v : Value} {n : Nat} {xs : List Value} (h : w.ownsRow base 30 4 v n xs) (hv : v ≠ .slice none 0 0) : ∃ g cap cur, v = .slice (some ⟨g, 0, none⟩) n cap ∧ base ≤ g ∧ Blk w g cur 30 ∧ n ≤ cap ∧ cap ≤ maxLen ∧ cur.toList.take (n * 4) = xs := by
  rcases h.2 with ⟨h1, _⟩ | ⟨g, cap, cur, h1, h2, h3, h4, h5, h6, h7⟩
  · exact absurd h1 hv
  · exact ⟨g, cap, cur, h1, h2, h3, h4, h5, h7⟩
theorem Gens.below {w w' : World} {base B : Nat} {v : Value} {p c : Int} {n j : Nat} (h : Gens w base v p c n j) (hb : Below B w w') (hB : w.heap.size ≤ B) : Gens w' base v p c n j := by
  obtain ⟨L, h1, h2, h3, h4⟩ := h
  refine ⟨L, h1, ?_, h3, fun i u hu => (h4 i u hu).below hb hB⟩
  refine ⟨h2.1, ?_⟩
  obtain ⟨g, cap, cur, r1, r2, r3, r4, r5, r6, r7⟩ := (h2.2.resolve_left fun e => h3 e.1)
  have hg := (Array.getElem?_eq_some_iff.1 r3).1
  exact .inr ⟨g, cap, cur, r1, r2, (hb.block g (by omega)).trans r3, r4, r5, r6, r7⟩
theorem fill_el (a b c d : Value) : Instr.fill (fun i => some (i * 4, 4)) ((Array.range (1 * 4)).map ((Value.agg #[.int .i64 0, .int .i64 0, .int .i64 0, .slice none 0 0]).cells[· % (Value.agg #[.int .i64 0, .int .i64 0, .int .i64 0, .slice none 0 0]).cells.size]!)) [(0, .agg #[a, b, c, d])] = some #[a, b, c, d] := by kernel_rfl
section
variable {o : Oper} {a : Act} {w : World} {K : Act → World → Prop} {Q : Exit → Act → World → Prop}
set_option maxRecDepth 100000 in
theorem wp_row_el (x : Operand) (ho : o.op = .buildSlice 60 1 #[(0, x)]) (a0 b0 c0 d0 : Value) (hx : a.eval x = .agg #[a0, b0, c0, d0])
    (h : K (a.put o.dst (.slice (some ⟨w.heap.size, 0, none⟩) 1 1)) (w.alloc (.cells #[a0, b0, c0, d0] 30))) : o.wp Try.prog a w K Q := by
  obtain ⟨i0, hi, hz0, hz1, hz2⟩ := info_parts rowEl.info
  refine wp_buildSlice _ 30 1 _ ho #[a0, b0, c0, d0] i0 _ rowEl.und hi hz0 (by rw [hz1]; decide) (by rw [hz1]; decide) ?_ h
  rw [hz1]
  simp only [List.map_toArray, List.map_cons, List.map_nil, hx]
  exact fill_el _ _ _ _
theorem wp_append_gen (s x : Operand) (ho : o.op = .call { callee := .builtin .append, args := #[s, x], argTypes := #[60, 60] })
    (base : Nat) (v : Value) (p c : Int) (n j : Nat) (hs : a.eval s = v) (hown : Gens w base v p c n j)
    (g : Nat) (u : Value) (hx : a.eval x = .slice (some ⟨g, 0, none⟩) 1 1) (hr : Blk w g #[.int .i64 p, .int .i64 c, .int .i64 n, u] 30) (hu : TsS w base u (sngT (Dg.cup n j)))
    (hn : j ≤ 100) (hbase : base ≤ w.heap.size)
    (h : ∀ v' w', Gens w' base v' p c n (j + 1) → w.grownBy w' v.ownBlock → K (a.put o.dst v') w') : o.wp Try.prog a w K Q := by
  obtain ⟨L, h1, h2, h3, h4⟩ := hown
  obtain ⟨i0, hi, hz0, hz1, hz2⟩ := info_parts rowEl.info
  obtain ⟨gv, capv, cur, hv, hbv, hgv, -, -, -⟩ := own_gen h2 h3
  refine wp_append_own w s x 60 ho base 30 i0 _ 4 48 rowEl.und hi hz0 hz1 hz2 rowEl.zs (by decide) v j _ hs h2 ⟨g, 0, none⟩ 1 1 (ec p c n [u]) hx (by rw [length_ec]; rfl) ?_ ?_ (by unfold maxLen; omega) (by omega) hbase ?_
  · intro k y hy
    rw [Addr.add_mid, Nat.zero_add, hr.cells, List.getElem?_toArray]
    exact hy
  · intro y hy
    have : y ∈ [Value.int .i64 p, .int .i64 c, .int .i64 n, u] := hy
    simp only [List.mem_cons, List.not_mem_nil, or_false] at this
    rcases this with rfl | rfl | rfl | rfl
    · rfl
    · rfl
    · rfl
    · exact hu.oneCell
  · intro v' w' r1 r2 r3
    have hob : v.ownBlock = some gv := by subst hv; rfl
    have keep : ∀ (y : Value) (ts : List Tm), TsS w base y ts → TsS w' base y ts := fun y ts hy => ⟨hy.1.grown (b := gv) (by rw [← hob]; exact r2) (hy.1.ne_blk hgv (by decide)), hy.2⟩
    refine h v' w' ⟨L ++ [u], by simp [h1], ?_, fun e => h3 (r3.1 e).1, fun i y hy => ?_⟩ r2
    · rw [ec_append]; exact r1
    · by_cases hi2 : i < L.length
      · rw [List.getElem?_append_left hi2] at hy
        exact keep _ _ (h4 i y hy)
      · have hij : i = j := by
          have := (List.getElem?_eq_some_iff.1 hy).1
          simp at this; omega
        subst hij
        rw [List.getElem?_append_right (by omega)] at hy
        have : y = u := by
          rw [show i - L.length = 0 from by omega] at hy
          simpa using hy.symm
        subst this
        exact keep _ _ hu
end
end Go.Proofs.Yticmlgnolbccjaa

/- The generators of the program. -/
set_option linter.unusedVariables false
set_option linter.unusedSimpArgs false
namespace Go.Proofs.Yticmlgnolbccjaa
open Go.RowKit Go.Maps

theorem own_ne_nil {w : World} {base : Nat} {v : Value} {ts : List Tm} (h : TsOwn w base v ts) (hne : ts ≠ []) : v ≠ .slice none 0 0 := by
  intro e
  subst e
  rcases h.2 with ⟨_, h2⟩ | ⟨g, cap, cur, h1, -⟩
  · exact hne (List.length_eq_zero_iff.1 h2)
  · cases h1
theorem gens_none (w : World) (p c : Int) (n : Nat) : Gens (w.alloc (.cells #[] 30)) w.heap.size (.slice (some ⟨w.heap.size, 0, none⟩) 0 0) p c n 0 :=
  ⟨[], rfl, ⟨rfl, .inr ⟨w.heap.size, 0, #[], rfl, Nat.le_refl _, Blk.new w #[] 30, Nat.le_refl _, by unfold maxLen; omega, rfl, rfl⟩⟩, by simp, by simp⟩

set_option maxHeartbeats 8000000 in
set_option maxRecDepth 100000 in
theorem implGens_calls (p c : Int) (n : Nat) (vx : Value) (bx : Nat) (Tx : TypeId) (w : World) (hx : Blk w bx #[.int .i64 p, .int .i64 c, .int .i64 n, vx] Tx) (hp : 2 ≤ p) (hp97 : p ≤ 97) (h1 : 1 ≤ n) (h8 : n ≤ 8) :
    Calls Try.prog 44 #[.pointer (some ⟨bx, 0, none⟩)] w fun e w' => ∃ v, e = .returned v ∧ Gens w' w.heap.size v p c n (n - 1) ∧ Below w.heap.size w w' := by
  have hX := hx.alloc (.cells #[] 30)
  have hbl := (Below.refl w.heap.size w).alloc (Nat.le_refl _) (.cells #[] 30)
  have hG0 := gens_none w p c n
  have hxl := hx.lt
  have hcX := hX.cells
  go_enter Try.func44, Try.ntmps44
  go_wp2
  go_loopw [11, 3] (fun i v wr => ∃ j : Nat, j ≤ n - 1 ∧ i = .int .i64 j ∧ Gens wr w.heap.size v p c n j ∧ Below w.heap.size w wr) (fun i _ _ => n - (intOf i).toNat)
  case atStart => exact ⟨0, by omega, rfl, hG0, hbl⟩
  case round =>
    obtain ⟨j, hj, rfl, hG, hbr⟩ := hrel
    have hX3 := hx.below hbr hxl
    have hz3 := hbr.size
    by_cases hlt : j < n - 1
    · have hcu := cup_good n j (by omega) h8 (by omega)
      have HG := Lib.hid (fun W => implGenerator_calls (n : Int) (j : Int) W (by omega) (by omega) (by omega) (by omega))
      have HSg := Lib.hid (fun W => implSingleD_calls p c n (Dg.cup n j) W hp hp97 hcu)
      unfold el at HSg
      obtain ⟨gv, capv, cur, hv, hgb, hgl⟩ : ∃ gv capv cur, _ = Value.slice (some ⟨gv, 0, none⟩) j capv ∧ w.heap.size ≤ gv ∧ Blk wr gv cur 30 := by
        obtain ⟨L, r1, r2, r3, r4⟩ := hG
        obtain ⟨gv, capv, cur, s1, s2, s3, -, -, -⟩ := own_gen r2 r3
        exact ⟨gv, capv, cur, s1, s2, s3⟩
      subst hv
      have hgl2 := hgl.lt
      have hnb : bx ∉ [gv] := by simp; omega
      go_wp2_with fail
      refine wp_region_held_drew (S := fun W => But wr W [gv]) (by kernel_rfl) (But.drew wr _) (fun hS => ?_)
      replace hG := hG.below (Ext.drew wr) (Nat.le_refl _)
      refine takeA 0 (v := ?_) hS ?_ ?_
      rotate_left
      focus (intro W hW; go_simp; first | done | with_reducible rfl)
      try simp only [Act.put, List.setIfInBounds_toArray, List.set_cons_zero, List.set_cons_succ]
      refine takeA 1 (v := ?_) hS ?_ ?_
      rotate_left
      focus (intro W hW; go_simp; first | done | with_reducible rfl)
      try simp only [Act.put, List.setIfInBounds_toArray, List.set_cons_zero, List.set_cons_succ]
      refine takeA 2 (v := ?_) hS ?_ ?_
      rotate_left
      focus (intro W hW; go_simp; first | done | with_reducible rfl)
      try simp only [Act.put, List.setIfInBounds_toArray, List.set_cons_zero, List.set_cons_succ]
      refine takeA 3 (v := ?_) hS ?_ ?_
      rotate_left
      focus (intro W hW; go_simp; first | done | with_reducible rfl)
      try simp only [Act.put, List.setIfInBounds_toArray, List.set_cons_zero, List.set_cons_succ]
      refine takeA 4 (v := ?_) hS ?_ ?_
      rotate_left
      focus (intro W hW; have q1 := (hX3.but hW hnb).cells; go_simp; first | done | with_reducible rfl)
      try simp only [Act.put, List.setIfInBounds_toArray, List.set_cons_zero, List.set_cons_succ]
      refine takeA 5 (v := ?_) hS ?_ ?_
      rotate_left
      focus (intro W hW; go_simp; first | done | with_reducible rfl)
      try simp only [Act.put, List.setIfInBounds_toArray, List.set_cons_zero, List.set_cons_succ]
      refine takeA 6 (v := ?_) hS ?_ ?_
      rotate_left
      focus (intro W hW; go_simp; first | done | with_reducible rfl)
      try simp only [Act.put, List.setIfInBounds_toArray, List.set_cons_zero, List.set_cons_succ]
      refine takeA 7 (v := ?_) hS ?_ ?_
      rotate_left
      focus (intro W hW; go_simp; first | done | with_reducible rfl)
      try simp only [Act.put, List.setIfInBounds_toArray, List.set_cons_zero, List.set_cons_succ]
      refine takeA 8 (v := ?_) hS ?_ ?_
      rotate_left
      focus (intro W hW; have q1 := (hX3.but hW hnb).cells; go_simp; first | done | with_reducible rfl)
      try simp only [Act.put, List.setIfInBounds_toArray, List.set_cons_zero, List.set_cons_succ]
      refine takeA 9 (v := ?_) hS ?_ ?_
      rotate_left
      focus (intro W hW; go_simp; first | done | with_reducible rfl)
      try simp only [Act.put, List.setIfInBounds_toArray, List.set_cons_zero, List.set_cons_succ]
      refine takeA 10 (v := ?_) hS ?_ ?_
      rotate_left
      focus (intro W hW; go_simp; first | done | with_reducible rfl)
      try simp only [Act.put, List.setIfInBounds_toArray, List.set_cons_zero, List.set_cons_succ]
      refine takeA 11 (v := ?_) hS ?_ ?_
      rotate_left
      focus (intro W hW; go_simp; first | done | with_reducible rfl)
      try simp only [Act.put, List.setIfInBounds_toArray, List.set_cons_zero, List.set_cons_succ]
      refine takeA 12 (v := ?_) hS ?_ ?_
      rotate_left
      focus (intro W hW; have q1 := (hX3.but hW hnb).cells; go_simp; first | done | with_reducible rfl)
      try simp only [Act.put, List.setIfInBounds_toArray, List.set_cons_zero, List.set_cons_succ]
      refine takeA 13 (v := ?_) hS ?_ ?_
      rotate_left
      focus (intro W hW; go_simp; first | done | with_reducible rfl)
      try simp only [Act.put, List.setIfInBounds_toArray, List.set_cons_zero, List.set_cons_succ]
      refine wpAnyH_ready (rs := [14]) (by decide +kernel) (by simp) (allA 14 (fun K hK => ?_) AllReadyH.nil)
      go_simp
      refine (HG.out _).mono ?_
      rintro e u3 ⟨rfl, hb⟩
      replace hS : But wr u3 [gv] := hS.ext hb
      replace hG := hG.below hb (Nat.le_refl _)
      refine hK _ _ hS ?_
      clear hK K hb
      try simp only [Act.put, List.setIfInBounds_toArray, List.set_cons_zero, List.set_cons_succ]
      refine wpAnyH_ready (rs := [15]) (by decide +kernel) (by simp) (allA 15 (fun K hK => ?_) AllReadyH.nil)
      go_simp
      refine (HSg.out _).mono ?_
      rintro e u4 ⟨v4, rfl, hv4, hb⟩
      have hv5 : TsS u4 w.heap.size v4 (sngT (Dg.cup n j)) := ⟨hv4.mono (by have := hS.size; omega), own_ne_nil hv4 (by simp [sngT])⟩
      replace hS : But wr u4 [gv] := hS.ext hb
      replace hG := hG.below hb (Nat.le_refl _)
      refine hK _ _ hS ?_
      clear hK K hb hv4
      try simp only [Act.put, List.setIfInBounds_toArray, List.set_cons_zero, List.set_cons_succ]
      refine wpAnyH_ready (rs := [16]) (by decide +kernel) (by simp) (allA 16 (fun K hK => ?_) AllReadyH.nil)
      refine wp_row_el _ rfl _ _ _ _ rfl ?_
      have hr := Blk.new u4 #[.int .i64 p, .int .i64 c, .int .i64 n, v4] 30
      replace hv5 := hv5.alloc (.cells #[.int .i64 p, .int .i64 c, .int .i64 n, v4] 30)
      replace hG := hG.below ((Below.refl u4.heap.size u4).alloc (Nat.le_refl _) (.cells #[.int .i64 p, .int .i64 c, .int .i64 n, v4] 30)) (Nat.le_refl _)
      replace hS : But wr _ [gv] := hS.alloc (.cells #[.int .i64 p, .int .i64 c, .int .i64 n, v4] 30)
      refine hK _ _ hS ?_
      clear hK K
      try simp only [Act.put, List.setIfInBounds_toArray, List.set_cons_zero, List.set_cons_succ]
      refine wpAnyH_ready (rs := [17]) (by decide +kernel) (by simp) (allA 17 (fun K hK => ?_) AllReadyH.nil)
      refine wp_append_gen _ _ rfl w.heap.size _ p c n j rfl hG _ v4 rfl hr hv5 (by omega) (by have := hS.size; omega) ?_
      intro v7 u7 hG7 hg7
      replace hS : But wr u7 [gv] := hS.own (b := gv) hg7 (by simp)
      refine hK _ _ hS ?_
      clear hK K hg7 hG hr hv5
      try simp only [Act.put, List.setIfInBounds_toArray, List.set_cons_zero, List.set_cons_succ]
      refine takeA 18 (v := ?_) hS ?_ ?_
      rotate_left
      focus (intro W hW; go_simp; first | done | with_reducible rfl)
      try simp only [Act.put, List.setIfInBounds_toArray, List.set_cons_zero, List.set_cons_succ]
      refine wpAnyH_done (by decide +kernel) ?_ _
      go_wp2_with fail
      go_roundw
      case rel => exact ⟨j + 1, by omega, by go_num, hG7, hbr.trans (hS.below (B := w.heap.size) (by omega) (by simp; omega))⟩
      case measure => simp [intOf] <;> omega

    · obtain rfl : j = n - 1 := by omega
      go_wp2_with fail
      go_ret
      exact ⟨_, rfl, hG, hbr⟩
end Go.Proofs.Yticmlgnolbccjaa
