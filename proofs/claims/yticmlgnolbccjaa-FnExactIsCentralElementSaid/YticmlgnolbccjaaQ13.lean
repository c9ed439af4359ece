/- What an argument of the statements is: an element somewhere in memory. Conditions: the argument reads as data of its type. -/
import Derived.Test.YticmlgnolbccjaaQ12
import Derived.ProofKit
import Derived.Lib.SmallJoins
import Derived.Deep.Slices
import Derived.Below
import Derived.ChangeSame

set_option linter.unusedVariables false
set_option linter.unusedSimpArgs false
namespace Go.Proofs.Yticmlgnolbccjaa
open Go.RowKit Go.WideShapes Go.ChangeShapes

theorem i64_of_wf {x : Int} (h : (Lit.int .i64 x).wf = true) : -9223372036854775808 ≤ x ∧ x ≤ 9223372036854775807 := by
  simp [Lit.wf, IntKind.min, IntKind.max, IntKind.signed, IntKind.bits] at h
  omega
theorem u8_of_wf {x : Int} (h : (Lit.int .u8 x).wf = true) : 0 ≤ x ∧ x ≤ 255 := by
  simp [Lit.wf, IntKind.min, IntKind.max, IntKind.signed, IntKind.bits] at h
  omega
theorem len_one {α : Type} {l : List α} {i : Nat} {v : α} (h : (l.drop i).take 1 = [v]) : l[i]? = some v := by
  have := congrArg (fun k => k[0]?) h
  simpa [List.getElem?_take] using this

section
variable {H : Type} {enc : TypeId × Value → H} {w : World} {base : Nat} {spare : Nat → Bool} {held : Bool} {fuel : Nat} {cs : List Value} {x : DataW H × List MemPlace}
theorem open_mate (h : DataW.trod enc Try.prog w base spare held fuel 43 cs = some x) : ∃ f : Nat → Int, cs = byt f ∧ ∀ i, i < 16 → 0 ≤ f i ∧ f i ≤ 255 := by
  obtain ⟨xs, m, -, -, hl, hx, hi⟩ := DataW.trod_array Try.underlying43 h
  have hc : Try.prog.cellsOf 43 = 16 := by kernel_rfl
  have hc1 : Try.prog.cellsOf 5 = 1 := by kernel_rfl
  rw [hc] at hl
  have h1 : ∀ i, i < 16 → ∃ n : Int, cs[i]? = some (.int .u8 n) ∧ (0 ≤ n ∧ n ≤ 255) := by
    intro i hi16
    have h2 := hi i hi16
    rw [hc1, Nat.mul_one, List.getElem?_eq_getElem (by omega)] at h2
    obtain ⟨n, h3, -, hw⟩ := DataW.trod_int Try.underlying5 h2
    exact ⟨n, len_one h3, u8_of_wf hw⟩
  obtain ⟨f, hf⟩ := Go.Deep.choose_lt h1
  refine ⟨f, List.ext_getElem? fun i => ?_, fun i hi16 => (hf i hi16).2⟩
  by_cases h16 : i < 16
  · rw [(hf i h16).1, byt_get f i h16]
  · rw [List.getElem?_eq_none (by omega), List.getElem?_eq_none (by rw [byt_len]; omega)]

set_option maxRecDepth 100000 in
theorem open_dg (h : DataW.trod enc Try.prog w base spare held fuel 45 cs = some x) : ∃ d : Dg, d.Wf ∧ cs = d.list := by
  obtain ⟨xs, m, -, -, hl, hx, hi⟩ := DataW.trod_struct Try.underlying45 h
  have hc : Try.prog.cellsOf 45 = 17 := by kernel_rfl
  rw [hc] at hl
  have hx2 : xs.length = 2 := hx
  have h0 := hi 0 _ rfl
  have h1 := hi 1 _ rfl
  rw [List.getElem?_eq_getElem (by omega)] at h0 h1
  obtain ⟨n, e0, -, hw⟩ := DataW.trod_int Try.underlying2 h0
  obtain ⟨f, e1, hf⟩ := open_mate h1
  have c0 : Try.prog.cellsOf 2 = 1 := by kernel_rfl
  have c1 : Try.prog.cellsOf 43 = 16 := by kernel_rfl
  have e0' : (cs.drop 0).take 1 = [.int .i64 n] := by rw [← e0]; congr 1
  have e1' : (cs.drop 1).take 16 = byt f := by rw [← e1]; congr 1
  have hm : ∀ i, i < 16 → ((List.range 16).map f).getD i 0 = f i := fun i hi => by simp [List.getD, hi]
  refine ⟨⟨n, (List.range 16).map f⟩, ⟨by simp, fun i => ?_, (i64_of_wf hw).1, (i64_of_wf hw).2⟩, ?_⟩
  · show 0 ≤ ((List.range 16).map f).getD i 0 ∧ ((List.range 16).map f).getD i 0 ≤ 255
    by_cases h16 : i < 16
    · rw [hm i h16]; exact hf i h16
    · rw [List.getD_eq_getElem?_getD, List.getElem?_eq_none (by simp; omega)]; simp
  · rw [list_byt]
    have e2 : byt (Dg.m ⟨n, (List.range 16).map f⟩) = byt f := byt_congr hm
    rw [e2, ← e1']
    cases cs with
    | nil => simp at hl
    | cons c cs =>
      simp only [List.drop_zero, List.take_succ_cons, List.take_zero, List.cons.injEq, and_true] at e0'
      rw [e0']
      simp only [List.drop_succ_cons, List.drop_zero]
      rw [List.take_of_length_le (by simp at hl; omega)]

set_option maxRecDepth 100000 in
theorem open_tm (h : DataW.trod enc Try.prog w base spare held fuel 103 cs = some x) : ∃ t : Tm, t.Wf ∧ cs = t.vals := by
  obtain ⟨xs, m, -, -, hl, hx, hi⟩ := DataW.trod_struct Try.underlying103 h
  have hc : Try.prog.cellsOf 103 = 18 := by kernel_rfl
  rw [hc] at hl
  have hx2 : xs.length = 2 := hx
  have h0 := hi 0 _ rfl
  have h1 := hi 1 _ rfl
  rw [List.getElem?_eq_getElem (by omega)] at h0 h1
  obtain ⟨d, hd, e0⟩ := open_dg h0
  obtain ⟨n, e1, -, hw⟩ := DataW.trod_int Try.underlying2 h1
  have c0 : Try.prog.cellsOf 45 = 17 := by kernel_rfl
  have c1 : Try.prog.cellsOf 2 = 1 := by kernel_rfl
  have e0' : (cs.drop 0).take 17 = d.list := by rw [← e0]; congr 1
  have e1' : (cs.drop 17).take 1 = [.int .i64 n] := by rw [← e1]; congr 1
  refine ⟨⟨d, n⟩, ⟨hd, (i64_of_wf hw).1, (i64_of_wf hw).2⟩, ?_⟩
  show cs = d.list ++ [.int .i64 n]
  rw [← e0', ← e1', List.drop_zero, List.take_of_length_le (l := cs.drop 17) (by simp; omega), List.take_append_drop]
end

/-- What may come in. -/
structure In (w : World) (v : Value) (x : El) : Prop where
  ts : ∀ t ∈ x.ts, t.Wf
  p : -9223372036854775808 ≤ x.p ∧ x.p ≤ 9223372036854775807
  c : -9223372036854775808 ≤ x.c ∧ x.c ≤ 9223372036854775807
  n : -9223372036854775808 ≤ x.n ∧ x.n ≤ 9223372036854775807
  l : LIn w v x.ts
theorem In.wf {w : World} {v : Value} {x : El} (h : In w v x) (hl : x.ts.length ≤ 1048576) : x.Wf := ⟨h.ts, hl, h.p, h.c, h.n⟩
theorem In.len {w : World} {v : Value} {x : El} (h : In w v x) : x.ts.length ≤ 9223372036854775807 := by
  obtain ⟨ad, cap, -, h1, h2, -⟩ := h.l
  omega

set_option maxRecDepth 100000 in
theorem open_el {H : Type} {enc : TypeId × Value → H} {w : World} {b0 : Nat} {r : Reach} {v : Value} {d : DataW H} {p : List MemPlace}
    (hv : Value.okWide Try.prog w r b0 24 v) (h : DataW.Trod enc Try.prog w 0 (fun _ => true) true 24 v d p) : ∃ (x : El) (vx : Value), v = x.val vx ∧ In w vx x := by
  obtain ⟨v0, v1, v2, v3, y0, y1, y2, y3, n, rfl, -, -, h0, h1, h2, h3⟩ := Go.Joins.open_agg4 Try.underlying24 (by kernel_rfl) (by kernel_rfl) hv h
  obtain ⟨n0, e0, -, w0⟩ := DataW.trod_int Try.underlying2 h0
  obtain ⟨n1, e1, -, w1⟩ := DataW.trod_int Try.underlying2 h1
  obtain ⟨n2, e2, -, w2⟩ := DataW.trod_int Try.underlying2 h2
  simp only [List.cons.injEq, and_true] at e0 e1 e2
  subst e0 e1 e2
  rcases Go.Deep.open_slice Try.underlying22 h3 with ⟨e3, -⟩ | ⟨a, len, cap, m, k, D, Pl, e3, -, hlc, hcap, hm, -, hx⟩
  · simp only [List.cons.injEq, and_true] at e3
    subst e3
    exact ⟨⟨n0, n1, n2, []⟩, _, rfl, ⟨by simp, i64_of_wf w0, i64_of_wf w1, i64_of_wf w2, ⟨none, 0, rfl, Nat.le_refl _, by omega, by simp⟩⟩⟩
  · simp only [List.cons.injEq, and_true] at e3
    subst e3
    rw [if_pos rfl] at hm
    rw [hm] at hx
    clear hm
    have hc : Try.prog.cellsOf 103 = 18 := by kernel_rfl
    have ht : ∀ i, i < len → ∃ t : Tm, t.Wf ∧ w.cells? 0 (a.add (i * 18)) 18 = some t.vals := by
      intro i hi
      obtain ⟨cs', h4, h5⟩ := hx i (by omega)
      rw [hc] at h4
      obtain ⟨t, ht, rfl⟩ := open_tm h5
      exact ⟨t, ht, h4⟩
    obtain ⟨f, hf⟩ := Go.Deep.choose_lt ht
    refine ⟨⟨n0, n1, n2, (List.range len).map f⟩, .slice (some a) len cap, rfl, ⟨?_, i64_of_wf w0, i64_of_wf w1, i64_of_wf w2, ⟨some a, cap, by simp, by simpa using hlc, by unfold maxLen at hcap; omega, ?_⟩⟩⟩
    · intro t h
      obtain ⟨i, hi, rfl⟩ := List.mem_map.1 h
      exact (hf i (List.mem_range.1 hi)).1
    · intro hne
      have hl0 : 0 < len := by
        cases len with
        | zero => simp at hne
        | succ j => omega
      have hz := World.cells?_some (hf 0 hl0).2
      have hz0 := hz.2.2 0 (by omega)
      have hsp : a.spot = none := by
        have h6 : (a.add (0 * 18)).add 0 = a := by simp [Addr.add]
        rw [h6, List.getElem?_eq_getElem (by rw [Tm.length_vals]; omega)] at hz0
        unfold World.cell? at hz0
        split at hz0
        · split at hz0
          · simp at hz0
          · rename_i h7; simpa using h7
        · simp at hz0
      obtain ⟨b, off, sp⟩ := a
      simp only at hsp
      subst hsp
      refine ⟨b, off, rfl, ?_, ?_⟩
      · rw [List.getElem?_eq_getElem (by rw [Tm.length_vals]; omega)] at hz0
        have := World.block_lt_of_cell? w _ hz0
        simpa [Addr.add] using this
      · intro j v hj
        have hjl : j < len * 18 := by
          have := (List.getElem?_eq_some_iff.1 hj).1
          rw [length_tc] at this
          simpa using this
        have hi : j / 18 < len := by omega
        have h8 := (World.cells?_some (hf (j / 18) hi).2).2.2 (j % 18) (by omega)
        rw [Addr.add_mid, Addr.add_mid, show off + j / 18 * 18 + j % 18 = off + j from by omega] at h8
        rw [h8, ← hj]
        have h9 := tc_at ((List.range len).map f) (j / 18) (j % 18) (f (j / 18)) (by simp [hi]) (by omega)
        rw [show j / 18 * 18 + j % 18 = j from by omega] at h9
        exact h9.symm

section
variable {H : Type} {enc : TypeId × Value → H} {P : Program}
theorem post_of_below {f : Func} {s : ChangeSpec} {apart fresh handsOn again : Bool} {W W' : World} {args : Array Value} {v : Value} {ds gs : List (DataW H)} {before pa pv : List MemPlace}
    (hW : DataW.Whole enc P f.params.toList s.vars apart W args.toList ds gs before)
    (hres : ∀ (b : Nat) (sp : Nat → Bool) (hd : Bool), DataW.TrodAll enc P W' b sp hd f.resultTypes.toList (v.resultList f.resultTypes.size) (s.fn H (ds ++ gs)).results [])
    (hargs : ∀ sp : Nat → Bool, (∀ p ∈ before, sp p.block = true) → DataW.TrodAll enc P W' 0 sp true f.params.toList args.toList (s.fn H (ds ++ gs)).args pa)
    (hvars : ∀ sp : Nat → Bool, (∀ p ∈ before, sp p.block = true) → DataW.TrodVars enc P W' sp s.vars (s.fn H (ds ++ gs)).vars pv)
    (hps : before = pa ++ pv) (hb : Below W.heap.size W W')
    (hok : ∀ (j : Nat) (t : TypeId) (r : Value), f.resultTypes[j]? = some t → (v.resultList f.resultTypes.size)[j]? = some r → Value.okWide P W' .any 0 t r) :
    s.post enc P f apart fresh handsOn again W args v W' := by
  have hlt : ∀ p ∈ before, p.block < W.heap.size := fun p hp => hW.lt p hp
  have hold : ∀ p ∈ before, (fun b => decide (b < W.heap.size)) p.block = true := fun p hp => by simpa using hlt p hp
  refine ⟨ds, gs, before, [], pa, pv, hW, hres _ _ _, hargs _ hold, hvars _ hold, World.keptBut_mono (fun p hp => ⟨hp, ?_⟩) (hb.frame (· ∈ before)), fun _ => ?_⟩
  · rw [hps, List.mem_append] at hp
    exact Or.inr hp
  · obtain ⟨_, _, _, _, _, hz, hn⟩ := hW
    refine ⟨hok, _, _, ([] ++ pa) ++ pv, ⟨[] ++ pa, pv, trodAll_append (hargs _ (fun _ _ => rfl)) (hres _ _ _), hvars _ (fun _ _ => rfl), rfl, ?_, ?_⟩, ?_⟩
    · intro b off hp
      have hin : MemPlace.cell b off ∈ before := by rw [hps]; simpa using hp
      rw [hb.frozen (hlt _ hin)]
      exact hz b off hin
    · intro ha
      have := hn ha
      rw [hps] at this
      simpa using this
    · intro p hp _
      rw [hps]
      simpa using hp
end
theorem own : ownKnob Try.prog.godebug = none := by kernel_rfl
end Go.Proofs.Yticmlgnolbccjaa
