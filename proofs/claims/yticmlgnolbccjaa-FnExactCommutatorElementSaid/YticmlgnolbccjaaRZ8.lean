/- The statement FnExactCommutatorElement is proved: whatever two elements come in, the statement's function gives true and both read behind the call as they read before. No condition. -/
import Derived.Test.YticmlgnolbccjaaQ13
import Derived.Test.YticmlgnolbccjaaQ16
import Derived.Test.YticmlgnolbccjaaRows

set_option linter.unusedVariables false
set_option linter.unusedSimpArgs false
namespace Go.Proofs.Yticmlgnolbccjaa
open Go.RowKit Go.WideShapes Go.ChangeShapes Go.ChangeAt

set_option maxHeartbeats 4000000 in
set_option maxRecDepth 100000 in
theorem lawCom_any (x y : El) (vx vy : Value) (w : World) (hx : In w vx x) (hy : In w vy y) :
    Calls Try.prog 7 #[x.val vx, y.val vy] w fun e w' => e = .returned (.bool true) ∧ Below w.heap.size w w' := by
  by_cases hl : x.ts.length + y.ts.length ≤ 1048576
  · exact lawCom_calls x y vx vy w hl (hx.wf (by omega)) (hy.wf (by omega)) hx.l hy.l
  · have hxl := hx.len
    have hyl := hy.len
    obtain ⟨adx, capx, hvx, -⟩ := id hx.l
    obtain ⟨ady, capy, hvy, -⟩ := id hy.l
    have HZ1 := Lib.hid (fun W => szElement_calls x vx adx capx hvx 1048576 W (by omega) (by omega) hxl)
    simp only [El.val, El.cells] at HZ1 ⊢
    have hY := Blk.newAt (w.alloc (.cells #[.int .i64 x.p, .int .i64 x.c, .int .i64 x.n, vx] 24)) #[.int .i64 y.p, .int .i64 y.c, .int .i64 y.n, vy] 24 (b := w.heap.size + 1) (by simp)
    have hX := (Blk.new w #[.int .i64 x.p, .int .i64 x.c, .int .i64 x.n, vx] 24).alloc (.cells #[.int .i64 y.p, .int .i64 y.c, .int .i64 y.n, vy] 24)
    have hbl := ((Below.refl w.heap.size w).alloc (Nat.le_refl _) (.cells #[.int .i64 x.p, .int .i64 x.c, .int .i64 x.n, vx] 24)).alloc (by simp) (.cells #[.int .i64 y.p, .int .i64 y.c, .int .i64 y.n, vy] 24)
    have hz2 := hY.lt
    by_cases h1 : x.ts.length ≤ 1048576
    · have HZ2 := Lib.hid (fun W => szElement_calls y vy ady capy hvy (1048576 - x.ts.length) W (by omega) (by omega) hyl)
      rw [if_pos (by omega)] at HZ1
      rw [if_neg (by omega)] at HZ2
      simp only [El.val, El.cells] at HZ2
      clear hvx hvy hx hy
      go_enter Try.func7, Try.ntmps7
      go_wp2_with (refine load_lel rfl _ rfl _ rfl _ rfl _ hX ?_)
      generalize (w.alloc (.cells #[.int .i64 x.p, .int .i64 x.c, .int .i64 x.n, vx] 24)).alloc (.cells #[.int .i64 y.p, .int .i64 y.c, .int .i64 y.n, vy] 24) = w2 at *
      refine (HZ1.out _).mono ?_
      rintro e w3 ⟨rfl, hb3⟩
      have hY3 := hY.below hb3 (by omega)
      have hz3 := hb3.size
      go_wp2_with (refine load_lel rfl _ rfl _ rfl _ rfl _ hY3 ?_)
      refine (HZ2.out _).mono ?_
      rintro e wr ⟨rfl, hb4⟩
      go_wp2_with fail
      go_ret
      exact ⟨rfl, hbl.trans ((hb3.trans (hb4.mono hz3)).mono (by omega))⟩
    · rw [if_neg (by omega)] at HZ1
      clear hvx hvy hx hy
      go_enter Try.func7, Try.ntmps7
      go_wp2_with (refine load_lel rfl _ rfl _ rfl _ rfl _ hX ?_)
      generalize (w.alloc (.cells #[.int .i64 x.p, .int .i64 x.c, .int .i64 x.n, vx] 24)).alloc (.cells #[.int .i64 y.p, .int .i64 y.c, .int .i64 y.n, vy] 24) = w2 at *
      refine (HZ1.out _).mono ?_
      rintro e w3 ⟨rfl, hb3⟩
      go_wp2_with fail
      go_ret
      exact ⟨rfl, hbl.trans (hb3.mono (by omega))⟩

set_option maxRecDepth 100000 in
theorem commutatorElement_lifted (os : Os) (started : os.Started) (H : Type) (enc : TypeId × Value → H) :
    ReturnsInHanded {} Try.checked os 7 .any (Rows.fnExactCommutatorElementSpec.pre6 enc Try.prog Try.f7 Rows.fnExactCommutatorElementRow.domain false) (Rows.fnExactCommutatorElementSpec.post enc Try.prog Try.f7 false true false false) := by
  refine returnsInHanded_of_change (C := Try.checked) own started (by kernel_rfl) Try.func7
    (ChangeSpec.witness6 (enc := enc) (C := Try.checked) false ⟨#[], #[.agg #[.int .i64 0, .int .i64 0, .int .i64 0, .slice none 0 0], .agg #[.int .i64 0, .int .i64 0, .int .i64 0, .slice none 0 0]], []⟩ 8 (by kernel_rfl) (by kernel_rfl) (by kernel_rfl) (by kernel_rfl)) ?_
  intro W base args ds gs before hval0 hW hcnd _
  have hval : ∀ (j : Nat) t v, Try.f7.params[j]? = some t → args[j]? = some v → Value.okWide Try.prog W .any base t v := hval0
  have hW' := hW
  obtain ⟨p, q, hA0, hV, rfl, hfz, hnd⟩ := hW
  have hA : DataW.TrodAll enc Try.prog W 0 (fun _ => true) true Try.f7.params.toList args.toList ds p := hA0
  rw [Try.params7] at hA hval
  obtain ⟨v0, v1, d0, d1, p0, p1, rfl, rfl, rfl, h0, h1⟩ := trodAll_two hA
  obtain ⟨rfl, rfl⟩ := trodVars_none hV
  obtain ⟨x, vx, rfl, hx⟩ := open_el (hval 0 _ v0 rfl rfl) h0
  obtain ⟨y, vy, rfl, hy⟩ := open_el (hval 1 _ v1 rfl rfl) h1
  clear hA0 hval0
  simp only [List.append_nil] at hW'
  have hlt : ∀ u ∈ p0 ++ p1, u.block < W.heap.size := fun u hu => hW'.lt u hu
  refine (lawCom_any x y vx vy W hx hy).mono fun e W' ⟨he, hb⟩ => ?_
  subst he
  exact ⟨_, rfl, post_of_below (pa := p0 ++ p1) (pv := []) hW' (fun _ _ _ => trodAll_mk1 (shut_bool Try.underlying4 _))
    (fun sp hsp => trodAll_mk2
      (WideElems.Trod_stays laidOut (by kernel_rfl) (of_decide_eq_true (by kernel_rfl)) h0 (fun u hu => hb.same (hlt u (List.mem_append_left _ hu))) (fun u hu => hsp u (List.mem_append_left _ hu)))
      (WideElems.Trod_stays laidOut (by kernel_rfl) (of_decide_eq_true (by kernel_rfl)) h1 (fun u hu => hb.same (hlt u (List.mem_append_right _ hu))) (fun u hu => hsp u (List.mem_append_right _ hu))))
    (fun _ _ => rfl) (by simp) hb (ok_one (by kernel_rfl) rfl (okWide_bool_mk Try.underlying4 _))⟩

theorem commutatorElement_holds : Rows.FnExactCommutatorElementSaid :=
  OpenClaim.holds_of_wide 7 Try.f7 rfl rfl rfl rfl rfl rfl rfl ⟨rfl, rfl, rfl, rfl, rfl⟩ rfl rfl rfl rfl rfl (by kernel_rfl) Try.func7 (by kernel_rfl)
    (of_decide_eq_true (by kernel_rfl)) (by unfold Func.isWrapper; first | (rw [if_pos (by decide +kernel)]; kernel_rfl) | (rw [if_neg (by decide +kernel)]; exact ⟨rfl, rfl⟩))
    (fun os started H enc _ => commutatorElement_lifted os started H enc)
#print axioms commutatorElement_holds
end Go.Proofs.Yticmlgnolbccjaa
