/- The statement FnExactPowerElement is proved: whatever element and number come in, the statement's function gives true and both read behind the call as they read before. No condition. -/
import Derived.Test.YticmlgnolbccjaaQ13
import Derived.Test.YticmlgnolbccjaaQ18
import Derived.Test.YticmlgnolbccjaaRows

set_option linter.unusedVariables false
set_option linter.unusedSimpArgs false
namespace Go.Proofs.Yticmlgnolbccjaa
open Go.RowKit Go.WideShapes Go.ChangeShapes Go.ChangeAt

set_option maxHeartbeats 4000000 in
set_option maxRecDepth 100000 in
theorem lawPow_any (x : El) (k : Int) (vx : Value) (w : World) (hx : In w vx x) :
    Calls Try.prog 5 #[x.val vx, .int .i64 k] w fun e w' => e = .returned (.bool true) ∧ Below w.heap.size w w' := by
  by_cases hl : x.ts.length ≤ 1048576
  · exact lawPow_calls x k vx w (hx.wf hl) hx.l
  · have hxl := hx.len
    obtain ⟨adx, capx, hvx, -⟩ := id hx.l
    have HZ1 := Lib.hid (fun W => szElement_calls x vx adx capx hvx 1048576 W (by omega) (by omega) hxl)
    simp only [El.val, El.cells] at HZ1 ⊢
    have hX := Blk.new w #[.int .i64 x.p, .int .i64 x.c, .int .i64 x.n, vx] 24
    have hbl := (Below.refl w.heap.size w).alloc (Nat.le_refl _) (.cells #[.int .i64 x.p, .int .i64 x.c, .int .i64 x.n, vx] 24)
    have hz2 := hX.lt
    rw [if_neg (by omega)] at HZ1
    clear hvx hx
    go_enter Try.func5, Try.ntmps5
    go_wp2_with (refine load_lel rfl _ rfl _ rfl _ rfl _ hX ?_)
    generalize w.alloc (.cells #[.int .i64 x.p, .int .i64 x.c, .int .i64 x.n, vx] 24) = w2 at *
    refine (HZ1.out _).mono ?_
    rintro e w3 ⟨rfl, hb3⟩
    go_wp2_with fail
    go_ret
    exact ⟨rfl, hbl.trans (hb3.mono (by omega))⟩

set_option maxRecDepth 100000 in
theorem powerElement_lifted (os : Os) (started : os.Started) (H : Type) (enc : TypeId × Value → H) :
    ReturnsInHanded {} Try.checked os 5 .any (Rows.fnExactPowerElementSpec.pre6 enc Try.prog Try.f5 Rows.fnExactPowerElementRow.domain false) (Rows.fnExactPowerElementSpec.post enc Try.prog Try.f5 false true false false) := by
  refine returnsInHanded_of_change (C := Try.checked) own started (by kernel_rfl) Try.func5
    (ChangeSpec.witness6 (enc := enc) (C := Try.checked) false ⟨#[], #[.agg #[.int .i64 0, .int .i64 0, .int .i64 0, .slice none 0 0], .int .i64 0], []⟩ 8 (by kernel_rfl) (by kernel_rfl) (by kernel_rfl) (by kernel_rfl)) ?_
  intro W base args ds gs before hval0 hW hcnd _
  have hval : ∀ (j : Nat) t v, Try.f5.params[j]? = some t → args[j]? = some v → Value.okWide Try.prog W .any base t v := hval0
  have hW' := hW
  obtain ⟨p, q, hA0, hV, rfl, hfz, hnd⟩ := hW
  have hA : DataW.TrodAll enc Try.prog W 0 (fun _ => true) true Try.f5.params.toList args.toList ds p := hA0
  rw [Try.params5] at hA hval
  obtain ⟨v0, v1, d0, d1, p0, p1, rfl, rfl, rfl, h0, h1⟩ := trodAll_two hA
  obtain ⟨rfl, rfl⟩ := trodVars_none hV
  obtain ⟨x, vx, rfl, hx⟩ := open_el (hval 0 _ v0 rfl rfl) h0
  obtain ⟨k, rfl, rfl, rfl, wk⟩ := open_int Try.underlying2 (hval 1 _ v1 rfl rfl) h1
  clear hA0 hval0
  simp only [List.append_nil] at hW'
  have hlt : ∀ u ∈ p0, u.block < W.heap.size := fun u hu => hW'.lt u hu
  refine (lawPow_any x k vx W hx).mono fun e W' ⟨he, hb⟩ => ?_
  subst he
  exact ⟨_, rfl, post_of_below (pa := p0) (pv := []) hW' (fun _ _ _ => trodAll_mk1 (shut_bool Try.underlying4 _))
    (fun sp hsp => by
      have h2 := trodAll_mk2 (WideElems.Trod_stays laidOut (by kernel_rfl) (of_decide_eq_true (by kernel_rfl)) h0 (fun u hu => hb.same (hlt u hu)) (fun u hu => hsp u hu)) (shut_int (enc := enc) (w := W') (base := 0) (spare := sp) (held := true) Try.underlying2 wk)
      rw [List.append_nil] at h2
      exact h2)
    (fun _ _ => rfl) (by simp) hb (ok_one (by kernel_rfl) rfl (okWide_bool_mk Try.underlying4 _))⟩

theorem powerElement_holds : Rows.FnExactPowerElementSaid :=
  OpenClaim.holds_of_wide 5 Try.f5 rfl rfl rfl rfl rfl rfl rfl ⟨rfl, rfl, rfl, rfl, rfl⟩ rfl rfl rfl rfl rfl (by kernel_rfl) Try.func5 (by kernel_rfl)
    (of_decide_eq_true (by kernel_rfl)) (by unfold Func.isWrapper; first | (rw [if_pos (by decide +kernel)]; kernel_rfl) | (rw [if_neg (by decide +kernel)]; exact ⟨rfl, rfl⟩))
    (fun os started H enc _ => powerElement_lifted os started H enc)
#print axioms powerElement_holds
end Go.Proofs.Yticmlgnolbccjaa
