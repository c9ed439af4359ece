/- The statement FnExactIsCentralElement is proved: whatever element comes in, the statement's function gives true and the element reads behind the call as it read before. No condition. -/
import Derived.Test.YticmlgnolbccjaaQ13
import Derived.Test.YticmlgnolbccjaaQ20
import Derived.Test.YticmlgnolbccjaaRows

set_option linter.unusedVariables false
set_option linter.unusedSimpArgs false
namespace Go.Proofs.Yticmlgnolbccjaa
open Go.RowKit Go.WideShapes Go.ChangeShapes Go.ChangeAt

set_option maxHeartbeats 4000000 in
set_option maxRecDepth 100000 in
theorem lawCen_any (x : El) (vx : Value) (w : World) (hx : In w vx x) :
    Calls Try.prog 3 #[x.val vx] w fun e w' => e = .returned (.bool true) ∧ Below w.heap.size w w' := by
  by_cases hl : x.ts.length ≤ 1048576
  · exact lawCen_calls x vx w (hx.wf hl) hx.l
  · have hxl := hx.len
    obtain ⟨adx, capx, hvx, -⟩ := id hx.l
    have HZ1 := Lib.hid (fun W => szElement_calls x vx adx capx hvx 1048576 W (by omega) (by omega) hxl)
    simp only [El.val, El.cells] at HZ1 ⊢
    have hX := Blk.new w #[.int .i64 x.p, .int .i64 x.c, .int .i64 x.n, vx] 24
    have hbl := (Below.refl w.heap.size w).alloc (Nat.le_refl _) (.cells #[.int .i64 x.p, .int .i64 x.c, .int .i64 x.n, vx] 24)
    have hz2 := hX.lt
    rw [if_neg (by omega)] at HZ1
    clear hvx hx
    go_enter Try.func3, Try.ntmps3
    go_wp2_with (refine load_lel rfl _ rfl _ rfl _ rfl _ hX ?_)
    generalize w.alloc (.cells #[.int .i64 x.p, .int .i64 x.c, .int .i64 x.n, vx] 24) = w2 at *
    refine (HZ1.out _).mono ?_
    rintro e w3 ⟨rfl, hb3⟩
    go_wp2_with fail
    go_ret
    exact ⟨rfl, hbl.trans (hb3.mono (by omega))⟩

set_option maxRecDepth 100000 in
theorem isCentralElement_lifted (os : Os) (started : os.Started) (H : Type) (enc : TypeId × Value → H) :
    ReturnsInHanded {} Try.checked os 3 .any (Rows.fnExactIsCentralElementSpec.pre6 enc Try.prog Try.f3 Rows.fnExactIsCentralElementRow.domain false) (Rows.fnExactIsCentralElementSpec.post enc Try.prog Try.f3 false true false false) := by
  refine returnsInHanded_of_change (C := Try.checked) own started (by kernel_rfl) Try.func3
    (ChangeSpec.witness6 (enc := enc) (C := Try.checked) false ⟨#[], #[.agg #[.int .i64 0, .int .i64 0, .int .i64 0, .slice none 0 0]], []⟩ 8 (by kernel_rfl) (by kernel_rfl) (by kernel_rfl) (by kernel_rfl)) ?_
  intro W base args ds gs before hval0 hW hcnd _
  have hval : ∀ (j : Nat) t v, Try.f3.params[j]? = some t → args[j]? = some v → Value.okWide Try.prog W .any base t v := hval0
  have hW' := hW
  obtain ⟨p, q, hA0, hV, rfl, hfz, hnd⟩ := hW
  have hA : DataW.TrodAll enc Try.prog W 0 (fun _ => true) true Try.f3.params.toList args.toList ds p := hA0
  rw [Try.params3] at hA hval
  obtain ⟨v0, d0, rfl, rfl, h0⟩ := trodAll_one hA
  obtain ⟨rfl, rfl⟩ := trodVars_none hV
  obtain ⟨x, vx, rfl, hx⟩ := open_el (hval 0 _ v0 rfl rfl) h0
  clear hA0 hval0
  simp only [List.append_nil] at hW'
  have hlt : ∀ u ∈ p, u.block < W.heap.size := fun u hu => hW'.lt u hu
  refine (lawCen_any x vx W hx).mono fun e W' ⟨he, hb⟩ => ?_
  subst he
  exact ⟨_, rfl, post_of_below (pa := p) (pv := []) hW' (fun _ _ _ => trodAll_mk1 (shut_bool Try.underlying4 _))
    (fun sp hsp => trodAll_mk1 (WideElems.Trod_stays laidOut (by kernel_rfl) (of_decide_eq_true (by kernel_rfl)) h0 (fun u hu => hb.same (hlt u hu)) (fun u hu => hsp u hu)))
    (fun _ _ => rfl) (by simp) hb (ok_one (by kernel_rfl) rfl (okWide_bool_mk Try.underlying4 _))⟩

theorem isCentralElement_holds : Rows.FnExactIsCentralElementSaid :=
  OpenClaim.holds_of_wide 3 Try.f3 rfl rfl rfl rfl rfl rfl rfl ⟨rfl, rfl, rfl, rfl, rfl⟩ rfl rfl rfl rfl rfl (by kernel_rfl) Try.func3 (by kernel_rfl)
    (of_decide_eq_true (by kernel_rfl)) (by unfold Func.isWrapper; first | (rw [if_pos (by decide +kernel)]; kernel_rfl) | (rw [if_neg (by decide +kernel)]; exact ⟨rfl, rfl⟩))
    (fun os started H enc _ => isCentralElement_lifted os started H enc)
#print axioms isCentralElement_holds
end Go.Proofs.Yticmlgnolbccjaa
