/- The reference's l02Told and MultiplyElements; the program's limited. -/
import Derived.Test.YticmlgnolbccjaaW1
set_option linter.unusedVariables false
set_option linter.unusedSimpArgs false
namespace Go.Proofs.Yticmlgnolbccjaa
open Go.RowKit

theorem run_build_zero (w : World) : (Instr.build 30 #[]).run Try.prog w = .ok (.agg #[.int .i64 0, .int .i64 0, .int .i64 0, .slice none 0 0]) w := run_build w 30 _ _ (by kernel_rfl)
theorem TsOwn.oneCell {w : World} {base : Nat} {v : Value} {ts : List Tm} (h : TsOwn w base v ts) : v.oneCell' = true := by obtain ⟨ad, cap, rfl, -, -⟩ := h.slice; rfl

/-- What a call that returns an element and a code leaves. -/
def ElRes (base : Nat) (w w' : World) (r : El × Int) (e : Ending) : Prop :=
  ∃ v, e = .returned (.tuple #[r.1.val v, .int .i64 r.2]) ∧ TsOwn w' base v r.1.ts ∧ Below w.heap.size w w'

set_option maxHeartbeats 4000000 in
set_option maxRecDepth 100000 in
theorem specTold_calls (x : El) (v : Value) (w : World) (base : Nat) (hv : TsOwn w base v x.ts) :
    Calls Try.prog 49 #[x.val v] w fun e w' => ElRes base w w' x.told e := by
  obtain ⟨ad, cap, rfl, hc1, hc2⟩ := hv.slice
  unfold El.val El.cells
  have hX := (Blk.new w #[.int .i64 x.p, .int .i64 x.c, .int .i64 x.n, .slice ad x.ts.length cap] 30).alloc (.cells #[.int .i64 0, .int .i64 0, .int .i64 0, .slice none 0 0] 30)
  have hR := Blk.newAt (w.alloc (.cells #[.int .i64 x.p, .int .i64 x.c, .int .i64 x.n, .slice ad x.ts.length cap] 30)) #[.int .i64 0, .int .i64 0, .int .i64 0, .slice none 0 0] 30 (b := w.heap.size + 1) (by simp)
  have hbl := ((Below.refl w.heap.size w).alloc (Nat.le_refl _) (.cells #[.int .i64 x.p, .int .i64 x.c, .int .i64 x.n, .slice ad x.ts.length cap] 30)).alloc (by simp) (.cells #[.int .i64 0, .int .i64 0, .int .i64 0, .slice none 0 0] 30)
  have hv2 := hv.below hbl (Nat.le_refl _)
  have hbz := run_build_zero
  by_cases hl : x.ts.length ≤ 140
  · have ht : x.told = (x, 0) := if_pos hl
    rw [ht]
    clear ht
    go_enter Try.func49, Try.ntmps49
    go_wp2_with (first | (refine load_el rfl _ rfl _ rfl _ rfl _ hX ?_) | (refine store_el rfl _ _ rfl _ rfl _ rfl rfl (el_all rfl) _ _ hR rfl ?_; intro w9 hR9 ho9))
    refine ret_el_tmp rfl _ rfl _ rfl _ hR9 _ rfl rfl ?_
    exact ⟨_, rfl, hv2.only ho9 (fun e => by have := (hv.lt _ e.symm).2; omega), hbl.trans (ho9.below (by omega))⟩
  · have ht : x.told = (El.zero, 3) := if_neg hl
    rw [ht]
    clear ht
    go_enter Try.func49, Try.ntmps49
    go_wp2_with (refine store_el rfl _ _ rfl _ rfl _ rfl rfl (el_all rfl) _ _ hR rfl ?_; intro w9 hR9 ho9)
    refine ret_el_tmp rfl _ rfl _ rfl _ hR9 _ rfl rfl ?_
    exact ⟨_, rfl, TsOwn.nil _ _, hbl.trans (ho9.below (by omega))⟩

set_option maxHeartbeats 4000000 in
set_option maxRecDepth 100000 in
theorem implLimited_calls (x : El) (v : Value) (w : World) (base : Nat) (hv : TsOwn w base v x.ts) :
    Calls Try.prog 51 #[x.val v] w fun e w' => ElRes base w w' x.told e := by
  obtain ⟨ad, cap, rfl, hc1, hc2⟩ := hv.slice
  unfold El.val El.cells
  have hX := (Blk.new w #[.int .i64 x.p, .int .i64 x.c, .int .i64 x.n, .slice ad x.ts.length cap] 30).alloc (.cells #[.int .i64 0, .int .i64 0, .int .i64 0, .slice none 0 0] 30)
  have hR := Blk.newAt (w.alloc (.cells #[.int .i64 x.p, .int .i64 x.c, .int .i64 x.n, .slice ad x.ts.length cap] 30)) #[.int .i64 0, .int .i64 0, .int .i64 0, .slice none 0 0] 30 (b := w.heap.size + 1) (by simp)
  have hbl := ((Below.refl w.heap.size w).alloc (Nat.le_refl _) (.cells #[.int .i64 x.p, .int .i64 x.c, .int .i64 x.n, .slice ad x.ts.length cap] 30)).alloc (by simp) (.cells #[.int .i64 0, .int .i64 0, .int .i64 0, .slice none 0 0] 30)
  have hv2 := hv.below hbl (Nat.le_refl _)
  have hbz := run_build_zero
  by_cases hl : x.ts.length ≤ 140
  · have ht : x.told = (x, 0) := if_pos hl
    rw [ht]
    clear ht
    go_enter Try.func51, Try.ntmps51
    go_wp2_with (first | (refine load_el rfl _ rfl _ rfl _ rfl _ hX ?_) | (refine store_el rfl _ _ rfl _ rfl _ rfl rfl (el_all rfl) _ _ hR rfl ?_; intro w9 hR9 ho9))
    refine ret_el_tmp rfl _ rfl _ rfl _ hR9 _ rfl rfl ?_
    exact ⟨_, rfl, hv2.only ho9 (fun e => by have := (hv.lt _ e.symm).2; omega), hbl.trans (ho9.below (by omega))⟩
  · have ht : x.told = (El.zero, 3) := if_neg hl
    rw [ht]
    clear ht
    go_enter Try.func51, Try.ntmps51
    go_wp2_with (refine store_el rfl _ _ rfl _ rfl _ rfl rfl (el_all rfl) _ _ hR rfl ?_; intro w9 hR9 ho9)
    refine ret_el_tmp rfl _ rfl _ rfl _ hR9 _ rfl rfl ?_
    exact ⟨_, rfl, TsOwn.nil _ _, hbl.trans (ho9.below (by omega))⟩

set_option maxHeartbeats 4000000 in
set_option maxRecDepth 100000 in
theorem specMultiply_bad (x y : El) (vx vy : Value) (w : World) (hx : x.Wf) (hy : y.Wf) (hvx : TsS w 0 vx x.ts) (hvy : TsS w 0 vy y.ts) (h0 : ¬ x.both y = 0) :
    Calls Try.prog 17 #[x.val vx, y.val vy] w fun e w' => ElRes w.heap.size w w' (El.zero, x.both y) e := by
  have HB := Lib.hid (fun W h1 h2 => specBoth_calls x y vx vy W hx hy h1 h2)
  have hb0 : (x.both y == 0) = false := by simpa using h0
  have hb1 : (x.both y != 0) = true := by simpa using h0
  have hbz := run_build_zero
  clear h0
  generalize x.both y = K at *
  unfold El.val El.cells at HB ⊢
  have hX := ((Blk.new w #[.int .i64 x.p, .int .i64 x.c, .int .i64 x.n, vx] 30).alloc (.cells #[.int .i64 y.p, .int .i64 y.c, .int .i64 y.n, vy] 30)).alloc (.cells #[.int .i64 0, .int .i64 0, .int .i64 0, .slice none 0 0] 30)
  have hY := (Blk.newAt (w.alloc (.cells #[.int .i64 x.p, .int .i64 x.c, .int .i64 x.n, vx] 30)) #[.int .i64 y.p, .int .i64 y.c, .int .i64 y.n, vy] 30 (b := w.heap.size + 1) (by simp)).alloc (.cells #[.int .i64 0, .int .i64 0, .int .i64 0, .slice none 0 0] 30)
  have hR := Blk.newAt ((w.alloc (.cells #[.int .i64 x.p, .int .i64 x.c, .int .i64 x.n, vx] 30)).alloc (.cells #[.int .i64 y.p, .int .i64 y.c, .int .i64 y.n, vy] 30)) #[.int .i64 0, .int .i64 0, .int .i64 0, .slice none 0 0] 30 (b := w.heap.size + 1 + 1) (by simp)
  have hbl := (((Below.refl w.heap.size w).alloc (Nat.le_refl _) (.cells #[.int .i64 x.p, .int .i64 x.c, .int .i64 x.n, vx] 30)).alloc (by simp) (.cells #[.int .i64 y.p, .int .i64 y.c, .int .i64 y.n, vy] 30)).alloc (by simp; omega) (.cells #[.int .i64 0, .int .i64 0, .int .i64 0, .slice none 0 0] 30)
  have hvx2 := hvx.below hbl (Nat.le_refl _)
  have hvy2 := hvy.below hbl (Nat.le_refl _)
  have hz2 := hR.lt
  clear hvx hvy
  go_enter Try.func17, Try.ntmps17
  go_wp2_with (first | (refine load_el rfl _ rfl _ rfl _ rfl _ hX ?_) | (refine load_el rfl _ rfl _ rfl _ rfl _ hY ?_))
  generalize ((w.alloc (.cells #[.int .i64 x.p, .int .i64 x.c, .int .i64 x.n, vx] 30)).alloc (.cells #[.int .i64 y.p, .int .i64 y.c, .int .i64 y.n, vy] 30)).alloc (.cells #[.int .i64 0, .int .i64 0, .int .i64 0, .slice none 0 0] 30) = w2 at *
  refine (HB.out _ hvx2 hvy2).mono ?_
  rintro e w3 ⟨rfl, hb3⟩
  have hR3 := hR.below hb3 hR.lt
  have hbl3 := hbl.trans (hb3.mono (by omega))
  have hz3 := hb3.size
  clear hX hY hR hvx2 hvy2 hbl hb3 HB
  go_wp2_with (refine store_el rfl _ _ rfl _ rfl _ rfl rfl (el_all rfl) _ _ hR3 rfl ?_; intro w9 hR9 ho9)
  refine ret_el_tmp rfl _ rfl _ rfl _ hR9 _ rfl rfl ?_
  exact ⟨_, rfl, TsOwn.nil _ _, hbl3.trans (ho9.below (by omega))⟩

set_option maxHeartbeats 4000000 in
set_option maxRecDepth 100000 in
theorem specMultiply_good (P C : Int) (N : Nat) (ts us : List Tm) (vx vy : Value) (w : World) (hp : 2 ≤ P) (hp97 : P ≤ 97) (hc0 : 0 ≤ C) (hcp : C ≤ P) (hn1 : 1 ≤ N) (hn8 : N ≤ 8) (hnx : Nf P N ts) (hny : Nf P N us) (hl1 : ts.length ≤ 140) (hl2 : us.length ≤ 140)
    (hB : ∀ W, TsS W 0 vx ts → TsS W 0 vy us → Calls Try.prog 48 #[.agg #[.int .i64 P, .int .i64 C, .int .i64 N, vx], .agg #[.int .i64 P, .int .i64 C, .int .i64 N, vy]] W fun e w' => e = .returned (.int .i64 0) ∧ Below W.heap.size W w')
    (hvx : TsS w 0 vx ts) (hvy : TsS w 0 vy us) :
    Calls Try.prog 17 #[.agg #[.int .i64 P, .int .i64 C, .int .i64 N, vx], .agg #[.int .i64 P, .int .i64 C, .int .i64 N, vy]] w fun e w' => ElRes w.heap.size w w' (El.told ⟨P, C, N, mulT P C N ts us⟩) e := by
  have HB := Lib.hid hB
  clear hB
  have HM := Lib.hid (fun W h1 h2 => specMulT_calls P C N ts us hp hp97 hc0 hcp hn1 hn8 hnx hny (by omega) (by omega) vx vy W h1 h2)
  unfold el at HM
  clear hnx hny
  have hX := ((Blk.new w #[.int .i64 P, .int .i64 C, .int .i64 N, vx] 30).alloc (.cells #[.int .i64 P, .int .i64 C, .int .i64 N, vy] 30)).alloc (.cells #[.int .i64 0, .int .i64 0, .int .i64 0, .slice none 0 0] 30)
  have hY := (Blk.newAt (w.alloc (.cells #[.int .i64 P, .int .i64 C, .int .i64 N, vx] 30)) #[.int .i64 P, .int .i64 C, .int .i64 N, vy] 30 (b := w.heap.size + 1) (by simp)).alloc (.cells #[.int .i64 0, .int .i64 0, .int .i64 0, .slice none 0 0] 30)
  have hR := Blk.newAt ((w.alloc (.cells #[.int .i64 P, .int .i64 C, .int .i64 N, vx] 30)).alloc (.cells #[.int .i64 P, .int .i64 C, .int .i64 N, vy] 30)) #[.int .i64 0, .int .i64 0, .int .i64 0, .slice none 0 0] 30 (b := w.heap.size + 1 + 1) (by simp)
  have hbl := (((Below.refl w.heap.size w).alloc (Nat.le_refl _) (.cells #[.int .i64 P, .int .i64 C, .int .i64 N, vx] 30)).alloc (by simp) (.cells #[.int .i64 P, .int .i64 C, .int .i64 N, vy] 30)).alloc (by simp; omega) (.cells #[.int .i64 0, .int .i64 0, .int .i64 0, .slice none 0 0] 30)
  have hvx2 := hvx.below hbl (Nat.le_refl _)
  have hvy2 := hvy.below hbl (Nat.le_refl _)
  have hz2 := hR.lt
  clear hvx hvy
  go_enter Try.func17, Try.ntmps17
  go_wp2_with (first | (refine load_el rfl _ rfl _ rfl _ rfl _ hX ?_) | (refine load_el rfl _ rfl _ rfl _ rfl _ hY ?_))
  generalize ((w.alloc (.cells #[.int .i64 P, .int .i64 C, .int .i64 N, vx] 30)).alloc (.cells #[.int .i64 P, .int .i64 C, .int .i64 N, vy] 30)).alloc (.cells #[.int .i64 0, .int .i64 0, .int .i64 0, .slice none 0 0] 30) = w2 at *
  refine (HB.out _ hvx2 hvy2).mono ?_
  rintro e w3 ⟨rfl, hb3⟩
  have hX3 := hX.below hb3 hX.lt
  have hY3 := hY.below hb3 hY.lt
  have hR3 := hR.below hb3 hR.lt
  have hvx3 := hvx2.below hb3 (Nat.le_refl _)
  have hvy3 := hvy2.below hb3 (Nat.le_refl _)
  have hbl3 := hbl.trans (hb3.mono (by omega))
  have hz3 := hb3.size
  clear hX hY hR hvx2 hvy2 hbl hb3 HB
  go_wp2_with (first | (refine load_el rfl _ rfl _ rfl _ rfl _ hX3 ?_) | (refine load_el rfl _ rfl _ rfl _ rfl _ hY3 ?_))
  refine (HM.out _ hvx3 hvy3).mono ?_
  rintro e w4 ⟨v4, rfl, hv4, hb4⟩
  have HT := Lib.hid (fun W h => specTold_calls ⟨P, C, N, mulT P C N ts us⟩ v4 W w3.heap.size h)
  unfold El.val El.cells at HT
  have hR4 := hR3.below hb4 hR3.lt
  have hbl4 := hbl3.trans (hb4.mono (by omega))
  have hv4' := hv4.1
  have hz4 := hb4.size
  clear hX3 hY3 hR3 hvx3 hvy3 hbl3 hb4 hv4 HM
  go_wp2_with fail
  refine (HT.out _ hv4').mono ?_
  rintro e w5 ⟨v5, rfl, hv5, hb5⟩
  unfold El.val El.cells
  have hR5 := hR4.below hb5 hR4.lt
  have hbl5 := hbl4.trans (hb5.mono (by omega))
  have h1c := hv5.oneCell
  have hz5 := hb5.size
  generalize hRe : (El.told ⟨P, C, N, mulT P C N ts us⟩) = R at *
  have HRe := Lib.hid hRe
  clear hRe
  clear hR4 hbl4 hv4' hb5 HT
  go_wp2_with (first | (refine store_el rfl _ _ rfl _ rfl _ rfl rfl (el_all h1c) _ _ (Blk.newAt _ _ _ rfl) rfl ?_; intro w6 hD6 ho6; have hR6 := (hR5.alloc _).only ho6 (by omega); have hv6 := (hv5.alloc' _).only ho6 (fun e => by have := (hv5.lt _ e.symm).2; omega); have hbl6 := (hbl5.alloc (by omega) _).trans (ho6.below (by omega))) | (refine load_el rfl _ rfl _ rfl _ rfl _ hD6 ?_) | (refine store_el rfl _ _ rfl _ rfl _ rfl rfl (el_all h1c) _ _ hR6 rfl ?_; intro w9 hR9 ho9))
  refine ret_el_tmp rfl _ rfl _ rfl _ hR9 _ rfl rfl ?_
  rw [HRe.out]
  exact ⟨v5, rfl, (hv6.only ho9 (fun e => by have := (hv6.lt _ e.symm).1; omega)).mono (by omega), hbl6.trans (ho9.below (by omega))⟩

theorem both_zero {x y : El} (hx : x.Wf) (hy : y.Wf) (h0 : x.both y = 0) : ∃ (P C : Int) (N : Nat), x = ⟨P, C, N, x.ts⟩ ∧ y = ⟨P, C, N, y.ts⟩ ∧ 2 ≤ P ∧ P ≤ 97 ∧ 0 ≤ C ∧ C < P ∧ 1 ≤ N ∧ N ≤ 8 ∧ Nf P N x.ts ∧ Nf P N y.ts ∧ x.ts.length ≤ 140 ∧ y.ts.length ≤ 140 := by
  have hok : x.ok = true ∧ y.ok = true ∧ x.alike y = true := by
    unfold El.both at h0
    cases h1 : x.ok <;> cases h2 : y.ok <;> cases h3 : x.alike y <;> simp_all
  obtain ⟨⟨hp, hp97⟩, ⟨hc0, hcp⟩, ⟨hn1, hn8⟩, hl1, hnx⟩ := El.ok_nf hx hok.1
  obtain ⟨-, -, -, hl2, hny⟩ := El.ok_nf hy hok.2.1
  have hal : x.p = y.p ∧ x.c = y.c ∧ x.n = y.n := by
    have := hok.2.2
    unfold El.alike at this
    simpa [and_assoc] using this
  cases x with
  | mk p c n ts =>
    cases y with
    | mk p' c' n' us =>
      obtain ⟨h1, h2, h3⟩ := hal
      simp only at h1 h2 h3 hp hp97 hc0 hcp hn1 hn8 hnx hny hl1 hl2
      subst h1 h2 h3
      obtain ⟨N, rfl⟩ : ∃ N : Nat, n = N := ⟨n.toNat, by omega⟩
      exact ⟨p, c, N, rfl, rfl, hp, hp97, hc0, hcp, by omega, by omega, by simpa using hnx, by simpa using hny, hl1, hl2⟩

theorem specMultiply_calls (x y : El) (vx vy : Value) (w : World) (hx : x.Wf) (hy : y.Wf) (hvx : TsS w 0 vx x.ts) (hvy : TsS w 0 vy y.ts) :
    Calls Try.prog 17 #[x.val vx, y.val vy] w fun e w' => ElRes w.heap.size w w' (x.mulR y) e := by
  by_cases h0 : x.both y = 0
  · have hm : x.mulR y = (x.mul y).told := if_pos h0
    rw [hm]
    have HB := fun W h1 h2 => specBoth_calls x y vx vy W hx hy h1 h2
    rw [h0] at HB
    obtain ⟨P, C, N, hX, hY, hp, hp97, hc0, hcp, hn1, hn8, hnx, hny, hl1, hl2⟩ := both_zero hx hy h0
    generalize x.ts = ts at *
    generalize y.ts = us at *
    subst hX hY
    exact specMultiply_good P C N ts us vx vy w hp hp97 hc0 (by omega) hn1 hn8 hnx hny hl1 hl2 HB hvx hvy
  · have hm : x.mulR y = (El.zero, x.both y) := if_neg h0
    rw [hm]
    exact specMultiply_bad x y vx vy w hx hy hvx hvy h0
end Go.Proofs.Yticmlgnolbccjaa
