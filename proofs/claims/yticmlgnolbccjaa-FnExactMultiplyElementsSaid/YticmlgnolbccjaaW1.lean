/- The codes of two elements, and the products of MultiplyElements: the reference. -/
import Derived.Test.YticmlgnolbccjaaV5
import Derived.Test.YticmlgnolbccjaaV6
set_option linter.unusedVariables false
set_option linter.unusedSimpArgs false
namespace Go.Proofs.Yticmlgnolbccjaa
open Go.RowKit

structure El where
  p : Int
  c : Int
  n : Int
  ts : List Tm

namespace El
def cells (x : El) (v : Value) : Array Value := #[.int .i64 x.p, .int .i64 x.c, .int .i64 x.n, v]
def val (x : El) (v : Value) : Value := .agg (x.cells v)
def ok (x : El) : Bool := eokB x.p x.c x.n x.ts
structure Wf (x : El) : Prop where
  ts : ∀ t ∈ x.ts, t.Wf
  len : x.ts.length ≤ 1048576
  p : -9223372036854775808 ≤ x.p ∧ x.p ≤ 9223372036854775807
  c : -9223372036854775808 ≤ x.c ∧ x.c ≤ 9223372036854775807
  n : -9223372036854775808 ≤ x.n ∧ x.n ≤ 9223372036854775807
/-- Nothing. -/
def zero : El := ⟨0, 0, 0, []⟩
def alike (x y : El) : Bool := decide (x.p = y.p) && decide (x.c = y.c) && decide (x.n = y.n)
/-- The code of two. -/
def both (x y : El) : Int := if x.ok && y.ok then (if x.alike y then 0 else 2) else 1
/-- With its code. -/
def told (x : El) : El × Int := if x.ts.length ≤ 140 then (x, 0) else (zero, 3)
def mul (x y : El) : El := ⟨x.p, x.c, x.n, mulT x.p x.c x.n.toNat x.ts y.ts⟩
def mulR (x y : El) : El × Int := if x.both y = 0 then (x.mul y).told else (zero, x.both y)
theorem ok_nf {x : El} (hw : x.Wf) (h : x.ok = true) : (2 ≤ x.p ∧ x.p ≤ 97) ∧ (0 ≤ x.c ∧ x.c < x.p) ∧ (1 ≤ x.n ∧ x.n ≤ 8) ∧ x.ts.length ≤ 140 ∧ Nf x.p x.n.toNat x.ts := eok_nf hw.ts h
end El

theorem TsS.rng {w : World} {base : Nat} {v : Value} {ts : List Tm} (h : TsS w base v ts) : ∃ g cap, v = .slice (some ⟨g, 0, none⟩) ts.length cap ∧ g < w.heap.size ∧ ts.length ≤ cap ∧ cap ≤ 9223372036854775807 ∧ w.rangeAt g 0 (tc ts) := by
  obtain ⟨g, cap, h1, -, h2, h3, h4, h5⟩ := h.out
  exact ⟨g, cap, h1, h2, h3, h4, h5⟩
theorem specIsElS_calls (x : El) (v : Value) (w : World) (hx : x.Wf) (hv : TsS w 0 v x.ts) (b : Bool) (hb : x.ok = b) : Calls Try.prog 37 #[.agg #[.int .i64 x.p, .int .i64 x.c, .int .i64 x.n, v]] w fun e w' => e = .returned (.bool b) ∧ Below w.heap.size w w' := by
  obtain ⟨g, cap, rfl, h2, h3, h4, h5⟩ := hv.rng
  subst hb
  exact specIsEl_calls x.p x.c x.n x.ts g cap w h2 h3 h4 h5 hx.ts hx.len
theorem implIsElS_calls (x : El) (v : Value) (w : World) (hx : x.Wf) (hv : TsS w 0 v x.ts) (b : Bool) (hb : x.ok = b) : Calls Try.prog 43 #[.agg #[.int .i64 x.p, .int .i64 x.c, .int .i64 x.n, v]] w fun e w' => e = .returned (.bool b) ∧ Below w.heap.size w w' := by
  subst hb
  exact implIsEl_calls x.p x.c x.n x.ts v w hv hx.ts hx.len

section
variable {ops : Array Oper} {rest : List Oper} {o : Oper} {a : Act} {w : World} {Q : Exit → Act → World → Prop}
theorem load_elw (x : Operand) (ho : o.op = .load 30 x) (b : Nat) (hx : a.eval x = .pointer (some ⟨b, 0, none⟩)) (cs : Array Value) (hs : cs.size = 4) (T : TypeId) (h : Blk w b cs T) (hw : Region.wanted o (yielded ops a.tmps) = true)
    (hK : wpList Try.prog ops Q rest (a.put o.dst (.agg cs)) w) : wpList Try.prog ops Q (o :: rest) a w :=
  BigFrame.wpList_want hw fun _ hk => wp_load_row _ x ho b hx T cs (0, 0) _ h Try.underlying30 rfl (by rw [info_el, hs]) (hk _ _ hK)
end

set_option maxHeartbeats 4000000 in
set_option maxRecDepth 100000 in
theorem specBoth_calls (x y : El) (vx vy : Value) (w : World) (hx : x.Wf) (hy : y.Wf) (hvx : TsS w 0 vx x.ts) (hvy : TsS w 0 vy y.ts) :
    Calls Try.prog 48 #[x.val vx, y.val vy] w fun e w' => e = .returned (.int .i64 (x.both y)) ∧ Below w.heap.size w w' := by
  have hC1 := fun W h b hb => specIsElS_calls x vx W hx h b hb
  have hC2 := fun W h b hb => specIsElS_calls y vy W hy h b hb
  have HC1 := Lib.hid hC1
  have HC2 := Lib.hid hC2
  clear hC1 hC2
  unfold El.val El.cells
  have hX := (Blk.new w #[.int .i64 x.p, .int .i64 x.c, .int .i64 x.n, vx] 30).alloc (.cells #[.int .i64 y.p, .int .i64 y.c, .int .i64 y.n, vy] 30)
  have hY := Blk.newAt (w.alloc (.cells #[.int .i64 x.p, .int .i64 x.c, .int .i64 x.n, vx] 30)) #[.int .i64 y.p, .int .i64 y.c, .int .i64 y.n, vy] 30 (b := w.heap.size + 1) (by simp)
  have hbl := ((Below.refl w.heap.size w).alloc (Nat.le_refl _) (.cells #[.int .i64 x.p, .int .i64 x.c, .int .i64 x.n, vx] 30)).alloc (by simp) (.cells #[.int .i64 y.p, .int .i64 y.c, .int .i64 y.n, vy] 30)
  have hvx2 := hvx.below hbl (Nat.le_refl _)
  have hvy2 := hvy.below hbl (Nat.le_refl _)
  have hz2 := hY.lt
  clear hvx hvy
  go_enter Try.func48, Try.ntmps48
  go_wp2_with (refine load_el rfl _ rfl _ rfl _ rfl _ hX ?_)
  generalize (w.alloc (.cells #[.int .i64 x.p, .int .i64 x.c, .int .i64 x.n, vx] 30)).alloc (.cells #[.int .i64 y.p, .int .i64 y.c, .int .i64 y.n, vy] 30) = w2 at *
  cases hox : x.ok with
  | false =>
    refine (HC1.out _ hvx2 _ hox).mono ?_
    rintro e w3 ⟨rfl, hb3⟩
    have hres : x.both y = 1 := by unfold El.both; rw [hox]; rfl
    have Hres := Lib.hid hres
    clear hres hox
    go_wp2_with fail
    go_ret
    exact ⟨ret_int Hres.out.symm, hbl.trans (hb3.mono (by omega))⟩
  | true =>
    refine (HC1.out _ hvx2 _ hox).mono ?_
    rintro e w3 ⟨rfl, hb3⟩
    have Hox := Lib.hid hox
    clear hox
    have hX3 := hX.below hb3 hX.lt
    have hY3 := hY.below hb3 hY.lt
    have hvy3 := hvy2.below hb3 (Nat.le_refl _)
    have hbl3 := hbl.trans (hb3.mono (by omega))
    have hz3 := hb3.size
    clear hX hY hvx2 hvy2 hbl hb3
    go_wp2_with (refine load_elw _ rfl _ rfl _ rfl _ hY3 rfl ?_)
    cases hoy : y.ok with
    | false =>
      refine (HC2.out _ hvy3 _ hoy).mono ?_
      rintro e w4 ⟨rfl, hb4⟩
      have hres : x.both y = 1 := by unfold El.both; rw [hoy, Bool.and_false]; rfl
      have Hres := Lib.hid hres
      clear hres hoy
      go_wp2_with fail
      go_ret
      exact ⟨ret_int Hres.out.symm, hbl3.trans (hb4.mono (by omega))⟩
    | true =>
      refine (HC2.out _ hvy3 _ hoy).mono ?_
      rintro e w4 ⟨rfl, hb4⟩
      have hres : x.both y = if x.alike y then 0 else 2 := by unfold El.both; rw [hoy, Hox.out]; rfl
      have Hres := Lib.hid hres
      clear hres hoy
      have hX4 := (hX3.below hb4 hX3.lt).cells
      have hY4 := (hY3.below hb4 hY3.lt).cells
      have hbl4 := hbl3.trans (hb4.mono (by omega))
      clear hX3 hY3 hvy3 hb4 hbl3
      by_cases h1 : x.p = y.p
      · have a1 : (x.p == y.p) = true := by simpa using h1
        have a2 : (x.p != y.p) = false := by simpa using h1
        by_cases h2 : x.c = y.c
        · have b1 : (x.c == y.c) = true := by simpa using h2
          have b2 : (x.c != y.c) = false := by simpa using h2
          by_cases h3 : x.n = y.n
          · have c1 : (x.n == y.n) = true := by simpa using h3
            have c2 : (x.n != y.n) = false := by simpa using h3
            have hal : x.alike y = true := by unfold El.alike; simp [h1, h2, h3]
            have Hal := Lib.hid hal
            clear h1 h2 h3 hal
            go_wp2_with fail
            go_ret
            exact ⟨ret_int (by rw [Hres.out, Hal.out]; rfl), hbl4⟩
          · have c1 : (x.n == y.n) = false := by simpa using h3
            have c2 : (x.n != y.n) = true := by simpa using h3
            have hal : x.alike y = false := by unfold El.alike; simp [h3]
            have Hal := Lib.hid hal
            clear h1 h2 h3 hal
            go_wp2_with fail
            go_ret
            exact ⟨ret_int (by rw [Hres.out, Hal.out]; rfl), hbl4⟩
        · have b1 : (x.c == y.c) = false := by simpa using h2
          have b2 : (x.c != y.c) = true := by simpa using h2
          have hal : x.alike y = false := by unfold El.alike; simp [h2]
          have Hal := Lib.hid hal
          clear h1 h2 hal
          go_wp2_with fail
          go_ret
          exact ⟨ret_int (by rw [Hres.out, Hal.out]; rfl), hbl4⟩
      · have a1 : (x.p == y.p) = false := by simpa using h1
        have a2 : (x.p != y.p) = true := by simpa using h1
        have hal : x.alike y = false := by unfold El.alike; simp [h1]
        have Hal := Lib.hid hal
        clear h1 hal
        go_wp2_with fail
        go_ret
        exact ⟨ret_int (by rw [Hres.out, Hal.out]; rfl), hbl4⟩
end Go.Proofs.Yticmlgnolbccjaa
