/- The codes of two elements, and the products of MultiplyElements: the reference. -/
import Derived.Test.YticmlgnolbccjaaQ8
import Derived.Test.YticmlgnolbccjaaQ9

set_option linter.unusedVariables false
set_option linter.unusedSimpArgs false
namespace Go.Proofs.Yticmlgnolbccjaa
open Go.RowKit

structure El where
  p : Int
  c : Int
  n : Int
  ts : List Tm

namespace El
def cells (x : El) (v : Value) : Array Value := #[.int .i64 x.p, .int .i64 x.c, .int .i64 x.n, v]
def val (x : El) (v : Value) : Value := .agg (x.cells v)
def ok (x : El) : Bool := eokB x.p x.c x.n x.ts
structure Wf (x : El) : Prop where
  ts : ∀ t ∈ x.ts, t.Wf
  len : x.ts.length ≤ 1048576
  p : -9223372036854775808 ≤ x.p ∧ x.p ≤ 9223372036854775807
  c : -9223372036854775808 ≤ x.c ∧ x.c ≤ 9223372036854775807
  n : -9223372036854775808 ≤ x.n ∧ x.n ≤ 9223372036854775807
/-- Nothing. -/
def zero : El := ⟨0, 0, 0, []⟩
def alike (x y : El) : Bool := decide (x.p = y.p) && decide (x.c = y.c) && decide (x.n = y.n)
/-- The code of two. -/
def both (x y : El) : Int := if x.ok && y.ok then (if x.alike y then 0 else 2) else 1
/-- With its code. -/
def told (x : El) : El × Int := if x.ts.length ≤ 140 then (x, 0) else (zero, 3)
def mul (x y : El) : El := ⟨x.p, x.c, x.n, mulT x.p x.c x.n.toNat x.ts y.ts⟩
def mulR (x y : El) : El × Int := if x.both y = 0 then (x.mul y).told else (zero, x.both y)
theorem ok_nf {x : El} (hw : x.Wf) (h : x.ok = true) : (2 ≤ x.p ∧ x.p ≤ 97) ∧ (0 ≤ x.c ∧ x.c < x.p) ∧ (1 ≤ x.n ∧ x.n ≤ 8) ∧ x.ts.length ≤ 140 ∧ Nf x.p x.n.toNat x.ts := eok_nf hw.ts h
end El

theorem TsS.rng {w : World} {base : Nat} {v : Value} {ts : List Tm} (h : TsS w base v ts) : ∃ g cap, v = .slice (some ⟨g, 0, none⟩) ts.length cap ∧ g < w.heap.size ∧ ts.length ≤ cap ∧ cap ≤ 9223372036854775807 ∧ w.rangeAt g 0 (tc ts) := by
  obtain ⟨g, cap, h1, -, h2, h3, h4, h5⟩ := h.out
  exact ⟨g, cap, h1, h2, h3, h4, h5⟩
theorem specIsElS_calls (x : El) (v : Value) (w : World) (hx : x.Wf) (hv : TsS w 0 v x.ts) (b : Bool) (hb : x.ok = b) : Calls Try.prog 37 #[.agg #[.int .i64 x.p, .int .i64 x.c, .int .i64 x.n, v]] w fun e w' => e = .returned (.bool b) ∧ Below w.heap.size w w' := by
  obtain ⟨g, cap, rfl, h2, h3, h4, h5⟩ := hv.rng
  subst hb
  exact specIsEl_calls x.p x.c x.n x.ts g cap w h2 h3 h4 h5 hx.ts hx.len
theorem implIsElS_calls (x : El) (v : Value) (w : World) (hx : x.Wf) (hv : TsS w 0 v x.ts) (b : Bool) (hb : x.ok = b) : Calls Try.prog 43 #[.agg #[.int .i64 x.p, .int .i64 x.c, .int .i64 x.n, v]] w fun e w' => e = .returned (.bool b) ∧ Below w.heap.size w w' := by
  subst hb
  exact implIsEl_calls x.p x.c x.n x.ts v w hv hx.ts hx.len

section
variable {ops : Array Oper} {rest : List Oper} {o : Oper} {a : Act} {w : World} {Q : Exit → Act → World → Prop}
theorem load_elw (x : Operand) (ho : o.op = .load 30 x) (b : Nat) (hx : a.eval x = .pointer (some ⟨b, 0, none⟩)) (cs : Array Value) (hs : cs.size = 4) (T : TypeId) (h : Blk w b cs T) (hw : Region.wanted o (yielded ops a.tmps) = true)
    (hK : wpList Try.prog ops Q rest (a.put o.dst (.agg cs)) w) : wpList Try.prog ops Q (o :: rest) a w :=
  BigFrame.wpList_want hw fun _ hk => wp_load_row _ x ho b hx T cs (0, 0) _ h Try.underlying30 rfl (by rw [info_el, hs]) (hk _ _ hK)
end

set_option maxHeartbeats 4000000 in
set_option maxRecDepth 100000 in
theorem specBoth_calls (x y : El) (vx vy : Value) (w : World) (hx : x.Wf) (hy : y.Wf) (hvx : TsS w 0 vx x.ts) (hvy : TsS w 0 vy y.ts) :
    Calls Try.prog 48 #[x.val vx, y.val vy] w fun e w' => e = .returned (.int .i64 (x.both y)) ∧ Below w.heap.size w w' := by
  have hC1 := fun W h b hb => specIsElS_calls x vx W hx h b hb
  have hC2 := fun W h b hb => specIsElS_calls y vy W hy h b hb
  have HC1 := Lib.hid hC1
  have HC2 := Lib.hid hC2
  clear hC1 hC2
  unfold El.val El.cells
  have hX := (Blk.new w #[.int .i64 x.p, .int .i64 x.c, .int .i64 x.n, vx] 30).alloc (.cells #[.int .i64 y.p, .int .i64 y.c, .int .i64 y.n, vy] 30)
  have hY := Blk.newAt (w.alloc (.cells #[.int .i64 x.p, .int .i64 x.c, .int .i64 x.n, vx] 30)) #[.int .i64 y.p, .int .i64 y.c, .int .i64 y.n, vy] 30 (b := w.heap.size + 1) (by simp)
  have hbl := ((Below.refl w.heap.size w).alloc (Nat.le_refl _) (.cells #[.int .i64 x.p, .int .i64 x.c, .int .i64 x.n, vx] 30)).alloc (by simp) (.cells #[.int .i64 y.p, .int .i64 y.c, .int .i64 y.n, vy] 30)
  have hvx2 := hvx.below hbl (Nat.le_refl _)
  have hvy2 := hvy.below hbl (Nat.le_refl _)
  have hz2 := hY.lt
  clear hvx hvy
  go_enter Try.func48, Try.ntmps48
  go_wp2_with (refine load_el rfl _ rfl _ rfl _ rfl _ hX ?_)
  generalize (w.alloc (.cells #[.int .i64 x.p, .int .i64 x.c, .int .i64 x.n, vx] 30)).alloc (.cells #[.int .i64 y.p, .int .i64 y.c, .int .i64 y.n, vy] 30) = w2 at *
  cases hox : x.ok with
  | false =>
    refine (HC1.out _ hvx2 _ hox).mono ?_
    rintro e w3 ⟨rfl, hb3⟩
    have hres : x.both y = 1 := by unfold El.both; rw [hox]; rfl
    have Hres := Lib.hid hres
    clear hres hox
    go_wp2_with fail
    go_ret
    exact ⟨ret_int Hres.out.symm, hbl.trans (hb3.mono (by omega))⟩
  | true =>
    refine (HC1.out _ hvx2 _ hox).mono ?_
    rintro e w3 ⟨rfl, hb3⟩
    have Hox := Lib.hid hox
    clear hox
    have hX3 := hX.below hb3 hX.lt
    have hY3 := hY.below hb3 hY.lt
    have hvy3 := hvy2.below hb3 (Nat.le_refl _)
    have hbl3 := hbl.trans (hb3.mono (by omega))
    have hz3 := hb3.size
    clear hX hY hvx2 hvy2 hbl hb3
    go_wp2_with (refine load_elw _ rfl _ rfl _ rfl _ hY3 rfl ?_)
    cases hoy : y.ok with
    | false =>
      refine (HC2.out _ hvy3 _ hoy).mono ?_
      rintro e w4 ⟨rfl, hb4⟩
      have hres : x.both y = 1 := by unfold El.both; rw [hoy, Bool.and_false]; rfl
      have Hres := Lib.hid hres
      clear hres hoy
      go_wp2_with fail
      go_ret
      exact ⟨ret_int Hres.out.symm, hbl3.trans (hb4.mono (by omega))⟩
    | true =>
      refine (HC2.out _ hvy3 _ hoy).mono ?_
      rintro e w4 ⟨rfl, hb4⟩
      have hres : x.both y = if x.alike y then 0 else 2 := by unfold El.both; rw [hoy, Hox.out]; rfl
      have Hres := Lib.hid hres
      clear hres hoy
      have hX4 := (hX3.below hb4 hX3.lt).cells
      have hY4 := (hY3.below hb4 hY3.lt).cells
      have hbl4 := hbl3.trans (hb4.mono (by omega))
      clear hX3 hY3 hvy3 hb4 hbl3
      by_cases h1 : x.p = y.p
      · have a1 : (x.p == y.p) = true := by simpa using h1
        have a2 : (x.p != y.p) = false := by simpa using h1
        by_cases h2 : x.c = y.c
        · have b1 : (x.c == y.c) = true := by simpa using h2
          have b2 : (x.c != y.c) = false := by simpa using h2
          by_cases h3 : x.n = y.n
          · have c1 : (x.n == y.n) = true := by simpa using h3
            have c2 : (x.n != y.n) = false := by simpa using h3
            have hal : x.alike y = true := by unfold El.alike; simp [h1, h2, h3]
            have Hal := Lib.hid hal
            clear h1 h2 h3 hal
            go_wp2_with fail
            go_ret
            exact ⟨ret_int (by rw [Hres.out, Hal.out]; rfl), hbl4⟩
          · have c1 : (x.n == y.n) = false := by simpa using h3
            have c2 : (x.n != y.n) = true := by simpa using h3
            have hal : x.alike y = false := by unfold El.alike; simp [h3]
            have Hal := Lib.hid hal
            clear h1 h2 h3 hal
            go_wp2_with fail
            go_ret
            exact ⟨ret_int (by rw [Hres.out, Hal.out]; rfl), hbl4⟩
        · have b1 : (x.c == y.c) = false := by simpa using h2
          have b2 : (x.c != y.c) = true := by simpa using h2
          have hal : x.alike y = false := by unfold El.alike; simp [h2]
          have Hal := Lib.hid hal
          clear h1 h2 hal
          go_wp2_with fail
          go_ret
          exact ⟨ret_int (by rw [Hres.out, Hal.out]; rfl), hbl4⟩
      · have a1 : (x.p == y.p) = false := by simpa using h1
        have a2 : (x.p != y.p) = true := by simpa using h1
        have hal : x.alike y = false := by unfold El.alike; simp [h1]
        have Hal := Lib.hid hal
        clear h1 hal
        go_wp2_with fail
        go_ret
        exact ⟨ret_int (by rw [Hres.out, Hal.out]; rfl), hbl4⟩
end Go.Proofs.Yticmlgnolbccjaa

/- The reference's l02Told and MultiplyElements; the program's limited. -/
set_option linter.unusedVariables false
set_option linter.unusedSimpArgs false
namespace Go.Proofs.Yticmlgnolbccjaa
open Go.RowKit

theorem run_build_zero (w : World) : (Instr.build 30 #[]).run Try.prog w = .ok (.agg #[.int .i64 0, .int .i64 0, .int .i64 0, .slice none 0 0]) w := run_build w 30 _ _ (by kernel_rfl)
theorem TsOwn.oneCell {w : World} {base : Nat} {v : Value} {ts : List Tm} (h : TsOwn w base v ts) : v.oneCell' = true := by obtain ⟨ad, cap, rfl, -, -⟩ := h.slice; rfl

/-- What a call that returns an element and a code leaves. -/
def ElRes (base : Nat) (w w' : World) (r : El × Int) (e : Ending) : Prop :=
  ∃ v, e = .returned (.tuple #[r.1.val v, .int .i64 r.2]) ∧ TsOwn w' base v r.1.ts ∧ Below w.heap.size w w'

set_option maxHeartbeats 4000000 in
set_option maxRecDepth 100000 in
theorem specTold_calls (x : El) (v : Value) (w : World) (base : Nat) (hv : TsOwn w base v x.ts) :
    Calls Try.prog 49 #[x.val v] w fun e w' => ElRes base w w' x.told e := by
  obtain ⟨ad, cap, rfl, hc1, hc2⟩ := hv.slice
  unfold El.val El.cells
  have hX := (Blk.new w #[.int .i64 x.p, .int .i64 x.c, .int .i64 x.n, .slice ad x.ts.length cap] 30).alloc (.cells #[.int .i64 0, .int .i64 0, .int .i64 0, .slice none 0 0] 30)
  have hR := Blk.newAt (w.alloc (.cells #[.int .i64 x.p, .int .i64 x.c, .int .i64 x.n, .slice ad x.ts.length cap] 30)) #[.int .i64 0, .int .i64 0, .int .i64 0, .slice none 0 0] 30 (b := w.heap.size + 1) (by simp)
  have hbl := ((Below.refl w.heap.size w).alloc (Nat.le_refl _) (.cells #[.int .i64 x.p, .int .i64 x.c, .int .i64 x.n, .slice ad x.ts.length cap] 30)).alloc (by simp) (.cells #[.int .i64 0, .int .i64 0, .int .i64 0, .slice none 0 0] 30)
  have hv2 := hv.below hbl (Nat.le_refl _)
  have hbz := run_build_zero
  by_cases hl : x.ts.length ≤ 140
  · have ht : x.told = (x, 0) := if_pos hl
    rw [ht]
    clear ht
    go_enter Try.func49, Try.ntmps49
    go_wp2_with (first | (refine load_el rfl _ rfl _ rfl _ rfl _ hX ?_) | (refine store_el rfl _ _ rfl _ rfl _ rfl rfl (el_all rfl) _ _ hR rfl ?_; intro w9 hR9 ho9))
    refine ret_el_tmp rfl _ rfl _ rfl _ hR9 _ rfl rfl ?_
    exact ⟨_, rfl, hv2.only ho9 (fun e => by have := (hv.lt _ e.symm).2; omega), hbl.trans (ho9.below (by omega))⟩
  · have ht : x.told = (El.zero, 3) := if_neg hl
    rw [ht]
    clear ht
    go_enter Try.func49, Try.ntmps49
    go_wp2_with (refine store_el rfl _ _ rfl _ rfl _ rfl rfl (el_all rfl) _ _ hR rfl ?_; intro w9 hR9 ho9)
    refine ret_el_tmp rfl _ rfl _ rfl _ hR9 _ rfl rfl ?_
    exact ⟨_, rfl, TsOwn.nil _ _, hbl.trans (ho9.below (by omega))⟩

set_option maxHeartbeats 4000000 in
set_option maxRecDepth 100000 in
theorem implLimited_calls (x : El) (v : Value) (w : World) (base : Nat) (hv : TsOwn w base v x.ts) :
    Calls Try.prog 51 #[x.val v] w fun e w' => ElRes base w w' x.told e := by
  obtain ⟨ad, cap, rfl, hc1, hc2⟩ := hv.slice
  unfold El.val El.cells
  have hX := (Blk.new w #[.int .i64 x.p, .int .i64 x.c, .int .i64 x.n, .slice ad x.ts.length cap] 30).alloc (.cells #[.int .i64 0, .int .i64 0, .int .i64 0, .slice none 0 0] 30)
  have hR := Blk.newAt (w.alloc (.cells #[.int .i64 x.p, .int .i64 x.c, .int .i64 x.n, .slice ad x.ts.length cap] 30)) #[.int .i64 0, .int .i64 0, .int .i64 0, .slice none 0 0] 30 (b := w.heap.size + 1) (by simp)
  have hbl := ((Below.refl w.heap.size w).alloc (Nat.le_refl _) (.cells #[.int .i64 x.p, .int .i64 x.c, .int .i64 x.n, .slice ad x.ts.length cap] 30)).alloc (by simp) (.cells #[.int .i64 0, .int .i64 0, .int .i64 0, .slice none 0 0] 30)
  have hv2 := hv.below hbl (Nat.le_refl _)
  have hbz := run_build_zero
  by_cases hl : x.ts.length ≤ 140
  · have ht : x.told = (x, 0) := if_pos hl
    rw [ht]
    clear ht
    go_enter Try.func51, Try.ntmps51
    go_wp2_with (first | (refine load_el rfl _ rfl _ rfl _ rfl _ hX ?_) | (refine store_el rfl _ _ rfl _ rfl _ rfl rfl (el_all rfl) _ _ hR rfl ?_; intro w9 hR9 ho9))
    refine ret_el_tmp rfl _ rfl _ rfl _ hR9 _ rfl rfl ?_
    exact ⟨_, rfl, hv2.only ho9 (fun e => by have := (hv.lt _ e.symm).2; omega), hbl.trans (ho9.below (by omega))⟩
  · have ht : x.told = (El.zero, 3) := if_neg hl
    rw [ht]
    clear ht
    go_enter Try.func51, Try.ntmps51
    go_wp2_with (refine store_el rfl _ _ rfl _ rfl _ rfl rfl (el_all rfl) _ _ hR rfl ?_; intro w9 hR9 ho9)
    refine ret_el_tmp rfl _ rfl _ rfl _ hR9 _ rfl rfl ?_
    exact ⟨_, rfl, TsOwn.nil _ _, hbl.trans (ho9.below (by omega))⟩

set_option maxHeartbeats 4000000 in
set_option maxRecDepth 100000 in
theorem specMultiply_bad (x y : El) (vx vy : Value) (w : World) (hx : x.Wf) (hy : y.Wf) (hvx : TsS w 0 vx x.ts) (hvy : TsS w 0 vy y.ts) (h0 : ¬ x.both y = 0) :
    Calls Try.prog 17 #[x.val vx, y.val vy] w fun e w' => ElRes w.heap.size w w' (El.zero, x.both y) e := by
  have HB := Lib.hid (fun W h1 h2 => specBoth_calls x y vx vy W hx hy h1 h2)
  have hb0 : (x.both y == 0) = false := by simpa using h0
  have hb1 : (x.both y != 0) = true := by simpa using h0
  have hbz := run_build_zero
  clear h0
  generalize x.both y = K at *
  unfold El.val El.cells at HB ⊢
  have hX := ((Blk.new w #[.int .i64 x.p, .int .i64 x.c, .int .i64 x.n, vx] 30).alloc (.cells #[.int .i64 y.p, .int .i64 y.c, .int .i64 y.n, vy] 30)).alloc (.cells #[.int .i64 0, .int .i64 0, .int .i64 0, .slice none 0 0] 30)
  have hY := (Blk.newAt (w.alloc (.cells #[.int .i64 x.p, .int .i64 x.c, .int .i64 x.n, vx] 30)) #[.int .i64 y.p, .int .i64 y.c, .int .i64 y.n, vy] 30 (b := w.heap.size + 1) (by simp)).alloc (.cells #[.int .i64 0, .int .i64 0, .int .i64 0, .slice none 0 0] 30)
  have hR := Blk.newAt ((w.alloc (.cells #[.int .i64 x.p, .int .i64 x.c, .int .i64 x.n, vx] 30)).alloc (.cells #[.int .i64 y.p, .int .i64 y.c, .int .i64 y.n, vy] 30)) #[.int .i64 0, .int .i64 0, .int .i64 0, .slice none 0 0] 30 (b := w.heap.size + 1 + 1) (by simp)
  have hbl := (((Below.refl w.heap.size w).alloc (Nat.le_refl _) (.cells #[.int .i64 x.p, .int .i64 x.c, .int .i64 x.n, vx] 30)).alloc (by simp) (.cells #[.int .i64 y.p, .int .i64 y.c, .int .i64 y.n, vy] 30)).alloc (by simp; omega) (.cells #[.int .i64 0, .int .i64 0, .int .i64 0, .slice none 0 0] 30)
  have hvx2 := hvx.below hbl (Nat.le_refl _)
  have hvy2 := hvy.below hbl (Nat.le_refl _)
  have hz2 := hR.lt
  clear hvx hvy
  go_enter Try.func17, Try.ntmps17
  go_wp2_with (first | (refine load_el rfl _ rfl _ rfl _ rfl _ hX ?_) | (refine load_el rfl _ rfl _ rfl _ rfl _ hY ?_))
  generalize ((w.alloc (.cells #[.int .i64 x.p, .int .i64 x.c, .int .i64 x.n, vx] 30)).alloc (.cells #[.int .i64 y.p, .int .i64 y.c, .int .i64 y.n, vy] 30)).alloc (.cells #[.int .i64 0, .int .i64 0, .int .i64 0, .slice none 0 0] 30) = w2 at *
  refine (HB.out _ hvx2 hvy2).mono ?_
  rintro e w3 ⟨rfl, hb3⟩
  have hR3 := hR.below hb3 hR.lt
  have hbl3 := hbl.trans (hb3.mono (by omega))
  have hz3 := hb3.size
  clear hX hY hR hvx2 hvy2 hbl hb3 HB
  go_wp2_with (refine store_el rfl _ _ rfl _ rfl _ rfl rfl (el_all rfl) _ _ hR3 rfl ?_; intro w9 hR9 ho9)
  refine ret_el_tmp rfl _ rfl _ rfl _ hR9 _ rfl rfl ?_
  exact ⟨_, rfl, TsOwn.nil _ _, hbl3.trans (ho9.below (by omega))⟩

set_option maxHeartbeats 4000000 in
set_option maxRecDepth 100000 in
theorem specMultiply_good (P C : Int) (N : Nat) (ts us : List Tm) (vx vy : Value) (w : World) (hp : 2 ≤ P) (hp97 : P ≤ 97) (hc0 : 0 ≤ C) (hcp : C ≤ P) (hn1 : 1 ≤ N) (hn8 : N ≤ 8) (hnx : Nf P N ts) (hny : Nf P N us) (hl1 : ts.length ≤ 140) (hl2 : us.length ≤ 140)
    (hB : ∀ W, TsS W 0 vx ts → TsS W 0 vy us → Calls Try.prog 48 #[.agg #[.int .i64 P, .int .i64 C, .int .i64 N, vx], .agg #[.int .i64 P, .int .i64 C, .int .i64 N, vy]] W fun e w' => e = .returned (.int .i64 0) ∧ Below W.heap.size W w')
    (hvx : TsS w 0 vx ts) (hvy : TsS w 0 vy us) :
    Calls Try.prog 17 #[.agg #[.int .i64 P, .int .i64 C, .int .i64 N, vx], .agg #[.int .i64 P, .int .i64 C, .int .i64 N, vy]] w fun e w' => ElRes w.heap.size w w' (El.told ⟨P, C, N, mulT P C N ts us⟩) e := by
  have HB := Lib.hid hB
  clear hB
  have HM := Lib.hid (fun W h1 h2 => specMulT_calls P C N ts us hp hp97 hc0 hcp hn1 hn8 hnx hny (by omega) (by omega) vx vy W h1 h2)
  unfold el at HM
  clear hnx hny
  have hX := ((Blk.new w #[.int .i64 P, .int .i64 C, .int .i64 N, vx] 30).alloc (.cells #[.int .i64 P, .int .i64 C, .int .i64 N, vy] 30)).alloc (.cells #[.int .i64 0, .int .i64 0, .int .i64 0, .slice none 0 0] 30)
  have hY := (Blk.newAt (w.alloc (.cells #[.int .i64 P, .int .i64 C, .int .i64 N, vx] 30)) #[.int .i64 P, .int .i64 C, .int .i64 N, vy] 30 (b := w.heap.size + 1) (by simp)).alloc (.cells #[.int .i64 0, .int .i64 0, .int .i64 0, .slice none 0 0] 30)
  have hR := Blk.newAt ((w.alloc (.cells #[.int .i64 P, .int .i64 C, .int .i64 N, vx] 30)).alloc (.cells #[.int .i64 P, .int .i64 C, .int .i64 N, vy] 30)) #[.int .i64 0, .int .i64 0, .int .i64 0, .slice none 0 0] 30 (b := w.heap.size + 1 + 1) (by simp)
  have hbl := (((Below.refl w.heap.size w).alloc (Nat.le_refl _) (.cells #[.int .i64 P, .int .i64 C, .int .i64 N, vx] 30)).alloc (by simp) (.cells #[.int .i64 P, .int .i64 C, .int .i64 N, vy] 30)).alloc (by simp; omega) (.cells #[.int .i64 0, .int .i64 0, .int .i64 0, .slice none 0 0] 30)
  have hvx2 := hvx.below hbl (Nat.le_refl _)
  have hvy2 := hvy.below hbl (Nat.le_refl _)
  have hz2 := hR.lt
  clear hvx hvy
  go_enter Try.func17, Try.ntmps17
  go_wp2_with (first | (refine load_el rfl _ rfl _ rfl _ rfl _ hX ?_) | (refine load_el rfl _ rfl _ rfl _ rfl _ hY ?_))
  generalize ((w.alloc (.cells #[.int .i64 P, .int .i64 C, .int .i64 N, vx] 30)).alloc (.cells #[.int .i64 P, .int .i64 C, .int .i64 N, vy] 30)).alloc (.cells #[.int .i64 0, .int .i64 0, .int .i64 0, .slice none 0 0] 30) = w2 at *
  refine (HB.out _ hvx2 hvy2).mono ?_
  rintro e w3 ⟨rfl, hb3⟩
  have hX3 := hX.below hb3 hX.lt
  have hY3 := hY.below hb3 hY.lt
  have hR3 := hR.below hb3 hR.lt
  have hvx3 := hvx2.below hb3 (Nat.le_refl _)
  have hvy3 := hvy2.below hb3 (Nat.le_refl _)
  have hbl3 := hbl.trans (hb3.mono (by omega))
  have hz3 := hb3.size
  clear hX hY hR hvx2 hvy2 hbl hb3 HB
  go_wp2_with (first | (refine load_el rfl _ rfl _ rfl _ rfl _ hX3 ?_) | (refine load_el rfl _ rfl _ rfl _ rfl _ hY3 ?_))
  refine (HM.out _ hvx3 hvy3).mono ?_
  rintro e w4 ⟨v4, rfl, hv4, hb4⟩
  have HT := Lib.hid (fun W h => specTold_calls ⟨P, C, N, mulT P C N ts us⟩ v4 W w3.heap.size h)
  unfold El.val El.cells at HT
  have hR4 := hR3.below hb4 hR3.lt
  have hbl4 := hbl3.trans (hb4.mono (by omega))
  have hv4' := hv4.1
  have hz4 := hb4.size
  clear hX3 hY3 hR3 hvx3 hvy3 hbl3 hb4 hv4 HM
  go_wp2_with fail
  refine (HT.out _ hv4').mono ?_
  rintro e w5 ⟨v5, rfl, hv5, hb5⟩
  unfold El.val El.cells
  have hR5 := hR4.below hb5 hR4.lt
  have hbl5 := hbl4.trans (hb5.mono (by omega))
  have h1c := hv5.oneCell
  have hz5 := hb5.size
  generalize hRe : (El.told ⟨P, C, N, mulT P C N ts us⟩) = R at *
  have HRe := Lib.hid hRe
  clear hRe
  clear hR4 hbl4 hv4' hb5 HT
  go_wp2_with (first | (refine store_el rfl _ _ rfl _ rfl _ rfl rfl (el_all h1c) _ _ (Blk.newAt _ _ _ rfl) rfl ?_; intro w6 hD6 ho6; have hR6 := (hR5.alloc _).only ho6 (by omega); have hv6 := (hv5.alloc' _).only ho6 (fun e => by have := (hv5.lt _ e.symm).2; omega); have hbl6 := (hbl5.alloc (by omega) _).trans (ho6.below (by omega))) | (refine load_el rfl _ rfl _ rfl _ rfl _ hD6 ?_) | (refine store_el rfl _ _ rfl _ rfl _ rfl rfl (el_all h1c) _ _ hR6 rfl ?_; intro w9 hR9 ho9))
  refine ret_el_tmp rfl _ rfl _ rfl _ hR9 _ rfl rfl ?_
  rw [HRe.out]
  exact ⟨v5, rfl, (hv6.only ho9 (fun e => by have := (hv6.lt _ e.symm).1; omega)).mono (by omega), hbl6.trans (ho9.below (by omega))⟩

theorem both_zero {x y : El} (hx : x.Wf) (hy : y.Wf) (h0 : x.both y = 0) : ∃ (P C : Int) (N : Nat), x = ⟨P, C, N, x.ts⟩ ∧ y = ⟨P, C, N, y.ts⟩ ∧ 2 ≤ P ∧ P ≤ 97 ∧ 0 ≤ C ∧ C < P ∧ 1 ≤ N ∧ N ≤ 8 ∧ Nf P N x.ts ∧ Nf P N y.ts ∧ x.ts.length ≤ 140 ∧ y.ts.length ≤ 140 := by
  have hok : x.ok = true ∧ y.ok = true ∧ x.alike y = true := by
    unfold El.both at h0
    cases h1 : x.ok <;> cases h2 : y.ok <;> cases h3 : x.alike y <;> simp_all
  obtain ⟨⟨hp, hp97⟩, ⟨hc0, hcp⟩, ⟨hn1, hn8⟩, hl1, hnx⟩ := El.ok_nf hx hok.1
  obtain ⟨-, -, -, hl2, hny⟩ := El.ok_nf hy hok.2.1
  have hal : x.p = y.p ∧ x.c = y.c ∧ x.n = y.n := by
    have := hok.2.2
    unfold El.alike at this
    simpa [and_assoc] using this
  cases x with
  | mk p c n ts =>
    cases y with
    | mk p' c' n' us =>
      obtain ⟨h1, h2, h3⟩ := hal
      simp only at h1 h2 h3 hp hp97 hc0 hcp hn1 hn8 hnx hny hl1 hl2
      subst h1 h2 h3
      obtain ⟨N, rfl⟩ : ∃ N : Nat, n = N := ⟨n.toNat, by omega⟩
      exact ⟨p, c, N, rfl, rfl, hp, hp97, hc0, hcp, by omega, by omega, by simpa using hnx, by simpa using hny, hl1, hl2⟩

theorem specMultiply_calls (x y : El) (vx vy : Value) (w : World) (hx : x.Wf) (hy : y.Wf) (hvx : TsS w 0 vx x.ts) (hvy : TsS w 0 vy y.ts) :
    Calls Try.prog 17 #[x.val vx, y.val vy] w fun e w' => ElRes w.heap.size w w' (x.mulR y) e := by
  by_cases h0 : x.both y = 0
  · have hm : x.mulR y = (x.mul y).told := if_pos h0
    rw [hm]
    have HB := fun W h1 h2 => specBoth_calls x y vx vy W hx hy h1 h2
    rw [h0] at HB
    obtain ⟨P, C, N, hX, hY, hp, hp97, hc0, hcp, hn1, hn8, hnx, hny, hl1, hl2⟩ := both_zero hx hy h0
    generalize x.ts = ts at *
    generalize y.ts = us at *
    subst hX hY
    exact specMultiply_good P C N ts us vx vy w hp hp97 hc0 (by omega) hn1 hn8 hnx hny hl1 hl2 HB hvx hvy
  · have hm : x.mulR y = (El.zero, x.both y) := if_neg h0
    rw [hm]
    exact specMultiply_bad x y vx vy w hx hy hvx hvy h0
end Go.Proofs.Yticmlgnolbccjaa

/- The program's wrong and MultiplyElements. -/
set_option linter.unusedVariables false
set_option linter.unusedSimpArgs false
namespace Go.Proofs.Yticmlgnolbccjaa
open Go.RowKit

/-- The three numbers of an element lie at an address. -/
structure NumsAt (w : World) (b o : Nat) (x : El) : Prop where
  p : w.cell? ⟨b, o, none⟩ = some (.int .i64 x.p)
  c : w.cell? ⟨b, o + 1, none⟩ = some (.int .i64 x.c)
  n : w.cell? ⟨b, o + 2, none⟩ = some (.int .i64 x.n)

set_option maxRecDepth 100000 in
theorem alike_calls (x y : El) (b1 o1 b2 : Nat) (w : World) (hx : NumsAt w b1 o1 x) (hy : NumsAt w b2 0 y) :
    Calls Try.prog 95 #[.pointer (some ⟨b1, o1, none⟩), .pointer (some ⟨b2, 0, none⟩)] w fun e w' => e = .returned (.bool (x.alike y)) ∧ ∃ k, w' = w.drewN k := by
  obtain ⟨x1, x2, x3⟩ := hx
  obtain ⟨y1, y2, y3⟩ := hy
  by_cases h1 : x.p = y.p
  · have a1 : (x.p == y.p) = true := by simpa using h1
    by_cases h2 : x.c = y.c
    · have b1 : (x.c == y.c) = true := by simpa using h2
      by_cases h3 : x.n = y.n
      · have c1 : (x.n == y.n) = true := by simpa using h3
        have hal : x.alike y = true := by unfold El.alike; simp [h1, h2, h3]
        rw [hal]
        clear h1 h2 h3 hal
        go_enter Try.func95, Try.ntmps95
        go_wp2_with fail
        go_quiet (fail)
        go_wp2
        go_ret
        exact ⟨rfl, _, rfl⟩
      · have c1 : (x.n == y.n) = false := by simpa using h3
        have hal : x.alike y = false := by unfold El.alike; simp [h3]
        rw [hal]
        clear h1 h2 h3 hal
        go_enter Try.func95, Try.ntmps95
        go_wp2_with fail
        go_quiet (fail)
        go_wp2
        go_ret
        exact ⟨rfl, _, rfl⟩
    · have b1 : (x.c == y.c) = false := by simpa using h2
      have hal : x.alike y = false := by unfold El.alike; simp [h2]
      rw [hal]
      clear h1 h2 hal
      go_enter Try.func95, Try.ntmps95
      go_wp2_with fail
      go_quiet (fail)
      go_wp2
      go_ret
      exact ⟨rfl, _, rfl⟩
  · have a1 : (x.p == y.p) = false := by simpa using h1
    have hal : x.alike y = false := by unfold El.alike; simp [h1]
    rw [hal]
    clear h1 hal
    go_enter Try.func95, Try.ntmps95
    go_wp2_with fail
    go_quiet (fail)
    go_wp2
    go_ret
    exact ⟨rfl, _, rfl⟩

section
variable {ops : Array Oper} {rest : List Oper} {o : Oper} {a : Act} {w : World} {Q : Exit → Act → World → Prop}
theorem load_el_mid (hgd : o.guard = none) (x : Operand) (ho : o.op = .load 30 x) (b off : Nat) (hx : a.eval x = .pointer (some ⟨b, off, none⟩)) (cs : List Value) (hs : cs.length = 4) (h : w.rangeAt b off cs)
    (hK : wpList Try.prog ops Q rest (a.put o.dst (.agg cs.toArray)) w) : wpList Try.prog ops Q (o :: rest) a w :=
  wpList_load_mid hgd _ x ho b off hx cs _ h Try.underlying30 rfl (by rw [info_el, hs]) hK
end
theorem fill_els (a b c d a' b' c' d' : Value) : Instr.fill (fun i => some (i * 4, 4)) ((Array.range (2 * 4)).map ((Value.agg #[.int .i64 0, .int .i64 0, .int .i64 0, .slice none 0 0]).cells[· % (Value.agg #[.int .i64 0, .int .i64 0, .int .i64 0, .slice none 0 0]).cells.size]!)) [(0, .agg #[a, b, c, d]), (1, .agg #[a', b', c', d'])] = some #[a, b, c, d, a', b', c', d'] := by kernel_rfl
theorem rowEl : Row 60 30 (.agg #[.int .i64 0, .int .i64 0, .int .i64 0, .slice none 0 0]) 4 48 := ⟨Try.underlying60, by kernel_rfl, rfl, by decide⟩
section
variable {ops : Array Oper} {rest : List Oper} {o : Oper} {a : Act} {w : World} {Q : Exit → Act → World → Prop}
set_option maxRecDepth 100000 in
theorem row_els (hg : o.guard = none) (x y : Operand) (ho : o.op = .buildSlice 60 2 #[(0, x), (1, y)]) (a0 b0 c0 d0 a1 b1 c1 d1 : Value) (hx : a.eval x = .agg #[a0, b0, c0, d0]) (hy : a.eval y = .agg #[a1, b1, c1, d1])
    (h : wpList Try.prog ops Q rest (a.put o.dst (.slice (some ⟨w.heap.size, 0, none⟩) 2 2)) (w.alloc (.cells #[a0, b0, c0, d0, a1, b1, c1, d1] 30))) : wpList Try.prog ops Q (o :: rest) a w := by
  obtain ⟨i0, hi, hz0, hz1, hz2⟩ := info_parts rowEl.info
  refine wpList_buildSlice hg _ 30 2 _ ho #[a0, b0, c0, d0, a1, b1, c1, d1] i0 _ rowEl.und hi hz0 (by rw [hz1]; decide) (by rw [hz1]; decide) ?_ h
  rw [hz1]
  simp only [List.map_toArray, List.map_cons, List.map_nil, hx, hy]
  exact fill_els _ _ _ _ _ _ _ _
end

theorem els_range0 {w : World} {b : Nat} {a0 b0 c0 d0 a1 b1 c1 d1 : Value} {T : TypeId} (h : Blk w b #[a0, b0, c0, d0, a1, b1, c1, d1] T) : w.rangeAt b 0 [a0, b0, c0, d0] := by
  intro j v hv
  rw [Nat.zero_add, h.cells j]
  match j, hv with
  | 0, hv => exact hv
  | 1, hv => exact hv
  | 2, hv => exact hv
  | 3, hv => exact hv
  | j + 4, hv => simp at hv
theorem els_range1 {w : World} {b : Nat} {a0 b0 c0 d0 a1 b1 c1 d1 : Value} {T : TypeId} (h : Blk w b #[a0, b0, c0, d0, a1, b1, c1, d1] T) : w.rangeAt b 4 [a1, b1, c1, d1] := by
  intro j v hv
  rw [h.cells]
  match j, hv with
  | 0, hv => exact hv
  | 1, hv => exact hv
  | 2, hv => exact hv
  | 3, hv => exact hv
  | j + 4, hv => simp at hv
theorem nums_of {w : World} {b : Nat} {x : El} {v : Value} {T : TypeId} (h : Blk w b #[.int .i64 x.p, .int .i64 x.c, .int .i64 x.n, v] T) : NumsAt w b 0 x := ⟨by rw [h.cells]; rfl, by rw [h.cells]; rfl, by rw [h.cells]; rfl⟩
theorem nums_of_list {w : World} {b : Nat} {x : El} {v a1 b1 c1 d1 : Value} {T : TypeId} (h : Blk w b #[.int .i64 x.p, .int .i64 x.c, .int .i64 x.n, v, a1, b1, c1, d1] T) : NumsAt w b 0 x := ⟨by rw [h.cells]; rfl, by rw [h.cells]; rfl, by rw [h.cells]; rfl⟩

set_option maxHeartbeats 4000000 in
set_option maxRecDepth 100000 in
theorem wrong_calls (x y : El) (vx vy : Value) (b : Nat) (T : TypeId) (w : World) (hx : x.Wf) (hy : y.Wf) (hvx : TsS w 0 vx x.ts) (hvy : TsS w 0 vy y.ts) (hL : Blk w b #[.int .i64 x.p, .int .i64 x.c, .int .i64 x.n, vx, .int .i64 y.p, .int .i64 y.c, .int .i64 y.n, vy] T) :
    Calls Try.prog 50 #[.slice (some ⟨b, 0, none⟩) 2 2] w fun e w' => e = .returned (.int .i64 (x.both y)) ∧ Below w.heap.size w w' := by
  have HC1 := Lib.hid (fun W h b hb => implIsElS_calls x vx W hx h b hb)
  have HC2 := Lib.hid (fun W h b hb => implIsElS_calls y vy W hy h b hb)
  have hbl := hL.lt
  have h1x := hvx.oneCell
  have h1y := hvy.oneCell
  have Hvx := Lib.hid hvx
  have Hvy := Lib.hid hvy
  clear hvx hvy
  go_enter Try.func50, Try.ntmps50
  go_wp2_with fail
  go_loopw [9] (fun i wr => Below w.heap.size w wr ∧ (i = .int .i64 0 ∨ (i = .int .i64 1 ∧ x.ok = true) ∨ (i = .int .i64 2 ∧ x.ok = true ∧ y.ok = true))) (fun i _ => 2 - (intOf i).toNat)
  case atStart => exact ⟨Below.refl _ _, .inl rfl⟩
  case round =>
    obtain ⟨hb, hcase⟩ := hrel
    have hz := hb.size
    have hL3 := hL.below hb hbl
    have hr0 := els_range0 hL3
    have hr1 := els_range1 hL3
    have hba := (Below.refl wr.heap.size wr).alloc (Nat.le_refl _) (.cells #[.int .i64 0, .int .i64 0, .int .i64 0, .slice none 0 0] 30)
    rcases hcase with rfl | ⟨rfl, hox⟩ | ⟨rfl, hox, hoy⟩
    · go_wp2_with (first | (refine load_el_mid rfl _ rfl _ _ rfl _ rfl hr0 ?_) | (refine store_el rfl _ _ rfl _ rfl _ rfl rfl (el_all h1x) _ _ (Blk.newAt _ _ _ rfl) rfl ?_; intro w3 h3 ho3) | (refine load_el rfl _ rfl _ rfl _ rfl _ h3 ?_))
      have hb3 := hba.trans (ho3.below (Nat.le_refl _))
      have hz3 := h3.lt
      have hv3 := (Hvx.out.below hb (Nat.le_refl _)).below hb3 (Nat.le_refl _)
      cases hox : x.ok with
      | false =>
        refine (HC1.out _ hv3 _ hox).mono ?_
        rintro e w4 ⟨rfl, hb4⟩
        have hres : x.both y = 1 := by unfold El.both; rw [hox]; rfl
        have Hres := Lib.hid hres
        clear hres hox
        go_wp2_with fail
        go_ret
        exact ⟨ret_int Hres.out.symm, (hb.trans (hb3.mono (by omega))).trans (hb4.mono (by omega))⟩
      | true =>
        refine (HC1.out _ hv3 _ hox).mono ?_
        rintro e w4 ⟨rfl, hb4⟩
        have Hox := Lib.hid hox
        clear hox
        go_wp2_with fail
        go_roundw
        case rel => exact ⟨(hb.trans (hb3.mono (by omega))).trans (hb4.mono (by omega)), .inr (.inl ⟨by go_num, Hox.out⟩)⟩
        case measure => simp [intOf]
    · have Hox := Lib.hid hox
      clear hox
      go_wp2_with (first | (refine load_el_mid rfl _ rfl _ _ rfl _ rfl hr1 ?_) | (refine store_el rfl _ _ rfl _ rfl _ rfl rfl (el_all h1y) _ _ (Blk.newAt _ _ _ rfl) rfl ?_; intro w3 h3 ho3) | (refine load_el rfl _ rfl _ rfl _ rfl _ h3 ?_))
      have hb3 := hba.trans (ho3.below (Nat.le_refl _))
      have hz3 := h3.lt
      have hv3 := (Hvy.out.below hb (Nat.le_refl _)).below hb3 (Nat.le_refl _)
      cases hoy : y.ok with
      | false =>
        refine (HC2.out _ hv3 _ hoy).mono ?_
        rintro e w4 ⟨rfl, hb4⟩
        have hres : x.both y = 1 := by unfold El.both; rw [hoy, Bool.and_false]; rfl
        have Hres := Lib.hid hres
        clear hres hoy
        go_wp2_with fail
        go_ret
        exact ⟨ret_int Hres.out.symm, (hb.trans (hb3.mono (by omega))).trans (hb4.mono (by omega))⟩
      | true =>
        refine (HC2.out _ hv3 _ hoy).mono ?_
        rintro e w4 ⟨rfl, hb4⟩
        have Hoy := Lib.hid hoy
        clear hoy
        go_wp2_with fail
        go_roundw
        case rel => exact ⟨(hb.trans (hb3.mono (by omega))).trans (hb4.mono (by omega)), .inr (.inr ⟨by go_num, Hox.out, Hoy.out⟩)⟩
        case measure => simp [intOf]
    · have hres : x.both y = if x.alike y then 0 else 2 := by unfold El.both; rw [hoy, hox]; rfl
      have Hres := Lib.hid hres
      clear hres hox hoy hba hr0 hr1
      have hxx : x.alike x = true := by unfold El.alike; simp
      have hyx : y.alike x = x.alike y := by unfold El.alike; simp only [eq_comm]
      have Hxx := Lib.hid hxx
      have Hyx := Lib.hid hyx
      clear hxx hyx
      go_wp2_with fail
      obtain ⟨wo, rfl⟩ : ∃ wo : World, wo = wr := ⟨_, rfl⟩
      go_loopw [19] (fun i wr => Below w.heap.size w wr ∧ (i = .int .i64 0 ∨ i = .int .i64 1 ∨ (i = .int .i64 2 ∧ x.alike y = true))) (fun i _ => 2 - (intOf i).toNat)
      case atStart => exact ⟨hb, .inl rfl⟩
      case round =>
        clear hb hz hL3
        obtain ⟨hb, hcase⟩ := hrel
        have hz := hb.size
        have hL3 := hL.below hb hbl
        have hr0 := els_range0 hL3
        have hr1 := els_range1 hL3
        have hba := (Below.refl wr.heap.size wr).alloc (Nat.le_refl _) (.cells #[.int .i64 0, .int .i64 0, .int .i64 0, .slice none 0 0] 30)
        have hLa := hL3.alloc (.cells #[.int .i64 0, .int .i64 0, .int .i64 0, .slice none 0 0] 30)
        rcases hcase with rfl | rfl | ⟨rfl, hal⟩
        · go_wp2_with (first | (refine load_el_mid rfl _ rfl _ _ rfl _ rfl hr0 ?_) | (refine store_el rfl _ _ rfl _ rfl _ rfl rfl (el_all h1x) _ _ (Blk.newAt _ _ _ rfl) rfl ?_; intro w3 h3 ho3))
          have hb3 := hba.trans (ho3.below (Nat.le_refl _))
          have hz3 := h3.lt
          have hLb := hLa.only ho3 (by omega)
          have hal := alike_calls x x _ 0 b w3 (nums_of h3) (nums_of_list hLb)
          rw [Hxx.out] at hal
          refine hal.mono ?_
          rintro e w4 ⟨rfl, k4, rfl⟩
          clear hal
          go_wp2_with fail
          go_roundw
          case rel => exact ⟨bel_drewN (hb.trans (hb3.mono (by omega))) _, .inr (.inl (by go_num))⟩
          case measure => simp [intOf]
        · go_wp2_with (first | (refine load_el_mid rfl _ rfl _ _ rfl _ rfl hr1 ?_) | (refine store_el rfl _ _ rfl _ rfl _ rfl rfl (el_all h1y) _ _ (Blk.newAt _ _ _ rfl) rfl ?_; intro w3 h3 ho3))
          have hb3 := hba.trans (ho3.below (Nat.le_refl _))
          have hz3 := h3.lt
          have hLb := hLa.only ho3 (by omega)
          have hal := alike_calls y x _ 0 b w3 (nums_of h3) (nums_of_list hLb)
          rw [Hyx.out] at hal
          cases hxy : x.alike y with
          | true =>
            rw [hxy] at hal
            have Hxy := Lib.hid hxy
            clear hxy
            refine hal.mono ?_
            rintro e w4 ⟨rfl, k4, rfl⟩
            clear hal
            go_wp2_with fail
            go_roundw
            case rel => exact ⟨bel_drewN (hb.trans (hb3.mono (by omega))) _, .inr (.inr ⟨by go_num, Hxy.out⟩)⟩
            case measure => simp [intOf]
          | false =>
            rw [hxy] at hal
            have Hxy := Lib.hid hxy
            clear hxy
            refine hal.mono ?_
            rintro e w4 ⟨rfl, k4, rfl⟩
            clear hal
            go_wp2_with fail
            go_ret
            exact ⟨ret_int (by rw [Hres.out, Hxy.out]; rfl), bel_drewN (hb.trans (hb3.mono (by omega))) _⟩
        · have Hal := Lib.hid hal
          clear hal
          go_wp2_with fail
          go_ret
          exact ⟨ret_int (by rw [Hres.out, Hal.out]; rfl), hb⟩

set_option maxHeartbeats 4000000 in
set_option maxRecDepth 100000 in
theorem implMultiply_bad (x y : El) (vx vy : Value) (w : World) (hx : x.Wf) (hy : y.Wf) (hvx : TsS w 0 vx x.ts) (hvy : TsS w 0 vy y.ts) (h0 : ¬ x.both y = 0) :
    Calls Try.prog 18 #[x.val vx, y.val vy] w fun e w' => ElRes w.heap.size w w' (El.zero, x.both y) e := by
  have HB := Lib.hid (fun b T W h1 h2 h3 => wrong_calls x y vx vy b T W hx hy h1 h2 h3)
  have hb0 : (x.both y == 0) = false := by simpa using h0
  have hb1 : (x.both y != 0) = true := by simpa using h0
  have hbz := run_build_zero
  clear h0
  generalize x.both y = K at *
  unfold El.val El.cells
  have hX := ((Blk.new w #[.int .i64 x.p, .int .i64 x.c, .int .i64 x.n, vx] 30).alloc (.cells #[.int .i64 y.p, .int .i64 y.c, .int .i64 y.n, vy] 30)).alloc (.cells #[.int .i64 0, .int .i64 0, .int .i64 0, .slice none 0 0] 30)
  have hY := (Blk.newAt (w.alloc (.cells #[.int .i64 x.p, .int .i64 x.c, .int .i64 x.n, vx] 30)) #[.int .i64 y.p, .int .i64 y.c, .int .i64 y.n, vy] 30 (b := w.heap.size + 1) (by simp)).alloc (.cells #[.int .i64 0, .int .i64 0, .int .i64 0, .slice none 0 0] 30)
  have hR := Blk.newAt ((w.alloc (.cells #[.int .i64 x.p, .int .i64 x.c, .int .i64 x.n, vx] 30)).alloc (.cells #[.int .i64 y.p, .int .i64 y.c, .int .i64 y.n, vy] 30)) #[.int .i64 0, .int .i64 0, .int .i64 0, .slice none 0 0] 30 (b := w.heap.size + 1 + 1) (by simp)
  have hbl := (((Below.refl w.heap.size w).alloc (Nat.le_refl _) (.cells #[.int .i64 x.p, .int .i64 x.c, .int .i64 x.n, vx] 30)).alloc (by simp) (.cells #[.int .i64 y.p, .int .i64 y.c, .int .i64 y.n, vy] 30)).alloc (by simp; omega) (.cells #[.int .i64 0, .int .i64 0, .int .i64 0, .slice none 0 0] 30)
  have hvx2 := hvx.below hbl (Nat.le_refl _)
  have hvy2 := hvy.below hbl (Nat.le_refl _)
  have hz2 := hR.lt
  have hze := Lib.hid (show w.heap.size + 1 + 1 + 1 = (((w.alloc (.cells #[.int .i64 x.p, .int .i64 x.c, .int .i64 x.n, vx] 30)).alloc (.cells #[.int .i64 y.p, .int .i64 y.c, .int .i64 y.n, vy] 30)).alloc (.cells #[.int .i64 0, .int .i64 0, .int .i64 0, .slice none 0 0] 30)).heap.size by simp)
  clear hvx hvy
  go_enter Try.func18, Try.ntmps18
  go_wp2_with (first | (refine load_el rfl _ rfl _ rfl _ rfl _ hX ?_) | (refine load_el rfl _ rfl _ rfl _ rfl _ hY ?_) | (refine row_els rfl _ _ rfl _ _ _ _ _ _ _ _ rfl rfl ?_))
  generalize ((w.alloc (.cells #[.int .i64 x.p, .int .i64 x.c, .int .i64 x.n, vx] 30)).alloc (.cells #[.int .i64 y.p, .int .i64 y.c, .int .i64 y.n, vy] 30)).alloc (.cells #[.int .i64 0, .int .i64 0, .int .i64 0, .slice none 0 0] 30) = w2 at *
  have hLs := Blk.newAt w2 #[.int .i64 x.p, .int .i64 x.c, .int .i64 x.n, vx, .int .i64 y.p, .int .i64 y.c, .int .i64 y.n, vy] 30 hze.out
  have hR2 := hR.alloc (.cells #[.int .i64 x.p, .int .i64 x.c, .int .i64 x.n, vx, .int .i64 y.p, .int .i64 y.c, .int .i64 y.n, vy] 30)
  refine (HB.out _ _ _ (hvx2.alloc _) (hvy2.alloc _) hLs).mono ?_
  rintro e w3 ⟨rfl, hb3⟩
  have hR3 := hR2.below hb3 hR2.lt
  have hbl3 := (hbl.alloc (by omega) (.cells #[.int .i64 x.p, .int .i64 x.c, .int .i64 x.n, vx, .int .i64 y.p, .int .i64 y.c, .int .i64 y.n, vy] 30)).trans (hb3.mono (by have := hR2.lt; omega))
  clear hX hY hR hvx2 hvy2 hbl hb3 HB hLs hR2 hze
  go_wp2_with (refine store_el rfl _ _ rfl _ rfl _ rfl rfl (el_all rfl) _ _ hR3 rfl ?_; intro w9 hR9 ho9)
  refine ret_el_tmp rfl _ rfl _ rfl _ hR9 _ rfl rfl ?_
  exact ⟨_, rfl, TsOwn.nil _ _, hbl3.trans (ho9.below (by omega))⟩

set_option maxHeartbeats 4000000 in
set_option maxRecDepth 100000 in
theorem implMultiply_good (P C : Int) (N : Nat) (ts us : List Tm) (vx vy : Value) (w : World) (hp : 2 ≤ P) (hp97 : P ≤ 97) (hc0 : 0 ≤ C) (hcp : C ≤ P) (hn1 : 1 ≤ N) (hn8 : N ≤ 8) (hnx : Nf P N ts) (hny : Nf P N us) (hl1 : ts.length ≤ 140) (hl2 : us.length ≤ 140)
    (hB : ∀ b T W, TsS W 0 vx ts → TsS W 0 vy us → Blk W b #[.int .i64 P, .int .i64 C, .int .i64 N, vx, .int .i64 P, .int .i64 C, .int .i64 N, vy] T → Calls Try.prog 50 #[.slice (some ⟨b, 0, none⟩) 2 2] W fun e w' => e = .returned (.int .i64 0) ∧ Below W.heap.size W w')
    (hvx : TsS w 0 vx ts) (hvy : TsS w 0 vy us) :
    Calls Try.prog 18 #[.agg #[.int .i64 P, .int .i64 C, .int .i64 N, vx], .agg #[.int .i64 P, .int .i64 C, .int .i64 N, vy]] w fun e w' => ElRes w.heap.size w w' (El.told ⟨P, C, N, mulT P C N ts us⟩) e := by
  have HB := Lib.hid hB
  clear hB
  have HM := Lib.hid (fun W h1 h2 => implMulT_calls P C N ts us hp hp97 hc0 hcp hn1 hn8 hnx hny (by omega) (by omega) vx vy W h1 h2)
  unfold el at HM
  clear hnx hny
  have hX := ((Blk.new w #[.int .i64 P, .int .i64 C, .int .i64 N, vx] 30).alloc (.cells #[.int .i64 P, .int .i64 C, .int .i64 N, vy] 30)).alloc (.cells #[.int .i64 0, .int .i64 0, .int .i64 0, .slice none 0 0] 30)
  have hY := (Blk.newAt (w.alloc (.cells #[.int .i64 P, .int .i64 C, .int .i64 N, vx] 30)) #[.int .i64 P, .int .i64 C, .int .i64 N, vy] 30 (b := w.heap.size + 1) (by simp)).alloc (.cells #[.int .i64 0, .int .i64 0, .int .i64 0, .slice none 0 0] 30)
  have hR := Blk.newAt ((w.alloc (.cells #[.int .i64 P, .int .i64 C, .int .i64 N, vx] 30)).alloc (.cells #[.int .i64 P, .int .i64 C, .int .i64 N, vy] 30)) #[.int .i64 0, .int .i64 0, .int .i64 0, .slice none 0 0] 30 (b := w.heap.size + 1 + 1) (by simp)
  have hbl := (((Below.refl w.heap.size w).alloc (Nat.le_refl _) (.cells #[.int .i64 P, .int .i64 C, .int .i64 N, vx] 30)).alloc (by simp) (.cells #[.int .i64 P, .int .i64 C, .int .i64 N, vy] 30)).alloc (by simp; omega) (.cells #[.int .i64 0, .int .i64 0, .int .i64 0, .slice none 0 0] 30)
  have hvx2 := hvx.below hbl (Nat.le_refl _)
  have hvy2 := hvy.below hbl (Nat.le_refl _)
  have hz2 := hR.lt
  have hze := Lib.hid (show w.heap.size + 1 + 1 + 1 = (((w.alloc (.cells #[.int .i64 P, .int .i64 C, .int .i64 N, vx] 30)).alloc (.cells #[.int .i64 P, .int .i64 C, .int .i64 N, vy] 30)).alloc (.cells #[.int .i64 0, .int .i64 0, .int .i64 0, .slice none 0 0] 30)).heap.size by simp)
  clear hvx hvy
  go_enter Try.func18, Try.ntmps18
  go_wp2_with (first | (refine load_el rfl _ rfl _ rfl _ rfl _ hX ?_) | (refine load_el rfl _ rfl _ rfl _ rfl _ hY ?_) | (refine row_els rfl _ _ rfl _ _ _ _ _ _ _ _ rfl rfl ?_))
  generalize ((w.alloc (.cells #[.int .i64 P, .int .i64 C, .int .i64 N, vx] 30)).alloc (.cells #[.int .i64 P, .int .i64 C, .int .i64 N, vy] 30)).alloc (.cells #[.int .i64 0, .int .i64 0, .int .i64 0, .slice none 0 0] 30) = w2 at *
  have hLs := Blk.newAt w2 #[.int .i64 P, .int .i64 C, .int .i64 N, vx, .int .i64 P, .int .i64 C, .int .i64 N, vy] 30 hze.out
  have hba := (Below.refl w2.heap.size w2).alloc (Nat.le_refl _) (.cells #[.int .i64 P, .int .i64 C, .int .i64 N, vx, .int .i64 P, .int .i64 C, .int .i64 N, vy] 30)
  refine (HB.out _ _ _ (hvx2.alloc _) (hvy2.alloc _) hLs).mono ?_
  rintro e w3 ⟨rfl, hb3⟩
  have hb23 := hba.trans (hb3.mono (by simp))
  have hX3 := hX.below hb23 hX.lt
  have hY3 := hY.below hb23 hY.lt
  have hR3 := hR.below hb23 hR.lt
  have hvx3 := hvx2.below hb23 (Nat.le_refl _)
  have hvy3 := hvy2.below hb23 (Nat.le_refl _)
  have hbl3 := hbl.trans (hb23.mono (by omega))
  have hz3 := hb23.size
  clear hX hY hR hvx2 hvy2 hbl hb3 HB hLs hze hba hb23
  go_wp2_with (first | (refine load_el rfl _ rfl _ rfl _ rfl _ hX3 ?_) | (refine load_el rfl _ rfl _ rfl _ rfl _ hY3 ?_))
  refine (HM.out _ hvx3 hvy3).mono ?_
  rintro e w4 ⟨v4, rfl, hv4, hb4⟩
  have HT := Lib.hid (fun W h => implLimited_calls ⟨P, C, N, mulT P C N ts us⟩ v4 W w3.heap.size h)
  unfold El.val El.cells at HT
  have hR4 := hR3.below hb4 hR3.lt
  have hbl4 := hbl3.trans (hb4.mono (by omega))
  have hz4 := hb4.size
  clear hX3 hY3 hR3 hvx3 hvy3 hbl3 hb4 HM
  go_wp2_with fail
  refine (HT.out _ hv4).mono ?_
  rintro e w5 ⟨v5, rfl, hv5, hb5⟩
  unfold El.val El.cells
  have hR5 := hR4.below hb5 hR4.lt
  have hbl5 := hbl4.trans (hb5.mono (by omega))
  have h1c := hv5.oneCell
  have hz5 := hb5.size
  generalize hRe : (El.told ⟨P, C, N, mulT P C N ts us⟩) = R at *
  have HRe := Lib.hid hRe
  clear hRe
  clear hR4 hbl4 hv4 hb5 HT
  go_wp2_with (refine store_el rfl _ _ rfl _ rfl _ rfl rfl (el_all h1c) _ _ hR5 rfl ?_; intro w9 hR9 ho9)
  refine ret_el_tmp rfl _ rfl _ rfl _ hR9 _ rfl rfl ?_
  rw [HRe.out]
  exact ⟨v5, rfl, (hv5.only ho9 (fun e => by have := (hv5.lt _ e.symm).1; omega)).mono (by omega), hbl5.trans (ho9.below (by omega))⟩

theorem implMultiply_calls (x y : El) (vx vy : Value) (w : World) (hx : x.Wf) (hy : y.Wf) (hvx : TsS w 0 vx x.ts) (hvy : TsS w 0 vy y.ts) :
    Calls Try.prog 18 #[x.val vx, y.val vy] w fun e w' => ElRes w.heap.size w w' (x.mulR y) e := by
  by_cases h0 : x.both y = 0
  · have hm : x.mulR y = (x.mul y).told := if_pos h0
    rw [hm]
    have HB := fun b T W h1 h2 h3 => wrong_calls x y vx vy b T W hx hy h1 h2 h3
    rw [h0] at HB
    obtain ⟨P, C, N, hX, hY, hp, hp97, hc0, hcp, hn1, hn8, hnx, hny, hl1, hl2⟩ := both_zero hx hy h0
    generalize x.ts = ts at *
    generalize y.ts = us at *
    subst hX hY
    exact implMultiply_good P C N ts us vx vy w hp hp97 hc0 (by omega) hn1 hn8 hnx hny hl1 hl2 HB hvx hvy
  · have hm : x.mulR y = (El.zero, x.both y) := if_neg h0
    rw [hm]
    exact implMultiply_bad x y vx vy w hx hy hvx hvy h0
end Go.Proofs.Yticmlgnolbccjaa
