/- The walk of the function that goes along the lines of two diagrams, in the reference. -/
import Derived.Test.YticmlgnolbccjaaD9
import Derived.Test.YticmlgnolbccjaaF2
set_option linter.unusedVariables false
set_option linter.unusedSimpArgs false
namespace Go.Proofs.Yticmlgnolbccjaa
open Go.RowKit

theorem ret_ib {k : IntKind} {a b : Int} {c d : Bool} (h : a = b) (h' : c = d) : Ending.returned (.tuple #[.int k a, .bool c]) = .returned (.tuple #[.int k b, .bool d]) := by rw [h, h']

theorem fol_pos {d e : Dg} {n : Nat} {k : Nat} {l : Bool} {p : Nat} (h : ¬ l = decide (n ≤ hop d e l p)) {r : Int × List Nat} (hr : fol d e n (-1) (k + 1) l p = some r) :
    ∃ r2, fol d e n (-1) k (!l) (if l then n + hop d e l p % n else hop d e l p % n) = some r2 ∧ r.1 = r2.1 ∧ r.2 = hop d e l p % n :: r2.2 := by
  rw [fol_step h (by omega)] at hr
  obtain ⟨r2, hr2, rfl⟩ := Option.map_eq_some_iff.1 hr
  exact ⟨r2, hr2, rfl, rfl⟩

set_option maxHeartbeats 1000000 in
set_option maxRecDepth 100000 in
theorem specFollow_calls (d e : Dg) (n : Nat) (hn : 1 ≤ n) (hn8 : n ≤ 8) (hds : d.size = n) (hes : e.size = n) (hpd : d.Pts) (hpe : e.Pts) (b : Nat) (T : TypeId) (s : Nat → Bool) (K : Nat) (l : Bool) (p : Nat) (hp : p < 2 * n) (r : Int × List Nat)
    (hr : fol d e n (-1) K l p = some r) (w : World) (hb : Blk w b (bls s) T) :
    Calls Try.prog 123 #[.agg d.cells, .agg e.cells, .int .i64 p, .bool !l, .pointer (some ⟨b, 0, none⟩)] w fun ee w' =>
      ee = .returned (.tuple #[.int .i64 r.1, .bool (decide (r.1 < (n : Int)))]) ∧ Blk w' b (bls (marks s r.2)) T ∧ But w w' [b] := by
  have hbl := hb.lt
  have Hpd := Lib.hid hpd
  have Hpe := Lib.hid hpe
  have Hds := Lib.hid hds
  have Hes := Lib.hid hes
  have Hr := Lib.hid hr
  clear hpd hpe hr
  have hc0 := d.cells0
  rw [Hds.out] at hc0
  clear hds hes
  go_enter Try.func123, Try.ntmps123
  go_wp2
  have hA := ((Blk.new w d.cells 47).alloc (.cells e.cells 47)).dgAt
  have hE := (Blk.newAt (w.alloc (.cells d.cells 47)) e.cells 47 (b := w.heap.size + 1) (by simp)).dgAt
  have hbut := ((But.refl w [b]).alloc (.cells d.cells 47)).alloc (.cells e.cells 47)
  have hb2 := (hb.alloc (.cells d.cells 47)).alloc (.cells e.cells 47)
  have hz : ((w.alloc (.cells d.cells 47)).alloc (.cells e.cells 47)).heap.size = w.heap.size + 2 := by simp
  generalize (w.alloc (.cells d.cells 47)).alloc (.cells e.cells 47) = w2 at *
  go_loopg [2, 3, 13, 14] K (fun kq v2 v3 v13 v14 wr => ∃ (l' : Bool) (p' : Nat) (s' : Nat → Bool) (ms : List Nat), v3 = .bool !l' ∧ v2 = .int .i64 p' ∧ p' < 2 * n ∧ fol d e n (-1) kq l' p' = some (r.1, ms) ∧ marks s' ms = marks s r.2 ∧
    Blk wr b (bls s') T ∧ Only w2 wr b)
  case atStart => exact ⟨l, p, s, r.2, rfl, rfl, hp, Hr.out, rfl, hb2, Only.refl w2 b⟩
  case round =>
    clear hb hp hb2
    obtain ⟨l', p', s', ms, rfl, rfl, hp, hr, hms, hb, ho⟩ := hrel
    have Hr' := Lib.hid hr
    have Hms := Lib.hid hms
    clear hr hms
    have hc := hb.cells
    have hf := hb.free
    have hde := hA.only ho (by omega)
    have hee := hE.only ho (by omega)
    have hbut3 := hbut.only ho (.inl (by simp))
    have Hbut := Lib.hid hbut3
    clear hbut3
    cases gk with
    | zero => exact absurd Hr'.out (by simp [fol])
    | succ k1 =>
      cases l' with
      | false =>
        have hm := Hpd.out.mate p' (by rw [Hds.out]; omega)
        rw [Hds.out] at hm
        have hcm := hde.mate p' (by omega)
        have hq : hop d e false p' = (d.m p').toNat := rfl
        generalize hx : d.m p' = x at hm hcm hq
        have Hq := Lib.hid hq
        clear hq hx
        by_cases hxn : (n : Int) ≤ x
        · have hne : ¬ false = decide (n ≤ hop d e false p') := by rw [Hq.out]; simp; omega
          have hlt : decide (x < (n : Int)) = false := by simp; omega
          obtain ⟨r2, hr2, hre1, hre2⟩ := fol_pos hne Hr'.out
          have hmod : x.toNat % n = (x.toNat - n) := by rw [Nat.mod_eq_sub_mod (by omega), Nat.mod_eq_of_lt (by omega)]
          rw [Hq.out, hmod] at hr2 hre2
          have hset := bls_set s' (x.toNat - n) (by omega)
          have Hset := Lib.hid hset
          have hget := bls_get s' (x.toNat - n) (by omega)
          have hb3 : Blk (wr.setCell ⟨b, (x.toNat - n), none⟩ (.bool true)) b (bls fun j => if j = (x.toNat - n) then true else s' j) T := by
            have := hb.set (x.toNat - n) (.bool true)
            rwa [Hset.out] at this
          have ho3 : Only w2 (wr.setCell ⟨b, (x.toNat - n), none⟩ (.bool true)) b := ho.trans (Only.setCell _ _ _ _)
          have Hb3 := Lib.hid hb3
          have Ho3 := Lib.hid ho3
          have Hr2 := Lib.hid hr2
          have Hre1 := Lib.hid hre1
          have Hre2 := Lib.hid hre2
          clear hb3 ho3 hset hr2 hre1 hre2 hmod
          go_wp2
          go_roundg k1
          case rel =>
            refine ⟨true, (x.toNat - n), _, r2.2, rfl, by simp; omega, by omega, ?_, ?_, Hb3.out, Ho3.out⟩
            · have h4 := Hr2.out
              simp only [Bool.not_false, Bool.false_eq_true, if_false] at h4
              rw [h4, show r.1 = r2.1 from Hre1.out]
            · rw [← Hms.out, show ms = _ from Hre2.out]; rfl
          case measure => omega
        · have hlt : decide (x < (n : Int)) = true := by simp; omega
          have hfe := fol_end (d := d) (e := e) (n := n) (u := -1) (k := k1) (l := false) (p := p') (by rw [Hq.out]; simp; omega)
          rw [hfe] at Hr'
          have hre := Prod.mk.inj (Option.some.inj Hr'.out)
          have Hre := Lib.hid hre
          clear hre hfe
          go_wp2
          go_ret2
          refine ⟨ret_ib ?_ ?_, ?_, Hbut.out⟩
          · rw [← Hre.out.1, Hq.out]; omega
          · rw [← Hre.out.1, Hq.out]; simp; omega
          · rw [← Hms.out, ← Hre.out.2, marks_nil]; exact hb
      | true =>
        have hm := Hpe.out.mate p' (by rw [Hes.out]; omega)
        rw [Hes.out] at hm
        have hcm := hee.mate p' (by omega)
        have hq : hop d e true p' = (e.m p').toNat := rfl
        generalize hx : e.m p' = x at hm hcm hq
        have Hq := Lib.hid hq
        clear hq hx
        by_cases hxn : x < (n : Int)
        · have hne : ¬ true = decide (n ≤ hop d e true p') := by rw [Hq.out]; simp; omega
          have hlt : decide ((n : Int) ≤ x) = false := by simp; omega
          obtain ⟨r2, hr2, hre1, hre2⟩ := fol_pos hne Hr'.out
          have hmod : x.toNat % n = x.toNat := Nat.mod_eq_of_lt (by omega)
          rw [Hq.out, hmod] at hr2 hre2
          have hset := bls_set s' x.toNat (by omega)
          have Hset := Lib.hid hset
          have hget := bls_get s' x.toNat (by omega)
          have hb3 : Blk (wr.setCell ⟨b, x.toNat, none⟩ (.bool true)) b (bls fun j => if j = x.toNat then true else s' j) T := by
            have := hb.set x.toNat (.bool true)
            rwa [Hset.out] at this
          have ho3 : Only w2 (wr.setCell ⟨b, x.toNat, none⟩ (.bool true)) b := ho.trans (Only.setCell _ _ _ _)
          have Hb3 := Lib.hid hb3
          have Ho3 := Lib.hid ho3
          have Hr2 := Lib.hid hr2
          have Hre1 := Lib.hid hre1
          have Hre2 := Lib.hid hre2
          clear hb3 ho3 hset hr2 hre1 hre2 hmod
          go_wp2
          go_roundg k1
          case rel =>
            refine ⟨false, n + x.toNat, _, r2.2, rfl, by simp; omega, by omega, ?_, ?_, Hb3.out, Ho3.out⟩
            · have h4 := Hr2.out
              simp only [Bool.not_true, if_true] at h4
              rw [h4, show r.1 = r2.1 from Hre1.out]
            · rw [← Hms.out, show ms = _ from Hre2.out]; rfl
          case measure => omega
        · have hlt : decide ((n : Int) ≤ x) = true := by simp; omega
          have hfe := fol_end (d := d) (e := e) (n := n) (u := -1) (k := k1) (l := true) (p := p') (by rw [Hq.out]; simp; omega)
          rw [hfe] at Hr'
          have hre := Prod.mk.inj (Option.some.inj Hr'.out)
          have Hre := Lib.hid hre
          clear hre hfe
          go_wp2
          go_ret2
          refine ⟨ret_ib ?_ ?_, ?_, Hbut.out⟩
          · rw [← Hre.out.1, Hq.out]; omega
          · rw [← Hre.out.1, Hq.out]; simp; omega
          · rw [← Hms.out, ← Hre.out.2, marks_nil]; exact hb
end Go.Proofs.Yticmlgnolbccjaa
