/- The walk of the function that goes along the lines of two diagrams, in the reference. -/
import Derived.Test.YticmlgnolbccjaaQ3
import Derived.Deep.RegionHeld3
import Derived.Deep.CutRange

set_option linter.unusedVariables false
set_option linter.unusedSimpArgs false
namespace Go.Proofs.Yticmlgnolbccjaa
open Go.RowKit

theorem ret_ib {k : IntKind} {a b : Int} {c d : Bool} (h : a = b) (h' : c = d) : Ending.returned (.tuple #[.int k a, .bool c]) = .returned (.tuple #[.int k b, .bool d]) := by rw [h, h']

theorem fol_pos {d e : Dg} {n : Nat} {k : Nat} {l : Bool} {p : Nat} (h : ¬ l = decide (n ≤ hop d e l p)) {r : Int × List Nat} (hr : fol d e n (-1) (k + 1) l p = some r) :
    ∃ r2, fol d e n (-1) k (!l) (if l then n + hop d e l p % n else hop d e l p % n) = some r2 ∧ r.1 = r2.1 ∧ r.2 = hop d e l p % n :: r2.2 := by
  rw [fol_step h (by omega)] at hr
  obtain ⟨r2, hr2, rfl⟩ := Option.map_eq_some_iff.1 hr
  exact ⟨r2, hr2, rfl, rfl⟩

set_option maxHeartbeats 1000000 in
set_option maxRecDepth 100000 in
theorem specFollow_calls (d e : Dg) (n : Nat) (hn : 1 ≤ n) (hn8 : n ≤ 8) (hds : d.size = n) (hes : e.size = n) (hpd : d.Pts) (hpe : e.Pts) (b : Nat) (T : TypeId) (s : Nat → Bool) (K : Nat) (l : Bool) (p : Nat) (hp : p < 2 * n) (r : Int × List Nat)
    (hr : fol d e n (-1) K l p = some r) (w : World) (hb : Blk w b (bls s) T) :
    Calls Try.prog 123 #[.agg d.cells, .agg e.cells, .int .i64 p, .bool !l, .pointer (some ⟨b, 0, none⟩)] w fun ee w' =>
      ee = .returned (.tuple #[.int .i64 r.1, .bool (decide (r.1 < (n : Int)))]) ∧ Blk w' b (bls (marks s r.2)) T ∧ But w w' [b] := by
  have hbl := hb.lt
  have Hpd := Lib.hid hpd
  have Hpe := Lib.hid hpe
  have Hds := Lib.hid hds
  have Hes := Lib.hid hes
  have Hr := Lib.hid hr
  clear hpd hpe hr
  have hc0 := d.cells0
  rw [Hds.out] at hc0
  clear hds hes
  go_enter Try.func123, Try.ntmps123
  go_wp2
  have hA := ((Blk.new w d.cells 47).alloc (.cells e.cells 47)).dgAt
  have hE := (Blk.newAt (w.alloc (.cells d.cells 47)) e.cells 47 (b := w.heap.size + 1) (by simp)).dgAt
  have hbut := ((But.refl w [b]).alloc (.cells d.cells 47)).alloc (.cells e.cells 47)
  have hb2 := (hb.alloc (.cells d.cells 47)).alloc (.cells e.cells 47)
  have hz : ((w.alloc (.cells d.cells 47)).alloc (.cells e.cells 47)).heap.size = w.heap.size + 2 := by simp
  generalize (w.alloc (.cells d.cells 47)).alloc (.cells e.cells 47) = w2 at *
  go_loopg [2, 3, 13, 14] K (fun kq v2 v3 v13 v14 wr => ∃ (l' : Bool) (p' : Nat) (s' : Nat → Bool) (ms : List Nat), v3 = .bool !l' ∧ v2 = .int .i64 p' ∧ p' < 2 * n ∧ fol d e n (-1) kq l' p' = some (r.1, ms) ∧ marks s' ms = marks s r.2 ∧
    Blk wr b (bls s') T ∧ Only w2 wr b)
  case atStart => exact ⟨l, p, s, r.2, rfl, rfl, hp, Hr.out, rfl, hb2, Only.refl w2 b⟩
  case round =>
    clear hb hp hb2
    obtain ⟨l', p', s', ms, rfl, rfl, hp, hr, hms, hb, ho⟩ := hrel
    have Hr' := Lib.hid hr
    have Hms := Lib.hid hms
    clear hr hms
    have hc := hb.cells
    have hf := hb.free
    have hde := hA.only ho (by omega)
    have hee := hE.only ho (by omega)
    have hbut3 := hbut.only ho (.inl (by simp))
    have Hbut := Lib.hid hbut3
    clear hbut3
    cases gk with
    | zero => exact absurd Hr'.out (by simp [fol])
    | succ k1 =>
      cases l' with
      | false =>
        have hm := Hpd.out.mate p' (by rw [Hds.out]; omega)
        rw [Hds.out] at hm
        have hcm := hde.mate p' (by omega)
        have hq : hop d e false p' = (d.m p').toNat := rfl
        generalize hx : d.m p' = x at hm hcm hq
        have Hq := Lib.hid hq
        clear hq hx
        by_cases hxn : (n : Int) ≤ x
        · have hne : ¬ false = decide (n ≤ hop d e false p') := by rw [Hq.out]; simp; omega
          have hlt : decide (x < (n : Int)) = false := by simp; omega
          obtain ⟨r2, hr2, hre1, hre2⟩ := fol_pos hne Hr'.out
          have hmod : x.toNat % n = (x.toNat - n) := by rw [Nat.mod_eq_sub_mod (by omega), Nat.mod_eq_of_lt (by omega)]
          rw [Hq.out, hmod] at hr2 hre2
          have hset := bls_set s' (x.toNat - n) (by omega)
          have Hset := Lib.hid hset
          have hget := bls_get s' (x.toNat - n) (by omega)
          have hb3 : Blk (wr.setCell ⟨b, (x.toNat - n), none⟩ (.bool true)) b (bls fun j => if j = (x.toNat - n) then true else s' j) T := by
            have := hb.set (x.toNat - n) (.bool true)
            rwa [Hset.out] at this
          have ho3 : Only w2 (wr.setCell ⟨b, (x.toNat - n), none⟩ (.bool true)) b := ho.trans (Only.setCell _ _ _ _)
          have Hb3 := Lib.hid hb3
          have Ho3 := Lib.hid ho3
          have Hr2 := Lib.hid hr2
          have Hre1 := Lib.hid hre1
          have Hre2 := Lib.hid hre2
          clear hb3 ho3 hset hr2 hre1 hre2 hmod
          go_wp2
          go_roundg k1
          case rel =>
            refine ⟨true, (x.toNat - n), _, r2.2, rfl, by simp; omega, by omega, ?_, ?_, Hb3.out, Ho3.out⟩
            · have h4 := Hr2.out
              simp only [Bool.not_false, Bool.false_eq_true, if_false] at h4
              rw [h4, show r.1 = r2.1 from Hre1.out]
            · rw [← Hms.out, show ms = _ from Hre2.out]; rfl
          case measure => omega
        · have hlt : decide (x < (n : Int)) = true := by simp; omega
          have hfe := fol_end (d := d) (e := e) (n := n) (u := -1) (k := k1) (l := false) (p := p') (by rw [Hq.out]; simp; omega)
          rw [hfe] at Hr'
          have hre := Prod.mk.inj (Option.some.inj Hr'.out)
          have Hre := Lib.hid hre
          clear hre hfe
          go_wp2
          go_ret2
          refine ⟨ret_ib ?_ ?_, ?_, Hbut.out⟩
          · rw [← Hre.out.1, Hq.out]; omega
          · rw [← Hre.out.1, Hq.out]; simp; omega
          · rw [← Hms.out, ← Hre.out.2, marks_nil]; exact hb
      | true =>
        have hm := Hpe.out.mate p' (by rw [Hes.out]; omega)
        rw [Hes.out] at hm
        have hcm := hee.mate p' (by omega)
        have hq : hop d e true p' = (e.m p').toNat := rfl
        generalize hx : e.m p' = x at hm hcm hq
        have Hq := Lib.hid hq
        clear hq hx
        by_cases hxn : x < (n : Int)
        · have hne : ¬ true = decide (n ≤ hop d e true p') := by rw [Hq.out]; simp; omega
          have hlt : decide ((n : Int) ≤ x) = false := by simp; omega
          obtain ⟨r2, hr2, hre1, hre2⟩ := fol_pos hne Hr'.out
          have hmod : x.toNat % n = x.toNat := Nat.mod_eq_of_lt (by omega)
          rw [Hq.out, hmod] at hr2 hre2
          have hset := bls_set s' x.toNat (by omega)
          have Hset := Lib.hid hset
          have hget := bls_get s' x.toNat (by omega)
          have hb3 : Blk (wr.setCell ⟨b, x.toNat, none⟩ (.bool true)) b (bls fun j => if j = x.toNat then true else s' j) T := by
            have := hb.set x.toNat (.bool true)
            rwa [Hset.out] at this
          have ho3 : Only w2 (wr.setCell ⟨b, x.toNat, none⟩ (.bool true)) b := ho.trans (Only.setCell _ _ _ _)
          have Hb3 := Lib.hid hb3
          have Ho3 := Lib.hid ho3
          have Hr2 := Lib.hid hr2
          have Hre1 := Lib.hid hre1
          have Hre2 := Lib.hid hre2
          clear hb3 ho3 hset hr2 hre1 hre2 hmod
          go_wp2
          go_roundg k1
          case rel =>
            refine ⟨false, n + x.toNat, _, r2.2, rfl, by simp; omega, by omega, ?_, ?_, Hb3.out, Ho3.out⟩
            · have h4 := Hr2.out
              simp only [Bool.not_true, if_true] at h4
              rw [h4, show r.1 = r2.1 from Hre1.out]
            · rw [← Hms.out, show ms = _ from Hre2.out]; rfl
          case measure => omega
        · have hlt : decide ((n : Int) ≤ x) = true := by simp; omega
          have hfe := fol_end (d := d) (e := e) (n := n) (u := -1) (k := k1) (l := true) (p := p') (by rw [Hq.out]; simp; omega)
          rw [hfe] at Hr'
          have hre := Prod.mk.inj (Option.some.inj Hr'.out)
          have Hre := Lib.hid hre
          clear hre hfe
          go_wp2
          go_ret2
          refine ⟨ret_ib ?_ ?_, ?_, Hbut.out⟩
          · rw [← Hre.out.1, Hq.out]; omega
          · rw [← Hre.out.1, Hq.out]; simp; omega
          · rw [← Hms.out, ← Hre.out.2, marks_nil]; exact hb
end Go.Proofs.Yticmlgnolbccjaa

/- The walk of the product of two diagrams, in the reference. -/
set_option linter.unusedVariables false
set_option linter.unusedSimpArgs false
namespace Go.Proofs.Yticmlgnolbccjaa
open Go.RowKit

theorem But.drew (w : World) (l : List Nat) : But w w.drew l := ⟨rfl, rfl, rfl, Nat.le_refl _, fun _ _ _ => rfl⟩
theorem But.sub {w w1 : World} {l l' : List Nat} (h : But w w1 l) (hl : ∀ x ∈ l, x ∈ l') : But w w1 l' := ⟨h.os, h.tape, h.output, h.size, fun b h1 h2 => h.block b h1 fun h3 => h2 (hl b h3)⟩
theorem bls_none : bls (fun _ => false) = #[.bool false, .bool false, .bool false, .bool false, .bool false, .bool false, .bool false, .bool false] := rfl

set_option maxHeartbeats 1000000 in
set_option maxRecDepth 100000 in
theorem specTimes_calls (d e : Dg) (n : Nat) (hn : 1 ≤ n) (hn8 : n ≤ 8) (hds : d.size = n) (hes : e.size = n) (hpd : d.Pts) (hpe : e.Pts) (hrun : Runs d e n) (hsr : SRuns d e n) (w : World) :
    Calls Try.prog 86 #[.agg d.cells, .agg e.cells] w fun ee w' => ee = .returned (.tuple #[.agg (prodD d e n).cells, .int .i64 ((sloopTo d e n n).2 : Nat)]) ∧ Below w.heap.size w w' := by
  have Hds := Lib.hid hds
  have Hes := Lib.hid hes
  have Hrun := Lib.hid hrun
  have Hsr := Lib.hid hsr
  have hle := sloopTo_le d e n n
  clear hds hes hrun hsr
  have hc0 := d.cells0
  rw [Hds.out] at hc0
  go_enter Try.func86, Try.ntmps86
  go_wp2_with fail
  have hA := (Blk.new w d.cells 47).alloc (.cells e.cells 47) |>.alloc (.cells (Dg.zero 0).cells 47)
  have hE := (Blk.newAt (w.alloc (.cells d.cells 47)) e.cells 47 (b := w.heap.size + 1) (by simp)).alloc (.cells (Dg.zero 0).cells 47)
  have hR := Blk.newAt ((w.alloc (.cells d.cells 47)).alloc (.cells e.cells 47)) (Dg.zero 0).cells 47 (b := w.heap.size + 1 + 1) (by simp)
  have hbel := (((Below.refl w.heap.size w).alloc (Nat.le_refl _) (.cells d.cells 47)).alloc (by simp) (.cells e.cells 47)).alloc (by simp; omega) (.cells (Dg.zero 0).cells 47)
  have hz : (((w.alloc (.cells d.cells 47)).alloc (.cells e.cells 47)).alloc (.cells (Dg.zero 0).cells 47)).heap.size = w.heap.size + 3 := by simp
  generalize hw2 : ((w.alloc (.cells d.cells 47)).alloc (.cells e.cells 47)).alloc (.cells (Dg.zero 0).cells 47) = w2 at *
  have hw3 : ((w.alloc (.cells d.cells 47)).alloc (.cells e.cells 47)).alloc (.cells #[Value.int IntKind.i64 0, Value.int IntKind.u8 0, Value.int IntKind.u8 0, Value.int IntKind.u8 0, Value.int IntKind.u8 0, Value.int IntKind.u8 0, Value.int IntKind.u8 0, Value.int IntKind.u8 0, Value.int IntKind.u8 0, Value.int IntKind.u8 0, Value.int IntKind.u8 0, Value.int IntKind.u8 0, Value.int IntKind.u8 0, Value.int IntKind.u8 0, Value.int IntKind.u8 0, Value.int IntKind.u8 0, Value.int IntKind.u8 0] 47) = w2 := hw2
  rw [hw3]
  clear hw2 hw3
  have hcA := hA.cells 0
  rw [hc0] at hcA
  have hne := World.new_ne w2 _ hcA
  go_cut [6, 7, 8] from 17 to 22 (fun v6 v7 v8 wx => ∃ b7 b8 : Nat, v6 = .int .i64 n ∧ v7 = .pointer (some ⟨b7, 0, none⟩) ∧ v8 = .pointer (some ⟨b8, 0, none⟩) ∧ Blk wx b7 (bls fun _ => false) 125 ∧ Blk wx b8 (Dg.zero n).cells 47 ∧ b7 ≠ b8 ∧
    w.heap.size + 3 ≤ b7 ∧ w.heap.size + 3 ≤ b8 ∧ But w2 wx [])
  case first =>
    go_region_held3 (fun W => W.cell? ⟨w.heap.size, 0, none⟩ = some (.int .i64 n)) (first | go_keep) (first | fail)
    all_goals (go_wp2_with fail; go_meet)
    · exact ⟨w.heap.size + 3, w.heap.size + 3 + 1, rfl, rfl, rfl, ((Blk.newAt w2 _ _ hz.symm).alloc _).drew, (Blk.newAt (w2.alloc _) _ _ (by simp [hz])).drew, by omega, by omega, by omega, ((((But.refl w2 []).alloc _).alloc _).trans (But.drew _ _))⟩
    · exact ⟨w.heap.size + 3 + 1, w.heap.size + 3, rfl, rfl, rfl, (Blk.newAt (w2.alloc _) _ _ (by simp [hz])).drew, ((Blk.newAt w2 _ _ hz.symm).alloc _).drew, by omega, by omega, by omega, ((((But.refl w2 []).alloc _).alloc _).trans (But.drew _ _))⟩
  case rest =>
    clear hne hcA
    obtain ⟨b7, b8, rfl, rfl, rfl, hm, ho, h78, h7, h8, hbut⟩ := hcut
    have hA2 := hA.but hbut (by simp)
    have hE2 := hE.but hbut (by simp)
    have hR2 := hR.but hbut (by simp)
    have hbel2 := hbel.trans (hbut.below (B := w.heap.size) (by omega) (by simp))
    have hz2 := hbut.size
    clear hA hE hR hbel hbut
    go_wp2
    go_loopw [9] (fun i wr => ∃ j : Nat, j ≤ n ∧ i = .int .i64 j ∧ Blk wr b7 (bls (seenTo d e n j)) 125 ∧ Blk wr b8 (outTo d e n j).cells 47 ∧ But wc wr [b7, b8]) (fun i _ => n - (intOf i).toNat)
    case atStart => exact ⟨0, by omega, rfl, hm, ho, But.refl _ _⟩
    case round =>
      clear hm ho
      obtain ⟨j, hj, rfl, hm, ho, hbut⟩ := hrel
      have hz3 := hbut.size
      have hA := hA2.but hbut (by simp; omega)
      have hE := hE2.but hbut (by simp; omega)
      by_cases hlt : j < n
      · obtain ⟨r1, hr1, hr1a, hr1b⟩ := Hrun.out.up j hlt
        obtain ⟨r2, hr2, hr2a, hr2b⟩ := Hrun.out.down j hlt
        have hx1 : res d e n false j = r1.1 ∧ vis d e n false j = r1.2 := by unfold res vis; rw [hr1]; exact ⟨rfl, rfl⟩
        have hx2 : res d e n true (n + j) = r2.1 ∧ vis d e n true (n + j) = r2.2 := by unfold res vis; rw [hr2]; exact ⟨rfl, rfl⟩
        have Hx1 := Lib.hid hx1
        have Hx2 := Lib.hid hx2
        have Hr1 := Lib.hid hr1
        have Hr2 := Lib.hid hr2
        clear hx1 hx2 hr1 hr2
        go_wp2_with (first | (refine load_dg rfl _ rfl _ rfl _ _ hA ?_) | (refine load_dg rfl _ rfl _ rfl _ _ hE ?_))
        refine (specFollow_calls d e n hn hn8 Hds.out Hes.out hpd hpe b7 125 (seenTo d e n j) fuel false j (by omega) r1 Hr1.out wr hm).mono ?_
        rintro ee w1 ⟨rfl, hm1, hbu1⟩
        have ho1 := ho.but hbu1 (by simp; omega)
        have hA1 := hA.but hbu1 (by simp; omega)
        have hE1 := hE.but hbu1 (by simp; omega)
        have hoc := ho1.cells
        have hof := ho1.free
        have hg1 : (outTo d e n j).cells[1 + j]? = some (.int .u8 ((outTo d e n j).m j)) := Dg.cells1 _ _ (by omega)
        have ho2 := Only.setCell w1 b8 (1 + j) (.int .u8 r1.1)
        have hA2' := hA1.only ho2 (by omega)
        have hE2' := hE1.only ho2 (by omega)
        have hm2 := hm1.only ho2 h78
        have hob2 := ho1.set (1 + j) (.int .u8 r1.1)
        rw [Dg.cells_put _ _ _ (len_outTo d e n j) (by omega)] at hob2
        go_wp2_with (first | (refine load_dg rfl _ rfl _ rfl _ _ hA2' ?_) | (refine load_dg rfl _ rfl _ rfl _ _ hE2' ?_))
        rw [show ((n : Int) + (j : Int)) = ((n + j : Nat) : Int) from by omega]
        refine (specFollow_calls d e n hn hn8 Hds.out Hes.out hpd hpe b7 125 _ fuel true (n + j) (by omega) r2 Hr2.out _ hm2).mono ?_
        rintro ee w3 ⟨rfl, hm3, hbu3⟩
        have ho3 := hob2.but hbu3 (by simp; omega)
        have hlen2 : ((outTo d e n j).put j r1.1).mate.length = 16 := by rw [Dg.len_put, len_outTo]
        have hoc3 := ho3.cells
        have hof3 := ho3.free
        have hg3 : ((outTo d e n j).put j r1.1).cells[1 + (n + j)]? = some (.int .u8 (((outTo d e n j).put j r1.1).m (n + j))) := Dg.cells1 _ _ (by omega)
        have ho4 := Only.setCell w3 b8 (1 + (n + j)) (.int .u8 r2.1)
        have hob4 := ho3.set (1 + (n + j)) (.int .u8 r2.1)
        rw [Dg.cells_put _ _ _ hlen2 (by omega)] at hob4
        have hm4 := hm3.only ho4 h78
        have hbut4 := (((hbut.trans (hbu1.sub (by simp))).only ho2 (.inl (by simp))).trans (hbu3.sub (by simp))).only ho4 (.inl (by simp))
        have Hbut4 := Lib.hid hbut4
        have Hob4 := Lib.hid hob4
        have Hm4 := Lib.hid hm4
        clear hob4 hbut4 hm4 ho4 hbu1 hbu3 hob2 ho2 hA2' hE2' hm2 hlen2 hoc hof hA1 hE1 hA hE
        go_wp2_with fail
        go_roundw
        case rel =>
          refine ⟨j + 1, by omega, by go_num, ?_, ?_, Hbut4.out⟩
          · rw [seenTo_succ, Hx1.out.2, Hx2.out.2]; exact Hm4.out
          · rw [outTo_succ, Hx1.out.1, Hx2.out.1]; exact Hob4.out
        case measure => simp [intOf]; omega
      · obtain rfl : j = n := by omega
        clear hA2 hE2
        have hR := hR2.but hbut (by simp; omega)
        have hbel := hbel2.trans (hbut.below (B := w.heap.size) (by omega) (by simp; omega))
        clear hR2 hbel2 hbut hz2
        have hne7 : w.heap.size ≠ b7 := by omega
        have hne7' : w.heap.size + 1 ≠ b7 := by omega
        have hne7'' : w.heap.size + 1 + 1 ≠ b7 := by omega
        go_wp2_with fail
        go_loopw [14, 15] (fun c i wx => ∃ m : Nat, m ≤ j ∧ i = .int .i64 m ∧ c = .int .i64 ((sloopTo d e j m).2 : Nat) ∧ Blk wx b7 (bls (sloopTo d e j m).1) 125 ∧ Only wr wx b7) (fun _ i _ => j - (intOf i).toNat)
        case atStart => exact ⟨0, by omega, rfl, rfl, hm, Only.refl _ _⟩
        case round =>
          clear hm
          obtain ⟨m, hmj, rfl, rfl, hm, hon⟩ := hrel
          have hAx := hA.only hon hne7
          have hEx := hE.only hon hne7'
          have hle := sloopTo_le d e j m
          by_cases hlt2 : m < j
          · have hcs := hm.cells
            have hget := bls_get (sloopTo d e j m).1 m (by omega)
            have hm8 : m < 8 := by omega
            cases hsm : (sloopTo d e j m).1 m with
            | true =>
              rw [hsm] at hget
              have hst : sloopTo d e j (m + 1) = sloopTo d e j m := by rw [sloopTo_succ, if_pos hsm]
              have Hst := Lib.hid hst
              clear hst hsm
              go_wp2_with fail
              go_roundw
              case rel => exact ⟨m + 1, by omega, by go_num, by rw [Hst.out], by rw [Hst.out]; exact hm, hon⟩
              case measure => simp [intOf]; omega
            | false =>
              rw [hsm] at hget
              obtain ⟨r, hr⟩ := Hsr.out m hlt2 hsm
              have hst : sloopTo d e j (m + 1) = (r, (sloopTo d e j m).2 + 1) := by
                rw [sloopTo_succ, if_neg (by rw [hsm]; simp), hr]; rfl
              have Hst := Lib.hid hst
              have Hr := Lib.hid hr
              clear hst hsm hr
              go_wp2_with fail
              go_loopg [16] fuel (fun kq v16 wy => ∃ (k : Nat) (s' : Nat → Bool), v16 = .int .i64 k ∧ k < j ∧ lpo d e j kq s' k = some r ∧ Blk wy b7 (bls s') 125 ∧ Only wr wy b7)
              case atStart => exact ⟨m, _, rfl, hlt2, Hr.out, hm, Only.refl _ _⟩
              case round =>
                clear hm hcs hget
                obtain ⟨k, s', rfl, hk, hr, hm, hon2⟩ := hrel
                have hAy := (hAx.only hon2 hne7).dgAt
                have hEy := (hEx.only hon2 hne7').dgAt
                have hcs := hm.cells
                have hfs := hm.free
                have hget := bls_get s' k (by omega)
                have Hr := Lib.hid hr
                clear hr
                cases gk with
                | zero => exact absurd Hr.out (by simp [lpo])
                | succ k1 =>
                  cases hsk : s' k with
                  | true =>
                    rw [hsk] at hget
                    rw [lpo_met hsk] at Hr
                    have he := Option.some.inj Hr.out
                    have He := Lib.hid he
                    clear he hsk
                    go_wp2_with fail
                    go_roundw
                    case rel => exact ⟨m + 1, by omega, by go_num, by rw [Hst.out]; go_num, by rw [Hst.out]; show Blk _ b7 (bls r) 125; rw [← He.out]; exact hm, hon.trans hon2⟩
                    case measure => simp [intOf]; omega
                  | false =>
                    rw [hsk] at hget
                    obtain ⟨hl1, hl2, hl3⟩ := lpo_go hsk Hr.out
                    have hma := hpd.mate (j + k) (by rw [Hds.out]; omega)
                    rw [Hds.out] at hma
                    have hcm := hAy.mate (j + k) (by omega)
                    have hq : hop d e false (j + k) = (d.m (j + k)).toNat := rfl
                    rw [hq] at hl1 hl2 hl3
                    generalize hx : d.m (j + k) = x at hma hcm hl1 hl2 hl3
                    clear hq hx
                    have hmb := hpe.mate (x.toNat - j) (by rw [Hes.out]; omega)
                    rw [Hes.out] at hmb
                    have hce := hEy.mate (x.toNat - j) (by omega)
                    have hq : hop d e true (x.toNat - j) = (e.m (x.toNat - j)).toNat := rfl
                    rw [hq] at hl2 hl3
                    generalize hx : e.m (x.toNat - j) = y at hmb hce hl2 hl3
                    clear hq hx
                    have hset1 := bls_set s' k (by omega)
                    have hb1 := hm.set k (.bool true)
                    rw [hset1] at hb1
                    have hc1 := hb1.cells
                    have hf1 := hb1.free
                    obtain ⟨s1, hs1⟩ : ∃ s1, s1 = fun j => if j = k then true else s' j := ⟨_, rfl⟩
                    rw [← hs1] at hc1
                    have hg1 := bls_get s1 (x.toNat - j) (by omega)
                    clear hs1
                    have ho1 := Only.setCell wr b7 k (.bool true)
                    have hset2 := bls_set (fun j => if j = k then true else s' j) (x.toNat - j) (by omega)
                    have hb2 := hb1.set (x.toNat - j) (.bool true)
                    rw [hset2] at hb2
                    have ho2 := ho1.trans (Only.setCell _ b7 (x.toNat - j) (.bool true))
                    have Hl3 := Lib.hid hl3
                    have Hb2 := Lib.hid hb2
                    have Ho2 := Lib.hid ho2
                    clear hl3 hb2 ho2 hset1 hset2 hb1 ho1 hsk
                    go_wp2_with fail
                    go_roundg k1
                    case rel =>
                      refine ⟨y.toNat, _, by go_num, by omega, Hl3.out, Hb2.out, hon2.trans Ho2.out⟩
                    case measure => omega
          · obtain rfl : m = j := by omega
            have hob := ho.only hon (Ne.symm h78)
            have hRx := hR.only hon hne7''
            have hbelx := hbel.trans (hon.below (by omega))
            go_wp2_with (first | (refine load_dg rfl _ rfl _ rfl _ _ hob ?_) | (refine store_dg rfl _ _ rfl _ rfl _ rfl _ _ hRx (Dg.size_cells _) ?_; intro w9 hR9 ho9; have hbel9 := hbelx.trans (ho9.below (by omega))))
            refine ret_dg_tmp rfl _ rfl _ _ hR9 _ rfl rfl ?_
            exact ⟨rfl, hbel9⟩
end Go.Proofs.Yticmlgnolbccjaa
