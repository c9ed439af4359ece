/- The walks of the product of two diagrams, in the program. -/
import Derived.Test.YticmlgnolbccjaaD7
set_option linter.unusedVariables false
set_option linter.unusedSimpArgs false
namespace Go.Proofs.Yticmlgnolbccjaa
open Go.RowKit

set_option maxHeartbeats 1000000 in
set_option maxRecDepth 100000 in
theorem implProduct_calls (d e : Dg) (n : Nat) (hn : 1 ≤ n) (hn8 : n ≤ 8) (hds : d.size = n) (hes : e.size = n) (hpd : d.Pts) (hpe : e.Pts) (hrun : Runs d e n) (bd be bo bl : Nat) (To Tl : TypeId) (w : World)
    (had : DgAt w bd 0 d) (hae : DgAt w be 0 e) (ho : Blk w bo (Dg.zero n).cells To) (hl : Blk w bl #[.int .i64 0] Tl) (h1 : bd ≠ bo) (h2 : bd ≠ bl) (h3 : be ≠ bo) (h4 : be ≠ bl) (h5 : bo ≠ bl) :
    Calls Try.prog 126 #[.pointer (some ⟨bd, 0, none⟩), .pointer (some ⟨be, 0, none⟩), .func (.func 127) #[] #[], .func (.func 128) #[] #[.pointer (some ⟨bo, 0, none⟩)], .func (.func 129) #[] #[.pointer (some ⟨bl, 0, none⟩)]] w fun ee w' =>
      ee = .returned (.tuple #[]) ∧ Blk w' bo (prodD d e n).cells To ∧ Blk w' bl #[.int .i64 (prodL d e n)] Tl ∧ But w w' [bo, bl] := by
  have hsz := had.size
  rw [hds] at hsz
  have hdl := had.lt
  have hel := hae.lt
  have hol := ho.lt
  have hll := hl.lt
  have Hrun := Lib.hid hrun
  clear hrun
  have Hds := Lib.hid hds
  have Hes := Lib.hid hes
  clear hds hes
  go_enter Try.func126, Try.ntmps126
  go_wp2_with (go_at_call 124; refine (implN_at n _ _ _ hsz).mono ?_; rintro e w' ⟨rfl, rfl⟩)
  have hstk0 : Blk (w.alloc (.cells (stkA bd be (fun _ => false) (.func (.func 127) #[] #[])) 153)) w.heap.size (stkA bd be (fun _ => false) (.func (.func 127) #[] #[])) 153 := Blk.new _ _ _
  go_loopw [22] (fun i wr => ∃ j : Nat, j ≤ n ∧ i = .int .i64 j ∧ Blk wr w.heap.size (stkA bd be (seenTo d e n j) (.func (.func 127) #[] #[])) 153 ∧ Blk wr bo (outTo d e n j).cells To ∧ Blk wr bl #[.int .i64 0] Tl ∧ But w wr [bo, bl]) (fun i _ => n - (intOf i).toNat)
  case atStart => exact ⟨0, by omega, rfl, hstk0, ho.alloc _, hl.alloc _, (But.refl _ _).alloc _⟩
  case round =>
    obtain ⟨j, hj, rfl, hs, hob, hlb, hbut⟩ := hrel
    clear hstk0 ho hl
    have hsz2 := hbut.size
    have hne1 : bd ∉ [bo, bl] := by simp [h1, h2]
    have hne2 : be ∉ [bo, bl] := by simp [h3, h4]
    have hA := had.but hbut hne1
    have hE := hae.but hbut hne2
    have Hne1 := Lib.hid hne1
    have Hne2 := Lib.hid hne2
    clear hne1 hne2
    by_cases hlt : j < n
    · obtain ⟨r1, hr1, hr1a, hr1b⟩ := Hrun.out.up j hlt
      obtain ⟨r2, hr2, hr2a, hr2b⟩ := Hrun.out.down j hlt
      have hx1 : res d e n false j = r1.1 ∧ vis d e n false j = r1.2 := by unfold res vis; rw [hr1]; exact ⟨rfl, rfl⟩
      have hx2 : res d e n true (n + j) = r2.1 ∧ vis d e n true (n + j) = r2.2 := by unfold res vis; rw [hr2]; exact ⟨rfl, rfl⟩
      have Hx1 := Lib.hid hx1
      have Hx2 := Lib.hid hx2
      have Hr1 := Lib.hid hr1
      have Hr2 := Lib.hid hr2
      clear hx1 hx2 hr1 hr2
      go_wp2_with fail
      refine (implFollow_calls d e n hn hn8 Hds.out Hes.out hpd hpe bd be w.heap.size (seenTo d e n j) fuel false j (-1) (by omega) r1 Hr1.out wr hA hE hs (by omega) (by omega)).mono ?_
      rintro ee w1 ⟨rfl, hs1, ho1⟩
      have hob1 := hob.only ho1 (by omega)
      go_wp2_with (go_at_call 128; refine (end_calls _ _ _ _ _ _ (len_outTo d e n j) hob1 (by omega) (by omega) (by omega) (by omega)).mono ?_; rintro ee w2 ⟨rfl, hob2, ho2⟩)
      have hA2 := (hA.only ho1 (by omega)).only ho2 h1
      have hE2 := (hE.only ho1 (by omega)).only ho2 h3
      have hs2 := hs1.only ho2 (by omega)
      have hlb2 := (hlb.only ho1 (by omega)).only ho2 (Ne.symm h5)
      have hb2 := (hbut.only ho1 (.inr (Nat.le_refl _))).only ho2 (.inl (by simp))
      rw [show ((n : Int) + (j : Int)) = ((n + j : Nat) : Int) from by omega]
      refine (implFollow_calls d e n hn hn8 Hds.out Hes.out hpd hpe bd be w.heap.size _ fuel true (n + j) (-1) (by omega) r2 Hr2.out w2 hA2 hE2 hs2 (by omega) (by omega)).mono ?_
      rintro ee w3 ⟨rfl, hs3, ho3⟩
      have hob3 := hob2.only ho3 (by omega)
      have hlen2 : ((outTo d e n j).put (j : Int).toNat r1.1).mate.length = 16 := by rw [Dg.len_put, len_outTo]
      have Hlen2 := Lib.hid hlen2
      clear hlen2
      go_wp2_with (go_at_call 128; refine (end_calls _ _ _ _ _ _ Hlen2.out hob3 (by omega) (by omega) (by omega) (by omega)).mono ?_; rintro ee w4 ⟨rfl, hob4, ho4⟩)
      go_roundw
      case rel =>
        refine ⟨j + 1, by omega, by go_num, ?_, ?_, (hlb2.only ho3 (by omega)).only ho4 (Ne.symm h5), (hb2.only ho3 (.inr (Nat.le_refl _))).only ho4 (.inl (by simp))⟩
        · rw [seenTo_succ, Hx1.out.2, Hx2.out.2]; exact hs3.only ho4 (by omega)
        · rw [outTo_succ, Hx1.out.1, Hx2.out.1]
          have e1 : ((j : Int)).toNat = j := by omega
          have e2 : ((n : Int) + (j : Int)).toNat = n + j := by omega
          first | (rw [e1, e2] at hob4; exact hob4) | (simp only [Int.toNat_natCast, e2] at hob4; exact hob4)
      case measure => simp [intOf]; omega
    · obtain rfl : j = n := by omega
      go_wp2
      go_loopw [43] (fun i wr => ∃ m : Nat, m ≤ j ∧ i = .int .i64 m ∧ Blk wr w.heap.size (stkA bd be (loopTo d e j m).1 (.func (.func 127) #[] #[])) 153 ∧ Blk wr bo (outTo d e j j).cells To ∧ Blk wr bl #[.int .i64 ((loopTo d e j m).2 : Nat)] Tl ∧ But w wr [bo, bl]) (fun i _ => j - (intOf i).toNat)
      case atStart => exact ⟨0, by omega, rfl, hs, hob, hlb, hbut⟩
      case round =>
        clear hs hob hlb hbut hA hE hsz2
        obtain ⟨m, hm, rfl, hs, hob, hlb, hbut⟩ := hrel
        have hsz2 := hbut.size
        have hA := had.but hbut Hne1.out
        have hE := hae.but hbut Hne2.out
        have hle := loopTo_le d e j m
        by_cases hlt2 : m < j
        · have hcs := hs.cells
          have hseen := stk_seen bd be (loopTo d e j m).1 (.func (.func 127) #[] #[]) m (by omega)
          have hm8 : m < 8 := by omega
          cases hsm : (loopTo d e j m).1 m with
          | true =>
            rw [hsm] at hseen
            have hst : loopTo d e j (m + 1) = loopTo d e j m := by rw [loopTo_succ, if_pos hsm]
            have Hst := Lib.hid hst
            clear hst hsm
            go_wp2
            go_roundw
            case rel => exact ⟨m + 1, by omega, by go_num, by rw [Hst.out]; exact hs, hob, by rw [Hst.out]; exact hlb, hbut⟩
            case measure => simp [intOf]; omega
          | false =>
            rw [hsm] at hseen
            obtain ⟨r, hr⟩ := Hrun.out.loop m hlt2 hsm
            have hst : loopTo d e j (m + 1) = (marks (loopTo d e j m).1 r.2, (loopTo d e j m).2 + 1) := by
              rw [loopTo_succ, if_neg (by rw [hsm]; simp)]; unfold cyc; rw [hr]; rfl
            have Hst := Lib.hid hst
            have Hr := Lib.hid hr
            clear hst hsm hr
            go_wp2_with fail
            refine (implFollow_calls d e j hn hn8 Hds.out Hes.out hpd hpe bd be w.heap.size _ fuel true m m (by omega) r Hr.out wr hA hE hs (by omega) (by omega)).mono ?_
            rintro ee w1 ⟨rfl, hs1, ho1⟩
            have hlb1 := hlb.only ho1 (by omega)
            go_wp2_with (go_at_call 129; refine (loop_calls _ _ _ _ hlb1 (by omega) (by omega)).mono ?_; rintro ee w2 ⟨rfl, hlb2, ho2⟩)
            go_roundw
            case rel => exact ⟨m + 1, by omega, by go_num, by rw [Hst.out]; exact hs1.only ho2 (by omega), (hob.only ho1 (by omega)).only ho2 h5, by rw [Hst.out]; exact hlb2, (hbut.only ho1 (.inr (Nat.le_refl _))).only ho2 (.inl (by simp))⟩
            case measure => simp [intOf]; omega
        · obtain rfl : m = j := by omega
          go_wp2
          go_end0
          exact ⟨rfl, hob, hlb, hbut⟩
end Go.Proofs.Yticmlgnolbccjaa
