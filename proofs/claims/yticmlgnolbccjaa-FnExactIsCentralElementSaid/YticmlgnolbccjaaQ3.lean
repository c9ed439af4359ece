/- The walks of the functions that go along the lines of two diagrams, in the program. -/
import Derived.Test.YticmlgnolbccjaaQ1
import Derived.Deep.LoopGhost
import Derived.Test.YticmlgnolbccjaaQ2

set_option linter.unusedVariables false
set_option linter.unusedSimpArgs false
namespace Go.Proofs.Yticmlgnolbccjaa
open Go.RowKit

theorem meet_calls (l : Bool) (p : Int) (w : World) : Calls Try.prog 127 #[.bool l, .int .i64 p] w fun e w' => e = .returned (.tuple #[]) ∧ w = w' := by
  go_enter Try.func127, Try.ntmps127
  go_wp2
  go_end0
  exact ⟨rfl, rfl⟩

set_option maxHeartbeats 1000000 in
set_option maxRecDepth 100000 in
theorem implFollow_calls (d e : Dg) (n : Nat) (hn : 1 ≤ n) (hn8 : n ≤ 8) (hds : d.size = n) (hes : e.size = n) (hpd : d.Pts) (hpe : e.Pts) (bd be b : Nat) (s : Nat → Bool) (K : Nat) (l : Bool) (p : Nat) (u : Int) (hp : p < 2 * n) (r : Int × List Nat)
    (hr : fol d e n u K l p = some r) (w : World) (had : DgAt w bd 0 d) (hae : DgAt w be 0 e) (hb : Blk w b (stkA bd be s (.func (.func 127) #[] #[])) 153) (hd : bd ≠ b) (he : be ≠ b) :
    Calls Try.prog 146 #[.pointer (some ⟨b, 0, none⟩), .bool l, .int .i64 p, .int .i64 u] w fun ee w' =>
      ee = .returned (.int .i64 r.1) ∧ Blk w' b (stkA bd be (marks s r.2) (.func (.func 127) #[] #[])) 153 ∧ Only w w' b := by
  have hc := hb.cells
  have hf := hb.free
  have Hpd := Lib.hid hpd
  have Hpe := Lib.hid hpe
  have Hds := Lib.hid hds
  have Hes := Lib.hid hes
  have Hr := Lib.hid hr
  have hsz := had.size
  rw [hds] at hsz
  clear hpd hpe hr hds hes
  go_enter Try.func146, Try.ntmps146
  go_wp2_with (go_at_call 124; refine (implN_at n _ _ _ hsz).mono ?_; rintro e w' ⟨rfl, rfl⟩)
  go_loopg [1, 2] K (fun kq v1 v2 wr => ∃ (l' : Bool) (p' : Nat) (s' : Nat → Bool) (ms : List Nat), v1 = .bool l' ∧ v2 = .int .i64 p' ∧ p' < 2 * n ∧ fol d e n u kq l' p' = some (r.1, ms) ∧ marks s' ms = marks s r.2 ∧
    Blk wr b (stkA bd be s' (.func (.func 127) #[] #[])) 153 ∧ Only w wr b)
  case atStart => exact ⟨l, p, s, r.2, rfl, rfl, hp, Hr.out, rfl, hb, Only.refl w b⟩
  case round =>
    clear hb hc hf hp
    obtain ⟨l', p', s', ms, rfl, rfl, hp, hr, hms, hb, ho⟩ := hrel
    have Hr' := Lib.hid hr
    have Hms := Lib.hid hms
    clear hr hms
    have hc := hb.cells
    have hf := hb.free
    have hde := had.only ho hd
    have hee := hae.only ho he
    cases gk with
    | zero => exact absurd Hr'.out (by simp [fol])
    | succ k1 =>
      cases l' with
      | false =>
        have hm := Hpd.out.mate p' (by rw [Hds.out]; omega)
        rw [Hds.out] at hm
        have hcm := hde.mate p' (by omega)
        have hq : hop d e false p' = (d.m p').toNat := rfl
        generalize hx : d.m p' = x at hm hcm hq
        have Hq := Lib.hid hq
        clear hq hx
        by_cases hxn : (n : Int) ≤ x
        · have hne : ¬ false = decide (n ≤ hop d e false p') := by rw [Hq.out]; simp; omega
          have hmod0 : 0 ≤ x % (n : Int) := Int.emod_nonneg _ (by omega)
          have hmod1 : x % (n : Int) < n := Int.emod_lt_of_pos _ (by omega)
          have hmodn : (x.toNat % n : Nat) = (x % (n : Int)).toNat := by
            have : (((x.toNat % n : Nat)) : Int) = x % (n : Int) := by rw [Int.natCast_emod, Int.toNat_of_nonneg hm.1]
            omega
          have hst := stk_set bd be s' (.func (.func 127) #[] #[]) (x % (n : Int)).toNat (by omega)
          have hse := stk_seen bd be s' (.func (.func 127) #[] #[]) (x % (n : Int)).toNat (by omega)
          have Hst := Lib.hid hst
          have Hmn := Lib.hid hmodn
          clear hst hmodn
          have hmlt : (x % (n : Int)).toNat < 8 := by omega
          have hn0 : ((n : Int) == 0) = false := beq_eq_false_iff_ne.2 (by omega)
          have hb3 : Blk (wr.setCell ⟨b, 2 + (x % (n : Int)).toNat, none⟩ (.bool true)) b (stkA bd be (fun j => if j = (x % (n : Int)).toNat then true else s' j) (.func (.func 127) #[] #[])) 153 := by
            have := hb.set (2 + (x % (n : Int)).toNat) (.bool true)
            rwa [Hst.out] at this
          have ho3 : Only w (wr.setCell ⟨b, 2 + (x % (n : Int)).toNat, none⟩ (.bool true)) b := ho.trans (Only.setCell _ _ _ _)
          have Hb3 := Lib.hid hb3
          have Ho3 := Lib.hid ho3
          clear hb3 ho3
          by_cases hu : x % (n : Int) = u
          · have hu' : (x % (n : Int) == u) = true := by simp [hu]
            have hrr := fol_until (k := k1) (u := u) hne (by rw [Hq.out, Hmn.out]; omega)
            rw [Hq.out, Hmn.out] at hrr
            rw [hrr] at Hr'
            have hre := Prod.mk.inj (Option.some.inj Hr'.out)
            have Hre := Lib.hid hre
            have Hu := Lib.hid hu
            clear hrr hre hu
            go_wp2_with (go_at_call 127; refine (meet_calls _ _ _).mono ?_; rintro e w' ⟨rfl, rfl⟩)
            go_ret
            refine ⟨ret_int Hre.out.1, ?_, Ho3.out⟩
            rw [← Hms.out, ← Hre.out.2]
            exact Hb3.out
          · have hu' : (x % (n : Int) == u) = false := by simp [hu]
            have hrr := fol_step (k := k1) (u := u) hne (by rw [Hq.out, Hmn.out]; omega)
            rw [hrr, Hq.out, Hmn.out] at Hr'
            obtain ⟨r2, hr2, hr3⟩ := Option.map_eq_some_iff.1 Hr'.out
            have hre := Prod.mk.inj hr3
            have Hre := Lib.hid hre
            have Hr2 := Lib.hid hr2
            have Hu := Lib.hid hu
            clear hrr hre hu hr2 hr3
            go_wp2_with (go_at_call 127; refine (meet_calls _ _ _).mono ?_; rintro e w' ⟨rfl, rfl⟩)
            go_roundg k1
            case rel =>
              refine ⟨true, (x % n).toNat, _, r2.2, rfl, by simp; omega, by omega, ?_, ?_, Hb3.out, Ho3.out⟩
              · have h4 := Hr2.out
                have h5 : ((x % (n : Int)).toNat) = (x % n).toNat := by omega
                simp only [Bool.not_false, if_true, Bool.false_eq_true, if_false] at h4
                rw [h5] at h4
                rw [h4, ← Hre.out.1]
              · rw [← Hms.out, ← Hre.out.2]; rfl
            case measure => omega
        · have hdd : (!decide ((n : Int) ≤ x)) = true := by simp; omega
          have hfe := fol_end (d := d) (e := e) (n := n) (u := u) (k := k1) (l := false) (p := p') (by rw [Hq.out]; simp; omega)
          rw [hfe] at Hr'
          have hre := Prod.mk.inj (Option.some.inj Hr'.out)
          have Hre := Lib.hid hre
          clear hre hfe
          go_wp2_with (go_at_call 127; refine (meet_calls _ _ _).mono ?_; rintro e w' ⟨rfl, rfl⟩)
          go_ret
          refine ⟨ret_int ?_, ?_, ho⟩
          · rw [← Hre.out.1, Hq.out]; omega
          · rw [← Hms.out, ← Hre.out.2, marks_nil]; exact hb
      | true =>
        have hm := Hpe.out.mate p' (by rw [Hes.out]; omega)
        rw [Hes.out] at hm
        have hcm := hee.mate p' (by omega)
        have hq : hop d e true p' = (e.m p').toNat := rfl
        generalize hx : e.m p' = x at hm hcm hq
        have Hq := Lib.hid hq
        clear hq hx
        by_cases hxn : x < (n : Int)
        · have hne : ¬ true = decide (n ≤ hop d e true p') := by rw [Hq.out]; simp; omega
          have hmod0 : 0 ≤ x % (n : Int) := Int.emod_nonneg _ (by omega)
          have hmod1 : x % (n : Int) < n := Int.emod_lt_of_pos _ (by omega)
          have hmodn : (x.toNat % n : Nat) = (x % (n : Int)).toNat := by
            have : (((x.toNat % n : Nat)) : Int) = x % (n : Int) := by rw [Int.natCast_emod, Int.toNat_of_nonneg hm.1]
            omega
          have hst := stk_set bd be s' (.func (.func 127) #[] #[]) (x % (n : Int)).toNat (by omega)
          have hse := stk_seen bd be s' (.func (.func 127) #[] #[]) (x % (n : Int)).toNat (by omega)
          have Hst := Lib.hid hst
          have Hmn := Lib.hid hmodn
          clear hst hmodn
          have hmlt : (x % (n : Int)).toNat < 8 := by omega
          have hn0 : ((n : Int) == 0) = false := beq_eq_false_iff_ne.2 (by omega)
          have hb3 : Blk (wr.setCell ⟨b, 2 + (x % (n : Int)).toNat, none⟩ (.bool true)) b (stkA bd be (fun j => if j = (x % (n : Int)).toNat then true else s' j) (.func (.func 127) #[] #[])) 153 := by
            have := hb.set (2 + (x % (n : Int)).toNat) (.bool true)
            rwa [Hst.out] at this
          have ho3 : Only w (wr.setCell ⟨b, 2 + (x % (n : Int)).toNat, none⟩ (.bool true)) b := ho.trans (Only.setCell _ _ _ _)
          have Hb3 := Lib.hid hb3
          have Ho3 := Lib.hid ho3
          clear hb3 ho3
          by_cases hu : x % (n : Int) = u
          · have hu' : (x % (n : Int) == u) = true := by simp [hu]
            have hrr := fol_until (k := k1) (u := u) hne (by rw [Hq.out, Hmn.out]; omega)
            rw [Hq.out, Hmn.out] at hrr
            rw [hrr] at Hr'
            have hre := Prod.mk.inj (Option.some.inj Hr'.out)
            have Hre := Lib.hid hre
            have Hu := Lib.hid hu
            clear hrr hre hu
            go_wp2_with (go_at_call 127; refine (meet_calls _ _ _).mono ?_; rintro e w' ⟨rfl, rfl⟩)
            go_ret
            refine ⟨ret_int Hre.out.1, ?_, Ho3.out⟩
            rw [← Hms.out, ← Hre.out.2]
            exact Hb3.out
          · have hu' : (x % (n : Int) == u) = false := by simp [hu]
            have hrr := fol_step (k := k1) (u := u) hne (by rw [Hq.out, Hmn.out]; omega)
            rw [hrr, Hq.out, Hmn.out] at Hr'
            obtain ⟨r2, hr2, hr3⟩ := Option.map_eq_some_iff.1 Hr'.out
            have hre := Prod.mk.inj hr3
            have Hre := Lib.hid hre
            have Hr2 := Lib.hid hr2
            have Hu := Lib.hid hu
            clear hrr hre hu hr2 hr3
            go_wp2_with (go_at_call 127; refine (meet_calls _ _ _).mono ?_; rintro e w' ⟨rfl, rfl⟩)
            go_roundg k1
            case rel =>
              refine ⟨false, (n + x % n).toNat, _, r2.2, rfl, by simp; omega, by omega, ?_, ?_, Hb3.out, Ho3.out⟩
              · have h4 := Hr2.out
                have h5 : (n + (x % (n : Int)).toNat) = (n + x % n).toNat := by omega
                simp only [Bool.not_true, if_true, Bool.false_eq_true, if_false] at h4
                rw [h5] at h4
                rw [h4, ← Hre.out.1]
              · rw [← Hms.out, ← Hre.out.2]; rfl
            case measure => omega
        · have hfe := fol_end (d := d) (e := e) (n := n) (u := u) (k := k1) (l := true) (p := p') (by rw [Hq.out]; simp; omega)
          rw [hfe] at Hr'
          have hre := Prod.mk.inj (Option.some.inj Hr'.out)
          have Hre := Lib.hid hre
          clear hre hfe
          go_wp2_with (go_at_call 127; refine (meet_calls _ _ _).mono ?_; rintro e w' ⟨rfl, rfl⟩)
          go_ret
          refine ⟨ret_int ?_, ?_, ho⟩
          · rw [← Hre.out.1, Hq.out]; omega
          · rw [← Hms.out, ← Hre.out.2, marks_nil]; exact hb

theorem end_calls (o : Dg) (bo : Nat) (T : TypeId) (i k : Int) (w : World) (ho : o.mate.length = 16) (hb : Blk w bo o.cells T) (hi : 0 ≤ i) (hi' : i < 16) (hk : 0 ≤ k) (hk' : k < 16) :
    Calls Try.prog 128 #[.int .i64 i, .int .i64 k, .pointer (some ⟨bo, 0, none⟩)] w fun e w' => e = .returned (.tuple #[]) ∧ Blk w' bo (o.put i.toNat k).cells T ∧ Only w w' bo := by
  have hc := hb.cells
  have hf := hb.free
  have hi2 : i.toNat < 16 := by omega
  have Hb := Lib.hid hb
  have Ho := Lib.hid ho
  clear hb ho
  go_enter Try.func128, Try.ntmps128
  go_wp2
  go_end0
  refine ⟨rfl, ?_, Only.setCell _ _ _ _⟩
  have := Hb.out.set (1 + i.toNat) (.int .u8 k)
  rwa [o.cells_put _ _ Ho.out hi2] at this

theorem loop_calls (L : Int) (bl : Nat) (T : TypeId) (w : World) (hb : Blk w bl #[.int .i64 L] T) (h0 : 0 ≤ L) (h1 : L ≤ 1000000) :
    Calls Try.prog 129 #[.pointer (some ⟨bl, 0, none⟩)] w fun e w' => e = .returned (.tuple #[]) ∧ Blk w' bl #[.int .i64 (L + 1)] T ∧ Only w w' bl := by
  have hc := hb.cells 0
  simp only [List.getElem?_toArray, List.getElem?_cons_zero] at hc
  have hf := hb.free
  have Hb := Lib.hid hb
  clear hb
  go_enter Try.func129, Try.ntmps129
  go_wp2
  go_end0
  exact ⟨rfl, Hb.out.set 0 (.int .i64 (L + 1)), Only.setCell _ _ _ _⟩
end Go.Proofs.Yticmlgnolbccjaa

/- The walks of the product of two diagrams, in the program. -/
set_option linter.unusedVariables false
set_option linter.unusedSimpArgs false
namespace Go.Proofs.Yticmlgnolbccjaa
open Go.RowKit

set_option maxHeartbeats 1000000 in
set_option maxRecDepth 100000 in
theorem implProduct_calls (d e : Dg) (n : Nat) (hn : 1 ≤ n) (hn8 : n ≤ 8) (hds : d.size = n) (hes : e.size = n) (hpd : d.Pts) (hpe : e.Pts) (hrun : Runs d e n) (bd be bo bl : Nat) (To Tl : TypeId) (w : World)
    (had : DgAt w bd 0 d) (hae : DgAt w be 0 e) (ho : Blk w bo (Dg.zero n).cells To) (hl : Blk w bl #[.int .i64 0] Tl) (h1 : bd ≠ bo) (h2 : bd ≠ bl) (h3 : be ≠ bo) (h4 : be ≠ bl) (h5 : bo ≠ bl) :
    Calls Try.prog 126 #[.pointer (some ⟨bd, 0, none⟩), .pointer (some ⟨be, 0, none⟩), .func (.func 127) #[] #[], .func (.func 128) #[] #[.pointer (some ⟨bo, 0, none⟩)], .func (.func 129) #[] #[.pointer (some ⟨bl, 0, none⟩)]] w fun ee w' =>
      ee = .returned (.tuple #[]) ∧ Blk w' bo (prodD d e n).cells To ∧ Blk w' bl #[.int .i64 (prodL d e n)] Tl ∧ But w w' [bo, bl] := by
  have hsz := had.size
  rw [hds] at hsz
  have hdl := had.lt
  have hel := hae.lt
  have hol := ho.lt
  have hll := hl.lt
  have Hrun := Lib.hid hrun
  clear hrun
  have Hds := Lib.hid hds
  have Hes := Lib.hid hes
  clear hds hes
  go_enter Try.func126, Try.ntmps126
  go_wp2_with (go_at_call 124; refine (implN_at n _ _ _ hsz).mono ?_; rintro e w' ⟨rfl, rfl⟩)
  have hstk0 : Blk (w.alloc (.cells (stkA bd be (fun _ => false) (.func (.func 127) #[] #[])) 153)) w.heap.size (stkA bd be (fun _ => false) (.func (.func 127) #[] #[])) 153 := Blk.new _ _ _
  go_loopw [22] (fun i wr => ∃ j : Nat, j ≤ n ∧ i = .int .i64 j ∧ Blk wr w.heap.size (stkA bd be (seenTo d e n j) (.func (.func 127) #[] #[])) 153 ∧ Blk wr bo (outTo d e n j).cells To ∧ Blk wr bl #[.int .i64 0] Tl ∧ But w wr [bo, bl]) (fun i _ => n - (intOf i).toNat)
  case atStart => exact ⟨0, by omega, rfl, hstk0, ho.alloc _, hl.alloc _, (But.refl _ _).alloc _⟩
  case round =>
    obtain ⟨j, hj, rfl, hs, hob, hlb, hbut⟩ := hrel
    clear hstk0 ho hl
    have hsz2 := hbut.size
    have hne1 : bd ∉ [bo, bl] := by simp [h1, h2]
    have hne2 : be ∉ [bo, bl] := by simp [h3, h4]
    have hA := had.but hbut hne1
    have hE := hae.but hbut hne2
    have Hne1 := Lib.hid hne1
    have Hne2 := Lib.hid hne2
    clear hne1 hne2
    by_cases hlt : j < n
    · obtain ⟨r1, hr1, hr1a, hr1b⟩ := Hrun.out.up j hlt
      obtain ⟨r2, hr2, hr2a, hr2b⟩ := Hrun.out.down j hlt
      have hx1 : res d e n false j = r1.1 ∧ vis d e n false j = r1.2 := by unfold res vis; rw [hr1]; exact ⟨rfl, rfl⟩
      have hx2 : res d e n true (n + j) = r2.1 ∧ vis d e n true (n + j) = r2.2 := by unfold res vis; rw [hr2]; exact ⟨rfl, rfl⟩
      have Hx1 := Lib.hid hx1
      have Hx2 := Lib.hid hx2
      have Hr1 := Lib.hid hr1
      have Hr2 := Lib.hid hr2
      clear hx1 hx2 hr1 hr2
      go_wp2_with fail
      refine (implFollow_calls d e n hn hn8 Hds.out Hes.out hpd hpe bd be w.heap.size (seenTo d e n j) fuel false j (-1) (by omega) r1 Hr1.out wr hA hE hs (by omega) (by omega)).mono ?_
      rintro ee w1 ⟨rfl, hs1, ho1⟩
      have hob1 := hob.only ho1 (by omega)
      go_wp2_with (go_at_call 128; refine (end_calls _ _ _ _ _ _ (len_outTo d e n j) hob1 (by omega) (by omega) (by omega) (by omega)).mono ?_; rintro ee w2 ⟨rfl, hob2, ho2⟩)
      have hA2 := (hA.only ho1 (by omega)).only ho2 h1
      have hE2 := (hE.only ho1 (by omega)).only ho2 h3
      have hs2 := hs1.only ho2 (by omega)
      have hlb2 := (hlb.only ho1 (by omega)).only ho2 (Ne.symm h5)
      have hb2 := (hbut.only ho1 (.inr (Nat.le_refl _))).only ho2 (.inl (by simp))
      rw [show ((n : Int) + (j : Int)) = ((n + j : Nat) : Int) from by omega]
      refine (implFollow_calls d e n hn hn8 Hds.out Hes.out hpd hpe bd be w.heap.size _ fuel true (n + j) (-1) (by omega) r2 Hr2.out w2 hA2 hE2 hs2 (by omega) (by omega)).mono ?_
      rintro ee w3 ⟨rfl, hs3, ho3⟩
      have hob3 := hob2.only ho3 (by omega)
      have hlen2 : ((outTo d e n j).put (j : Int).toNat r1.1).mate.length = 16 := by rw [Dg.len_put, len_outTo]
      have Hlen2 := Lib.hid hlen2
      clear hlen2
      go_wp2_with (go_at_call 128; refine (end_calls _ _ _ _ _ _ Hlen2.out hob3 (by omega) (by omega) (by omega) (by omega)).mono ?_; rintro ee w4 ⟨rfl, hob4, ho4⟩)
      go_roundw
      case rel =>
        refine ⟨j + 1, by omega, by go_num, ?_, ?_, (hlb2.only ho3 (by omega)).only ho4 (Ne.symm h5), (hb2.only ho3 (.inr (Nat.le_refl _))).only ho4 (.inl (by simp))⟩
        · rw [seenTo_succ, Hx1.out.2, Hx2.out.2]; exact hs3.only ho4 (by omega)
        · rw [outTo_succ, Hx1.out.1, Hx2.out.1]
          have e1 : ((j : Int)).toNat = j := by omega
          have e2 : ((n : Int) + (j : Int)).toNat = n + j := by omega
          first | (rw [e1, e2] at hob4; exact hob4) | (simp only [Int.toNat_natCast, e2] at hob4; exact hob4)
      case measure => simp [intOf]; omega
    · obtain rfl : j = n := by omega
      go_wp2
      go_loopw [43] (fun i wr => ∃ m : Nat, m ≤ j ∧ i = .int .i64 m ∧ Blk wr w.heap.size (stkA bd be (loopTo d e j m).1 (.func (.func 127) #[] #[])) 153 ∧ Blk wr bo (outTo d e j j).cells To ∧ Blk wr bl #[.int .i64 ((loopTo d e j m).2 : Nat)] Tl ∧ But w wr [bo, bl]) (fun i _ => j - (intOf i).toNat)
      case atStart => exact ⟨0, by omega, rfl, hs, hob, hlb, hbut⟩
      case round =>
        clear hs hob hlb hbut hA hE hsz2
        obtain ⟨m, hm, rfl, hs, hob, hlb, hbut⟩ := hrel
        have hsz2 := hbut.size
        have hA := had.but hbut Hne1.out
        have hE := hae.but hbut Hne2.out
        have hle := loopTo_le d e j m
        by_cases hlt2 : m < j
        · have hcs := hs.cells
          have hseen := stk_seen bd be (loopTo d e j m).1 (.func (.func 127) #[] #[]) m (by omega)
          have hm8 : m < 8 := by omega
          cases hsm : (loopTo d e j m).1 m with
          | true =>
            rw [hsm] at hseen
            have hst : loopTo d e j (m + 1) = loopTo d e j m := by rw [loopTo_succ, if_pos hsm]
            have Hst := Lib.hid hst
            clear hst hsm
            go_wp2
            go_roundw
            case rel => exact ⟨m + 1, by omega, by go_num, by rw [Hst.out]; exact hs, hob, by rw [Hst.out]; exact hlb, hbut⟩
            case measure => simp [intOf]; omega
          | false =>
            rw [hsm] at hseen
            obtain ⟨r, hr⟩ := Hrun.out.loop m hlt2 hsm
            have hst : loopTo d e j (m + 1) = (marks (loopTo d e j m).1 r.2, (loopTo d e j m).2 + 1) := by
              rw [loopTo_succ, if_neg (by rw [hsm]; simp)]; unfold cyc; rw [hr]; rfl
            have Hst := Lib.hid hst
            have Hr := Lib.hid hr
            clear hst hsm hr
            go_wp2_with fail
            refine (implFollow_calls d e j hn hn8 Hds.out Hes.out hpd hpe bd be w.heap.size _ fuel true m m (by omega) r Hr.out wr hA hE hs (by omega) (by omega)).mono ?_
            rintro ee w1 ⟨rfl, hs1, ho1⟩
            have hlb1 := hlb.only ho1 (by omega)
            go_wp2_with (go_at_call 129; refine (loop_calls _ _ _ _ hlb1 (by omega) (by omega)).mono ?_; rintro ee w2 ⟨rfl, hlb2, ho2⟩)
            go_roundw
            case rel => exact ⟨m + 1, by omega, by go_num, by rw [Hst.out]; exact hs1.only ho2 (by omega), (hob.only ho1 (by omega)).only ho2 h5, by rw [Hst.out]; exact hlb2, (hbut.only ho1 (.inr (Nat.le_refl _))).only ho2 (.inl (by simp))⟩
            case measure => simp [intOf]; omega
        · obtain rfl : m = j := by omega
          go_wp2
          go_end0
          exact ⟨rfl, hob, hlb, hbut⟩
end Go.Proofs.Yticmlgnolbccjaa

/- The walk of the product of two diagrams with its loops, in the program. -/
set_option linter.unusedVariables false
set_option linter.unusedSimpArgs false
namespace Go.Proofs.Yticmlgnolbccjaa
open Go.RowKit

theorem wp_load_dg {o : Oper} {a : Act} {w : World} {K : Act → World → Prop} {Q : Exit → Act → World → Prop} (x : Operand) (ho : o.op = .load 47 x) (b : Nat) (hx : a.eval x = .pointer (some ⟨b, 0, none⟩)) (d : Dg) (T : TypeId) (h : Blk w b d.cells T)
    (hK : K (a.put o.dst (.agg d.cells)) w) : o.wp Try.prog a w K Q :=
  wp_load_row _ x ho b hx T d.cells (0, 0) _ h Try.underlying47 rfl (by rw [info_dg, d.size_cells]) hK

theorem wp_store_dg {o : Oper} {a : Act} {w : World} {K : Act → World → Prop} {Q : Exit → Act → World → Prop} (x y : Operand) (ho : o.op = .store 47 x y) (b : Nat) (hx : a.eval x = .pointer (some ⟨b, 0, none⟩)) (d : Dg) (hy : a.eval y = .agg d.cells)
    (cs : Array Value) (T : TypeId) (h : Blk w b cs T) (hs : cs.size = 17)
    (hK : ∀ w', Blk w' b d.cells T → Only w w' b → K (a.put o.dst undef) w') : o.wp Try.prog a w K Q := by
  refine wp_store_row _ x y ho b d.cells hx hy T cs h (by rw [info_dg, d.size_cells]) (by rw [hs, d.size_cells]) (all_oneCell_toArray d.oneCell) (hK _ ?_ ?_)
  · exact setRow_heap w b cs _ T _ h
  · exact ⟨rfl, rfl, rfl, by simp, fun k hk => setRow_heap_other w b k _ hk⟩


theorem all_cons {P : Program} {ops : Array Oper} {Q : Exit → Act → World → Prop} {md : Region.Mode} {fuel : Nat} {listed : Array Bool} {a : Act} {w : World} {i : Nat} {o : Oper} {rs : List Nat} (ho : ops[i]? = some o) (hg : o.guard = none)
    (h : ∀ K' : Act → World → Prop, (∀ a w, wpAny P md ops Q fuel (listed.setIfInBounds i true) a w → K' a w) → Oper.wp P o a w K' Q)
    (hs : AllReady P md ops Q fuel listed a w rs) : AllReady P md ops Q fuel listed a w (i :: rs) :=
  AllReady.cons ho (fun K' hk => by rw [if_pos (by simp [Region.wanted, hg])]; exact h K' hk) hs


set_option maxHeartbeats 1000000 in
set_option maxRecDepth 100000 in
theorem implTimes_calls (d e : Dg) (n : Nat) (hn : 1 ≤ n) (hn8 : n ≤ 8) (hds : d.size = n) (hes : e.size = n) (hpd : d.Pts) (hpe : e.Pts) (hrun : Runs d e n) (w : World) :
    Calls Try.prog 92 #[.agg d.cells, .agg e.cells] w fun ee w' => ee = .returned (.tuple #[.agg (prodD d e n).cells, .int .i64 (prodL d e n : Nat)]) ∧ Below w.heap.size w w' := by
  have Hds := Lib.hid hds
  have Hes := Lib.hid hes
  have hle := loopTo_le d e n n
  clear hds hes
  have hc0 := d.cells0
  rw [Hds.out] at hc0
  go_enter Try.func92, Try.ntmps92
  go_wp2_with (refine store_dg rfl _ _ rfl _ rfl (Dg.zero n) rfl _ 47 ((Blk.newAt _ _ _ (by simp)).alloc _) rfl ?_; intro w1 hb1 ho1; have hl1 := Blk.only (b' := w.heap.size + 1 + 1 + 1 + 1) (Blk.newAt _ _ _ (by simp)) ho1 (by omega); have hlc := hl1.cells 0; have hlf := hl1.free)
  have hA := Blk.only (b' := w.heap.size) ((((Blk.new w d.cells 47).alloc _).alloc _).alloc _ |>.alloc _) ho1 (by omega)
  have hE := Blk.only (b' := w.heap.size + 1) ((((Blk.newAt (w.alloc (.cells d.cells 47)) e.cells 47 (by simp)).alloc _).alloc _).alloc _) ho1 (by omega)
  have hR := Blk.only (b' := w.heap.size + 1 + 1) (((Blk.newAt ((w.alloc (.cells d.cells 47)).alloc (.cells e.cells 47)) (Dg.zero 0).cells 47 (by simp)).alloc _).alloc _) ho1 (by omega)
  have hbel := Below.trans (((((((Below.refl w.heap.size w).alloc (Nat.le_refl _) (.cells d.cells 47)).alloc (by simp) (.cells e.cells 47)).alloc (by simp; omega) _).alloc (by simp; omega) _).alloc (by simp; omega) _)) (ho1.below (by omega))
  have hl2 := hl1.set 0 (.int .i64 0)
  have ho2 := Only.setCell w1 (w.heap.size + 1 + 1 + 1 + 1) 0 (.int .i64 0)
  have hb2 := hb1.only ho2 (by omega)
  have hA2 := hA.only ho2 (by omega)
  have hE2 := hE.only ho2 (by omega)
  have hR2 := hR.only ho2 (by omega)
  have hbel2 := hbel.trans (ho2.below (by omega))
  have hz : w.heap.size + 5 ≤ (w1.setCell ⟨w.heap.size + 1 + 1 + 1 + 1, 0, none⟩ (.int .i64 0)).heap.size := by have := hl2.lt; omega
  clear hl1 hlc hlf hb1 hA hE hR hbel ho1 ho2
  generalize w1.setCell ⟨w.heap.size + 1 + 1 + 1 + 1, 0, none⟩ (.int .i64 0) = w2 at *
  refine (implProduct_calls d e n hn hn8 Hds.out Hes.out hpd hpe hrun _ _ _ _ _ _ w2 hA2.dgAt hE2.dgAt hb2 hl2 (by omega) (by omega) (by omega) (by omega) (by omega)).mono ?_
  rintro ee w3 ⟨rfl, hb3, hl3, hbut⟩
  have hR3 := hR2.but hbut (by simp)
  have hbel3 := hbel2.trans (hbut.below (B := w.heap.size) (by omega) (by simp; omega))
  have hz3 := hbut.size
  have hlc := hl3.cells 0
  go_wp2_with fail
  have hc := hl3.cells 0
  refine wp_region_any (by kernel_rfl) ?_
  change wpAny _ _ _ _ _ _ _ (World.drew _)
  have hb := hb3.drew
  have hl := hl3.drew
  have hR := hR3.drew
  have hbel := hbel3.drew
  generalize w3.drew = w4 at *
  have hc4 := hl.cells 0
  clear hb3 hl3 hR3 hbel3 hc hlc hbut hA2 hE2 hb2 hl2 hR2 hbel2
  repeat' (first
    | refine wpAny_done (by decide +kernel) ?_ _
    | refine wpAny_ready (rs := [0,1]) (by decide +kernel) (by simp) (all_cons (by simp only [List.getElem?_toArray, List.getElem?_cons_succ, List.getElem?_cons_zero]; rfl) rfl (fun K hK => ?_) (all_cons (by simp only [List.getElem?_toArray, List.getElem?_cons_succ, List.getElem?_cons_zero]; rfl) rfl (fun K hK => ?_) AllReady.nil))
    | refine wpAny_ready (rs := [1,2]) (by decide +kernel) (by simp) (all_cons (by simp only [List.getElem?_toArray, List.getElem?_cons_succ, List.getElem?_cons_zero]; rfl) rfl (fun K hK => ?_) (all_cons (by simp only [List.getElem?_toArray, List.getElem?_cons_succ, List.getElem?_cons_zero]; rfl) rfl (fun K hK => ?_) AllReady.nil))
    | refine wpAny_ready (rs := [0,3]) (by decide +kernel) (by simp) (all_cons (by simp only [List.getElem?_toArray, List.getElem?_cons_succ, List.getElem?_cons_zero]; rfl) rfl (fun K hK => ?_) (all_cons (by simp only [List.getElem?_toArray, List.getElem?_cons_succ, List.getElem?_cons_zero]; rfl) rfl (fun K hK => ?_) AllReady.nil))
    | refine wpAny_ready (rs := [2,3]) (by decide +kernel) (by simp) (all_cons (by simp only [List.getElem?_toArray, List.getElem?_cons_succ, List.getElem?_cons_zero]; rfl) rfl (fun K hK => ?_) (all_cons (by simp only [List.getElem?_toArray, List.getElem?_cons_succ, List.getElem?_cons_zero]; rfl) rfl (fun K hK => ?_) AllReady.nil))
    | refine wpAny_ready (rs := [0]) (by decide +kernel) (by simp) (all_cons (by simp only [List.getElem?_toArray, List.getElem?_cons_succ, List.getElem?_cons_zero]; rfl) rfl (fun K hK => ?_) AllReady.nil)
    | refine wpAny_ready (rs := [1]) (by decide +kernel) (by simp) (all_cons (by simp only [List.getElem?_toArray, List.getElem?_cons_succ, List.getElem?_cons_zero]; rfl) rfl (fun K hK => ?_) AllReady.nil)
    | refine wpAny_ready (rs := [2]) (by decide +kernel) (by simp) (all_cons (by simp only [List.getElem?_toArray, List.getElem?_cons_succ, List.getElem?_cons_zero]; rfl) rfl (fun K hK => ?_) AllReady.nil)
    | refine wpAny_ready (rs := [3]) (by decide +kernel) (by simp) (all_cons (by simp only [List.getElem?_toArray, List.getElem?_cons_succ, List.getElem?_cons_zero]; rfl) rfl (fun K hK => ?_) AllReady.nil)
    | (refine wp_load_dg _ rfl _ rfl _ _ hb ?_; refine hK _ _ ?_; clear hK K)
    | (refine wp_store_dg _ _ rfl _ rfl (prodD d e n) rfl _ _ hR (Dg.size_cells _) ?_; intro w5 hR5 ho5; refine hK _ _ ?_; clear hK K
       replace hb := hb.only ho5 (by omega); replace hl := hl.only ho5 (by omega); replace hbel := hbel.trans (ho5.below (by omega)); have hc4 := hl.cells 0; replace hR := hR5)
    | (go_simp; refine hK _ _ ?_; clear hK K))
  all_goals (go_wp2_with fail; refine ret_dg_tmp rfl _ rfl _ _ hR _ rfl rfl ?_; exact ⟨rfl, hbel⟩)
end Go.Proofs.Yticmlgnolbccjaa

/- Plain: lines of two diagrams that stand one above the other end, and their outer ends make a diagram again. -/
set_option linter.unusedVariables false
set_option linter.unusedSimpArgs false
namespace Go.Proofs.Yticmlgnolbccjaa
open Go.RowKit

/-- How many of the first k are marked. -/
def cntT (t : Nat → Bool) : Nat → Nat
  | 0 => 0
  | k + 1 => cntT t k + (if t k = true then 1 else 0)

theorem even_inv (f : Nat → Nat) : ∀ (m : Nat) (L : List Nat), L.length ≤ m → L.Nodup → (∀ x ∈ L, f x ∈ L ∧ f (f x) = x ∧ f x ≠ x) → L.length % 2 = 0
  | _, [], _, _, _ => rfl
  | 0, x :: L, h, _, _ => absurd h (by simp)
  | m + 1, x :: L, hm, hn, h => by
    have hx := h x (by simp)
    have hfx : f x ∈ L := by
      rcases List.mem_cons.1 hx.1 with h1 | h1
      · exact absurd h1 hx.2.2
      · exact h1
    have hn' := (List.nodup_cons.1 hn)
    have hlen := List.length_erase_of_mem hfx
    have hpos : 0 < L.length := List.length_pos_of_mem hfx
    have ih := even_inv f m (L.erase (f x)) (by rw [hlen]; simp at hm; omega) (hn'.2.erase _) (fun y hy => by
      have hy' := (hn'.2.mem_erase_iff).1 hy
      have h2 := h y (List.mem_cons_of_mem _ hy'.2)
      refine ⟨(hn'.2.mem_erase_iff).2 ⟨?_, ?_⟩, h2.2⟩
      · intro he
        have : y = x := by rw [← h2.2.1, he, hx.2.1]
        exact hn'.1 (this ▸ hy'.2)
      · rcases List.mem_cons.1 h2.1 with h3 | h3
        · exact absurd (by rw [← h2.2.1, h3]) hy'.1
        · exact h3)
    rw [hlen] at ih
    simp only [List.length_cons]
    omega

theorem cntT_add (t : Nat → Bool) (a : Nat) : ∀ c, cntT t (a + c) = cntT t a + ((List.range' a c).filter t).length
  | 0 => by simp
  | c + 1 => by
    rw [List.range'_1_concat, List.filter_append, List.length_append, ← Nat.add_assoc]
    show cntT t (a + c) + _ = _
    rw [cntT_add t a c]
    by_cases h : t (a + c) = true <;> simp [h] <;> omega

theorem even_span (t : Nat → Bool) (f : Nat → Nat) (a b : Nat) (hab : a ≤ b) (h : ∀ x, a ≤ x → x < b → t x = true → (a ≤ f x ∧ f x < b) ∧ t (f x) = true ∧ f (f x) = x ∧ f x ≠ x) :
    cntT t a % 2 = cntT t b % 2 := by
  obtain ⟨c, rfl⟩ : ∃ c, b = a + c := ⟨b - a, by omega⟩
  rw [cntT_add]
  have := even_inv f _ ((List.range' a c).filter t) (Nat.le_refl _) (List.Pairwise.filter _ (List.nodup_range' ..)) (fun x hx => by
    rw [List.mem_filter, List.mem_range'_1] at hx
    have h1 := h x hx.1.1 hx.1.2 hx.2
    refine ⟨?_, h1.2.2⟩
    rw [List.mem_filter, List.mem_range'_1]
    exact ⟨h1.1, h1.2.1⟩)
  omega

/-- The place of a point, and the point of a place, as numbers. -/
def pl (n k : Nat) : Nat := if k < n then k else 3 * n - 1 - k
theorem pl_lt {n k : Nat} (h : k < 2 * n) : pl n k < 2 * n := by unfold pl; split <;> omega
theorem pl_pl {n k : Nat} (h : k < 2 * n) : pl n (pl n k) = k := by
  unfold pl
  by_cases h1 : k < n
  · rw [if_pos h1, if_pos h1]
  · rw [if_neg h1, if_neg (by omega)]; omega
theorem pl_up {n k : Nat} (h : k < n) : pl n k = k := if_pos h
theorem pl_down {n j : Nat} (h : j < n) : pl n (n + j) = 2 * n - 1 - j := by unfold pl; rw [if_neg (by omega)]; omega
theorem pl_down' {n j : Nat} (h : j < n) : pl n (2 * n - 1 - j) = n + j := by unfold pl; rw [if_neg (by omega)]; omega

/-- Lines of two diagrams of the size n: no point is its own mate, mates are mutual, lines do not cross. -/
structure Two (n : Nat) (h : Bool → Nat → Nat) : Prop where
  lt : ∀ l q, q < 2 * n → h l q < 2 * n
  inv : ∀ l q, q < 2 * n → h l (h l q) = q
  ne : ∀ l q, q < 2 * n → h l q ≠ q
  nc : ∀ l k k', k < 2 * n → k' < 2 * n → ¬ (k < k' ∧ k' < pl n (h l (pl n k)) ∧ pl n (h l (pl n k)) < pl n (h l (pl n k')))

/-- Points of both diagrams, with each its mate, and with each middle point the same point of the other diagram. -/
structure Clo (n : Nat) (h : Bool → Nat → Nat) (T : Bool → Nat → Bool) : Prop where
  s : ∀ l q, q < 2 * n → T l q = true → T l (h l q) = true
  g : ∀ j, j < n → T true j = T false (n + j)

section
variable {n : Nat} {h : Bool → Nat → Nat} {T : Bool → Nat → Bool}

theorem Clo.iff (H : Two n h) (C : Clo n h T) (l : Bool) (q : Nat) (hq : q < 2 * n) : T l (h l q) = T l q := by
  rw [Bool.eq_iff_iff]
  refine ⟨fun hh => ?_, C.s l q hq⟩
  have := C.s l _ (H.lt l q hq) hh
  rwa [H.inv l q hq] at this

def side (n : Nat) (T : Bool → Nat → Bool) (l : Bool) : Nat → Bool := fun x => T l (pl n x)

theorem Clo.span (H : Two n h) (C : Clo n h T) (l : Bool) (k : Nat) (hk : k < 2 * n) (hlt : k < pl n (h l (pl n k))) (hT : T l (pl n k) = false) :
    cntT (side n T l) k % 2 = cntT (side n T l) (pl n (h l (pl n k))) % 2 := by
  have hpk := pl_lt hk
  have h1 : cntT (side n T l) (k + 1) = cntT (side n T l) k := by
    show _ + (if T l (pl n k) = true then 1 else 0) = _
    rw [hT]; simp
  rw [← h1]
  have hk2 := pl_lt (H.lt l _ hpk)
  refine even_span _ (fun x => pl n (h l (pl n x))) _ _ hlt (fun x hx1 hx2 ht => ?_)
  have hx : x < 2 * n := by omega
  have hpx := pl_lt hx
  have hfx := H.lt l _ hpx
  have hffx : pl n (h l (pl n (pl n (h l (pl n x))))) = x := by rw [pl_pl hfx, H.inv l _ hpx, pl_pl hx]
  have hkk : pl n (h l (pl n (pl n (h l (pl n k))))) = k := by rw [pl_pl (H.lt l _ hpk), H.inv l _ hpk, pl_pl hk]
  have htf : side n T l (pl n (h l (pl n x))) = true := by
    show T l (pl n (pl n (h l (pl n x)))) = true
    rw [pl_pl hfx]; exact C.s l _ hpx ht
  refine ⟨?_, htf, hffx, ?_⟩
  · have hne1 : pl n (h l (pl n x)) ≠ k := by
      intro he
      rw [he] at htf
      have : T l (pl n k) = true := htf
      rw [hT] at this; cases this
    have hne2 : pl n (h l (pl n x)) ≠ pl n (h l (pl n k)) := by
      intro he
      have : x = k := by rw [← hffx, he, hkk]
      omega
    have hn1 := H.nc l (pl n (h l (pl n x))) k (pl_lt hfx) hk
    rw [hffx] at hn1
    have hn2 := H.nc l k x hk hx
    omega
  · intro he
    have : h l (pl n x) = pl n x := by rw [← pl_pl hfx, he]
    exact H.ne l _ hpx this

theorem Clo.side_eq (H : Two n h) (C : Clo n h T) (l : Bool) (q : Nat) (hq : q < 2 * n) (hT : T l q = false) :
    cntT (side n T l) (pl n q) % 2 = cntT (side n T l) (pl n (h l q)) % 2 := by
  have hfq := H.lt l q hq
  by_cases hlt : pl n q < pl n (h l q)
  · have := C.span H l (pl n q) (pl_lt hq) (by rw [pl_pl hq]; exact hlt) (by rw [pl_pl hq]; exact hT)
    rwa [pl_pl hq] at this
  · have hne : pl n q ≠ pl n (h l q) := by
      intro he
      have : q = h l q := by have h1 := congrArg (pl n) he; rwa [pl_pl hq, pl_pl hfq] at h1
      exact H.ne l q hq this.symm
    have := C.span H l (pl n (h l q)) (pl_lt hfq) (by rw [pl_pl hfq, H.inv l q hq]; omega) (by rw [pl_pl hfq, C.iff H l q hq]; exact hT)
    rw [pl_pl hfq, H.inv l q hq] at this
    exact this.symm

theorem Clo.all (H : Two n h) (C : Clo n h T) (l : Bool) : cntT (side n T l) (2 * n) % 2 = 0 := by
  have := even_span (side n T l) (fun x => pl n (h l (pl n x))) 0 (2 * n) (by omega) (fun x _ hx ht => by
    have hpx := pl_lt hx
    have hfx := H.lt l _ hpx
    refine ⟨⟨by omega, pl_lt hfx⟩, ?_, by show pl n (h l (pl n (pl n (h l (pl n x))))) = x; rw [pl_pl hfx, H.inv l _ hpx, pl_pl hx], ?_⟩
    · show T l (pl n (pl n (h l (pl n x)))) = true
      rw [pl_pl hfx]; exact C.s l _ hpx ht
    · intro he
      have : h l (pl n x) = pl n x := by rw [← pl_pl hfx, he]
      exact H.ne l _ hpx this)
  exact this.symm

theorem Clo.glue (C : Clo n h T) : ∀ j, j ≤ n → cntT (side n T false) (2 * n) = cntT (side n T false) (2 * n - j) + cntT (side n T true) j
  | 0, _ => rfl
  | j + 1, hj => by
    rw [C.glue j (by omega)]
    have e : 2 * n - j = (2 * n - (j + 1)) + 1 := by omega
    have e2 : 2 * n - (j + 1) = 2 * n - 1 - j := by omega
    rw [e]
    show cntT _ (2 * n - (j + 1)) + (if T false (pl n (2 * n - (j + 1))) = true then 1 else 0) + _ = _ + (cntT _ j + (if T true (pl n j) = true then 1 else 0))
    rw [e2, pl_down' (by omega), pl_up (by omega), C.g j (by omega)]
    omega

theorem Clo.mid (H : Two n h) (C : Clo n h T) (j : Nat) (hj : j < n) (hT : T true j = false) :
    cntT (side n T false) (pl n (n + j)) % 2 = cntT (side n T true) (pl n j) % 2 := by
  have h1 := C.all H false
  rw [C.glue (j + 1) (by omega)] at h1
  have h2 : cntT (side n T true) (j + 1) = cntT (side n T true) j := by
    show _ + (if T true (pl n j) = true then 1 else 0) = _
    rw [pl_up hj, hT]; simp
  rw [h2] at h1
  rw [pl_down hj, pl_up hj]
  have e2 : 2 * n - (j + 1) = 2 * n - 1 - j := by omega
  rw [e2] at h1
  omega

/-- The marks at the places of the product. -/
def outer (n : Nat) (T : Bool → Nat → Bool) : Nat → Bool := fun x => T (decide (n ≤ pl n x)) (pl n x)

theorem outer_up (k : Nat) (hk : k < n) : outer n T k = side n T false k := by
  unfold outer side
  rw [pl_up hk, decide_eq_false (by omega)]
theorem outer_down (k : Nat) (hk : n ≤ k) (hk2 : k < 2 * n) : outer n T k = side n T true k := by
  unfold outer side
  have : n ≤ pl n k := by unfold pl; rw [if_neg (by omega)]; omega
  rw [decide_eq_true this]
theorem outer_cnt_up : ∀ k, k ≤ n → cntT (outer n T) k = cntT (side n T false) k
  | 0, _ => rfl
  | k + 1, hk => by
    show _ + (if outer n T k = true then 1 else 0) = _ + (if side n T false k = true then 1 else 0)
    rw [outer_cnt_up k (by omega), outer_up k (by omega)]
theorem outer_cnt_down : ∀ c, c ≤ n → cntT (outer n T) (n + c) + cntT (side n T true) n = cntT (side n T false) n + cntT (side n T true) (n + c)
  | 0, _ => by show cntT (outer n T) n + _ = _ + cntT _ n; rw [outer_cnt_up n (Nat.le_refl _)]
  | c + 1, hc => by
    show cntT _ (n + c) + (if outer n T (n + c) = true then 1 else 0) + _ = _ + (cntT _ (n + c) + (if side n T true (n + c) = true then 1 else 0))
    rw [outer_down (n + c) (by omega) (by omega)]
    have := outer_cnt_down c (by omega)
    omega

theorem Clo.outer_eq (H : Two n h) (C : Clo n h T) (p : Nat) (hp : p < 2 * n) :
    cntT (outer n T) (pl n p) % 2 = cntT (side n T (decide (n ≤ p))) (pl n p) % 2 := by
  by_cases hpn : n ≤ p
  · rw [decide_eq_true hpn]
    obtain ⟨c, hc⟩ : ∃ c, pl n p = n + c := ⟨pl n p - n, by unfold pl; rw [if_neg (by omega)]; omega⟩
    have hlt := pl_lt hp
    rw [hc]
    have h1 := outer_cnt_down (T := T) (n := n) c (by omega)
    have h2 := C.all H false
    rw [C.glue n (Nat.le_refl _), show 2 * n - n = n from by omega] at h2
    omega
  · rw [decide_eq_false hpn, pl_up (by omega), outer_cnt_up p (by omega)]
theorem Clo.outer_all (H : Two n h) (C : Clo n h T) : cntT (outer n T) (2 * n) % 2 = 0 := by
  have h1 := outer_cnt_down (T := T) n (Nat.le_refl _)
  have h2 := C.all H false
  rw [C.glue n (Nat.le_refl _), show 2 * n - n = n from by omega] at h2
  have h3 := C.all H true
  rw [show n + n = 2 * n from by omega] at h1
  omega
end

section
variable {d e : Dg} {n : Nat} {T : Bool → Nat → Bool}

/-- The next start on a line. -/
def nxt (n : Nat) (l : Bool) (q : Nat) : Nat := if l then n + q % n else q % n

/-- A line from a point that is not marked ends at one that is not, on the same side of the marks. -/
theorem fol_side (H : Two n (hop d e)) (C : Clo n (hop d e) T) : ∀ (k : Nat) (l : Bool) (p : Nat) (r : Int × List Nat), p < 2 * n → T l p = false → fol d e n (-1) k l p = some r →
    ∃ q : Nat, r.1 = q ∧ q < 2 * n ∧ T (decide (n ≤ q)) q = false ∧ cntT (side n T (decide (n ≤ q))) (pl n q) % 2 = cntT (side n T l) (pl n p) % 2
  | 0, _, _, _, _, _, h => by cases h
  | k + 1, l, p, r, hp, hT, h => by
    have hq := H.lt l p hp
    have hTq : T l (hop d e l p) = false := by rw [C.iff H l p hp]; exact hT
    have hs := C.side_eq H l p hp hT
    by_cases hl : l = decide (n ≤ hop d e l p)
    · rw [fol_end hl] at h
      cases h
      refine ⟨_, rfl, hq, ?_, ?_⟩
      · rw [← hl]; exact hTq
      · rw [← hl]; exact hs.symm
    · have hu : ¬ ((hop d e l p % n : Nat) : Int) = -1 := by omega
      rw [fol_step hl hu] at h
      cases hf : fol d e n (-1) k (!l) (if l then n + hop d e l p % n else hop d e l p % n) with
      | none => rw [hf] at h; cases h
      | some r' =>
        rw [hf] at h
        cases h
        cases l with
        | true =>
          have hqn : hop d e true p < n := by simp at hl; omega
          rw [if_pos rfl, Nat.mod_eq_of_lt hqn] at hf
          have hT2 : T false (n + hop d e true p) = false := by rw [← C.g _ hqn]; exact hTq
          obtain ⟨q, h1, h2, h3, h4⟩ := fol_side H C k false _ r' (by omega) hT2 hf
          exact ⟨q, h1, h2, h3, by rw [h4, C.mid H _ hqn hTq, hs]⟩
        | false =>
          have hqn : n ≤ hop d e false p := by simp at hl; omega
          have hm : hop d e false p % n = hop d e false p - n := by rw [Nat.mod_eq_sub_mod hqn, Nat.mod_eq_of_lt (by omega)]
          rw [if_neg (by simp), hm] at hf
          have e1 : n + (hop d e false p - n) = hop d e false p := by omega
          have hT2 : T true (hop d e false p - n) = false := by rw [C.g _ (by omega), e1]; exact hTq
          obtain ⟨q, h1, h2, h3, h4⟩ := fol_side H C k true _ r' (by omega) hT2 hf
          refine ⟨q, h1, h2, h3, ?_⟩
          rw [h4, ← C.mid H _ (by omega) hT2, e1, hs]

/-- The points on a line. -/
def on (d e : Dg) (n : Nat) : Nat → Bool → Nat → Bool → Nat → Bool
  | 0, _, _, _, _ => false
  | k + 1, l, p, L, Q => (decide (L = l) && (decide (Q = p) || decide (Q = hop d e l p))) ||
    (if l = decide (n ≤ hop d e l p) then false else on d e n k (!l) (if l then n + hop d e l p % n else hop d e l p % n) L Q)

theorem on_succ (k : Nat) (l : Bool) (p : Nat) (L : Bool) (Q : Nat) : on d e n (k + 1) l p L Q = true ↔
    (L = l ∧ (Q = p ∨ Q = hop d e l p)) ∨ (¬ l = decide (n ≤ hop d e l p) ∧ on d e n k (!l) (if l then n + hop d e l p % n else hop d e l p % n) L Q = true) := by
  show (_ || (if _ then _ else _)) = true ↔ _
  by_cases hl : l = decide (n ≤ hop d e l p)
  · rw [if_pos hl, Bool.or_false, Bool.and_eq_true, Bool.or_eq_true, decide_eq_true_eq, decide_eq_true_eq, decide_eq_true_eq]
    exact ⟨.inl, fun h => h.elim id fun h => absurd hl h.1⟩
  · rw [if_neg hl, Bool.or_eq_true, Bool.and_eq_true, Bool.or_eq_true, decide_eq_true_eq, decide_eq_true_eq, decide_eq_true_eq]
    exact ⟨fun h => h.imp id fun h => ⟨hl, h⟩, fun h => h.imp id And.right⟩

/-- The state behind a step, in numbers. -/
theorem step_nat (l : Bool) (q : Nat) (hq : q < 2 * n) (hl : ¬ l = decide (n ≤ q)) :
    (l = true ∧ q < n ∧ (if l then n + q % n else q % n) = n + q ∧ q % n = q) ∨ (l = false ∧ n ≤ q ∧ (if l then n + q % n else q % n) = q - n ∧ q % n = q - n) := by
  cases l with
  | true =>
    have hqn : q < n := by simp at hl; omega
    exact .inl ⟨rfl, hqn, by simp [Nat.mod_eq_of_lt hqn], Nat.mod_eq_of_lt hqn⟩
  | false =>
    have hqn : n ≤ q := by simp at hl; omega
    have hm : q % n = q - n := by rw [Nat.mod_eq_sub_mod hqn, Nat.mod_eq_of_lt (by omega)]
    exact .inr ⟨rfl, hqn, by simp [hm], hm⟩

theorem on_line (H : Two n (hop d e)) : ∀ (k : Nat) (l : Bool) (p : Nat) (r : Int × List Nat), p < 2 * n → fol d e n (-1) k l p = some r →
    on d e n k l p l p = true ∧
    (∀ L Q, on d e n k l p L Q = true → Q < 2 * n ∧ on d e n k l p L (hop d e L Q) = true) ∧
    (∀ j, j < n → on d e n k l p true j = true → (true, j) ≠ (l, p) → on d e n k l p false (n + j) = true) ∧
    (∀ j, j < n → on d e n k l p false (n + j) = true → (false, n + j) ≠ (l, p) → on d e n k l p true j = true) ∧
    (∀ Q, on d e n k l p (decide (n ≤ Q)) Q = true → (decide (n ≤ Q), Q) = (l, p) ∨ r.1 = Q) ∧
    (∀ m, m ∈ r.2 ↔ (m < n ∧ on d e n k l p true m = true ∧ (true, m) ≠ (l, p)) ∨ (m < n ∧ on d e n k l p false (n + m) = true ∧ (false, n + m) ≠ (l, p)))
  | 0, _, _, _, _, h => by cases h
  | k + 1, l, p, r, hp, h => by
    have hq := H.lt l p hp
    have hi := H.inv l p hp
    by_cases hl : l = decide (n ≤ hop d e l p)
    · rw [fol_end hl] at h
      cases h
      simp only [on_succ]
      have hno : ∀ L Q, (¬ l = decide (n ≤ hop d e l p) ∧ on d e n k (!l) (if l then n + hop d e l p % n else hop d e l p % n) L Q = true) ↔ False := fun L Q => ⟨fun h => h.1 hl, False.elim⟩
      simp only [hno, or_false]
      refine ⟨by simp, ?_, ?_, ?_, ?_, ?_⟩
      · rintro L Q ⟨rfl, rfl | rfl⟩
        · exact ⟨hp, rfl, .inr rfl⟩
        · exact ⟨hq, rfl, .inl hi⟩
      · rintro j hj ⟨rfl, rfl | rfl⟩ hne
        · exact absurd rfl hne
        · simp at hl; omega
      · rintro j hj ⟨rfl, h1 | h1⟩ hne
        · exact absurd (by rw [h1]) hne
        · simp at hl; omega
      · rintro Q ⟨h1, h2 | h2⟩
        · exact .inl (by rw [h1, h2])
        · exact .inr (by rw [h2])
      · intro m
        simp only [List.not_mem_nil, false_iff]
        rintro (⟨hm, ⟨rfl, rfl | rfl⟩, hne⟩ | ⟨hm, ⟨rfl, h1 | h1⟩, hne⟩)
        · exact absurd rfl hne
        · simp at hl; omega
        · exact absurd (by rw [h1]) hne
        · simp at hl; omega
    · have hu : ¬ ((hop d e l p % n : Nat) : Int) = -1 := by omega
      rw [fol_step hl hu] at h
      cases hf : fol d e n (-1) k (!l) (if l then n + hop d e l p % n else hop d e l p % n) with
      | none => rw [hf] at h; cases h
      | some r' =>
        rw [hf] at h
        cases h
        have hon := @on_succ d e n k l p
        have hsn := step_nat l _ hq hl
        generalize hgp : (if l then n + hop d e l p % n else hop d e l p % n) = p' at *
        have hp' : p' < 2 * n := by rcases hsn with ⟨-, h1, h2, -⟩ | ⟨-, h1, h2, -⟩ <;> omega
        obtain ⟨i1, i2, i3, i4, i5, i6⟩ := on_line H k (!l) p' r' hp' hf
        have hon' : ∀ L Q, on d e n (k + 1) l p L Q = true ↔ (L = l ∧ (Q = p ∨ Q = hop d e l p)) ∨ on d e n k (!l) p' L Q = true := fun L Q => by
          rw [hon]; exact ⟨fun h => h.imp id And.right, fun h => h.imp id fun h => ⟨hl, h⟩⟩
        simp only [hon']
        refine ⟨by simp, ?_, ?_, ?_, ?_, ?_⟩
        · rintro L Q (⟨rfl, rfl | rfl⟩ | h1)
          · exact ⟨hp, .inl ⟨rfl, .inr rfl⟩⟩
          · exact ⟨hq, .inl ⟨rfl, .inl hi⟩⟩
          · exact ⟨(i2 L Q h1).1, .inr (i2 L Q h1).2⟩
        · rintro j hj (⟨rfl, rfl | h1⟩ | h1) hne
          · exact absurd rfl hne
          · rcases hsn with ⟨-, h2, h3, -⟩ | ⟨h2, -⟩
            · refine .inr ?_
              rw [h1, ← h3]; exact i1
            · cases h2
          · by_cases he : (true, j) = (!l, p')
            · simp only [Prod.mk.injEq] at he
              rcases hsn with ⟨h2, -⟩ | ⟨h2, h3, h4, -⟩
              · rw [h2] at he; simp at he
              · exact .inl ⟨h2.symm, .inr (by omega)⟩
            · exact .inr (i3 j hj h1 he)
        · rintro j hj (⟨rfl, h1 | h1⟩ | h1) hne
          · exact absurd (by rw [h1]) hne
          · rcases hsn with ⟨h2, -⟩ | ⟨-, h2, h3, -⟩
            · cases h2
            · refine .inr ?_
              have : j = p' := by omega
              rw [this]; exact i1
          · by_cases he : (false, n + j) = (!l, p')
            · simp only [Prod.mk.injEq] at he
              rcases hsn with ⟨h2, h3, h4, -⟩ | ⟨h2, -⟩
              · exact .inl ⟨h2.symm, .inr (by omega)⟩
              · rw [h2] at he; simp at he
            · exact .inr (i4 j hj h1 he)
        · rintro Q (⟨h1, rfl | h2⟩ | h1)
          · exact .inl (by rw [h1])
          · rw [h2] at h1; exact absurd h1.symm hl
          · rcases i5 Q h1 with h2 | h2
            · simp only [Prod.mk.injEq] at h2
              rcases hsn with ⟨h3, h4, h5, -⟩ | ⟨h3, h4, h5, -⟩
              · rw [h3] at h2; simp at h2; omega
              · rw [h3] at h2; simp at h2; omega
            · exact .inr h2
        · intro m
          simp only [List.mem_cons, i6]
          rcases hsn with ⟨rfl, h3, h4, h5⟩ | ⟨rfl, h3, h4, h5⟩
          · rw [h5]
            constructor
            · rintro (rfl | ⟨hm, h1, h2⟩ | ⟨hm, h1, h2⟩)
              · refine .inr ⟨h3, .inr (by rw [← h4]; exact i1), by simp⟩
              · by_cases he : (true, m) = (true, p)
                · simp only [Prod.mk.injEq, true_and] at he
                  subst he
                  refine .inr ⟨hm, .inr (i3 m hm h1 (by simp)), by simp⟩
                · exact .inl ⟨hm, .inr h1, he⟩
              · exact .inr ⟨hm, .inr h1, by simp⟩
            · rintro (⟨hm, ⟨-, h1 | h1⟩ | h1, h2⟩ | ⟨hm, ⟨h1, -⟩ | h1, h2⟩)
              · rw [h1] at h2; exact absurd rfl h2
              · exact .inl h1
              · exact .inr (.inl ⟨hm, h1, by simp⟩)
              · cases h1
              · by_cases he : m = hop d e true p
                · exact .inl he
                · exact .inr (.inr ⟨hm, h1, by simp; omega⟩)
          · rw [h5]
            constructor
            · rintro (rfl | ⟨hm, h1, h2⟩ | ⟨hm, h1, h2⟩)
              · refine .inl ⟨by omega, .inr (by rw [← h4]; exact i1), by simp⟩
              · exact .inl ⟨hm, .inr h1, by simp⟩
              · by_cases he : (false, n + m) = (false, p)
                · simp only [Prod.mk.injEq, true_and] at he
                  refine .inl ⟨hm, .inr (i4 m hm h1 (by simp)), by simp⟩
                · exact .inr ⟨hm, .inr h1, he⟩
            · rintro (⟨hm, ⟨h1, -⟩ | h1, h2⟩ | ⟨hm, ⟨-, h1 | h1⟩ | h1, h2⟩)
              · cases h1
              · by_cases he : m = hop d e false p - n
                · exact .inl he
                · exact .inr (.inl ⟨hm, h1, by simp; omega⟩)
              · rw [h1] at h2; exact absurd rfl h2
              · exact .inl (by omega)
              · exact .inr (.inr ⟨hm, h1, by simp⟩)
end
end Go.Proofs.Yticmlgnolbccjaa

/- Plain: each line of two diagrams ends, and their product is a diagram. -/
set_option linter.unusedVariables false
set_option linter.unusedSimpArgs false
namespace Go.Proofs.Yticmlgnolbccjaa
open Go.RowKit

/-- A diagram in memory that is one. -/
structure Good (d : Dg) : Prop where
  wf : d.Wf
  ok : d.Ok

theorem Good.pts {d : Dg} (h : Good d) : d.Pts := pts_of_okAt h.ok.1.1 h.ok.1.2 h.wf h.ok.2.1

theorem Good.at {d : Dg} (h : Good d) {n : Nat} (hs : d.size = n) (i : Nat) (hi : i < 2 * n) :
    0 ≤ d.m i ∧ d.m i < 2 * n ∧ d.m i ≠ i ∧ d.m (d.m i).toNat = i := by
  have h8 := h.ok.1.2
  have := h.ok.2.1 i (by omega)
  unfold Dg.OkAt at this
  rw [if_neg (by omega), hs] at this
  exact ⟨(h.wf.byte i).1, this.1, this.2⟩

theorem place_nat {n k : Nat} (h : k < 2 * n) : place (n : Int) (k : Int) = (pl n k : Nat) := by
  unfold place pl
  by_cases h1 : k < n
  · rw [if_pos (by omega), if_pos h1]
  · rw [if_neg (by omega), if_neg h1]; omega

theorem two_of_good {d e : Dg} {n : Nat} (hd : Good d) (he : Good e) (hds : d.size = n) (hes : e.size = n) : Two n (hop d e) := by
  have key : ∀ (c : Dg), Good c → c.size = n → (∀ q, q < 2 * n → (c.m q).toNat < 2 * n) ∧ (∀ q, q < 2 * n → (c.m (c.m q).toNat).toNat = q) ∧ (∀ q, q < 2 * n → (c.m q).toNat ≠ q) ∧
      ∀ k k', k < 2 * n → k' < 2 * n → ¬ (k < k' ∧ k' < pl n (c.m (pl n k)).toNat ∧ pl n (c.m (pl n k)).toNat < pl n (c.m (pl n k')).toNat) := by
    intro c hc hcs
    refine ⟨fun q hq => ?_, fun q hq => ?_, fun q hq => ?_, fun k k' hk hk' hx => ?_⟩
    · have := hc.at hcs q hq; omega
    · have := hc.at hcs q hq; omega
    · have := hc.at hcs q hq; omega
    · have hpk := pl_lt hk
      have hpk' := pl_lt hk'
      refine hc.ok.2.2 (pl n k) (by rw [hcs]; omega) (pl n k') (by rw [hcs]; omega) ?_
      have h1 := hc.at hcs _ hpk
      have h2 := hc.at hcs _ hpk'
      have e1 : c.m (pl n k) = ((c.m (pl n k)).toNat : Nat) := by omega
      have e2 : c.m (pl n k') = ((c.m (pl n k')).toNat : Nat) := by omega
      unfold Dg.Cross Dg.low Dg.high
      rw [hcs, Int.toNat_natCast, Int.toNat_natCast, e1, e2, place_nat hpk, place_nat hpk', place_nat (by omega), place_nat (by omega), pl_pl hk, pl_pl hk']
      omega
  have k1 := key d hd hds
  have k2 := key e he hes
  refine ⟨fun l q hq => ?_, fun l q hq => ?_, fun l q hq => ?_, fun l k k' hk hk' => ?_⟩
  · cases l
    · exact k1.1 q hq
    · exact k2.1 q hq
  · cases l
    · exact k1.2.1 q hq
    · exact k2.2.1 q hq
  · cases l
    · exact k1.2.2.1 q hq
    · exact k2.2.2.1 q hq
  · cases l
    · exact k1.2.2.2 k k' hk hk'
    · exact k2.2.2.2 k k' hk hk'

theorem pigeon : ∀ (N : Nat) (f : Nat → Nat), (∀ k, k ≤ N → f k < N) → ∃ i j, i < j ∧ j ≤ N ∧ f i = f j
  | 0, f, h => absurd (h 0 (Nat.le_refl _)) (by omega)
  | N + 1, f, h => by
    by_cases hx : ∃ k, k ≤ N ∧ f k = f (N + 1)
    · obtain ⟨k, hk, he⟩ := hx
      exact ⟨k, N + 1, by omega, Nat.le_refl _, he⟩
    · have hx' : ∀ k, k ≤ N → f k ≠ f (N + 1) := fun k hk he => hx ⟨k, hk, he⟩
      obtain ⟨i, j, hij, hj, he⟩ := pigeon N (fun k => if f k = N then f (N + 1) else f k) (fun k hk => by
        have h1 := h k (by omega)
        have h2 := h (N + 1) (Nat.le_refl _)
        have h3 := hx' k hk
        show (if f k = N then _ else _) < N
        split <;> omega)
      refine ⟨i, j, hij, by omega, ?_⟩
      have h1 := hx' i (by omega)
      have h2 := hx' j hj
      have he' : (if f i = N then f (N + 1) else f i) = (if f j = N then f (N + 1) else f j) := he
      split at he' <;> split at he' <;> omega

section
variable {d e : Dg} {n : Nat}

/-- The states along a line. -/
def itr (d e : Dg) (n : Nat) : Nat → Bool → Nat → Bool × Nat
  | 0, l, p => (l, p)
  | k + 1, l, p => itr d e n k (!l) (if l then n + hop d e l p % n else hop d e l p % n)

theorem itr_succ' : ∀ (k : Nat) (l : Bool) (p : Nat), itr d e n (k + 1) l p = (!(itr d e n k l p).1, if (itr d e n k l p).1 then n + hop d e (itr d e n k l p).1 (itr d e n k l p).2 % n else hop d e (itr d e n k l p).1 (itr d e n k l p).2 % n)
  | 0, l, p => rfl
  | k + 1, l, p => by
    show itr d e n (k + 1) _ _ = _
    rw [itr_succ' k]; rfl

/-- The line has not ended behind this state, and has not come to the middle point u. -/
def Goes (d e : Dg) (n : Nat) (u : Int) (s : Bool × Nat) : Prop := ¬ s.1 = decide (n ≤ hop d e s.1 s.2) ∧ ¬ ((hop d e s.1 s.2 % n : Nat) : Int) = u

theorem fol_none (u : Int) : ∀ (k : Nat) (l : Bool) (p : Nat), fol d e n u k l p = none → ∀ i, i < k → Goes d e n u (itr d e n i l p)
  | 0, _, _, _, i, hi => absurd hi (by omega)
  | k + 1, l, p, h, i, hi => by
    by_cases hl : l = decide (n ≤ hop d e l p)
    · rw [fol_end hl] at h; cases h
    · by_cases hu : ((hop d e l p % n : Nat) : Int) = u
      · rw [fol_until hl hu] at h; cases h
      · rw [fol_step hl hu] at h
        cases i with
        | zero => exact ⟨hl, hu⟩
        | succ i =>
          refine fol_none u k _ _ ?_ i (by omega)
          revert h
          cases fol d e n u k (!l) (if l then n + hop d e l p % n else hop d e l p % n) with
          | none => exact fun _ => rfl
          | some r => intro h; cases h

/-- A middle state, told by its point. -/
def Mid (n : Nat) (s : Bool × Nat) : Prop := s.1 = decide (s.2 < n) ∧ s.2 < 2 * n

theorem step_mid (H : Two n (hop d e)) (u : Int) (l : Bool) (p : Nat) (hp : p < 2 * n) (h : Goes d e n u (l, p)) : Mid n (!l, if l then n + hop d e l p % n else hop d e l p % n) := by
  have hq := H.lt l p hp
  rcases step_nat l _ hq h.1 with ⟨h1, h2, h3, -⟩ | ⟨h1, h2, h3, -⟩
  · rw [h3]; subst h1; exact ⟨by simp, by show n + _ < _; omega⟩
  · rw [h3]; subst h1; exact ⟨by simp; omega, by show _ - n < _; omega⟩

/-- The step before is told by the state behind it. -/
theorem step_inj (H : Two n (hop d e)) (u u' : Int) (l l' : Bool) (p p' : Nat) (hp : p < 2 * n) (hp' : p' < 2 * n) (h : Goes d e n u (l, p)) (h' : Goes d e n u' (l', p'))
    (he : (!l, if l then n + hop d e l p % n else hop d e l p % n) = (!l', if l' then n + hop d e l' p' % n else hop d e l' p' % n)) : (l, p) = (l', p') := by
  have hq := H.lt l p hp
  have hq' := H.lt l' p' hp'
  simp only [Prod.mk.injEq] at he
  obtain ⟨e1, e2⟩ := he
  have hll : l = l' := by cases l <;> cases l' <;> simp_all
  subst hll
  have hqq : hop d e l p = hop d e l p' := by
    rcases step_nat l _ hq h.1 with ⟨h1, h2, h3, -⟩ | ⟨h1, h2, h3, -⟩
    · rcases step_nat l _ hq' h'.1 with ⟨k1, k2, k3, -⟩ | ⟨k1, k2, k3, -⟩
      · omega
      · rw [h1] at k1; cases k1
    · rcases step_nat l _ hq' h'.1 with ⟨k1, k2, k3, -⟩ | ⟨k1, k2, k3, -⟩
      · rw [h1] at k1; cases k1
      · omega
  rw [← H.inv l p hp, hqq, H.inv l p' hp']

/-- Along a line that goes on: the states are points. -/
theorem itr_lt (H : Two n (hop d e)) (u : Int) (l : Bool) (p : Nat) (hp : p < 2 * n) : ∀ k, (∀ i, i < k → Goes d e n u (itr d e n i l p)) → (itr d e n k l p).2 < 2 * n ∧ (0 < k → Mid n (itr d e n k l p))
  | 0, _ => ⟨hp, fun h => absurd h (by omega)⟩
  | k + 1, h => by
    have h1 := itr_lt H u l p hp k (fun i hi => h i (by omega))
    have h2 := step_mid H u _ _ h1.1 (h k (by omega))
    rw [itr_succ']
    exact ⟨h2.2, fun _ => h2⟩

theorem itr_back (H : Two n (hop d e)) (u : Int) (l : Bool) (p : Nat) (hp : p < 2 * n) (K : Nat) (h : ∀ i, i < K → Goes d e n u (itr d e n i l p)) :
    ∀ i j, i < j → j ≤ K → itr d e n i l p = itr d e n j l p → itr d e n 0 l p = itr d e n (j - i) l p
  | 0, j, _, _, he => he
  | i + 1, j, hij, hj, he => by
    obtain ⟨j, rfl⟩ : ∃ j', j = j' + 1 := ⟨j - 1, by omega⟩
    rw [itr_succ', itr_succ'] at he
    have hb := step_inj H u u _ _ _ _ (itr_lt H u l p hp i (fun x hx => h x (by omega))).1 (itr_lt H u l p hp j (fun x hx => h x (by omega))).1 (h i (by omega)) (h j (by omega)) he
    have := itr_back H u l p hp K h i j (by omega) (by omega) hb
    rwa [show j + 1 - (i + 1) = j - i from by omega]

theorem mid_eq {s t : Bool × Nat} (hs : Mid n s) (ht : Mid n t) (h : s.2 = t.2) : s = t := by
  cases s; cases t
  simp only at h
  subst h
  have := hs.1.trans ht.1.symm
  simp only at this
  subst this; rfl

/-- A line that goes on for long comes back to its start. -/
theorem itr_returns (H : Two n (hop d e)) (u : Int) (l : Bool) (p : Nat) (hp : p < 2 * n) (K : Nat) (hK : 2 * n + 1 ≤ K) (h : ∀ i, i < K → Goes d e n u (itr d e n i l p)) :
    ∃ t, 0 < t ∧ t ≤ 2 * n ∧ itr d e n t l p = (l, p) := by
  obtain ⟨i, j, hij, hj, he⟩ := pigeon (2 * n) (fun k => (itr d e n (k + 1) l p).2) (fun k hk => (itr_lt H u l p hp (k + 1) (fun x hx => h x (by omega))).1)
  have hm := mid_eq ((itr_lt H u l p hp (i + 1) (fun x hx => h x (by omega))).2 (by omega)) ((itr_lt H u l p hp (j + 1) (fun x hx => h x (by omega))).2 (by omega)) he
  have := itr_back H u l p hp K h (i + 1) (j + 1) (by omega) (by omega) hm
  exact ⟨j - i, by omega, by omega, by rw [show j - i = j + 1 - (i + 1) from by omega, ← this]; rfl⟩

/-- A line from an outer point ends. -/
theorem fol_outer (H : Two n (hop d e)) (hn8 : n ≤ 8) (l : Bool) (p : Nat) (hp : p < 2 * n) (hl : l = decide (n ≤ p)) : ∃ r, fol d e n (-1) fuel l p = some r := by
  cases hf : fol d e n (-1) fuel l p with
  | some r => exact ⟨r, rfl⟩
  | none =>
    have hg := fol_none (-1) fuel l p hf
    obtain ⟨t, ht0, ht1, ht⟩ := itr_returns H (-1) l p hp fuel (by unfold fuel; omega) hg
    have hm := (itr_lt H (-1) l p hp t (fun i hi => hg i (by unfold fuel; omega))).2 ht0
    rw [ht] at hm
    have := hm.1
    simp only at this
    rw [hl] at this
    by_cases h : n ≤ p
    · rw [decide_eq_true h, decide_eq_false (by omega)] at this; cases this
    · rw [decide_eq_false h, decide_eq_true (by omega)] at this; cases this

/-- A line from a middle point ends, or comes back. -/
theorem fol_mid (H : Two n (hop d e)) (hn8 : n ≤ 8) (m : Nat) (hm : m < n) : ∃ r, fol d e n m fuel true m = some r := by
  cases hf : fol d e n m fuel true m with
  | some r => exact ⟨r, rfl⟩
  | none =>
    have hg := fol_none m fuel true m hf
    obtain ⟨t, ht0, ht1, ht⟩ := itr_returns H m true m (by omega) fuel (by unfold fuel; omega) hg
    obtain ⟨t, rfl⟩ : ∃ t', t = t' + 1 := ⟨t - 1, by omega⟩
    have h1 := hg t (by unfold fuel; omega)
    have h2 := (itr_lt H m true m (by omega) t (fun i hi => hg i (by unfold fuel; omega))).1
    rw [itr_succ'] at ht
    generalize itr d e n t true m = s at *
    obtain ⟨l, p⟩ := s
    simp only [Prod.mk.injEq] at ht
    obtain ⟨e1, e2⟩ := ht
    have hl : l = false := by cases l <;> simp_all
    subst hl
    exact absurd (by rw [if_neg (by simp)] at e2; show ((hop d e false p % n : Nat) : Int) = (m : Int); omega) h1.2

theorem clo_none : Clo n (hop d e) (fun _ _ => false) := ⟨fun _ _ _ h => (by cases h), fun _ _ => rfl⟩

theorem runs (H : Two n (hop d e)) (hn8 : n ≤ 8) : Runs d e n := by
  refine ⟨fun i hi => ?_, fun i hi => ?_, fun m hm _ => fol_mid H hn8 m hm⟩
  · obtain ⟨r, hr⟩ := fol_outer H hn8 false i (by omega) (by rw [decide_eq_false (by omega)])
    obtain ⟨q, h1, h2, -⟩ := fol_side H clo_none fuel false i r (by omega) rfl hr
    exact ⟨r, hr, by omega, by omega⟩
  · obtain ⟨r, hr⟩ := fol_outer H hn8 true (n + i) (by omega) (by rw [decide_eq_true (by omega)])
    obtain ⟨q, h1, h2, -⟩ := fol_side H clo_none fuel true (n + i) r (by omega) rfl hr
    exact ⟨r, hr, by omega, by omega⟩

/-- The other end of the line of an outer point. -/
def far (d e : Dg) (n p : Nat) : Nat := (res d e n (decide (n ≤ p)) p).toNat
/-- The points on the line of an outer point. -/
def line (d e : Dg) (n p : Nat) : Bool → Nat → Bool := on d e n fuel (decide (n ≤ p)) p

theorem far_spec (H : Two n (hop d e)) (hn8 : n ≤ 8) (p : Nat) (hp : p < 2 * n) : ∃ r, fol d e n (-1) fuel (decide (n ≤ p)) p = some r ∧ r.1 = (far d e n p : Nat) ∧ far d e n p < 2 * n ∧ res d e n (decide (n ≤ p)) p = (far d e n p : Nat) := by
  obtain ⟨r, hr⟩ := fol_outer H hn8 (decide (n ≤ p)) p hp rfl
  obtain ⟨q, h1, h2, -⟩ := fol_side H clo_none fuel _ p r hp rfl hr
  have hres : res d e n (decide (n ≤ p)) p = r.1 := by unfold res; rw [hr]; rfl
  have hf : far d e n p = q := by unfold far; rw [hres, h1]; simp
  exact ⟨r, hr, by rw [hf, h1], by rw [hf]; exact h2, by rw [hres, h1, hf]⟩

/-- The line is closed, and its outer points are its two ends. -/
theorem line_spec (H : Two n (hop d e)) (hn8 : n ≤ 8) (p : Nat) (hp : p < 2 * n) : Clo n (hop d e) (line d e n p) ∧ line d e n p (decide (n ≤ p)) p = true ∧
    ∀ q, q < 2 * n → line d e n p (decide (n ≤ q)) q = true → q = p ∨ q = far d e n p := by
  obtain ⟨r, hr, h1, h2, -⟩ := far_spec H hn8 p hp
  obtain ⟨i1, i2, i3, i4, i5, -⟩ := on_line H fuel _ p r hp hr
  refine ⟨⟨fun l q hq h => (i2 l q h).2, fun j hj => ?_⟩, i1, fun q hq h => ?_⟩
  · rw [Bool.eq_iff_iff]
    refine ⟨fun h => i3 j hj h ?_, fun h => i4 j hj h ?_⟩
    · intro he
      simp only [Prod.mk.injEq] at he
      have := he.1
      rw [← he.2, decide_eq_false (by omega)] at this; cases this
    · intro he
      simp only [Prod.mk.injEq] at he
      have := he.1
      rw [← he.2, decide_eq_true (by omega)] at this; cases this
  · rcases i5 q h with h3 | h3
    · simp only [Prod.mk.injEq] at h3; exact .inl h3.2
    · exact .inr (by rw [h1] at h3; omega)

theorem cntT_single (t : Nat → Bool) (a : Nat) : ∀ k, (∀ x, x < k → t x = decide (x = a)) → cntT t k = if a < k then 1 else 0
  | 0, _ => rfl
  | k + 1, h => by
    show _ + _ = _
    rw [cntT_single t a k (fun x hx => h x (by omega)), h k (by omega)]
    simp only [decide_eq_true_eq]
    split <;> split <;> split <;> omega
theorem cntT_pair (t : Nat → Bool) (a b : Nat) (hab : a ≠ b) : ∀ k, (∀ x, x < k → t x = decide (x = a ∨ x = b)) → cntT t k = (if a < k then 1 else 0) + (if b < k then 1 else 0)
  | 0, _ => rfl
  | k + 1, h => by
    show _ + _ = _
    rw [cntT_pair t a b hab k (fun x hx => h x (by omega)), h k (by omega)]
    simp only [decide_eq_true_eq]
    split <;> split <;> split <;> split <;> split <;> omega

theorem pl_inj {a b : Nat} (ha : a < 2 * n) (hb : b < 2 * n) (h : pl n a = pl n b) : a = b := by rw [← pl_pl ha, h, pl_pl hb]

/-- The end is another point. -/
theorem far_ne (H : Two n (hop d e)) (hn8 : n ≤ 8) (p : Nat) (hp : p < 2 * n) : far d e n p ≠ p := by
  intro he
  obtain ⟨C, h1, h2⟩ := line_spec H hn8 p hp
  have ho := C.outer_all H
  rw [cntT_single _ (pl n p) (2 * n) (fun x hx => ?_), if_pos (pl_lt hp)] at ho
  · omega
  · by_cases hx1 : x = pl n p
    · rw [decide_eq_true hx1, hx1]
      show line d e n p (decide (n ≤ pl n (pl n p))) (pl n (pl n p)) = true
      rw [pl_pl hp]; exact h1
    · rw [decide_eq_false hx1]
      by_cases hx2 : outer n (line d e n p) x = true
      · exfalso
        have := h2 (pl n x) (pl_lt hx) hx2
        rw [he] at this
        exact hx1 (by rw [← pl_pl hx]; congr 1; omega)
      · simpa using hx2

/-- The line of the end ends at the start. -/
theorem fol_in (H : Two n (hop d e)) {T : Bool → Nat → Bool} (C : Clo n (hop d e) T) : ∀ (k : Nat) (l : Bool) (p : Nat) (r : Int × List Nat), p < 2 * n → fol d e n (-1) k l p = some r →
    ∃ q : Nat, r.1 = q ∧ q < 2 * n ∧ T (decide (n ≤ q)) q = T l p
  | 0, _, _, _, _, h => by cases h
  | k + 1, l, p, r, hp, h => by
    have hq := H.lt l p hp
    have hTq : T l (hop d e l p) = T l p := C.iff H l p hp
    by_cases hl : l = decide (n ≤ hop d e l p)
    · rw [fol_end hl] at h
      cases h
      exact ⟨_, rfl, hq, by rw [← hl]; exact hTq⟩
    · have hu : ¬ ((hop d e l p % n : Nat) : Int) = -1 := by omega
      rw [fol_step hl hu] at h
      cases hf : fol d e n (-1) k (!l) (if l then n + hop d e l p % n else hop d e l p % n) with
      | none => rw [hf] at h; cases h
      | some r' =>
        rw [hf] at h
        cases h
        rcases step_nat l _ hq hl with ⟨h1, h2, h3, -⟩ | ⟨h1, h2, h3, -⟩
        · rw [h3] at hf
          obtain ⟨q, g1, g2, g3⟩ := fol_in H C k _ _ r' (by omega) hf
          refine ⟨q, g1, g2, ?_⟩
          rw [g3, ← hTq, h1]; exact (C.g _ (by rw [← h1]; exact h2)).symm
        · rw [h3] at hf
          obtain ⟨q, g1, g2, g3⟩ := fol_in H C k _ _ r' (by omega) hf
          refine ⟨q, g1, g2, ?_⟩
          rw [g3, ← hTq, h1]
          have := C.g (hop d e l p - n) (by omega)
          rw [show n + (hop d e l p - n) = hop d e l p from by omega, h1] at this
          exact this

theorem far_far (H : Two n (hop d e)) (hn8 : n ≤ 8) (p : Nat) (hp : p < 2 * n) : far d e n (far d e n p) = p := by
  obtain ⟨C, h1, h2⟩ := line_spec H hn8 p hp
  obtain ⟨r, hr, hr1, hlt, -⟩ := far_spec H hn8 p hp
  obtain ⟨q, g1, g2, g3⟩ := fol_in H C fuel _ p r hp hr
  have hq : q = far d e n p := by omega
  subst hq
  rw [h1] at g3
  obtain ⟨r', hr', hr1', hlt', -⟩ := far_spec H hn8 _ hlt
  obtain ⟨q', k1, k2, k3⟩ := fol_in H C fuel _ _ r' hlt hr'
  have hq' : q' = far d e n (far d e n p) := by omega
  subst hq'
  rw [g3] at k3
  rcases h2 _ hlt' k3 with h | h
  · exact h
  · exact absurd h (far_ne H hn8 _ hlt)

/-- Lines do not cross. -/
theorem far_nc (H : Two n (hop d e)) (hn8 : n ≤ 8) (a c : Nat) (ha : a < 2 * n) (hc : c < 2 * n) :
    ¬ (pl n a < pl n c ∧ pl n c < pl n (far d e n a) ∧ pl n (far d e n a) < pl n (far d e n c)) := by
  rintro ⟨x1, x2, x3⟩
  obtain ⟨C, h1, h2⟩ := line_spec H hn8 a ha
  obtain ⟨r, hr, hr1, hlt, -⟩ := far_spec H hn8 a ha
  obtain ⟨r', hr', hr1', hlt', -⟩ := far_spec H hn8 c hc
  have hb : line d e n a (decide (n ≤ far d e n a)) (far d e n a) = true := by
    obtain ⟨q, g1, g2, g3⟩ := fol_in H C fuel _ a r ha hr
    have hq : q = far d e n a := by omega
    rw [← hq, g3]; exact h1
  have hcT : line d e n a (decide (n ≤ c)) c = false := by
    cases hx : line d e n a (decide (n ≤ c)) c with
    | false => rfl
    | true => rcases h2 c hc hx with h | h <;> (subst h; omega)
  obtain ⟨q, g1, g2, g3, g4⟩ := fol_side H C fuel _ c r' hc hcT hr'
  have hq : q = far d e n c := by omega
  subst hq
  rw [← C.outer_eq H c hc, ← C.outer_eq H _ g2] at g4
  have hpair : ∀ x, x < 2 * n → outer n (line d e n a) x = decide (x = pl n a ∨ x = pl n (far d e n a)) := by
    intro x hx
    by_cases hx1 : x = pl n a ∨ x = pl n (far d e n a)
    · rw [decide_eq_true hx1]
      rcases hx1 with rfl | rfl
      · show line d e n a (decide (n ≤ pl n (pl n a))) (pl n (pl n a)) = true
        rw [pl_pl ha]; exact h1
      · show line d e n a (decide (n ≤ pl n (pl n _))) (pl n (pl n _)) = true
        rw [pl_pl hlt]; exact hb
    · rw [decide_eq_false hx1]
      cases hx2 : outer n (line d e n a) x with
      | false => rfl
      | true =>
        exfalso
        rcases h2 (pl n x) (pl_lt hx) hx2 with h | h
        · exact hx1 (.inl (by rw [← h, pl_pl hx]))
        · exact hx1 (.inr (by rw [← h, pl_pl hx]))
  have hpc := pl_lt hc
  have hpf := pl_lt hlt'
  rw [cntT_pair _ (pl n a) (pl n (far d e n a)) (by omega) _ (fun x hx => hpair x (by omega)), cntT_pair _ (pl n a) (pl n (far d e n a)) (by omega) _ (fun x hx => hpair x (by omega))] at g4
  rw [if_pos (by omega), if_pos (by omega), if_pos (by omega), if_neg (by omega)] at g4
  omega

/-- The mates of the product. -/
theorem outTo_m (hn8 : n ≤ 8) : ∀ j, j ≤ n → ∀ i, (outTo d e n j).m i = if i < j then res d e n false i else if n ≤ i ∧ i < n + j then res d e n true i else 0
  | 0, _, i => by
    show (Dg.zero n).m i = _
    rw [Dg.m_zero, if_neg (by omega), if_neg (by omega)]
  | j + 1, hj, i => by
    rw [outTo_succ, Dg.m_put _ _ _ _ (by rw [Dg.len_put, len_outTo]) (by omega), Dg.m_put _ _ _ _ (by rw [len_outTo]) (by omega), outTo_m hn8 j (by omega)]
    by_cases h1 : i = n + j
    · rw [if_pos h1, if_neg (by omega), if_pos (by omega), h1]
    · rw [if_neg h1]
      by_cases h2 : i = j
      · rw [if_pos h2, if_pos (by omega), h2]
      · rw [if_neg h2]
        by_cases h3 : i < j
        · rw [if_pos h3, if_pos (by omega)]
        · rw [if_neg h3, if_neg (show ¬ i < j + 1 by omega)]
          by_cases h4 : n ≤ i ∧ i < n + j
          · rw [if_pos h4, if_pos (by omega)]
          · rw [if_neg h4, if_neg (by omega)]

theorem prodD_m (H : Two n (hop d e)) (hn8 : n ≤ 8) (i : Nat) (hi : i < 2 * n) : (prodD d e n).m i = (far d e n i : Nat) := by
  obtain ⟨r, hr, h1, h2, h3⟩ := far_spec H hn8 i hi
  unfold prodD
  rw [outTo_m hn8 n (Nat.le_refl _), ← h3]
  by_cases h : i < n
  · rw [if_pos h, decide_eq_false (by omega)]
  · rw [if_neg h, if_pos (by omega), decide_eq_true (by omega)]
theorem prodD_m_out (hn8 : n ≤ 8) (i : Nat) (hi : 2 * n ≤ i) : (prodD d e n).m i = 0 := by
  unfold prodD
  rw [outTo_m hn8 n (Nat.le_refl _), if_neg (by omega), if_neg (by omega)]
theorem outTo_size (j : Nat) : (outTo d e n j).size = n := by
  induction j with
  | zero => rfl
  | succ j ih => rw [outTo_succ]; exact ih
theorem prodD_size : (prodD d e n).size = n := outTo_size n

theorem prodD_good (H : Two n (hop d e)) (hn1 : 1 ≤ n) (hn8 : n ≤ 8) : Good (prodD d e n) := by
  refine ⟨⟨len_outTo d e n n, fun i => ?_, by rw [prodD_size]; omega, by rw [prodD_size]; omega⟩, ⟨by rw [prodD_size]; omega, fun i hi => ?_, fun i hi k hk => ?_⟩⟩
  · by_cases hi : i < 2 * n
    · obtain ⟨-, -, -, h2, -⟩ := far_spec H hn8 i hi
      rw [prodD_m H hn8 i hi]; omega
    · rw [prodD_m_out hn8 i (by omega)]; omega
  · unfold Dg.OkAt
    rw [prodD_size]
    by_cases hi2 : 2 * (n : Int) ≤ i
    · rw [if_pos hi2, prodD_m_out hn8 i (by omega)]
    · rw [if_neg hi2]
      obtain ⟨-, -, -, h2, -⟩ := far_spec H hn8 i (by omega)
      have h3 := far_ne H hn8 i (by omega)
      have h4 := far_far H hn8 i (by omega)
      rw [prodD_m H hn8 i (by omega), Int.toNat_natCast, prodD_m H hn8 _ h2, h4]
      omega
  · rw [prodD_size] at hi hk
    have hi' : i < 2 * n := by omega
    have hk' : k < 2 * n := by omega
    obtain ⟨-, -, -, h2, -⟩ := far_spec H hn8 i hi'
    obtain ⟨-, -, -, k2, -⟩ := far_spec H hn8 k hk'
    have c1 := far_nc H hn8 i k hi' hk'
    have c2 := far_nc H hn8 i (far d e n k) hi' k2
    have c3 := far_nc H hn8 (far d e n i) k h2 hk'
    have c4 := far_nc H hn8 (far d e n i) (far d e n k) h2 k2
    rw [far_far H hn8 k hk'] at c2 c4
    rw [far_far H hn8 i hi'] at c3 c4
    unfold Dg.Cross Dg.low Dg.high
    rw [prodD_size, Int.toNat_natCast, Int.toNat_natCast, prodD_m H hn8 i hi', prodD_m H hn8 k hk', place_nat hi', place_nat hk', place_nat h2, place_nat k2]
    omega
end
end Go.Proofs.Yticmlgnolbccjaa

/- Plain: a diagram is what its text is read as; diagrams of one text are one. -/
set_option linter.unusedVariables false
set_option linter.unusedSimpArgs false
namespace Go.Proofs.Yticmlgnolbccjaa
open Go.RowKit

/-- A way to join N places in pairs, without crossings. -/
structure Match (N : Nat) (f : Nat → Nat) : Prop where
  lt : ∀ k, k < N → f k < N
  inv : ∀ k, k < N → f (f k) = k
  ne : ∀ k, k < N → f k ≠ k
  nc : ∀ i k, i < N → k < N → ¬ (i < k ∧ k < f i ∧ f i < f k)

theorem getD_set (l : List Nat) (i j v : Nat) (hi : i < l.length) : (l.set i v).getD j 0 = if j = i then v else l.getD j 0 := by
  simp only [List.getD_eq_getElem?_getD, List.getElem?_set]
  by_cases h : i = j
  · subst h; simp [hi]
  · rw [if_neg h, if_neg (fun h' => h h'.symm)]

/-- Reading the signs of a matching. -/
theorem pgo_match {N : Nat} {f : Nat → Nat} (M : Match N f) (cs : List Nat) (hlen : cs.length = N) (hcs : ∀ k (h : k < cs.length), cs[k] = if k < f k then 40 else 41) :
    ∀ (c k : Nat) (out st : List Nat), k + c = N → out.length = N → st.Pairwise (· > ·) → (∀ i, i ∈ st ↔ i < k ∧ k ≤ f i) → (∀ i, i < k → f i < k → out.getD i 0 = f i) →
      ∃ l, pgo (cs.drop k) k out st = some l ∧ l.length = N ∧ ∀ i, i < N → l.getD i 0 = f i
  | 0, k, out, st, hk, ho, hs, hm, hd => by
    obtain rfl : k = N := by omega
    have hst : st = [] := by
      cases st with
      | nil => rfl
      | cons i st =>
        have := (hm i).1 (by simp)
        have := M.lt i this.1
        omega
    subst hst
    rw [List.drop_eq_nil_of_le (by omega), pgo_end]
    exact ⟨out, rfl, ho, fun i hi => hd i hi (M.lt i hi)⟩
  | c + 1, k, out, st, hk, ho, hs, hm, hd => by
    have hkN : k < N := by omega
    have hcs' := hcs k (by omega)
    rw [List.drop_eq_getElem_cons (by omega), hcs']
    have hfl := M.lt k hkN
    have hfi := M.inv k hkN
    have hfn := M.ne k hkN
    by_cases h : k < f k
    · rw [if_pos h, pgo_open rfl]
      refine pgo_match M cs hlen hcs c (k + 1) out (k :: st) (by omega) ho ?_ ?_ ?_
      · exact List.pairwise_cons.2 ⟨fun i hi => ((hm i).1 hi).1, hs⟩
      · intro i
        rw [List.mem_cons, hm]
        constructor
        · rintro (rfl | ⟨h1, h2⟩)
          · omega
          · have : f i ≠ k := fun he => by rw [← he, M.inv i (by omega)] at h; omega
            omega
        · rintro ⟨h1, h2⟩
          by_cases he : i = k
          · exact .inl he
          · exact .inr ⟨by omega, by omega⟩
      · intro i hi hfi'
        have : i ≠ k := by rintro rfl; omega
        have : f i ≠ k := fun he => by rw [← he, M.inv i (by omega)] at h; omega
        exact hd i (by omega) (by omega)
    · have hlt : f k < k := by omega
      have hin : f k ∈ st := (hm _).2 ⟨hlt, by omega⟩
      rw [if_neg h]
      cases st with
      | nil => cases hin
      | cons i st =>
        have hp := List.pairwise_cons.1 hs
        have hi := (hm i).1 (by simp)
        have hie : i = f k := by
          rcases List.mem_cons.1 hin with he | he
          · exact he.symm
          · exfalso
            have h1 := hp.1 _ he
            have h2 : f i ≠ k := fun he => by
              have := M.inv i (by omega)
              rw [he] at this; omega
            refine M.nc (f k) i (by omega) (by omega) ?_
            rw [hfi]; omega
        subst hie
        rw [pgo_close rfl]
        refine pgo_match M cs hlen hcs c (k + 1) _ st (by omega) (by simp [ho]) hp.2 ?_ ?_
        · intro i
          constructor
          · intro hin'
            have h1 := (hm i).1 (by simp [hin'])
            have h2 := hp.1 i hin'
            have h3 : f i ≠ k := fun he => by
              have := M.inv i (by omega)
              rw [he] at this; omega
            omega
          · rintro ⟨h1, h2⟩
            have hne : i ≠ k := by rintro rfl; omega
            have h3 := (hm i).2 ⟨by omega, by omega⟩
            rcases List.mem_cons.1 h3 with he | he
            · rw [he, hfi] at h2; omega
            · exact he
        · intro i hi1 hi2
          rw [getD_set _ _ _ _ (by simp [ho]; omega), getD_set _ _ _ _ (by omega)]
          by_cases h1 : i = k
          · rw [if_pos h1, h1]
          · rw [if_neg h1]
            by_cases h2 : i = f k
            · rw [if_pos h2, h2, hfi]
            · rw [if_neg h2]
              refine hd i (by omega) ?_
              have : f i ≠ k := fun he => by
                have := M.inv i (by omega)
                rw [he] at this; omega
              omega

theorem parts_match {N : Nat} {f : Nat → Nat} (M : Match N f) (cs : List Nat) (hlen : cs.length = N) (hcs : ∀ k (h : k < cs.length), cs[k] = if k < f k then 40 else 41) :
    ∃ l, parts cs = some l ∧ l.length = N ∧ ∀ i, i < N → l.getD i 0 = f i := by
  have := pgo_match M cs hlen hcs N 0 (List.replicate cs.length 0) [] (by omega) (by simp [hlen]) List.Pairwise.nil (by simp) (fun i hi => absurd hi (by omega))
  rwa [List.drop_zero] at this

/-- The state of a reader: the open places descend, the others are joined in pairs, and no line goes over an open place. -/
structure Part (N k : Nat) (out st : List Nat) : Prop where
  len : out.length = N
  kN : k ≤ N
  desc : st.Pairwise (· > ·)
  lt : ∀ i ∈ st, i < k
  done : ∀ i, i < k → i ∉ st → out.getD i 0 < k ∧ out.getD i 0 ∉ st ∧ out.getD (out.getD i 0) 0 = i ∧ out.getD i 0 ≠ i
  over : ∀ i, i < k → i ∉ st → ∀ s ∈ st, ¬ (i < s ∧ s < out.getD i 0)
  nc : ∀ i j, i < k → i ∉ st → j < k → j ∉ st → ¬ (i < j ∧ j < out.getD i 0 ∧ out.getD i 0 < out.getD j 0)

theorem pgo_part {N : Nat} : ∀ (cs : List Nat) (k : Nat) (out st l : List Nat), k + cs.length = N → Part N k out st → pgo cs k out st = some l → Part N N l []
  | [], k, out, [], l, hk, P, h => by
    obtain rfl : k = N := by simpa using hk
    cases h; exact P
  | [], k, out, i :: st, l, hk, P, h => by cases h
  | c :: cs, k, out, st, l, hk, P, h => by
    simp only [List.length_cons] at hk
    by_cases h40 : c = 40
    · rw [pgo_open h40] at h
      refine pgo_part cs (k + 1) out (k :: st) l (by omega) ⟨P.len, by omega, ?_, ?_, ?_, ?_, ?_⟩ h
      · exact List.pairwise_cons.2 ⟨fun i hi => P.lt i hi, P.desc⟩
      · intro i hi
        rcases List.mem_cons.1 hi with rfl | hi
        · omega
        · have := P.lt i hi; omega
      · intro i hi hn
        simp only [List.mem_cons, not_or] at hn ⊢
        have h1 := P.done i (by omega) hn.2
        exact ⟨by omega, ⟨by omega, h1.2.1⟩, h1.2.2⟩
      · intro i hi hn s hs
        simp only [List.mem_cons, not_or] at hn
        have h1 := P.done i (by omega) hn.2
        rcases List.mem_cons.1 hs with rfl | hs
        · omega
        · exact P.over i (by omega) hn.2 s hs
      · intro i j hi hni hj hnj
        simp only [List.mem_cons, not_or] at hni hnj
        exact P.nc i j (by omega) hni.2 (by omega) hnj.2
    · by_cases h41 : c = 41
      · cases st with
        | nil => rw [pgo_none h41] at h; cases h
        | cons s st =>
          rw [pgo_close h41] at h
          have hd := List.pairwise_cons.1 P.desc
          have hsk := P.lt s (by simp)
          have hns : s ∉ st := fun hs => by have := hd.1 s hs; omega
          have hnk : k ∉ st := fun hs => by have := P.lt k (by simp [hs]); omega
          have hkN : k < N := by omega
          have hlen := P.len
          have get : ∀ i, ((out.set s k).set k s).getD i 0 = if i = k then s else if i = s then k else out.getD i 0 := fun i => by
            rw [getD_set _ _ _ _ (by simp [hlen]; omega), getD_set _ _ _ _ (by omega)]
          have old : ∀ i, i < k + 1 → i ∉ st → ¬ i = k → ¬ i = s → i < k ∧ i ∉ s :: st := fun i h1 h2 h3 h4 => ⟨by omega, by simp [h2, h4]⟩
          refine pgo_part cs (k + 1) _ st l (by omega) ⟨by simp [hlen], by omega, hd.2, fun i hi => by have := P.lt i (by simp [hi]); omega, ?_, ?_, ?_⟩ h
          · intro i hi hn
            simp only [get]
            by_cases h1 : i = k
            · subst h1
              rw [if_pos rfl, if_neg (show ¬ s = i by omega), if_pos rfl]
              exact ⟨by omega, hns, rfl, by omega⟩
            · rw [if_neg h1]
              by_cases h2 : i = s
              · subst h2
                rw [if_pos rfl, if_pos rfl]
                exact ⟨by omega, hnk, rfl, by omega⟩
              · rw [if_neg h2]
                obtain ⟨o1, o2⟩ := old i hi hn h1 h2
                obtain ⟨p1, p2, p3, p4⟩ := P.done i o1 o2
                simp only [List.mem_cons, not_or] at p2
                rw [if_neg (show ¬ out.getD i 0 = k by omega), if_neg p2.1]
                exact ⟨by omega, p2.2, p3, p4⟩
          · intro i hi hn t ht
            have htk := P.lt t (by simp [ht])
            have hts := hd.1 t ht
            simp only [get]
            by_cases h1 : i = k
            · rw [if_pos h1]; omega
            · rw [if_neg h1]
              by_cases h2 : i = s
              · rw [if_pos h2]; omega
              · rw [if_neg h2]
                obtain ⟨o1, o2⟩ := old i hi hn h1 h2
                exact P.over i o1 o2 t (by simp [ht])
          · intro i j hi hni hj hnj
            simp only [get]
            by_cases h1 : i = k
            · rw [if_pos h1]; omega
            · rw [if_neg h1]
              by_cases h3 : j = k
              · rw [if_pos h3]
                by_cases h2 : i = s
                · rw [if_pos h2]; omega
                · rw [if_neg h2]
                  obtain ⟨o1, o2⟩ := old i hi hni h1 h2
                  obtain ⟨p1, -⟩ := P.done i o1 o2
                  omega
              · rw [if_neg h3]
                by_cases h2 : i = s
                · rw [if_pos h2]
                  by_cases h4 : j = s
                  · omega
                  · rw [if_neg h4]
                    obtain ⟨o1, o2⟩ := old j hj hnj h3 h4
                    obtain ⟨p1, -⟩ := P.done j o1 o2
                    omega
                · rw [if_neg h2]
                  obtain ⟨o1, o2⟩ := old i hi hni h1 h2
                  by_cases h4 : j = s
                  · rw [if_pos h4]
                    have := P.over i o1 o2 s (by simp)
                    omega
                  · rw [if_neg h4]
                    obtain ⟨q1, q2⟩ := old j hj hnj h3 h4
                    exact P.nc i j o1 o2 q1 q2
      · rw [pgo_bad h40 h41] at h; cases h

theorem match_parts {cs l : List Nat} (h : parts cs = some l) : l.length = cs.length ∧ Match cs.length (fun k => l.getD k 0) := by
  have P := pgo_part (N := cs.length) cs 0 (List.replicate cs.length 0) [] l (by omega) ⟨by simp, by omega, List.Pairwise.nil, by simp, fun i hi => absurd hi (by omega), fun i hi => absurd hi (by omega), fun i j hi => absurd hi (by omega)⟩ h
  refine ⟨P.len, ⟨fun k hk => (P.done k hk (by simp)).1, fun k hk => (P.done k hk (by simp)).2.2.1, fun k hk => (P.done k hk (by simp)).2.2.2, fun i k hi hk => P.nc i k hi (by simp) hk (by simp)⟩⟩

/-- The mates of a diagram that is joined by places. -/
theorem joinTo_m (n : Nat) (hn8 : n ≤ 8) (l : List Nat) (hl : ∀ k, k < 2 * n → l.getD k 0 < 2 * n) : ∀ j, j ≤ 2 * n → ∀ i, (Dg.joinTo n l j).m i = if i < 2 * n ∧ pl n i < j then (pl n (l.getD (pl n i) 0) : Nat) else 0
  | 0, _, i => by
    show (Dg.zero n).m i = _
    rw [Dg.m_zero, if_neg (by omega)]; rfl
  | j + 1, hj, i => by
    have hp := pl_lt (n := n) (k := j) (by omega)
    rw [Dg.joinTo_succ, place_nat (by omega), place_nat (hl j (by omega)), Int.toNat_natCast, Dg.m_put _ _ _ _ (Dg.len_joinTo ..) (by omega), joinTo_m n hn8 l hl j (by omega)]
    by_cases h1 : i = pl n j
    · rw [if_pos h1, h1, if_pos ⟨hp, by rw [pl_pl (by omega)]; omega⟩, pl_pl (by omega)]
    · rw [if_neg h1]
      by_cases h2 : i < 2 * n ∧ pl n i < j
      · rw [if_pos h2, if_pos ⟨h2.1, by omega⟩]
      · rw [if_neg h2, if_neg ?_]
        rintro ⟨h3, h4⟩
        have : pl n i = j := by omega
        exact h1 (by rw [← this, pl_pl h3])

/-- A diagram by a matching of its places. -/
theorem ok_of_match {d : Dg} {n : Nat} {f : Nat → Nat} (M : Match (2 * n) f) (hn1 : 1 ≤ n) (hn8 : n ≤ 8) (hs : d.size = n) (hm : ∀ i, i < 2 * n → d.m i = (pl n (f (pl n i)) : Nat)) (h0 : ∀ i, 2 * n ≤ i → i < 16 → d.m i = 0) : d.Ok := by
  refine ⟨by omega, fun i hi => ?_, fun i hi k hk => ?_⟩
  · unfold Dg.OkAt
    rw [hs]
    by_cases hi2 : 2 * (n : Int) ≤ i
    · rw [if_pos hi2, h0 i (by omega) hi]
    · have hi' : i < 2 * n := by omega
      have hp := pl_lt hi'
      have hf := M.lt _ hp
      have hpf := pl_lt hf
      rw [if_neg hi2, hm i hi', Int.toNat_natCast, hm _ hpf, pl_pl hf, M.inv _ hp, pl_pl hi']
      refine ⟨by omega, ?_, rfl⟩
      intro he
      have : f (pl n i) = pl n i := by
        rw [← pl_pl hf]; congr 1; omega
      exact M.ne _ hp this
  · rw [hs] at hi hk
    have hi' : i < 2 * n := by omega
    have hk' : k < 2 * n := by omega
    have hpi := pl_lt hi'
    have hpk := pl_lt hk'
    have hfi := M.lt _ hpi
    have hfk := M.lt _ hpk
    have c1 := M.nc _ _ hpi hpk
    have c2 := M.nc _ _ hpi hfk
    have c3 := M.nc _ _ hfi hpk
    have c4 := M.nc _ _ hfi hfk
    rw [M.inv _ hpk] at c2 c4
    rw [M.inv _ hpi] at c3 c4
    unfold Dg.Cross Dg.low Dg.high
    rw [hs, Int.toNat_natCast, Int.toNat_natCast, hm i hi', hm k hk', place_nat hi', place_nat hk', place_nat (pl_lt hfi), place_nat (pl_lt hfk), pl_pl hfi, pl_pl hfk]
    omega

/-- The matching of the places of a diagram. -/
def Dg.mt (d : Dg) (n k : Nat) : Nat := pl n (d.m (pl n k)).toNat

theorem match_of_good {d : Dg} {n : Nat} (h : Good d) (hs : d.size = n) : Match (2 * n) (d.mt n) := by
  have T := two_of_good h h hs hs
  refine ⟨fun k hk => pl_lt (T.lt false _ (pl_lt hk)), fun k hk => ?_, fun k hk he => ?_, fun i k hi hk => T.nc false i k hi hk⟩
  · have h1 := T.lt false _ (pl_lt hk)
    show pl n (d.m (pl n (pl n (d.m (pl n k)).toNat))).toNat = k
    rw [pl_pl (show (d.m (pl n k)).toNat < 2 * n from h1)]
    have := T.inv false _ (pl_lt hk)
    rw [show (d.m (d.m (pl n k)).toNat).toNat = pl n k from this, pl_pl hk]
  · have h1 := T.lt false _ (pl_lt hk)
    have he' : pl n (d.m (pl n k)).toNat = k := he
    have : (d.m (pl n k)).toNat = pl n k := by have h2 := congrArg (pl n) he'; rwa [pl_pl (show (d.m (pl n k)).toNat < 2 * n from h1)] at h2
    exact T.ne false _ (pl_lt hk) this

theorem ctxt_length {d : Dg} {n : Nat} (hs : d.size = n) : d.ctxt.length = 2 * n := by
  simp [Dg.ctxt, Dg.txt, hs]; omega

theorem ctxt_at {d : Dg} {n : Nat} (h : Good d) (hs : d.size = n) (k : Nat) (hk : k < d.ctxt.length) : d.ctxt[k] = if k < d.mt n k then 40 else 41 := by
  have hk' : k < 2 * n := by rw [ctxt_length hs] at hk; exact hk
  have hp := pl_lt hk'
  have ha := h.at hs _ hp
  have e : d.m (pl n k) = ((d.m (pl n k)).toNat : Nat) := by omega
  have ho : d.other (k : Int) = (d.mt n k : Nat) := by
    unfold Dg.other Dg.mt
    rw [hs, place_nat hk', Int.toNat_natCast, e, place_nat (by omega)]
    rw [Int.toNat_natCast]
  simp only [Dg.ctxt, Dg.txt, List.getElem_map, List.getElem_range]
  unfold Dg.sign
  rw [ho]
  by_cases h1 : k < d.mt n k
  · rw [if_pos h1, if_pos (by omega)]; rfl
  · rw [if_neg h1, if_neg (by omega)]; rfl

/-- A diagram is read from its text. -/
theorem read_good {d : Dg} (h : Good d) : readD d.ctxt = some d := by
  obtain ⟨n, hs⟩ : ∃ n : Nat, d.size = n := ⟨d.size.toNat, by have := h.ok.1.1; omega⟩
  have h18 := h.ok.1
  have hlen := ctxt_length hs
  obtain ⟨l, h1, h2, h3⟩ := parts_match (match_of_good h hs) d.ctxt hlen (fun k hk => ctxt_at h hs k hk)
  unfold readD
  rw [if_pos (by omega), h1]
  show some _ = some _
  congr 1
  rw [hlen, show 2 * n / 2 = n from by omega]
  have M := match_of_good h hs
  refine Dg.ext (Dg.len_joinTo ..) h.wf.len (by rw [size_joinTo, hs]) (fun i hi => ?_)
  rw [joinTo_m n (by omega) l (fun k hk => by rw [h3 k hk]; exact M.lt k hk) (2 * n) (Nat.le_refl _)]
  by_cases hi2 : i < 2 * n
  · have hp := pl_lt hi2
    have ha := h.at hs i hi2
    rw [if_pos ⟨hi2, hp⟩, h3 _ hp]
    unfold Dg.mt
    rw [pl_pl hi2, pl_pl (by omega)]
    omega
  · rw [if_neg (by omega)]
    have := h.ok.2.1 i hi
    unfold Dg.OkAt at this
    rw [if_pos (by omega)] at this
    exact this.symm

theorem iok_iff {d : Dg} (hw : d.Wf) : d.IOk ↔ d.Ok := by
  constructor
  · rintro ⟨h18, hrg, hr⟩
    obtain ⟨n, hs⟩ : ∃ n : Nat, d.size = n := ⟨d.size.toNat, by omega⟩
    have hlen := ctxt_length hs
    unfold readD at hr
    rw [if_pos (by omega)] at hr
    obtain ⟨l, hl, hd⟩ := Option.map_eq_some_iff.1 hr
    obtain ⟨h1, M⟩ := match_parts hl
    rw [hlen] at M hd
    rw [show 2 * n / 2 = n from by omega] at hd
    have hm := joinTo_m n (by omega) l (fun k hk => M.lt k hk) (2 * n) (Nat.le_refl _)
    rw [hd] at hm
    refine ok_of_match M (by omega) (by omega) hs (fun i hi => ?_) (fun i hi _ => ?_)
    · rw [hm i, if_pos ⟨hi, pl_lt hi⟩]
    · rw [hm i, if_neg (by omega)]; rfl
  · intro h
    refine ⟨h.1, fun i hi => ?_, read_good ⟨hw, h⟩⟩
    have := h.2.1 i hi
    unfold Dg.OkAt at this
    unfold Dg.RgAt
    split
    · rename_i h2; rw [if_pos h2] at this; exact this
    · rename_i h2; rw [if_neg h2] at this; exact this.1

theorem iokB_eq {d : Dg} (hw : d.Wf) : d.iokB = d.okB := by
  unfold Dg.iokB Dg.okB
  by_cases h : d.Ok
  · rw [decide_eq_true h, decide_eq_true ((iok_iff hw).2 h)]
  · rw [decide_eq_false h, decide_eq_false (fun h' => h ((iok_iff hw).1 h'))]

/-- Diagrams of one text are one. -/
theorem txt_inj {d e : Dg} (hd : Good d) (he : Good e) (h : d.txt = e.txt) : d = e := by
  have h1 := read_good hd
  have h2 := read_good he
  unfold Dg.ctxt at h1 h2
  rw [h, h2] at h1
  exact (Option.some.inj h1).symm
end Go.Proofs.Yticmlgnolbccjaa

/- The marks of the reference, and its way to count loops: plain. -/
set_option linter.unusedVariables false
set_option linter.unusedSimpArgs false
namespace Go.Proofs.Yticmlgnolbccjaa
open Go.RowKit

/-- Eight marks in memory. -/
def bls (s : Nat → Bool) : Array Value := ((List.range 8).map fun i => .bool (s i)).toArray
theorem bls_size (s : Nat → Bool) : (bls s).size = 8 := by simp [bls]
theorem bls_get (s : Nat → Bool) (i : Nat) (h : i < 8) : (bls s)[i]? = some (.bool (s i)) := by simp [bls, h]
theorem bls_set (s : Nat → Bool) (i : Nat) (h : i < 8) : (bls s).setIfInBounds i (.bool true) = bls fun j => if j = i then true else s j := by
  have : i = 0 ∨ i = 1 ∨ i = 2 ∨ i = 3 ∨ i = 4 ∨ i = 5 ∨ i = 6 ∨ i = 7 := by omega
  rcases this with rfl | rfl | rfl | rfl | rfl | rfl | rfl | rfl <;> rfl

/-- The marks when a loop of the reference has been gone through from a middle point. -/
def lpo (d e : Dg) (n : Nat) : Nat → (Nat → Bool) → Nat → Option (Nat → Bool)
  | 0, _, _ => none
  | f + 1, s, k =>
    if s k = true then some s
    else if hop d e false (n + k) < n then none
    else if n ≤ hop d e true (hop d e false (n + k) - n) then none
    else lpo d e n f (fun j => if j = hop d e false (n + k) - n then true else if j = k then true else s j) (hop d e true (hop d e false (n + k) - n))

theorem lpo_met {d e : Dg} {n f k : Nat} {s : Nat → Bool} (h : s k = true) : lpo d e n (f + 1) s k = some s := by
  show (if _ then _ else _) = _; exact if_pos h
theorem lpo_go {d e : Dg} {n f k : Nat} {s r : Nat → Bool} (h : s k = false) (hr : lpo d e n (f + 1) s k = some r) : n ≤ hop d e false (n + k) ∧ hop d e true (hop d e false (n + k) - n) < n ∧
    lpo d e n f (fun j => if j = hop d e false (n + k) - n then true else if j = k then true else s j) (hop d e true (hop d e false (n + k) - n)) = some r := by
  have hr' : (if s k = true then some s else if hop d e false (n + k) < n then none else if n ≤ hop d e true (hop d e false (n + k) - n) then none
    else lpo d e n f (fun j => if j = hop d e false (n + k) - n then true else if j = k then true else s j) (hop d e true (hop d e false (n + k) - n))) = some r := hr
  rw [if_neg (by rw [h]; simp)] at hr'
  split at hr'
  · cases hr'
  · split at hr'
    · cases hr'
    · exact ⟨by omega, by omega, hr'⟩

/-- The marks and the number of loops of the reference, when the first j middle points are done. -/
def sloopTo (d e : Dg) (n : Nat) (j : Nat) : (Nat → Bool) × Nat := (List.range j).foldl (fun x (m : Nat) => if x.1 m = true then x else ((lpo d e n fuel x.1 m).getD x.1, x.2 + 1)) (seenTo d e n n, 0)
theorem sloopTo_succ (d e : Dg) (n j : Nat) : sloopTo d e n (j + 1) = if (sloopTo d e n j).1 j = true then sloopTo d e n j else ((lpo d e n fuel (sloopTo d e n j).1 j).getD (sloopTo d e n j).1, (sloopTo d e n j).2 + 1) := by
  unfold sloopTo; rw [List.range_succ, List.foldl_append]; rfl
theorem sloopTo_le (d e : Dg) (n j : Nat) : (sloopTo d e n j).2 ≤ j := by
  induction j with
  | zero => simp [sloopTo]
  | succ j ih =>
    rw [sloopTo_succ]
    split
    · omega
    · show (sloopTo d e n j).2 + 1 ≤ j + 1; omega

/-- Each loop of the reference comes to its end. -/
def SRuns (d e : Dg) (n : Nat) : Prop := ∀ m, m < n → (sloopTo d e n m).1 m = false → ∃ r, lpo d e n fuel (sloopTo d e n m).1 m = some r
end Go.Proofs.Yticmlgnolbccjaa
