/- The walks of the functions that go along the lines of two diagrams, in the program. -/
import Derived.Test.YticmlgnolbccjaaD3
import Derived.Test.YticmlgnolbccjaaF1
import Derived.Deep.LoopGhost
set_option linter.unusedVariables false
set_option linter.unusedSimpArgs false
namespace Go.Proofs.Yticmlgnolbccjaa
open Go.RowKit

theorem meet_calls (l : Bool) (p : Int) (w : World) : Calls Try.prog 127 #[.bool l, .int .i64 p] w fun e w' => e = .returned (.tuple #[]) ∧ w = w' := by
  go_enter Try.func127, Try.ntmps127
  go_wp2
  go_end0
  exact ⟨rfl, rfl⟩

set_option maxHeartbeats 1000000 in
set_option maxRecDepth 100000 in
theorem implFollow_calls (d e : Dg) (n : Nat) (hn : 1 ≤ n) (hn8 : n ≤ 8) (hds : d.size = n) (hes : e.size = n) (hpd : d.Pts) (hpe : e.Pts) (bd be b : Nat) (s : Nat → Bool) (K : Nat) (l : Bool) (p : Nat) (u : Int) (hp : p < 2 * n) (r : Int × List Nat)
    (hr : fol d e n u K l p = some r) (w : World) (had : DgAt w bd 0 d) (hae : DgAt w be 0 e) (hb : Blk w b (stkA bd be s (.func (.func 127) #[] #[])) 153) (hd : bd ≠ b) (he : be ≠ b) :
    Calls Try.prog 146 #[.pointer (some ⟨b, 0, none⟩), .bool l, .int .i64 p, .int .i64 u] w fun ee w' =>
      ee = .returned (.int .i64 r.1) ∧ Blk w' b (stkA bd be (marks s r.2) (.func (.func 127) #[] #[])) 153 ∧ Only w w' b := by
  have hc := hb.cells
  have hf := hb.free
  have Hpd := Lib.hid hpd
  have Hpe := Lib.hid hpe
  have Hds := Lib.hid hds
  have Hes := Lib.hid hes
  have Hr := Lib.hid hr
  have hsz := had.size
  rw [hds] at hsz
  clear hpd hpe hr hds hes
  go_enter Try.func146, Try.ntmps146
  go_wp2_with (go_at_call 124; refine (implN_at n _ _ _ hsz).mono ?_; rintro e w' ⟨rfl, rfl⟩)
  go_loopg [1, 2] K (fun kq v1 v2 wr => ∃ (l' : Bool) (p' : Nat) (s' : Nat → Bool) (ms : List Nat), v1 = .bool l' ∧ v2 = .int .i64 p' ∧ p' < 2 * n ∧ fol d e n u kq l' p' = some (r.1, ms) ∧ marks s' ms = marks s r.2 ∧
    Blk wr b (stkA bd be s' (.func (.func 127) #[] #[])) 153 ∧ Only w wr b)
  case atStart => exact ⟨l, p, s, r.2, rfl, rfl, hp, Hr.out, rfl, hb, Only.refl w b⟩
  case round =>
    clear hb hc hf hp
    obtain ⟨l', p', s', ms, rfl, rfl, hp, hr, hms, hb, ho⟩ := hrel
    have Hr' := Lib.hid hr
    have Hms := Lib.hid hms
    clear hr hms
    have hc := hb.cells
    have hf := hb.free
    have hde := had.only ho hd
    have hee := hae.only ho he
    cases gk with
    | zero => exact absurd Hr'.out (by simp [fol])
    | succ k1 =>
      cases l' with
      | false =>
        have hm := Hpd.out.mate p' (by rw [Hds.out]; omega)
        rw [Hds.out] at hm
        have hcm := hde.mate p' (by omega)
        have hq : hop d e false p' = (d.m p').toNat := rfl
        generalize hx : d.m p' = x at hm hcm hq
        have Hq := Lib.hid hq
        clear hq hx
        by_cases hxn : (n : Int) ≤ x
        · have hne : ¬ false = decide (n ≤ hop d e false p') := by rw [Hq.out]; simp; omega
          have hmod0 : 0 ≤ x % (n : Int) := Int.emod_nonneg _ (by omega)
          have hmod1 : x % (n : Int) < n := Int.emod_lt_of_pos _ (by omega)
          have hmodn : (x.toNat % n : Nat) = (x % (n : Int)).toNat := by
            have : (((x.toNat % n : Nat)) : Int) = x % (n : Int) := by rw [Int.natCast_emod, Int.toNat_of_nonneg hm.1]
            omega
          have hst := stk_set bd be s' (.func (.func 127) #[] #[]) (x % (n : Int)).toNat (by omega)
          have hse := stk_seen bd be s' (.func (.func 127) #[] #[]) (x % (n : Int)).toNat (by omega)
          have Hst := Lib.hid hst
          have Hmn := Lib.hid hmodn
          clear hst hmodn
          have hmlt : (x % (n : Int)).toNat < 8 := by omega
          have hn0 : ((n : Int) == 0) = false := beq_eq_false_iff_ne.2 (by omega)
          have hb3 : Blk (wr.setCell ⟨b, 2 + (x % (n : Int)).toNat, none⟩ (.bool true)) b (stkA bd be (fun j => if j = (x % (n : Int)).toNat then true else s' j) (.func (.func 127) #[] #[])) 153 := by
            have := hb.set (2 + (x % (n : Int)).toNat) (.bool true)
            rwa [Hst.out] at this
          have ho3 : Only w (wr.setCell ⟨b, 2 + (x % (n : Int)).toNat, none⟩ (.bool true)) b := ho.trans (Only.setCell _ _ _ _)
          have Hb3 := Lib.hid hb3
          have Ho3 := Lib.hid ho3
          clear hb3 ho3
          by_cases hu : x % (n : Int) = u
          · have hu' : (x % (n : Int) == u) = true := by simp [hu]
            have hrr := fol_until (k := k1) (u := u) hne (by rw [Hq.out, Hmn.out]; omega)
            rw [Hq.out, Hmn.out] at hrr
            rw [hrr] at Hr'
            have hre := Prod.mk.inj (Option.some.inj Hr'.out)
            have Hre := Lib.hid hre
            have Hu := Lib.hid hu
            clear hrr hre hu
            go_wp2_with (go_at_call 127; refine (meet_calls _ _ _).mono ?_; rintro e w' ⟨rfl, rfl⟩)
            go_ret
            refine ⟨ret_int Hre.out.1, ?_, Ho3.out⟩
            rw [← Hms.out, ← Hre.out.2]
            exact Hb3.out
          · have hu' : (x % (n : Int) == u) = false := by simp [hu]
            have hrr := fol_step (k := k1) (u := u) hne (by rw [Hq.out, Hmn.out]; omega)
            rw [hrr, Hq.out, Hmn.out] at Hr'
            obtain ⟨r2, hr2, hr3⟩ := Option.map_eq_some_iff.1 Hr'.out
            have hre := Prod.mk.inj hr3
            have Hre := Lib.hid hre
            have Hr2 := Lib.hid hr2
            have Hu := Lib.hid hu
            clear hrr hre hu hr2 hr3
            go_wp2_with (go_at_call 127; refine (meet_calls _ _ _).mono ?_; rintro e w' ⟨rfl, rfl⟩)
            go_roundg k1
            case rel =>
              refine ⟨true, (x % n).toNat, _, r2.2, rfl, by simp; omega, by omega, ?_, ?_, Hb3.out, Ho3.out⟩
              · have h4 := Hr2.out
                have h5 : ((x % (n : Int)).toNat) = (x % n).toNat := by omega
                simp only [Bool.not_false, if_true, Bool.false_eq_true, if_false] at h4
                rw [h5] at h4
                rw [h4, ← Hre.out.1]
              · rw [← Hms.out, ← Hre.out.2]; rfl
            case measure => omega
        · have hdd : (!decide ((n : Int) ≤ x)) = true := by simp; omega
          have hfe := fol_end (d := d) (e := e) (n := n) (u := u) (k := k1) (l := false) (p := p') (by rw [Hq.out]; simp; omega)
          rw [hfe] at Hr'
          have hre := Prod.mk.inj (Option.some.inj Hr'.out)
          have Hre := Lib.hid hre
          clear hre hfe
          go_wp2_with (go_at_call 127; refine (meet_calls _ _ _).mono ?_; rintro e w' ⟨rfl, rfl⟩)
          go_ret
          refine ⟨ret_int ?_, ?_, ho⟩
          · rw [← Hre.out.1, Hq.out]; omega
          · rw [← Hms.out, ← Hre.out.2, marks_nil]; exact hb
      | true =>
        have hm := Hpe.out.mate p' (by rw [Hes.out]; omega)
        rw [Hes.out] at hm
        have hcm := hee.mate p' (by omega)
        have hq : hop d e true p' = (e.m p').toNat := rfl
        generalize hx : e.m p' = x at hm hcm hq
        have Hq := Lib.hid hq
        clear hq hx
        by_cases hxn : x < (n : Int)
        · have hne : ¬ true = decide (n ≤ hop d e true p') := by rw [Hq.out]; simp; omega
          have hmod0 : 0 ≤ x % (n : Int) := Int.emod_nonneg _ (by omega)
          have hmod1 : x % (n : Int) < n := Int.emod_lt_of_pos _ (by omega)
          have hmodn : (x.toNat % n : Nat) = (x % (n : Int)).toNat := by
            have : (((x.toNat % n : Nat)) : Int) = x % (n : Int) := by rw [Int.natCast_emod, Int.toNat_of_nonneg hm.1]
            omega
          have hst := stk_set bd be s' (.func (.func 127) #[] #[]) (x % (n : Int)).toNat (by omega)
          have hse := stk_seen bd be s' (.func (.func 127) #[] #[]) (x % (n : Int)).toNat (by omega)
          have Hst := Lib.hid hst
          have Hmn := Lib.hid hmodn
          clear hst hmodn
          have hmlt : (x % (n : Int)).toNat < 8 := by omega
          have hn0 : ((n : Int) == 0) = false := beq_eq_false_iff_ne.2 (by omega)
          have hb3 : Blk (wr.setCell ⟨b, 2 + (x % (n : Int)).toNat, none⟩ (.bool true)) b (stkA bd be (fun j => if j = (x % (n : Int)).toNat then true else s' j) (.func (.func 127) #[] #[])) 153 := by
            have := hb.set (2 + (x % (n : Int)).toNat) (.bool true)
            rwa [Hst.out] at this
          have ho3 : Only w (wr.setCell ⟨b, 2 + (x % (n : Int)).toNat, none⟩ (.bool true)) b := ho.trans (Only.setCell _ _ _ _)
          have Hb3 := Lib.hid hb3
          have Ho3 := Lib.hid ho3
          clear hb3 ho3
          by_cases hu : x % (n : Int) = u
          · have hu' : (x % (n : Int) == u) = true := by simp [hu]
            have hrr := fol_until (k := k1) (u := u) hne (by rw [Hq.out, Hmn.out]; omega)
            rw [Hq.out, Hmn.out] at hrr
            rw [hrr] at Hr'
            have hre := Prod.mk.inj (Option.some.inj Hr'.out)
            have Hre := Lib.hid hre
            have Hu := Lib.hid hu
            clear hrr hre hu
            go_wp2_with (go_at_call 127; refine (meet_calls _ _ _).mono ?_; rintro e w' ⟨rfl, rfl⟩)
            go_ret
            refine ⟨ret_int Hre.out.1, ?_, Ho3.out⟩
            rw [← Hms.out, ← Hre.out.2]
            exact Hb3.out
          · have hu' : (x % (n : Int) == u) = false := by simp [hu]
            have hrr := fol_step (k := k1) (u := u) hne (by rw [Hq.out, Hmn.out]; omega)
            rw [hrr, Hq.out, Hmn.out] at Hr'
            obtain ⟨r2, hr2, hr3⟩ := Option.map_eq_some_iff.1 Hr'.out
            have hre := Prod.mk.inj hr3
            have Hre := Lib.hid hre
            have Hr2 := Lib.hid hr2
            have Hu := Lib.hid hu
            clear hrr hre hu hr2 hr3
            go_wp2_with (go_at_call 127; refine (meet_calls _ _ _).mono ?_; rintro e w' ⟨rfl, rfl⟩)
            go_roundg k1
            case rel =>
              refine ⟨false, (n + x % n).toNat, _, r2.2, rfl, by simp; omega, by omega, ?_, ?_, Hb3.out, Ho3.out⟩
              · have h4 := Hr2.out
                have h5 : (n + (x % (n : Int)).toNat) = (n + x % n).toNat := by omega
                simp only [Bool.not_true, if_true, Bool.false_eq_true, if_false] at h4
                rw [h5] at h4
                rw [h4, ← Hre.out.1]
              · rw [← Hms.out, ← Hre.out.2]; rfl
            case measure => omega
        · have hfe := fol_end (d := d) (e := e) (n := n) (u := u) (k := k1) (l := true) (p := p') (by rw [Hq.out]; simp; omega)
          rw [hfe] at Hr'
          have hre := Prod.mk.inj (Option.some.inj Hr'.out)
          have Hre := Lib.hid hre
          clear hre hfe
          go_wp2_with (go_at_call 127; refine (meet_calls _ _ _).mono ?_; rintro e w' ⟨rfl, rfl⟩)
          go_ret
          refine ⟨ret_int ?_, ?_, ho⟩
          · rw [← Hre.out.1, Hq.out]; omega
          · rw [← Hms.out, ← Hre.out.2, marks_nil]; exact hb

theorem end_calls (o : Dg) (bo : Nat) (T : TypeId) (i k : Int) (w : World) (ho : o.mate.length = 16) (hb : Blk w bo o.cells T) (hi : 0 ≤ i) (hi' : i < 16) (hk : 0 ≤ k) (hk' : k < 16) :
    Calls Try.prog 128 #[.int .i64 i, .int .i64 k, .pointer (some ⟨bo, 0, none⟩)] w fun e w' => e = .returned (.tuple #[]) ∧ Blk w' bo (o.put i.toNat k).cells T ∧ Only w w' bo := by
  have hc := hb.cells
  have hf := hb.free
  have hi2 : i.toNat < 16 := by omega
  have Hb := Lib.hid hb
  have Ho := Lib.hid ho
  clear hb ho
  go_enter Try.func128, Try.ntmps128
  go_wp2
  go_end0
  refine ⟨rfl, ?_, Only.setCell _ _ _ _⟩
  have := Hb.out.set (1 + i.toNat) (.int .u8 k)
  rwa [o.cells_put _ _ Ho.out hi2] at this

theorem loop_calls (L : Int) (bl : Nat) (T : TypeId) (w : World) (hb : Blk w bl #[.int .i64 L] T) (h0 : 0 ≤ L) (h1 : L ≤ 1000000) :
    Calls Try.prog 129 #[.pointer (some ⟨bl, 0, none⟩)] w fun e w' => e = .returned (.tuple #[]) ∧ Blk w' bl #[.int .i64 (L + 1)] T ∧ Only w w' bl := by
  have hc := hb.cells 0
  simp only [List.getElem?_toArray, List.getElem?_cons_zero] at hc
  have hf := hb.free
  have Hb := Lib.hid hb
  clear hb
  go_enter Try.func129, Try.ntmps129
  go_wp2
  go_end0
  exact ⟨rfl, Hb.out.set 0 (.int .i64 (L + 1)), Only.setCell _ _ _ _⟩
end Go.Proofs.Yticmlgnolbccjaa
