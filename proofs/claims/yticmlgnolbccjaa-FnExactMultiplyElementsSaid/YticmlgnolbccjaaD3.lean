/- The walks of the functions that read a diagram: its size, its text, the ends of lines. -/
import Derived.Test.YticmlgnolbccjaaD2
import Derived.Test.YticmlgnolbccjaaM2
import Derived.Test.YticmlgnolbccjaaT1
set_option linter.unusedVariables false
set_option linter.unusedSimpArgs false
namespace Go.Proofs.Yticmlgnolbccjaa
open Go.RowKit

theorem implN_at (n : Int) (b off : Nat) (w : World) (h1 : w.cell? ⟨b, off, none⟩ = some (.int .i64 n)) :
    Calls Try.prog 124 #[.pointer (some ⟨b, off, none⟩)] w fun e w' => e = .returned (.int .i64 n) ∧ w = w' := by
  go_enter Try.func124, Try.ntmps124
  go_wp2
  go_ret
  exact ⟨rfl, rfl⟩

theorem implN_calls (d : Dg) (b off : Nat) (w : World) (h : DgAt w b off d) :
    Calls Try.prog 124 #[.pointer (some ⟨b, off, none⟩)] w fun e w' => e = .returned (.int .i64 d.size) ∧ w = w' := by
  have h1 := h.size
  clear h
  go_enter Try.func124, Try.ntmps124
  go_wp2
  go_ret
  exact ⟨rfl, rfl⟩

set_option maxRecDepth 100000 in
theorem specText_calls (d : Dg) (w : World) (hp : d.Pts) :
    Calls Try.prog 113 #[.agg d.cells] w fun e w' => e = .returned (.string (strOfNums d.txt)) ∧ Below w.heap.size w w' := by
  have hlo := hp.lo
  have hhi := hp.hi
  have Hp := Lib.hid hp
  clear hp
  go_enter Try.func113, Try.ntmps113
  go_wp2
  go_loopw [3, 4, 5] (fun v i x wr => ∃ k : Nat, k ≤ 2 * d.size.toNat ∧ i = .int .i64 k ∧ Blk wr w.heap.size d.cells 47 ∧ wr.ownsRow (w.heap.size + 1) 5 1 v k ((d.txtTo k).map (Value.int .u8)) ∧ Below w.heap.size w wr) (fun _ i _ _ => 2 * d.size.toNat - (intOf i).toNat)
  case atStart =>
    refine ⟨0, by omega, rfl, (Blk.new w _ _).alloc _, ?_, ((Below.refl _ w).alloc (Nat.le_refl _) _).alloc (by simp) _⟩
    have := World.ownsRow_made (w := w.alloc (.cells d.cells 47)) (base := w.heap.size + 1) (e := 5) (size := 1) #[] 0 (by simp) (by simp [maxLen]) rfl
    simpa [Dg.txtTo] using this
  case round =>
    obtain ⟨k, hk, rfl, hb, hown, hbel⟩ := hrel
    have hc := hb.cells
    have hz := hb.lt
    by_cases hlt : k < 2 * d.size.toNat
    · have hpl := place_range (n := d.size) (i := k) (by omega) (by omega)
      have hm := Hp.out.mate (place d.size k).toNat (by omega)
      have hpn : (place d.size k).toNat < 16 := by omega
      have hs : d.sign k = if (k : Int) < place d.size (d.m (place d.size k).toNat) then 40 else 41 := rfl
      have Hs := Lib.hid hs
      clear hs
      have HB := Lib.hid hb
      clear hb
      go_wp2_with (go_at_call 131; refine (specPlace_calls _ _ _ (by omega) (by omega) (by omega) (by omega)).mono ?_; rintro e w' ⟨rfl, rfl⟩)
      go_quiet ((go_at_call 131; exact Calls.quiet_of_same ((specPlace_calls _ _ _ (by omega) (by omega) (by omega) (by omega)).mono fun e w' ⟨h, h'⟩ => ⟨h, h'.symm⟩)))
      go_wp2_with (at_builtin; refine append_u8 rfl _ _ rfl (w.heap.size + 1) _ k (d.txtTo k) rfl ((own_drewN hown _).alloc _) wr.heap.size _ rfl _ (Blk.newAt _ _ _ rfl) (by omega) (by simp; omega) ?_; intro v1 w1 ho1 hg1)
      all_goals
        go_roundw
        case rel => exact ⟨k + 1, by omega, by go_num, ((HB.out.drewN _).alloc _).grownOwn hg1 ((own_drewN hown _).alloc _) (by omega), by rw [Dg.txtTo_succ, Hs.out]; first | (rw [if_pos (by assumption)]; exact ho1) | (rw [if_neg (by omega)]; exact ho1), bel_grown ((bel_drewN hbel _).alloc (by simp; omega) _) hg1 ((own_drewN hown _).alloc _) (by omega) (by simp; omega)⟩
        case measure => simp [intOf]; omega
    · obtain rfl : k = (2 * d.size).toNat := by omega
      go_wp2_with (refine convert_own rfl _ rfl (w.heap.size + 1) _ _ (d.txtTo (2 * d.size).toNat) rfl hown ?_)
      go_ret
      exact ⟨rfl, hbel⟩

set_option maxRecDepth 100000 in
theorem implText_calls (d : Dg) (b off : Nat) (w : World) (hat : DgAt w b off d) (hp : d.Pts) :
    Calls Try.prog 90 #[.pointer (some ⟨b, off, none⟩)] w fun e w' => e = .returned (.string (strOfNums d.txt)) ∧ Below w.heap.size w w' := by
  have hlo := hp.lo
  have hhi := hp.hi
  have hlt0 := hat.lt
  have Hp := Lib.hid hp
  clear hp
  go_enter Try.func90, Try.ntmps90
  go_wp2_with (go_at_call 124; refine (implN_calls d _ _ _ hat).mono ?_; rintro e w' ⟨rfl, rfl⟩)
  go_loopw [4, 5, 11] (fun v x i wr => ∃ k : Nat, k ≤ 2 * d.size.toNat ∧ i = .int .i64 k ∧ wr.ownsRow w.heap.size 5 1 v k ((d.txtTo k).map (Value.int .u8)) ∧ Below w.heap.size w wr) (fun _ _ i _ => 2 * d.size.toNat - (intOf i).toNat)
  case atStart =>
    refine ⟨0, by omega, rfl, ?_, (Below.refl _ w).alloc (Nat.le_refl _) _⟩
    have := World.ownsRow_made (w := w) (base := w.heap.size) (e := 5) (size := 1) #[] 0 (by simp) (by simp [maxLen]) rfl
    simpa [Dg.txtTo] using this
  case round =>
    obtain ⟨k, hk, rfl, hown, hbel⟩ := hrel
    have hz := hbel.size
    by_cases hlt : k < 2 * d.size.toNat
    · have hpl := place_range (n := d.size) (i := k) (by omega) (by omega)
      have hm := Hp.out.mate (place d.size k).toNat (by omega)
      have hc := (hat.below hbel hlt0).mate (place d.size k).toNat (by omega)
      have hs : d.sign k = if (k : Int) < place d.size (d.m (place d.size k).toNat) then 40 else 41 := rfl
      have Hs := Lib.hid hs
      clear hs
      go_wp2
      go_quiet ((go_at_call 125; exact Calls.quiet_of_same ((implPlace_calls _ _ _ (by omega) (by omega) (by omega) (by omega)).mono fun e w' ⟨h, h'⟩ => ⟨h, h'.symm⟩)))
      go_wp2_with (at_builtin; refine append_u8 rfl _ _ rfl w.heap.size _ k (d.txtTo k) rfl ((own_drewN hown _).alloc _) wr.heap.size _ rfl _ (Blk.newAt _ _ _ rfl) (by omega) (by simp; omega) ?_; intro v1 w1 ho1 hg1)
      all_goals
        go_roundw
        case rel => exact ⟨k + 1, by omega, by go_num, by rw [Dg.txtTo_succ, Hs.out]; first | (rw [if_pos (by assumption)]; exact ho1) | (rw [if_neg (by omega)]; exact ho1), bel_grown ((bel_drewN hbel _).alloc (by simp; omega) _) hg1 ((own_drewN hown _).alloc _) (by omega) (by simp; omega)⟩
        case measure => simp [intOf]; omega
    · obtain rfl : k = (2 * d.size).toNat := by omega
      go_wp2_with (refine convert_own rfl _ rfl w.heap.size _ _ (d.txtTo (2 * d.size).toNat) rfl hown ?_)
      go_ret
      exact ⟨rfl, hbel⟩

/-- The ends of the line of a point, by their places, the lesser one first. -/
def Dg.low (d : Dg) (i : Int) : Int := min (place d.size i) (place d.size (d.m i.toNat))
def Dg.high (d : Dg) (i : Int) : Int := max (place d.size i) (place d.size (d.m i.toNat))

set_option maxRecDepth 100000 in
theorem specEnds_calls (d : Dg) (i : Int) (w : World) (hp : d.Pts) (h0 : 0 ≤ i) (h1 : i < 2 * d.size) :
    Calls Try.prog 106 #[.agg d.cells, .int .i64 i] w fun e w' => e = .returned (.tuple #[.int .i64 (d.low i), .int .i64 (d.high i)]) ∧ Below w.heap.size w w' := by
  have hlo := hp.lo
  have hhi := hp.hi
  have hm := hp.mate i.toNat (by omega)
  have hin : i.toNat < 16 := by omega
  clear hp
  go_enter Try.func106, Try.ntmps106
  go_wp2
  go_quiet ((go_at_call 131; exact Calls.quiet_of_same ((specPlace_calls _ _ _ (by omega) (by omega) (by omega) (by omega)).mono fun e w' ⟨h, h'⟩ => ⟨h, h'.symm⟩)))
  go_wp2
  all_goals go_ret2
  all_goals exact ⟨ret_pair (by unfold Dg.low; omega) (by unfold Dg.high; omega), bel_drewN ((Below.refl _ w).alloc (Nat.le_refl _) _) _⟩
end Go.Proofs.Yticmlgnolbccjaa
