/- The walks of the functions that make diagrams point by point, of the program and of the reference. -/
import Derived.Test.YticmlgnolbccjaaI1
import Derived.Test.YticmlgnolbccjaaD1
import Derived.RegionTactic
import Derived.BigRegion
import Derived.ChangeAlike
set_option linter.unusedVariables false
set_option linter.unusedSimpArgs false
namespace Go.Proofs.Yticmlgnolbccjaa
open Go.RowKit

theorem info_dg : (Try.prog.info? 47).map (·.size) = some 17 := by kernel_rfl

theorem setRow_heap_other (w : World) (g k : Nat) (cs : Array Value) (h : k ≠ g) : (w.setRow g cs).heap[k]? = w.heap[k]? := by
  simp only [World.setRow, Array.getElem?_modify]
  rw [if_neg (fun e => h e.symm)]

section
variable {ops : Array Oper} {rest : List Oper} {o : Oper} {a : Act} {w : World} {Q : Exit → Act → World → Prop}

theorem load_dg (hgd : o.guard = none) (x : Operand) (ho : o.op = .load 47 x) (b : Nat) (hx : a.eval x = .pointer (some ⟨b, 0, none⟩)) (d : Dg) (T : TypeId) (h : Blk w b d.cells T)
    (hK : wpList Try.prog ops Q rest (a.put o.dst (.agg d.cells)) w) : wpList Try.prog ops Q (o :: rest) a w :=
  wpList_load_row hgd _ x ho b hx T d.cells (0, 0) _ h Try.underlying47 rfl (by rw [info_dg, d.size_cells]) hK

/-- The same behind a guard. -/
theorem load_dgw (x : Operand) (ho : o.op = .load 47 x) (b : Nat) (hx : a.eval x = .pointer (some ⟨b, 0, none⟩)) (d : Dg) (T : TypeId) (h : Blk w b d.cells T) (hw : Region.wanted o (yielded ops a.tmps) = true)
    (hK : wpList Try.prog ops Q rest (a.put o.dst (.agg d.cells)) w) : wpList Try.prog ops Q (o :: rest) a w :=
  BigFrame.wpList_want hw fun _ hk => wp_load_row _ x ho b hx T d.cells (0, 0) _ h Try.underlying47 rfl (by rw [info_dg, d.size_cells]) (hk _ _ hK)

theorem store_dg (hgd : o.guard = none) (x y : Operand) (ho : o.op = .store 47 x y) (b : Nat) (hx : a.eval x = .pointer (some ⟨b, 0, none⟩)) (d : Dg) (hy : a.eval y = .agg d.cells)
    (cs : Array Value) (T : TypeId) (h : Blk w b cs T) (hs : cs.size = 17)
    (hK : ∀ w', Blk w' b d.cells T → Only w w' b → wpList Try.prog ops Q rest (a.put o.dst undef) w') : wpList Try.prog ops Q (o :: rest) a w := by
  refine wpList_store_row hgd _ x y ho b d.cells hx hy T cs h (by rw [info_dg, d.size_cells]) (by rw [hs, d.size_cells]) (all_oneCell_toArray d.oneCell) (hK _ ?_ ?_)
  · exact setRow_heap w b cs _ T _ h
  · exact ⟨rfl, rfl, rfl, by simp, fun k hk => setRow_heap_other w b k _ hk⟩

/-- The end of a walk whose result is a diagram. -/
theorem ret_dg {fn : Func} {R : Ending → World → Prop} {p : Tmp} (hr : fn.results = #[.cell p 47]) (b : Nat) (hp : a.tmps.getD p undef = .pointer (some ⟨b, 0, none⟩)) (d : Dg) (T : TypeId) (h : Blk w b d.cells T)
    (hd : a.defers = []) (hR : R (.returned (.agg d.cells)) w) : bodyPost Try.prog fn R .ret a w :=
  bodyPost_ret (results_cell_row hr _ w b T d.cells (0, 0) _ hp h Try.underlying47 rfl (by rw [info_dg, d.size_cells])) hd hR

/-- The end of a walk whose results are a diagram and something in a slot. -/
theorem ret_dg_tmp {fn : Func} {R : Ending → World → Prop} {p t : Tmp} (hr : fn.results = #[.cell p 47, .tmp t]) (b : Nat) (hp : a.tmps.getD p undef = .pointer (some ⟨b, 0, none⟩)) (d : Dg) (T : TypeId) (h : Blk w b d.cells T)
    (v : Value) (ht : a.tmps.getD t undef = v) (hd : a.defers = []) (hR : R (.returned (.tuple #[.agg d.cells, v])) w) : bodyPost Try.prog fn R .ret a w := by
  refine bodyPost_ret (v := .tuple #[.agg d.cells, v]) ?_ hd hR
  have hp' : a.tmps[p]?.getD undef = .pointer (some ⟨b, 0, none⟩) := by simpa using hp
  have ht' : a.tmps[t]?.getD undef = v := by simpa using ht
  simp [results, hr, hp', ht', asAddr, run_loadVar_row w b T 47 d.cells (0, 0) _ h Try.underlying47 rfl (by rw [info_dg, d.size_cells])]
end

theorem Only.trans {w w1 w2 : World} {b : Nat} (h : Only w w1 b) (k : Only w1 w2 b) : Only w w2 b :=
  ⟨k.os.trans h.os, k.tape.trans h.tape, k.output.trans h.output, k.size.trans h.size, fun j hj => (k.block j hj).trans (h.block j hj)⟩

theorem specJoin_calls (d : Dg) (i k : Int) (w : World) (hd : d.mate.length = 16) (hi : 0 ≤ i) (hi' : i < 16) (hk : 0 ≤ k) (hk' : k < 16) :
    Calls Try.prog 85 #[.agg d.cells, .int .i64 i, .int .i64 k] w fun e w' =>
      e = .returned (.agg ((d.put i.toNat k).put k.toNat i).cells) ∧ Below w.heap.size w w' := by
  have hd1 : (d.put i.toNat k).mate.length = 16 := by simp [Dg.put, hd]
  have e1 := d.cells_put i.toNat k hd (by omega)
  have e2 := (d.put i.toNat k).cells_put k.toNat i hd1 (by omega)
  clear hd hd1
  have hin : i.toNat < 16 := by omega
  have hkn : k.toNat < 16 := by omega
  go_enter Try.func85, Try.ntmps85
  go_wp2_with (first | (refine load_dg rfl _ rfl _ rfl ((d.put i.toNat k).put k.toNat i) 47 ((Blk.new _ _ _).alloc _) ?_) | (refine store_dg rfl _ _ rfl _ rfl _ rfl _ 47 (Blk.newAt _ _ _ (by simp)) rfl ?_; intro w1 hb1 ho1))
  refine ret_dg rfl _ rfl _ _ hb1 rfl ⟨rfl, ?_⟩
  exact (((Below.refl _ w).alloc (Nat.le_refl _) _).alloc (by simp) _).trans (ho1.below (by simp))

theorem implJoin_calls (d : Dg) (b : Nat) (T : TypeId) (i k : Int) (w : World) (hd : d.mate.length = 16) (hb : Blk w b d.cells T) (hi : 0 ≤ i) (hi' : i < 16) (hk : 0 ≤ k) (hk' : k < 16) :
    Calls Try.prog 105 #[.pointer (some ⟨b, 0, none⟩), .int .i64 i, .int .i64 k] w fun e w' =>
      e = .returned (.tuple #[]) ∧ Blk w' b ((d.put i.toNat k).put k.toNat i).cells T ∧ Only w w' b := by
  have hc1 : w.cell? ⟨b, 1 + i.toNat, none⟩ = some (.int .u8 (d.m i.toNat)) := by rw [hb.cells, d.cells1 _ (by omega)]
  have hc2 : w.cell? ⟨b, 1 + k.toNat, none⟩ = some (.int .u8 (d.m k.toNat)) := by rw [hb.cells, d.cells1 _ (by omega)]
  have hf := hb.free
  obtain ⟨v', hv'⟩ := cell?_setCell_some (w := w) (p := ⟨b, 1 + i.toNat, none⟩) (x := .int .u8 k) (q := ⟨b, 1 + k.toNat, none⟩) (v := .int .u8 (d.m k.toNat)) hc2
  obtain ⟨v2, hv2⟩ := cell?_setCell_some (w := w) (p := ⟨b, 1 + k.toNat, none⟩) (x := .int .u8 i) (q := ⟨b, 1 + i.toNat, none⟩) (v := .int .u8 (d.m i.toNat)) hc1
  have Hb := Lib.hid hb
  have Hd := Lib.hid hd
  clear hb hd
  go_enter Try.func105, Try.ntmps105
  go_wp2
  go_region
  go_end0
  refine ⟨rfl, ?_, ((Only.setCell _ _ _ _).trans (Only.setCell _ _ _ _)).drew⟩
  have h1 := (Hb.out.set (1 + i.toNat) (.int .u8 k)).set (1 + k.toNat) (.int .u8 i)
  rw [d.cells_put _ _ Hd.out (by omega), Dg.cells_put _ _ _ (by rw [Dg.len_put, Hd.out]) (by omega)] at h1
  exact h1

theorem specOne_calls (n : Int) (w : World) (h1 : 1 ≤ n) (h8 : n ≤ 8) :
    Calls Try.prog 66 #[.int .i64 n] w fun e w' => e = .returned (.agg (Dg.one n).cells) ∧ Below w.heap.size w w' := by
  go_enter Try.func66, Try.ntmps66
  go_wp2_with (refine store_dg rfl _ _ rfl _ rfl (Dg.zero n) rfl _ 47 (Blk.newAt _ _ _ (by simp)) rfl ?_; intro w1 hb1 ho1)
  go_loopw [4] (fun i wr => ∃ j : Nat, j ≤ n.toNat ∧ i = .int .i64 j ∧ Blk wr (w.heap.size + 1) (Dg.oneTo n j).cells 47 ∧ Blk wr w.heap.size (Dg.zero 0).cells 47 ∧ Below w.heap.size w wr) (fun i _ => n.toNat - (intOf i).toNat)
  case atStart => exact ⟨0, by omega, rfl, hb1, ((Blk.new w _ _).alloc _).only ho1 (by omega), (((Below.refl _ w).alloc (Nat.le_refl _) _).alloc (by simp) _).trans (ho1.below (by simp))⟩
  case round =>
    obtain ⟨j, hj, rfl, hb, hr, hbel⟩ := hrel
    have hz := hb.lt
    by_cases hlt : (j : Int) < n
    · go_wp2_with (first | (refine load_dg rfl _ rfl _ rfl _ 47 hb ?_) | (go_at_call 85; refine (specJoin_calls _ _ _ _ (Dg.len_oneTo n j) (by omega) (by omega) (by omega) (by omega)).mono ?_; rintro e w2 ⟨rfl, hb2⟩) | (refine store_dg rfl _ _ rfl _ rfl _ rfl _ 47 (hb.below hb2 hb.lt) (Dg.size_cells _) ?_; intro w3 hb3 ho3))
      go_roundw
      case rel => exact ⟨j + 1, by omega, by go_num, by rw [Dg.oneTo_succ]; exact hb3, (hr.below hb2 hr.lt).only ho3 (by omega), (hbel.trans (hb2.mono (by omega))).trans (ho3.below (by omega))⟩
      case measure => simp [intOf]; omega
    · obtain rfl : (j : Int) = n := by omega
      go_wp2_with (first | (refine load_dg rfl _ rfl _ rfl _ 47 hb ?_) | (refine store_dg rfl _ _ rfl _ rfl _ rfl _ 47 hr (Dg.size_cells _) ?_; intro w3 hb3 ho3))
      refine ret_dg rfl _ rfl _ _ hb3 rfl ⟨?_, hbel.trans (ho3.below (by omega))⟩
      simp [Dg.one]

theorem implUnit_calls (n : Int) (w : World) (h1 : 1 ≤ n) (h8 : n ≤ 8) :
    Calls Try.prog 69 #[.int .i64 n] w fun e w' => e = .returned (.agg (Dg.one n).cells) ∧ Below w.heap.size w w' := by
  go_enter Try.func69, Try.ntmps69
  go_wp2_with (refine store_dg rfl _ _ rfl _ rfl (Dg.zero n) rfl _ 47 (Blk.newAt _ _ _ (by simp)) rfl ?_; intro w1 hb1 ho1)
  go_loopw [8] (fun i wr => ∃ j : Nat, j ≤ n.toNat ∧ i = .int .i64 j ∧ Blk wr (w.heap.size + 1) (Dg.oneTo n j).cells 47 ∧ Blk wr w.heap.size (Dg.zero 0).cells 47 ∧ Below w.heap.size w wr) (fun i _ => n.toNat - (intOf i).toNat)
  case atStart => exact ⟨0, by omega, rfl, hb1, ((Blk.new w _ _).alloc _).only ho1 (by omega), (((Below.refl _ w).alloc (Nat.le_refl _) _).alloc (by simp) _).trans (ho1.below (by simp))⟩
  case round =>
    obtain ⟨j, hj, rfl, hb, hr, hbel⟩ := hrel
    have hz := hb.lt
    by_cases hlt : (j : Int) < n
    · go_wp2_with (go_at_call 105; refine (implJoin_calls _ _ _ _ _ _ (Dg.len_oneTo n j) hb (by omega) (by omega) (by omega) (by omega)).mono ?_; rintro e w2 ⟨rfl, hb2, ho2⟩)
      go_roundw
      case rel => exact ⟨j + 1, by omega, by go_num, by rw [Dg.oneTo_succ]; exact hb2, hr.only ho2 (by omega), hbel.trans (ho2.below (by omega))⟩
      case measure => simp [intOf]; omega
    · obtain rfl : (j : Int) = n := by omega
      go_wp2_with (first | (refine load_dg rfl _ rfl _ rfl _ 47 hb ?_) | (refine store_dg rfl _ _ rfl _ rfl _ rfl _ 47 hr (Dg.size_cells _) ?_; intro w3 hb3 ho3))
      refine ret_dg rfl _ rfl _ _ hb3 rfl ⟨?_, hbel.trans (ho3.below (by omega))⟩
      simp [Dg.one]

theorem specCup_calls (n i : Int) (w : World) (h2 : 2 ≤ n) (h8 : n ≤ 8) (hi : 0 ≤ i) (hi' : i ≤ n - 2) :
    Calls Try.prog 39 #[.int .i64 n, .int .i64 i] w fun e w' => e = .returned (.agg (Dg.cup n i).cells) ∧ Below w.heap.size w w' := by
  have hl := Dg.len_one n
  have hl2 : (((Dg.one n).put i.toNat (i + 1)).put (i + 1).toNat i).mate.length = 16 := by rw [Dg.len_put, Dg.len_put, hl]
  have Hl := Lib.hid hl
  have Hl2 := Lib.hid hl2
  clear hl hl2
  go_enter Try.func39, Try.ntmps39
  go_wp2_with fail
  refine (specOne_calls _ _ (by omega) (by omega)).mono ?_
  rintro e w1 ⟨rfl, hb1⟩
  go_wp2_with fail
  refine (specJoin_calls _ _ _ _ Hl.out (by omega) (by omega) (by omega) (by omega)).mono ?_
  rintro e w2 ⟨rfl, hb2⟩
  go_wp2_with fail
  refine (specJoin_calls _ _ _ _ Hl2.out (by omega) (by omega) (by omega) (by omega)).mono ?_
  rintro e w3 ⟨rfl, hb3⟩
  have hbb := (hb1.mono (B' := w.heap.size + 1) (by simp)).trans ((hb2.mono (by have := hb1.size; simp at this; omega)).trans (hb3.mono (by have := hb1.size; have := hb2.size; simp at *; omega)))
  go_wp2_with (refine store_dg rfl _ _ rfl _ rfl _ rfl _ 47 ((Blk.new w _ _).below hbb (by omega)) rfl ?_; intro w4 hb4 ho4)
  refine ret_dg rfl _ rfl _ _ hb4 rfl ⟨rfl, ?_⟩
  exact (((Below.refl _ w).alloc (Nat.le_refl _) _).trans (hbb.mono (by omega))).trans (ho4.below (by omega))

theorem implGenerator_calls (n i : Int) (w : World) (h2 : 2 ≤ n) (h8 : n ≤ 8) (hi : 0 ≤ i) (hi' : i ≤ n - 2) :
    Calls Try.prog 91 #[.int .i64 n, .int .i64 i] w fun e w' => e = .returned (.agg (Dg.cup n i).cells) ∧ Below w.heap.size w w' := by
  have hl := Dg.len_one n
  have hl2 : (((Dg.one n).put i.toNat (i + 1)).put (i + 1).toNat i).mate.length = 16 := by rw [Dg.len_put, Dg.len_put, hl]
  have Hl := Lib.hid hl
  have Hl2 := Lib.hid hl2
  clear hl hl2
  go_enter Try.func91, Try.ntmps91
  go_wp2_with fail
  refine (implUnit_calls _ _ (by omega) (by omega)).mono ?_
  rintro e w1 ⟨rfl, hb1⟩
  have hz1 := hb1.size
  have hr1 := (Blk.new w (Dg.zero 0).cells 47).below hb1 (by simp)
  simp only [World.size_alloc] at hz1
  go_wp2_with (refine store_dg rfl _ _ rfl _ rfl _ rfl _ 47 (Blk.newAt _ _ _ rfl) rfl ?_; intro w2 hb2 ho2)
  have hr2 := (hr1.alloc (.cells (Dg.zero 0).cells 47)).only ho2 (by omega)
  refine (implJoin_calls _ _ _ _ _ _ Hl.out hb2 (by omega) (by omega) (by omega) (by omega)).mono ?_
  rintro e w3 ⟨rfl, hb3, ho3⟩
  go_wp2_with fail
  refine (implJoin_calls _ _ _ _ _ _ Hl2.out hb3 (by omega) (by omega) (by omega) (by omega)).mono ?_
  rintro e w4 ⟨rfl, hb4, ho4⟩
  have hr4 := (hr2.only ho3 (by omega)).only ho4 (by omega)
  go_wp2_with (first | (refine load_dg rfl _ rfl _ rfl _ 47 hb4 ?_) | (refine store_dg rfl _ _ rfl _ rfl _ rfl _ 47 hr4 (Dg.size_cells _) ?_; intro w5 hb5 ho5))
  refine ret_dg rfl _ rfl _ _ hb5 rfl ⟨rfl, ?_⟩
  exact ((((((Below.refl _ w).alloc (Nat.le_refl _) _).trans (hb1.mono (by simp))).alloc (by omega) _).trans (ho2.below (by omega))).trans ((ho3.below (by omega)).trans (ho4.below (by omega)))).trans (ho5.below (by omega))

end Go.Proofs.Yticmlgnolbccjaa
