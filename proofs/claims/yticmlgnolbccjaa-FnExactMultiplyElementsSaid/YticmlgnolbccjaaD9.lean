/- The walk of the product of two diagrams with its loops, in the program. -/
import Derived.Test.YticmlgnolbccjaaD8
import Derived.Test.YticmlgnolbccjaaM4
set_option linter.unusedVariables false
set_option linter.unusedSimpArgs false
namespace Go.Proofs.Yticmlgnolbccjaa
open Go.RowKit

theorem wp_load_dg {o : Oper} {a : Act} {w : World} {K : Act → World → Prop} {Q : Exit → Act → World → Prop} (x : Operand) (ho : o.op = .load 47 x) (b : Nat) (hx : a.eval x = .pointer (some ⟨b, 0, none⟩)) (d : Dg) (T : TypeId) (h : Blk w b d.cells T)
    (hK : K (a.put o.dst (.agg d.cells)) w) : o.wp Try.prog a w K Q :=
  wp_load_row _ x ho b hx T d.cells (0, 0) _ h Try.underlying47 rfl (by rw [info_dg, d.size_cells]) hK

theorem wp_store_dg {o : Oper} {a : Act} {w : World} {K : Act → World → Prop} {Q : Exit → Act → World → Prop} (x y : Operand) (ho : o.op = .store 47 x y) (b : Nat) (hx : a.eval x = .pointer (some ⟨b, 0, none⟩)) (d : Dg) (hy : a.eval y = .agg d.cells)
    (cs : Array Value) (T : TypeId) (h : Blk w b cs T) (hs : cs.size = 17)
    (hK : ∀ w', Blk w' b d.cells T → Only w w' b → K (a.put o.dst undef) w') : o.wp Try.prog a w K Q := by
  refine wp_store_row _ x y ho b d.cells hx hy T cs h (by rw [info_dg, d.size_cells]) (by rw [hs, d.size_cells]) (all_oneCell_toArray d.oneCell) (hK _ ?_ ?_)
  · exact setRow_heap w b cs _ T _ h
  · exact ⟨rfl, rfl, rfl, by simp, fun k hk => setRow_heap_other w b k _ hk⟩


theorem all_cons {P : Program} {ops : Array Oper} {Q : Exit → Act → World → Prop} {md : Region.Mode} {fuel : Nat} {listed : Array Bool} {a : Act} {w : World} {i : Nat} {o : Oper} {rs : List Nat} (ho : ops[i]? = some o) (hg : o.guard = none)
    (h : ∀ K' : Act → World → Prop, (∀ a w, wpAny P md ops Q fuel (listed.setIfInBounds i true) a w → K' a w) → Oper.wp P o a w K' Q)
    (hs : AllReady P md ops Q fuel listed a w rs) : AllReady P md ops Q fuel listed a w (i :: rs) :=
  AllReady.cons ho (fun K' hk => by rw [if_pos (by simp [Region.wanted, hg])]; exact h K' hk) hs


set_option maxHeartbeats 1000000 in
set_option maxRecDepth 100000 in
theorem implTimes_calls (d e : Dg) (n : Nat) (hn : 1 ≤ n) (hn8 : n ≤ 8) (hds : d.size = n) (hes : e.size = n) (hpd : d.Pts) (hpe : e.Pts) (hrun : Runs d e n) (w : World) :
    Calls Try.prog 92 #[.agg d.cells, .agg e.cells] w fun ee w' => ee = .returned (.tuple #[.agg (prodD d e n).cells, .int .i64 (prodL d e n : Nat)]) ∧ Below w.heap.size w w' := by
  have Hds := Lib.hid hds
  have Hes := Lib.hid hes
  have hle := loopTo_le d e n n
  clear hds hes
  have hc0 := d.cells0
  rw [Hds.out] at hc0
  go_enter Try.func92, Try.ntmps92
  go_wp2_with (refine store_dg rfl _ _ rfl _ rfl (Dg.zero n) rfl _ 47 ((Blk.newAt _ _ _ (by simp)).alloc _) rfl ?_; intro w1 hb1 ho1; have hl1 := Blk.only (b' := w.heap.size + 1 + 1 + 1 + 1) (Blk.newAt _ _ _ (by simp)) ho1 (by omega); have hlc := hl1.cells 0; have hlf := hl1.free)
  have hA := Blk.only (b' := w.heap.size) ((((Blk.new w d.cells 47).alloc _).alloc _).alloc _ |>.alloc _) ho1 (by omega)
  have hE := Blk.only (b' := w.heap.size + 1) ((((Blk.newAt (w.alloc (.cells d.cells 47)) e.cells 47 (by simp)).alloc _).alloc _).alloc _) ho1 (by omega)
  have hR := Blk.only (b' := w.heap.size + 1 + 1) (((Blk.newAt ((w.alloc (.cells d.cells 47)).alloc (.cells e.cells 47)) (Dg.zero 0).cells 47 (by simp)).alloc _).alloc _) ho1 (by omega)
  have hbel := Below.trans (((((((Below.refl w.heap.size w).alloc (Nat.le_refl _) (.cells d.cells 47)).alloc (by simp) (.cells e.cells 47)).alloc (by simp; omega) _).alloc (by simp; omega) _).alloc (by simp; omega) _)) (ho1.below (by omega))
  have hl2 := hl1.set 0 (.int .i64 0)
  have ho2 := Only.setCell w1 (w.heap.size + 1 + 1 + 1 + 1) 0 (.int .i64 0)
  have hb2 := hb1.only ho2 (by omega)
  have hA2 := hA.only ho2 (by omega)
  have hE2 := hE.only ho2 (by omega)
  have hR2 := hR.only ho2 (by omega)
  have hbel2 := hbel.trans (ho2.below (by omega))
  have hz : w.heap.size + 5 ≤ (w1.setCell ⟨w.heap.size + 1 + 1 + 1 + 1, 0, none⟩ (.int .i64 0)).heap.size := by have := hl2.lt; omega
  clear hl1 hlc hlf hb1 hA hE hR hbel ho1 ho2
  generalize w1.setCell ⟨w.heap.size + 1 + 1 + 1 + 1, 0, none⟩ (.int .i64 0) = w2 at *
  refine (implProduct_calls d e n hn hn8 Hds.out Hes.out hpd hpe hrun _ _ _ _ _ _ w2 hA2.dgAt hE2.dgAt hb2 hl2 (by omega) (by omega) (by omega) (by omega) (by omega)).mono ?_
  rintro ee w3 ⟨rfl, hb3, hl3, hbut⟩
  have hR3 := hR2.but hbut (by simp)
  have hbel3 := hbel2.trans (hbut.below (B := w.heap.size) (by omega) (by simp; omega))
  have hz3 := hbut.size
  have hlc := hl3.cells 0
  go_wp2_with fail
  have hc := hl3.cells 0
  refine wp_region_any (by kernel_rfl) ?_
  change wpAny _ _ _ _ _ _ _ (World.drew _)
  have hb := hb3.drew
  have hl := hl3.drew
  have hR := hR3.drew
  have hbel := hbel3.drew
  generalize w3.drew = w4 at *
  have hc4 := hl.cells 0
  clear hb3 hl3 hR3 hbel3 hc hlc hbut hA2 hE2 hb2 hl2 hR2 hbel2
  repeat' (first
    | refine wpAny_done (by decide +kernel) ?_ _
    | refine wpAny_ready (rs := [0,1]) (by decide +kernel) (by simp) (all_cons (by simp only [List.getElem?_toArray, List.getElem?_cons_succ, List.getElem?_cons_zero]; rfl) rfl (fun K hK => ?_) (all_cons (by simp only [List.getElem?_toArray, List.getElem?_cons_succ, List.getElem?_cons_zero]; rfl) rfl (fun K hK => ?_) AllReady.nil))
    | refine wpAny_ready (rs := [1,2]) (by decide +kernel) (by simp) (all_cons (by simp only [List.getElem?_toArray, List.getElem?_cons_succ, List.getElem?_cons_zero]; rfl) rfl (fun K hK => ?_) (all_cons (by simp only [List.getElem?_toArray, List.getElem?_cons_succ, List.getElem?_cons_zero]; rfl) rfl (fun K hK => ?_) AllReady.nil))
    | refine wpAny_ready (rs := [0,3]) (by decide +kernel) (by simp) (all_cons (by simp only [List.getElem?_toArray, List.getElem?_cons_succ, List.getElem?_cons_zero]; rfl) rfl (fun K hK => ?_) (all_cons (by simp only [List.getElem?_toArray, List.getElem?_cons_succ, List.getElem?_cons_zero]; rfl) rfl (fun K hK => ?_) AllReady.nil))
    | refine wpAny_ready (rs := [2,3]) (by decide +kernel) (by simp) (all_cons (by simp only [List.getElem?_toArray, List.getElem?_cons_succ, List.getElem?_cons_zero]; rfl) rfl (fun K hK => ?_) (all_cons (by simp only [List.getElem?_toArray, List.getElem?_cons_succ, List.getElem?_cons_zero]; rfl) rfl (fun K hK => ?_) AllReady.nil))
    | refine wpAny_ready (rs := [0]) (by decide +kernel) (by simp) (all_cons (by simp only [List.getElem?_toArray, List.getElem?_cons_succ, List.getElem?_cons_zero]; rfl) rfl (fun K hK => ?_) AllReady.nil)
    | refine wpAny_ready (rs := [1]) (by decide +kernel) (by simp) (all_cons (by simp only [List.getElem?_toArray, List.getElem?_cons_succ, List.getElem?_cons_zero]; rfl) rfl (fun K hK => ?_) AllReady.nil)
    | refine wpAny_ready (rs := [2]) (by decide +kernel) (by simp) (all_cons (by simp only [List.getElem?_toArray, List.getElem?_cons_succ, List.getElem?_cons_zero]; rfl) rfl (fun K hK => ?_) AllReady.nil)
    | refine wpAny_ready (rs := [3]) (by decide +kernel) (by simp) (all_cons (by simp only [List.getElem?_toArray, List.getElem?_cons_succ, List.getElem?_cons_zero]; rfl) rfl (fun K hK => ?_) AllReady.nil)
    | (refine wp_load_dg _ rfl _ rfl _ _ hb ?_; refine hK _ _ ?_; clear hK K)
    | (refine wp_store_dg _ _ rfl _ rfl (prodD d e n) rfl _ _ hR (Dg.size_cells _) ?_; intro w5 hR5 ho5; refine hK _ _ ?_; clear hK K
       replace hb := hb.only ho5 (by omega); replace hl := hl.only ho5 (by omega); replace hbel := hbel.trans (ho5.below (by omega)); have hc4 := hl.cells 0; replace hR := hR5)
    | (go_simp; refine hK _ _ ?_; clear hK K))
  all_goals (go_wp2_with fail; refine ret_dg_tmp rfl _ rfl _ _ hR _ rfl rfl ?_; exact ⟨rfl, hbel⟩)
end Go.Proofs.Yticmlgnolbccjaa
