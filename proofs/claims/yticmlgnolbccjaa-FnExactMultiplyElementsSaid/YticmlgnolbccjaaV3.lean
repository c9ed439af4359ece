/- The walk of the program's product of two elements. -/
import Derived.Test.YticmlgnolbccjaaV2
import Derived.Test.YticmlgnolbccjaaU3
import Derived.StillTailTactics
set_option linter.unusedVariables false
set_option linter.unusedSimpArgs false
namespace Go.Proofs.Yticmlgnolbccjaa
open Go.RowKit Go.Maps

theorem info_tm : (Try.prog.info? 57).map (·.size) = some 18 := by kernel_rfl
theorem range_tm {w : World} {g o : Nat} {ts : List Tm} (h : w.rangeAt g o (tc ts)) (i : Nat) (t : Tm) (hi : ts[i]? = some t) : w.rangeAt g (o + i * 18) t.vals := by
  intro j v hv
  have hj : j < 18 := by
    by_cases h2 : j < 18
    · exact h2
    · rw [List.getElem?_eq_none (by rw [t.length_vals]; omega)] at hv; cases hv
  have := h (i * 18 + j) v (by rw [tc_at ts i j t hi hj]; exact hv)
  rwa [← Nat.add_assoc] at this
theorem Tm.size_cells (t : Tm) : t.cells.size = 18 := by simp [Tm.cells, t.length_vals]
theorem Tm.oneCell (t : Tm) : ∀ v ∈ t.vals, v.oneCell' = true := fun v hv => tc_oneCell [t] v (by simp only [tc, List.flatMap_cons, List.flatMap_nil, List.append_nil]; exact hv)
theorem Blk.tm_dg {w : World} {b : Nat} {t : Tm} {T : TypeId} (h : Blk w b t.cells T) : w.rangeAt b 0 t.d.list := by
  intro j v hv
  rw [Nat.zero_add, h.cells j]
  have := t.list_at j v hv
  simpa [Tm.cells] using this
theorem Blk.tm_k {w : World} {b : Nat} {t : Tm} {T : TypeId} (h : Blk w b t.cells T) : w.cell? ⟨b, 17, none⟩ = some (.int .i64 t.k) := by
  rw [h.cells]
  have := t.k_at
  simpa [Tm.cells] using this
theorem Blk.tm_size {w : World} {b : Nat} {t : Tm} {T : TypeId} (h : Blk w b t.cells T) : w.cell? ⟨b, 0, none⟩ = some (.int .i64 t.d.size) := by
  rw [h.cells]; rfl

section
variable {ops : Array Oper} {rest : List Oper} {o : Oper} {a : Act} {w : World} {Q : Exit → Act → World → Prop}
theorem load_tm_mid (hgd : o.guard = none) (x : Operand) (ho : o.op = .load 57 x) (b off : Nat) (hx : a.eval x = .pointer (some ⟨b, off, none⟩)) (t : Tm) (h : w.rangeAt b off t.vals)
    (hK : wpList Try.prog ops Q rest (a.put o.dst (.agg t.cells)) w) : wpList Try.prog ops Q (o :: rest) a w :=
  wpList_load_mid hgd _ x ho b off hx t.vals _ h Try.underlying57 rfl (by rw [t.length_vals]; exact (info_tm).trans rfl) hK
theorem load_dgw_mid (x : Operand) (ho : o.op = .load 47 x) (b off : Nat) (hx : a.eval x = .pointer (some ⟨b, off, none⟩)) (d : Dg) (h : w.rangeAt b off d.list) (hw : Region.wanted o (yielded ops a.tmps) = true)
    (hK : wpList Try.prog ops Q rest (a.put o.dst (.agg d.cells)) w) : wpList Try.prog ops Q (o :: rest) a w :=
  BigFrame.wpList_want hw fun _ hk => wp_load_mid 47 x ho b off hx d.list _ h Try.underlying47 rfl (by rw [d.length_list]; exact (info_dg).trans rfl) (hk _ _ hK)
theorem store_tm (hgd : o.guard = none) (x y : Operand) (ho : o.op = .store 57 x y) (b : Nat) (hx : a.eval x = .pointer (some ⟨b, 0, none⟩)) (t : Tm) (hy : a.eval y = .agg t.cells)
    (cs : Array Value) (T : TypeId) (h : Blk w b cs T) (hs : cs.size = 18)
    (hK : ∀ w', Blk w' b t.cells T → Only w w' b → wpList Try.prog ops Q rest (a.put o.dst undef) w') : wpList Try.prog ops Q (o :: rest) a w := by
  refine wpList_store_row hgd _ x y ho b t.cells hx hy T cs h (by rw [info_tm, t.size_cells]) (by rw [hs, t.size_cells]) (all_oneCell_toArray t.oneCell) (hK _ ?_ ?_)
  · exact setRow_heap w b cs _ T _ h
  · exact ⟨rfl, rfl, rfl, by simp, fun k hk => setRow_heap_other w b k _ hk⟩
/-- What yields at this world, in the head of a region that ends in a store. -/
theorem still_val {v : Value} (hrun : (execOp a.eval o).run Try.prog w = .ok (.value v) w) (hw : Region.wanted o (yielded ops a.tmps) = true)
    {Q : Act → Prop} (hK : wpStill Try.prog ops w Q rest (a.put o.dst v)) : wpStill Try.prog ops w Q (o :: rest) a := by
  refine wpStill_step fun K hk => ?_
  rw [if_pos hw]
  unfold Oper.still
  rw [hrun]
  exact ⟨rfl, hk _ hK⟩
theorem still_lookup (hw : Region.wanted o (yielded ops a.tmps) = true) (m x : Operand) (ho : o.op = Op.lookup 94 m x false) (b k n : Nat) (f : Dg → Int) (hm : a.eval m = .map (some b)) (h : MapIs w b k n f) (d : Dg) (hd : d.Wf) (hx : a.eval x = .agg d.cells)
    {Q : Act → Prop} (hK : wpStill Try.prog ops w Q rest (a.put o.dst (.int .i64 (f d)))) : wpStill Try.prog ops w Q (o :: rest) a := by
  refine still_val ?_ hw hK
  unfold execOp
  simp only [ho, hm, hx, Sem.run_bind, h.lookup hd, Result.andThen_ok, Sem.run_pure]
end
theorem MapIs.mono {w : World} {b k k' n : Nat} {f : Dg → Int} (h : MapIs w b k n f) (hk : k ≤ k') : MapIs w b k' n f := by
  obtain ⟨D, h1, h2⟩ := h; exact ⟨D, h1.mono hk, h2⟩

set_option maxHeartbeats 1000000 in
set_option maxRecDepth 100000 in
theorem implMulT_calls (p c : Int) (n : Nat) (ts us : List Tm) (hp : 2 ≤ p) (hp97 : p ≤ 97) (hc0 : 0 ≤ c) (hcp : c ≤ p) (hn1 : 1 ≤ n) (hn8 : n ≤ 8) (hts : Nf p n ts) (hus : Nf p n us) (hlt : ts.length ≤ 300) (hlu : us.length ≤ 300)
    (vx vy : Value) (w : World) (hx : TsS w 0 vx ts) (hy : TsS w 0 vy us) :
    Calls Try.prog 45 #[el p c n vx, el p c n vy] w fun e w' => ∃ v, e = .returned (el p c n v) ∧ TsOwn w' w.heap.size v (mulT p c n ts us) ∧ Below w.heap.size w w' := by
  obtain ⟨g1, cap1, rfl, -, hg1, hc1, hm1, hr1⟩ := hx.out
  obtain ⟨g2, cap2, rfl, -, hg2, hc2, hm2, hr2⟩ := hy.out
  have Hts := Lib.hid hts
  have Hus := Lib.hid hus
  clear hts hus hx hy
  unfold el
  have hmm := @run_makeMap Try.prog
  go_enter Try.func45, Try.ntmps45
  have hX := ((Blk.new w #[.int .i64 p, .int .i64 c, .int .i64 n, .slice (some ⟨g1, 0, none⟩) ts.length cap1] 30).alloc (.cells #[.int .i64 p, .int .i64 c, .int .i64 n, .slice (some ⟨g2, 0, none⟩) us.length cap2] 30)).alloc (.cells #[.int .i64 0, .int .i64 0, .int .i64 0, .slice none 0 0] 30) |>.alloc (.map #[] 0)
  have hY := (Blk.newAt (w.alloc (.cells #[.int .i64 p, .int .i64 c, .int .i64 n, .slice (some ⟨g1, 0, none⟩) ts.length cap1] 30)) #[.int .i64 p, .int .i64 c, .int .i64 n, .slice (some ⟨g2, 0, none⟩) us.length cap2] 30 (b := w.heap.size + 1) (by simp)).alloc (.cells #[.int .i64 0, .int .i64 0, .int .i64 0, .slice none 0 0] 30) |>.alloc (.map #[] 0)
  have hZ := Blk.newAt ((w.alloc (.cells #[.int .i64 p, .int .i64 c, .int .i64 n, .slice (some ⟨g1, 0, none⟩) ts.length cap1] 30)).alloc (.cells #[.int .i64 p, .int .i64 c, .int .i64 n, .slice (some ⟨g2, 0, none⟩) us.length cap2] 30)) #[.int .i64 0, .int .i64 0, .int .i64 0, .slice none 0 0] 30 (b := w.heap.size + 1 + 1) (by simp) |>.alloc (.map #[] 0)
  have hM := MapIs.new (((w.alloc (.cells #[.int .i64 p, .int .i64 c, .int .i64 n, .slice (some ⟨g1, 0, none⟩) ts.length cap1] 30)).alloc (.cells #[.int .i64 p, .int .i64 c, .int .i64 n, .slice (some ⟨g2, 0, none⟩) us.length cap2] 30)).alloc (.cells #[.int .i64 0, .int .i64 0, .int .i64 0, .slice none 0 0] 30)) n
  have hbl := ((((Below.refl w.heap.size w).alloc (Nat.le_refl _) (.cells #[.int .i64 p, .int .i64 c, .int .i64 n, .slice (some ⟨g1, 0, none⟩) ts.length cap1] 30)).alloc (by simp) (.cells #[.int .i64 p, .int .i64 c, .int .i64 n, .slice (some ⟨g2, 0, none⟩) us.length cap2] 30)).alloc (by simp; omega) (.cells #[.int .i64 0, .int .i64 0, .int .i64 0, .slice none 0 0] 30)).alloc (by simp; omega) (.map #[] 0)
  have hz : (((w.alloc (.cells #[.int .i64 p, .int .i64 c, .int .i64 n, .slice (some ⟨g1, 0, none⟩) ts.length cap1] 30)).alloc (.cells #[.int .i64 p, .int .i64 c, .int .i64 n, .slice (some ⟨g2, 0, none⟩) us.length cap2] 30)).alloc (.cells #[.int .i64 0, .int .i64 0, .int .i64 0, .slice none 0 0] 30)).heap.size = w.heap.size + 1 + 1 + 1 := by simp
  rw [hz] at hM
  have hr1' := rangeAt_below hr1 hbl hg1
  have hr2' := rangeAt_below hr2 hbl hg2
  have hcX := hX.cells
  have Hbl := Lib.hid hbl
  have HZ := Lib.hid hZ
  clear hz hr1 hr2 hbl hZ
  go_wp2_with fail
  generalize (((w.alloc (.cells #[.int .i64 p, .int .i64 c, .int .i64 n, .slice (some ⟨g1, 0, none⟩) ts.length cap1] 30)).alloc (.cells #[.int .i64 p, .int .i64 c, .int .i64 n, .slice (some ⟨g2, 0, none⟩) us.length cap2] 30)).alloc (.cells #[.int .i64 0, .int .i64 0, .int .i64 0, .slice none 0 0] 30)).alloc (.map #[] 0) = w2 at *
  have hzm := hM.lt
  generalize hbm : w.heap.size + 1 + 1 + 1 = bm at *
  have hbm1 : w.heap.size + 1 + 1 < bm := by omega
  clear hbm hmm
  go_loopw [16] (fun i wr => ∃ j : Nat, j ≤ ts.length ∧ i = .int .i64 j ∧ MapIs wr bm (300 * j) n (coef (mulTo p c n ts us j)) ∧ But w2 wr [bm]) (fun i _ => ts.length - (intOf i).toNat)
  case atStart => exact ⟨0, by omega, rfl, hM, But.refl _ _⟩
  case round =>
    clear hM
    obtain ⟨j, hj, rfl, hM, hbut⟩ := hrel
    have hz3 := hbut.size
    have hX3 := hX.but hbut (by simp; omega)
    have hY3 := hY.but hbut (by simp; omega)
    by_cases hlt : j < ts.length
    · have hT := Hts.out.mem ts[j] (List.getElem_mem hlt)
      have hbz : Below w.heap.size w2 wr := hbut.below (by omega) (by simp; omega)
      have hra := range_tm (rangeAt_below hr1' hbz hg1) j ts[j] (List.getElem?_eq_getElem hlt)
      rw [Nat.zero_add] at hra
      have hcY := hY3.cells
      have hzr := wr.heap.size
      have hbm3 : bm < wr.heap.size := by omega
      have hYa := hY3.alloc (.cells (Tm.cells ⟨Dg.zero 0, 0⟩) 57)
      have hba := hbut.alloc (.cells (Tm.cells ⟨Dg.zero 0, 0⟩) 57)
      have hMa := hM.alloc (.cells (Tm.cells ⟨Dg.zero 0, 0⟩) 57)
      go_wp2_with (first | (refine load_tm_mid rfl _ rfl _ _ rfl _ hra ?_) | (refine store_tm rfl _ _ rfl _ rfl ts[j] rfl _ 57 (Blk.newAt _ _ _ rfl) rfl ?_; intro w3 ht3 ho3; have hY4 := hYa.only ho3 (by omega); have hcY4 := hY4.cells))
      have hbut4 := hba.only ho3 (.inr (by omega))
      have hM4 := hMa.only ho3 (by omega)
      have hX4 := (hX3.alloc (.cells (Tm.cells ⟨Dg.zero 0, 0⟩) 57)).only ho3 (by omega)
      have hrb4 := rangeAt_below (rangeAt_below hr2' hbz hg2) (Below.trans ((Below.refl wr.heap.size wr).alloc (Nat.le_refl _) (.cells (Tm.cells ⟨Dg.zero 0, 0⟩) 57)) (ho3.below (Nat.le_refl _))) (by omega)
      have hz4 : wr.heap.size < w3.heap.size := ht3.lt
      have HT := Lib.hid hT
      clear hYa hba hMa hM hX3 hY3 hcY hra hbut hT ho3 hcY4 hbz hzr
      generalize hbt : wr.heap.size = bt at *
      clear hbt
      go_loopw [23] (fun i wq => ∃ m : Nat, m ≤ us.length ∧ i = .int .i64 m ∧ MapIs wq bm (300 * j + m) n (coef (mrow p c n (mulTo p c n ts us j) ts[j] us m)) ∧ But w3 wq [bm]) (fun i _ => us.length - (intOf i).toNat)
      case atStart => exact ⟨0, by omega, rfl, hM4, But.refl _ _⟩
      case round =>
        clear hM4
        obtain ⟨m, hm, rfl, hM, hbut⟩ := hrel
        have hz5 := hbut.size
        by_cases hltm : m < us.length
        · have hU := Hus.out.mem us[m] (List.getElem_mem hltm)
          have hbz : Below w.heap.size w3 wr := hbut.below (by omega) (by simp; omega)
          have hrb := range_tm (rangeAt_below hrb4 hbz hg2) m us[m] (List.getElem?_eq_getElem hltm)
          rw [Nat.zero_add] at hrb
          have htA := ht3.but hbut (by simp; omega)
          have hXA := hX4.but hbut (by simp; omega)
          have htB := htA.alloc (.cells (Tm.cells ⟨Dg.zero 0, 0⟩) 57)
          have hba := hbut.alloc (.cells (Tm.cells ⟨Dg.zero 0, 0⟩) 57)
          have hMa := hM.alloc (.cells (Tm.cells ⟨Dg.zero 0, 0⟩) 57)
          have hXB := hXA.alloc (.cells (Tm.cells ⟨Dg.zero 0, 0⟩) 57)
          go_wp2_with (first | (refine load_tm_mid rfl _ rfl _ _ rfl _ hrb ?_) | (refine store_tm rfl _ _ rfl _ rfl us[m] rfl _ 57 (Blk.newAt _ _ _ rfl) rfl ?_; intro w4 hu4 ho4; have htC := htB.only ho4 (by omega)) | (refine load_dg_mid rfl _ rfl _ _ rfl ts[j].d htC.tm_dg ?_) | (refine load_dg_mid rfl _ rfl _ _ rfl us[m].d hu4.tm_dg ?_))
          have hM4 := hMa.only ho4 (by omega)
          have hXC := hXB.only ho4 (by omega)
          have hbuC := hba.only ho4 (.inr (by omega))
          have hz6 : wr.heap.size < w4.heap.size := hu4.lt
          clear htB hba hMa hXB htA hXA hM hbut hrb hbz ho4
          generalize hbu : wr.heap.size = bu at *
          clear hbu
          refine (implMul_calls ts[j].d us[m].d n HT.out.1 hU.1 HT.out.2.1 hU.2.1 _).mono ?_
          rintro e w5 ⟨rfl, hb5⟩
          have hz7 := hb5.size
          have hMd := (hM4.below hb5 (by omega)).alloc (.cells (Dg.zero 0).cells 47)
          have hXd := (hXC.below hb5 (by omega)).alloc (.cells (Dg.zero 0).cells 47)
          have htd := (htC.below hb5 (by omega)).alloc (.cells (Dg.zero 0).cells 47)
          have hud := (hu4.below hb5 (by omega)).alloc (.cells (Dg.zero 0).cells 47)
          have hbd := (hbuC.ext hb5).alloc (.cells (Dg.zero 0).cells 47)
          clear hM4 hXC htC hu4 hbuC hb5
          go_wp2_with (refine store_dg rfl _ _ rfl _ rfl (prodD ts[j].d us[m].d n) rfl _ 47 (Blk.newAt _ _ _ rfl) rfl ?_; intro w6 hd6 ho6)
          have hM6 := hMd.only ho6 (by omega)
          have hX6 := hXd.only ho6 (by omega)
          have ht6 := htd.only ho6 (by omega)
          have hu6 := hud.only ho6 (by omega)
          have hb6 := hbd.only ho6 (.inr (by omega))
          clear hMd hXd htd hud hbd ho6
          generalize w5.heap.size = bd at *
          refine wp_region_still_tail 24 (by kernel_rfl) (by kernel_rfl) ?_
          simp only [List.take_succ_cons, List.take_zero, List.drop_succ_cons, List.drop_zero]
          change wpStill _ _ w6.drew (fun a' => wpList _ _ _ _ a' w6.drew) _ _
          replace hM6 := hM6.drew
          replace hX6 := hX6.drew
          replace ht6 := ht6.drew
          replace hu6 := hu6.drew
          replace hd6 := hd6.drew
          replace hb6 := hb6.trans (But.drew w6 _)
          generalize w6.drew = w7 at *
          have hkA := ht6.tm_k
          have hkB := hu6.tm_k
          have hcX := hX6.cells
          have hLL : prodL ts[j].d us[m].d n ≤ n := loopTo_le ts[j].d us[m].d n n
          have hPW := powm_range p c (prodL ts[j].d us[m].d n) (by omega)
          have hgd := prod_good HT.out.1 hU.1 HT.out.2.1 hU.2.1
          have hds : (prodD ts[j].d us[m].d n).size = n := prodD_size
          have hta := HT.out.2.2
          have hua := hU.2.2
          have hp0 : (p == 0) = false := beq_eq_false_iff_ne.2 (by omega)
          have hacc := mrow_nf (c := c) hp Hus.out (mulTo_nf (c := c) hp Hts.out Hus.out j hj) ⟨HT.out.1, HT.out.2.1⟩ m hm
          have hA := coef_range hacc (by omega) (prodD ts[j].d us[m].d n)
          have hstep : coef (mrow p c n (mulTo p c n ts us j) ts[j] us (m + 1)) = fun e => if e = prodD ts[j].d us[m].d n then (coef (mrow p c n (mulTo p c n ts us j) ts[j] us m) (prodD ts[j].d us[m].d n) + ts[j].k * us[m].k % p * powm p c (prodL ts[j].d us[m].d n)) % p else coef (mrow p c n (mulTo p c n ts us j) ts[j] us m) e := by
            funext e
            rw [mrow_succ _ _ _ hltm]
            exact coef_put hp hacc e
          have Hstep := Lib.hid hstep
          clear hstep hacc
          generalize coef (mrow p c n (mulTo p c n ts us j) ts[j] us m) = fA at *
          generalize prodD ts[j].d us[m].d n = dd at *
          generalize prodL ts[j].d us[m].d n = LL at *
          generalize hA0 : fA dd = A at hA Hstep
          have HA0 := Lib.hid hA0
          clear hA0
          generalize ts[j].k = ka at *
          generalize us[m].k = kb at *
          have hp1 : ¬ p = 0 := by omega
          have hab0 : 0 ≤ ka * kb := Int.mul_nonneg (by omega) (by omega)
          have hab1 : ka * kb ≤ 97 * 97 := Int.mul_le_mul (by omega) (by omega) (by omega) (by omega)
          have hr1 : IntKind.i64.wrap (ka * kb) = ka * kb := IntWalk.i64_in _ (by omega)
          have hr2 : (ka * kb).tmod p = ka * kb % p := Int.tmod_eq_emod_of_nonneg hab0
          have hq0 := Int.emod_nonneg (ka * kb) (show p ≠ 0 by omega)
          have hq1 := Int.emod_lt_of_pos (ka * kb) (show 0 < p by omega)
          have hf0 : 0 ≤ ka * kb % p * powm p c LL := Int.mul_nonneg (by omega) (by omega)
          have hf1 : ka * kb % p * powm p c LL ≤ 97 * 97 := Int.mul_le_mul (by omega) (by omega) (by omega) (by omega)
          have hr3 : IntKind.i64.wrap (ka * kb % p * powm p c LL) = ka * kb % p * powm p c LL := IntWalk.i64_in _ (by omega)
          have hr4 : IntKind.i64.wrap (A + ka * kb % p * powm p c LL) = A + ka * kb % p * powm p c LL := IntWalk.i64_in _ (by omega)
          have hr5 : (A + ka * kb % p * powm p c LL).tmod p = (A + ka * kb % p * powm p c LL) % p := Int.tmod_eq_emod_of_nonneg (by omega)
          have hy0 := Int.emod_nonneg (A + ka * kb % p * powm p c LL) (show p ≠ 0 by omega)
          have hy1 := Int.emod_lt_of_pos (A + ka * kb % p * powm p c LL) (show 0 < p by omega)
          have hwf : (Lit.int .i64 ((A + ka * kb % p * powm p c LL) % p)).wf = true := WalkArith.wf_i64 (by omega)
          have hPw := fun W => implPower_calls p c LL W hp hp97 hc0 hcp (by omega) (by omega)
          simp only [Int.toNat_natCast] at hPw
          have HPw := Lib.hid hPw
          have Hwf := Lib.hid hwf
          clear hPw hwf hy0 hy1
          have hlk : ∀ {o : Oper} {a : Act} {Q : Act → Prop} {rest ops : List Oper}, True := fun {_ _ _ _ _} => trivial
          clear hlk
          repeat (first
            | (refine still_load_dg _ rfl _ rfl _ _ hd6 rfl ?_; simp only [Act.put, List.setIfInBounds_toArray, List.set_cons_zero, List.set_cons_succ])
            | (refine still_lookup rfl _ _ rfl bm _ n fA rfl hM6 dd hgd.wf rfl ?_; rw [HA0.out]; simp only [Act.put, List.setIfInBounds_toArray, List.set_cons_zero, List.set_cons_succ])
            | (still_call ((HPw.out _).mono fun e w' ⟨h, h'⟩ => ⟨h, h'.symm⟩))
            | still_step)
          refine wpStill_nil ?_
          clear hr1 hr2 hr3 hr4 hr5
          have Hds := Lib.hid hds
          clear hds
          go_wp2_with (at_mapUpdate; refine update_dg rfl _ _ _ rfl bm _ n fA rfl hM6 (by omega) dd hgd Hds.out rfl _ rfl Hwf.out ?_; intro w8 hM8 hg8)
          have hb8 := hb6.trans (show But w7 w8 [bm] from ⟨hg8.os, hg8.tape, hg8.output, hg8.size, fun b hb hn => hg8.block b hb (by simp at hn ⊢; exact hn)⟩)
          go_roundw
          case rel => exact ⟨m + 1, by omega, by go_num, by rw [Hstep.out]; exact hM8, hb8⟩
          case measure => simp [intOf]; omega
        · obtain rfl : m = us.length := by omega
          rw [← mulTo_succ j hlt] at hM
          go_wp2_with fail
          go_roundw
          case rel => exact ⟨j + 1, by omega, by go_num, hM.mono (by omega), hbut4.trans hbut⟩
          case measure => simp [intOf]; omega
    · obtain rfl : j = ts.length := by omega
      have hXw := hX3
      have hTn : Nf p n (mulT p c n ts us) := mulT_nf hp Hts.out Hus.out
      have hcr := coef_range hTn (by omega)
      have hcall := with_calls p c n n (coef (mulTo p c n ts us ts.length)) (mulT p c n ts us) hp hp97 hTn (fun d _ => Int.emod_eq_of_lt (hcr d).1 (hcr d).2) (fun d _ => by have := hcr d; unfold mulT at this; omega) w.heap.size bm (300 * ts.length) _ _ wr hX3 hM (by omega)
      rw [szOf_same] at hcall
      have hZ3 := HZ.out.but hbut (by simp; omega)
      have hbl3 := Hbl.out.trans (hbut.below (B := w.heap.size) (by omega) (by simp; omega))
      have Hcall := Lib.hid hcall
      clear hcall hM hbut hcr hTn
      go_wp2_with fail
      refine Hcall.out.mono ?_
      rintro e w6 ⟨v, rfl, hv6, hb6⟩
      have hZ6 := hZ3.below hb6 hZ3.lt
      have hbl6 := hbl3.trans (hb6.mono (by omega))
      have h1c : v.oneCell' = true := by obtain ⟨ad, cap, rfl, -, -⟩ := hv6.slice; rfl
      go_wp2_with (first | (refine store_el rfl _ _ rfl _ rfl _ rfl rfl (el_all h1c) _ _ hZ6 rfl ?_; intro w9 hZ9 ho9))
      refine ret_el rfl _ rfl _ rfl _ hZ9 rfl ?_
      exact ⟨v, rfl, (hv6.only ho9 (hv6.ne_low (by omega))).mono (by omega), hbl6.trans (ho9.below (by omega))⟩
end Go.Proofs.Yticmlgnolbccjaa
