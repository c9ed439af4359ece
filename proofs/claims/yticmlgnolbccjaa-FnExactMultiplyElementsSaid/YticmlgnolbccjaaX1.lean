/- Stores into the midst of blocks; the copies of the statements' own diagrams and terms. -/
import Derived.Test.YticmlgnolbccjaaW3
set_option linter.unusedVariables false
set_option linter.unusedSimpArgs false
namespace Go.Proofs.Yticmlgnolbccjaa
open Go.RowKit

/-- A list with a part laid anew. -/
def spl (cs : List Value) (o : Nat) (ns : List Value) : List Value := cs.take o ++ ns ++ cs.drop (o + ns.length)
theorem spl_cons (cs : List Value) (o : Nat) (v : Value) (ns : List Value) (h : o + (ns.length + 1) ≤ cs.length) : spl (cs.set o v) (o + 1) ns = spl cs o (v :: ns) := by
  unfold spl
  rw [List.length_cons, show o + 1 + ns.length = o + (ns.length + 1) from by omega]
  rw [List.drop_set_of_lt (by omega)]
  rw [List.take_succ_eq_append_getElem (by rw [List.length_set]; omega)]
  rw [List.take_set_of_le (by omega), List.getElem_set_self]
  simp
theorem Only.setCells (b : Nat) : ∀ (ns : List Value) (w : World) (o : Nat), Only w (w.setCells b o ns) b
  | [], w, o => Only.refl w b
  | v :: ns, w, o => (Only.setCell w b o v).trans (Only.setCells b ns _ (o + 1))
theorem Blk.setCells {b : Nat} {T : TypeId} : ∀ (ns : List Value) (w : World) (o : Nat) (cs : List Value), Blk w b cs.toArray T → o + ns.length ≤ cs.length → Blk (w.setCells b o ns) b (spl cs o ns).toArray T
  | [], w, o, cs, h, _ => by
    have : spl cs o [] = cs := by unfold spl; simp
    rw [this]; exact h
  | v :: ns, w, o, cs, h, hl => by
    rw [List.length_cons] at hl
    have h1 := h.set o v
    have e1 : cs.toArray.setIfInBounds o v = (cs.set o v).toArray := by simp
    rw [e1] at h1
    have h2 := Blk.setCells ns _ (o + 1) (cs.set o v) h1 (by rw [List.length_set]; omega)
    rw [spl_cons cs o v ns hl] at h2
    exact h2
section
variable {ops : Array Oper} {rest : List Oper} {o : Oper} {a : Act} {w : World} {Q : Exit → Act → World → Prop}
/-- A store of some cells into the midst of a block. -/
theorem store_mid (hgd : o.guard = none) (ty : TypeId) (x y : Operand) (ho : o.op = .store ty x y) (b off : Nat) (hx : a.eval x = .pointer (some ⟨b, off, none⟩)) (ns : List Value) (hy : a.eval y = .agg ns.toArray)
    (hi : (Try.prog.info? ty).map (·.size) = some ns.length) (h1 : ∀ v ∈ ns, v.oneCell' = true) (cs : List Value) (T : TypeId) (h : Blk w b cs.toArray T) (hl : off + ns.length ≤ cs.length)
    (hK : ∀ w', Blk w' b (spl cs off ns).toArray T → Only w w' b → wpList Try.prog ops Q rest (a.put o.dst undef) w') : wpList Try.prog ops Q (o :: rest) a w := by
  refine wpList_store_mid hgd ty x y ho b off ns.toArray hx hy ?_ (by simpa using hi) (all_oneCell_toArray h1) ?_
  · intro j hj
    have hj' : j < ns.length := by simpa using hj
    refine ⟨?_, h.free _⟩
    rw [h.cells]
    simp
    omega
  · have := hK (w.setCells b off ns) (Blk.setCells ns w off cs h hl) (Only.setCells b ns w off)
    simpa using this
end

/-- Sixteen bytes. -/
def byt (f : Nat → Int) : List Value := (List.range 16).map fun i => .int .u8 (f i)
theorem byt_len (f : Nat → Int) : (byt f).length = 16 := by simp [byt]
theorem byt_get (f : Nat → Int) (i : Nat) (h : i < 16) : (byt f)[i]? = some (.int .u8 (f i)) := by simp [byt, h]
theorem byt_set (f : Nat → Int) (i : Nat) (v : Int) (h : i < 16) : (byt f).set i (.int .u8 v) = byt fun j => if j = i then v else f j := by
  apply List.ext_getElem?
  intro j
  rw [List.getElem?_set]
  by_cases hj : j < 16
  · rw [byt_get f j hj, byt_get (fun j => if j = i then v else f j) j hj]
    by_cases h1 : i = j
    · subst h1; simp [byt_len, h]
    · rw [if_neg h1, if_neg (fun e => h1 e.symm)]
  · rw [List.getElem?_eq_none (by rw [byt_len]; omega)]
    by_cases h1 : i = j
    · omega
    · rw [if_neg h1, List.getElem?_eq_none (by rw [byt_len]; omega)]
theorem byt_one (f : Nat → Int) : ∀ v ∈ byt f, v.oneCell' = true := by
  intro v hv
  simp only [byt, List.mem_map] at hv
  obtain ⟨i, _, rfl⟩ := hv; rfl
theorem list_byt (d : Dg) : d.list = .int .i64 d.size :: byt d.m := rfl
theorem byt_congr {f g : Nat → Int} (h : ∀ i, i < 16 → f i = g i) : byt f = byt g := List.map_congr_left fun i hi => by rw [h i (List.mem_range.1 hi)]

section
variable {ops : Array Oper} {rest : List Oper} {o : Oper} {a : Act} {w : World} {Q : Exit → Act → World → Prop}
theorem load_byt (hgd : o.guard = none) (x : Operand) (ho : o.op = .load 43 x) (b off : Nat) (hx : a.eval x = .pointer (some ⟨b, off, none⟩)) (f : Nat → Int) (h : w.rangeAt b off (byt f))
    (hK : wpList Try.prog ops Q rest (a.put o.dst (.agg (byt f).toArray)) w) : wpList Try.prog ops Q (o :: rest) a w :=
  wpList_load_mid hgd _ x ho b off hx (byt f) _ h Try.underlying43 rfl (by rw [info_mate, byt_len]) hK
theorem Blk.rng {b : Nat} {T : TypeId} {cs : List Value} (h : Blk w b cs.toArray T) : w.rangeAt b 0 cs := by
  intro j v hv
  rw [Nat.zero_add, h.cells]
  simpa using hv
theorem Blk.rng1 {b : Nat} {T : TypeId} {u : Value} {cs : List Value} (h : Blk w b (u :: cs).toArray T) : w.rangeAt b 1 cs := by
  intro j v hv
  rw [h.cells, Nat.add_comm]
  simpa using hv
theorem ret_byt {fn : Func} {R : Ending → World → Prop} {p : Tmp} (hr : fn.results = #[.cell p 43]) (b : Nat) (hp : a.tmps.getD p undef = .pointer (some ⟨b, 0, none⟩)) (f : Nat → Int) (T : TypeId) (h : Blk w b (byt f).toArray T)
    (hd : a.defers = []) (hR : R (.returned (.agg (byt f).toArray)) w) : bodyPost Try.prog fn R .ret a w :=
  bodyPost_ret (results_cell_row hr _ w b T (byt f).toArray (0, 0) _ hp h Try.underlying43 rfl (by rw [info_mate]; simp [byt_len])) hd hR
end

set_option maxRecDepth 100000 in
theorem toByte_calls (f : Nat → Int) (w : World) : Calls Try.prog 71 #[.agg (byt f).toArray] w fun e w' => e = .returned (.agg (byt f).toArray) ∧ Below w.heap.size w w' := by
  have h1 := ((Blk.new w (byt f).toArray 43).alloc (.cells (byt fun _ => 0).toArray 43)).alloc (.cells (byt fun _ => 0).toArray 43)
  have h2 := (Blk.newAt (w.alloc (.cells (byt f).toArray 43)) (byt fun _ => 0).toArray 43 (b := w.heap.size + 1) (by simp)).alloc (.cells (byt fun _ => 0).toArray 43)
  have h3 := Blk.newAt ((w.alloc (.cells (byt f).toArray 43)).alloc (.cells (byt fun _ => 0).toArray 43)) (byt fun _ => 0).toArray 43 (b := w.heap.size + 1 + 1) (by simp)
  have hbl := (((Below.refl w.heap.size w).alloc (Nat.le_refl _) (.cells (byt f).toArray 43)).alloc (by simp) (.cells (byt fun _ => 0).toArray 43)).alloc (by simp; omega) (.cells (byt fun _ => 0).toArray 43)
  go_enter Try.func71, Try.ntmps71
  go_wp2_with fail
  have hw : ((w.alloc (.cells (byt f).toArray 43)).alloc (.cells (byt fun _ => 0).toArray 43)).alloc (.cells (byt fun _ => 0).toArray 43) = ((w.alloc (.cells (byt f).toArray 43)).alloc (.cells #[.int .u8 0, .int .u8 0, .int .u8 0, .int .u8 0, .int .u8 0, .int .u8 0, .int .u8 0, .int .u8 0, .int .u8 0, .int .u8 0, .int .u8 0, .int .u8 0, .int .u8 0, .int .u8 0, .int .u8 0, .int .u8 0] 43)).alloc (.cells #[.int .u8 0, .int .u8 0, .int .u8 0, .int .u8 0, .int .u8 0, .int .u8 0, .int .u8 0, .int .u8 0, .int .u8 0, .int .u8 0, .int .u8 0, .int .u8 0, .int .u8 0, .int .u8 0, .int .u8 0, .int .u8 0] 43) := rfl
  rw [← hw]
  clear hw
  generalize ((w.alloc (.cells (byt f).toArray 43)).alloc (.cells (byt fun _ => 0).toArray 43)).alloc (.cells (byt fun _ => 0).toArray 43) = w2 at *
  go_loopw [4] (fun i wr => ∃ j : Nat, j ≤ 16 ∧ i = .int .i64 j ∧ Blk wr (w.heap.size + 1 + 1) (byt fun i => if i < j then f i else 0).toArray 43 ∧ Only w2 wr (w.heap.size + 1 + 1)) (fun i _ => 16 - (intOf i).toNat)
  case atStart => exact ⟨0, by omega, rfl, by simpa using h3, Only.refl _ _⟩
  case round =>
    clear h3
    obtain ⟨j, hj, rfl, h3, ho⟩ := hrel
    by_cases hlt : j < 16
    · have hc1 := (h1.only ho (by omega)).cells j
      have hg1 := byt_get f j hlt
      simp only [List.getElem?_toArray] at hc1
      rw [hg1] at hc1
      have hc3 := h3.cells j
      have hf3 := h3.free
      simp only [List.getElem?_toArray] at hc3
      rw [byt_get _ j hlt] at hc3
      have hs := h3.set j (.int .u8 (f j))
      have hs2 := byt_set (fun i => if i < j then f i else 0) j (f j) hlt
      have e1 : (byt fun i => if i < j then f i else 0).toArray.setIfInBounds j (.int .u8 (f j)) = ((byt fun i => if i < j then f i else 0).set j (.int .u8 (f j))).toArray := by simp
      have e2 : (byt fun k => if k = j then f j else if k < j then f k else 0) = byt fun i => if i < j + 1 then f i else 0 := byt_congr fun i _ => by
        by_cases h : i = j
        · subst h; rw [if_pos rfl, if_pos (by omega)]
        · rw [if_neg h]
          by_cases h2 : i < j
          · rw [if_pos h2, if_pos (by omega)]
          · rw [if_neg h2, if_neg (by omega)]
      rw [e1, hs2, e2] at hs
      have ho2 := ho.trans (Only.setCell wr (w.heap.size + 1 + 1) j (.int .u8 (f j)))
      have Hs := Lib.hid hs
      have Ho := Lib.hid ho2
      clear hs hs2 e1 e2 ho2 hg1
      go_wp2_with fail
      go_roundw
      case rel => exact ⟨j + 1, by omega, by go_num, Hs.out, Ho.out⟩
      case measure => simp [intOf]; omega
    · obtain rfl : j = 16 := by omega
      have e2 : (byt fun i => if i < 16 then f i else 0) = byt f := byt_congr fun i hi => by rw [if_pos hi]
      rw [e2] at h3
      have h2' := h2.only ho (by omega)
      have hb2 := hbl.trans (ho.below (by omega))
      clear e2
      go_wp2_with (first | (refine load_byt rfl _ rfl _ _ rfl f h3.rng ?_) | (refine store_mid rfl _ _ _ rfl _ 0 rfl (byt f) rfl (by rw [info_mate, byt_len]) (byt_one f) _ _ h2' (by simp [byt_len]) ?_; intro w5 h5 ho5))
      have e3 : spl (byt fun _ => 0) 0 (byt f) = byt f := by unfold spl; rw [List.take_zero, List.drop_eq_nil_of_le (by simp [byt_len])]; simp
      rw [e3] at h5
      exact ret_byt rfl _ rfl f _ h5 rfl ⟨rfl, hb2.trans (ho5.below (by omega))⟩

theorem dg_list_len (d : Dg) : d.list.length = 17 := d.length_list
theorem zero_list (n : Int) : (Dg.zero n).list = .int .i64 n :: byt fun _ => 0 := rfl

theorem spl_byt (v : Value) (f g : Nat → Int) : spl (v :: byt f) 1 (byt g) = v :: byt g := by
  unfold spl
  rw [byt_len, List.take_succ_cons, List.take_zero, List.drop_eq_nil_of_le (by simp [byt_len])]; simp
set_option maxRecDepth 100000 in
theorem toDiagram_calls (d : Dg) (w : World) : Calls Try.prog 30 #[.agg d.cells] w fun e w' => e = .returned (.agg d.cells) ∧ Below w.heap.size w w' := by
  have h1 := ((Blk.new w d.cells 45).alloc (.cells (Dg.zero 0).cells 47)).alloc (.cells (Dg.zero 0).cells 47)
  have h2 := (Blk.newAt (w.alloc (.cells d.cells 45)) (Dg.zero 0).cells 47 (b := w.heap.size + 1) (by simp)).alloc (.cells (Dg.zero 0).cells 47)
  have h3 := Blk.newAt ((w.alloc (.cells d.cells 45)).alloc (.cells (Dg.zero 0).cells 47)) (Dg.zero 0).cells 47 (b := w.heap.size + 1 + 1) (by simp)
  have hbl := (((Below.refl w.heap.size w).alloc (Nat.le_refl _) (.cells d.cells 45)).alloc (by simp) (.cells (Dg.zero 0).cells 47)).alloc (by simp; omega) (.cells (Dg.zero 0).cells 47)
  have hd0 := d.cells0
  have hz0 := (Dg.zero 0).cells0
  go_enter Try.func30, Try.ntmps30
  go_upto_region 2 with fail
  have hw : ((w.alloc (.cells d.cells 45)).alloc (.cells (Dg.zero 0).cells 47)).alloc (.cells (Dg.zero 0).cells 47) = ((w.alloc (.cells d.cells 45)).alloc (.cells #[.int .i64 0, .int .u8 0, .int .u8 0, .int .u8 0, .int .u8 0, .int .u8 0, .int .u8 0, .int .u8 0, .int .u8 0, .int .u8 0, .int .u8 0, .int .u8 0, .int .u8 0, .int .u8 0, .int .u8 0, .int .u8 0, .int .u8 0] 47)).alloc (.cells #[.int .i64 0, .int .u8 0, .int .u8 0, .int .u8 0, .int .u8 0, .int .u8 0, .int .u8 0, .int .u8 0, .int .u8 0, .int .u8 0, .int .u8 0, .int .u8 0, .int .u8 0, .int .u8 0, .int .u8 0, .int .u8 0, .int .u8 0] 47) := rfl
  rw [← hw]
  clear hw
  generalize ((w.alloc (.cells d.cells 45)).alloc (.cells (Dg.zero 0).cells 47)).alloc (.cells (Dg.zero 0).cells 47) = w2 at *
  have hc1 := h1.cells
  have hc3 := h3.cells
  have hf3 := h3.free
  have h1a := h1.other ⟨w.heap.size + 1 + 1, 0, none⟩ (.int .i64 d.size) (by simp; omega)
  have h2a := h2.other ⟨w.heap.size + 1 + 1, 0, none⟩ (.int .i64 d.size) (by simp)
  have h3a := h3.set 0 (.int .i64 d.size)
  have e3 : (Dg.zero 0).cells.setIfInBounds 0 (.int .i64 d.size) = (Value.int .i64 d.size :: byt fun _ => 0).toArray := rfl
  rw [e3] at h3a
  have hba := hbl.trans ((Only.setCell w2 (w.heap.size + 1 + 1) 0 (.int .i64 d.size)).below (B := w.heap.size) (by omega))
  have h1r : Blk (w2.setCell ⟨w.heap.size + 1 + 1, 0, none⟩ (.int .i64 d.size)) w.heap.size (Value.int .i64 d.size :: byt d.m).toArray 45 := h1a
  have hzz := h3a.lt
  clear e3
  go_wp2_with (refine load_byt rfl _ rfl _ _ rfl d.m h1r.rng1 ?_)
  generalize w2.setCell ⟨w.heap.size + 1 + 1, 0, none⟩ (.int .i64 d.size) = w3 at *
  refine (toByte_calls d.m w3).mono ?_
  rintro e w4 ⟨rfl, hb4⟩
  have h3b := h3a.below hb4 hzz
  have h2b := h2a.below hb4 h2a.lt
  have hbb := hba.trans (hb4.mono (by omega))
  have hz4 := hb4.size
  clear h1 h2 h3 hc1 hc3 hf3 h1a h1r h2a h3a hb4
  go_wp2_with (first | (refine store_mid rfl _ _ _ rfl _ 1 rfl (byt d.m) rfl (by rw [info_mate, byt_len]) (byt_one _) _ _ h3b (by simp [byt_len]) ?_; intro w5 h5 ho5; have h2c := h2b.only ho5 (by omega); rw [spl_byt] at h5; have h5d : Blk w5 (w.heap.size + 1 + 1) d.cells 47 := h5) | (refine load_dg rfl _ rfl _ rfl d _ h5d ?_) | (refine store_dg rfl _ _ rfl _ rfl d rfl _ _ h2c rfl ?_; intro w6 h6 ho6))
  exact ret_dg rfl _ rfl d _ h6 rfl ⟨rfl, (hbb.trans (ho5.below (by omega))).trans (ho6.below (by omega))⟩

theorem ret_tm {a : Act} {w : World} {fn : Func} {R : Ending → World → Prop} {p : Tmp} (hr : fn.results = #[.cell p 57]) (b : Nat) (hp : a.tmps.getD p undef = .pointer (some ⟨b, 0, none⟩)) (t : Tm) (T : TypeId) (h : Blk w b t.cells T)
    (hd : a.defers = []) (hR : R (.returned (.agg t.cells)) w) : bodyPost Try.prog fn R .ret a w :=
  bodyPost_ret (results_cell_row hr _ w b T t.cells (0, 0) _ hp h Try.underlying57 rfl (by rw [info_tm, t.size_cells])) hd hR
theorem info_ltm : (Try.prog.info? 103).map (·.size) = some 18 := by kernel_rfl
theorem info_ldg : (Try.prog.info? 45).map (·.size) = some 17 := by kernel_rfl
section
variable {ops : Array Oper} {rest : List Oper} {o : Oper} {a : Act} {w : World} {Q : Exit → Act → World → Prop}
theorem load_ltm (hgd : o.guard = none) (x : Operand) (ho : o.op = .load 103 x) (b off : Nat) (hx : a.eval x = .pointer (some ⟨b, off, none⟩)) (t : Tm) (h : w.rangeAt b off t.vals)
    (hK : wpList Try.prog ops Q rest (a.put o.dst (.agg t.cells)) w) : wpList Try.prog ops Q (o :: rest) a w :=
  wpList_load_mid hgd _ x ho b off hx t.vals _ h Try.underlying103 rfl (by rw [t.length_vals]; exact (info_ltm).trans rfl) hK
theorem load_ldg (hgd : o.guard = none) (x : Operand) (ho : o.op = .load 45 x) (b off : Nat) (hx : a.eval x = .pointer (some ⟨b, off, none⟩)) (d : Dg) (h : w.rangeAt b off d.list)
    (hK : wpList Try.prog ops Q rest (a.put o.dst (.agg d.cells)) w) : wpList Try.prog ops Q (o :: rest) a w :=
  wpList_load_mid hgd _ x ho b off hx d.list _ h Try.underlying45 rfl (by rw [d.length_list]; exact (info_ldg).trans rfl) hK
end
theorem spl_tm (d e : Dg) (k : Int) : spl (Tm.vals ⟨d, k⟩) 0 e.list = Tm.vals ⟨e, k⟩ := by
  unfold spl Tm.vals
  rw [List.take_zero, e.length_list, List.drop_append_of_le_length (by rw [Dg.length_list]; omega), List.drop_eq_nil_of_le (by rw [Dg.length_list]; omega)]; simp
theorem set_tm_k (d : Dg) (k x : Int) : (Tm.cells ⟨d, k⟩).setIfInBounds 17 (.int .i64 x) = Tm.cells ⟨d, x⟩ := rfl

set_option maxRecDepth 100000 in
theorem toTerm_calls (t : Tm) (w : World) : Calls Try.prog 88 #[.agg t.cells] w fun e w' => e = .returned (.agg t.cells) ∧ Below w.heap.size w w' := by
  have h1 := ((Blk.new w t.cells 103).alloc (.cells (Tm.cells ⟨Dg.zero 0, 0⟩) 57)).alloc (.cells (Tm.cells ⟨Dg.zero 0, 0⟩) 57)
  have h2 := (Blk.newAt (w.alloc (.cells t.cells 103)) (Tm.cells ⟨Dg.zero 0, 0⟩) 57 (b := w.heap.size + 1) (by simp)).alloc (.cells (Tm.cells ⟨Dg.zero 0, 0⟩) 57)
  have h3 := Blk.newAt ((w.alloc (.cells t.cells 103)).alloc (.cells (Tm.cells ⟨Dg.zero 0, 0⟩) 57)) (Tm.cells ⟨Dg.zero 0, 0⟩) 57 (b := w.heap.size + 1 + 1) (by simp)
  have hbl := (((Below.refl w.heap.size w).alloc (Nat.le_refl _) (.cells t.cells 103)).alloc (by simp) (.cells (Tm.cells ⟨Dg.zero 0, 0⟩) 57)).alloc (by simp; omega) (.cells (Tm.cells ⟨Dg.zero 0, 0⟩) 57)
  go_enter Try.func88, Try.ntmps88
  go_upto_region 2 with fail
  have hw : ((w.alloc (.cells t.cells 103)).alloc (.cells (Tm.cells ⟨Dg.zero 0, 0⟩) 57)).alloc (.cells (Tm.cells ⟨Dg.zero 0, 0⟩) 57) = ((w.alloc (.cells t.cells 103)).alloc (.cells #[.int .i64 0, .int .u8 0, .int .u8 0, .int .u8 0, .int .u8 0, .int .u8 0, .int .u8 0, .int .u8 0, .int .u8 0, .int .u8 0, .int .u8 0, .int .u8 0, .int .u8 0, .int .u8 0, .int .u8 0, .int .u8 0, .int .u8 0, .int .i64 0] 57)).alloc (.cells #[.int .i64 0, .int .u8 0, .int .u8 0, .int .u8 0, .int .u8 0, .int .u8 0, .int .u8 0, .int .u8 0, .int .u8 0, .int .u8 0, .int .u8 0, .int .u8 0, .int .u8 0, .int .u8 0, .int .u8 0, .int .u8 0, .int .u8 0, .int .i64 0] 57) := rfl
  rw [← hw]
  clear hw
  generalize ((w.alloc (.cells t.cells 103)).alloc (.cells (Tm.cells ⟨Dg.zero 0, 0⟩) 57)).alloc (.cells (Tm.cells ⟨Dg.zero 0, 0⟩) 57) = w2 at *
  have hz2 := h3.lt
  go_wp2_with (refine load_ldg rfl _ rfl _ _ rfl t.d h1.tm_dg ?_)
  refine (toDiagram_calls t.d w2).mono ?_
  rintro e w4 ⟨rfl, hb4⟩
  have h1b := h1.below hb4 (by omega)
  have h2b := h2.below hb4 (by omega)
  have h3b := h3.below hb4 hz2
  have hbb := hbl.trans (hb4.mono (by omega))
  have hz4 := hb4.size
  clear h1 h2 h3 hb4 hbl
  go_wp2_with (first | (refine store_mid rfl _ _ _ rfl _ 0 rfl t.d.list rfl (by rw [info_dg, t.d.length_list]) t.d.oneCell _ _ h3b (by rw [t.d.length_list, Tm.length_vals]; omega) ?_; intro w5 h5 ho5; have h1c := (h1b.only ho5 (by omega)).tm_k; have h2c := h2b.only ho5 (by omega); rw [spl_tm] at h5; have h5d : Blk w5 (w.heap.size + 1 + 1) (Tm.cells ⟨t.d, 0⟩) 57 := h5; have h5k := h5d.tm_k; have h5f := h5d.free; have h6 := h5d.set 17 (.int .i64 t.k); rw [set_tm_k] at h6; have h2d := h2c.other ⟨w.heap.size + 1 + 1, 17, none⟩ (.int .i64 t.k) (by simp)) | (refine load_tm_mid rfl _ rfl _ 0 rfl t (Blk.rng (cs := t.vals) h6) ?_) | (refine store_tm rfl _ _ rfl _ rfl t rfl _ _ h2d (Tm.size_cells _) ?_; intro w7 h7 ho7))
  exact ret_tm rfl _ rfl t _ h7 rfl ⟨rfl, ((hbb.trans (ho5.below (by omega))).trans ((Only.setCell w5 (w.heap.size + 1 + 1) 17 (.int .i64 t.k)).below (by omega))).trans (ho7.below (by omega))⟩
end Go.Proofs.Yticmlgnolbccjaa
