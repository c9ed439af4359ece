/- Stores into the midst of blocks; the copies of the statements' own diagrams and terms. -/
import Derived.Test.YticmlgnolbccjaaQ10

set_option linter.unusedVariables false
set_option linter.unusedSimpArgs false
namespace Go.Proofs.Yticmlgnolbccjaa
open Go.RowKit

/-- A list with a part laid anew. -/
def spl (cs : List Value) (o : Nat) (ns : List Value) : List Value := cs.take o ++ ns ++ cs.drop (o + ns.length)
theorem spl_cons (cs : List Value) (o : Nat) (v : Value) (ns : List Value) (h : o + (ns.length + 1) ≤ cs.length) : spl (cs.set o v) (o + 1) ns = spl cs o (v :: ns) := by
  unfold spl
  rw [List.length_cons, show o + 1 + ns.length = o + (ns.length + 1) from by omega]
  rw [List.drop_set_of_lt (by omega)]
  rw [List.take_succ_eq_append_getElem (by rw [List.length_set]; omega)]
  rw [List.take_set_of_le (by omega), List.getElem_set_self]
  simp
theorem Only.setCells (b : Nat) : ∀ (ns : List Value) (w : World) (o : Nat), Only w (w.setCells b o ns) b
  | [], w, o => Only.refl w b
  | v :: ns, w, o => (Only.setCell w b o v).trans (Only.setCells b ns _ (o + 1))
theorem Blk.setCells {b : Nat} {T : TypeId} : ∀ (ns : List Value) (w : World) (o : Nat) (cs : List Value), Blk w b cs.toArray T → o + ns.length ≤ cs.length → Blk (w.setCells b o ns) b (spl cs o ns).toArray T
  | [], w, o, cs, h, _ => by
    have : spl cs o [] = cs := by unfold spl; simp
    rw [this]; exact h
  | v :: ns, w, o, cs, h, hl => by
    rw [List.length_cons] at hl
    have h1 := h.set o v
    have e1 : cs.toArray.setIfInBounds o v = (cs.set o v).toArray := by simp
    rw [e1] at h1
    have h2 := Blk.setCells ns _ (o + 1) (cs.set o v) h1 (by rw [List.length_set]; omega)
    rw [spl_cons cs o v ns hl] at h2
    exact h2
section
variable {ops : Array Oper} {rest : List Oper} {o : Oper} {a : Act} {w : World} {Q : Exit → Act → World → Prop}
/-- A store of some cells into the midst of a block. -/
theorem store_mid (hgd : o.guard = none) (ty : TypeId) (x y : Operand) (ho : o.op = .store ty x y) (b off : Nat) (hx : a.eval x = .pointer (some ⟨b, off, none⟩)) (ns : List Value) (hy : a.eval y = .agg ns.toArray)
    (hi : (Try.prog.info? ty).map (·.size) = some ns.length) (h1 : ∀ v ∈ ns, v.oneCell' = true) (cs : List Value) (T : TypeId) (h : Blk w b cs.toArray T) (hl : off + ns.length ≤ cs.length)
    (hK : ∀ w', Blk w' b (spl cs off ns).toArray T → Only w w' b → wpList Try.prog ops Q rest (a.put o.dst undef) w') : wpList Try.prog ops Q (o :: rest) a w := by
  refine wpList_store_mid hgd ty x y ho b off ns.toArray hx hy ?_ (by simpa using hi) (all_oneCell_toArray h1) ?_
  · intro j hj
    have hj' : j < ns.length := by simpa using hj
    refine ⟨?_, h.free _⟩
    rw [h.cells]
    simp
    omega
  · have := hK (w.setCells b off ns) (Blk.setCells ns w off cs h hl) (Only.setCells b ns w off)
    simpa using this
end

/-- Sixteen bytes. -/
def byt (f : Nat → Int) : List Value := (List.range 16).map fun i => .int .u8 (f i)
theorem byt_len (f : Nat → Int) : (byt f).length = 16 := by simp [byt]
theorem byt_get (f : Nat → Int) (i : Nat) (h : i < 16) : (byt f)[i]? = some (.int .u8 (f i)) := by simp [byt, h]
theorem byt_set (f : Nat → Int) (i : Nat) (v : Int) (h : i < 16) : (byt f).set i (.int .u8 v) = byt fun j => if j = i then v else f j := by
  apply List.ext_getElem?
  intro j
  rw [List.getElem?_set]
  by_cases hj : j < 16
  · rw [byt_get f j hj, byt_get (fun j => if j = i then v else f j) j hj]
    by_cases h1 : i = j
    · subst h1; simp [byt_len, h]
    · rw [if_neg h1, if_neg (fun e => h1 e.symm)]
  · rw [List.getElem?_eq_none (by rw [byt_len]; omega)]
    by_cases h1 : i = j
    · omega
    · rw [if_neg h1, List.getElem?_eq_none (by rw [byt_len]; omega)]
theorem byt_one (f : Nat → Int) : ∀ v ∈ byt f, v.oneCell' = true := by
  intro v hv
  simp only [byt, List.mem_map] at hv
  obtain ⟨i, _, rfl⟩ := hv; rfl
theorem list_byt (d : Dg) : d.list = .int .i64 d.size :: byt d.m := rfl
theorem byt_congr {f g : Nat → Int} (h : ∀ i, i < 16 → f i = g i) : byt f = byt g := List.map_congr_left fun i hi => by rw [h i (List.mem_range.1 hi)]

section
variable {ops : Array Oper} {rest : List Oper} {o : Oper} {a : Act} {w : World} {Q : Exit → Act → World → Prop}
theorem load_byt (hgd : o.guard = none) (x : Operand) (ho : o.op = .load 43 x) (b off : Nat) (hx : a.eval x = .pointer (some ⟨b, off, none⟩)) (f : Nat → Int) (h : w.rangeAt b off (byt f))
    (hK : wpList Try.prog ops Q rest (a.put o.dst (.agg (byt f).toArray)) w) : wpList Try.prog ops Q (o :: rest) a w :=
  wpList_load_mid hgd _ x ho b off hx (byt f) _ h Try.underlying43 rfl (by rw [info_mate, byt_len]) hK
theorem Blk.rng {b : Nat} {T : TypeId} {cs : List Value} (h : Blk w b cs.toArray T) : w.rangeAt b 0 cs := by
  intro j v hv
  rw [Nat.zero_add, h.cells]
  simpa using hv
theorem Blk.rng1 {b : Nat} {T : TypeId} {u : Value} {cs : List Value} (h : Blk w b (u :: cs).toArray T) : w.rangeAt b 1 cs := by
  intro j v hv
  rw [h.cells, Nat.add_comm]
  simpa using hv
theorem ret_byt {fn : Func} {R : Ending → World → Prop} {p : Tmp} (hr : fn.results = #[.cell p 43]) (b : Nat) (hp : a.tmps.getD p undef = .pointer (some ⟨b, 0, none⟩)) (f : Nat → Int) (T : TypeId) (h : Blk w b (byt f).toArray T)
    (hd : a.defers = []) (hR : R (.returned (.agg (byt f).toArray)) w) : bodyPost Try.prog fn R .ret a w :=
  bodyPost_ret (results_cell_row hr _ w b T (byt f).toArray (0, 0) _ hp h Try.underlying43 rfl (by rw [info_mate]; simp [byt_len])) hd hR
end

set_option maxRecDepth 100000 in
theorem toByte_calls (f : Nat → Int) (w : World) : Calls Try.prog 71 #[.agg (byt f).toArray] w fun e w' => e = .returned (.agg (byt f).toArray) ∧ Below w.heap.size w w' := by
  have h1 := ((Blk.new w (byt f).toArray 43).alloc (.cells (byt fun _ => 0).toArray 43)).alloc (.cells (byt fun _ => 0).toArray 43)
  have h2 := (Blk.newAt (w.alloc (.cells (byt f).toArray 43)) (byt fun _ => 0).toArray 43 (b := w.heap.size + 1) (by simp)).alloc (.cells (byt fun _ => 0).toArray 43)
  have h3 := Blk.newAt ((w.alloc (.cells (byt f).toArray 43)).alloc (.cells (byt fun _ => 0).toArray 43)) (byt fun _ => 0).toArray 43 (b := w.heap.size + 1 + 1) (by simp)
  have hbl := (((Below.refl w.heap.size w).alloc (Nat.le_refl _) (.cells (byt f).toArray 43)).alloc (by simp) (.cells (byt fun _ => 0).toArray 43)).alloc (by simp; omega) (.cells (byt fun _ => 0).toArray 43)
  go_enter Try.func71, Try.ntmps71
  go_wp2_with fail
  have hw : ((w.alloc (.cells (byt f).toArray 43)).alloc (.cells (byt fun _ => 0).toArray 43)).alloc (.cells (byt fun _ => 0).toArray 43) = ((w.alloc (.cells (byt f).toArray 43)).alloc (.cells #[.int .u8 0, .int .u8 0, .int .u8 0, .int .u8 0, .int .u8 0, .int .u8 0, .int .u8 0, .int .u8 0, .int .u8 0, .int .u8 0, .int .u8 0, .int .u8 0, .int .u8 0, .int .u8 0, .int .u8 0, .int .u8 0] 43)).alloc (.cells #[.int .u8 0, .int .u8 0, .int .u8 0, .int .u8 0, .int .u8 0, .int .u8 0, .int .u8 0, .int .u8 0, .int .u8 0, .int .u8 0, .int .u8 0, .int .u8 0, .int .u8 0, .int .u8 0, .int .u8 0, .int .u8 0] 43) := rfl
  rw [← hw]
  clear hw
  generalize ((w.alloc (.cells (byt f).toArray 43)).alloc (.cells (byt fun _ => 0).toArray 43)).alloc (.cells (byt fun _ => 0).toArray 43) = w2 at *
  go_loopw [4] (fun i wr => ∃ j : Nat, j ≤ 16 ∧ i = .int .i64 j ∧ Blk wr (w.heap.size + 1 + 1) (byt fun i => if i < j then f i else 0).toArray 43 ∧ Only w2 wr (w.heap.size + 1 + 1)) (fun i _ => 16 - (intOf i).toNat)
  case atStart => exact ⟨0, by omega, rfl, by simpa using h3, Only.refl _ _⟩
  case round =>
    clear h3
    obtain ⟨j, hj, rfl, h3, ho⟩ := hrel
    by_cases hlt : j < 16
    · have hc1 := (h1.only ho (by omega)).cells j
      have hg1 := byt_get f j hlt
      simp only [List.getElem?_toArray] at hc1
      rw [hg1] at hc1
      have hc3 := h3.cells j
      have hf3 := h3.free
      simp only [List.getElem?_toArray] at hc3
      rw [byt_get _ j hlt] at hc3
      have hs := h3.set j (.int .u8 (f j))
      have hs2 := byt_set (fun i => if i < j then f i else 0) j (f j) hlt
      have e1 : (byt fun i => if i < j then f i else 0).toArray.setIfInBounds j (.int .u8 (f j)) = ((byt fun i => if i < j then f i else 0).set j (.int .u8 (f j))).toArray := by simp
      have e2 : (byt fun k => if k = j then f j else if k < j then f k else 0) = byt fun i => if i < j + 1 then f i else 0 := byt_congr fun i _ => by
        by_cases h : i = j
        · subst h; rw [if_pos rfl, if_pos (by omega)]
        · rw [if_neg h]
          by_cases h2 : i < j
          · rw [if_pos h2, if_pos (by omega)]
          · rw [if_neg h2, if_neg (by omega)]
      rw [e1, hs2, e2] at hs
      have ho2 := ho.trans (Only.setCell wr (w.heap.size + 1 + 1) j (.int .u8 (f j)))
      have Hs := Lib.hid hs
      have Ho := Lib.hid ho2
      clear hs hs2 e1 e2 ho2 hg1
      go_wp2_with fail
      go_roundw
      case rel => exact ⟨j + 1, by omega, by go_num, Hs.out, Ho.out⟩
      case measure => simp [intOf]; omega
    · obtain rfl : j = 16 := by omega
      have e2 : (byt fun i => if i < 16 then f i else 0) = byt f := byt_congr fun i hi => by rw [if_pos hi]
      rw [e2] at h3
      have h2' := h2.only ho (by omega)
      have hb2 := hbl.trans (ho.below (by omega))
      clear e2
      go_wp2_with (first | (refine load_byt rfl _ rfl _ _ rfl f h3.rng ?_) | (refine store_mid rfl _ _ _ rfl _ 0 rfl (byt f) rfl (by rw [info_mate, byt_len]) (byt_one f) _ _ h2' (by simp [byt_len]) ?_; intro w5 h5 ho5))
      have e3 : spl (byt fun _ => 0) 0 (byt f) = byt f := by unfold spl; rw [List.take_zero, List.drop_eq_nil_of_le (by simp [byt_len])]; simp
      rw [e3] at h5
      exact ret_byt rfl _ rfl f _ h5 rfl ⟨rfl, hb2.trans (ho5.below (by omega))⟩

theorem dg_list_len (d : Dg) : d.list.length = 17 := d.length_list
theorem zero_list (n : Int) : (Dg.zero n).list = .int .i64 n :: byt fun _ => 0 := rfl

theorem spl_byt (v : Value) (f g : Nat → Int) : spl (v :: byt f) 1 (byt g) = v :: byt g := by
  unfold spl
  rw [byt_len, List.take_succ_cons, List.take_zero, List.drop_eq_nil_of_le (by simp [byt_len])]; simp
set_option maxRecDepth 100000 in
theorem toDiagram_calls (d : Dg) (w : World) : Calls Try.prog 30 #[.agg d.cells] w fun e w' => e = .returned (.agg d.cells) ∧ Below w.heap.size w w' := by
  have h1 := ((Blk.new w d.cells 45).alloc (.cells (Dg.zero 0).cells 47)).alloc (.cells (Dg.zero 0).cells 47)
  have h2 := (Blk.newAt (w.alloc (.cells d.cells 45)) (Dg.zero 0).cells 47 (b := w.heap.size + 1) (by simp)).alloc (.cells (Dg.zero 0).cells 47)
  have h3 := Blk.newAt ((w.alloc (.cells d.cells 45)).alloc (.cells (Dg.zero 0).cells 47)) (Dg.zero 0).cells 47 (b := w.heap.size + 1 + 1) (by simp)
  have hbl := (((Below.refl w.heap.size w).alloc (Nat.le_refl _) (.cells d.cells 45)).alloc (by simp) (.cells (Dg.zero 0).cells 47)).alloc (by simp; omega) (.cells (Dg.zero 0).cells 47)
  have hd0 := d.cells0
  have hz0 := (Dg.zero 0).cells0
  go_enter Try.func30, Try.ntmps30
  go_upto_region 2 with fail
  have hw : ((w.alloc (.cells d.cells 45)).alloc (.cells (Dg.zero 0).cells 47)).alloc (.cells (Dg.zero 0).cells 47) = ((w.alloc (.cells d.cells 45)).alloc (.cells #[.int .i64 0, .int .u8 0, .int .u8 0, .int .u8 0, .int .u8 0, .int .u8 0, .int .u8 0, .int .u8 0, .int .u8 0, .int .u8 0, .int .u8 0, .int .u8 0, .int .u8 0, .int .u8 0, .int .u8 0, .int .u8 0, .int .u8 0] 47)).alloc (.cells #[.int .i64 0, .int .u8 0, .int .u8 0, .int .u8 0, .int .u8 0, .int .u8 0, .int .u8 0, .int .u8 0, .int .u8 0, .int .u8 0, .int .u8 0, .int .u8 0, .int .u8 0, .int .u8 0, .int .u8 0, .int .u8 0, .int .u8 0] 47) := rfl
  rw [← hw]
  clear hw
  generalize ((w.alloc (.cells d.cells 45)).alloc (.cells (Dg.zero 0).cells 47)).alloc (.cells (Dg.zero 0).cells 47) = w2 at *
  have hc1 := h1.cells
  have hc3 := h3.cells
  have hf3 := h3.free
  have h1a := h1.other ⟨w.heap.size + 1 + 1, 0, none⟩ (.int .i64 d.size) (by simp; omega)
  have h2a := h2.other ⟨w.heap.size + 1 + 1, 0, none⟩ (.int .i64 d.size) (by simp)
  have h3a := h3.set 0 (.int .i64 d.size)
  have e3 : (Dg.zero 0).cells.setIfInBounds 0 (.int .i64 d.size) = (Value.int .i64 d.size :: byt fun _ => 0).toArray := rfl
  rw [e3] at h3a
  have hba := hbl.trans ((Only.setCell w2 (w.heap.size + 1 + 1) 0 (.int .i64 d.size)).below (B := w.heap.size) (by omega))
  have h1r : Blk (w2.setCell ⟨w.heap.size + 1 + 1, 0, none⟩ (.int .i64 d.size)) w.heap.size (Value.int .i64 d.size :: byt d.m).toArray 45 := h1a
  have hzz := h3a.lt
  clear e3
  go_wp2_with (refine load_byt rfl _ rfl _ _ rfl d.m h1r.rng1 ?_)
  generalize w2.setCell ⟨w.heap.size + 1 + 1, 0, none⟩ (.int .i64 d.size) = w3 at *
  refine (toByte_calls d.m w3).mono ?_
  rintro e w4 ⟨rfl, hb4⟩
  have h3b := h3a.below hb4 hzz
  have h2b := h2a.below hb4 h2a.lt
  have hbb := hba.trans (hb4.mono (by omega))
  have hz4 := hb4.size
  clear h1 h2 h3 hc1 hc3 hf3 h1a h1r h2a h3a hb4
  go_wp2_with (first | (refine store_mid rfl _ _ _ rfl _ 1 rfl (byt d.m) rfl (by rw [info_mate, byt_len]) (byt_one _) _ _ h3b (by simp [byt_len]) ?_; intro w5 h5 ho5; have h2c := h2b.only ho5 (by omega); rw [spl_byt] at h5; have h5d : Blk w5 (w.heap.size + 1 + 1) d.cells 47 := h5) | (refine load_dg rfl _ rfl _ rfl d _ h5d ?_) | (refine store_dg rfl _ _ rfl _ rfl d rfl _ _ h2c rfl ?_; intro w6 h6 ho6))
  exact ret_dg rfl _ rfl d _ h6 rfl ⟨rfl, (hbb.trans (ho5.below (by omega))).trans (ho6.below (by omega))⟩

theorem ret_tm {a : Act} {w : World} {fn : Func} {R : Ending → World → Prop} {p : Tmp} (hr : fn.results = #[.cell p 57]) (b : Nat) (hp : a.tmps.getD p undef = .pointer (some ⟨b, 0, none⟩)) (t : Tm) (T : TypeId) (h : Blk w b t.cells T)
    (hd : a.defers = []) (hR : R (.returned (.agg t.cells)) w) : bodyPost Try.prog fn R .ret a w :=
  bodyPost_ret (results_cell_row hr _ w b T t.cells (0, 0) _ hp h Try.underlying57 rfl (by rw [info_tm, t.size_cells])) hd hR
theorem info_ltm : (Try.prog.info? 103).map (·.size) = some 18 := by kernel_rfl
theorem info_ldg : (Try.prog.info? 45).map (·.size) = some 17 := by kernel_rfl
section
variable {ops : Array Oper} {rest : List Oper} {o : Oper} {a : Act} {w : World} {Q : Exit → Act → World → Prop}
theorem load_ltm (hgd : o.guard = none) (x : Operand) (ho : o.op = .load 103 x) (b off : Nat) (hx : a.eval x = .pointer (some ⟨b, off, none⟩)) (t : Tm) (h : w.rangeAt b off t.vals)
    (hK : wpList Try.prog ops Q rest (a.put o.dst (.agg t.cells)) w) : wpList Try.prog ops Q (o :: rest) a w :=
  wpList_load_mid hgd _ x ho b off hx t.vals _ h Try.underlying103 rfl (by rw [t.length_vals]; exact (info_ltm).trans rfl) hK
theorem load_ldg (hgd : o.guard = none) (x : Operand) (ho : o.op = .load 45 x) (b off : Nat) (hx : a.eval x = .pointer (some ⟨b, off, none⟩)) (d : Dg) (h : w.rangeAt b off d.list)
    (hK : wpList Try.prog ops Q rest (a.put o.dst (.agg d.cells)) w) : wpList Try.prog ops Q (o :: rest) a w :=
  wpList_load_mid hgd _ x ho b off hx d.list _ h Try.underlying45 rfl (by rw [d.length_list]; exact (info_ldg).trans rfl) hK
end
theorem spl_tm (d e : Dg) (k : Int) : spl (Tm.vals ⟨d, k⟩) 0 e.list = Tm.vals ⟨e, k⟩ := by
  unfold spl Tm.vals
  rw [List.take_zero, e.length_list, List.drop_append_of_le_length (by rw [Dg.length_list]; omega), List.drop_eq_nil_of_le (by rw [Dg.length_list]; omega)]; simp
theorem set_tm_k (d : Dg) (k x : Int) : (Tm.cells ⟨d, k⟩).setIfInBounds 17 (.int .i64 x) = Tm.cells ⟨d, x⟩ := rfl

set_option maxRecDepth 100000 in
theorem toTerm_calls (t : Tm) (w : World) : Calls Try.prog 88 #[.agg t.cells] w fun e w' => e = .returned (.agg t.cells) ∧ Below w.heap.size w w' := by
  have h1 := ((Blk.new w t.cells 103).alloc (.cells (Tm.cells ⟨Dg.zero 0, 0⟩) 57)).alloc (.cells (Tm.cells ⟨Dg.zero 0, 0⟩) 57)
  have h2 := (Blk.newAt (w.alloc (.cells t.cells 103)) (Tm.cells ⟨Dg.zero 0, 0⟩) 57 (b := w.heap.size + 1) (by simp)).alloc (.cells (Tm.cells ⟨Dg.zero 0, 0⟩) 57)
  have h3 := Blk.newAt ((w.alloc (.cells t.cells 103)).alloc (.cells (Tm.cells ⟨Dg.zero 0, 0⟩) 57)) (Tm.cells ⟨Dg.zero 0, 0⟩) 57 (b := w.heap.size + 1 + 1) (by simp)
  have hbl := (((Below.refl w.heap.size w).alloc (Nat.le_refl _) (.cells t.cells 103)).alloc (by simp) (.cells (Tm.cells ⟨Dg.zero 0, 0⟩) 57)).alloc (by simp; omega) (.cells (Tm.cells ⟨Dg.zero 0, 0⟩) 57)
  go_enter Try.func88, Try.ntmps88
  go_upto_region 2 with fail
  have hw : ((w.alloc (.cells t.cells 103)).alloc (.cells (Tm.cells ⟨Dg.zero 0, 0⟩) 57)).alloc (.cells (Tm.cells ⟨Dg.zero 0, 0⟩) 57) = ((w.alloc (.cells t.cells 103)).alloc (.cells #[.int .i64 0, .int .u8 0, .int .u8 0, .int .u8 0, .int .u8 0, .int .u8 0, .int .u8 0, .int .u8 0, .int .u8 0, .int .u8 0, .int .u8 0, .int .u8 0, .int .u8 0, .int .u8 0, .int .u8 0, .int .u8 0, .int .u8 0, .int .i64 0] 57)).alloc (.cells #[.int .i64 0, .int .u8 0, .int .u8 0, .int .u8 0, .int .u8 0, .int .u8 0, .int .u8 0, .int .u8 0, .int .u8 0, .int .u8 0, .int .u8 0, .int .u8 0, .int .u8 0, .int .u8 0, .int .u8 0, .int .u8 0, .int .u8 0, .int .i64 0] 57) := rfl
  rw [← hw]
  clear hw
  generalize ((w.alloc (.cells t.cells 103)).alloc (.cells (Tm.cells ⟨Dg.zero 0, 0⟩) 57)).alloc (.cells (Tm.cells ⟨Dg.zero 0, 0⟩) 57) = w2 at *
  have hz2 := h3.lt
  go_wp2_with (refine load_ldg rfl _ rfl _ _ rfl t.d h1.tm_dg ?_)
  refine (toDiagram_calls t.d w2).mono ?_
  rintro e w4 ⟨rfl, hb4⟩
  have h1b := h1.below hb4 (by omega)
  have h2b := h2.below hb4 (by omega)
  have h3b := h3.below hb4 hz2
  have hbb := hbl.trans (hb4.mono (by omega))
  have hz4 := hb4.size
  clear h1 h2 h3 hb4 hbl
  go_wp2_with (first | (refine store_mid rfl _ _ _ rfl _ 0 rfl t.d.list rfl (by rw [info_dg, t.d.length_list]) t.d.oneCell _ _ h3b (by rw [t.d.length_list, Tm.length_vals]; omega) ?_; intro w5 h5 ho5; have h1c := (h1b.only ho5 (by omega)).tm_k; have h2c := h2b.only ho5 (by omega); rw [spl_tm] at h5; have h5d : Blk w5 (w.heap.size + 1 + 1) (Tm.cells ⟨t.d, 0⟩) 57 := h5; have h5k := h5d.tm_k; have h5f := h5d.free; have h6 := h5d.set 17 (.int .i64 t.k); rw [set_tm_k] at h6; have h2d := h2c.other ⟨w.heap.size + 1 + 1, 17, none⟩ (.int .i64 t.k) (by simp)) | (refine load_tm_mid rfl _ rfl _ 0 rfl t (Blk.rng (cs := t.vals) h6) ?_) | (refine store_tm rfl _ _ rfl _ rfl t rfl _ _ h2d (Tm.size_cells _) ?_; intro w7 h7 ho7))
  exact ret_tm rfl _ rfl t _ h7 rfl ⟨rfl, ((hbb.trans (ho5.below (by omega))).trans ((Only.setCell w5 (w.heap.size + 1 + 1) 17 (.int .i64 t.k)).below (by omega))).trans (ho7.below (by omega))⟩
end Go.Proofs.Yticmlgnolbccjaa

/- The copies of the statements' own elements; their sizes. -/
set_option linter.unusedVariables false
set_option linter.unusedSimpArgs false
namespace Go.Proofs.Yticmlgnolbccjaa
open Go.RowKit

def zt : Tm := ⟨Dg.zero 0, 0⟩
theorem made_terms (n : Nat) : madeCells (Value.agg (Tm.cells zt)).cells (n * 18) = (tc (List.replicate n zt)).toArray := by
  refine Array.ext_getElem? (fun j => ?_)
  show (madeCells (Value.agg (Tm.cells zt)).cells (n * 18))[j]? = (tc (List.replicate n zt)).toArray[j]?
  by_cases hj : j < n * 18
  · have h1 := tc_at (List.replicate n zt) (j / 18) (j % 18) zt (by rw [List.getElem?_replicate, if_pos (by omega)]) (by omega)
    rw [show j / 18 * 18 + j % 18 = j from by omega] at h1
    have h9 : (tc (List.replicate n zt)).toArray[j]? = (tc (List.replicate n zt))[j]? := by simp
    rw [h9, h1]
    have h2 : (Value.agg (Tm.cells zt)).cells = zt.vals.toArray := rfl
    rw [h2]
    unfold madeCells
    have h3 : zt.vals.toArray.size = 18 := by simp [zt.length_vals]
    rw [h3, Array.getElem?_map, Array.getElem?_range, if_pos hj]
    have h4 : j % 18 < zt.vals.length := by rw [zt.length_vals]; omega
    rw [Option.map_some, List.getElem?_eq_getElem h4]
    congr 1
    rw [getElem!_pos zt.vals.toArray (j % 18) (by simpa using h4)]
    simp
  · rw [Array.getElem?_eq_none (by rw [size_madeCells]; omega), Array.getElem?_eq_none (by simp [length_tc]; omega)]

theorem spl_tc (L : List Tm) (j : Nat) (t : Tm) (h : j < L.length) : spl (tc L) (j * 18) t.vals = tc (L.set j t) := by
  unfold spl
  rw [t.length_vals, show j * 18 + 18 = (j + 1) * 18 from by omega, tc_take, tc_drop, List.set_eq_take_append_cons_drop, if_pos h, tc_append, tc_cons, List.append_assoc]

theorem blk_TsS {w : World} {base g : Nat} {ts : List Tm} (h : Blk w g (tc ts).toArray 57) (hb : base ≤ g) (hn : ts.length ≤ 100000000) : TsS w base (.slice (some ⟨g, 0, none⟩) ts.length ts.length) ts :=
  ⟨⟨length_tc ts, .inr ⟨g, ts.length, _, rfl, hb, h, Nat.le_refl _, by unfold maxLen; omega, by simp [length_tc], by rw [← length_tc]; simp⟩⟩, by simp⟩

/-- What comes in: terms somewhere in memory. -/
def LIn (w : World) (v : Value) (ts : List Tm) : Prop :=
  ∃ ad cap, v = .slice ad ts.length cap ∧ ts.length ≤ cap ∧ cap ≤ 9223372036854775807 ∧ (ts ≠ [] → ∃ b off, ad = some ⟨b, off, none⟩ ∧ b < w.heap.size ∧ w.rangeAt b off (tc ts))
theorem LIn.below {w w' : World} {v : Value} {ts : List Tm} {B : Nat} (h : LIn w v ts) (hb : Below B w w') (hB : w.heap.size ≤ B) : LIn w' v ts := by
  obtain ⟨ad, cap, h1, h2, h3, h4⟩ := h
  refine ⟨ad, cap, h1, h2, h3, fun hne => ?_⟩
  obtain ⟨b, off, h5, h6, h7⟩ := h4 hne
  exact ⟨b, off, h5, by have := hb.size; omega, rangeAt_below h7 hb (by omega)⟩

set_option maxHeartbeats 4000000 in
set_option maxRecDepth 100000 in
theorem toTermS_calls (ts : List Tm) (v : Value) (w : World) (hv : LIn w v ts) (hn : ts.length ≤ 1048576) :
    Calls Try.prog 42 #[v] w fun e w' => ∃ v', e = .returned v' ∧ TsS w' w.heap.size v' ts ∧ Below w.heap.size w w' := by
  obtain ⟨ad, cap, rfl, hc1, hc2, hrd⟩ := hv
  by_cases h0 : ts = []
  · subst h0
    go_enter Try.func42, Try.ntmps42
    go_wp2_with (at_make; refine make_row rowTerm rfl _ _ rfl _ _ 0 _ _ rfl rfl rfl rfl (by omega) (by omega) ?_; intro w1 hb1 hg1)
    refine wp_loop_rounds 1 ?_
    rw [rounds_succ]
    go_wp2
    go_ret
    refine ⟨_, rfl, ?_, (Below.refl _ w).grown hg1 (Nat.le_refl _) (by simp)⟩
    have h1 : Blk w1 w.heap.size (tc []).toArray 57 := by
      rw [show ([] : List Tm) = List.replicate 0 zt from rfl, ← made_terms 0]
      exact hb1
    exact blk_TsS h1 (Nat.le_refl _) (by simp)
  · obtain ⟨b, off, rfl, hb, hr⟩ := hrd h0
    go_enter Try.func42, Try.ntmps42
    go_wp2_with (at_make; refine make_row rowTerm rfl _ _ rfl _ _ ts.length _ _ rfl rfl rfl rfl (by omega) (by omega) ?_; intro w1 hb1 hg1)
    have h1 : Blk w1 w.heap.size (tc (List.replicate ts.length zt)).toArray 57 := by
      rw [← made_terms ts.length]
      exact hb1
    have hbl := (Below.refl w.heap.size w).grown hg1 (Nat.le_refl _) (by simp)
    have hr1 := rangeAt_below hr hbl hb
    have hz1 := h1.lt
    clear hb1 hg1 hrd
    go_loopw [4] (fun i wr => ∃ j : Nat, j ≤ ts.length ∧ i = .int .i64 j ∧ Blk wr w.heap.size (tc (ts.take j ++ List.replicate (ts.length - j) zt)).toArray 57 ∧ But w1 wr [w.heap.size]) (fun i _ => ts.length - (intOf i).toNat)
    case atStart => exact ⟨0, by omega, rfl, by simpa using h1, But.refl _ _⟩
    case round =>
      clear h1
      obtain ⟨j, hj, rfl, h1, hbut⟩ := hrel
      have hz3 := hbut.size
      have hb3 : Below w.heap.size w1 wr := hbut.below (by omega) (by simp)
      by_cases hlt : j < ts.length
      · have hra := range_tm (rangeAt_below hr1 hb3 hb) j ts[j] (List.getElem?_eq_getElem hlt)
        have hset : (ts.take j ++ List.replicate (ts.length - j) zt).set j ts[j] = ts.take (j + 1) ++ List.replicate (ts.length - (j + 1)) zt := by
          rw [List.set_append_right _ _ (by rw [List.length_take]; omega), List.take_succ_eq_append_getElem hlt, List.append_assoc]
          congr 1
          rw [List.length_take, Nat.min_eq_left (by omega), Nat.sub_self, show ts.length - j = (ts.length - (j + 1)) + 1 from by omega, List.replicate_succ]
          rfl
        have hspl := spl_tc (ts.take j ++ List.replicate (ts.length - j) zt) j ts[j] (by simp; omega)
        rw [hset] at hspl
        have Hspl := Lib.hid hspl
        have hl18 : j * 18 + ts[j].vals.length ≤ (tc (ts.take j ++ List.replicate (ts.length - j) zt)).length := by
          rw [length_tc, Tm.length_vals]; simp; omega
        clear hset hspl
        generalize ts[j] = t at *
        generalize tc (ts.take j ++ List.replicate (ts.length - j) zt) = cs at *
        go_wp2_with (refine load_ltm rfl _ rfl _ _ rfl t hra ?_)
        refine (toTerm_calls t wr).mono ?_
        rintro e w4 ⟨rfl, hb4⟩
        have h4 := h1.below hb4 h1.lt
        have hbut4 := hbut.ext hb4
        clear h1 hbut hra hb3 hb4
        go_wp2_with (refine store_mid rfl _ _ _ rfl _ _ rfl t.vals rfl (by rw [info_tm, t.length_vals]) t.oneCell _ _ h4 hl18 ?_; intro w5 h5 ho5; have hbut5 := hbut4.only ho5 (.inl (by simp)))
        rw [Hspl.out] at h5
        go_roundw
        case rel => exact ⟨j + 1, by omega, by go_num, h5, hbut5⟩
        case measure => simp [intOf]; omega
      · obtain rfl : j = ts.length := by omega
        rw [List.take_length, Nat.sub_self, List.replicate_zero, List.append_nil] at h1
        go_wp2_with fail
        go_ret
        exact ⟨_, rfl, blk_TsS h1 (Nat.le_refl _) (by omega), hbl.trans hb3⟩

set_option maxRecDepth 100000 in
theorem toElement_calls (x : El) (v : Value) (w : World) (hv : LIn w v x.ts) (hn : x.ts.length ≤ 1048576) :
    Calls Try.prog 14 #[x.val v] w fun e w' => ∃ v', e = .returned (x.val v') ∧ TsS w' w.heap.size v' x.ts ∧ Below w.heap.size w w' := by
  have hvc : v.oneCell' = true := by obtain ⟨ad, cap, rfl, -⟩ := hv; rfl
  unfold El.val El.cells
  have h1 := ((Blk.new w #[.int .i64 x.p, .int .i64 x.c, .int .i64 x.n, v] 24).alloc (.cells #[.int .i64 0, .int .i64 0, .int .i64 0, .slice none 0 0] 30)).alloc (.cells #[.int .i64 0, .int .i64 0, .int .i64 0, .slice none 0 0] 30)
  have h2 := (Blk.newAt (w.alloc (.cells #[.int .i64 x.p, .int .i64 x.c, .int .i64 x.n, v] 24)) #[.int .i64 0, .int .i64 0, .int .i64 0, .slice none 0 0] 30 (b := w.heap.size + 1) (by simp)).alloc (.cells #[.int .i64 x.p, .int .i64 x.c, .int .i64 x.n, .slice none 0 0] 30)
  have h3 := Blk.newAt ((w.alloc (.cells #[.int .i64 x.p, .int .i64 x.c, .int .i64 x.n, v] 24)).alloc (.cells #[.int .i64 0, .int .i64 0, .int .i64 0, .slice none 0 0] 30)) #[.int .i64 x.p, .int .i64 x.c, .int .i64 x.n, .slice none 0 0] 30 (b := w.heap.size + 1 + 1) (by simp)
  have hbl := (((Below.refl w.heap.size w).alloc (Nat.le_refl _) (.cells #[.int .i64 x.p, .int .i64 x.c, .int .i64 x.n, v] 24)).alloc (by simp) (.cells #[.int .i64 0, .int .i64 0, .int .i64 0, .slice none 0 0] 30)).alloc (by simp; omega) (.cells #[.int .i64 x.p, .int .i64 x.c, .int .i64 x.n, .slice none 0 0] 30)
  have hv2 := hv.below hbl (Nat.le_refl _)
  go_enter Try.func14, Try.ntmps14
  go_wp2_with fail
  generalize ((w.alloc (.cells #[.int .i64 x.p, .int .i64 x.c, .int .i64 x.n, v] 24)).alloc (.cells #[.int .i64 0, .int .i64 0, .int .i64 0, .slice none 0 0] 30)).alloc (.cells #[.int .i64 x.p, .int .i64 x.c, .int .i64 x.n, .slice none 0 0] 30) = w2 at *
  have hz2 := h3.lt
  refine (toTermS_calls x.ts v w2 hv2 hn).mono ?_
  rintro e w4 ⟨v4, rfl, hv4, hb4⟩
  have h2b := h2.below hb4 (by omega)
  have h3b := h3.below hb4 hz2
  have hbb := hbl.trans (hb4.mono (by omega))
  have hz4 := hb4.size
  have h1c := hv4.oneCell
  have hc3 := h3b.cells
  have hf3 := h3b.free
  have h3s := h3b.set 3 v4
  have h2s := h2b.other ⟨w.heap.size + 1 + 1, 3, none⟩ v4 (by simp)
  have hv5 := hv4.only (Only.setCell w4 (w.heap.size + 1 + 1) 3 v4) (fun e => by have := (hv4.1.lt _ e.symm).1; omega)
  have hb5 := hbb.trans ((Only.setCell w4 (w.heap.size + 1 + 1) 3 v4).below (B := w.heap.size) (by omega))
  clear h1 h2 h3 hbl hv2 hb4 h2b h3b hbb
  obtain ⟨g4, cap4, rfl, -, -, -, -, -⟩ := hv4.out
  have h3t : Blk (w4.setCell ⟨w.heap.size + 1 + 1, 3, none⟩ (.slice (some ⟨g4, 0, none⟩) x.ts.length cap4)) (w.heap.size + 1 + 1) #[.int .i64 x.p, .int .i64 x.c, .int .i64 x.n, .slice (some ⟨g4, 0, none⟩) x.ts.length cap4] 30 := h3s
  clear h3s
  go_wp2_with (first | (refine load_el rfl _ rfl _ rfl _ rfl _ h3t ?_) | (refine store_el rfl _ _ rfl _ rfl _ rfl rfl (el_all rfl) _ _ h2s rfl ?_; intro w9 h9 ho9))
  refine ret_el rfl _ rfl _ rfl _ h9 rfl ?_
  exact ⟨_, rfl, (hv5.only ho9 (fun e => by have := (hv5.1.lt _ e.symm).1; omega)).mono (by omega), hb5.trans (ho9.below (by omega))⟩

set_option maxRecDepth 100000 in
theorem szElement_calls (x : El) (v : Value) (ad : Option Addr) (cap : Nat) (hv : v = .slice ad x.ts.length cap) (left : Int) (w : World) (h0 : 0 ≤ left) (h1 : left ≤ 1048576) (hn : x.ts.length ≤ 9223372036854775807) :
    Calls Try.prog 12 #[x.val v, .int .i64 left] w fun e w' => e = .returned (.int .i64 (if (x.ts.length : Int) ≤ left then left - x.ts.length else -1)) ∧ Below w.heap.size w w' := by
  subst hv
  unfold El.val El.cells
  have hbl := (Below.refl w.heap.size w).alloc (Nat.le_refl _) (.cells #[.int .i64 x.p, .int .i64 x.c, .int .i64 x.n, .slice ad x.ts.length cap] 24)
  by_cases h : (x.ts.length : Int) ≤ left
  · rw [if_pos h]
    go_enter Try.func12, Try.ntmps12
    go_wp2
    go_ret
    exact ⟨rfl, hbl⟩
  · rw [if_neg h]
    go_enter Try.func12, Try.ntmps12
    go_wp2
    go_ret
    exact ⟨rfl, hbl⟩
end Go.Proofs.Yticmlgnolbccjaa

/- The statements' own equality, where the two are alike. -/
set_option linter.unusedVariables false
set_option linter.unusedSimpArgs false
namespace Go.Proofs.Yticmlgnolbccjaa
open Go.RowKit

set_option maxRecDepth 100000 in
theorem eqByte_calls (f : Nat → Int) (w : World) : Calls Try.prog 147 #[.agg (byt f).toArray, .agg (byt f).toArray] w fun e w' => e = .returned (.bool true) ∧ Below w.heap.size w w' := by
  have h1 := (Blk.new w (byt f).toArray 43).alloc (.cells (byt f).toArray 43)
  have h2 := Blk.newAt (w.alloc (.cells (byt f).toArray 43)) (byt f).toArray 43 (b := w.heap.size + 1) (by simp)
  have hbl := ((Below.refl w.heap.size w).alloc (Nat.le_refl _) (.cells (byt f).toArray 43)).alloc (by simp) (.cells (byt f).toArray 43)
  go_enter Try.func147, Try.ntmps147
  go_wp2_with fail
  generalize (w.alloc (.cells (byt f).toArray 43)).alloc (.cells (byt f).toArray 43) = w2 at *
  go_loopw [5] (fun i wr => ∃ j : Nat, j ≤ 16 ∧ i = .int .i64 j ∧ ∃ k, wr = w2.drewN k) (fun i _ => 16 - (intOf i).toNat)
  case atStart => exact ⟨0, by omega, rfl, 0, rfl⟩
  case round =>
    obtain ⟨j, hj, rfl, k, rfl⟩ := hrel
    by_cases hlt : j < 16
    · have hc1 := h1.cells j
      have hc2 := h2.cells j
      have hg1 := byt_get f j hlt
      simp only [List.getElem?_toArray] at hc1 hc2
      rw [hg1] at hc1 hc2
      clear hg1
      go_wp2_with fail
      go_quiet (fail)
      go_wp2_with fail
      go_roundw
      case rel => exact ⟨j + 1, by omega, by go_num, k + nq, rfl⟩
      case measure => simp [intOf]; omega
    · obtain rfl : j = 16 := by omega
      go_wp2_with fail
      go_ret
      exact ⟨rfl, bel_drewN hbl _⟩

set_option maxRecDepth 100000 in
theorem eqDiagram_calls (d : Dg) (w : World) : Calls Try.prog 130 #[.agg d.cells, .agg d.cells] w fun e w' => e = .returned (.bool true) ∧ Below w.heap.size w w' := by
  have h1 := (Blk.new w d.cells 47).alloc (.cells d.cells 47)
  have h2 := Blk.newAt (w.alloc (.cells d.cells 47)) d.cells 47 (b := w.heap.size + 1) (by simp)
  have hbl := ((Below.refl w.heap.size w).alloc (Nat.le_refl _) (.cells d.cells 47)).alloc (by simp) (.cells d.cells 47)
  have hd0 := d.cells0
  go_enter Try.func130, Try.ntmps130
  have hz : w.heap.size ≤ ((w.alloc (.cells d.cells 47)).alloc (.cells d.cells 47)).heap.size := by simp; omega
  go_wp2_with (first | (refine load_byt rfl _ rfl _ _ rfl d.m (Blk.rng1 (u := .int .i64 d.size) (cs := byt d.m) h1) ?_) | (refine load_byt rfl _ rfl _ _ rfl d.m (Blk.rng1 (u := .int .i64 d.size) (cs := byt d.m) h2) ?_) | (go_at_call 147; refine (eqByte_calls _ _).mono ?_; rintro e w3 ⟨rfl, hb3⟩))
  go_ret
  exact ⟨rfl, hbl.trans (hb3.mono hz)⟩

set_option maxRecDepth 100000 in
theorem eqTerm_calls (t : Tm) (w : World) : Calls Try.prog 94 #[.agg t.cells, .agg t.cells] w fun e w' => e = .returned (.bool true) ∧ Below w.heap.size w w' := by
  have h1 := (Blk.new w t.cells 57).alloc (.cells t.cells 57)
  have h2 := Blk.newAt (w.alloc (.cells t.cells 57)) t.cells 57 (b := w.heap.size + 1) (by simp)
  have hbl := ((Below.refl w.heap.size w).alloc (Nat.le_refl _) (.cells t.cells 57)).alloc (by simp) (.cells t.cells 57)
  have hz : w.heap.size + 2 ≤ ((w.alloc (.cells t.cells 57)).alloc (.cells t.cells 57)).heap.size := by simp
  go_enter Try.func94, Try.ntmps94
  go_wp2_with (first | (refine load_dg_mid rfl _ rfl _ _ rfl t.d h1.tm_dg ?_) | (refine load_dg_mid rfl _ rfl _ _ rfl t.d h2.tm_dg ?_))
  generalize (w.alloc (.cells t.cells 57)).alloc (.cells t.cells 57) = w2 at *
  refine (eqDiagram_calls t.d w2).mono ?_
  rintro e w3 ⟨rfl, hb3⟩
  have k1 := (h1.below hb3 (by omega)).tm_k
  have k2 := (h2.below hb3 (by omega)).tm_k
  clear h1 h2
  go_wp2_with fail
  go_ret
  exact ⟨rfl, hbl.trans (hb3.mono (by omega))⟩

section
variable {P : Program} {ops : Array Oper} {a : Act} {o : Oper} {K : Act → Prop} {w : World}
theorem quiet_load_tm_mid (x : Operand) (ho : o.op = .load 57 x) (b off : Nat) (hx : a.eval x = .pointer (some ⟨b, off, none⟩)) (t : Tm) (h : w.rangeAt b off t.vals) (hlt : b < w.heap.size)
    (hK : K (a.put o.dst (.agg t.cells))) : o.quiet Try.prog a (fun w' => ∃ p : ExtOf w, w' = p.W) K := by
  refine ⟨.agg t.cells, fun W hW => ?_, hK⟩
  obtain ⟨p, rfl⟩ := hW
  unfold Oper.quietAt execOp
  simp only [ho, hx, Instr.loadAt, Instr.sureAddr, Sem.run_bind, Sem.run_pure, Result.andThen_ok, run_loadVar_mid p.W b off 57 t.vals _ (rangeAt_below h p.h hlt) Try.underlying57 rfl (by rw [t.length_vals]; exact (info_tm).trans rfl)]
  exact ⟨rfl, rfl⟩
end

set_option maxHeartbeats 4000000 in
set_option maxRecDepth 100000 in
theorem eqTermS_calls (ts : List Tm) (v u : Value) (bv bu : Nat) (w : World) (hv : TsOwn w bv v ts) (hu : TsOwn w bu u ts) (hn : ts.length ≤ 2000000) :
    Calls Try.prog 47 #[v, u] w fun e w' => e = .returned (.bool true) ∧ Below w.heap.size w w' := by
  by_cases h0 : ts = []
  · subst h0
    obtain ⟨ad, cap, rfl, -, -⟩ := hv.slice
    obtain ⟨ad', cap', rfl, -, -⟩ := hu.slice
    go_enter Try.func47, Try.ntmps47
    go_wp2_with fail
    refine wp_loop_rounds 1 ?_
    rw [rounds_succ]
    go_wp2
    go_ret
    exact ⟨rfl, Below.refl _ _⟩
  · obtain ⟨g, cap, rfl, -, hg, hc1, hc2, hr⟩ := hv.pos h0
    obtain ⟨g', cap', rfl, -, hg', hc1', hc2', hr'⟩ := hu.pos h0
    clear hv hu h0
    go_enter Try.func47, Try.ntmps47
    go_wp2_with fail
    go_loopw [5] (fun i wr => ∃ j : Nat, j ≤ ts.length ∧ i = .int .i64 j ∧ Below w.heap.size w wr) (fun i _ => ts.length - (intOf i).toNat)
    case atStart => exact ⟨0, by omega, rfl, Below.refl _ _⟩
    case round =>
      obtain ⟨j, hj, rfl, hb⟩ := hrel
      have hz := hb.size
      by_cases hlt : j < ts.length
      · have h1 := range_tm (rangeAt_below hr hb hg) j ts[j] (List.getElem?_eq_getElem hlt)
        have h2 := range_tm (rangeAt_below hr' hb hg') j ts[j] (List.getElem?_eq_getElem hlt)
        rw [Nat.zero_add] at h1 h2
        generalize ts[j] = t at *
        go_wp2_with fail
        refine wp_region_ext (by kernel_rfl) (by kernel_rfl) ?_
        repeat (first | (go_big_quiet_want; refine quiet_load_tm_mid _ rfl _ _ rfl _ h1 (by omega) ?_; simp only [Act.put, List.setIfInBounds_toArray, List.set_cons_succ, List.set_cons_zero]; go_big_quiet_on) | (go_big_quiet_want; refine quiet_load_tm_mid _ rfl _ _ rfl _ h2 (by omega) ?_; simp only [Act.put, List.setIfInBounds_toArray, List.set_cons_succ, List.set_cons_zero]; go_big_quiet_on) | go_big_quiet_step ((go_at_call 94; exact ext_call _ (eqTerm_calls _ _))))
        refine wpQuiet_nil ?_
        rintro _ ⟨⟨W, hW⟩, rfl⟩
        go_wp2_with fail
        go_roundw
        case rel => exact ⟨j + 1, by omega, by go_num, hb.trans (hW.mono hz)⟩
        case measure => simp [intOf]; omega
      · obtain rfl : j = ts.length := by omega
        go_wp2_with fail
        go_ret
        exact ⟨rfl, hb⟩

set_option maxRecDepth 100000 in
theorem eqElement_calls (x : El) (v u : Value) (bv bu : Nat) (w : World) (hv : TsOwn w bv v x.ts) (hu : TsOwn w bu u x.ts) (hn : x.ts.length ≤ 2000000) :
    Calls Try.prog 16 #[x.val v, x.val u] w fun e w' => e = .returned (.bool true) ∧ Below w.heap.size w w' := by
  unfold El.val El.cells
  have hbl := ((Below.refl w.heap.size w).alloc (Nat.le_refl _) (.cells #[.int .i64 x.p, .int .i64 x.c, .int .i64 x.n, v] 30)).alloc (by simp) (.cells #[.int .i64 x.p, .int .i64 x.c, .int .i64 x.n, u] 30)
  have hz : w.heap.size ≤ ((w.alloc (.cells #[.int .i64 x.p, .int .i64 x.c, .int .i64 x.n, v] 30)).alloc (.cells #[.int .i64 x.p, .int .i64 x.c, .int .i64 x.n, u] 30)).heap.size := by simp; omega
  have hc := Lib.hid (eqTermS_calls x.ts v u bv bu _ (hv.below hbl (Nat.le_refl _)) (hu.below hbl (Nat.le_refl _)) hn)
  clear hv hu
  go_enter Try.func16, Try.ntmps16
  go_wp2_with fail
  refine hc.out.mono ?_
  rintro e w3 ⟨rfl, hb3⟩
  go_wp2_with fail
  go_ret
  exact ⟨rfl, hbl.trans (hb3.mono hz)⟩
end Go.Proofs.Yticmlgnolbccjaa

/- The statements' own marks. -/
set_option linter.unusedVariables false
set_option linter.unusedSimpArgs false
namespace Go.Proofs.Yticmlgnolbccjaa
open Go.RowKit

def mkTm (k : Int) : Tm := ⟨⟨k, (List.range 16).map fun (j : Nat) => ((k + 1 + (j : Int)) % 256)⟩, k + 17⟩
def mks (k : Int) (n : Nat) : List Tm := (List.range n).map fun (i : Nat) => mkTm (k + 18 * i)
theorem mks_len (k : Int) (n : Nat) : (mks k n).length = n := by simp [mks]
theorem mks_succ (k : Int) (n : Nat) : mks k (n + 1) = mks k n ++ [mkTm (k + 18 * n)] := by simp [mks, List.range_succ]
theorem mks_get (k : Int) (n i : Nat) (h : i < n) : (mks k n)[i]? = some (mkTm (k + 18 * i)) := by simp [mks, h]
theorem mkTm_m (k : Int) (j : Nat) (h : j < 16) : (mkTm k).d.m j = ((k + 1 + (j : Int)) % 256) := by
  simp [mkTm, Dg.m, List.getD_eq_getElem?_getD, h]

/-- A term under way: the size laid, the first m bytes laid. -/
def pt (K : Int) (t : Tm) (m : Nat) : Tm := ⟨⟨K, (List.range 16).map fun (j : Nat) => if j < m then ((K + 1 + (j : Int)) % 256) else t.d.m j⟩, t.k⟩
theorem pt_m (K : Int) (t : Tm) (m j : Nat) (h : j < 16) : (pt K t m).d.m j = if j < m then ((K + 1 + (j : Int)) % 256) else t.d.m j := by
  simp [pt, Dg.m, List.getD_eq_getElem?_getD, h]
theorem vals_eq (t : Tm) : t.vals = .int .i64 t.d.size :: (byt t.d.m ++ [.int .i64 t.k]) := rfl
theorem vals_congr {s t : Tm} (h1 : s.d.size = t.d.size) (h2 : ∀ j, j < 16 → s.d.m j = t.d.m j) (h3 : s.k = t.k) : s.vals = t.vals := by
  rw [vals_eq, vals_eq, h1, h3, byt_congr h2]
theorem pt_zero (K : Int) (t : Tm) : (pt K t 0).vals = t.vals.set 0 (.int .i64 K) := by
  rw [vals_eq, vals_eq, List.set_cons_zero]
  rw [byt_congr (f := (pt K t 0).d.m) (g := t.d.m) (fun j hj => by rw [pt_m K t 0 j hj, if_neg (by omega)])]
  rfl
theorem pt_succ (K : Int) (t : Tm) (m : Nat) (h : m < 16) : (pt K t (m + 1)).vals = (pt K t m).vals.set (1 + m) (.int .u8 (((K + 1 + (m : Int)) % 256))) := by
  rw [vals_eq, vals_eq, Nat.add_comm 1 m, List.set_cons_succ, List.set_append_left _ _ (by rw [byt_len]; exact h), byt_set _ _ _ h]
  have e : byt (pt K t (m + 1)).d.m = byt fun j => if j = m then ((K + 1 + (m : Int)) % 256) else (pt K t m).d.m j := byt_congr fun j hj => by
    rw [pt_m _ _ _ _ hj]
    by_cases h1 : j = m
    · subst h1; rw [if_pos (by omega), if_pos rfl]
    · rw [if_neg h1, pt_m _ _ _ _ hj]
      by_cases h2 : j < m
      · rw [if_pos (by omega), if_pos h2]
      · rw [if_neg (by omega), if_neg h2]
  rw [e]; rfl
theorem mk_of_pt (K : Int) (t : Tm) : (mkTm K).vals = (pt K t 16).vals.set 17 (.int .i64 (K + 17)) := by
  have e : byt (mkTm K).d.m = byt (pt K t 16).d.m := byt_congr fun j hj => by rw [pt_m _ _ _ _ hj, if_pos hj, mkTm_m _ _ hj]
  rw [vals_eq, vals_eq, e, List.set_cons_succ, List.set_append_right _ _ (by rw [byt_len]; omega), byt_len]
  rfl

theorem tc_set (sp : List Value) : ∀ (L : List Tm) (j o : Nat) (v : Value) (t' : Tm), j < L.length → o < 18 → (∀ t, L[j]? = some t → t'.vals = t.vals.set o v) → (tc L ++ sp).set (j * 18 + o) v = tc (L.set j t') ++ sp
  | [], j, o, v, t', h, _, _ => by simp at h
  | x :: xs, 0, o, v, t', _, ho, ht => by
    have h1 := ht x rfl
    rw [tc_cons, List.append_assoc, Nat.zero_mul, Nat.zero_add, List.set_append_left _ _ (by rw [x.length_vals]; exact ho), ← h1, List.set_cons_zero, tc_cons, List.append_assoc]
  | x :: xs, j + 1, o, v, t', h, ho, ht => by
    rw [tc_cons, List.append_assoc, List.set_append_right _ _ (by rw [x.length_vals]; omega), x.length_vals, show (j + 1) * 18 + o - 18 = j * 18 + o from by omega, tc_set sp xs j o v t' (by simpa using h) ho (by simpa using ht), List.set_cons_succ, tc_cons, List.append_assoc]
theorem tc_sp_at (sp : List Value) (L : List Tm) (j o : Nat) (t : Tm) (h : L[j]? = some t) (ho : o < 18) : (tc L ++ sp)[j * 18 + o]? = t.vals[o]? := by
  have hj : j < L.length := (List.getElem?_eq_some_iff.1 h).1
  rw [List.getElem?_append_left (by rw [length_tc]; omega)]
  exact tc_at L j o t h ho

/-- The list under way. -/
def ml (k : Int) (ts : List Tm) (j : Nat) : List Tm := mks k j ++ ts.drop j
theorem ml_len (k : Int) (ts : List Tm) (j : Nat) (h : j ≤ ts.length) : (ml k ts j).length = ts.length := by simp [ml, mks_len]; omega
theorem ml_get (k : Int) (ts : List Tm) (j : Nat) (h : j < ts.length) : (ml k ts j)[j]? = some ts[j] := by
  unfold ml
  rw [List.getElem?_append_right (by rw [mks_len]; omega), mks_len, Nat.sub_self, List.getElem?_drop, Nat.add_zero, List.getElem?_eq_getElem h]
theorem ml_set (k : Int) (ts : List Tm) (j : Nat) (h : j < ts.length) : (ml k ts j).set j (mkTm (k + 18 * j)) = ml k ts (j + 1) := by
  unfold ml
  rw [List.set_append_right _ _ (by rw [mks_len]; omega), mks_len, Nat.sub_self, List.drop_eq_getElem_cons h, List.set_cons_zero, mks_succ, List.append_assoc]; rfl

set_option maxHeartbeats 4000000 in
set_option maxRecDepth 100000 in
theorem markTermS_blk (ts : List Tm) (k : Int) (g cap : Nat) (sp : List Value) (T : TypeId) (w : World) (h : Blk w g (tc ts ++ sp).toArray T) (hk0 : 0 ≤ k) (hk1 : k ≤ 1000000000) (hn : ts.length ≤ 2000000) (hc1 : ts.length ≤ cap) (hc2 : cap ≤ 9223372036854775807) :
    Calls Try.prog 52 #[.slice (some ⟨g, 0, none⟩) ts.length cap, .int .i64 k] w fun e w' => e = .returned (.int .i64 (k + 18 * ts.length)) ∧ Blk w' g (tc (mks k ts.length) ++ sp).toArray T ∧ Only w w' g := by
  go_enter Try.func52, Try.ntmps52
  go_wp2_with fail
  go_loopw [1, 5] (fun s1 i wr => ∃ j : Nat, j ≤ ts.length ∧ i = .int .i64 j ∧ s1 = .int .i64 (k + 18 * j) ∧ Blk wr g (tc (ml k ts j) ++ sp).toArray T ∧ Only w wr g) (fun _ i _ => ts.length - (intOf i).toNat)
  case atStart => exact ⟨0, by omega, rfl, by simp, by simpa [ml, mks] using h, Only.refl _ _⟩
  case round =>
    clear h
    obtain ⟨j, hj, rfl, rfl, h, ho⟩ := hrel
    by_cases hlt : j < ts.length
    · have hget := ml_get k ts j hlt
      have hset := ml_set k ts j hlt
      have hll := ml_len k ts j hj
      generalize ts[j] = t at *
      generalize hK : k + 18 * (j : Int) = K at *
      have hK0 : 0 ≤ K ∧ K ≤ 1000000000 + 36000000 := by omega
      have HK := Lib.hid hK
      have Hset := Lib.hid hset
      have Hget := Lib.hid hget
      clear hK hset hget
      -- the size
      have hc0 := h.cells (j * 18)
      rw [List.getElem?_toArray] at hc0
      have hc0' := tc_sp_at sp _ j 0 t Hget.out (by omega)
      rw [Nat.add_zero] at hc0'
      rw [hc0'] at hc0
      have hc0'' : t.vals[0]? = some (.int .i64 t.d.size) := rfl
      rw [hc0''] at hc0
      have hf0 := h.free
      have h1 := h.set (j * 18) (.int .i64 K)
      have e1 : (tc (ml k ts j) ++ sp).toArray.setIfInBounds (j * 18) (.int .i64 K) = (tc ((ml k ts j).set j (pt K t 0)) ++ sp).toArray := by
        rw [List.setIfInBounds_toArray]
        have := tc_set sp (ml k ts j) j 0 (.int .i64 K) (pt K t 0) (by omega) (by omega) (fun u hu => by rw [Hget.out] at hu; cases hu; exact pt_zero K t)
        rw [Nat.add_zero] at this
        rw [this]
      rw [e1] at h1
      have ho1 := ho.trans (Only.setCell wr g (j * 18) (.int .i64 K))
      have H1 := Lib.hid h1
      have Ho1 := Lib.hid ho1
      clear h1 ho1 e1 hc0' hc0''
      go_wp2_with fail
      generalize wr.setCell ⟨g, j * 18, none⟩ (.int .i64 K) = w1 at *
      clear h hc0 hf0 ho
      go_loopw [1, 6] (fun s1 i wr => ∃ m : Nat, m ≤ 16 ∧ i = .int .i64 m ∧ s1 = .int .i64 (K + 1 + m) ∧ Blk wr g (tc ((ml k ts j).set j (pt K t m)) ++ sp).toArray T ∧ Only w wr g) (fun _ i _ => 16 - (intOf i).toNat)
      case atStart => exact ⟨0, by omega, rfl, by simp, H1.out, Ho1.out⟩
      case round =>
        clear H1 Ho1
        obtain ⟨m, hm, rfl, rfl, h, ho⟩ := hrel
        have hgs : ((ml k ts j).set j (pt K t m))[j]? = some (pt K t m) := by rw [List.getElem?_set_self (by omega)]
        by_cases hltm : m < 16
        · have hc0 := h.cells (j * 18 + 1 + m)
          rw [List.getElem?_toArray] at hc0
          have hc1 := tc_sp_at sp _ j (1 + m) _ hgs (by omega)
          rw [← Nat.add_assoc] at hc1
          rw [hc1] at hc0
          have hc2 : (pt K t m).vals[1 + m]? = some (.int .u8 ((pt K t m).d.m m)) := (pt K t m).list_at _ _ (by have := (pt K t m).d.cells1 m hltm; simpa [Dg.cells] using this)
          rw [hc2] at hc0
          have hf0 := h.free
          have h2 := h.set (j * 18 + 1 + m) (.int .u8 (((K + 1 + (m : Int)) % 256)))
          have e1 : (tc ((ml k ts j).set j (pt K t m)) ++ sp).toArray.setIfInBounds (j * 18 + 1 + m) (.int .u8 (((K + 1 + (m : Int)) % 256))) = (tc ((ml k ts j).set j (pt K t (m + 1))) ++ sp).toArray := by
            rw [List.setIfInBounds_toArray]
            have := tc_set sp ((ml k ts j).set j (pt K t m)) j (1 + m) (.int .u8 (((K + 1 + (m : Int)) % 256))) (pt K t (m + 1)) (by rw [List.length_set]; omega) (by omega) (fun u hu => by rw [hgs] at hu; cases hu; exact pt_succ K t m hltm)
            rw [← Nat.add_assoc] at this
            rw [this, List.set_set]
          rw [e1] at h2
          have ho2 := ho.trans (Only.setCell wr g (j * 18 + 1 + m) (.int .u8 (((K + 1 + (m : Int)) % 256))))
          have H2 := Lib.hid h2
          have Ho2 := Lib.hid ho2
          clear h2 ho2 e1 hc1 hc2 hgs
          go_wp2_with fail
          go_roundw
          case rel => exact ⟨m + 1, by omega, by go_num, by go_num, H2.out, Ho2.out⟩
          case measure => simp [intOf]; omega
        · obtain rfl : m = 16 := by omega
          have hc0 := h.cells (j * 18 + 17)
          rw [List.getElem?_toArray] at hc0
          have hc1 := tc_sp_at sp _ j 17 _ hgs (by omega)
          rw [hc1, Tm.k_at] at hc0
          have hf0 := h.free
          have h2 := h.set (j * 18 + 17) (.int .i64 (K + 17))
          have e1 : (tc ((ml k ts j).set j (pt K t 16)) ++ sp).toArray.setIfInBounds (j * 18 + 17) (.int .i64 (K + 17)) = (tc (ml k ts (j + 1)) ++ sp).toArray := by
            rw [List.setIfInBounds_toArray]
            have := tc_set sp ((ml k ts j).set j (pt K t 16)) j 17 (.int .i64 (K + 17)) (mkTm K) (by rw [List.length_set]; omega) (by omega) (fun u hu => by rw [hgs] at hu; cases hu; exact mk_of_pt K t)
            rw [this, List.set_set, Hset.out]
          rw [e1] at h2
          have ho2 := ho.trans (Only.setCell wr g (j * 18 + 17) (.int .i64 (K + 17)))
          rw [show K + 17 = K + 1 + 16 from by omega] at h2 ho2
          have H2 := Lib.hid h2
          have Ho2 := Lib.hid ho2
          clear h2 ho2 e1 hc1 hgs
          go_wp2_with fail
          go_roundw
          case rel => exact ⟨j + 1, by omega, by go_num, by have := HK.out; go_num, by first | exact H2.out | (simpa using H2.out), by first | exact Ho2.out | (simpa using Ho2.out)⟩
          case measure => simp [intOf]; omega
    · obtain rfl : j = ts.length := by omega
      have e : ml k ts ts.length = mks k ts.length := by unfold ml; rw [List.drop_length, List.append_nil]
      rw [e] at h
      go_wp2_with fail
      go_ret
      exact ⟨rfl, h, ho⟩
end Go.Proofs.Yticmlgnolbccjaa

/- Marks of elements, and how they are told. -/
set_option linter.unusedVariables false
set_option linter.unusedSimpArgs false
namespace Go.Proofs.Yticmlgnolbccjaa
open Go.RowKit

theorem markTermS_calls (ts : List Tm) (k : Int) (v : Value) (base : Nat) (w : World) (h : TsOwn w base v ts) (hk0 : 0 ≤ k) (hk1 : k ≤ 1000000000) (hn : ts.length ≤ 2000000) :
    Calls Try.prog 52 #[v, .int .i64 k] w fun e w' => e = .returned (.int .i64 (k + 18 * ts.length)) ∧ TsOwn w' base v (mks k ts.length) ∧ w.grownBy w' v.ownBlock := by
  rcases h.2 with ⟨rfl, h0⟩ | ⟨g, cap, cur, rfl, hb, hg, hc, hm, hs, htk⟩
  · have hts : ts = [] := List.eq_nil_of_length_eq_zero h0
    subst hts
    go_enter Try.func52, Try.ntmps52
    go_wp2_with fail
    refine wp_loop_rounds 1 ?_
    rw [rounds_succ]
    go_wp2
    go_ret
    exact ⟨by simp, by simpa [mks] using h, ⟨rfl, rfl, rfl, Nat.le_refl _, fun _ _ _ => rfl⟩⟩
  · have hcur : cur = (tc ts ++ cur.toList.drop (ts.length * 18)).toArray := by
      rw [← htk, List.take_append_drop]
    have hB : Blk w g (tc ts ++ cur.toList.drop (ts.length * 18)).toArray 57 := by rw [← hcur]; exact hg
    refine (markTermS_blk ts k g cap _ _ w hB hk0 hk1 hn hc (by unfold maxLen at hm; omega)).mono ?_
    rintro e w' ⟨rfl, h1, ho⟩
    refine ⟨rfl, ⟨length_tc _, .inr ⟨g, cap, _, by rw [mks_len], hb, h1, by rw [mks_len]; exact hc, hm, ?_, ?_⟩⟩, ⟨ho.os, ho.tape, ho.output, by rw [ho.size]; exact Nat.le_refl _, fun j _ hj => ho.block j (fun e => hj (by rw [e]; rfl))⟩⟩
    · have := hs
      have hl := Nat.mul_le_mul_right 18 hc
      simp [length_tc, mks_len]
      omega
    · rw [mks_len]
      have : (tc (mks k ts.length)).length = ts.length * 18 := by rw [length_tc, mks_len]
      rw [← this]
      simp

set_option maxRecDepth 100000 in
theorem markElement_calls (x : El) (k : Int) (v : Value) (base : Nat) (w : World) (h : TsOwn w base v x.ts) (hk0 : 0 ≤ k) (hk1 : k ≤ 1000000000) (hn : x.ts.length ≤ 2000000) :
    Calls Try.prog 19 #[x.val v, .int .i64 k] w fun e w' => e = .returned (.int .i64 (k + 18 * x.ts.length)) ∧ TsOwn w' base v (mks k x.ts.length) ∧ w.grownBy w' v.ownBlock := by
  unfold El.val El.cells
  have hg0 := World.grownBy_alloc w (.cells #[.int .i64 x.p, .int .i64 x.c, .int .i64 x.n, v] 30) v.ownBlock
  have HC := Lib.hid (markTermS_calls x.ts k v base _ (h.alloc' (.cells #[.int .i64 x.p, .int .i64 x.c, .int .i64 x.n, v] 30)) hk0 hk1 hn)
  clear h
  go_enter Try.func19, Try.ntmps19
  go_wp2_with fail
  refine HC.out.mono ?_
  rintro e w3 ⟨rfl, h3, hg3⟩
  go_wp2_with fail
  go_ret
  exact ⟨rfl, h3, hg0.trans hg3⟩

set_option maxHeartbeats 4000000 in
set_option maxRecDepth 100000 in
theorem heldTermS_calls (n : Nat) (k : Int) (v : Value) (base : Nat) (w : World) (h : TsOwn w base v (mks k n)) (hk0 : 0 ≤ k) (hk1 : k ≤ 1000000000) (hn : n ≤ 2000000) :
    Calls Try.prog 53 #[v, .int .i64 k] w fun e w' => e = .returned (.int .i64 (k + 18 * n)) ∧ w = w' := by
  by_cases h0 : n = 0
  · subst h0
    obtain ⟨ad, cap, rfl, -, -⟩ := h.slice
    go_enter Try.func53, Try.ntmps53
    go_wp2_with fail
    refine wp_loop_rounds 1 ?_
    rw [rounds_succ]
    go_wp2
    go_ret
    exact ⟨by simp, rfl⟩
  · obtain ⟨g, cap, rfl, -, hg, hc1, hc2, hr⟩ := h.pos (fun e => h0 (by have := mks_len k n; rw [e] at this; simpa using this.symm))
    rw [mks_len] at *
    clear h h0
    go_enter Try.func53, Try.ntmps53
    go_wp2_with fail
    go_loop [1, 5] (fun s1 i => ∃ j : Nat, j ≤ n ∧ i = .int .i64 j ∧ s1 = .int .i64 (k + 18 * j)) (fun _ i => n - (intOf i).toNat)
    case atStart => exact ⟨0, by omega, rfl, by simp⟩
    case round =>
      obtain ⟨j, hj, rfl, rfl⟩ := hrel
      by_cases hlt : j < n
      · have hr1 := range_tm hr j _ (mks_get k n j hlt)
        rw [Nat.zero_add] at hr1
        generalize hK : k + 18 * (j : Int) = K at *
        have hK0 : 0 ≤ K ∧ K ≤ 1000000000 + 36000000 := by omega
        have HK := Lib.hid hK
        clear hK
        have hc0 := hr1 0 (.int .i64 K) rfl
        rw [Nat.add_zero] at hc0
        have hc17 := hr1 17 (.int .i64 (K + 17)) (by rw [Tm.k_at]; rfl)
        have Hr1 := Lib.hid hr1
        clear hr1
        go_wp2_with fail
        go_loop [1, 6] (fun s1 i => ∃ m : Nat, m ≤ 16 ∧ i = .int .i64 m ∧ s1 = .int .i64 (K + 1 + m)) (fun _ i => 16 - (intOf i).toNat)
        case atStart => exact ⟨0, by omega, rfl, by simp⟩
        case round =>
          obtain ⟨m, hm, rfl, rfl⟩ := hrel
          by_cases hltm : m < 16
          · have hcm := Hr1.out (1 + m) (.int .u8 ((K + 1 + (m : Int)) % 256)) ((mkTm K).list_at _ _ (by have := (mkTm K).d.cells1 m hltm; rw [mkTm_m _ _ hltm] at this; simpa [Dg.cells] using this))
            rw [← Nat.add_assoc] at hcm
            go_wp2_with fail
            go_round
            case rel => exact ⟨m + 1, by omega, by go_num, by go_num⟩
            case measure => simp [intOf]; omega
          · obtain rfl : m = 16 := by omega
            rw [show K + 17 = K + 1 + 16 from by omega] at hc17
            go_wp2_with fail
            go_round
            case rel => exact ⟨j + 1, by omega, by go_num, by have := HK.out; go_num⟩
            case measure => simp [intOf]; omega
      · obtain rfl : j = n := by omega
        go_wp2_with fail
        go_ret
        exact ⟨rfl, rfl⟩

set_option maxRecDepth 100000 in
theorem heldElement_calls (x : El) (n : Nat) (k : Int) (v : Value) (base : Nat) (w : World) (h : TsOwn w base v (mks k n)) (hk0 : 0 ≤ k) (hk1 : k ≤ 1000000000) (hn : n ≤ 2000000) :
    Calls Try.prog 20 #[x.val v, .int .i64 k] w fun e w' => e = .returned (.int .i64 (k + 18 * n)) ∧ Below w.heap.size w w' := by
  unfold El.val El.cells
  have hb := (Below.refl w.heap.size w).alloc (Nat.le_refl _) (.cells #[.int .i64 x.p, .int .i64 x.c, .int .i64 x.n, v] 30)
  have HC := Lib.hid (heldTermS_calls n k v base _ (h.alloc' (.cells #[.int .i64 x.p, .int .i64 x.c, .int .i64 x.n, v] 30)) hk0 hk1 hn)
  clear h
  go_enter Try.func20, Try.ntmps20
  go_wp2_with fail
  refine HC.out.mono ?_
  rintro e w3 ⟨rfl, rfl⟩
  go_wp2_with fail
  go_ret
  exact ⟨rfl, hb⟩
end Go.Proofs.Yticmlgnolbccjaa
