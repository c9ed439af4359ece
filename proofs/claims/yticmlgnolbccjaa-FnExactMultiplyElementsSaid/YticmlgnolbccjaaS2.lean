/- The library's sort at terms, by their texts. -/
import Derived.Test.YticmlgnolbccjaaS1
import Derived.Test.YticmlgnolbccjaaV0
import Derived.Test.YticmlgnolbccjaaT3
import Derived.Sort.OwnSorted
set_option linter.unusedVariables false
set_option linter.unusedSimpArgs false
namespace Go.Proofs.Yticmlgnolbccjaa
open Go.RowKit Go.Sort Go.Shelf

theorem cmpb_lt : ∀ a b : List UInt8, (Lib.compareBytes a b < 0) ↔ a < b
  | [], [] => by simp [Lib.compareBytes]
  | [], _ :: _ => by simp [Lib.compareBytes]
  | _ :: _, [] => by simp [Lib.compareBytes]
  | a :: l, b :: m => by
    have ih := cmpb_lt l m
    unfold Lib.compareBytes
    rw [List.cons_lt_cons_iff]
    by_cases h1 : a < b
    · simp [h1]
    · rw [if_neg h1]
      by_cases h2 : b < a
      · rw [if_pos h2]
        have : a ≠ b := fun e => h1 (by rw [e] at h2 ⊢; exact h2)
        simp [h1, this]
      · rw [if_neg h2, ih]
        have : a = b := UInt8.le_antisymm (UInt8.not_lt.1 h2) (UInt8.not_lt.1 h1)
        simp [h1, this]

/-- Terms whose texts can be made. -/
abbrev PTm := {t : Tm // t.d.Pts}
instance : Inhabited PTm := ⟨⟨⟨Dg.zero 0, 0⟩, ⟨by decide, by decide, fun i h => absurd h (by show ¬ ((i : Int) < 2 * 0); omega)⟩⟩⟩
def encT (x : PTm) : List Value := x.1.vals
def cfT (x y : PTm) : Int := Lib.compareBytes x.1.d.key y.1.d.key
theorem ltT (x y : PTm) : ltOf cfT x y = tlt x.1.d y.1.d := by
  unfold ltOf cfT
  rw [tlt_eq]
  exact decide_eq_decide.2 (cmpb_lt _ _)
theorem swoT : Sort.SWO (ltOf cfT) where
  irrefl x := by rw [ltT]; exact tlt_irrefl _
  trans x y z h1 h2 := by rw [ltT] at *; exact tlt_trans h1 h2
  ntrans x y z h1 h2 := by rw [ltT] at *; exact tlt_ntrans h1 h2

theorem cells_vals (t : Tm) : (Value.agg t.vals.toArray) = .agg t.cells := rfl
theorem term_at (w : World) (t : Tm) (T : TypeId) : DgAt (w.alloc (.cells t.cells T)) w.heap.size 0 t.d := by
  have h := (Blk.new w t.cells T).cells
  refine ⟨?_, fun i hi => ?_⟩
  · rw [h]
    have := t.list_at 0 (.int .i64 t.d.size) rfl
    simpa [Tm.cells] using this
  · rw [h]
    have := t.list_at (1 + i) (.int .u8 (t.d.m i)) (by have := t.d.cells1 i hi; simpa [Dg.cells] using this)
    simpa [Tm.cells] using this

set_option maxRecDepth 100000 in
theorem lessT_calls (x y : PTm) (w : World) : Calls Try.prog 121 #[.agg x.1.cells, .agg y.1.cells] w fun e w' => e = .returned (.int .i64 (cfT x y)) ∧ ∃ q os', w' = Sort.grow (w.drewN q) os' := by
  have hx := x.2
  have hy := y.2
  have hcf : cfT x y = Lib.compareBytes (strOfNums x.1.d.txt).data.toList (strOfNums y.1.d.txt).data.toList := by
    unfold cfT Dg.key; rw [ByteArray.toList_eq, ByteArray.toList_eq]
  rw [hcf]
  clear hcf
  go_enter Try.func121, Try.ntmps121
  have a1 := (term_at w x.1 57).below ((Below.refl _ (w.alloc (.cells x.1.cells 57))).alloc (Nat.le_refl _) (.cells y.1.cells 57)) (by simp)
  have a2 := term_at (w.alloc (.cells x.1.cells 57)) y.1 57
  have hb : Below w.heap.size w ((w.alloc (.cells x.1.cells 57)).alloc (.cells y.1.cells 57)) := ((Below.refl _ w).alloc (Nat.le_refl _) _).alloc (by simp) _
  have hd : w.drawn ≤ ((w.alloc (.cells x.1.cells 57)).alloc (.cells y.1.cells 57)).drawn := Nat.le_refl _
  have hz : (w.alloc (.cells x.1.cells 57)).heap.size = w.heap.size + 1 := by simp
  have hz2 : ((w.alloc (.cells x.1.cells 57)).alloc (.cells y.1.cells 57)).heap.size = w.heap.size + 2 := by simp
  rw [hz] at a2
  have Hb := Lib.hid hb
  have Hd := Lib.hid hd
  clear hb hd hz
  go_wp2_with fail
  generalize (w.alloc (.cells x.1.cells 57)).alloc (.cells y.1.cells 57) = w2 at *
  refine (implTextD_calls _ _ _ _ a1 hx).mono ?_
  rintro e w3 ⟨rfl, hb3, hd3⟩
  have a3 := a2.below hb3 (by omega)
  have Hb3 := Lib.hid hb3
  have Hd3 := Lib.hid hd3
  have hz3 := hb3.size
  clear hb3 hd3 a1 a2
  go_wp2_with fail
  refine (implTextD_calls _ _ _ _ a3 hy).mono ?_
  rintro e w4 ⟨rfl, hb4, hd4⟩
  have Hb4 := Lib.hid hb4
  have Hd4 := Lib.hid hd4
  have hzz : w.heap.size ≤ w2.heap.size ∧ w.heap.size ≤ w3.heap.size := by omega
  clear hb4 hd4 a3
  go_wp2_with (go_at_call 122; refine (Try.strings_Compare _ _ _).mono ?_; rintro e w' ⟨rfl, rfl⟩)
  go_ret
  exact ⟨rfl, grow_of_below ((Hb.out.trans (Hb3.out.mono hzz.1)).trans (Hb4.out.mono hzz.2)) (Nat.le_trans Hd.out (Nat.le_trans Hd3.out Hd4.out))⟩

/-! The world behind the sort. -/
theorem flat_at (L : List PTm) (t : Nat) (ht : t < L.length * 18) : (flatK encT 18 L.toArray)[t]! = ((tc (L.map (·.1)))[t]?).getD default := by
  rw [get_flatK encT 18 L.toArray t (by simpa using ht)]
  have hi : t / 18 < L.length := by omega
  have hj : t % 18 < 18 := by omega
  have h1 := tc_at (L.map (·.1)) (t / 18) (t % 18) L[t / 18].1 (by rw [List.getElem?_map, List.getElem?_eq_getElem hi]; rfl) hj
  rw [show t / 18 * 18 + t % 18 = t from by omega] at h1
  rw [h1]
  have h2 : (L.toArray[t / 18]! : PTm) = L[t / 18] := by
    rw [getElem!_pos L.toArray (t / 18) (by simpa using hi)]; simp
  rw [h2]
  show (L[t / 18].1.vals)[t % 18]! = _
  rw [List.getElem!_eq_getElem?_getD]

theorem holds_terms {w : World} {base g cap : Nat} {L : List PTm} (h : TsOwn w base (.slice (some ⟨g, 0, none⟩) L.length cap) (L.map (·.1))) : HoldsK encT 18 w g 0 L.toArray := by
  intro t ht
  have ht' : t < L.length * 18 := by simpa [flatK] using ht
  have hl : t < (tc (L.map (·.1))).length := by rw [length_tc, List.length_map]; exact ht'
  rw [Nat.zero_add]
  refine ⟨?_, ?_⟩
  · rw [flat_at L t ht', List.getElem?_eq_getElem hl]
    have h' : w.ownsRow base 57 18 (.slice (some ⟨g, 0, none⟩) (L.map (·.1)).length cap) (L.map (·.1)).length (tc (L.map (·.1))) := by
      rw [List.length_map]
      have := h
      unfold TsOwn at this
      rwa [List.length_map] at this
    exact own_cell (n := (L.map (·.1)).length) h' t _ (List.getElem?_eq_getElem hl)
  · rcases h.2 with ⟨h1, _⟩ | ⟨g', cap', cur, h1, _, hg, _⟩
    · cases h1
    · simp only [Value.slice.injEq, Option.some.injEq, Addr.mk.injEq] at h1
      obtain ⟨⟨rfl, -, -⟩, -, -⟩ := h1
      simp [World.frozen?, hg]

theorem heap_sortedK {w : World} {g n : Nat} {os : Array Obj} {cur : Array Value} {e : TypeId} {fr : Nat × Nat} (d : Array PTm) (hb : w.heap[g]? = some (.cells cur e fr)) :
    (sortWorldK encT 18 w g 0 n d os).heap[g]? = some (.cells (Sort.putCells id 0 (flatK encT 18 d) cur) e fr) := by
  have hg : g < w.heap.size := (Array.getElem?_eq_some_iff.1 hb).1
  unfold sortWorldK putRowK
  rw [Sort.heap_grow_old _ _ (by simpa using hg)]
  simp [Sort.putRow, Sort.mapBlock, Sort.ahead, Array.getElem?_modify, hb, Sort.onCells]

theorem grownBy_sortedK {w : World} {g n : Nat} {os : Array Obj} (d : Array PTm) : w.grownBy (sortWorldK encT 18 w g 0 n d os) (some g) := by
  unfold sortWorldK putRowK
  refine ⟨rfl, rfl, rfl, by simp, fun k hk hne => ?_⟩
  rw [Sort.heap_grow_old _ _ (by simpa using hk)]
  have : g ≠ k := fun e => hne (by rw [e])
  simp [Sort.putRow, Sort.mapBlock, Sort.ahead, Array.getElem?_modify, this]

theorem ts_sorted {w : World} {base g cap n : Nat} {os : Array Obj} {L M : List PTm} (hl : M.length = L.length) (h : TsOwn w base (.slice (some ⟨g, 0, none⟩) L.length cap) (L.map (·.1))) :
    TsOwn (sortWorldK encT 18 w g 0 n M.toArray os) base (.slice (some ⟨g, 0, none⟩) L.length cap) (M.map (·.1)) := by
  rcases h.2 with ⟨h1, _⟩ | ⟨g', cap', cur, h1, hb, hg, hc, hm, hs, _⟩
  · cases h1
  · simp only [Value.slice.injEq, Option.some.injEq, Addr.mk.injEq, List.length_map] at h1
    obtain ⟨⟨rfl, -, -⟩, -, rfl⟩ := h1
    rw [List.length_map] at hc
    refine ⟨length_tc _, .inr ⟨g, cap, _, by rw [List.length_map, hl], hb, heap_sortedK M.toArray hg, by rw [List.length_map, hl]; exact hc, hm, by simp [Sort.putCells, hs], ?_⟩⟩
    apply List.ext_getElem?
    intro j
    have hln := length_tc (M.map (·.1))
    rw [List.length_map] at hln
    rw [List.length_map]
    by_cases hj : j < M.length * 18
    · have hcs : j < cur.size := by
        rw [hs]
        have : M.length * 18 ≤ cap * 18 := Nat.mul_le_mul_right _ (by omega)
        omega
      rw [List.getElem?_take_of_lt hj, Array.getElem?_toList]
      have h2 := flat_at M j hj
      rw [List.getElem?_eq_getElem (by rw [hln]; exact hj)] at h2 ⊢
      have h3 : (Sort.putCells id 0 (flatK encT 18 M.toArray) cur)[j]? = some ((flatK encT 18 M.toArray)[j]!) := by
        have h4 : j < (flatK encT 18 M.toArray).size := by simpa [flatK] using hj
        simp [Sort.putCells, hcs, h4]
        intro h5; omega
      rw [h3, h2]; rfl
    · rw [List.getElem?_take_eq_none (by omega), List.getElem?_eq_none (by rw [hln]; omega)]

theorem aggTerm : ∀ w, (isAgg (Try.sortTerm_ren.t 24)).run Try.prog w = .ok true w := fun _ => by kernel_rfl
theorem sizeTerm : ∀ w, (Go.sizeOf (Try.sortTerm_ren.t 24)).run Try.prog w = .ok 18 w := fun _ => by kernel_rfl

theorem sortTerms_calls (w : World) (base : Nat) (v : Value) (ts : List Tm) (h : TsOwn w base v ts) (hp : ∀ t ∈ ts, t.d.Pts) (hn : ts.length ≤ 1000000) :
    Calls Try.prog 120 #[v, .func (.func 121) #[] #[]] w fun e w' => e = .returned (.tuple #[]) ∧ ∃ us, us.Perm ts ∧ us.Pairwise (fun a b => tlt b.d a.d = false) ∧ TsOwn w' base v us ∧ w.grownBy w' v.ownBlock := by
  rcases h.2 with ⟨h1, h0⟩ | ⟨g, cap, cur, rfl, hb, hg, hc, hm, hs, htk⟩
  · subst h1
    have hts : ts = [] := List.eq_nil_of_length_eq_zero h0
    subst hts
    have := AnyF.slices_SortFunc_none (P := Try.prog) (ρ := Try.sortTerm_ren) { Try.sortTerm with } none 0 (.func (.func 121) #[] #[]) w
    change Calls Try.prog 120 _ _ _ at this
    refine this.mono ?_
    rintro e w' ⟨rfl, rfl⟩
    exact ⟨rfl, [], List.Perm.refl _, List.Pairwise.nil, h, ⟨rfl, rfl, rfl, Nat.le_refl _, fun _ _ _ => rfl⟩⟩
  · obtain ⟨L, rfl⟩ : ∃ L : List PTm, L.map (·.1) = ts := ⟨ts.pmap (fun t ht => ⟨t, ht⟩) hp, by rw [List.map_pmap]; simp⟩
    rw [List.length_map] at *
    have eg : ∀ args w, (callFunc 121 args).run Try.prog w = .ok (.enter 121 args) w := enters_of Try.func121 (by kernel_rfl) rfl
    have hcon := AnyQ.slices_SortFunc Try.sortTerm 18 aggTerm sizeTerm encT (fun x => x.1.length_vals) (fun x v hv => tc_oneCell [x.1] v (by simp only [tc, List.flatMap_cons, List.flatMap_nil, List.append_nil]; exact hv)) cfT swoT 121 #[] g 0 cap L.toArray w eg (fun _ _ _ _ x y => lessT_calls x y _) (holds_terms h) (Array.getElem?_eq_some_iff.1 hg).1 (by simp; omega)
    change Calls Try.prog 120 _ _ _ at hcon
    refine hcon.mono ?_
    rintro e w' ⟨rfl, d', n, os, hpm, hso, rfl⟩
    obtain ⟨M, rfl⟩ : ∃ M : List PTm, M.toArray = d' := ⟨d'.toList, by simp⟩
    have hl : M.length = L.length := by simpa using hpm.1
    have hpe : M.Perm L := by
      have h9 := hpm.2.2
      have e1 : (M.toArray.extract 0 L.toArray.size).toList = M := by simp [← hl]
      have e2 : (L.toArray.extract 0 L.toArray.size).toList = L := by simp
      rw [e1, e2] at h9
      exact h9
    refine ⟨rfl, M.map (·.1), hpe.map _, ?_, ts_sorted hl h, grownBy_sortedK _⟩
    rw [List.pairwise_map, List.pairwise_iff_getElem]
    intro i j hi hj hij
    have := hso i j (Nat.zero_le _) hij (by simp; omega)
    rw [ltT] at this
    rw [getElem!_pos M.toArray i (by simpa using hi), getElem!_pos M.toArray j (by simpa using hj)] at this
    simpa using this
end Go.Proofs.Yticmlgnolbccjaa
