/- Diagrams as data, their cells in memory, and the loads and stores of whole diagrams. -/
import Derived.Test.YticmlgnolbccjaaM1
import Derived.Deep.MidRow
set_option linter.unusedVariables false
set_option linter.unusedSimpArgs false
namespace Go.Proofs.Yticmlgnolbccjaa
open Go.RowKit

/-- A size and sixteen mates. -/
structure Dg where
  size : Int
  mate : List Int
deriving DecidableEq, Inhabited

namespace Dg
/-- The mate of a point. -/
def m (d : Dg) (i : Nat) : Int := d.mate.getD i 0
/-- The cells of a diagram in memory. -/
def list (d : Dg) : List Value := .int .i64 d.size :: (List.range 16).map fun i => .int .u8 (d.m i)
def cells (d : Dg) : Array Value := d.list.toArray
/-- As many mates as Go's array has, each a byte, and the size an int64. -/
structure Wf (d : Dg) : Prop where
  len : d.mate.length = 16
  byte : ∀ i, 0 ≤ d.m i ∧ d.m i ≤ 255
  lo : -9223372036854775808 ≤ d.size
  hi : d.size ≤ 9223372036854775807
def put (d : Dg) (i : Nat) (v : Int) : Dg := { d with mate := d.mate.set i v }
def zero (n : Int) : Dg := ⟨n, List.replicate 16 0⟩

theorem length_list (d : Dg) : d.list.length = 17 := by simp [list]
theorem size_cells (d : Dg) : d.cells.size = 17 := by simp [cells, length_list]
theorem cells0 (d : Dg) : d.cells[0]? = some (.int .i64 d.size) := by simp [cells, list]
theorem cells1 (d : Dg) (i : Nat) (h : i < 16) : d.cells[1 + i]? = some (.int .u8 (d.m i)) := by
  rw [Nat.add_comm]; simp [cells, list, h]
theorem m_put (d : Dg) (i j : Nat) (v : Int) (hd : d.mate.length = 16) (hi : i < 16) : (d.put i v).m j = if j = i then v else d.m j := by
  simp only [put, m, List.getD_eq_getElem?_getD, List.getElem?_set, hd]
  by_cases h : i = j
  · subst h; simp [hi]
  · rw [if_neg h, if_neg (fun e => h e.symm)]
theorem cells_put (d : Dg) (i : Nat) (v : Int) (hd : d.mate.length = 16) (hi : i < 16) : d.cells.setIfInBounds (1 + i) (.int .u8 v) = (d.put i v).cells := by
  apply Array.ext_getElem?
  intro j
  rw [Array.getElem?_setIfInBounds, size_cells]
  cases j with
  | zero => rw [if_neg (by omega), cells0, cells0]; rfl
  | succ j =>
    rw [Nat.add_comm j 1]
    by_cases hj : j < 16
    · rw [cells1 _ _ hj, cells1 _ _ hj, m_put d i j v hd hi]
      by_cases h : j = i
      · subst h; simp [hi]; omega
      · rw [if_neg (by omega), if_neg h]
    · rw [if_neg (by omega)]
      rw [Array.getElem?_eq_none (by rw [size_cells]; omega), Array.getElem?_eq_none (by rw [size_cells]; omega)]
theorem Wf.put {d : Dg} (h : d.Wf) (i : Nat) (v : Int) (hi : i < 16) (h0 : 0 ≤ v) (h1 : v ≤ 255) : (d.put i v).Wf := by
  refine ⟨by simp [Dg.put, h.len], fun j => ?_, h.lo, h.hi⟩
  rw [m_put d i j v h.len hi]
  split
  · exact ⟨h0, h1⟩
  · exact h.byte j
theorem m_zero (n : Int) (i : Nat) : (zero n).m i = 0 := by
  simp only [zero, m, List.getD_eq_getElem?_getD, List.getElem?_replicate]; split <;> rfl
theorem zero_wf (n : Int) (h0 : -9223372036854775808 ≤ n) (h1 : n ≤ 9223372036854775807) : (zero n).Wf := ⟨by simp [zero], fun i => by rw [m_zero]; omega, h0, h1⟩
theorem ext {d e : Dg} (hd : d.mate.length = 16) (he : e.mate.length = 16) (hs : d.size = e.size) (hm : ∀ i, i < 16 → d.m i = e.m i) : d = e := by
  cases d with
  | mk ds dm =>
    cases e with
    | mk es em =>
      simp only [Dg.mk.injEq]
      refine ⟨hs, List.ext_getElem? fun i => ?_⟩
      by_cases h : i < 16
      · have := hm i h
        simp only [m, List.getD_eq_getElem?_getD] at this hd he
        rw [List.getElem?_eq_getElem (by omega), List.getElem?_eq_getElem (by omega)] at this ⊢
        simpa using this
      · simp only at hd he
        rw [List.getElem?_eq_none (by omega), List.getElem?_eq_none (by omega)]
theorem oneCell (d : Dg) : ∀ v ∈ d.list, v.oneCell' = true := by
  intro v hv
  simp only [list, List.mem_cons, List.mem_map] at hv
  rcases hv with rfl | ⟨i, _, rfl⟩ <;> rfl
end Dg

namespace Dg
/-- The unit of size n, with its first j lines. -/
def oneTo (n : Int) (j : Nat) : Dg := (List.range j).foldl (fun d i => (d.put i (n + i)).put (n + i).toNat i) (zero n)
def one (n : Int) : Dg := oneTo n n.toNat
def cup (n i : Int) : Dg := ((((one n).put i.toNat (i + 1)).put (i + 1).toNat i).put (n + i).toNat (n + i + 1)).put (n + i + 1).toNat (n + i)
theorem oneTo_succ (n : Int) (j : Nat) : oneTo n (j + 1) = ((oneTo n j).put j (n + j)).put (n + j).toNat j := by simp [oneTo, List.range_succ]
theorem len_put (d : Dg) (i : Nat) (v : Int) : (d.put i v).mate.length = d.mate.length := by simp [put]
theorem len_zero (n : Int) : (zero n).mate.length = 16 := by simp [zero]
theorem len_oneTo (n : Int) (j : Nat) : (oneTo n j).mate.length = 16 := by
  induction j with
  | zero => simp [oneTo, len_zero]
  | succ j ih => rw [oneTo_succ, len_put, len_put, ih]
theorem len_one (n : Int) : (one n).mate.length = 16 := len_oneTo n _
end Dg

attribute [go_sem] Dg.cells0 Dg.cells1

/-- Only block b of the world has changed. -/
structure Only (w w' : World) (b : Nat) : Prop where
  os : w'.os = w.os
  tape : w'.tape = w.tape
  output : w'.output = w.output
  size : w'.heap.size = w.heap.size
  block : ∀ k, k ≠ b → w'.heap[k]? = w.heap[k]?

theorem Only.refl (w : World) (b : Nat) : Only w w b := ⟨rfl, rfl, rfl, rfl, fun _ _ => rfl⟩
theorem Only.drew {w w' : World} {b : Nat} (h : Only w w' b) : Only w w'.drew b := ⟨h.os, h.tape, h.output, h.size, h.block⟩
theorem Only.below {w w' : World} {b B : Nat} (h : Only w w' b) (hB : B ≤ b) : Below B w w' := ⟨h.os, h.tape, h.output, by rw [h.size]; exact Nat.le_refl _, fun k hk => h.block k (by omega)⟩
theorem Blk.only {w w' : World} {b b' : Nat} {cs : Array Value} {T : TypeId} (h : Blk w b' cs T) (ho : Only w w' b) (hne : b' ≠ b) : Blk w' b' cs T := (ho.block b' hne).trans h
theorem Only.setCell (w : World) (b i : Nat) (v : Value) : Only w (w.setCell ⟨b, i, none⟩ v) b := ⟨rfl, rfl, rfl, by simp, fun k hk => heap_setCell_other w _ k v hk⟩


/-- Of the old blocks only those of a list may have changed. -/
structure But (w w' : World) (l : List Nat) : Prop where
  os : w'.os = w.os
  tape : w'.tape = w.tape
  output : w'.output = w.output
  size : w.heap.size ≤ w'.heap.size
  block : ∀ k, k < w.heap.size → k ∉ l → w'.heap[k]? = w.heap[k]?
theorem But.refl (w : World) (l : List Nat) : But w w l := ⟨rfl, rfl, rfl, Nat.le_refl _, fun _ _ _ => rfl⟩
theorem But.trans {w w1 w2 : World} {l : List Nat} (h : But w w1 l) (k : But w1 w2 l) : But w w2 l :=
  ⟨k.os.trans h.os, k.tape.trans h.tape, k.output.trans h.output, Nat.le_trans h.size k.size, fun j hj hl => (k.block j (by have := h.size; omega) hl).trans (h.block j hj hl)⟩
theorem But.alloc {w w1 : World} {l : List Nat} (h : But w w1 l) (o : Obj) : But w (w1.alloc o) l :=
  h.trans ⟨rfl, rfl, rfl, by simp, fun k hk _ => Below.heap_alloc _ _ _ hk⟩
theorem But.only {w w1 w2 : World} {l : List Nat} {b : Nat} (h : But w w1 l) (k : Only w1 w2 b) (hb : b ∈ l ∨ w.heap.size ≤ b) : But w w2 l :=
  ⟨k.os.trans h.os, k.tape.trans h.tape, k.output.trans h.output, by rw [k.size]; exact h.size, fun j hj hl => (k.block j (by rcases hb with hb | hb <;> intro e <;> subst e <;> first | exact hl hb | omega)).trans (h.block j hj hl)⟩
theorem But.below {w w1 : World} {l : List Nat} {B : Nat} (h : But w w1 l) (hB : B ≤ w.heap.size) (hl : ∀ b ∈ l, B ≤ b) : Below B w w1 :=
  ⟨h.os, h.tape, h.output, h.size, fun k hk => h.block k (by omega) (fun hm => by have := hl k hm; omega)⟩
theorem Blk.but {w w' : World} {b : Nat} {cs : Array Value} {T : TypeId} {l : List Nat} (h : Blk w b cs T) (hb : But w w' l) (hn : b ∉ l) : Blk w' b cs T := (hb.block b h.lt hn).trans h
end Go.Proofs.Yticmlgnolbccjaa
