/- Small laws on blocks of memory: that a block holds some cells, and what keeps it so. -/
import Derived.WalkKit
import Derived.WalkSpells
import Derived.WalkLawsBesides
import Derived.Lib.Hide
import Derived.Deep.MidRow
import Derived.Test.YticmlgnolbccjaaProg
import Derived.Deep.QuietTactic
import Derived.BigQuiet
import Derived.RegionTactic
import Derived.BigRegion
import Derived.ChangeAlike
import Derived.Laws.BytesArg
import Derived.StillTailTactics

set_option linter.unusedVariables false
set_option linter.unusedSimpArgs false
namespace Go.Proofs.Yticmlgnolbccjaa
open Go.RowKit

/-- Block b holds the cells cs, and may be written. -/
def Blk (w : World) (b : Nat) (cs : Array Value) (T : TypeId) : Prop := w.heap[b]? = some (.cells cs T (0, 0))

namespace Blk
variable {w w' : World} {b b' : Nat} {cs : Array Value} {T : TypeId}

theorem lt (h : Blk w b cs T) : b < w.heap.size := (Array.getElem?_eq_some_iff.1 h).1
theorem cells (h : Blk w b cs T) : ∀ o, w.cell? ⟨b, o, none⟩ = cs[o]? := fun o => cell_of_row w b o cs T (0, 0) h
theorem free (h : Blk w b cs T) : ∀ o, w.frozen? ⟨b, o, none⟩ = false := fun o => by
  have h' : w.heap[b]? = some (.cells cs T (0, 0)) := h
  simp [World.frozen?, h']
theorem new (w : World) (cs : Array Value) (T : TypeId) : Blk (w.alloc (.cells cs T)) w.heap.size cs T := heap_alloc_new w _
theorem newAt (w : World) (cs : Array Value) (T : TypeId) (hb : b = w.heap.size) : Blk (w.alloc (.cells cs T)) b cs T := by subst hb; exact new w cs T
theorem alloc (h : Blk w b cs T) (o : Obj) : Blk (w.alloc o) b cs T := (Below.heap_alloc w o b h.lt).trans h
theorem drew (h : Blk w b cs T) : Blk w.drew b cs T := h
theorem drewN (h : Blk w b cs T) (n : Nat) : Blk (w.drewN n) b cs T := h
theorem below {B : Nat} (h : Blk w b cs T) (hb : Below B w w') (hB : b < B) : Blk w' b cs T := (hb.block b hB).trans h
theorem grown {row : Option Nat} (h : Blk w b cs T) (hg : w.grownBy w' row) (hne : some b ≠ row) : Blk w' b cs T := (hg.block b h.lt hne).trans h
theorem set (h : Blk w b cs T) (i : Nat) (v : Value) : Blk (w.setCell ⟨b, i, none⟩ v) b (cs.setIfInBounds i v) T := heap_setCell_same w b i cs T v h
theorem other (h : Blk w b cs T) (a : Addr) (v : Value) (hne : b ≠ a.block) : Blk (w.setCell a v) b cs T := (heap_setCell_other w a b v hne).trans h
end Blk

/-- All old cells and marks read as before. -/
theorem bcell {B : Nat} {W w1 : World} (hb : Below B W w1) :
    (∀ b o, b < B → w1.cell? ⟨b, o, none⟩ = W.cell? ⟨b, o, none⟩) ∧ (∀ b o, b < B → w1.frozen? ⟨b, o, none⟩ = W.frozen? ⟨b, o, none⟩) :=
  ⟨fun b o h => hb.cell (p := ⟨b, o, none⟩) h, fun b o h => hb.frozen (p := ⟨b, o, none⟩) h⟩

theorem bel_drewN {B : Nat} {a w : World} (h : Below B a w) (n : Nat) : Below B a (w.drewN n) := ⟨h.os, h.tape, h.output, h.size, h.block⟩
theorem ret_int {k : IntKind} {a b : Int} (h : a = b) : Ending.returned (.int k a) = .returned (.int k b) := by rw [h]
theorem ret_pair {k l : IntKind} {a b c d : Int} (h : a = b) (h' : c = d) : Ending.returned (.tuple #[.int k a, .int l c]) = .returned (.tuple #[.int k b, .int l d]) := by rw [h, h']
theorem ret_bool {a b : Bool} (h : a = b) : Ending.returned (.bool a) = .returned (.bool b) := by rw [h]

end Go.Proofs.Yticmlgnolbccjaa

/- Plain laws on numbers: primes, powers and remainders. -/
set_option linter.unusedVariables false
set_option linter.unusedSimpArgs false
namespace Go.Proofs.Yticmlgnolbccjaa

/-- Is a in the range from b to c? -/
def inB (a b c : Int) : Bool := decide (b ≤ a ∧ a ≤ c)
theorem inB_true {a b c : Int} (h : b ≤ a ∧ a ≤ c) : inB a b c = true := decide_eq_true h
theorem inB_false {a b c : Int} (h : ¬ (b ≤ a ∧ a ≤ c)) : inB a b c = false := decide_eq_false h
theorem inB_iff {a b c : Int} : inB a b c = true ↔ b ≤ a ∧ a ≤ c := by unfold inB; exact decide_eq_true_iff

/-- p is a prime of at most 97. -/
def primeB (p : Int) : Bool := decide (2 ≤ p ∧ p ≤ 97) && (List.range 98).all fun k => decide (k < 2) || decide (p ≤ k) || decide (p % (k : Int) ≠ 0)

theorem primeB_range {p : Int} (h : primeB p = true) : 2 ≤ p ∧ p ≤ 97 := by
  simp only [primeB, Bool.and_eq_true, decide_eq_true_eq] at h; exact h.1

theorem primeB_none {p : Int} (h : primeB p = true) (k : Int) (h2 : 2 ≤ k) (hk : k < p) : p % k ≠ 0 := by
  have hr := primeB_range h
  simp only [primeB, Bool.and_eq_true, List.all_eq_true, List.mem_range, Bool.or_eq_true, decide_eq_true_eq] at h
  have := h.2 k.toNat (by omega)
  rw [Int.toNat_of_nonneg (by omega)] at this
  rcases this with (h | h) | h
  · omega
  · omega
  · exact h

theorem primeB_of {p : Int} (h2 : 2 ≤ p) (h97 : p ≤ 97) (h : ∀ k : Int, 2 ≤ k → k < p → p % k ≠ 0) : primeB p = true := by
  simp only [primeB, Bool.and_eq_true, List.all_eq_true, List.mem_range, Bool.or_eq_true, decide_eq_true_eq]
  refine ⟨⟨h2, h97⟩, fun k hk => ?_⟩
  by_cases a : k < 2
  · exact .inl (.inl a)
  by_cases b : p ≤ (k : Int)
  · exact .inl (.inr b)
  exact .inr (h k (by omega) (by omega))

theorem primeB_false {p : Int} (k : Int) (h2 : 2 ≤ k) (hk : k < p) (h : p % k = 0) : primeB p = false := by
  cases hp : primeB p
  · rfl
  · exact absurd h (primeB_none hp k h2 hk)

/-- A divisor up to the root is enough. -/
theorem primeB_root {p : Int} (h2 : 2 ≤ p) (h97 : p ≤ 97) (q : Int) (hq : 2 ≤ q) (hqq : p < q * q) (h : ∀ k : Int, 2 ≤ k → k < q → p % k ≠ 0) : primeB p = true := by
  refine primeB_of h2 h97 fun k hk1 hk2 h0 => ?_
  obtain ⟨m, hm⟩ := Int.dvd_of_emod_eq_zero h0
  have hm1 : 2 ≤ m := by
    rcases Int.lt_or_le m 2 with h' | h'
    · have : m ≤ 1 := by omega
      have : k * m ≤ k * 1 := Int.mul_le_mul_of_nonneg_left this (by omega)
      omega
    · exact h'
  rcases Int.lt_or_le k q with hkq | hkq
  · exact h k hk1 hkq h0
  · have hmq : m < q := by
      rcases Int.lt_or_le m q with h' | h'
      · exact h'
      · have : q * q ≤ k * m := Int.mul_le_mul hkq h' (by omega) (by omega)
        omega
    exact h m hm1 hmq (by rw [hm]; exact Int.mul_emod_left k m)

/-- A power modulo p. -/
def powm (p c : Int) (k : Nat) : Int := c ^ k % p

theorem powm_zero (p c : Int) (hp : 2 ≤ p) : powm p c 0 = 1 := by
  unfold powm; rw [Int.pow_zero]; exact Int.emod_eq_of_lt (by omega) (by omega)
theorem powm_succ (p c : Int) (k : Nat) : powm p c (k + 1) = powm p c k * c % p := by
  unfold powm
  rw [Int.pow_succ, Int.mul_emod, Int.mul_emod (c ^ k % p) c, Int.emod_emod_of_dvd _ (Int.dvd_refl p)]
theorem powm_range (p c : Int) (k : Nat) (hp : 1 ≤ p) : 0 ≤ powm p c k ∧ powm p c k < p :=
  ⟨Int.emod_nonneg _ (by omega), Int.emod_lt_of_pos _ (by omega)⟩

/-- Go's '(x % p + p) % p'. -/
theorem mod_of_tmod (x p : Int) : ((x.tmod p + p) % p) = x % p := by
  rcases Int.le_total 0 x with h | h
  · rw [Int.tmod_eq_emod_of_nonneg h]; simp
  · have : x.tmod p = - ((-x).tmod p) := by rw [Int.neg_tmod, Int.neg_neg]
    rw [this, Int.tmod_eq_emod_of_nonneg (by omega)]
    rw [Int.add_emod_right]
    have h2 : (-x) % p + p * ((-x) / p) = -x := Int.emod_add_mul_ediv (-x) p
    have h3 : x = -((-x) % p) + p * (-((-x) / p)) := by rw [Int.mul_neg]; omega
    conv => rhs; rw [h3, Int.add_mul_emod_self_left]

theorem tmod_range (x p : Int) (hp : 0 < p) : -p < x.tmod p ∧ x.tmod p < p := by
  have h1 := Int.lt_tmod_of_pos x hp
  have h2 := Int.tmod_lt_of_pos x hp
  exact ⟨by omega, h2⟩

end Go.Proofs.Yticmlgnolbccjaa

/- Diagrams as data, their cells in memory, and the loads and stores of whole diagrams. -/
set_option linter.unusedVariables false
set_option linter.unusedSimpArgs false
namespace Go.Proofs.Yticmlgnolbccjaa
open Go.RowKit

/-- A size and sixteen mates. -/
structure Dg where
  size : Int
  mate : List Int
deriving DecidableEq, Inhabited

namespace Dg
/-- The mate of a point. -/
def m (d : Dg) (i : Nat) : Int := d.mate.getD i 0
/-- The cells of a diagram in memory. -/
def list (d : Dg) : List Value := .int .i64 d.size :: (List.range 16).map fun i => .int .u8 (d.m i)
def cells (d : Dg) : Array Value := d.list.toArray
/-- As many mates as Go's array has, each a byte, and the size an int64. -/
structure Wf (d : Dg) : Prop where
  len : d.mate.length = 16
  byte : ∀ i, 0 ≤ d.m i ∧ d.m i ≤ 255
  lo : -9223372036854775808 ≤ d.size
  hi : d.size ≤ 9223372036854775807
def put (d : Dg) (i : Nat) (v : Int) : Dg := { d with mate := d.mate.set i v }
def zero (n : Int) : Dg := ⟨n, List.replicate 16 0⟩

theorem length_list (d : Dg) : d.list.length = 17 := by simp [list]
theorem size_cells (d : Dg) : d.cells.size = 17 := by simp [cells, length_list]
theorem cells0 (d : Dg) : d.cells[0]? = some (.int .i64 d.size) := by simp [cells, list]
theorem cells1 (d : Dg) (i : Nat) (h : i < 16) : d.cells[1 + i]? = some (.int .u8 (d.m i)) := by
  rw [Nat.add_comm]; simp [cells, list, h]
theorem m_put (d : Dg) (i j : Nat) (v : Int) (hd : d.mate.length = 16) (hi : i < 16) : (d.put i v).m j = if j = i then v else d.m j := by
  simp only [put, m, List.getD_eq_getElem?_getD, List.getElem?_set, hd]
  by_cases h : i = j
  · subst h; simp [hi]
  · rw [if_neg h, if_neg (fun e => h e.symm)]
theorem cells_put (d : Dg) (i : Nat) (v : Int) (hd : d.mate.length = 16) (hi : i < 16) : d.cells.setIfInBounds (1 + i) (.int .u8 v) = (d.put i v).cells := by
  apply Array.ext_getElem?
  intro j
  rw [Array.getElem?_setIfInBounds, size_cells]
  cases j with
  | zero => rw [if_neg (by omega), cells0, cells0]; rfl
  | succ j =>
    rw [Nat.add_comm j 1]
    by_cases hj : j < 16
    · rw [cells1 _ _ hj, cells1 _ _ hj, m_put d i j v hd hi]
      by_cases h : j = i
      · subst h; simp [hi]; omega
      · rw [if_neg (by omega), if_neg h]
    · rw [if_neg (by omega)]
      rw [Array.getElem?_eq_none (by rw [size_cells]; omega), Array.getElem?_eq_none (by rw [size_cells]; omega)]
theorem Wf.put {d : Dg} (h : d.Wf) (i : Nat) (v : Int) (hi : i < 16) (h0 : 0 ≤ v) (h1 : v ≤ 255) : (d.put i v).Wf := by
  refine ⟨by simp [Dg.put, h.len], fun j => ?_, h.lo, h.hi⟩
  rw [m_put d i j v h.len hi]
  split
  · exact ⟨h0, h1⟩
  · exact h.byte j
theorem m_zero (n : Int) (i : Nat) : (zero n).m i = 0 := by
  simp only [zero, m, List.getD_eq_getElem?_getD, List.getElem?_replicate]; split <;> rfl
theorem zero_wf (n : Int) (h0 : -9223372036854775808 ≤ n) (h1 : n ≤ 9223372036854775807) : (zero n).Wf := ⟨by simp [zero], fun i => by rw [m_zero]; omega, h0, h1⟩
theorem ext {d e : Dg} (hd : d.mate.length = 16) (he : e.mate.length = 16) (hs : d.size = e.size) (hm : ∀ i, i < 16 → d.m i = e.m i) : d = e := by
  cases d with
  | mk ds dm =>
    cases e with
    | mk es em =>
      simp only [Dg.mk.injEq]
      refine ⟨hs, List.ext_getElem? fun i => ?_⟩
      by_cases h : i < 16
      · have := hm i h
        simp only [m, List.getD_eq_getElem?_getD] at this hd he
        rw [List.getElem?_eq_getElem (by omega), List.getElem?_eq_getElem (by omega)] at this ⊢
        simpa using this
      · simp only at hd he
        rw [List.getElem?_eq_none (by omega), List.getElem?_eq_none (by omega)]
theorem oneCell (d : Dg) : ∀ v ∈ d.list, v.oneCell' = true := by
  intro v hv
  simp only [list, List.mem_cons, List.mem_map] at hv
  rcases hv with rfl | ⟨i, _, rfl⟩ <;> rfl
end Dg

namespace Dg
/-- The unit of size n, with its first j lines. -/
def oneTo (n : Int) (j : Nat) : Dg := (List.range j).foldl (fun d i => (d.put i (n + i)).put (n + i).toNat i) (zero n)
def one (n : Int) : Dg := oneTo n n.toNat
def cup (n i : Int) : Dg := ((((one n).put i.toNat (i + 1)).put (i + 1).toNat i).put (n + i).toNat (n + i + 1)).put (n + i + 1).toNat (n + i)
theorem oneTo_succ (n : Int) (j : Nat) : oneTo n (j + 1) = ((oneTo n j).put j (n + j)).put (n + j).toNat j := by simp [oneTo, List.range_succ]
theorem len_put (d : Dg) (i : Nat) (v : Int) : (d.put i v).mate.length = d.mate.length := by simp [put]
theorem len_zero (n : Int) : (zero n).mate.length = 16 := by simp [zero]
theorem len_oneTo (n : Int) (j : Nat) : (oneTo n j).mate.length = 16 := by
  induction j with
  | zero => simp [oneTo, len_zero]
  | succ j ih => rw [oneTo_succ, len_put, len_put, ih]
theorem len_one (n : Int) : (one n).mate.length = 16 := len_oneTo n _
end Dg

attribute [go_sem] Dg.cells0 Dg.cells1

/-- Only block b of the world has changed. -/
structure Only (w w' : World) (b : Nat) : Prop where
  os : w'.os = w.os
  tape : w'.tape = w.tape
  output : w'.output = w.output
  size : w'.heap.size = w.heap.size
  block : ∀ k, k ≠ b → w'.heap[k]? = w.heap[k]?

theorem Only.refl (w : World) (b : Nat) : Only w w b := ⟨rfl, rfl, rfl, rfl, fun _ _ => rfl⟩
theorem Only.drew {w w' : World} {b : Nat} (h : Only w w' b) : Only w w'.drew b := ⟨h.os, h.tape, h.output, h.size, h.block⟩
theorem Only.below {w w' : World} {b B : Nat} (h : Only w w' b) (hB : B ≤ b) : Below B w w' := ⟨h.os, h.tape, h.output, by rw [h.size]; exact Nat.le_refl _, fun k hk => h.block k (by omega)⟩
theorem Blk.only {w w' : World} {b b' : Nat} {cs : Array Value} {T : TypeId} (h : Blk w b' cs T) (ho : Only w w' b) (hne : b' ≠ b) : Blk w' b' cs T := (ho.block b' hne).trans h
theorem Only.setCell (w : World) (b i : Nat) (v : Value) : Only w (w.setCell ⟨b, i, none⟩ v) b := ⟨rfl, rfl, rfl, by simp, fun k hk => heap_setCell_other w _ k v hk⟩


/-- Of the old blocks only those of a list may have changed. -/
structure But (w w' : World) (l : List Nat) : Prop where
  os : w'.os = w.os
  tape : w'.tape = w.tape
  output : w'.output = w.output
  size : w.heap.size ≤ w'.heap.size
  block : ∀ k, k < w.heap.size → k ∉ l → w'.heap[k]? = w.heap[k]?
theorem But.refl (w : World) (l : List Nat) : But w w l := ⟨rfl, rfl, rfl, Nat.le_refl _, fun _ _ _ => rfl⟩
theorem But.trans {w w1 w2 : World} {l : List Nat} (h : But w w1 l) (k : But w1 w2 l) : But w w2 l :=
  ⟨k.os.trans h.os, k.tape.trans h.tape, k.output.trans h.output, Nat.le_trans h.size k.size, fun j hj hl => (k.block j (by have := h.size; omega) hl).trans (h.block j hj hl)⟩
theorem But.alloc {w w1 : World} {l : List Nat} (h : But w w1 l) (o : Obj) : But w (w1.alloc o) l :=
  h.trans ⟨rfl, rfl, rfl, by simp, fun k hk _ => Below.heap_alloc _ _ _ hk⟩
theorem But.only {w w1 w2 : World} {l : List Nat} {b : Nat} (h : But w w1 l) (k : Only w1 w2 b) (hb : b ∈ l ∨ w.heap.size ≤ b) : But w w2 l :=
  ⟨k.os.trans h.os, k.tape.trans h.tape, k.output.trans h.output, by rw [k.size]; exact h.size, fun j hj hl => (k.block j (by rcases hb with hb | hb <;> intro e <;> subst e <;> first | exact hl hb | omega)).trans (h.block j hj hl)⟩
theorem But.below {w w1 : World} {l : List Nat} {B : Nat} (h : But w w1 l) (hB : B ≤ w.heap.size) (hl : ∀ b ∈ l, B ≤ b) : Below B w w1 :=
  ⟨h.os, h.tape, h.output, h.size, fun k hk => h.block k (by omega) (fun hm => by have := hl k hm; omega)⟩
theorem Blk.but {w w' : World} {b : Nat} {cs : Array Value} {T : TypeId} {l : List Nat} (h : Blk w b cs T) (hb : But w w' l) (hn : b ∉ l) : Blk w' b cs T := (hb.block b h.lt hn).trans h
end Go.Proofs.Yticmlgnolbccjaa

/- Diagrams at some address of memory, their partners by places, and their texts. -/
set_option linter.unusedVariables false
set_option linter.unusedSimpArgs false
namespace Go.Proofs.Yticmlgnolbccjaa
open Go.RowKit

/-- The place of a point, and the point of a place. -/
def place (n i : Int) : Int := if i < n then i else 3 * n - 1 - i

theorem place_range {n i : Int} (h0 : 0 ≤ i) (h1 : i < 2 * n) : 0 ≤ place n i ∧ place n i < 2 * n := by
  unfold place; split <;> omega
theorem place_place {n i : Int} (h0 : 0 ≤ i) (h1 : i < 2 * n) : place n (place n i) = i := by
  unfold place
  by_cases h : i < n
  · rw [if_pos h, if_pos h]
  · rw [if_neg h, if_neg (by omega)]; omega
theorem place_inj {n i k : Int} (h0 : 0 ≤ i) (h1 : i < 2 * n) (k0 : 0 ≤ k) (k1 : k < 2 * n) (h : place n i = place n k) : i = k := by
  rw [← place_place h0 h1, h, place_place k0 k1]

/-- The diagram d lies at an address. -/
structure DgAt (w : World) (b off : Nat) (d : Dg) : Prop where
  size : w.cell? ⟨b, off, none⟩ = some (.int .i64 d.size)
  mate : ∀ i, i < 16 → w.cell? ⟨b, off + 1 + i, none⟩ = some (.int .u8 (d.m i))

theorem Blk.dgAt {w : World} {b : Nat} {d : Dg} {T : TypeId} (h : Blk w b d.cells T) : DgAt w b 0 d :=
  ⟨by rw [h.cells, d.cells0], fun i hi => by rw [h.cells, Nat.zero_add, d.cells1 i hi]⟩
theorem DgAt.below {w w' : World} {b off B : Nat} {d : Dg} (h : DgAt w b off d) (hb : Below B w w') (hB : b < B) : DgAt w' b off d :=
  ⟨(hb.cell (p := ⟨b, off, none⟩) hB).trans h.size, fun i hi => (hb.cell (p := ⟨b, off + 1 + i, none⟩) hB).trans (h.mate i hi)⟩
theorem DgAt.only {w w' : World} {b b' off : Nat} {d : Dg} (h : DgAt w b off d) (ho : Only w w' b') (hne : b ≠ b') : DgAt w' b off d :=
  ⟨(World.cell?_of_block (a := ⟨b, off, none⟩) (ho.block b hne)).trans h.size, fun i hi => (World.cell?_of_block (a := ⟨b, off + 1 + i, none⟩) (ho.block b hne)).trans (h.mate i hi)⟩
theorem DgAt.but {w w' : World} {b off : Nat} {d : Dg} {l : List Nat} (h : DgAt w b off d) (ho : But w w' l) (hne : b ∉ l) : DgAt w' b off d :=
  ⟨(World.cell?_of_block (a := ⟨b, off, none⟩) (ho.block b (World.block_lt_of_cell? w _ h.size) hne)).trans h.size, fun i hi => (World.cell?_of_block (a := ⟨b, off + 1 + i, none⟩) (ho.block b (World.block_lt_of_cell? w _ h.size) hne)).trans (h.mate i hi)⟩
theorem DgAt.lt {w : World} {b off : Nat} {d : Dg} (h : DgAt w b off d) : b < w.heap.size := World.block_lt_of_cell? w _ h.size

/-- The size is right, and the mates are points. -/
structure Dg.Pts (d : Dg) : Prop where
  lo : 0 ≤ d.size
  hi : d.size ≤ 8
  mate : ∀ i : Nat, (i : Int) < 2 * d.size → 0 ≤ d.m i ∧ d.m i < 2 * d.size

namespace Dg
/-- The place of the other end of the line at a place. -/
def other (d : Dg) (k : Int) : Int := place d.size (d.m (place d.size k).toNat)
/-- The sign of a place in the text: ( or ). -/
def sign (d : Dg) (k : Nat) : Int := if (k : Int) < d.other k then 40 else 41
/-- The text, as the codes of its bytes. -/
def txt (d : Dg) : List Int := (List.range (2 * d.size).toNat).map d.sign
def txtTo (d : Dg) (k : Nat) : List Int := (List.range k).map d.sign
theorem txtTo_succ (d : Dg) (k : Nat) : d.txtTo (k + 1) = d.txtTo k ++ [d.sign k] := by simp [txtTo, List.range_succ]
theorem Pts.other {d : Dg} (h : d.Pts) {k : Int} (h0 : 0 ≤ k) (h1 : k < 2 * d.size) : 0 ≤ d.other k ∧ d.other k < 2 * d.size := by
  have hp := place_range h0 h1
  have hm := h.mate (place d.size k).toNat (by omega)
  exact place_range hm.1 hm.2
end Dg
end Go.Proofs.Yticmlgnolbccjaa

/- The walks of the functions on numbers alone: ranges, remainders, powers and primes, of the program and of the reference. -/
set_option linter.unusedVariables false
set_option linter.unusedSimpArgs false
namespace Go.Proofs.Yticmlgnolbccjaa
open Go.RowKit

theorem specIn_calls (a b c : Int) (w : World) :
    Calls Try.prog 54 #[.int .i64 a, .int .i64 b, .int .i64 c] w fun e w' => e = .returned (.bool (inB a b c)) ∧ w = w' := by
  by_cases h : b ≤ a
  · go_enter Try.func54, Try.ntmps54
    go_wp2
    go_ret
    exact ⟨ret_bool (by simp [inB, h]), rfl⟩
  · go_enter Try.func54, Try.ntmps54
    go_wp2
    go_ret
    exact ⟨ret_bool (by rw [inB_false (by omega)]), rfl⟩

theorem implIn_calls (a b c : Int) (w : World) :
    Calls Try.prog 56 #[.int .i64 a, .int .i64 b, .int .i64 c] w fun e w' => e = .returned (.bool (inB a b c)) ∧ w = w' := by
  by_cases h : b ≤ a
  · go_enter Try.func56, Try.ntmps56
    go_wp2
    go_ret
    exact ⟨ret_bool (by simp [inB, h]), rfl⟩
  · go_enter Try.func56, Try.ntmps56
    go_wp2
    go_ret
    exact ⟨ret_bool (by rw [inB_false (by omega)]), rfl⟩


theorem specPlace_calls (n i : Int) (w : World) (h1 : 0 ≤ n) (h2 : n ≤ 100) (h3 : 0 ≤ i) (h4 : i ≤ 1000) :
    Calls Try.prog 131 #[.int .i64 n, .int .i64 i] w fun e w' => e = .returned (.int .i64 (place n i)) ∧ w = w' := by
  go_enter Try.func131, Try.ntmps131
  go_wp2
  · go_ret; exact ⟨ret_int (by unfold place; rw [if_pos (by assumption)]), rfl⟩
  · go_ret; exact ⟨ret_int (by unfold place; rw [if_neg (by omega)]), rfl⟩

theorem implPlace_calls (n i : Int) (w : World) (h1 : 0 ≤ n) (h2 : n ≤ 100) (h3 : 0 ≤ i) (h4 : i ≤ 1000) :
    Calls Try.prog 125 #[.int .i64 n, .int .i64 i] w fun e w' => e = .returned (.int .i64 (place n i)) ∧ w = w' := by
  go_enter Try.func125, Try.ntmps125
  go_wp2
  · go_ret; exact ⟨ret_int (by unfold place; rw [if_pos (by assumption)]), rfl⟩
  · go_ret; exact ⟨ret_int (by unfold place; rw [if_neg (by omega)]), rfl⟩

theorem specMod_calls (p x : Int) (w : World) (h1 : 1 ≤ p) (h2 : p ≤ 1000) (h3 : -4611686018427387904 ≤ x) (h4 : x ≤ 4611686018427387904) :
    Calls Try.prog 103 #[.int .i64 p, .int .i64 x] w fun e w' => e = .returned (.int .i64 (x % p)) ∧ w = w' := by
  have ht := tmod_range x p (by omega)
  have hp0 : (p == 0) = false := beq_eq_false_iff_ne.2 (by omega)
  go_enter Try.func103, Try.ntmps103
  go_wp2
  go_ret
  exact ⟨ret_int (mod_of_tmod x p), rfl⟩

theorem implRest_calls (x p : Int) (w : World) (h1 : 1 ≤ p) (h2 : p ≤ 1000) (h3 : -4611686018427387904 ≤ x) (h4 : x ≤ 4611686018427387904) :
    Calls Try.prog 119 #[.int .i64 x, .int .i64 p] w fun e w' => e = .returned (.int .i64 (x % p)) ∧ w = w' := by
  have ht := tmod_range x p (by omega)
  have hp0 : (p == 0) = false := beq_eq_false_iff_ne.2 (by omega)
  go_enter Try.func119, Try.ntmps119
  go_wp2
  go_ret
  exact ⟨ret_int (mod_of_tmod x p), rfl⟩

theorem specPower_calls (p c k : Int) (w : World) (h1 : 2 ≤ p) (h2 : p ≤ 97) (h3 : 0 ≤ c) (h4 : c ≤ p) (h5 : 0 ≤ k) (h6 : k ≤ 100000) :
    Calls Try.prog 87 #[.int .i64 p, .int .i64 c, .int .i64 k] w fun e w' => e = .returned (.int .i64 (powm p c k.toNat)) ∧ w = w' := by
  have hp0 : (p == 0) = false := beq_eq_false_iff_ne.2 (by omega)
  have h1p : (1 : Int) % p = 1 := Int.emod_eq_of_lt (by omega) (by omega)
  have hz := powm_zero p c h1
  go_enter Try.func87, Try.ntmps87
  go_wp2
  go_loop [2, 7] (fun u v => ∃ j : Nat, j ≤ k.toNat ∧ u = .int .i64 (k - j) ∧ v = .int .i64 (powm p c j)) (fun u _ => (intOf u).toNat)
  case atStart => exact ⟨0, by omega, by simp, by rw [hz, h1p]⟩
  case round =>
    obtain ⟨j, hj, rfl, rfl⟩ := hrel
    have hr := powm_range p c j (by omega)
    have hm : powm p c j * c ≤ 97 * 97 := Int.mul_le_mul (by omega) (by omega) (by omega) (by omega)
    have hm0 : 0 ≤ powm p c j * c := Int.mul_nonneg (by omega) (by omega)
    clear h1p hz
    by_cases hlt : (j : Int) < k
    · go_wp2
      go_round
      case rel => exact ⟨j + 1, by omega, by go_num, by rw [powm_succ]⟩
      case measure => simp [intOf]; omega
    · obtain rfl : (j : Int) = k := by omega
      go_wp2
      go_ret
      exact ⟨by simp, rfl⟩

theorem implPower_calls (p c k : Int) (w : World) (h1 : 2 ≤ p) (h2 : p ≤ 97) (h3 : 0 ≤ c) (h4 : c ≤ p) (h5 : 0 ≤ k) (h6 : k ≤ 100000) :
    Calls Try.prog 93 #[.int .i64 c, .int .i64 k, .int .i64 p] w fun e w' => e = .returned (.int .i64 (powm p c k.toNat)) ∧ w = w' := by
  have hp0 : (p == 0) = false := beq_eq_false_iff_ne.2 (by omega)
  have hz := powm_zero p c h1
  go_enter Try.func93, Try.ntmps93
  go_wp2
  go_loop [7, 9] (fun v u => ∃ j : Nat, j ≤ k.toNat ∧ u = .int .i64 j ∧ v = .int .i64 (powm p c j)) (fun _ u => k.toNat - (intOf u).toNat)
  case atStart => exact ⟨0, by omega, by simp, by rw [hz]⟩
  case round =>
    obtain ⟨j, hj, rfl, rfl⟩ := hrel
    have hr := powm_range p c j (by omega)
    have hm : powm p c j * c ≤ 97 * 97 := Int.mul_le_mul (by omega) (by omega) (by omega) (by omega)
    have hm0 : 0 ≤ powm p c j * c := Int.mul_nonneg (by omega) (by omega)
    clear hz
    by_cases hlt : (j : Int) < k
    · go_wp2
      go_round
      case rel => exact ⟨j + 1, by omega, by go_num, by rw [powm_succ]⟩
      case measure => simp [intOf]; omega
    · obtain rfl : (j : Int) = k := by omega
      go_wp2
      go_ret
      exact ⟨by simp, rfl⟩

theorem specPrime_calls (p : Int) (w : World) :
    Calls Try.prog 83 #[.int .i64 p] w fun e w' => e = .returned (.bool (primeB p)) ∧ w = w' := by
  go_enter Try.func83, Try.ntmps83
  go_wp2
  go_loop [3] (fun u => ∃ j : Nat, 2 ≤ j ∧ j ≤ 100 ∧ u = .int .i64 j ∧ ∀ k : Int, 2 ≤ k → k < j → p % k ≠ 0) (fun u => (100 - intOf u).toNat)
  case atStart => exact ⟨2, by omega, by omega, rfl, by omega⟩
  case round =>
    obtain ⟨j, h2, h100, rfl, hno⟩ := hrel
    have Hno := Lib.hid hno
    clear hno
    have hj0 : ((j : Int) == 0) = false := beq_eq_false_iff_ne.2 (by omega)
    by_cases hlt : (j : Int) < p ∧ j < 100
    · obtain ⟨hl1, hl2⟩ := hlt
      by_cases hd : p % (j : Int) = 0
      · have hd' : (p % (j : Int) == 0) = true := by simp [hd]
        have Hd := Lib.hid hd
        clear hd
        go_wp2
        go_ret
        exact ⟨ret_bool (primeB_false j (by omega) hl1 Hd.out).symm, rfl⟩
      · have hd' : (p % (j : Int) == 0) = false := by simp [hd]
        have Hd := Lib.hid hd
        clear hd
        go_wp2
        go_round
        case rel => exact ⟨j + 1, by omega, by omega, by go_num, fun k hk1 hk2 => by
          rcases Int.lt_or_eq_of_le (show k ≤ j by omega) with h | h
          · exact Hno.out k hk1 h
          · rw [h]; exact Hd.out⟩
        case measure => simp [intOf]; omega
    · have hv : inB p 2 97 = primeB p := by
        by_cases hp : 2 ≤ p ∧ p ≤ 97
        · rw [inB_true hp, primeB_of hp.1 hp.2 fun k h1 h2 => Hno.out k h1 (by omega)]
        · cases hq : primeB p
          · exact inB_false hp
          · exact absurd (primeB_range hq) hp
      have Hv := Lib.hid hv
      clear hv
      by_cases hl1 : (j : Int) < p
      · have hl2 : ¬ (j : Int) < 100 := by omega
        clear hlt
        go_wp2_with (go_at_call 54; refine (specIn_calls _ _ _ _).mono ?_; rintro e w' ⟨rfl, rfl⟩)
        go_ret
        exact ⟨ret_bool Hv.out, rfl⟩
      · clear hlt
        go_wp2_with (go_at_call 54; refine (specIn_calls _ _ _ _).mono ?_; rintro e w' ⟨rfl, rfl⟩)
        go_ret
        exact ⟨ret_bool Hv.out, rfl⟩

theorem implPrime_calls (p : Int) (w : World) :
    Calls Try.prog 109 #[.int .i64 p] w fun e w' => e = .returned (.bool (primeB p)) ∧ w = w' := by
  by_cases hp : 2 ≤ p ∧ p ≤ 97
  · have hd : inB p 2 97 = true := inB_true hp
    obtain ⟨hp1, hp2⟩ := hp
    go_enter Try.func109, Try.ntmps109
    go_wp2_with (go_at_call 56; refine (implIn_calls _ _ _ _).mono ?_; rintro e w' ⟨rfl, rfl⟩)
    go_loop [3] (fun u => ∃ j : Nat, 2 ≤ j ∧ j ≤ 98 ∧ u = .int .i64 j ∧ ∀ k : Int, 2 ≤ k → k < j → p % k ≠ 0) (fun u => (100 - intOf u).toNat)
    case atStart => exact ⟨2, by omega, by omega, rfl, by omega⟩
    case round =>
      obtain ⟨j, h2, h100, rfl, hno⟩ := hrel
      have Hno := Lib.hid hno
      clear hno
      have hj0 : ((j : Int) == 0) = false := beq_eq_false_iff_ne.2 (by omega)
      have hjj : (j : Int) * j ≤ 98 * 98 := Int.mul_le_mul (by omega) (by omega) (by omega) (by omega)
      have hjj0 : (j : Int) * 2 ≤ j * j := Int.mul_le_mul_of_nonneg_left (by omega) (by omega)
      by_cases hlt : (j : Int) * j ≤ p
      · by_cases hd : p % (j : Int) = 0
        · have hd' : (p % (j : Int) == 0) = true := by simp [hd]
          have Hd := Lib.hid hd
          clear hd
          go_wp2
          go_ret
          exact ⟨ret_bool (primeB_false j (by omega) (by omega) Hd.out).symm, rfl⟩
        · have hd' : (p % (j : Int) == 0) = false := by simp [hd]
          have Hd := Lib.hid hd
          clear hd
          go_wp2
          go_round
          case rel => exact ⟨j + 1, by omega, by omega, by go_num, fun k hk1 hk2 => by
            rcases Int.lt_or_eq_of_le (show k ≤ j by omega) with h | h
            · exact Hno.out k hk1 h
            · rw [h]; exact Hd.out⟩
          case measure => simp [intOf]; omega
      · go_wp2
        go_ret
        exact ⟨ret_bool (primeB_root hp1 hp2 j (by omega) (by omega) Hno.out).symm, rfl⟩
  · have hd : inB p 2 97 = false := inB_false hp
    have hq : primeB p = false := by
      cases hq : primeB p
      · rfl
      · exact absurd (primeB_range hq) hp
    have Hq := Lib.hid hq
    clear hq hp
    go_enter Try.func109, Try.ntmps109
    go_wp2_with (go_at_call 56; refine (implIn_calls _ _ _ _).mono ?_; rintro e w' ⟨rfl, rfl⟩)
    go_ret
    exact ⟨ret_bool Hq.out.symm, rfl⟩

/-- p and c are right as a prime and a loop. -/
def fieldB (p c : Int) : Bool := primeB p && inB c 0 (p - 1)

theorem implField_calls (p c : Int) (w : World) :
    Calls Try.prog 73 #[.int .i64 p, .int .i64 c] w fun e w' => e = .returned (.bool (fieldB p c)) ∧ w = w' := by
  cases hp : primeB p
  · have hf : fieldB p c = false := by simp [fieldB, hp]
    have Hf := Lib.hid hf
    clear hf
    go_enter Try.func73, Try.ntmps73
    go_wp2_with (first | (go_at_call 56; refine (implIn_calls _ _ _ _).mono ?_; rintro e w' ⟨rfl, rfl⟩) | (go_at_call 109; refine (implPrime_calls _ _).mono ?_; rintro e w' ⟨rfl, rfl⟩))
    go_ret
    exact ⟨ret_bool Hf.out.symm, rfl⟩
  · have hr := primeB_range hp
    have hf : fieldB p c = inB c 0 (p - 1) := by simp [fieldB, hp]
    have Hf := Lib.hid hf
    clear hf
    go_enter Try.func73, Try.ntmps73
    go_wp2_with (first | (go_at_call 56; refine (implIn_calls _ _ _ _).mono ?_; rintro e w' ⟨rfl, rfl⟩) | (go_at_call 109; refine (implPrime_calls _ _).mono ?_; rintro e w' ⟨rfl, rfl⟩))
    go_ret
    exact ⟨ret_bool Hf.out.symm, rfl⟩

end Go.Proofs.Yticmlgnolbccjaa

/- The walks of the functions that make diagrams point by point, of the program and of the reference. -/
set_option linter.unusedVariables false
set_option linter.unusedSimpArgs false
namespace Go.Proofs.Yticmlgnolbccjaa
open Go.RowKit

theorem info_dg : (Try.prog.info? 47).map (·.size) = some 17 := by kernel_rfl

theorem setRow_heap_other (w : World) (g k : Nat) (cs : Array Value) (h : k ≠ g) : (w.setRow g cs).heap[k]? = w.heap[k]? := by
  simp only [World.setRow, Array.getElem?_modify]
  rw [if_neg (fun e => h e.symm)]

section
variable {ops : Array Oper} {rest : List Oper} {o : Oper} {a : Act} {w : World} {Q : Exit → Act → World → Prop}

theorem load_dg (hgd : o.guard = none) (x : Operand) (ho : o.op = .load 47 x) (b : Nat) (hx : a.eval x = .pointer (some ⟨b, 0, none⟩)) (d : Dg) (T : TypeId) (h : Blk w b d.cells T)
    (hK : wpList Try.prog ops Q rest (a.put o.dst (.agg d.cells)) w) : wpList Try.prog ops Q (o :: rest) a w :=
  wpList_load_row hgd _ x ho b hx T d.cells (0, 0) _ h Try.underlying47 rfl (by rw [info_dg, d.size_cells]) hK

/-- The same behind a guard. -/
theorem load_dgw (x : Operand) (ho : o.op = .load 47 x) (b : Nat) (hx : a.eval x = .pointer (some ⟨b, 0, none⟩)) (d : Dg) (T : TypeId) (h : Blk w b d.cells T) (hw : Region.wanted o (yielded ops a.tmps) = true)
    (hK : wpList Try.prog ops Q rest (a.put o.dst (.agg d.cells)) w) : wpList Try.prog ops Q (o :: rest) a w :=
  BigFrame.wpList_want hw fun _ hk => wp_load_row _ x ho b hx T d.cells (0, 0) _ h Try.underlying47 rfl (by rw [info_dg, d.size_cells]) (hk _ _ hK)

theorem store_dg (hgd : o.guard = none) (x y : Operand) (ho : o.op = .store 47 x y) (b : Nat) (hx : a.eval x = .pointer (some ⟨b, 0, none⟩)) (d : Dg) (hy : a.eval y = .agg d.cells)
    (cs : Array Value) (T : TypeId) (h : Blk w b cs T) (hs : cs.size = 17)
    (hK : ∀ w', Blk w' b d.cells T → Only w w' b → wpList Try.prog ops Q rest (a.put o.dst undef) w') : wpList Try.prog ops Q (o :: rest) a w := by
  refine wpList_store_row hgd _ x y ho b d.cells hx hy T cs h (by rw [info_dg, d.size_cells]) (by rw [hs, d.size_cells]) (all_oneCell_toArray d.oneCell) (hK _ ?_ ?_)
  · exact setRow_heap w b cs _ T _ h
  · exact ⟨rfl, rfl, rfl, by simp, fun k hk => setRow_heap_other w b k _ hk⟩

/-- The end of a walk whose result is a diagram. -/
theorem ret_dg {fn : Func} {R : Ending → World → Prop} {p : Tmp} (hr : fn.results = #[.cell p 47]) (b : Nat) (hp : a.tmps.getD p undef = .pointer (some ⟨b, 0, none⟩)) (d : Dg) (T : TypeId) (h : Blk w b d.cells T)
    (hd : a.defers = []) (hR : R (.returned (.agg d.cells)) w) : bodyPost Try.prog fn R .ret a w :=
  bodyPost_ret (results_cell_row hr _ w b T d.cells (0, 0) _ hp h Try.underlying47 rfl (by rw [info_dg, d.size_cells])) hd hR

/-- The end of a walk whose results are a diagram and something in a slot. -/
theorem ret_dg_tmp {fn : Func} {R : Ending → World → Prop} {p t : Tmp} (hr : fn.results = #[.cell p 47, .tmp t]) (b : Nat) (hp : a.tmps.getD p undef = .pointer (some ⟨b, 0, none⟩)) (d : Dg) (T : TypeId) (h : Blk w b d.cells T)
    (v : Value) (ht : a.tmps.getD t undef = v) (hd : a.defers = []) (hR : R (.returned (.tuple #[.agg d.cells, v])) w) : bodyPost Try.prog fn R .ret a w := by
  refine bodyPost_ret (v := .tuple #[.agg d.cells, v]) ?_ hd hR
  have hp' : a.tmps[p]?.getD undef = .pointer (some ⟨b, 0, none⟩) := by simpa using hp
  have ht' : a.tmps[t]?.getD undef = v := by simpa using ht
  simp [results, hr, hp', ht', asAddr, run_loadVar_row w b T 47 d.cells (0, 0) _ h Try.underlying47 rfl (by rw [info_dg, d.size_cells])]
end

theorem Only.trans {w w1 w2 : World} {b : Nat} (h : Only w w1 b) (k : Only w1 w2 b) : Only w w2 b :=
  ⟨k.os.trans h.os, k.tape.trans h.tape, k.output.trans h.output, k.size.trans h.size, fun j hj => (k.block j hj).trans (h.block j hj)⟩

theorem specJoin_calls (d : Dg) (i k : Int) (w : World) (hd : d.mate.length = 16) (hi : 0 ≤ i) (hi' : i < 16) (hk : 0 ≤ k) (hk' : k < 16) :
    Calls Try.prog 85 #[.agg d.cells, .int .i64 i, .int .i64 k] w fun e w' =>
      e = .returned (.agg ((d.put i.toNat k).put k.toNat i).cells) ∧ Below w.heap.size w w' := by
  have hd1 : (d.put i.toNat k).mate.length = 16 := by simp [Dg.put, hd]
  have e1 := d.cells_put i.toNat k hd (by omega)
  have e2 := (d.put i.toNat k).cells_put k.toNat i hd1 (by omega)
  clear hd hd1
  have hin : i.toNat < 16 := by omega
  have hkn : k.toNat < 16 := by omega
  go_enter Try.func85, Try.ntmps85
  go_wp2_with (first | (refine load_dg rfl _ rfl _ rfl ((d.put i.toNat k).put k.toNat i) 47 ((Blk.new _ _ _).alloc _) ?_) | (refine store_dg rfl _ _ rfl _ rfl _ rfl _ 47 (Blk.newAt _ _ _ (by simp)) rfl ?_; intro w1 hb1 ho1))
  refine ret_dg rfl _ rfl _ _ hb1 rfl ⟨rfl, ?_⟩
  exact (((Below.refl _ w).alloc (Nat.le_refl _) _).alloc (by simp) _).trans (ho1.below (by simp))

theorem implJoin_calls (d : Dg) (b : Nat) (T : TypeId) (i k : Int) (w : World) (hd : d.mate.length = 16) (hb : Blk w b d.cells T) (hi : 0 ≤ i) (hi' : i < 16) (hk : 0 ≤ k) (hk' : k < 16) :
    Calls Try.prog 105 #[.pointer (some ⟨b, 0, none⟩), .int .i64 i, .int .i64 k] w fun e w' =>
      e = .returned (.tuple #[]) ∧ Blk w' b ((d.put i.toNat k).put k.toNat i).cells T ∧ Only w w' b := by
  have hc1 : w.cell? ⟨b, 1 + i.toNat, none⟩ = some (.int .u8 (d.m i.toNat)) := by rw [hb.cells, d.cells1 _ (by omega)]
  have hc2 : w.cell? ⟨b, 1 + k.toNat, none⟩ = some (.int .u8 (d.m k.toNat)) := by rw [hb.cells, d.cells1 _ (by omega)]
  have hf := hb.free
  obtain ⟨v', hv'⟩ := cell?_setCell_some (w := w) (p := ⟨b, 1 + i.toNat, none⟩) (x := .int .u8 k) (q := ⟨b, 1 + k.toNat, none⟩) (v := .int .u8 (d.m k.toNat)) hc2
  obtain ⟨v2, hv2⟩ := cell?_setCell_some (w := w) (p := ⟨b, 1 + k.toNat, none⟩) (x := .int .u8 i) (q := ⟨b, 1 + i.toNat, none⟩) (v := .int .u8 (d.m i.toNat)) hc1
  have Hb := Lib.hid hb
  have Hd := Lib.hid hd
  clear hb hd
  go_enter Try.func105, Try.ntmps105
  go_wp2
  go_region
  go_end0
  refine ⟨rfl, ?_, ((Only.setCell _ _ _ _).trans (Only.setCell _ _ _ _)).drew⟩
  have h1 := (Hb.out.set (1 + i.toNat) (.int .u8 k)).set (1 + k.toNat) (.int .u8 i)
  rw [d.cells_put _ _ Hd.out (by omega), Dg.cells_put _ _ _ (by rw [Dg.len_put, Hd.out]) (by omega)] at h1
  exact h1

theorem specOne_calls (n : Int) (w : World) (h1 : 1 ≤ n) (h8 : n ≤ 8) :
    Calls Try.prog 66 #[.int .i64 n] w fun e w' => e = .returned (.agg (Dg.one n).cells) ∧ Below w.heap.size w w' := by
  go_enter Try.func66, Try.ntmps66
  go_wp2_with (refine store_dg rfl _ _ rfl _ rfl (Dg.zero n) rfl _ 47 (Blk.newAt _ _ _ (by simp)) rfl ?_; intro w1 hb1 ho1)
  go_loopw [4] (fun i wr => ∃ j : Nat, j ≤ n.toNat ∧ i = .int .i64 j ∧ Blk wr (w.heap.size + 1) (Dg.oneTo n j).cells 47 ∧ Blk wr w.heap.size (Dg.zero 0).cells 47 ∧ Below w.heap.size w wr) (fun i _ => n.toNat - (intOf i).toNat)
  case atStart => exact ⟨0, by omega, rfl, hb1, ((Blk.new w _ _).alloc _).only ho1 (by omega), (((Below.refl _ w).alloc (Nat.le_refl _) _).alloc (by simp) _).trans (ho1.below (by simp))⟩
  case round =>
    obtain ⟨j, hj, rfl, hb, hr, hbel⟩ := hrel
    have hz := hb.lt
    by_cases hlt : (j : Int) < n
    · go_wp2_with (first | (refine load_dg rfl _ rfl _ rfl _ 47 hb ?_) | (go_at_call 85; refine (specJoin_calls _ _ _ _ (Dg.len_oneTo n j) (by omega) (by omega) (by omega) (by omega)).mono ?_; rintro e w2 ⟨rfl, hb2⟩) | (refine store_dg rfl _ _ rfl _ rfl _ rfl _ 47 (hb.below hb2 hb.lt) (Dg.size_cells _) ?_; intro w3 hb3 ho3))
      go_roundw
      case rel => exact ⟨j + 1, by omega, by go_num, by rw [Dg.oneTo_succ]; exact hb3, (hr.below hb2 hr.lt).only ho3 (by omega), (hbel.trans (hb2.mono (by omega))).trans (ho3.below (by omega))⟩
      case measure => simp [intOf]; omega
    · obtain rfl : (j : Int) = n := by omega
      go_wp2_with (first | (refine load_dg rfl _ rfl _ rfl _ 47 hb ?_) | (refine store_dg rfl _ _ rfl _ rfl _ rfl _ 47 hr (Dg.size_cells _) ?_; intro w3 hb3 ho3))
      refine ret_dg rfl _ rfl _ _ hb3 rfl ⟨?_, hbel.trans (ho3.below (by omega))⟩
      simp [Dg.one]

theorem implUnit_calls (n : Int) (w : World) (h1 : 1 ≤ n) (h8 : n ≤ 8) :
    Calls Try.prog 69 #[.int .i64 n] w fun e w' => e = .returned (.agg (Dg.one n).cells) ∧ Below w.heap.size w w' := by
  go_enter Try.func69, Try.ntmps69
  go_wp2_with (refine store_dg rfl _ _ rfl _ rfl (Dg.zero n) rfl _ 47 (Blk.newAt _ _ _ (by simp)) rfl ?_; intro w1 hb1 ho1)
  go_loopw [8] (fun i wr => ∃ j : Nat, j ≤ n.toNat ∧ i = .int .i64 j ∧ Blk wr (w.heap.size + 1) (Dg.oneTo n j).cells 47 ∧ Blk wr w.heap.size (Dg.zero 0).cells 47 ∧ Below w.heap.size w wr) (fun i _ => n.toNat - (intOf i).toNat)
  case atStart => exact ⟨0, by omega, rfl, hb1, ((Blk.new w _ _).alloc _).only ho1 (by omega), (((Below.refl _ w).alloc (Nat.le_refl _) _).alloc (by simp) _).trans (ho1.below (by simp))⟩
  case round =>
    obtain ⟨j, hj, rfl, hb, hr, hbel⟩ := hrel
    have hz := hb.lt
    by_cases hlt : (j : Int) < n
    · go_wp2_with (go_at_call 105; refine (implJoin_calls _ _ _ _ _ _ (Dg.len_oneTo n j) hb (by omega) (by omega) (by omega) (by omega)).mono ?_; rintro e w2 ⟨rfl, hb2, ho2⟩)
      go_roundw
      case rel => exact ⟨j + 1, by omega, by go_num, by rw [Dg.oneTo_succ]; exact hb2, hr.only ho2 (by omega), hbel.trans (ho2.below (by omega))⟩
      case measure => simp [intOf]; omega
    · obtain rfl : (j : Int) = n := by omega
      go_wp2_with (first | (refine load_dg rfl _ rfl _ rfl _ 47 hb ?_) | (refine store_dg rfl _ _ rfl _ rfl _ rfl _ 47 hr (Dg.size_cells _) ?_; intro w3 hb3 ho3))
      refine ret_dg rfl _ rfl _ _ hb3 rfl ⟨?_, hbel.trans (ho3.below (by omega))⟩
      simp [Dg.one]

theorem specCup_calls (n i : Int) (w : World) (h2 : 2 ≤ n) (h8 : n ≤ 8) (hi : 0 ≤ i) (hi' : i ≤ n - 2) :
    Calls Try.prog 39 #[.int .i64 n, .int .i64 i] w fun e w' => e = .returned (.agg (Dg.cup n i).cells) ∧ Below w.heap.size w w' := by
  have hl := Dg.len_one n
  have hl2 : (((Dg.one n).put i.toNat (i + 1)).put (i + 1).toNat i).mate.length = 16 := by rw [Dg.len_put, Dg.len_put, hl]
  have Hl := Lib.hid hl
  have Hl2 := Lib.hid hl2
  clear hl hl2
  go_enter Try.func39, Try.ntmps39
  go_wp2_with fail
  refine (specOne_calls _ _ (by omega) (by omega)).mono ?_
  rintro e w1 ⟨rfl, hb1⟩
  go_wp2_with fail
  refine (specJoin_calls _ _ _ _ Hl.out (by omega) (by omega) (by omega) (by omega)).mono ?_
  rintro e w2 ⟨rfl, hb2⟩
  go_wp2_with fail
  refine (specJoin_calls _ _ _ _ Hl2.out (by omega) (by omega) (by omega) (by omega)).mono ?_
  rintro e w3 ⟨rfl, hb3⟩
  have hbb := (hb1.mono (B' := w.heap.size + 1) (by simp)).trans ((hb2.mono (by have := hb1.size; simp at this; omega)).trans (hb3.mono (by have := hb1.size; have := hb2.size; simp at *; omega)))
  go_wp2_with (refine store_dg rfl _ _ rfl _ rfl _ rfl _ 47 ((Blk.new w _ _).below hbb (by omega)) rfl ?_; intro w4 hb4 ho4)
  refine ret_dg rfl _ rfl _ _ hb4 rfl ⟨rfl, ?_⟩
  exact (((Below.refl _ w).alloc (Nat.le_refl _) _).trans (hbb.mono (by omega))).trans (ho4.below (by omega))

theorem implGenerator_calls (n i : Int) (w : World) (h2 : 2 ≤ n) (h8 : n ≤ 8) (hi : 0 ≤ i) (hi' : i ≤ n - 2) :
    Calls Try.prog 91 #[.int .i64 n, .int .i64 i] w fun e w' => e = .returned (.agg (Dg.cup n i).cells) ∧ Below w.heap.size w w' := by
  have hl := Dg.len_one n
  have hl2 : (((Dg.one n).put i.toNat (i + 1)).put (i + 1).toNat i).mate.length = 16 := by rw [Dg.len_put, Dg.len_put, hl]
  have Hl := Lib.hid hl
  have Hl2 := Lib.hid hl2
  clear hl hl2
  go_enter Try.func91, Try.ntmps91
  go_wp2_with fail
  refine (implUnit_calls _ _ (by omega) (by omega)).mono ?_
  rintro e w1 ⟨rfl, hb1⟩
  have hz1 := hb1.size
  have hr1 := (Blk.new w (Dg.zero 0).cells 47).below hb1 (by simp)
  simp only [World.size_alloc] at hz1
  go_wp2_with (refine store_dg rfl _ _ rfl _ rfl _ rfl _ 47 (Blk.newAt _ _ _ rfl) rfl ?_; intro w2 hb2 ho2)
  have hr2 := (hr1.alloc (.cells (Dg.zero 0).cells 47)).only ho2 (by omega)
  refine (implJoin_calls _ _ _ _ _ _ Hl.out hb2 (by omega) (by omega) (by omega) (by omega)).mono ?_
  rintro e w3 ⟨rfl, hb3, ho3⟩
  go_wp2_with fail
  refine (implJoin_calls _ _ _ _ _ _ Hl2.out hb3 (by omega) (by omega) (by omega) (by omega)).mono ?_
  rintro e w4 ⟨rfl, hb4, ho4⟩
  have hr4 := (hr2.only ho3 (by omega)).only ho4 (by omega)
  go_wp2_with (first | (refine load_dg rfl _ rfl _ rfl _ 47 hb4 ?_) | (refine store_dg rfl _ _ rfl _ rfl _ rfl _ 47 hr4 (Dg.size_cells _) ?_; intro w5 hb5 ho5))
  refine ret_dg rfl _ rfl _ _ hb5 rfl ⟨rfl, ?_⟩
  exact ((((((Below.refl _ w).alloc (Nat.le_refl _) _).trans (hb1.mono (by simp))).alloc (by omega) _).trans (ho2.below (by omega))).trans ((ho3.below (by omega)).trans (ho4.below (by omega)))).trans (ho5.below (by omega))

end Go.Proofs.Yticmlgnolbccjaa

/- Going along the lines of two diagrams that stand one above the other: the path as a plain function. -/
set_option linter.unusedVariables false
set_option linter.unusedSimpArgs false
namespace Go.Proofs.Yticmlgnolbccjaa
open Go.RowKit

/-- The mate of a point of the upper or of the lower diagram. -/
def hop (d e : Dg) (l : Bool) (p : Nat) : Nat := ((if l then e else d).m p).toNat

/-- From a point of one of both: the point at the end, and the middle points that are met; -1 where the middle point u is met. -/
def fol (d e : Dg) (n : Nat) (u : Int) : Nat → Bool → Nat → Option (Int × List Nat)
  | 0, _, _ => none
  | k + 1, l, p =>
    let q := hop d e l p
    if l = decide (n ≤ q) then some (q, [])
    else if ((q % n : Nat) : Int) = u then some (-1, [q % n])
    else (fol d e n u k (!l) (if l then n + q % n else q % n)).map fun r => (r.1, q % n :: r.2)

theorem fol_end {d e : Dg} {n : Nat} {u : Int} {k : Nat} {l : Bool} {p : Nat} (h : l = decide (n ≤ hop d e l p)) : fol d e n u (k + 1) l p = some (((hop d e l p : Nat) : Int), []) := by
  show (if _ then _ else _) = _; exact if_pos h
theorem fol_until {d e : Dg} {n : Nat} {u : Int} {k : Nat} {l : Bool} {p : Nat} (h : ¬ l = decide (n ≤ hop d e l p)) (hu : ((hop d e l p % n : Nat) : Int) = u) : fol d e n u (k + 1) l p = some (-1, [hop d e l p % n]) := by
  show (if _ then _ else if _ then _ else _) = _; rw [if_neg h, if_pos hu]
theorem fol_step {d e : Dg} {n : Nat} {u : Int} {k : Nat} {l : Bool} {p : Nat} (h : ¬ l = decide (n ≤ hop d e l p)) (hu : ¬ ((hop d e l p % n : Nat) : Int) = u) :
    fol d e n u (k + 1) l p = (fol d e n u k (!l) (if l then n + hop d e l p % n else hop d e l p % n)).map fun r => (r.1, hop d e l p % n :: r.2) := by
  show (if _ then _ else if _ then _ else _) = _; rw [if_neg h, if_neg hu]

/-- Marks at places. -/
def marks (s : Nat → Bool) (ms : List Nat) : Nat → Bool := ms.foldl (fun s m j => if j = m then true else s j) s
theorem marks_nil (s : Nat → Bool) : marks s [] = s := rfl
theorem marks_cons (s : Nat → Bool) (m : Nat) (ms : List Nat) : marks s (m :: ms) = marks (fun j => if j = m then true else s j) ms := rfl
theorem marks_iff (ms : List Nat) : ∀ (s : Nat → Bool) (j : Nat), marks s ms j = (s j || decide (j ∈ ms)) := by
  induction ms with
  | nil => intro s j; simp [marks]
  | cons m ms ih =>
    intro s j
    rw [marks_cons, ih]
    by_cases h : j = m <;> simp [h]

/-- The cells of the stack of the program: both diagrams, the marks, and a function. -/
def stk (bd be : Nat) (s : Nat → Bool) (g : Value) : List Value :=
  [.pointer (some ⟨bd, 0, none⟩), .pointer (some ⟨be, 0, none⟩)] ++ ((List.range 8).map fun i => .bool (s i)) ++ [g]
def stkA (bd be : Nat) (s : Nat → Bool) (g : Value) : Array Value := (stk bd be s g).toArray
theorem stk0 (bd be : Nat) (s : Nat → Bool) (g : Value) : (stkA bd be s g)[0]? = some (.pointer (some ⟨bd, 0, none⟩)) := rfl
theorem stk1 (bd be : Nat) (s : Nat → Bool) (g : Value) : (stkA bd be s g)[1]? = some (.pointer (some ⟨be, 0, none⟩)) := rfl
theorem stk10 (bd be : Nat) (s : Nat → Bool) (g : Value) : (stkA bd be s g)[10]? = some g := rfl
theorem stkA_size (bd be : Nat) (s : Nat → Bool) (g : Value) : (stkA bd be s g).size = 11 := by simp [stkA, stk]
theorem stk_seen (bd be : Nat) (s : Nat → Bool) (g : Value) (i : Nat) (h : i < 8) : (stkA bd be s g)[2 + i]? = some (.bool (s i)) := by
  have : i = 0 ∨ i = 1 ∨ i = 2 ∨ i = 3 ∨ i = 4 ∨ i = 5 ∨ i = 6 ∨ i = 7 := by omega
  rcases this with rfl | rfl | rfl | rfl | rfl | rfl | rfl | rfl <;> rfl
theorem stk_set (bd be : Nat) (s : Nat → Bool) (g : Value) (i : Nat) (h : i < 8) : (stkA bd be s g).setIfInBounds (2 + i) (.bool true) = stkA bd be (fun j => if j = i then true else s j) g := by
  have : i = 0 ∨ i = 1 ∨ i = 2 ∨ i = 3 ∨ i = 4 ∨ i = 5 ∨ i = 6 ∨ i = 7 := by omega
  rcases this with rfl | rfl | rfl | rfl | rfl | rfl | rfl | rfl <;> rfl
attribute [go_sem] stk0 stk1 stk10

/-- How far a line can go. -/
def fuel : Nat := 40
/-- The other end of the line of an outer point, and the middle points on the way. -/
def res (d e : Dg) (n : Nat) (l : Bool) (p : Nat) : Int := ((fol d e n (-1) fuel l p).getD (0, [])).1
def vis (d e : Dg) (n : Nat) (l : Bool) (p : Nat) : List Nat := ((fol d e n (-1) fuel l p).getD (0, [])).2
/-- The middle points on the loop of a middle point. -/
def cyc (d e : Dg) (n : Nat) (m : Nat) : List Nat := ((fol d e n m fuel true m).getD (0, [])).2
/-- The product, with the lines of the first j points of both sides. -/
def outTo (d e : Dg) (n : Nat) (j : Nat) : Dg := (List.range j).foldl (fun o (i : Nat) => (o.put i (res d e n false i)).put (n + i) (res d e n true (n + i))) (Dg.zero n)
def seenTo (d e : Dg) (n : Nat) (j : Nat) : Nat → Bool := (List.range j).foldl (fun s (i : Nat) => marks (marks s (vis d e n false i)) (vis d e n true (n + i))) (fun _ => false)
/-- The marks and the number of loops, when the first j middle points are done. -/
def loopTo (d e : Dg) (n : Nat) (j : Nat) : (Nat → Bool) × Nat := (List.range j).foldl (fun x (m : Nat) => if x.1 m = true then x else (marks x.1 (cyc d e n m), x.2 + 1)) (seenTo d e n n, 0)
theorem outTo_succ (d e : Dg) (n j : Nat) : outTo d e n (j + 1) = ((outTo d e n j).put j (res d e n false j)).put (n + j) (res d e n true (n + j)) := by simp [outTo, List.range_succ]
theorem seenTo_succ (d e : Dg) (n j : Nat) : seenTo d e n (j + 1) = marks (marks (seenTo d e n j) (vis d e n false j)) (vis d e n true (n + j)) := by simp [seenTo, List.range_succ]
theorem loopTo_succ (d e : Dg) (n j : Nat) : loopTo d e n (j + 1) = if (loopTo d e n j).1 j = true then loopTo d e n j else (marks (loopTo d e n j).1 (cyc d e n j), (loopTo d e n j).2 + 1) := by
  unfold loopTo; rw [List.range_succ, List.foldl_append]; rfl
theorem len_outTo (d e : Dg) (n j : Nat) : (outTo d e n j).mate.length = 16 := by
  induction j with
  | zero => simp [outTo, Dg.len_zero]
  | succ j ih => rw [outTo_succ, Dg.len_put, Dg.len_put, ih]

/-- The product of two diagrams of the size n, and the number of loops. -/
def prodD (d e : Dg) (n : Nat) : Dg := outTo d e n n
def prodL (d e : Dg) (n : Nat) : Nat := (loopTo d e n n).2

/-- Each line ends, at a point of the right kind, and each loop comes back. -/
structure Runs (d e : Dg) (n : Nat) : Prop where
  up : ∀ i, i < n → ∃ r, fol d e n (-1) fuel false i = some r ∧ 0 ≤ r.1 ∧ r.1 < 2 * n
  down : ∀ i, i < n → ∃ r, fol d e n (-1) fuel true (n + i) = some r ∧ 0 ≤ r.1 ∧ r.1 < 2 * n
  loop : ∀ m, m < n → (loopTo d e n m).1 m = false → ∃ r, fol d e n m fuel true m = some r

theorem loopTo_le (d e : Dg) (n j : Nat) : (loopTo d e n j).2 ≤ j := by
  induction j with
  | zero => simp [loopTo]
  | succ j ih =>
    rw [loopTo_succ]
    split
    · omega
    · show (loopTo d e n j).2 + 1 ≤ j + 1; omega
end Go.Proofs.Yticmlgnolbccjaa

/- Appends to slices of a call's own, and what they leave alone. -/
set_option linter.unusedVariables false
set_option linter.unusedSimpArgs false
namespace Go.Proofs.Yticmlgnolbccjaa
open Go.RowKit

/-- What is owned is a slice. -/
theorem own_slice {w : World} {base size n : Nat} {E : TypeId} {v : Value} {xs : List Value} (h : w.ownsRow base E size v n xs) : ∃ ad cap, v = .slice ad n cap := by
  rcases h.2 with ⟨rfl, rfl⟩ | ⟨g, cap, cur, rfl, _⟩
  · exact ⟨_, _, rfl⟩
  · exact ⟨_, _, rfl⟩
theorem own_pos {w : World} {base size n : Nat} {E : TypeId} {v : Value} {xs : List Value} (h : w.ownsRow base E size v n xs) (hn : 0 < n) :
    ∃ g cap, v = .slice (some ⟨g, 0, none⟩) n cap ∧ base ≤ g ∧ g < w.heap.size ∧ n ≤ cap ∧ cap ≤ 9223372036854775807 := by
  rcases h.2 with ⟨_, h0⟩ | ⟨g, cap, cur, rfl, hb, hg, hc, hm, _⟩
  · omega
  · exact ⟨g, cap, rfl, hb, (Array.getElem?_eq_some_iff.1 hg).1, hc, by unfold maxLen at hm; omega⟩
theorem own_cell {w : World} {base n g cap : Nat} {E : TypeId} {size : Nat} {xs : List Value} (h : w.ownsRow base E size (.slice (some ⟨g, 0, none⟩) n cap) n xs) (j : Nat) (u : Value) (hu : xs[j]? = some u) : w.cell? ⟨g, j, none⟩ = some u := by
  have := h.cells (g := g) rfl j u hu
  rwa [Addr.add_mid, Nat.zero_add] at this
theorem own_ne {w : World} {base size n b : Nat} {E : TypeId} {v : Value} {xs : List Value} (h : w.ownsRow base E size v n xs) (hb : b < base) : some b ≠ v.ownBlock := fun e => by
  have := (h.lt b e.symm).1; omega
theorem Blk.grownOwn {w w' : World} {b : Nat} {cs : Array Value} {T : TypeId} {base size n : Nat} {E : TypeId} {v : Value} {xs : List Value} (h : Blk w b cs T) (hg : w.grownBy w' v.ownBlock) (ho : w.ownsRow base E size v n xs) (hb : b < base) : Blk w' b cs T :=
  h.grown hg (own_ne ho hb)
theorem bel_grown {B : Nat} {w0 w w' : World} {base size n : Nat} {E : TypeId} {v : Value} {xs : List Value} (h : Below B w0 w) (hg : w.grownBy w' v.ownBlock) (ho : w.ownsRow base E size v n xs) (hB : B ≤ base) (hs : B ≤ w.heap.size) : Below B w0 w' :=
  h.grown hg hs fun k hk => by have := (ho.lt k hk).1; omega
theorem own_drewN {w : World} {base size n : Nat} {E : TypeId} {v : Value} {xs : List Value} (h : w.ownsRow base E size v n xs) (j : Nat) : (w.drewN j).ownsRow base E size v n xs := h
theorem own_only {w w' : World} {b base size n : Nat} {E : TypeId} {v : Value} {xs : List Value} (h : w.ownsRow base E size v n xs) (ho : Only w w' b) (hne : some b ≠ v.ownBlock) : w'.ownsRow base E size v n xs :=
  h.kept (w' := w') (row := some b) ⟨ho.os, ho.tape, ho.output, by rw [ho.size]; exact Nat.le_refl _, fun k _ hk => ho.block k (fun e => hk (by rw [e]))⟩ (.inr (fun e => hne e.symm))
theorem own_below {w w' : World} {B base size n : Nat} {E : TypeId} {v : Value} {xs : List Value} (h : w.ownsRow base E size v n xs) (hb : Below B w w') (hB : w.heap.size ≤ B) : w'.ownsRow base E size v n xs :=
  h.kept (w' := w') (row := none) ⟨hb.os, hb.tape, hb.output, hb.size, fun k hk _ => hb.block k (by omega)⟩ (by cases hv : v.ownBlock <;> simp)

section
variable {ops : Array Oper} {rest : List Oper} {o : Oper} {a : Act} {w : World} {Q : Exit → Act → World → Prop}

theorem info_u8 : (Try.prog.info? 5).map (fun i => (i.zero, i.size, i.bytes)) = some (some (.int .u8 0), 1, 1) := by kernel_rfl

/-- One byte more. -/
theorem append_u8 (hgd : o.guard = none) (s x : Operand) (ho : o.op = .call { callee := .builtin .append, args := #[s, x], argTypes := #[131, 131] })
    (base : Nat) (v : Value) (n : Nat) (xs : List Int) (hs : a.eval s = v) (hown : w.ownsRow base 5 1 v n (xs.map (Value.int .u8)))
    (g : Nat) (c : Int) (hx : a.eval x = .slice (some ⟨g, 0, none⟩) 1 1) (T : TypeId) (hc : Blk w g #[.int .u8 c] T) (hn : n ≤ 1000000) (hbase : base ≤ w.heap.size)
    (h : ∀ v' w', w'.ownsRow base 5 1 v' (n + 1) ((xs ++ [c]).map (Value.int .u8)) → w.grownBy w' v.ownBlock → wpList Try.prog ops Q rest (a.put o.dst v') w') : wpList Try.prog ops Q (o :: rest) a w := by
  obtain ⟨i0, hi, hz0, hz1, hz2⟩ := info_parts info_u8
  refine wpList_append_own w hgd s x 131 ho base 5 i0 (.int .u8 0) 1 1 Try.underlying131 hi hz0 hz1 hz2 rfl (by decide) v n _ hs hown ⟨g, 0, none⟩ 1 1 [.int .u8 c] hx rfl ?_ ?_ (by unfold maxLen; omega) (by omega) hbase ?_
  · intro j u hu
    cases j with
    | zero => simp at hu; subst hu; exact hc.cells 0
    | succ j => simp at hu
  · intro u hu; simp at hu; subst hu; rfl
  · intro v' w' h1 h2 _
    exact h v' w' (by simpa using h1) h2

/-- A slice of bytes of the call's own as a string. -/
theorem convert_own (hgd : o.guard = none) (x : Operand) (ho : o.op = .convert 131 9 x) (base : Nat) (v : Value) (n : Nat) (xs : List Int) (hs : a.eval x = v)
    (hown : w.ownsRow base 5 1 v n (xs.map (Value.int .u8))) (h : wpList Try.prog ops Q rest (a.put o.dst (.string (strOfNums xs))) w) : wpList Try.prog ops Q (o :: rest) a w := by
  have hl : xs.length = n := by have := hown.1; simpa using this
  have hrun : (convert 131 9 v).run Try.prog w = .ok (.string (strOfNums xs)) w := by
    rcases hown.2 with ⟨rfl, rfl⟩ | ⟨g, cap, cur, rfl, _, hg, _, _, _, ht⟩
    · obtain rfl : xs = [] := List.eq_nil_of_length_eq_zero hl
      exact run_convert_bytes_nil w _ _ Try.underlying131 Try.underlying5 0 0 _ Try.underlying9
    · refine run_convert_bytes_arg w _ _ Try.underlying131 Try.underlying5 g 0 n cap xs hl (fun i hi => ?_) _ Try.underlying9
      have := hown.cells (g := g) rfl i (.int .u8 (xs.getD i 0)) (by simp [List.getD_eq_getElem?_getD, List.getElem?_eq_getElem (show i < xs.length by omega)])
      rw [Addr.add_mid] at this
      exact this
  refine wpList_plain hgd fun K hK => ?_
  unfold Oper.wp execOp
  simp only [ho, hs, hrun, Sem.run_bind, Sem.run_pure, Result.andThen_ok]
  exact hK _ _ h
end
end Go.Proofs.Yticmlgnolbccjaa

/- The walks of the functions that read a diagram: its size, its text, the ends of lines. -/
set_option linter.unusedVariables false
set_option linter.unusedSimpArgs false
namespace Go.Proofs.Yticmlgnolbccjaa
open Go.RowKit

theorem implN_at (n : Int) (b off : Nat) (w : World) (h1 : w.cell? ⟨b, off, none⟩ = some (.int .i64 n)) :
    Calls Try.prog 124 #[.pointer (some ⟨b, off, none⟩)] w fun e w' => e = .returned (.int .i64 n) ∧ w = w' := by
  go_enter Try.func124, Try.ntmps124
  go_wp2
  go_ret
  exact ⟨rfl, rfl⟩

theorem implN_calls (d : Dg) (b off : Nat) (w : World) (h : DgAt w b off d) :
    Calls Try.prog 124 #[.pointer (some ⟨b, off, none⟩)] w fun e w' => e = .returned (.int .i64 d.size) ∧ w = w' := by
  have h1 := h.size
  clear h
  go_enter Try.func124, Try.ntmps124
  go_wp2
  go_ret
  exact ⟨rfl, rfl⟩

set_option maxRecDepth 100000 in
theorem specText_calls (d : Dg) (w : World) (hp : d.Pts) :
    Calls Try.prog 113 #[.agg d.cells] w fun e w' => e = .returned (.string (strOfNums d.txt)) ∧ Below w.heap.size w w' := by
  have hlo := hp.lo
  have hhi := hp.hi
  have Hp := Lib.hid hp
  clear hp
  go_enter Try.func113, Try.ntmps113
  go_wp2
  go_loopw [3, 4, 5] (fun v i x wr => ∃ k : Nat, k ≤ 2 * d.size.toNat ∧ i = .int .i64 k ∧ Blk wr w.heap.size d.cells 47 ∧ wr.ownsRow (w.heap.size + 1) 5 1 v k ((d.txtTo k).map (Value.int .u8)) ∧ Below w.heap.size w wr) (fun _ i _ _ => 2 * d.size.toNat - (intOf i).toNat)
  case atStart =>
    refine ⟨0, by omega, rfl, (Blk.new w _ _).alloc _, ?_, ((Below.refl _ w).alloc (Nat.le_refl _) _).alloc (by simp) _⟩
    have := World.ownsRow_made (w := w.alloc (.cells d.cells 47)) (base := w.heap.size + 1) (e := 5) (size := 1) #[] 0 (by simp) (by simp [maxLen]) rfl
    simpa [Dg.txtTo] using this
  case round =>
    obtain ⟨k, hk, rfl, hb, hown, hbel⟩ := hrel
    have hc := hb.cells
    have hz := hb.lt
    by_cases hlt : k < 2 * d.size.toNat
    · have hpl := place_range (n := d.size) (i := k) (by omega) (by omega)
      have hm := Hp.out.mate (place d.size k).toNat (by omega)
      have hpn : (place d.size k).toNat < 16 := by omega
      have hs : d.sign k = if (k : Int) < place d.size (d.m (place d.size k).toNat) then 40 else 41 := rfl
      have Hs := Lib.hid hs
      clear hs
      have HB := Lib.hid hb
      clear hb
      go_wp2_with (go_at_call 131; refine (specPlace_calls _ _ _ (by omega) (by omega) (by omega) (by omega)).mono ?_; rintro e w' ⟨rfl, rfl⟩)
      go_quiet ((go_at_call 131; exact Calls.quiet_of_same ((specPlace_calls _ _ _ (by omega) (by omega) (by omega) (by omega)).mono fun e w' ⟨h, h'⟩ => ⟨h, h'.symm⟩)))
      go_wp2_with (at_builtin; refine append_u8 rfl _ _ rfl (w.heap.size + 1) _ k (d.txtTo k) rfl ((own_drewN hown _).alloc _) wr.heap.size _ rfl _ (Blk.newAt _ _ _ rfl) (by omega) (by simp; omega) ?_; intro v1 w1 ho1 hg1)
      all_goals
        go_roundw
        case rel => exact ⟨k + 1, by omega, by go_num, ((HB.out.drewN _).alloc _).grownOwn hg1 ((own_drewN hown _).alloc _) (by omega), by rw [Dg.txtTo_succ, Hs.out]; first | (rw [if_pos (by assumption)]; exact ho1) | (rw [if_neg (by omega)]; exact ho1), bel_grown ((bel_drewN hbel _).alloc (by simp; omega) _) hg1 ((own_drewN hown _).alloc _) (by omega) (by simp; omega)⟩
        case measure => simp [intOf]; omega
    · obtain rfl : k = (2 * d.size).toNat := by omega
      go_wp2_with (refine convert_own rfl _ rfl (w.heap.size + 1) _ _ (d.txtTo (2 * d.size).toNat) rfl hown ?_)
      go_ret
      exact ⟨rfl, hbel⟩

set_option maxRecDepth 100000 in
theorem implText_calls (d : Dg) (b off : Nat) (w : World) (hat : DgAt w b off d) (hp : d.Pts) :
    Calls Try.prog 90 #[.pointer (some ⟨b, off, none⟩)] w fun e w' => e = .returned (.string (strOfNums d.txt)) ∧ Below w.heap.size w w' := by
  have hlo := hp.lo
  have hhi := hp.hi
  have hlt0 := hat.lt
  have Hp := Lib.hid hp
  clear hp
  go_enter Try.func90, Try.ntmps90
  go_wp2_with (go_at_call 124; refine (implN_calls d _ _ _ hat).mono ?_; rintro e w' ⟨rfl, rfl⟩)
  go_loopw [4, 5, 11] (fun v x i wr => ∃ k : Nat, k ≤ 2 * d.size.toNat ∧ i = .int .i64 k ∧ wr.ownsRow w.heap.size 5 1 v k ((d.txtTo k).map (Value.int .u8)) ∧ Below w.heap.size w wr) (fun _ _ i _ => 2 * d.size.toNat - (intOf i).toNat)
  case atStart =>
    refine ⟨0, by omega, rfl, ?_, (Below.refl _ w).alloc (Nat.le_refl _) _⟩
    have := World.ownsRow_made (w := w) (base := w.heap.size) (e := 5) (size := 1) #[] 0 (by simp) (by simp [maxLen]) rfl
    simpa [Dg.txtTo] using this
  case round =>
    obtain ⟨k, hk, rfl, hown, hbel⟩ := hrel
    have hz := hbel.size
    by_cases hlt : k < 2 * d.size.toNat
    · have hpl := place_range (n := d.size) (i := k) (by omega) (by omega)
      have hm := Hp.out.mate (place d.size k).toNat (by omega)
      have hc := (hat.below hbel hlt0).mate (place d.size k).toNat (by omega)
      have hs : d.sign k = if (k : Int) < place d.size (d.m (place d.size k).toNat) then 40 else 41 := rfl
      have Hs := Lib.hid hs
      clear hs
      go_wp2
      go_quiet ((go_at_call 125; exact Calls.quiet_of_same ((implPlace_calls _ _ _ (by omega) (by omega) (by omega) (by omega)).mono fun e w' ⟨h, h'⟩ => ⟨h, h'.symm⟩)))
      go_wp2_with (at_builtin; refine append_u8 rfl _ _ rfl w.heap.size _ k (d.txtTo k) rfl ((own_drewN hown _).alloc _) wr.heap.size _ rfl _ (Blk.newAt _ _ _ rfl) (by omega) (by simp; omega) ?_; intro v1 w1 ho1 hg1)
      all_goals
        go_roundw
        case rel => exact ⟨k + 1, by omega, by go_num, by rw [Dg.txtTo_succ, Hs.out]; first | (rw [if_pos (by assumption)]; exact ho1) | (rw [if_neg (by omega)]; exact ho1), bel_grown ((bel_drewN hbel _).alloc (by simp; omega) _) hg1 ((own_drewN hown _).alloc _) (by omega) (by simp; omega)⟩
        case measure => simp [intOf]; omega
    · obtain rfl : k = (2 * d.size).toNat := by omega
      go_wp2_with (refine convert_own rfl _ rfl w.heap.size _ _ (d.txtTo (2 * d.size).toNat) rfl hown ?_)
      go_ret
      exact ⟨rfl, hbel⟩

/-- The ends of the line of a point, by their places, the lesser one first. -/
def Dg.low (d : Dg) (i : Int) : Int := min (place d.size i) (place d.size (d.m i.toNat))
def Dg.high (d : Dg) (i : Int) : Int := max (place d.size i) (place d.size (d.m i.toNat))

set_option maxRecDepth 100000 in
theorem specEnds_calls (d : Dg) (i : Int) (w : World) (hp : d.Pts) (h0 : 0 ≤ i) (h1 : i < 2 * d.size) :
    Calls Try.prog 106 #[.agg d.cells, .int .i64 i] w fun e w' => e = .returned (.tuple #[.int .i64 (d.low i), .int .i64 (d.high i)]) ∧ Below w.heap.size w w' := by
  have hlo := hp.lo
  have hhi := hp.hi
  have hm := hp.mate i.toNat (by omega)
  have hin : i.toNat < 16 := by omega
  clear hp
  go_enter Try.func106, Try.ntmps106
  go_wp2
  go_quiet ((go_at_call 131; exact Calls.quiet_of_same ((specPlace_calls _ _ _ (by omega) (by omega) (by omega) (by omega)).mono fun e w' ⟨h, h'⟩ => ⟨h, h'.symm⟩)))
  go_wp2
  all_goals go_ret2
  all_goals exact ⟨ret_pair (by unfold Dg.low; omega) (by unfold Dg.high; omega), bel_drewN ((Below.refl _ w).alloc (Nat.le_refl _) _) _⟩
end Go.Proofs.Yticmlgnolbccjaa

/- Slices of any element type: appends and makes. -/
set_option linter.unusedVariables false
set_option linter.unusedSimpArgs false
namespace Go.Proofs.Yticmlgnolbccjaa
open Go.RowKit

/-- A slice type, its element type with the zero value, how many cells an element has, and how many bytes. -/
structure Row (St E : TypeId) (z : Value) (size bytes : Nat) : Prop where
  und : Try.prog.underlying St = some (.slice E)
  info : (Try.prog.info? E).map (fun i => (i.zero, i.size, i.bytes)) = some (some z, size, bytes)
  zs : z.cells.size = size
  pos : 0 < size

section
variable {St E : TypeId} {z : Value} {size bytes : Nat}
variable {ops : Array Oper} {rest : List Oper} {o : Oper} {a : Act} {w : World} {Q : Exit → Act → World → Prop}

/-- m elements more, out of a new block. -/
theorem append_row (R : Row St E z size bytes) (hgd : o.guard = none) (s x : Operand) (ho : o.op = .call { callee := .builtin .append, args := #[s, x], argTypes := #[St, St] })
    (base : Nat) (v : Value) (n : Nat) (xs : List Value) (hs : a.eval s = v) (hown : w.ownsRow base E size v n xs)
    (g m c : Nat) (news : List Value) (hx : a.eval x = .slice (some ⟨g, 0, none⟩) m c) (T : TypeId) (hc : Blk w g news.toArray T) (hl : news.length = m * size) (h1 : ∀ u ∈ news, u.oneCell' = true)
    (hn : (n + m) * bytes ≤ 140737488355328) (hn' : n + m ≤ 140737488355328) (hbase : base ≤ w.heap.size)
    (h : ∀ v' w', w'.ownsRow base E size v' (n + m) (xs ++ news) → w.grownBy w' v.ownBlock → wpList Try.prog ops Q rest (a.put o.dst v') w') : wpList Try.prog ops Q (o :: rest) a w := by
  obtain ⟨i0, hi, hz0, hz1, hz2⟩ := info_parts R.info
  refine wpList_append_own w hgd s x St ho base E i0 z size bytes R.und hi hz0 hz1 hz2 R.zs R.pos v n _ hs hown ⟨g, 0, none⟩ m c news hx hl ?_ h1 (by unfold maxLen; omega) hn hbase ?_
  · intro j u hu
    rw [Addr.add_mid, Nat.zero_add, hc.cells]
    simpa using hu
  · intro v' w' h1 h2 _
    exact h v' w' h1 h2

/-- A new slice of n zero elements. -/
theorem make_row (R : Row St E z size bytes) (hgd : o.guard = none) (l c : Operand) (ho : o.op = .makeSlice St l c) (kl kc : IntKind) (n : Nat) (L C : Int) (hl : a.eval l = .int kl L) (hc : a.eval c = .int kc C) (hL : L = n) (hC : C = n)
    (hn : bytes * n ≤ 281474976710656) (hn' : n ≤ 140737488355328)
    (h : ∀ w', Blk w' w.heap.size (madeCells z.cells (n * size)) E → w.grownBy w' none → wpList Try.prog ops Q rest (a.put o.dst (.slice (some ⟨w.heap.size, 0, none⟩) n n)) w') : wpList Try.prog ops Q (o :: rest) a w := by
  obtain ⟨i0, hi, hz0, hz1, hz2⟩ := info_parts R.info
  refine wpList_make_full w hgd l c St ho w.heap.size E i0 z size R.und hi hz0 hz1 kl kc L C n hl hc hL hC (by rw [hz2]; exact hn) (by unfold maxLen; omega) (Nat.le_refl _) ?_
  intro w' hown hg
  refine h w' ?_ hg
  rcases hown.2 with ⟨h0, _⟩ | ⟨g, cap, cur, hv, _, hh, _, _, hsz, ht⟩
  · cases h0
  · cases hv
    have h0 : (madeCells z.cells (n * size)).toList.length = n * size := by simpa using hown.1
    rw [List.take_of_length_le (by rw [Array.length_toList]; omega)] at ht
    have : cur = madeCells z.cells (n * size) := Array.toList_inj.1 ht
    rw [this] at hh
    exact hh
end

theorem rowInt : Row 143 3 (.int .i64 0) 1 8 := ⟨Try.underlying143, by kernel_rfl, rfl, by decide⟩

/-- Whole numbers as the cells of a slice. -/
def nums (l : List Nat) : List Value := l.map fun (x : Nat) => Value.int .i64 (x : Int)
theorem nums_length (l : List Nat) : (nums l).length = l.length := by simp [nums]
theorem nums_get (l : List Nat) (i : Nat) (h : i < l.length) : (nums l).toArray[i]? = some (.int .i64 (l.getD i 0 : Nat)) := by
  simp [nums, List.getElem?_eq_getElem h, List.getD_eq_getElem?_getD]
theorem nums_set (l : List Nat) (i x : Nat) : (nums l).toArray.setIfInBounds i (.int .i64 (x : Int)) = (nums (l.set i x)).toArray := by
  simp [nums, List.map_set]
theorem nums_snoc (l : List Nat) (x : Nat) : nums (l ++ [x]) = nums l ++ [.int .i64 (x : Int)] := by simp [nums]
theorem nums_oneCell (l : List Nat) : ∀ v ∈ nums l, v.oneCell' = true := by
  intro v hv
  simp only [nums, List.mem_map] at hv
  obtain ⟨x, _, rfl⟩ := hv
  rfl
theorem made_one (z : Value) (h : z.cells = #[z]) (n : Nat) : madeCells z.cells (n * 1) = (List.replicate n z).toArray := by
  rw [Nat.mul_one, h]
  apply Array.ext_getElem?
  intro i
  by_cases hi : i < n
  · simp [madeCells, hi, Nat.mod_one]
  · simp [madeCells, hi]
theorem made_ints (n : Nat) : madeCells (Value.int .i64 0).cells (n * 1) = (nums (List.replicate n 0)).toArray := by
  rw [made_one _ rfl]; simp [nums]
end Go.Proofs.Yticmlgnolbccjaa

/- Brackets: with which places those of a text of brackets are joined. -/
set_option linter.unusedVariables false
set_option linter.unusedSimpArgs false
namespace Go.Proofs.Yticmlgnolbccjaa

/-- The codes of the bytes of a text. -/
def codes (s : ByteArray) : List Nat := s.data.toList.map (·.toNat)
theorem codes_length (s : ByteArray) : (codes s).length = s.size := by unfold codes; rw [List.length_map, Array.length_toList]; rfl
theorem codes_drop (s : ByteArray) (k : Nat) (h : k < s.size) : (codes s).drop k = s[k].toNat :: (codes s).drop (k + 1) := by
  rw [List.drop_eq_getElem_cons (by rw [codes_length]; exact h)]
  congr 1
  simp [codes]; rfl

/-- From the place k on: out are the places joined so far, st the open places, the last one first. -/
def pgo : List Nat → Nat → List Nat → List Nat → Option (List Nat)
  | [], _, out, st => if st = [] then some out else none
  | c :: cs, k, out, st =>
    if c = 40 then pgo cs (k + 1) out (k :: st)
    else if c = 41 then
      match st with
      | [] => none
      | i :: st' => pgo cs (k + 1) ((out.set i k).set k i) st'
    else none

theorem pgo_open {c : Nat} (h : c = 40) (cs : List Nat) (k : Nat) (out st : List Nat) : pgo (c :: cs) k out st = pgo cs (k + 1) out (k :: st) := by
  rw [pgo.eq_def]; exact if_pos h
theorem pgo_close {c : Nat} (h : c = 41) (cs : List Nat) (k i : Nat) (out st : List Nat) : pgo (c :: cs) k out (i :: st) = pgo cs (k + 1) ((out.set i k).set k i) st := by
  subst h; rfl
theorem pgo_none {c : Nat} (h : c = 41) (cs : List Nat) (k : Nat) (out : List Nat) : pgo (c :: cs) k out [] = none := by
  subst h; rfl
theorem pgo_bad {c : Nat} (h : ¬ c = 40) (h' : ¬ c = 41) (cs : List Nat) (k : Nat) (out st : List Nat) : pgo (c :: cs) k out st = none := by
  rw [pgo.eq_def]; simp only; rw [if_neg h, if_neg h']
theorem pgo_end (k : Nat) (out : List Nat) : pgo [] k out [] = some out := rfl
theorem pgo_left (k i : Nat) (out st : List Nat) : pgo [] k out (i :: st) = none := rfl

/-- The partners of the places of a text of brackets. -/
def parts (cs : List Nat) : Option (List Nat) := pgo cs 0 (List.replicate cs.length 0) []

namespace Dg
/-- The diagram of size n whose places are joined with the first k of some partners. -/
def joinTo (n : Int) (l : List Nat) (k : Nat) : Dg := (List.range k).foldl (fun d (j : Nat) => d.put (place n j).toNat (place n (l.getD j 0 : Nat))) (zero n)
theorem joinTo_succ (n : Int) (l : List Nat) (k : Nat) : joinTo n l (k + 1) = (joinTo n l k).put (place n k).toNat (place n (l.getD k 0 : Nat)) := by simp [joinTo, List.range_succ]
theorem len_joinTo (n : Int) (l : List Nat) (k : Nat) : (joinTo n l k).mate.length = 16 := by
  induction k with
  | zero => simp [joinTo, len_zero]
  | succ k ih => rw [joinTo_succ, len_put, ih]
end Dg

/-- The diagram with a text. -/
def readD (cs : List Nat) : Option Dg :=
  if cs.length % 2 = 0 ∧ 2 ≤ cs.length ∧ cs.length ≤ 16 then (parts cs).map fun l => Dg.joinTo (cs.length / 2 : Nat) l cs.length else none

theorem pgo_bound : ∀ (cs : List Nat) (k : Nat) (out st l : List Nat), pgo cs k out st = some l → (∀ x ∈ out, x < k + cs.length) → (∀ x ∈ st, x < k) → l.length = out.length ∧ ∀ x ∈ l, x < k + cs.length
  | [], k, out, [], l, h, ho, _ => by cases h; exact ⟨rfl, ho⟩
  | [], k, out, i :: st, l, h, _, _ => by cases h
  | c :: cs, k, out, st, l, h, ho, hs => by
    simp only [List.length_cons] at ho ⊢
    by_cases h40 : c = 40
    · rw [pgo_open h40] at h
      have := pgo_bound cs (k + 1) out (k :: st) l h (fun x hx => by have := ho x hx; omega) (fun x hx => by
        rcases List.mem_cons.1 hx with rfl | hx
        · omega
        · have := hs x hx; omega)
      exact ⟨this.1, fun x hx => by have := this.2 x hx; omega⟩
    · by_cases h41 : c = 41
      · cases st with
        | nil => rw [pgo_none h41] at h; cases h
        | cons i st =>
          rw [pgo_close h41] at h
          have hi := hs i (by simp)
          have := pgo_bound cs (k + 1) ((out.set i k).set k i) st l h (fun x hx => by
            rcases List.mem_or_eq_of_mem_set hx with hx | rfl
            · rcases List.mem_or_eq_of_mem_set hx with hx | rfl
              · have := ho x hx; omega
              · omega
            · omega) (fun x hx => by have := hs x (by simp [hx]); omega)
          exact ⟨by simpa using this.1, fun x hx => by have := this.2 x hx; omega⟩
      · rw [pgo_bad h40 h41] at h; cases h

theorem parts_bound {cs l : List Nat} (h : parts cs = some l) : l.length = cs.length ∧ ∀ x ∈ l, x < cs.length := by
  by_cases h0 : cs = []
  · subst h0; cases h; simp
  · have hpos : 0 < cs.length := List.length_pos_iff.2 h0
    have := pgo_bound cs 0 _ [] l h (fun x hx => by rw [List.eq_of_mem_replicate hx]; omega) (by simp)
    simpa using this

theorem joinTo_wf (n : Int) (l : List Nat) (h1 : 1 ≤ n) (h8 : n ≤ 8) (hl : (l.length : Int) = 2 * n) (hx : ∀ x ∈ l, x < l.length) : ∀ k, k ≤ l.length → (Dg.joinTo n l k).Wf
  | 0, _ => Dg.zero_wf n (by omega) (by omega)
  | k + 1, hk => by
    rw [Dg.joinTo_succ]
    have hxk : l.getD k 0 < l.length := hx _ (by rw [List.getD_eq_getElem?_getD, List.getElem?_eq_getElem (by omega)]; exact List.getElem_mem (by omega))
    have hp1 := place_range (n := n) (i := k) (by omega) (by omega)
    have hp2 := place_range (n := n) (i := (l.getD k 0 : Nat)) (by omega) (by omega)
    exact (joinTo_wf n l h1 h8 hl hx k (by omega)).put _ _ (by omega) (by omega) (by omega)

theorem size_joinTo (n : Int) (l : List Nat) (k : Nat) : (Dg.joinTo n l k).size = n := by
  induction k with
  | zero => rfl
  | succ k ih => rw [Dg.joinTo_succ]; exact ih

theorem readD_some {cs : List Nat} {e : Dg} (h : readD cs = some e) : e.Wf ∧ e.size = (cs.length / 2 : Nat) ∧ 1 ≤ e.size ∧ e.size ≤ 8 := by
  unfold readD at h
  split at h
  · rename_i hc
    obtain ⟨l, hl, rfl⟩ := Option.map_eq_some_iff.1 h
    have hb := parts_bound hl
    rw [← hb.1]
    have h1 : (1 : Int) ≤ (l.length / 2 : Nat) := by omega
    have h8 : ((l.length / 2 : Nat) : Int) ≤ 8 := by omega
    refine ⟨joinTo_wf _ l h1 h8 (by omega) (by rw [hb.1]; exact hb.2) _ (Nat.le_refl _), ?_, ?_, ?_⟩ <;> rw [size_joinTo] <;> first | rfl | exact h1 | exact h8
  · cases h
end Go.Proofs.Yticmlgnolbccjaa

/- Regions that draw their order, whose operations read, and whose calls leave old memory as it was. -/
set_option linter.unusedVariables false
set_option linter.unusedSimpArgs false
namespace Go.Proofs.Yticmlgnolbccjaa
open Go.RowKit

/-- The worlds in which all that lay in w lies unturned. -/
def Ext (w W : World) : Prop := Below w.heap.size w W
theorem Ext.drew (w : World) : Ext w w.drew := (Below.refl _ w).drew
theorem Ext.refl (w : World) : Ext w w := Below.refl _ w
structure ExtOf (w : World) where
  W : World
  h : Ext w W

instance (w : World) : Nonempty (ExtOf w) := ⟨⟨w, Ext.refl w⟩⟩

theorem wp_region_ext {P : Program} {id : Nat} {Q : Exit → Act → World → Prop} {a : Act} {w : World} {l : List Oper} (hm : P.follows .mixedOrders = true) (hB : Region.lexB .any l.toArray = true)
    (h : wpQuiet P l.toArray (fun w' => ∃ p : ExtOf w, w' = p.W) (fun a' => ∀ w', (∃ p : ExtOf w, w' = p.W) → Q .normal a' w') l a) : (Code.region id l.toArray true).wp P Q a w :=
  wp_region_quiet (C := fun w' => ∃ p : ExtOf w, w' = p.W) hm hB ⟨⟨w.drew, Ext.drew w⟩, rfl⟩ (by simpa using h)

theorem ext_call {P : Program} {f : FuncId} {args : Array Value} {w : World} {v : Value} (p : ExtOf w) (h : Calls P f args p.W fun e W' => e = .returned v ∧ Below p.W.heap.size p.W W') :
    Calls P f args p.W fun e W' => e = .returned v ∧ ∃ q : ExtOf w, W' = q.W :=
  h.mono fun e W' ⟨he, hb⟩ => ⟨he, ⟨W', Below.trans p.h (hb.mono p.h.size)⟩, rfl⟩
theorem ext_same {P : Program} {f : FuncId} {args : Array Value} {w : World} {v : Value} (p : ExtOf w) (h : Calls P f args p.W fun e W' => e = .returned v ∧ p.W = W') :
    Calls P f args p.W fun e W' => e = .returned v ∧ ∃ q : ExtOf w, W' = q.W :=
  h.mono fun e W' ⟨he, hb⟩ => ⟨he, p, hb.symm⟩

section
variable {P : Program} {ops : Array Oper} {a : Act} {o : Oper} {K : Act → Prop} {w : World}

theorem ExtOf.blk (p : ExtOf w) {b : Nat} {cs : Array Value} {T : TypeId} (h : Blk w b cs T) : Blk p.W b cs T := h.below p.h h.lt
theorem ext_cells {b : Nat} {cs : Array Value} {T : TypeId} (h : Blk w b cs T) : ∀ (p : ExtOf w) (o : Nat), p.W.cell? ⟨b, o, none⟩ = cs[o]? := fun p => (p.blk h).cells
/-- The load of a diagram at such a world. -/
theorem quiet_load_dg (x : Operand) (ho : o.op = .load 47 x) (b : Nat) (hx : a.eval x = .pointer (some ⟨b, 0, none⟩)) (d : Dg) (T : TypeId) (h : Blk w b d.cells T)
    (hK : K (a.put o.dst (.agg d.cells))) : o.quiet Try.prog a (fun w' => ∃ p : ExtOf w, w' = p.W) K := by
  refine ⟨.agg d.cells, fun W hW => ?_, hK⟩
  obtain ⟨p, rfl⟩ := hW
  unfold Oper.quietAt execOp
  simp only [ho, hx, Instr.loadAt, Instr.sureAddr, Sem.run_bind, Sem.run_pure, Result.andThen_ok, run_loadVar_row p.W b T 47 d.cells (0, 0) _ (p.blk h) Try.underlying47 rfl (by rw [info_dg, d.size_cells])]
  exact ⟨rfl, rfl⟩
/-- The load of a diagram in the head of a region that ends in a store. -/
theorem still_load_dg (x : Operand) (ho : o.op = .load 47 x) (b : Nat) (hx : a.eval x = .pointer (some ⟨b, 0, none⟩)) (d : Dg) (T : TypeId) (h : Blk w b d.cells T) (hw : Region.wanted o (yielded ops a.tmps) = true)
    {Q : Act → Prop} {rest : List Oper} (hK : wpStill Try.prog ops w Q rest (a.put o.dst (.agg d.cells))) : wpStill Try.prog ops w Q (o :: rest) a := by
  refine wpStill_step fun K hk => ?_
  rw [if_pos hw]
  unfold Oper.still execOp
  simp only [ho, hx, Instr.loadAt, Instr.sureAddr, Sem.run_bind, Sem.run_pure, Result.andThen_ok, run_loadVar_row w b T 47 d.cells (0, 0) _ h Try.underlying47 rfl (by rw [info_dg, d.size_cells])]
  exact ⟨rfl, hk _ hK⟩
end
end Go.Proofs.Yticmlgnolbccjaa
