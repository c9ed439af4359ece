/- Diagrams at some address of memory, their partners by places, and their texts. -/
import Derived.Test.YticmlgnolbccjaaD1
set_option linter.unusedVariables false
set_option linter.unusedSimpArgs false
namespace Go.Proofs.Yticmlgnolbccjaa
open Go.RowKit

/-- The place of a point, and the point of a place. -/
def place (n i : Int) : Int := if i < n then i else 3 * n - 1 - i

theorem place_range {n i : Int} (h0 : 0 ≤ i) (h1 : i < 2 * n) : 0 ≤ place n i ∧ place n i < 2 * n := by
  unfold place; split <;> omega
theorem place_place {n i : Int} (h0 : 0 ≤ i) (h1 : i < 2 * n) : place n (place n i) = i := by
  unfold place
  by_cases h : i < n
  · rw [if_pos h, if_pos h]
  · rw [if_neg h, if_neg (by omega)]; omega
theorem place_inj {n i k : Int} (h0 : 0 ≤ i) (h1 : i < 2 * n) (k0 : 0 ≤ k) (k1 : k < 2 * n) (h : place n i = place n k) : i = k := by
  rw [← place_place h0 h1, h, place_place k0 k1]

/-- The diagram d lies at an address. -/
structure DgAt (w : World) (b off : Nat) (d : Dg) : Prop where
  size : w.cell? ⟨b, off, none⟩ = some (.int .i64 d.size)
  mate : ∀ i, i < 16 → w.cell? ⟨b, off + 1 + i, none⟩ = some (.int .u8 (d.m i))

theorem Blk.dgAt {w : World} {b : Nat} {d : Dg} {T : TypeId} (h : Blk w b d.cells T) : DgAt w b 0 d :=
  ⟨by rw [h.cells, d.cells0], fun i hi => by rw [h.cells, Nat.zero_add, d.cells1 i hi]⟩
theorem DgAt.below {w w' : World} {b off B : Nat} {d : Dg} (h : DgAt w b off d) (hb : Below B w w') (hB : b < B) : DgAt w' b off d :=
  ⟨(hb.cell (p := ⟨b, off, none⟩) hB).trans h.size, fun i hi => (hb.cell (p := ⟨b, off + 1 + i, none⟩) hB).trans (h.mate i hi)⟩
theorem DgAt.only {w w' : World} {b b' off : Nat} {d : Dg} (h : DgAt w b off d) (ho : Only w w' b') (hne : b ≠ b') : DgAt w' b off d :=
  ⟨(World.cell?_of_block (a := ⟨b, off, none⟩) (ho.block b hne)).trans h.size, fun i hi => (World.cell?_of_block (a := ⟨b, off + 1 + i, none⟩) (ho.block b hne)).trans (h.mate i hi)⟩
theorem DgAt.but {w w' : World} {b off : Nat} {d : Dg} {l : List Nat} (h : DgAt w b off d) (ho : But w w' l) (hne : b ∉ l) : DgAt w' b off d :=
  ⟨(World.cell?_of_block (a := ⟨b, off, none⟩) (ho.block b (World.block_lt_of_cell? w _ h.size) hne)).trans h.size, fun i hi => (World.cell?_of_block (a := ⟨b, off + 1 + i, none⟩) (ho.block b (World.block_lt_of_cell? w _ h.size) hne)).trans (h.mate i hi)⟩
theorem DgAt.lt {w : World} {b off : Nat} {d : Dg} (h : DgAt w b off d) : b < w.heap.size := World.block_lt_of_cell? w _ h.size

/-- The size is right, and the mates are points. -/
structure Dg.Pts (d : Dg) : Prop where
  lo : 0 ≤ d.size
  hi : d.size ≤ 8
  mate : ∀ i : Nat, (i : Int) < 2 * d.size → 0 ≤ d.m i ∧ d.m i < 2 * d.size

namespace Dg
/-- The place of the other end of the line at a place. -/
def other (d : Dg) (k : Int) : Int := place d.size (d.m (place d.size k).toNat)
/-- The sign of a place in the text: ( or ). -/
def sign (d : Dg) (k : Nat) : Int := if (k : Int) < d.other k then 40 else 41
/-- The text, as the codes of its bytes. -/
def txt (d : Dg) : List Int := (List.range (2 * d.size).toNat).map d.sign
def txtTo (d : Dg) (k : Nat) : List Int := (List.range k).map d.sign
theorem txtTo_succ (d : Dg) (k : Nat) : d.txtTo (k + 1) = d.txtTo k ++ [d.sign k] := by simp [txtTo, List.range_succ]
theorem Pts.other {d : Dg} (h : d.Pts) {k : Int} (h0 : 0 ≤ k) (h1 : k < 2 * d.size) : 0 ≤ d.other k ∧ d.other k < 2 * d.size := by
  have hp := place_range h0 h1
  have hm := h.mate (place d.size k).toNat (by omega)
  exact place_range hm.1 hm.2
end Dg
end Go.Proofs.Yticmlgnolbccjaa
