/- Slices of any element type: appends and makes. -/
import Derived.Test.YticmlgnolbccjaaM2
set_option linter.unusedVariables false
set_option linter.unusedSimpArgs false
namespace Go.Proofs.Yticmlgnolbccjaa
open Go.RowKit

/-- A slice type, its element type with the zero value, how many cells an element has, and how many bytes. -/
structure Row (St E : TypeId) (z : Value) (size bytes : Nat) : Prop where
  und : Try.prog.underlying St = some (.slice E)
  info : (Try.prog.info? E).map (fun i => (i.zero, i.size, i.bytes)) = some (some z, size, bytes)
  zs : z.cells.size = size
  pos : 0 < size

section
variable {St E : TypeId} {z : Value} {size bytes : Nat}
variable {ops : Array Oper} {rest : List Oper} {o : Oper} {a : Act} {w : World} {Q : Exit → Act → World → Prop}

/-- m elements more, out of a new block. -/
theorem append_row (R : Row St E z size bytes) (hgd : o.guard = none) (s x : Operand) (ho : o.op = .call { callee := .builtin .append, args := #[s, x], argTypes := #[St, St] })
    (base : Nat) (v : Value) (n : Nat) (xs : List Value) (hs : a.eval s = v) (hown : w.ownsRow base E size v n xs)
    (g m c : Nat) (news : List Value) (hx : a.eval x = .slice (some ⟨g, 0, none⟩) m c) (T : TypeId) (hc : Blk w g news.toArray T) (hl : news.length = m * size) (h1 : ∀ u ∈ news, u.oneCell' = true)
    (hn : (n + m) * bytes ≤ 140737488355328) (hn' : n + m ≤ 140737488355328) (hbase : base ≤ w.heap.size)
    (h : ∀ v' w', w'.ownsRow base E size v' (n + m) (xs ++ news) → w.grownBy w' v.ownBlock → wpList Try.prog ops Q rest (a.put o.dst v') w') : wpList Try.prog ops Q (o :: rest) a w := by
  obtain ⟨i0, hi, hz0, hz1, hz2⟩ := info_parts R.info
  refine wpList_append_own w hgd s x St ho base E i0 z size bytes R.und hi hz0 hz1 hz2 R.zs R.pos v n _ hs hown ⟨g, 0, none⟩ m c news hx hl ?_ h1 (by unfold maxLen; omega) hn hbase ?_
  · intro j u hu
    rw [Addr.add_mid, Nat.zero_add, hc.cells]
    simpa using hu
  · intro v' w' h1 h2 _
    exact h v' w' h1 h2

/-- A new slice of n zero elements. -/
theorem make_row (R : Row St E z size bytes) (hgd : o.guard = none) (l c : Operand) (ho : o.op = .makeSlice St l c) (kl kc : IntKind) (n : Nat) (L C : Int) (hl : a.eval l = .int kl L) (hc : a.eval c = .int kc C) (hL : L = n) (hC : C = n)
    (hn : bytes * n ≤ 281474976710656) (hn' : n ≤ 140737488355328)
    (h : ∀ w', Blk w' w.heap.size (madeCells z.cells (n * size)) E → w.grownBy w' none → wpList Try.prog ops Q rest (a.put o.dst (.slice (some ⟨w.heap.size, 0, none⟩) n n)) w') : wpList Try.prog ops Q (o :: rest) a w := by
  obtain ⟨i0, hi, hz0, hz1, hz2⟩ := info_parts R.info
  refine wpList_make_full w hgd l c St ho w.heap.size E i0 z size R.und hi hz0 hz1 kl kc L C n hl hc hL hC (by rw [hz2]; exact hn) (by unfold maxLen; omega) (Nat.le_refl _) ?_
  intro w' hown hg
  refine h w' ?_ hg
  rcases hown.2 with ⟨h0, _⟩ | ⟨g, cap, cur, hv, _, hh, _, _, hsz, ht⟩
  · cases h0
  · cases hv
    have h0 : (madeCells z.cells (n * size)).toList.length = n * size := by simpa using hown.1
    rw [List.take_of_length_le (by rw [Array.length_toList]; omega)] at ht
    have : cur = madeCells z.cells (n * size) := Array.toList_inj.1 ht
    rw [this] at hh
    exact hh
end

theorem rowInt : Row 143 3 (.int .i64 0) 1 8 := ⟨Try.underlying143, by kernel_rfl, rfl, by decide⟩

/-- Whole numbers as the cells of a slice. -/
def nums (l : List Nat) : List Value := l.map fun (x : Nat) => Value.int .i64 (x : Int)
theorem nums_length (l : List Nat) : (nums l).length = l.length := by simp [nums]
theorem nums_get (l : List Nat) (i : Nat) (h : i < l.length) : (nums l).toArray[i]? = some (.int .i64 (l.getD i 0 : Nat)) := by
  simp [nums, List.getElem?_eq_getElem h, List.getD_eq_getElem?_getD]
theorem nums_set (l : List Nat) (i x : Nat) : (nums l).toArray.setIfInBounds i (.int .i64 (x : Int)) = (nums (l.set i x)).toArray := by
  simp [nums, List.map_set]
theorem nums_snoc (l : List Nat) (x : Nat) : nums (l ++ [x]) = nums l ++ [.int .i64 (x : Int)] := by simp [nums]
theorem nums_oneCell (l : List Nat) : ∀ v ∈ nums l, v.oneCell' = true := by
  intro v hv
  simp only [nums, List.mem_map] at hv
  obtain ⟨x, _, rfl⟩ := hv
  rfl
theorem made_one (z : Value) (h : z.cells = #[z]) (n : Nat) : madeCells z.cells (n * 1) = (List.replicate n z).toArray := by
  rw [Nat.mul_one, h]
  apply Array.ext_getElem?
  intro i
  by_cases hi : i < n
  · simp [madeCells, hi, Nat.mod_one]
  · simp [madeCells, hi]
theorem made_ints (n : Nat) : madeCells (Value.int .i64 0).cells (n * 1) = (nums (List.replicate n 0)).toArray := by
  rw [made_one _ rfl]; simp [nums]
end Go.Proofs.Yticmlgnolbccjaa
