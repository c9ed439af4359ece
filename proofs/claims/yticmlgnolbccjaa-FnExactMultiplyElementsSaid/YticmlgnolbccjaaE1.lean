/- Diagrams as keys of maps, and Go's == on them. -/
import Derived.Test.YticmlgnolbccjaaM4
import Derived.Test.YticmlgnolbccjaaChecked
import Derived.DeepKeys4
import Derived.DeepKeys5
import Derived.KernelRfl
import Derived.Maps.Keyed
import Derived.Laws.StructEq
set_option linter.unusedVariables false
set_option linter.unusedSimpArgs false
namespace Go.Proofs.Yticmlgnolbccjaa
open Go.RowKit

theorem laidOut : laidOutB Try.prog = true := by kernel_rfl
theorem keyTypeDg : Try.prog.keyTypeAt 5 47 = true := by kernel_rfl
theorem keyTypeDg' : Try.prog.keyType 47 = true := by kernel_rfl
theorem formedDg (d : Dg) : (Value.agg d.cells).formed Try.prog 47 = true := by kernel_rfl
theorem wideDg : (match Try.prog.underlying 47 with | some (.array _ _) | some (.struct _) => true | _ => false) = true := by kernel_rfl
theorem cellsOfDg : Try.prog.cellsOf 47 = 17 := by kernel_rfl
theorem cellsOfMate : Try.prog.cellsOf 43 = 16 := by kernel_rfl
theorem cellsOfU8 : Try.prog.cellsOf 5 = 1 := by kernel_rfl
theorem cellsOfI64 : Try.prog.cellsOf 2 = 1 := by kernel_rfl

theorem mapM_some {α β : Type} {f : α → Option β} {g : α → β} : ∀ (l : List α), (∀ x ∈ l, f x = some (g x)) → l.mapM f = some (l.map g)
  | [], _ => rfl
  | x :: l, h => by
    rw [List.mapM_cons, h x (by simp), mapM_some l (fun y hy => h y (by simp [hy]))]
    rfl

theorem flatten_one {α β : Type} (g : α → β) : ∀ l : List α, (l.map fun i => [g i]).flatten = l.map g
  | [] => rfl
  | x :: l => by simp only [List.map_cons, List.flatten_cons, flatten_one g l]; rfl
theorem chunk_one {β : Type} (F : Nat → β) (n i : Nat) (hi : i < n) : (((List.range n).map F).drop (i * 1)).take 1 = [F i] := by
  rw [Nat.mul_one, List.drop_eq_getElem_cons (by simpa using hi)]
  simp only [List.getElem_map, List.getElem_range, List.take_succ_cons, List.take_zero]

theorem keyLits_i64 (n : Nat) (x : Int) (h : (Lit.int .i64 x).wf = true) : Try.prog.keyLits (n + 1) 2 [.int .i64 x] = some [.int .i64 x] := by
  simp [Program.keyLits, Try.underlying2, h]
theorem keyLits_u8 (n : Nat) (x : Int) (h : (Lit.int .u8 x).wf = true) : Try.prog.keyLits (n + 1) 5 [.int .u8 x] = some [.int .u8 x] := by
  simp [Program.keyLits, Try.underlying5, h]
set_option maxRecDepth 100000 in
theorem keyLits_mate (n : Nat) (f : Nat → Int) (h : ∀ i, (Lit.int .u8 (f i)).wf = true) :
    Try.prog.keyLits (n + 2) 43 ((List.range 16).map fun i => .int .u8 (f i)) = some ((List.range 16).map fun i => .int .u8 (f i)) := by
  simp only [Program.keyLits, Try.underlying43, cellsOfMate, cellsOfU8]
  rw [if_pos (by rw [List.length_map, List.length_range]), mapM_some (g := fun i => [Lit.int .u8 (f i)])]
  · rw [Option.map_some, flatten_one]
  · intro i hi
    rw [chunk_one (fun i => Value.int .u8 (f i)) 16 i (List.mem_range.1 hi)]
    exact keyLits_u8 n (f i) (h i)

theorem keyLits_struct {P : Program} (n : Nat) (t : TypeId) (cs : List Value) (fs : Array Field) (ht : P.underlying t = some (.struct fs)) (hl : cs.length = P.cellsOf t) (hf : fs.all (·.name != "_") = true) :
    P.keyLits (n + 1) t cs = (fs.toList.mapM fun f => P.keyLits n f.type ((cs.drop f.offset).take (P.cellsOf f.type))).map List.flatten := by
  simp only [Program.keyLits, ht]
  rw [if_pos ⟨hl, hf⟩]

theorem keyLits_dg (d : Dg) (h : d.Wf) (n : Nat) : ∃ L, Try.prog.keyLits (n + 3) 47 d.cells.toList = some L := by
  have hs : (Lit.int .i64 d.size).wf = true := WalkArith.wf_i64 ⟨h.lo, h.hi⟩
  have hb : ∀ i, (Lit.int .u8 (d.m i)).wf = true := fun i => WalkArith.wf_u8 (h.byte i)
  have e : d.cells.toList = d.list := rfl
  refine ⟨.int .i64 d.size :: (List.range 16).map fun i => .int .u8 (d.m i), ?_⟩
  rw [e]
  rw [keyLits_struct (n + 2) _ _ _ Try.underlying47 (by rw [cellsOfDg, d.length_list]) (by kernel_rfl)]
  simp only [List.mapM_cons, List.mapM_nil, cellsOfI64, cellsOfMate, List.drop_zero]
  have e1 : d.list.take 1 = [.int .i64 d.size] := rfl
  have e2 : (d.list.drop 1).take 16 = (List.range 16).map fun i => .int .u8 (d.m i) := by
    simp only [Dg.list, List.drop_succ_cons, List.drop_zero]
    exact List.take_of_length_le (by simp)
  rw [e1, e2, keyLits_i64 _ _ hs, keyLits_mate _ _ hb]
  rfl

theorem keyOf_dg (d : Dg) (h : d.Wf) : ∃ l, keyOf Try.prog 47 (.agg d.cells) = some l := by
  obtain ⟨L, hL⟩ := keyLits_dg d h (Try.prog.types.size - 2)
  have hn : Try.prog.types.size - 2 + 3 = Try.prog.types.size + 1 := by kernel_rfl
  rw [hn] at hL
  refine ⟨.string (keyBytes L), ?_⟩
  unfold keyOf
  rw [Try.underlying47]
  simp only [keyTypeDg', formedDg, Bool.and_self, if_true]
  have : (Value.agg d.cells).cells.toList = d.cells.toList := rfl
  rw [this, hL]
  rfl

set_option maxRecDepth 100000 in
theorem lawDg : WideMaps.KeyLaw Try.prog 47 :=
  deep_law_gate laidOut (of_decide_eq_true (by kernel_rfl)) (of_decide_eq_true (by kernel_rfl)) keyTypeDg' wideDg

theorem cells_inj {d e : Dg} (hd : d.Wf) (he : e.Wf) (h : d.cells = e.cells) : d = e := by
  have h0 : d.cells[0]? = e.cells[0]? := by rw [h]
  rw [d.cells0, e.cells0] at h0
  refine Dg.ext hd.len he.len (by simpa using h0) fun i hi => ?_
  have h1 : d.cells[1 + i]? = e.cells[1 + i]? := by rw [h]
  rw [d.cells1 i hi, e.cells1 i hi] at h1
  simpa using h1


set_option maxRecDepth 100000 in
theorem run_eql_dg (d e : Dg) (hd : d.Wf) (he : e.Wf) (w : World) : (binOp .eql 47 (.agg d.cells) (.agg e.cells)).run Try.prog w = .ok (.bool (decide (d = e))) w := by
  obtain ⟨ld, hld⟩ := keyOf_dg d hd
  obtain ⟨le, hle⟩ := keyOf_dg e he
  obtain ⟨r, hr, hrr⟩ := run_equal_deep (P := Try.prog) w (m := 5) (by omega) keyTypeDg wideDg hld hle
  have : r = decide (d = e) := by
    rw [Bool.eq_iff_iff, hrr, decide_eq_true_iff]
    constructor
    · intro h
      subst h
      have := (Maps.Keyed.of_law lawDg).inj hld hle
      exact cells_inj hd he (Value.agg.inj this)
    · intro h
      subst h
      rw [hld] at hle
      exact Option.some.inj hle
  subst this
  rw [run_eql_struct]
  show ((Op.equal 47 (.agg d.cells) (.agg e.cells)).run Try.prog w).andThen _ = _
  rw [hr]
  rfl

theorem guard_dg : Try.prog.eqGuardType Try.prog.depth 47 = false := by kernel_rfl
end Go.Proofs.Yticmlgnolbccjaa
