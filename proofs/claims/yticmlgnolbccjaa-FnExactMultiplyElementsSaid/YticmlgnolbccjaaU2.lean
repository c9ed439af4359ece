/- The walks of the reference's small functions on elements. -/
import Derived.Test.YticmlgnolbccjaaU1
import Derived.Test.YticmlgnolbccjaaR1
set_option linter.unusedVariables false
set_option linter.unusedSimpArgs false
namespace Go.Proofs.Yticmlgnolbccjaa
open Go.RowKit

/-- The cells of an element. -/
def el (p c : Int) (n : Nat) (v : Value) : Value := .agg #[.int .i64 p, .int .i64 c, .int .i64 n, v]

theorem info_el : (Try.prog.info? 30).map (·.size) = some 4 := by kernel_rfl
section
variable {a : Act} {w : World}
/-- The end of a walk whose result is an element. -/
theorem ret_el {fn : Func} {R : Ending → World → Prop} {q : Tmp} (hr : fn.results = #[.cell q 30]) (b : Nat) (hp : a.tmps.getD q undef = .pointer (some ⟨b, 0, none⟩)) (cs : Array Value) (hs : cs.size = 4) (T : TypeId) (h : Blk w b cs T)
    (hd : a.defers = []) (hR : R (.returned (.agg cs)) w) : bodyPost Try.prog fn R .ret a w :=
  bodyPost_ret (results_cell_row hr _ w b T cs (0, 0) _ hp h Try.underlying30 rfl (by rw [info_el, hs])) hd hR
theorem ret_el_tmp {fn : Func} {R : Ending → World → Prop} {q t : Tmp} (hr : fn.results = #[.cell q 30, .tmp t]) (b : Nat) (hp : a.tmps.getD q undef = .pointer (some ⟨b, 0, none⟩)) (cs : Array Value) (hs : cs.size = 4) (T : TypeId) (h : Blk w b cs T)
    (v : Value) (ht : a.tmps.getD t undef = v) (hd : a.defers = []) (hR : R (.returned (.tuple #[.agg cs, v])) w) : bodyPost Try.prog fn R .ret a w := by
  refine bodyPost_ret (v := .tuple #[.agg cs, v]) ?_ hd hR
  have hp' : a.tmps[q]?.getD undef = .pointer (some ⟨b, 0, none⟩) := by simpa using hp
  have ht' : a.tmps[t]?.getD undef = v := by simpa using ht
  simp [results, hr, hp', ht', asAddr, run_loadVar_row w b T 30 cs (0, 0) _ h Try.underlying30 rfl (by rw [info_el, hs])]
end

section
variable {ops : Array Oper} {rest : List Oper} {o : Oper} {a : Act} {w : World} {Q : Exit → Act → World → Prop}
theorem load_el (hgd : o.guard = none) (x : Operand) (ho : o.op = .load 30 x) (b : Nat) (hx : a.eval x = .pointer (some ⟨b, 0, none⟩)) (cs : Array Value) (hs : cs.size = 4) (T : TypeId) (h : Blk w b cs T)
    (hK : wpList Try.prog ops Q rest (a.put o.dst (.agg cs)) w) : wpList Try.prog ops Q (o :: rest) a w :=
  wpList_load_row hgd _ x ho b hx T cs (0, 0) _ h Try.underlying30 rfl (by rw [info_el, hs]) hK
theorem store_el (hgd : o.guard = none) (x y : Operand) (ho : o.op = .store 30 x y) (b : Nat) (hx : a.eval x = .pointer (some ⟨b, 0, none⟩)) (ns : Array Value) (hy : a.eval y = .agg ns) (hn : ns.size = 4) (h1 : ns.all (·.oneCell') = true)
    (cs : Array Value) (T : TypeId) (h : Blk w b cs T) (hs : cs.size = 4)
    (hK : ∀ w', Blk w' b ns T → Only w w' b → wpList Try.prog ops Q rest (a.put o.dst undef) w') : wpList Try.prog ops Q (o :: rest) a w := by
  refine wpList_store_row hgd _ x y ho b ns hx hy T cs h (by rw [info_el, hn]) (by rw [hs, hn]) h1 (hK _ ?_ ?_)
  · exact setRow_heap w b cs _ T _ h
  · exact ⟨rfl, rfl, rfl, by simp, fun k hk => setRow_heap_other w b k _ hk⟩
theorem el_all {p c : Int} {n : Int} {v : Value} (h : v.oneCell' = true) : (#[.int .i64 p, .int .i64 c, .int .i64 n, v] : Array Value).all (·.oneCell') = true := by
  refine all_oneCell_toArray (cs := [.int .i64 p, .int .i64 c, .int .i64 n, v]) fun x hx => ?_
  simp only [List.mem_cons, List.not_mem_nil, or_false] at hx
  rcases hx with rfl | rfl | rfl | rfl <;> first | rfl | exact h
theorem TsS.oneCell {base : Nat} {v : Value} {ts : List Tm} (h : TsS w base v ts) : v.oneCell' = true := by
  obtain ⟨g, cap, rfl, -⟩ := h.out; rfl
end

set_option maxRecDepth 100000 in
theorem specEmpty_calls (p c : Int) (n : Nat) (v : Value) (w : World) : Calls Try.prog 38 #[el p c n v] w fun e w' => ∃ v', e = .returned (el p c n v') ∧ TsS w' w.heap.size v' [] ∧ Below w.heap.size w w' := by
  unfold el
  go_enter Try.func38, Try.ntmps38
  go_wp2
  refine ret_el rfl _ rfl _ rfl _ ((Blk.newAt (w.alloc (.cells #[.int .i64 p, .int .i64 c, .int .i64 n, v] 30)) _ 30 (b := w.heap.size + 1) (by simp)).alloc _) rfl ?_
  exact ⟨_, rfl, TsS.new _ (by omega) (by simp), (((Below.refl _ w).alloc (Nat.le_refl _) _).alloc (by simp) _).alloc (by simp; omega) _⟩
end Go.Proofs.Yticmlgnolbccjaa
