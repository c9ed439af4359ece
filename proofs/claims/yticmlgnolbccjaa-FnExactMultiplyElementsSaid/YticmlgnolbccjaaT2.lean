/- Lists of terms in memory. -/
import Derived.Test.YticmlgnolbccjaaM4
import Derived.Test.YticmlgnolbccjaaL5
import Derived.Deep.MidRow
set_option linter.unusedVariables false
set_option linter.unusedSimpArgs false
namespace Go.Proofs.Yticmlgnolbccjaa
open Go.RowKit

def Tm.vals (t : Tm) : List Value := t.d.list ++ [.int .i64 t.k]
theorem Tm.length_vals (t : Tm) : t.vals.length = 18 := by simp [Tm.vals, Dg.length_list]
def Tm.cells (t : Tm) : Array Value := t.vals.toArray
/-- The cells of a list of terms. -/
def tc (ts : List Tm) : List Value := ts.flatMap Tm.vals
theorem tc_nil : tc [] = [] := rfl
theorem tc_cons (t : Tm) (ts : List Tm) : tc (t :: ts) = t.vals ++ tc ts := rfl
theorem tc_append (ts us : List Tm) : tc (ts ++ us) = tc ts ++ tc us := by simp [tc]
theorem length_tc : ∀ ts : List Tm, (tc ts).length = ts.length * 18
  | [] => rfl
  | t :: ts => by rw [tc_cons, List.length_append, t.length_vals, length_tc ts, List.length_cons]; omega
theorem tc_at : ∀ (ts : List Tm) (i j : Nat) (t : Tm), ts[i]? = some t → j < 18 → (tc ts)[i * 18 + j]? = t.vals[j]?
  | [], i, j, t, h, _ => by simp at h
  | u :: ts, 0, j, t, h, hj => by
    simp at h; subst h
    rw [tc_cons, Nat.zero_mul, Nat.zero_add, List.getElem?_append_left (by rw [Tm.length_vals]; exact hj)]
  | u :: ts, i + 1, j, t, h, hj => by
    simp at h
    rw [tc_cons, List.getElem?_append_right (by rw [Tm.length_vals]; omega), Tm.length_vals, show (i + 1) * 18 + j - 18 = i * 18 + j from by omega]
    exact tc_at ts i j t h hj
theorem tc_oneCell (ts : List Tm) : ∀ v ∈ tc ts, v.oneCell' = true := by
  intro v hv
  simp only [tc, List.mem_flatMap] at hv
  obtain ⟨t, _, hv⟩ := hv
  simp only [Tm.vals, List.mem_append, List.mem_singleton] at hv
  rcases hv with hv | rfl
  · exact t.d.oneCell v hv
  · rfl
theorem Tm.list_at (t : Tm) (j : Nat) (v : Value) (h : t.d.list[j]? = some v) : t.vals[j]? = some v := by
  have : j < t.d.list.length := by
    by_cases h1 : j < t.d.list.length
    · exact h1
    · rw [List.getElem?_eq_none (by omega)] at h; cases h
  rw [Tm.vals, List.getElem?_append_left this]; exact h
theorem Tm.k_at (t : Tm) : t.vals[17]? = some (.int .i64 t.k) := by
  rw [Tm.vals, List.getElem?_append_right (by rw [Dg.length_list]; omega), Dg.length_list]; rfl
theorem tc_take (ts : List Tm) (n : Nat) : (tc ts).take (n * 18) = tc (ts.take n) := by
  induction ts generalizing n with
  | nil => simp [tc]
  | cons t ts ih =>
    cases n with
    | zero => simp [tc]
    | succ n =>
      rw [List.take_succ_cons, tc_cons, tc_cons, List.take_append, t.length_vals, List.take_of_length_le (by rw [t.length_vals]; omega), show (n + 1) * 18 - 18 = n * 18 from by omega, ih]
theorem tc_drop (ts : List Tm) (n : Nat) : (tc ts).drop (n * 18) = tc (ts.drop n) := by
  induction ts generalizing n with
  | nil => simp [tc]
  | cons t ts ih =>
    cases n with
    | zero => simp
    | succ n =>
      rw [List.drop_succ_cons, tc_cons, List.drop_append, t.length_vals, List.drop_eq_nil_of_le (by rw [t.length_vals]; omega), show (n + 1) * 18 - 18 = n * 18 from by omega, ih]
      rfl

theorem rangeAt_take {w : World} {g o : Nat} {ts : List Tm} (h : w.rangeAt g o (tc ts)) (l : Nat) : w.rangeAt g o (tc (ts.take l)) := by
  intro j v hv
  refine h j v ?_
  rw [← tc_take, List.getElem?_take] at hv
  split at hv
  · exact hv
  · cases hv
theorem rangeAt_drop {w : World} {g o : Nat} {ts : List Tm} (h : w.rangeAt g o (tc ts)) (l : Nat) : w.rangeAt g (o + l * 18) (tc (ts.drop l)) := by
  intro j v hv
  rw [← tc_drop, List.getElem?_drop] at hv
  have := h (l * 18 + j) v hv
  rwa [← Nat.add_assoc] at this
theorem rangeAt_grown {w w' : World} {g o : Nat} {l : List Value} {row : Option Nat} (h : w.rangeAt g o l) (hg : w.grownBy w' row) (hne : some g ≠ row) : w'.rangeAt g o l := fun j v hv => hg.cell (h j v hv) hne
theorem rangeAt_alloc {w : World} {g o : Nat} {l : List Value} (h : w.rangeAt g o l) (x : Obj) : (w.alloc x).rangeAt g o l := rangeAt_grown h (World.grownBy_alloc w x none) (by simp)

/-- A slice of terms, of blocks from a base on. -/
def TsOwn (w : World) (base : Nat) (v : Value) (ts : List Tm) : Prop := w.ownsRow base 57 18 v ts.length (tc ts)

section
variable {w : World} {g o : Nat} {ts : List Tm}
theorem range_term (h : w.rangeAt g o (tc ts)) (i : Nat) (t : Tm) (hi : ts[i]? = some t) : w.rangeAt g (o + i * 18) t.d.list ∧ w.cell? ⟨g, o + i * 18 + 17, none⟩ = some (.int .i64 t.k) := by
  refine ⟨fun j v hv => ?_, ?_⟩
  · have h1 := t.list_at j v hv
    have hj : j < 18 := by
      by_cases h2 : j < 18
      · exact h2
      · rw [List.getElem?_eq_none (by rw [t.length_vals]; omega)] at h1; cases h1
    have := h (i * 18 + j) v (by rw [tc_at ts i j t hi hj]; exact h1)
    rwa [← Nat.add_assoc] at this
  · have := h (i * 18 + 17) (.int .i64 t.k) (by rw [tc_at ts i 17 t hi (by omega)]; exact t.k_at)
    rwa [← Nat.add_assoc] at this
theorem TsOwn.pos {base : Nat} {v : Value} (h : TsOwn w base v ts) (hn : ts ≠ []) : ∃ g cap, v = .slice (some ⟨g, 0, none⟩) ts.length cap ∧ base ≤ g ∧ g < w.heap.size ∧ ts.length ≤ cap ∧ cap ≤ 9223372036854775807 ∧ w.rangeAt g 0 (tc ts) := by
  obtain ⟨g, cap, rfl, h1, h2, h3, h4⟩ := own_pos h (List.length_pos_iff.2 hn)
  refine ⟨g, cap, rfl, h1, h2, h3, h4, fun j v hv => ?_⟩
  rw [Nat.zero_add]
  exact own_cell h j v hv
theorem TsOwn.slice {base : Nat} {v : Value} (h : TsOwn w base v ts) : ∃ ad cap, v = .slice ad ts.length cap ∧ ts.length ≤ cap ∧ cap ≤ 9223372036854775807 := by
  rcases h.2 with ⟨rfl, h0⟩ | ⟨g, cap, cur, rfl, hb, hg, hc, hm, _⟩
  · exact ⟨_, _, by rw [h0], by omega, by omega⟩
  · exact ⟨_, _, rfl, hc, by unfold maxLen at hm; omega⟩
theorem rangeAt_below {w' : World} {B : Nat} {l : List Value} (h : w.rangeAt g o l) (hb : Below B w w') (hg : g < B) : w'.rangeAt g o l := fun j v hv => (hb.cell (p := ⟨g, o + j, none⟩) hg).trans (h j v hv)
theorem TsOwn.below {w' : World} {base B : Nat} {v : Value} (h : TsOwn w base v ts) (hb : Below B w w') (hB : w.heap.size ≤ B) : TsOwn w' base v ts := own_below h hb hB
theorem TsOwn.only {w' : World} {base b : Nat} {v : Value} (h : TsOwn w base v ts) (ho : Only w w' b) (hne : some b ≠ v.ownBlock) : TsOwn w' base v ts := own_only h ho hne
end

section
variable {ops : Array Oper} {rest : List Oper} {o : Oper} {a : Act} {w : World} {Q : Exit → Act → World → Prop}

/-- The load of a diagram out of the midst of a block. -/
theorem load_dg_mid (hgd : o.guard = none) (x : Operand) (ho : o.op = .load 47 x) (b off : Nat) (hx : a.eval x = .pointer (some ⟨b, off, none⟩)) (d : Dg) (h : w.rangeAt b off d.list)
    (hK : wpList Try.prog ops Q rest (a.put o.dst (.agg d.cells)) w) : wpList Try.prog ops Q (o :: rest) a w :=
  wpList_load_mid hgd _ x ho b off hx d.list _ h Try.underlying47 rfl (by rw [d.length_list]; exact (info_dg).trans rfl) hK
end

section
variable {P : Program} {ops : Array Oper} {a : Act} {o : Oper} {K : Act → Prop} {w : World}
/-- The same at a world in which old memory lies unturned. -/
theorem quiet_load_dg_mid (x : Operand) (ho : o.op = .load 47 x) (b off : Nat) (hx : a.eval x = .pointer (some ⟨b, off, none⟩)) (d : Dg) (h : w.rangeAt b off d.list) (hlt : b < w.heap.size)
    (hK : K (a.put o.dst (.agg d.cells))) : o.quiet Try.prog a (fun w' => ∃ p : ExtOf w, w' = p.W) K := by
  refine ⟨.agg d.cells, fun W hW => ?_, hK⟩
  obtain ⟨p, rfl⟩ := hW
  unfold Oper.quietAt execOp
  simp only [ho, hx, Instr.loadAt, Instr.sureAddr, Sem.run_bind, Sem.run_pure, Result.andThen_ok, run_loadVar_mid p.W b off 47 d.list _ (rangeAt_below h p.h hlt) Try.underlying47 rfl (by rw [d.length_list]; exact (info_dg).trans rfl)]
  exact ⟨rfl, rfl⟩
end

/-- The same, of a slice that is not nil. -/
def TsS (w : World) (base : Nat) (v : Value) (ts : List Tm) : Prop := TsOwn w base v ts ∧ v ≠ .slice none 0 0

section
variable {w : World} {base : Nat} {v : Value} {ts : List Tm}
theorem TsS.out (h : TsS w base v ts) : ∃ g cap, v = .slice (some ⟨g, 0, none⟩) ts.length cap ∧ base ≤ g ∧ g < w.heap.size ∧ ts.length ≤ cap ∧ cap ≤ 9223372036854775807 ∧ w.rangeAt g 0 (tc ts) := by
  rcases h.1.2 with ⟨h1, _⟩ | ⟨g, cap, cur, rfl, hb, hg, hc, hm, _⟩
  · exact absurd h1 h.2
  · refine ⟨g, cap, rfl, hb, (Array.getElem?_eq_some_iff.1 hg).1, hc, by unfold maxLen at hm; omega, fun j v hv => ?_⟩
    rw [Nat.zero_add]
    exact own_cell h.1 j v hv
theorem TsOwn.mono (h : TsOwn w base v ts) {base' : Nat} (hb : base' ≤ base) : TsOwn w base' v ts := by
  refine ⟨h.1, ?_⟩
  rcases h.2 with h0 | ⟨g, cap, cur, h1, h2, h3⟩
  · exact .inl h0
  · exact .inr ⟨g, cap, cur, h1, Nat.le_trans hb h2, h3⟩
theorem TsS.mono (h : TsS w base v ts) {base' : Nat} (hb : base' ≤ base) : TsS w base' v ts := ⟨h.1.mono hb, h.2⟩
theorem TsS.below {w' : World} {B : Nat} (h : TsS w base v ts) (hb : Below B w w') (hB : w.heap.size ≤ B) : TsS w' base v ts := ⟨h.1.below hb hB, h.2⟩
theorem TsS.drewN (h : TsS w base v ts) (j : Nat) : TsS (w.drewN j) base v ts := h
theorem TsS.drew (h : TsS w base v ts) : TsS w.drew base v ts := h
theorem TsS.alloc (h : TsS w base v ts) (o : Obj) : TsS (w.alloc o) base v ts := ⟨h.1.alloc o, h.2⟩
theorem TsS.only {w' : World} {b : Nat} (h : TsS w base v ts) (ho : Only w w' b) (hne : some b ≠ v.ownBlock) : TsS w' base v ts := ⟨h.1.only ho hne, h.2⟩
theorem TsS.new (w : World) {base b : Nat} (hb : base ≤ b) (he : b = w.heap.size) : TsS (w.alloc (.cells #[] 57)) base (.slice (some ⟨b, 0, none⟩) 0 0) [] := by
  subst he
  exact ⟨⟨rfl, .inr ⟨_, 0, #[], rfl, hb, (Blk.new w #[] 57), Nat.le_refl _, by simp [maxLen], rfl, rfl⟩⟩, by simp⟩
end

theorem rowTerm : Row 28 57 (.agg (⟨⟨0, List.replicate 16 0⟩, 0⟩ : Tm).cells) 18 32 := ⟨Try.underlying28, by kernel_rfl, rfl, by decide⟩

section
variable {ops : Array Oper} {rest : List Oper} {o : Oper} {a : Act} {w : World} {Q : Exit → Act → World → Prop}
/-- Terms more, of wherever they lie. -/
theorem append_ts (hgd : o.guard = none) (s x : Operand) (ho : o.op = .call { callee := .builtin .append, args := #[s, x], argTypes := #[28, 28] })
    (base : Nat) (v : Value) (ts : List Tm) (hs : a.eval s = v) (hown : TsS w base v ts)
    (g off m c : Nat) (us : List Tm) (hx : a.eval x = .slice (some ⟨g, off, none⟩) m c) (hr : w.rangeAt g off (tc us)) (hm : m = us.length)
    (hn : ts.length + us.length ≤ 1000000) (hbase : base ≤ w.heap.size)
    (h : ∀ v' w', TsS w' base v' (ts ++ us) → w.grownBy w' v.ownBlock → wpList Try.prog ops Q rest (a.put o.dst v') w') : wpList Try.prog ops Q (o :: rest) a w := by
  subst hm
  obtain ⟨i0, hi, hz0, hz1, hz2⟩ := info_parts rowTerm.info
  refine wpList_append_own w hgd s x 28 ho base 57 i0 _ 18 32 rowTerm.und hi hz0 hz1 hz2 rowTerm.zs (by decide) v ts.length _ hs hown.1 ⟨g, off, none⟩ us.length c (tc us) hx (length_tc us) ?_ (tc_oneCell us) (by unfold maxLen; omega) (by omega) hbase ?_
  · intro j u hu
    rw [Addr.add_mid]
    exact hr j u hu
  · intro v' w' h1 h2 h3
    refine h v' w' ⟨?_, fun he => ?_⟩ h2
    · unfold TsOwn
      rw [tc_append, List.length_append]; exact h1
    · exact hown.2 (h3.1 he).1
end
end Go.Proofs.Yticmlgnolbccjaa
