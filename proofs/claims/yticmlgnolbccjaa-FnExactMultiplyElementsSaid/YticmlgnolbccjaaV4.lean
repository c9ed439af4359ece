/- Plain: what an element is. -/
import Derived.Test.YticmlgnolbccjaaL6
set_option linter.unusedVariables false
set_option linter.unusedSimpArgs false
namespace Go.Proofs.Yticmlgnolbccjaa
open Go.RowKit

/-- As Go's types have it. -/
structure Tm.Wf (t : Tm) : Prop where
  d : t.d.Wf
  lo : -9223372036854775808 ≤ t.k
  hi : t.k ≤ 9223372036854775807

/-- Is the i-th term right, behind the one before it? -/
def tok (p n : Int) (ts : List Tm) (i : Nat) : Bool :=
  match ts[i]? with
  | none => true
  | some t => t.d.okB && decide (t.d.size = n) && inB t.k 1 (p - 1) && (match i with | 0 => true | k + 1 => match ts[k]? with | none => true | some s => tlt s.d t.d)
def eokB (p c n : Int) (ts : List Tm) : Bool := fieldB p c && inB n 1 8 && decide (ts.length ≤ 140) && (List.range ts.length).all (tok p n ts)

section
variable {p c n : Int} {ts : List Tm}
theorem tok_zero (h : 0 < ts.length) : tok p n ts 0 = (ts[0].d.okB && decide (ts[0].d.size = n) && inB ts[0].k 1 (p - 1)) := by
  unfold tok; rw [List.getElem?_eq_getElem h]; simp
theorem tok_succ {i : Nat} (h : i + 1 < ts.length) : tok p n ts (i + 1) = (ts[i + 1].d.okB && decide (ts[i + 1].d.size = n) && inB ts[i + 1].k 1 (p - 1) && tlt ts[i].d ts[i + 1].d) := by
  unfold tok; rw [List.getElem?_eq_getElem h]
  simp only [List.getElem?_eq_getElem (show i < ts.length by omega)]
theorem tok_ok {i : Nat} (h : i < ts.length) (ht : tok p n ts i = true) : ts[i].d.okB = true ∧ ts[i].d.size = n ∧ inB ts[i].k 1 (p - 1) = true := by
  unfold tok at ht; rw [List.getElem?_eq_getElem h] at ht
  simp only [Bool.and_eq_true, decide_eq_true_eq] at ht
  exact ⟨ht.1.1.1, ht.1.1.2, ht.1.2⟩
theorem tok_bad {i : Nat} (h : i < ts.length) (hb : ¬ (ts[i].d.okB = true ∧ ts[i].d.size = n ∧ inB ts[i].k 1 (p - 1) = true)) : tok p n ts i = false := by
  cases hx : tok p n ts i with
  | false => rfl
  | true => exact absurd (tok_ok h hx) hb
theorem eok_false (i : Nat) (hi : i < ts.length) (h : tok p n ts i = false) : eokB p c n ts = false := by
  unfold eokB
  have : (List.range ts.length).all (tok p n ts) = false := by
    rw [List.all_eq_false]
    exact ⟨i, List.mem_range.2 hi, by rw [h]; simp⟩
  rw [this, Bool.and_false]
theorem eok_true (h1 : fieldB p c = true) (h2 : inB n 1 8 = true) (h3 : ts.length ≤ 140) (h4 : ∀ i, i < ts.length → tok p n ts i = true) : eokB p c n ts = true := by
  unfold eokB
  rw [h1, h2, decide_eq_true h3]
  simp only [Bool.true_and, List.all_eq_true, List.mem_range]
  exact h4
theorem eok_head (h : (fieldB p c && inB n 1 8 && decide (ts.length ≤ 140)) = false) : eokB p c n ts = false := by
  unfold eokB; rw [h, Bool.false_and]

theorem pairwise_of_next {R : Dg → Dg → Prop} (htr : ∀ a b c, R a b → R b c → R a c) : ∀ ts : List Tm, (∀ i (h : i + 1 < ts.length), R ts[i].d ts[i + 1].d) → ts.Pairwise (fun a b => R a.d b.d)
  | [], _ => List.Pairwise.nil
  | [t], _ => List.pairwise_singleton _ _
  | t :: u :: ts, h => by
    have ih := pairwise_of_next htr (u :: ts) (fun i hi => h (i + 1) (by simpa using hi))
    have h0 : R t.d u.d := h 0 (by simp)
    refine List.pairwise_cons.2 ⟨fun v hv => ?_, ih⟩
    rcases List.mem_cons.1 hv with rfl | hv
    · exact h0
    · exact htr _ _ _ h0 ((List.pairwise_cons.1 ih).1 v hv)

/-- What a true answer says. -/
theorem eok_nf (hw : ∀ t ∈ ts, t.Wf) (h : eokB p c n ts = true) : (2 ≤ p ∧ p ≤ 97) ∧ (0 ≤ c ∧ c < p) ∧ (1 ≤ n ∧ n ≤ 8) ∧ ts.length ≤ 140 ∧ Nf p n.toNat ts := by
  unfold eokB at h
  simp only [Bool.and_eq_true, decide_eq_true_eq, List.all_eq_true, List.mem_range] at h
  obtain ⟨⟨⟨h1, h2⟩, h3⟩, h4⟩ := h
  have h2' := inB_iff.1 h2
  unfold fieldB at h1
  rw [Bool.and_eq_true] at h1
  have hc := inB_iff.1 h1.2
  have hp : 2 ≤ p ∧ p ≤ 97 := by
    have := h1.1
    unfold primeB at this
    rw [Bool.and_eq_true, decide_eq_true_eq] at this
    exact this.1
  refine ⟨hp, ⟨hc.1, by omega⟩, h2', h3, ⟨fun t ht => ?_, pairwise_of_next (R := fun a b => tlt a b = true) (fun _ _ _ => tlt_trans) ts fun i hi => ?_⟩⟩
  · obtain ⟨i, hi, rfl⟩ := List.getElem_of_mem ht
    obtain ⟨a1, a2, a3⟩ := tok_ok hi (h4 i hi)
    have := inB_iff.1 a3
    exact ⟨⟨(hw _ ht).d, Dg.okB_iff.1 a1⟩, by omega, this.1, by omega⟩
  · have := h4 (i + 1) hi
    rw [tok_succ hi, Bool.and_eq_true] at this
    exact this.2
end
end Go.Proofs.Yticmlgnolbccjaa
