/- Plain: the product of two lists of terms. -/
import Derived.Test.YticmlgnolbccjaaL5
import Derived.Test.YticmlgnolbccjaaL4
set_option linter.unusedVariables false
set_option linter.unusedSimpArgs false
namespace Go.Proofs.Yticmlgnolbccjaa
open Go.RowKit

/-- One product more. -/
def mstep (p c : Int) (n : Nat) (acc : List Tm) (t u : Tm) : List Tm := put p acc (prodD t.d u.d n) (t.k * u.k % p * powm p c (prodL t.d u.d n))
def mrow (p c : Int) (n : Nat) (acc : List Tm) (t : Tm) (us : List Tm) (j : Nat) : List Tm := (us.take j).foldl (fun a u => mstep p c n a t u) acc
def mulTo (p c : Int) (n : Nat) (ts us : List Tm) (i : Nat) : List Tm := (ts.take i).foldl (fun a t => mrow p c n a t us us.length) []
/-- The product. -/
def mulT (p c : Int) (n : Nat) (ts us : List Tm) : List Tm := mulTo p c n ts us ts.length

section
variable {p c : Int} {n : Nat} {ts us : List Tm}
theorem mrow_zero (acc : List Tm) (t : Tm) : mrow p c n acc t us 0 = acc := rfl
theorem mrow_succ (acc : List Tm) (t : Tm) (j : Nat) (h : j < us.length) : mrow p c n acc t us (j + 1) = mstep p c n (mrow p c n acc t us j) t us[j] := by
  unfold mrow
  rw [List.take_succ_eq_append_getElem h, List.foldl_append]; rfl
theorem mulTo_zero : mulTo p c n ts us 0 = [] := rfl
theorem mulTo_succ (i : Nat) (h : i < ts.length) : mulTo p c n ts us (i + 1) = mrow p c n (mulTo p c n ts us i) ts[i] us us.length := by
  unfold mulTo
  rw [List.take_succ_eq_append_getElem h, List.foldl_append]; rfl

theorem length_ins (d : Dg) (k : Int) : ∀ ts : List Tm, (ins p d k ts).length ≤ ts.length + 1
  | [] => by simp [ins]
  | t :: ts => by
    unfold ins
    split
    · have := length_ins d k ts; simp only [List.length_cons]; omega
    · split
      · split
        · simp only [List.length_cons]; omega
        · simp
      · simp
theorem length_put (ts : List Tm) (d : Dg) (k : Int) : (put p ts d k).length ≤ ts.length + 1 := by
  unfold put; split
  · omega
  · exact length_ins d _ ts

theorem prod_good {d e : Dg} (hd : Good d) (he : Good e) (hds : d.size = n) (hes : e.size = n) : Good (prodD d e n) := by
  have h1 := hd.ok.1
  exact prodD_good (two_of_good hd he hds hes) (by omega) (by omega)

theorem mstep_nf (hp : 2 ≤ p) {acc : List Tm} (h : Nf p n acc) {t u : Tm} (ht : Good t.d ∧ t.d.size = n) (hu : Good u.d ∧ u.d.size = n) : Nf p n (mstep p c n acc t u) :=
  put_nf hp (prod_good ht.1 hu.1 ht.2 hu.2) prodD_size h
theorem mrow_nf (hp : 2 ≤ p) (hu : Nf p n us) {acc : List Tm} (h : Nf p n acc) {t : Tm} (ht : Good t.d ∧ t.d.size = n) : ∀ j, j ≤ us.length → Nf p n (mrow p c n acc t us j)
  | 0, _ => h
  | j + 1, hj => by
    rw [mrow_succ acc t j (by omega)]
    have := hu.mem us[j] (List.getElem_mem _)
    exact mstep_nf hp (mrow_nf hp hu h ht j (by omega)) ht ⟨this.1, this.2.1⟩
theorem mulTo_nf (hp : 2 ≤ p) (ht : Nf p n ts) (hu : Nf p n us) : ∀ i, i ≤ ts.length → Nf p n (mulTo p c n ts us i)
  | 0, _ => nf_nil p n
  | i + 1, hi => by
    rw [mulTo_succ i (by omega)]
    have := ht.mem ts[i] (List.getElem_mem _)
    exact mrow_nf hp hu (mulTo_nf hp ht hu i (by omega)) ⟨this.1, this.2.1⟩ _ (Nat.le_refl _)
theorem mrow_length (acc : List Tm) (t : Tm) : ∀ j, j ≤ us.length → (mrow p c n acc t us j).length ≤ acc.length + j
  | 0, _ => Nat.le_refl _
  | j + 1, hj => by
    rw [mrow_succ acc t j (by omega)]
    have := length_put (p := p) (mrow p c n acc t us j) (prodD t.d us[j].d n) (t.k * us[j].k % p * powm p c (prodL t.d us[j].d n))
    have := mrow_length acc t j (by omega)
    unfold mstep; omega
theorem mulTo_length : ∀ i, i ≤ ts.length → (mulTo p c n ts us i).length ≤ i * us.length
  | 0, _ => by simp [mulTo_zero]
  | i + 1, hi => by
    rw [mulTo_succ i (by omega)]
    have h1 := mrow_length (p := p) (c := c) (n := n) (us := us) (mulTo p c n ts us i) ts[i] us.length (Nat.le_refl _)
    have h2 := mulTo_length i (by omega)
    rw [Nat.add_mul]; omega
theorem mulT_nf (hp : 2 ≤ p) (ht : Nf p n ts) (hu : Nf p n us) : Nf p n (mulT p c n ts us) := mulTo_nf hp ht hu _ (Nat.le_refl _)
end
end Go.Proofs.Yticmlgnolbccjaa
