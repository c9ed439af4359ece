/- Plain: lists of terms, in the order of their texts. -/
import Derived.Test.YticmlgnolbccjaaL3
import Derived.Sort.Walk0
import Derived.Sort.Statements
set_option linter.unusedVariables false
set_option linter.unusedSimpArgs false
namespace Go.Proofs.Yticmlgnolbccjaa
open Go.RowKit

structure Tm where
  d : Dg
  k : Int
deriving DecidableEq, Inhabited

/-- The bytes of the text. -/
def Dg.key (d : Dg) : List UInt8 := (strOfNums d.txt).toList
/-- Less by text. -/
def tlt (d e : Dg) : Bool := Op.bytesLess d.key e.key

theorem tlt_eq (d e : Dg) : tlt d e = decide (d.key < e.key) := bytesLess_eq _ _
theorem tlt_irrefl (d : Dg) : tlt d d = false := by rw [tlt_eq]; exact decide_eq_false (List.lt_irrefl _)
theorem tlt_trans {a b c : Dg} (h : tlt a b = true) (k : tlt b c = true) : tlt a c = true := by
  rw [tlt_eq, decide_eq_true_eq] at *; exact List.lt_trans h k
theorem tlt_ntrans {a b c : Dg} (h : tlt a b = false) (k : tlt b c = false) : tlt a c = false := by
  rw [tlt_eq, decide_eq_false_iff_not, List.not_lt] at *; exact List.le_trans k h
theorem key_inj {d e : Dg} (hd : Good d) (he : Good e) (h : d.key = e.key) : d = e := by
  have h1 : codes (strOfNums d.txt) = codes (strOfNums e.txt) := by
    unfold Dg.key at h
    rw [ByteArray.toList_eq, ByteArray.toList_eq] at h
    unfold codes; rw [h]
  rw [codes_txt, codes_txt] at h1
  have h2 := read_good hd
  rw [h1, read_good he] at h2
  exact (Option.some.inj h2).symm
theorem tlt_total {d e : Dg} (hd : Good d) (he : Good e) (h : tlt d e = false) (k : tlt e d = false) : d = e := by
  rw [tlt_eq, decide_eq_false_iff_not, List.not_lt] at *
  exact key_inj hd he (List.le_antisymm k h)
theorem tlt_asymm {d e : Dg} (h : tlt d e = true) : tlt e d = false := by
  cases hx : tlt e d with
  | false => rfl
  | true => have := tlt_trans h hx; rw [tlt_irrefl] at this; cases this

/-- A list of terms in order. -/
structure Nf (p : Int) (n : Nat) (ts : List Tm) : Prop where
  mem : ∀ t ∈ ts, Good t.d ∧ t.d.size = n ∧ 1 ≤ t.k ∧ t.k < p
  sorted : ts.Pairwise (fun a b => tlt a.d b.d = true)

/-- The factor of a diagram. -/
def coef : List Tm → Dg → Int
  | [], _ => 0
  | t :: ts, d => if t.d = d then t.k else coef ts d

theorem coef_none : ∀ (ts : List Tm) (d : Dg), (∀ t ∈ ts, t.d ≠ d) → coef ts d = 0
  | [], _, _ => rfl
  | t :: ts, d, h => by
    show (if t.d = d then _ else _) = _
    rw [if_neg (h t (by simp)), coef_none ts d (fun u hu => h u (by simp [hu]))]
theorem Nf.tail {p : Int} {n : Nat} {t : Tm} {ts : List Tm} (h : Nf p n (t :: ts)) : Nf p n ts :=
  ⟨fun u hu => h.mem u (by simp [hu]), (List.pairwise_cons.1 h.sorted).2⟩
theorem Nf.head {p : Int} {n : Nat} {t : Tm} {ts : List Tm} (h : Nf p n (t :: ts)) : ∀ u ∈ ts, tlt t.d u.d = true := (List.pairwise_cons.1 h.sorted).1
theorem Nf.above {p : Int} {n : Nat} {ts : List Tm} (d : Dg) (h : ∀ u ∈ ts, tlt d u.d = true) : coef ts d = 0 :=
  coef_none ts d fun u hu he => by have := h u hu; rw [he, tlt_irrefl] at this; cases this
theorem nf_nil (p : Int) (n : Nat) : Nf p n [] := ⟨by simp, List.Pairwise.nil⟩
theorem coef_range {p : Int} {n : Nat} : ∀ {ts : List Tm}, Nf p n ts → 1 ≤ p → ∀ d, 0 ≤ coef ts d ∧ coef ts d < p
  | [], _, hp, d => by show 0 ≤ (0 : Int) ∧ (0 : Int) < p; omega
  | t :: ts, h, hp, d => by
    show 0 ≤ (if t.d = d then _ else _) ∧ (if t.d = d then _ else _) < p
    have := h.mem t (by simp)
    split
    · omega
    · exact coef_range h.tail hp d
theorem coef_mem {p : Int} {n : Nat} : ∀ {ts : List Tm}, Nf p n ts → ∀ d, coef ts d ≠ 0 → ∃ t ∈ ts, t.d = d ∧ t.k = coef ts d
  | [], _, d, h => absurd rfl h
  | t :: ts, hn, d, h => by
    have e : coef (t :: ts) d = if t.d = d then t.k else coef ts d := rfl
    by_cases he : t.d = d
    · rw [if_pos he] at e
      exact ⟨t, by simp, he, e.symm⟩
    · rw [if_neg he] at e
      rw [e] at h ⊢
      obtain ⟨u, h1, h2⟩ := coef_mem hn.tail d h
      exact ⟨u, by simp [h1], h2⟩
theorem coef_of_mem {p : Int} {n : Nat} : ∀ {ts : List Tm}, Nf p n ts → ∀ t ∈ ts, coef ts t.d = t.k
  | [], _, t, h => by cases h
  | u :: ts, hn, t, h => by
    show (if u.d = t.d then _ else _) = _
    rcases List.mem_cons.1 h with rfl | h
    · exact if_pos rfl
    · have h1 := hn.head t h
      rw [if_neg (fun he => by rw [he, tlt_irrefl] at h1; cases h1)]
      exact coef_of_mem hn.tail t h

/-- The factors tell the list. -/
theorem nf_unique {p : Int} {n : Nat} : ∀ {ts us : List Tm}, Nf p n ts → Nf p n us → (∀ d, coef ts d = coef us d) → ts = us
  | [], [], _, _, _ => rfl
  | [], u :: us, _, hu, h => by
    have h1 := h u.d
    have h2 := hu.mem u (by simp)
    rw [coef_of_mem hu u (by simp)] at h1
    have : coef [] u.d = 0 := rfl
    omega
  | t :: ts, [], ht, _, h => by
    have h1 := h t.d
    have h2 := ht.mem t (by simp)
    rw [coef_of_mem ht t (by simp)] at h1
    have : coef [] t.d = 0 := rfl
    omega
  | t :: ts, u :: us, ht, hu, h => by
    have t1 := ht.mem t (by simp)
    have u1 := hu.mem u (by simp)
    have hd : t.d = u.d := by
      refine tlt_total t1.1 u1.1 ?_ ?_
      · cases hx : tlt t.d u.d with
        | false => rfl
        | true =>
          have h1 := h t.d
          rw [coef_of_mem ht t (by simp), coef_none (u :: us) t.d (fun v hv he => ?_)] at h1
          · omega
          · rcases List.mem_cons.1 hv with rfl | hv
            · rw [he, tlt_irrefl] at hx; cases hx
            · have := tlt_trans hx (hu.head v hv); rw [he, tlt_irrefl] at this; cases this
      · cases hx : tlt u.d t.d with
        | false => rfl
        | true =>
          have h1 := h u.d
          rw [coef_of_mem hu u (by simp), coef_none (t :: ts) u.d (fun v hv he => ?_)] at h1
          · omega
          · rcases List.mem_cons.1 hv with rfl | hv
            · rw [he, tlt_irrefl] at hx; cases hx
            · have := tlt_trans hx (ht.head v hv); rw [he, tlt_irrefl] at this; cases this
    have hk : t.k = u.k := by
      have h1 := h t.d
      rw [coef_of_mem ht t (by simp), hd, coef_of_mem hu u (by simp)] at h1
      exact h1
    have htu : t = u := by cases t; cases u; simp_all
    subst htu
    rw [nf_unique ht.tail hu.tail (fun d => ?_)]
    have h1 := h d
    have e1 : coef (t :: ts) d = if t.d = d then t.k else coef ts d := rfl
    have e2 : coef (t :: us) d = if t.d = d then t.k else coef us d := rfl
    by_cases he : t.d = d
    · rw [← he, Nf.above (p := p) (n := n) t.d ht.head, Nf.above (p := p) (n := n) t.d hu.head]
    · rw [e1, e2, if_neg he, if_neg he] at h1; exact h1

/-- A list with a term more, of a factor that is not 0. -/
def ins (p : Int) (d : Dg) (k : Int) : List Tm → List Tm
  | [] => [⟨d, k⟩]
  | t :: ts => if tlt t.d d = true then t :: ins p d k ts else if t.d = d then (if (t.k + k) % p = 0 then ts else ⟨d, (t.k + k) % p⟩ :: ts) else ⟨d, k⟩ :: t :: ts
def put (p : Int) (ts : List Tm) (d : Dg) (k : Int) : List Tm := if k % p = 0 then ts else ins p d (k % p) ts

theorem mem_ins {p : Int} {d : Dg} {k : Int} : ∀ {ts : List Tm} {u : Tm}, u ∈ ins p d k ts → u ∈ ts ∨ (u.d = d ∧ (u.k = k ∨ ((∃ t ∈ ts, u.k = (t.k + k) % p) ∧ u.k ≠ 0)))
  | [], u, h => by
    have : u = ⟨d, k⟩ := by simpa [ins] using h
    subst this; exact .inr ⟨rfl, .inl rfl⟩
  | t :: ts, u, h => by
    unfold ins at h
    split at h
    · rcases List.mem_cons.1 h with rfl | h
      · exact .inl (by simp)
      · rcases mem_ins h with h | ⟨h1, h2 | ⟨⟨v, h3, h4⟩, h5⟩⟩
        · exact .inl (by simp [h])
        · exact .inr ⟨h1, .inl h2⟩
        · exact .inr ⟨h1, .inr ⟨⟨v, by simp [h3], h4⟩, h5⟩⟩
    · split at h
      · split at h
        · exact .inl (by simp [h])
        · rename_i h9
          rcases List.mem_cons.1 h with rfl | h
          · exact .inr ⟨rfl, .inr ⟨⟨t, by simp, rfl⟩, h9⟩⟩
          · exact .inl (by simp [h])
      · rcases List.mem_cons.1 h with rfl | h
        · exact .inr ⟨rfl, .inl rfl⟩
        · exact .inl h

theorem ins_nf {p : Int} {n : Nat} {d : Dg} {k : Int} (hp : 2 ≤ p) (hd : Good d) (hs : d.size = n) (hk : 1 ≤ k) (hkp : k < p) : ∀ {ts : List Tm}, Nf p n ts → Nf p n (ins p d k ts)
  | [], h => ⟨fun t ht => by have : t = ⟨d, k⟩ := by simpa [ins] using ht
                             subst this; exact ⟨hd, hs, hk, hkp⟩, by simp [ins]⟩
  | t :: ts, h => by
    have ht := h.mem t (by simp)
    have hmem : ∀ u ∈ ins p d k (t :: ts), Good u.d ∧ u.d.size = n ∧ 1 ≤ u.k ∧ u.k < p := by
      intro u hu
      rcases mem_ins hu with h1 | ⟨h1, h2⟩
      · exact h.mem u h1
      · rw [h1]
        refine ⟨hd, hs, ?_⟩
        rcases h2 with h2 | ⟨⟨v, h3, h4⟩, h5⟩
        · omega
        · have a1 := Int.emod_nonneg (v.k + k) (show p ≠ 0 by omega)
          have a2 := Int.emod_lt_of_pos (v.k + k) (show 0 < p by omega)
          omega
    refine ⟨hmem, ?_⟩
    unfold ins
    split
    · rename_i hlt
      refine List.pairwise_cons.2 ⟨fun u hu => ?_, (ins_nf hp hd hs hk hkp h.tail).sorted⟩
      rcases mem_ins hu with h1 | ⟨h1, -⟩
      · exact h.head u h1
      · rw [h1]; exact hlt
    · rename_i hlt
      have hlt' : tlt t.d d = false := by simpa using hlt
      split
      · rename_i he
        split
        · exact h.tail.sorted
        · exact List.pairwise_cons.2 ⟨fun u hu => by show tlt d u.d = true; rw [← he]; exact h.head u hu, h.tail.sorted⟩
      · rename_i he
        have hdt : tlt d t.d = true := by
          cases hx : tlt d t.d with
          | true => rfl
          | false => exact absurd (tlt_total ht.1 hd hlt' hx) he
        refine List.pairwise_cons.2 ⟨fun u hu => ?_, h.sorted⟩
        rcases List.mem_cons.1 hu with rfl | hu
        · exact hdt
        · exact tlt_trans hdt (h.head u hu)

theorem coef_ins {p : Int} {n : Nat} {d : Dg} {k : Int} (hp : 2 ≤ p) (hk : 1 ≤ k) (hkp : k < p) : ∀ {ts : List Tm}, Nf p n ts → ∀ e, coef (ins p d k ts) e = if e = d then (coef ts d + k) % p else coef ts e
  | [], h, e => by
    show (if d = e then k else 0) = if e = d then (0 + k) % p else 0
    by_cases he : e = d
    · rw [if_pos he.symm, if_pos he, Int.zero_add, Int.emod_eq_of_lt (by omega) hkp]
    · rw [if_neg (Ne.symm he), if_neg he]
  | t :: ts, h, e => by
    have ih := coef_ins (d := d) hp hk hkp h.tail e
    have c1 : ∀ x, coef (t :: ts) x = if t.d = x then t.k else coef ts x := fun x => rfl
    unfold ins
    split
    · rename_i hlt
      have hne : t.d ≠ d := fun he => by rw [he, tlt_irrefl] at hlt; cases hlt
      show (if t.d = e then t.k else coef (ins p d k ts) e) = _
      rw [ih, c1, c1, if_neg hne]
      by_cases he : e = d
      · rw [if_pos he, if_pos he, if_neg (by rw [he]; exact hne)]
      · rw [if_neg he, if_neg he]
    · split
      · rename_i hlt he
        have hab : coef ts d = 0 := by rw [← he]; exact Nf.above (p := p) (n := n) t.d h.head
        rw [c1, c1, if_pos he]
        split
        · rename_i h0
          by_cases hed : e = d
          · rw [if_pos hed, hed, hab, h0]
          · rw [if_neg hed, if_neg (by rw [he]; exact Ne.symm hed)]
        · show (if d = e then (t.k + k) % p else coef ts e) = _
          by_cases hed : e = d
          · rw [if_pos hed, if_pos hed.symm]
          · rw [if_neg hed, if_neg (Ne.symm hed), if_neg (by rw [he]; exact Ne.symm hed)]
      · rename_i hlt he
        show (if d = e then k else coef (t :: ts) e) = _
        by_cases hed : e = d
        · rw [if_pos hed, if_pos hed.symm]
          have : coef (t :: ts) d = 0 := by
            rw [c1, if_neg he]
            refine coef_none ts d fun u hu hue => ?_
            have h1 := h.head u hu
            rw [hue] at h1
            exact hlt h1
          rw [this, Int.zero_add, Int.emod_eq_of_lt (by omega) hkp]
        · rw [if_neg hed, if_neg (Ne.symm hed)]

theorem put_nf {p : Int} {n : Nat} {d : Dg} {k : Int} (hp : 2 ≤ p) (hd : Good d) (hs : d.size = n) {ts : List Tm} (h : Nf p n ts) : Nf p n (put p ts d k) := by
  unfold put
  have a1 := Int.emod_nonneg k (show p ≠ 0 by omega)
  have a2 := Int.emod_lt_of_pos k (show 0 < p by omega)
  split
  · exact h
  · exact ins_nf hp hd hs (by omega) a2 h
theorem coef_put {p : Int} {n : Nat} {d : Dg} {k : Int} (hp : 2 ≤ p) {ts : List Tm} (h : Nf p n ts) (e : Dg) : coef (put p ts d k) e = if e = d then (coef ts d + k) % p else coef ts e := by
  unfold put
  have a1 := Int.emod_nonneg k (show p ≠ 0 by omega)
  have a2 := Int.emod_lt_of_pos k (show 0 < p by omega)
  have hr := coef_range h (by omega) d
  split
  · rename_i h0
    by_cases he : e = d
    · rw [if_pos he, he, Int.add_emod, h0, Int.add_zero, Int.emod_emod_of_dvd _ (Int.dvd_refl p), Int.emod_eq_of_lt hr.1 hr.2]
    · rw [if_neg he]
  · rw [coef_ins hp (by omega) a2 h]
    by_cases he : e = d
    · rw [if_pos he, if_pos he, Int.add_emod, Int.emod_emod_of_dvd _ (Int.dvd_refl p), ← Int.add_emod]
    · rw [if_neg he, if_neg he]

/-- The list by the place of the new term. -/
theorem ins_low {p : Int} {d : Dg} {k : Int} : ∀ (ts : List Tm) (low : Nat), low ≤ ts.length → (∀ i (h : i < ts.length), i < low → tlt ts[i].d d = true) → (∀ h : low < ts.length, tlt ts[low].d d = false) →
    ins p d k ts = if h : low < ts.length then (if ts[low].d = d then (if (ts[low].k + k) % p = 0 then ts.take low ++ ts.drop (low + 1) else ts.take low ++ ⟨d, (ts[low].k + k) % p⟩ :: ts.drop (low + 1)) else ts.take low ++ ⟨d, k⟩ :: ts.drop low) else ts ++ [⟨d, k⟩]
  | [], low, h, _, _ => by rw [dif_neg (by simp)]; rfl
  | t :: ts, 0, h, h1, h2 => by
    have h3 := h2 (by simp)
    simp only [List.getElem_cons_zero] at h3
    rw [dif_pos (by simp)]
    unfold ins
    rw [if_neg (by rw [h3]; simp)]
    simp
  | t :: ts, low + 1, h, h1, h2 => by
    have h3 := h1 0 (by simp) (by omega)
    simp only [List.getElem_cons_zero] at h3
    unfold ins
    rw [if_pos h3, ins_low ts low (by simpa using h) (fun i hi hl => by have := h1 (i + 1) (by simp; omega) (by omega); simpa using this) (fun hl => by have := h2 (by simp; omega); simpa using this)]
    by_cases hl : low < ts.length
    · rw [dif_pos hl, dif_pos (by simp; omega)]
      simp only [List.getElem_cons_succ, List.take_succ_cons, List.drop_succ_cons, List.cons_append]
      split
      · split <;> rfl
      · rfl
    · rw [dif_neg hl, dif_neg (by simp; omega)]; rfl
end Go.Proofs.Yticmlgnolbccjaa
