/- Plain: lines of two diagrams that stand one above the other end, and their outer ends make a diagram again. -/
import Derived.Test.YticmlgnolbccjaaF1
import Derived.Test.YticmlgnolbccjaaD4
set_option linter.unusedVariables false
set_option linter.unusedSimpArgs false
namespace Go.Proofs.Yticmlgnolbccjaa
open Go.RowKit

/-- How many of the first k are marked. -/
def cntT (t : Nat → Bool) : Nat → Nat
  | 0 => 0
  | k + 1 => cntT t k + (if t k = true then 1 else 0)

theorem even_inv (f : Nat → Nat) : ∀ (m : Nat) (L : List Nat), L.length ≤ m → L.Nodup → (∀ x ∈ L, f x ∈ L ∧ f (f x) = x ∧ f x ≠ x) → L.length % 2 = 0
  | _, [], _, _, _ => rfl
  | 0, x :: L, h, _, _ => absurd h (by simp)
  | m + 1, x :: L, hm, hn, h => by
    have hx := h x (by simp)
    have hfx : f x ∈ L := by
      rcases List.mem_cons.1 hx.1 with h1 | h1
      · exact absurd h1 hx.2.2
      · exact h1
    have hn' := (List.nodup_cons.1 hn)
    have hlen := List.length_erase_of_mem hfx
    have hpos : 0 < L.length := List.length_pos_of_mem hfx
    have ih := even_inv f m (L.erase (f x)) (by rw [hlen]; simp at hm; omega) (hn'.2.erase _) (fun y hy => by
      have hy' := (hn'.2.mem_erase_iff).1 hy
      have h2 := h y (List.mem_cons_of_mem _ hy'.2)
      refine ⟨(hn'.2.mem_erase_iff).2 ⟨?_, ?_⟩, h2.2⟩
      · intro he
        have : y = x := by rw [← h2.2.1, he, hx.2.1]
        exact hn'.1 (this ▸ hy'.2)
      · rcases List.mem_cons.1 h2.1 with h3 | h3
        · exact absurd (by rw [← h2.2.1, h3]) hy'.1
        · exact h3)
    rw [hlen] at ih
    simp only [List.length_cons]
    omega

theorem cntT_add (t : Nat → Bool) (a : Nat) : ∀ c, cntT t (a + c) = cntT t a + ((List.range' a c).filter t).length
  | 0 => by simp
  | c + 1 => by
    rw [List.range'_1_concat, List.filter_append, List.length_append, ← Nat.add_assoc]
    show cntT t (a + c) + _ = _
    rw [cntT_add t a c]
    by_cases h : t (a + c) = true <;> simp [h] <;> omega

theorem even_span (t : Nat → Bool) (f : Nat → Nat) (a b : Nat) (hab : a ≤ b) (h : ∀ x, a ≤ x → x < b → t x = true → (a ≤ f x ∧ f x < b) ∧ t (f x) = true ∧ f (f x) = x ∧ f x ≠ x) :
    cntT t a % 2 = cntT t b % 2 := by
  obtain ⟨c, rfl⟩ : ∃ c, b = a + c := ⟨b - a, by omega⟩
  rw [cntT_add]
  have := even_inv f _ ((List.range' a c).filter t) (Nat.le_refl _) (List.Pairwise.filter _ (List.nodup_range' ..)) (fun x hx => by
    rw [List.mem_filter, List.mem_range'_1] at hx
    have h1 := h x hx.1.1 hx.1.2 hx.2
    refine ⟨?_, h1.2.2⟩
    rw [List.mem_filter, List.mem_range'_1]
    exact ⟨h1.1, h1.2.1⟩)
  omega

/-- The place of a point, and the point of a place, as numbers. -/
def pl (n k : Nat) : Nat := if k < n then k else 3 * n - 1 - k
theorem pl_lt {n k : Nat} (h : k < 2 * n) : pl n k < 2 * n := by unfold pl; split <;> omega
theorem pl_pl {n k : Nat} (h : k < 2 * n) : pl n (pl n k) = k := by
  unfold pl
  by_cases h1 : k < n
  · rw [if_pos h1, if_pos h1]
  · rw [if_neg h1, if_neg (by omega)]; omega
theorem pl_up {n k : Nat} (h : k < n) : pl n k = k := if_pos h
theorem pl_down {n j : Nat} (h : j < n) : pl n (n + j) = 2 * n - 1 - j := by unfold pl; rw [if_neg (by omega)]; omega
theorem pl_down' {n j : Nat} (h : j < n) : pl n (2 * n - 1 - j) = n + j := by unfold pl; rw [if_neg (by omega)]; omega

/-- Lines of two diagrams of the size n: no point is its own mate, mates are mutual, lines do not cross. -/
structure Two (n : Nat) (h : Bool → Nat → Nat) : Prop where
  lt : ∀ l q, q < 2 * n → h l q < 2 * n
  inv : ∀ l q, q < 2 * n → h l (h l q) = q
  ne : ∀ l q, q < 2 * n → h l q ≠ q
  nc : ∀ l k k', k < 2 * n → k' < 2 * n → ¬ (k < k' ∧ k' < pl n (h l (pl n k)) ∧ pl n (h l (pl n k)) < pl n (h l (pl n k')))

/-- Points of both diagrams, with each its mate, and with each middle point the same point of the other diagram. -/
structure Clo (n : Nat) (h : Bool → Nat → Nat) (T : Bool → Nat → Bool) : Prop where
  s : ∀ l q, q < 2 * n → T l q = true → T l (h l q) = true
  g : ∀ j, j < n → T true j = T false (n + j)

section
variable {n : Nat} {h : Bool → Nat → Nat} {T : Bool → Nat → Bool}

theorem Clo.iff (H : Two n h) (C : Clo n h T) (l : Bool) (q : Nat) (hq : q < 2 * n) : T l (h l q) = T l q := by
  rw [Bool.eq_iff_iff]
  refine ⟨fun hh => ?_, C.s l q hq⟩
  have := C.s l _ (H.lt l q hq) hh
  rwa [H.inv l q hq] at this

def side (n : Nat) (T : Bool → Nat → Bool) (l : Bool) : Nat → Bool := fun x => T l (pl n x)

theorem Clo.span (H : Two n h) (C : Clo n h T) (l : Bool) (k : Nat) (hk : k < 2 * n) (hlt : k < pl n (h l (pl n k))) (hT : T l (pl n k) = false) :
    cntT (side n T l) k % 2 = cntT (side n T l) (pl n (h l (pl n k))) % 2 := by
  have hpk := pl_lt hk
  have h1 : cntT (side n T l) (k + 1) = cntT (side n T l) k := by
    show _ + (if T l (pl n k) = true then 1 else 0) = _
    rw [hT]; simp
  rw [← h1]
  have hk2 := pl_lt (H.lt l _ hpk)
  refine even_span _ (fun x => pl n (h l (pl n x))) _ _ hlt (fun x hx1 hx2 ht => ?_)
  have hx : x < 2 * n := by omega
  have hpx := pl_lt hx
  have hfx := H.lt l _ hpx
  have hffx : pl n (h l (pl n (pl n (h l (pl n x))))) = x := by rw [pl_pl hfx, H.inv l _ hpx, pl_pl hx]
  have hkk : pl n (h l (pl n (pl n (h l (pl n k))))) = k := by rw [pl_pl (H.lt l _ hpk), H.inv l _ hpk, pl_pl hk]
  have htf : side n T l (pl n (h l (pl n x))) = true := by
    show T l (pl n (pl n (h l (pl n x)))) = true
    rw [pl_pl hfx]; exact C.s l _ hpx ht
  refine ⟨?_, htf, hffx, ?_⟩
  · have hne1 : pl n (h l (pl n x)) ≠ k := by
      intro he
      rw [he] at htf
      have : T l (pl n k) = true := htf
      rw [hT] at this; cases this
    have hne2 : pl n (h l (pl n x)) ≠ pl n (h l (pl n k)) := by
      intro he
      have : x = k := by rw [← hffx, he, hkk]
      omega
    have hn1 := H.nc l (pl n (h l (pl n x))) k (pl_lt hfx) hk
    rw [hffx] at hn1
    have hn2 := H.nc l k x hk hx
    omega
  · intro he
    have : h l (pl n x) = pl n x := by rw [← pl_pl hfx, he]
    exact H.ne l _ hpx this

theorem Clo.side_eq (H : Two n h) (C : Clo n h T) (l : Bool) (q : Nat) (hq : q < 2 * n) (hT : T l q = false) :
    cntT (side n T l) (pl n q) % 2 = cntT (side n T l) (pl n (h l q)) % 2 := by
  have hfq := H.lt l q hq
  by_cases hlt : pl n q < pl n (h l q)
  · have := C.span H l (pl n q) (pl_lt hq) (by rw [pl_pl hq]; exact hlt) (by rw [pl_pl hq]; exact hT)
    rwa [pl_pl hq] at this
  · have hne : pl n q ≠ pl n (h l q) := by
      intro he
      have : q = h l q := by have h1 := congrArg (pl n) he; rwa [pl_pl hq, pl_pl hfq] at h1
      exact H.ne l q hq this.symm
    have := C.span H l (pl n (h l q)) (pl_lt hfq) (by rw [pl_pl hfq, H.inv l q hq]; omega) (by rw [pl_pl hfq, C.iff H l q hq]; exact hT)
    rw [pl_pl hfq, H.inv l q hq] at this
    exact this.symm

theorem Clo.all (H : Two n h) (C : Clo n h T) (l : Bool) : cntT (side n T l) (2 * n) % 2 = 0 := by
  have := even_span (side n T l) (fun x => pl n (h l (pl n x))) 0 (2 * n) (by omega) (fun x _ hx ht => by
    have hpx := pl_lt hx
    have hfx := H.lt l _ hpx
    refine ⟨⟨by omega, pl_lt hfx⟩, ?_, by show pl n (h l (pl n (pl n (h l (pl n x))))) = x; rw [pl_pl hfx, H.inv l _ hpx, pl_pl hx], ?_⟩
    · show T l (pl n (pl n (h l (pl n x)))) = true
      rw [pl_pl hfx]; exact C.s l _ hpx ht
    · intro he
      have : h l (pl n x) = pl n x := by rw [← pl_pl hfx, he]
      exact H.ne l _ hpx this)
  exact this.symm

theorem Clo.glue (C : Clo n h T) : ∀ j, j ≤ n → cntT (side n T false) (2 * n) = cntT (side n T false) (2 * n - j) + cntT (side n T true) j
  | 0, _ => rfl
  | j + 1, hj => by
    rw [C.glue j (by omega)]
    have e : 2 * n - j = (2 * n - (j + 1)) + 1 := by omega
    have e2 : 2 * n - (j + 1) = 2 * n - 1 - j := by omega
    rw [e]
    show cntT _ (2 * n - (j + 1)) + (if T false (pl n (2 * n - (j + 1))) = true then 1 else 0) + _ = _ + (cntT _ j + (if T true (pl n j) = true then 1 else 0))
    rw [e2, pl_down' (by omega), pl_up (by omega), C.g j (by omega)]
    omega

theorem Clo.mid (H : Two n h) (C : Clo n h T) (j : Nat) (hj : j < n) (hT : T true j = false) :
    cntT (side n T false) (pl n (n + j)) % 2 = cntT (side n T true) (pl n j) % 2 := by
  have h1 := C.all H false
  rw [C.glue (j + 1) (by omega)] at h1
  have h2 : cntT (side n T true) (j + 1) = cntT (side n T true) j := by
    show _ + (if T true (pl n j) = true then 1 else 0) = _
    rw [pl_up hj, hT]; simp
  rw [h2] at h1
  rw [pl_down hj, pl_up hj]
  have e2 : 2 * n - (j + 1) = 2 * n - 1 - j := by omega
  rw [e2] at h1
  omega

/-- The marks at the places of the product. -/
def outer (n : Nat) (T : Bool → Nat → Bool) : Nat → Bool := fun x => T (decide (n ≤ pl n x)) (pl n x)

theorem outer_up (k : Nat) (hk : k < n) : outer n T k = side n T false k := by
  unfold outer side
  rw [pl_up hk, decide_eq_false (by omega)]
theorem outer_down (k : Nat) (hk : n ≤ k) (hk2 : k < 2 * n) : outer n T k = side n T true k := by
  unfold outer side
  have : n ≤ pl n k := by unfold pl; rw [if_neg (by omega)]; omega
  rw [decide_eq_true this]
theorem outer_cnt_up : ∀ k, k ≤ n → cntT (outer n T) k = cntT (side n T false) k
  | 0, _ => rfl
  | k + 1, hk => by
    show _ + (if outer n T k = true then 1 else 0) = _ + (if side n T false k = true then 1 else 0)
    rw [outer_cnt_up k (by omega), outer_up k (by omega)]
theorem outer_cnt_down : ∀ c, c ≤ n → cntT (outer n T) (n + c) + cntT (side n T true) n = cntT (side n T false) n + cntT (side n T true) (n + c)
  | 0, _ => by show cntT (outer n T) n + _ = _ + cntT _ n; rw [outer_cnt_up n (Nat.le_refl _)]
  | c + 1, hc => by
    show cntT _ (n + c) + (if outer n T (n + c) = true then 1 else 0) + _ = _ + (cntT _ (n + c) + (if side n T true (n + c) = true then 1 else 0))
    rw [outer_down (n + c) (by omega) (by omega)]
    have := outer_cnt_down c (by omega)
    omega

theorem Clo.outer_eq (H : Two n h) (C : Clo n h T) (p : Nat) (hp : p < 2 * n) :
    cntT (outer n T) (pl n p) % 2 = cntT (side n T (decide (n ≤ p))) (pl n p) % 2 := by
  by_cases hpn : n ≤ p
  · rw [decide_eq_true hpn]
    obtain ⟨c, hc⟩ : ∃ c, pl n p = n + c := ⟨pl n p - n, by unfold pl; rw [if_neg (by omega)]; omega⟩
    have hlt := pl_lt hp
    rw [hc]
    have h1 := outer_cnt_down (T := T) (n := n) c (by omega)
    have h2 := C.all H false
    rw [C.glue n (Nat.le_refl _), show 2 * n - n = n from by omega] at h2
    omega
  · rw [decide_eq_false hpn, pl_up (by omega), outer_cnt_up p (by omega)]
theorem Clo.outer_all (H : Two n h) (C : Clo n h T) : cntT (outer n T) (2 * n) % 2 = 0 := by
  have h1 := outer_cnt_down (T := T) n (Nat.le_refl _)
  have h2 := C.all H false
  rw [C.glue n (Nat.le_refl _), show 2 * n - n = n from by omega] at h2
  have h3 := C.all H true
  rw [show n + n = 2 * n from by omega] at h1
  omega
end

section
variable {d e : Dg} {n : Nat} {T : Bool → Nat → Bool}

/-- The next start on a line. -/
def nxt (n : Nat) (l : Bool) (q : Nat) : Nat := if l then n + q % n else q % n

/-- A line from a point that is not marked ends at one that is not, on the same side of the marks. -/
theorem fol_side (H : Two n (hop d e)) (C : Clo n (hop d e) T) : ∀ (k : Nat) (l : Bool) (p : Nat) (r : Int × List Nat), p < 2 * n → T l p = false → fol d e n (-1) k l p = some r →
    ∃ q : Nat, r.1 = q ∧ q < 2 * n ∧ T (decide (n ≤ q)) q = false ∧ cntT (side n T (decide (n ≤ q))) (pl n q) % 2 = cntT (side n T l) (pl n p) % 2
  | 0, _, _, _, _, _, h => by cases h
  | k + 1, l, p, r, hp, hT, h => by
    have hq := H.lt l p hp
    have hTq : T l (hop d e l p) = false := by rw [C.iff H l p hp]; exact hT
    have hs := C.side_eq H l p hp hT
    by_cases hl : l = decide (n ≤ hop d e l p)
    · rw [fol_end hl] at h
      cases h
      refine ⟨_, rfl, hq, ?_, ?_⟩
      · rw [← hl]; exact hTq
      · rw [← hl]; exact hs.symm
    · have hu : ¬ ((hop d e l p % n : Nat) : Int) = -1 := by omega
      rw [fol_step hl hu] at h
      cases hf : fol d e n (-1) k (!l) (if l then n + hop d e l p % n else hop d e l p % n) with
      | none => rw [hf] at h; cases h
      | some r' =>
        rw [hf] at h
        cases h
        cases l with
        | true =>
          have hqn : hop d e true p < n := by simp at hl; omega
          rw [if_pos rfl, Nat.mod_eq_of_lt hqn] at hf
          have hT2 : T false (n + hop d e true p) = false := by rw [← C.g _ hqn]; exact hTq
          obtain ⟨q, h1, h2, h3, h4⟩ := fol_side H C k false _ r' (by omega) hT2 hf
          exact ⟨q, h1, h2, h3, by rw [h4, C.mid H _ hqn hTq, hs]⟩
        | false =>
          have hqn : n ≤ hop d e false p := by simp at hl; omega
          have hm : hop d e false p % n = hop d e false p - n := by rw [Nat.mod_eq_sub_mod hqn, Nat.mod_eq_of_lt (by omega)]
          rw [if_neg (by simp), hm] at hf
          have e1 : n + (hop d e false p - n) = hop d e false p := by omega
          have hT2 : T true (hop d e false p - n) = false := by rw [C.g _ (by omega), e1]; exact hTq
          obtain ⟨q, h1, h2, h3, h4⟩ := fol_side H C k true _ r' (by omega) hT2 hf
          refine ⟨q, h1, h2, h3, ?_⟩
          rw [h4, ← C.mid H _ (by omega) hT2, e1, hs]

/-- The points on a line. -/
def on (d e : Dg) (n : Nat) : Nat → Bool → Nat → Bool → Nat → Bool
  | 0, _, _, _, _ => false
  | k + 1, l, p, L, Q => (decide (L = l) && (decide (Q = p) || decide (Q = hop d e l p))) ||
    (if l = decide (n ≤ hop d e l p) then false else on d e n k (!l) (if l then n + hop d e l p % n else hop d e l p % n) L Q)

theorem on_succ (k : Nat) (l : Bool) (p : Nat) (L : Bool) (Q : Nat) : on d e n (k + 1) l p L Q = true ↔
    (L = l ∧ (Q = p ∨ Q = hop d e l p)) ∨ (¬ l = decide (n ≤ hop d e l p) ∧ on d e n k (!l) (if l then n + hop d e l p % n else hop d e l p % n) L Q = true) := by
  show (_ || (if _ then _ else _)) = true ↔ _
  by_cases hl : l = decide (n ≤ hop d e l p)
  · rw [if_pos hl, Bool.or_false, Bool.and_eq_true, Bool.or_eq_true, decide_eq_true_eq, decide_eq_true_eq, decide_eq_true_eq]
    exact ⟨.inl, fun h => h.elim id fun h => absurd hl h.1⟩
  · rw [if_neg hl, Bool.or_eq_true, Bool.and_eq_true, Bool.or_eq_true, decide_eq_true_eq, decide_eq_true_eq, decide_eq_true_eq]
    exact ⟨fun h => h.imp id fun h => ⟨hl, h⟩, fun h => h.imp id And.right⟩

/-- The state behind a step, in numbers. -/
theorem step_nat (l : Bool) (q : Nat) (hq : q < 2 * n) (hl : ¬ l = decide (n ≤ q)) :
    (l = true ∧ q < n ∧ (if l then n + q % n else q % n) = n + q ∧ q % n = q) ∨ (l = false ∧ n ≤ q ∧ (if l then n + q % n else q % n) = q - n ∧ q % n = q - n) := by
  cases l with
  | true =>
    have hqn : q < n := by simp at hl; omega
    exact .inl ⟨rfl, hqn, by simp [Nat.mod_eq_of_lt hqn], Nat.mod_eq_of_lt hqn⟩
  | false =>
    have hqn : n ≤ q := by simp at hl; omega
    have hm : q % n = q - n := by rw [Nat.mod_eq_sub_mod hqn, Nat.mod_eq_of_lt (by omega)]
    exact .inr ⟨rfl, hqn, by simp [hm], hm⟩

theorem on_line (H : Two n (hop d e)) : ∀ (k : Nat) (l : Bool) (p : Nat) (r : Int × List Nat), p < 2 * n → fol d e n (-1) k l p = some r →
    on d e n k l p l p = true ∧
    (∀ L Q, on d e n k l p L Q = true → Q < 2 * n ∧ on d e n k l p L (hop d e L Q) = true) ∧
    (∀ j, j < n → on d e n k l p true j = true → (true, j) ≠ (l, p) → on d e n k l p false (n + j) = true) ∧
    (∀ j, j < n → on d e n k l p false (n + j) = true → (false, n + j) ≠ (l, p) → on d e n k l p true j = true) ∧
    (∀ Q, on d e n k l p (decide (n ≤ Q)) Q = true → (decide (n ≤ Q), Q) = (l, p) ∨ r.1 = Q) ∧
    (∀ m, m ∈ r.2 ↔ (m < n ∧ on d e n k l p true m = true ∧ (true, m) ≠ (l, p)) ∨ (m < n ∧ on d e n k l p false (n + m) = true ∧ (false, n + m) ≠ (l, p)))
  | 0, _, _, _, _, h => by cases h
  | k + 1, l, p, r, hp, h => by
    have hq := H.lt l p hp
    have hi := H.inv l p hp
    by_cases hl : l = decide (n ≤ hop d e l p)
    · rw [fol_end hl] at h
      cases h
      simp only [on_succ]
      have hno : ∀ L Q, (¬ l = decide (n ≤ hop d e l p) ∧ on d e n k (!l) (if l then n + hop d e l p % n else hop d e l p % n) L Q = true) ↔ False := fun L Q => ⟨fun h => h.1 hl, False.elim⟩
      simp only [hno, or_false]
      refine ⟨by simp, ?_, ?_, ?_, ?_, ?_⟩
      · rintro L Q ⟨rfl, rfl | rfl⟩
        · exact ⟨hp, rfl, .inr rfl⟩
        · exact ⟨hq, rfl, .inl hi⟩
      · rintro j hj ⟨rfl, rfl | rfl⟩ hne
        · exact absurd rfl hne
        · simp at hl; omega
      · rintro j hj ⟨rfl, h1 | h1⟩ hne
        · exact absurd (by rw [h1]) hne
        · simp at hl; omega
      · rintro Q ⟨h1, h2 | h2⟩
        · exact .inl (by rw [h1, h2])
        · exact .inr (by rw [h2])
      · intro m
        simp only [List.not_mem_nil, false_iff]
        rintro (⟨hm, ⟨rfl, rfl | rfl⟩, hne⟩ | ⟨hm, ⟨rfl, h1 | h1⟩, hne⟩)
        · exact absurd rfl hne
        · simp at hl; omega
        · exact absurd (by rw [h1]) hne
        · simp at hl; omega
    · have hu : ¬ ((hop d e l p % n : Nat) : Int) = -1 := by omega
      rw [fol_step hl hu] at h
      cases hf : fol d e n (-1) k (!l) (if l then n + hop d e l p % n else hop d e l p % n) with
      | none => rw [hf] at h; cases h
      | some r' =>
        rw [hf] at h
        cases h
        have hon := @on_succ d e n k l p
        have hsn := step_nat l _ hq hl
        generalize hgp : (if l then n + hop d e l p % n else hop d e l p % n) = p' at *
        have hp' : p' < 2 * n := by rcases hsn with ⟨-, h1, h2, -⟩ | ⟨-, h1, h2, -⟩ <;> omega
        obtain ⟨i1, i2, i3, i4, i5, i6⟩ := on_line H k (!l) p' r' hp' hf
        have hon' : ∀ L Q, on d e n (k + 1) l p L Q = true ↔ (L = l ∧ (Q = p ∨ Q = hop d e l p)) ∨ on d e n k (!l) p' L Q = true := fun L Q => by
          rw [hon]; exact ⟨fun h => h.imp id And.right, fun h => h.imp id fun h => ⟨hl, h⟩⟩
        simp only [hon']
        refine ⟨by simp, ?_, ?_, ?_, ?_, ?_⟩
        · rintro L Q (⟨rfl, rfl | rfl⟩ | h1)
          · exact ⟨hp, .inl ⟨rfl, .inr rfl⟩⟩
          · exact ⟨hq, .inl ⟨rfl, .inl hi⟩⟩
          · exact ⟨(i2 L Q h1).1, .inr (i2 L Q h1).2⟩
        · rintro j hj (⟨rfl, rfl | h1⟩ | h1) hne
          · exact absurd rfl hne
          · rcases hsn with ⟨-, h2, h3, -⟩ | ⟨h2, -⟩
            · refine .inr ?_
              rw [h1, ← h3]; exact i1
            · cases h2
          · by_cases he : (true, j) = (!l, p')
            · simp only [Prod.mk.injEq] at he
              rcases hsn with ⟨h2, -⟩ | ⟨h2, h3, h4, -⟩
              · rw [h2] at he; simp at he
              · exact .inl ⟨h2.symm, .inr (by omega)⟩
            · exact .inr (i3 j hj h1 he)
        · rintro j hj (⟨rfl, h1 | h1⟩ | h1) hne
          · exact absurd (by rw [h1]) hne
          · rcases hsn with ⟨h2, -⟩ | ⟨-, h2, h3, -⟩
            · cases h2
            · refine .inr ?_
              have : j = p' := by omega
              rw [this]; exact i1
          · by_cases he : (false, n + j) = (!l, p')
            · simp only [Prod.mk.injEq] at he
              rcases hsn with ⟨h2, h3, h4, -⟩ | ⟨h2, -⟩
              · exact .inl ⟨h2.symm, .inr (by omega)⟩
              · rw [h2] at he; simp at he
            · exact .inr (i4 j hj h1 he)
        · rintro Q (⟨h1, rfl | h2⟩ | h1)
          · exact .inl (by rw [h1])
          · rw [h2] at h1; exact absurd h1.symm hl
          · rcases i5 Q h1 with h2 | h2
            · simp only [Prod.mk.injEq] at h2
              rcases hsn with ⟨h3, h4, h5, -⟩ | ⟨h3, h4, h5, -⟩
              · rw [h3] at h2; simp at h2; omega
              · rw [h3] at h2; simp at h2; omega
            · exact .inr h2
        · intro m
          simp only [List.mem_cons, i6]
          rcases hsn with ⟨rfl, h3, h4, h5⟩ | ⟨rfl, h3, h4, h5⟩
          · rw [h5]
            constructor
            · rintro (rfl | ⟨hm, h1, h2⟩ | ⟨hm, h1, h2⟩)
              · refine .inr ⟨h3, .inr (by rw [← h4]; exact i1), by simp⟩
              · by_cases he : (true, m) = (true, p)
                · simp only [Prod.mk.injEq, true_and] at he
                  subst he
                  refine .inr ⟨hm, .inr (i3 m hm h1 (by simp)), by simp⟩
                · exact .inl ⟨hm, .inr h1, he⟩
              · exact .inr ⟨hm, .inr h1, by simp⟩
            · rintro (⟨hm, ⟨-, h1 | h1⟩ | h1, h2⟩ | ⟨hm, ⟨h1, -⟩ | h1, h2⟩)
              · rw [h1] at h2; exact absurd rfl h2
              · exact .inl h1
              · exact .inr (.inl ⟨hm, h1, by simp⟩)
              · cases h1
              · by_cases he : m = hop d e true p
                · exact .inl he
                · exact .inr (.inr ⟨hm, h1, by simp; omega⟩)
          · rw [h5]
            constructor
            · rintro (rfl | ⟨hm, h1, h2⟩ | ⟨hm, h1, h2⟩)
              · refine .inl ⟨by omega, .inr (by rw [← h4]; exact i1), by simp⟩
              · exact .inl ⟨hm, .inr h1, by simp⟩
              · by_cases he : (false, n + m) = (false, p)
                · simp only [Prod.mk.injEq, true_and] at he
                  refine .inl ⟨hm, .inr (i4 m hm h1 (by simp)), by simp⟩
                · exact .inr ⟨hm, .inr h1, he⟩
            · rintro (⟨hm, ⟨h1, -⟩ | h1, h2⟩ | ⟨hm, ⟨-, h1 | h1⟩ | h1, h2⟩)
              · cases h1
              · by_cases he : m = hop d e false p - n
                · exact .inl he
                · exact .inr (.inl ⟨hm, h1, by simp; omega⟩)
              · rw [h1] at h2; exact absurd rfl h2
              · exact .inl (by omega)
              · exact .inr (.inr ⟨hm, h1, by simp⟩)
end
end Go.Proofs.Yticmlgnolbccjaa
