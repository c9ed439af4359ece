/- Plain: each line of two diagrams ends, and their product is a diagram. -/
import Derived.Test.YticmlgnolbccjaaL1
set_option linter.unusedVariables false
set_option linter.unusedSimpArgs false
namespace Go.Proofs.Yticmlgnolbccjaa
open Go.RowKit

/-- A diagram in memory that is one. -/
structure Good (d : Dg) : Prop where
  wf : d.Wf
  ok : d.Ok

theorem Good.pts {d : Dg} (h : Good d) : d.Pts := pts_of_okAt h.ok.1.1 h.ok.1.2 h.wf h.ok.2.1

theorem Good.at {d : Dg} (h : Good d) {n : Nat} (hs : d.size = n) (i : Nat) (hi : i < 2 * n) :
    0 ≤ d.m i ∧ d.m i < 2 * n ∧ d.m i ≠ i ∧ d.m (d.m i).toNat = i := by
  have h8 := h.ok.1.2
  have := h.ok.2.1 i (by omega)
  unfold Dg.OkAt at this
  rw [if_neg (by omega), hs] at this
  exact ⟨(h.wf.byte i).1, this.1, this.2⟩

theorem place_nat {n k : Nat} (h : k < 2 * n) : place (n : Int) (k : Int) = (pl n k : Nat) := by
  unfold place pl
  by_cases h1 : k < n
  · rw [if_pos (by omega), if_pos h1]
  · rw [if_neg (by omega), if_neg h1]; omega

theorem two_of_good {d e : Dg} {n : Nat} (hd : Good d) (he : Good e) (hds : d.size = n) (hes : e.size = n) : Two n (hop d e) := by
  have key : ∀ (c : Dg), Good c → c.size = n → (∀ q, q < 2 * n → (c.m q).toNat < 2 * n) ∧ (∀ q, q < 2 * n → (c.m (c.m q).toNat).toNat = q) ∧ (∀ q, q < 2 * n → (c.m q).toNat ≠ q) ∧
      ∀ k k', k < 2 * n → k' < 2 * n → ¬ (k < k' ∧ k' < pl n (c.m (pl n k)).toNat ∧ pl n (c.m (pl n k)).toNat < pl n (c.m (pl n k')).toNat) := by
    intro c hc hcs
    refine ⟨fun q hq => ?_, fun q hq => ?_, fun q hq => ?_, fun k k' hk hk' hx => ?_⟩
    · have := hc.at hcs q hq; omega
    · have := hc.at hcs q hq; omega
    · have := hc.at hcs q hq; omega
    · have hpk := pl_lt hk
      have hpk' := pl_lt hk'
      refine hc.ok.2.2 (pl n k) (by rw [hcs]; omega) (pl n k') (by rw [hcs]; omega) ?_
      have h1 := hc.at hcs _ hpk
      have h2 := hc.at hcs _ hpk'
      have e1 : c.m (pl n k) = ((c.m (pl n k)).toNat : Nat) := by omega
      have e2 : c.m (pl n k') = ((c.m (pl n k')).toNat : Nat) := by omega
      unfold Dg.Cross Dg.low Dg.high
      rw [hcs, Int.toNat_natCast, Int.toNat_natCast, e1, e2, place_nat hpk, place_nat hpk', place_nat (by omega), place_nat (by omega), pl_pl hk, pl_pl hk']
      omega
  have k1 := key d hd hds
  have k2 := key e he hes
  refine ⟨fun l q hq => ?_, fun l q hq => ?_, fun l q hq => ?_, fun l k k' hk hk' => ?_⟩
  · cases l
    · exact k1.1 q hq
    · exact k2.1 q hq
  · cases l
    · exact k1.2.1 q hq
    · exact k2.2.1 q hq
  · cases l
    · exact k1.2.2.1 q hq
    · exact k2.2.2.1 q hq
  · cases l
    · exact k1.2.2.2 k k' hk hk'
    · exact k2.2.2.2 k k' hk hk'

theorem pigeon : ∀ (N : Nat) (f : Nat → Nat), (∀ k, k ≤ N → f k < N) → ∃ i j, i < j ∧ j ≤ N ∧ f i = f j
  | 0, f, h => absurd (h 0 (Nat.le_refl _)) (by omega)
  | N + 1, f, h => by
    by_cases hx : ∃ k, k ≤ N ∧ f k = f (N + 1)
    · obtain ⟨k, hk, he⟩ := hx
      exact ⟨k, N + 1, by omega, Nat.le_refl _, he⟩
    · have hx' : ∀ k, k ≤ N → f k ≠ f (N + 1) := fun k hk he => hx ⟨k, hk, he⟩
      obtain ⟨i, j, hij, hj, he⟩ := pigeon N (fun k => if f k = N then f (N + 1) else f k) (fun k hk => by
        have h1 := h k (by omega)
        have h2 := h (N + 1) (Nat.le_refl _)
        have h3 := hx' k hk
        show (if f k = N then _ else _) < N
        split <;> omega)
      refine ⟨i, j, hij, by omega, ?_⟩
      have h1 := hx' i (by omega)
      have h2 := hx' j hj
      have he' : (if f i = N then f (N + 1) else f i) = (if f j = N then f (N + 1) else f j) := he
      split at he' <;> split at he' <;> omega

section
variable {d e : Dg} {n : Nat}

/-- The states along a line. -/
def itr (d e : Dg) (n : Nat) : Nat → Bool → Nat → Bool × Nat
  | 0, l, p => (l, p)
  | k + 1, l, p => itr d e n k (!l) (if l then n + hop d e l p % n else hop d e l p % n)

theorem itr_succ' : ∀ (k : Nat) (l : Bool) (p : Nat), itr d e n (k + 1) l p = (!(itr d e n k l p).1, if (itr d e n k l p).1 then n + hop d e (itr d e n k l p).1 (itr d e n k l p).2 % n else hop d e (itr d e n k l p).1 (itr d e n k l p).2 % n)
  | 0, l, p => rfl
  | k + 1, l, p => by
    show itr d e n (k + 1) _ _ = _
    rw [itr_succ' k]; rfl

/-- The line has not ended behind this state, and has not come to the middle point u. -/
def Goes (d e : Dg) (n : Nat) (u : Int) (s : Bool × Nat) : Prop := ¬ s.1 = decide (n ≤ hop d e s.1 s.2) ∧ ¬ ((hop d e s.1 s.2 % n : Nat) : Int) = u

theorem fol_none (u : Int) : ∀ (k : Nat) (l : Bool) (p : Nat), fol d e n u k l p = none → ∀ i, i < k → Goes d e n u (itr d e n i l p)
  | 0, _, _, _, i, hi => absurd hi (by omega)
  | k + 1, l, p, h, i, hi => by
    by_cases hl : l = decide (n ≤ hop d e l p)
    · rw [fol_end hl] at h; cases h
    · by_cases hu : ((hop d e l p % n : Nat) : Int) = u
      · rw [fol_until hl hu] at h; cases h
      · rw [fol_step hl hu] at h
        cases i with
        | zero => exact ⟨hl, hu⟩
        | succ i =>
          refine fol_none u k _ _ ?_ i (by omega)
          revert h
          cases fol d e n u k (!l) (if l then n + hop d e l p % n else hop d e l p % n) with
          | none => exact fun _ => rfl
          | some r => intro h; cases h

/-- A middle state, told by its point. -/
def Mid (n : Nat) (s : Bool × Nat) : Prop := s.1 = decide (s.2 < n) ∧ s.2 < 2 * n

theorem step_mid (H : Two n (hop d e)) (u : Int) (l : Bool) (p : Nat) (hp : p < 2 * n) (h : Goes d e n u (l, p)) : Mid n (!l, if l then n + hop d e l p % n else hop d e l p % n) := by
  have hq := H.lt l p hp
  rcases step_nat l _ hq h.1 with ⟨h1, h2, h3, -⟩ | ⟨h1, h2, h3, -⟩
  · rw [h3]; subst h1; exact ⟨by simp, by show n + _ < _; omega⟩
  · rw [h3]; subst h1; exact ⟨by simp; omega, by show _ - n < _; omega⟩

/-- The step before is told by the state behind it. -/
theorem step_inj (H : Two n (hop d e)) (u u' : Int) (l l' : Bool) (p p' : Nat) (hp : p < 2 * n) (hp' : p' < 2 * n) (h : Goes d e n u (l, p)) (h' : Goes d e n u' (l', p'))
    (he : (!l, if l then n + hop d e l p % n else hop d e l p % n) = (!l', if l' then n + hop d e l' p' % n else hop d e l' p' % n)) : (l, p) = (l', p') := by
  have hq := H.lt l p hp
  have hq' := H.lt l' p' hp'
  simp only [Prod.mk.injEq] at he
  obtain ⟨e1, e2⟩ := he
  have hll : l = l' := by cases l <;> cases l' <;> simp_all
  subst hll
  have hqq : hop d e l p = hop d e l p' := by
    rcases step_nat l _ hq h.1 with ⟨h1, h2, h3, -⟩ | ⟨h1, h2, h3, -⟩
    · rcases step_nat l _ hq' h'.1 with ⟨k1, k2, k3, -⟩ | ⟨k1, k2, k3, -⟩
      · omega
      · rw [h1] at k1; cases k1
    · rcases step_nat l _ hq' h'.1 with ⟨k1, k2, k3, -⟩ | ⟨k1, k2, k3, -⟩
      · rw [h1] at k1; cases k1
      · omega
  rw [← H.inv l p hp, hqq, H.inv l p' hp']

/-- Along a line that goes on: the states are points. -/
theorem itr_lt (H : Two n (hop d e)) (u : Int) (l : Bool) (p : Nat) (hp : p < 2 * n) : ∀ k, (∀ i, i < k → Goes d e n u (itr d e n i l p)) → (itr d e n k l p).2 < 2 * n ∧ (0 < k → Mid n (itr d e n k l p))
  | 0, _ => ⟨hp, fun h => absurd h (by omega)⟩
  | k + 1, h => by
    have h1 := itr_lt H u l p hp k (fun i hi => h i (by omega))
    have h2 := step_mid H u _ _ h1.1 (h k (by omega))
    rw [itr_succ']
    exact ⟨h2.2, fun _ => h2⟩

theorem itr_back (H : Two n (hop d e)) (u : Int) (l : Bool) (p : Nat) (hp : p < 2 * n) (K : Nat) (h : ∀ i, i < K → Goes d e n u (itr d e n i l p)) :
    ∀ i j, i < j → j ≤ K → itr d e n i l p = itr d e n j l p → itr d e n 0 l p = itr d e n (j - i) l p
  | 0, j, _, _, he => he
  | i + 1, j, hij, hj, he => by
    obtain ⟨j, rfl⟩ : ∃ j', j = j' + 1 := ⟨j - 1, by omega⟩
    rw [itr_succ', itr_succ'] at he
    have hb := step_inj H u u _ _ _ _ (itr_lt H u l p hp i (fun x hx => h x (by omega))).1 (itr_lt H u l p hp j (fun x hx => h x (by omega))).1 (h i (by omega)) (h j (by omega)) he
    have := itr_back H u l p hp K h i j (by omega) (by omega) hb
    rwa [show j + 1 - (i + 1) = j - i from by omega]

theorem mid_eq {s t : Bool × Nat} (hs : Mid n s) (ht : Mid n t) (h : s.2 = t.2) : s = t := by
  cases s; cases t
  simp only at h
  subst h
  have := hs.1.trans ht.1.symm
  simp only at this
  subst this; rfl

/-- A line that goes on for long comes back to its start. -/
theorem itr_returns (H : Two n (hop d e)) (u : Int) (l : Bool) (p : Nat) (hp : p < 2 * n) (K : Nat) (hK : 2 * n + 1 ≤ K) (h : ∀ i, i < K → Goes d e n u (itr d e n i l p)) :
    ∃ t, 0 < t ∧ t ≤ 2 * n ∧ itr d e n t l p = (l, p) := by
  obtain ⟨i, j, hij, hj, he⟩ := pigeon (2 * n) (fun k => (itr d e n (k + 1) l p).2) (fun k hk => (itr_lt H u l p hp (k + 1) (fun x hx => h x (by omega))).1)
  have hm := mid_eq ((itr_lt H u l p hp (i + 1) (fun x hx => h x (by omega))).2 (by omega)) ((itr_lt H u l p hp (j + 1) (fun x hx => h x (by omega))).2 (by omega)) he
  have := itr_back H u l p hp K h (i + 1) (j + 1) (by omega) (by omega) hm
  exact ⟨j - i, by omega, by omega, by rw [show j - i = j + 1 - (i + 1) from by omega, ← this]; rfl⟩

/-- A line from an outer point ends. -/
theorem fol_outer (H : Two n (hop d e)) (hn8 : n ≤ 8) (l : Bool) (p : Nat) (hp : p < 2 * n) (hl : l = decide (n ≤ p)) : ∃ r, fol d e n (-1) fuel l p = some r := by
  cases hf : fol d e n (-1) fuel l p with
  | some r => exact ⟨r, rfl⟩
  | none =>
    have hg := fol_none (-1) fuel l p hf
    obtain ⟨t, ht0, ht1, ht⟩ := itr_returns H (-1) l p hp fuel (by unfold fuel; omega) hg
    have hm := (itr_lt H (-1) l p hp t (fun i hi => hg i (by unfold fuel; omega))).2 ht0
    rw [ht] at hm
    have := hm.1
    simp only at this
    rw [hl] at this
    by_cases h : n ≤ p
    · rw [decide_eq_true h, decide_eq_false (by omega)] at this; cases this
    · rw [decide_eq_false h, decide_eq_true (by omega)] at this; cases this

/-- A line from a middle point ends, or comes back. -/
theorem fol_mid (H : Two n (hop d e)) (hn8 : n ≤ 8) (m : Nat) (hm : m < n) : ∃ r, fol d e n m fuel true m = some r := by
  cases hf : fol d e n m fuel true m with
  | some r => exact ⟨r, rfl⟩
  | none =>
    have hg := fol_none m fuel true m hf
    obtain ⟨t, ht0, ht1, ht⟩ := itr_returns H m true m (by omega) fuel (by unfold fuel; omega) hg
    obtain ⟨t, rfl⟩ : ∃ t', t = t' + 1 := ⟨t - 1, by omega⟩
    have h1 := hg t (by unfold fuel; omega)
    have h2 := (itr_lt H m true m (by omega) t (fun i hi => hg i (by unfold fuel; omega))).1
    rw [itr_succ'] at ht
    generalize itr d e n t true m = s at *
    obtain ⟨l, p⟩ := s
    simp only [Prod.mk.injEq] at ht
    obtain ⟨e1, e2⟩ := ht
    have hl : l = false := by cases l <;> simp_all
    subst hl
    exact absurd (by rw [if_neg (by simp)] at e2; show ((hop d e false p % n : Nat) : Int) = (m : Int); omega) h1.2

theorem clo_none : Clo n (hop d e) (fun _ _ => false) := ⟨fun _ _ _ h => (by cases h), fun _ _ => rfl⟩

theorem runs (H : Two n (hop d e)) (hn8 : n ≤ 8) : Runs d e n := by
  refine ⟨fun i hi => ?_, fun i hi => ?_, fun m hm _ => fol_mid H hn8 m hm⟩
  · obtain ⟨r, hr⟩ := fol_outer H hn8 false i (by omega) (by rw [decide_eq_false (by omega)])
    obtain ⟨q, h1, h2, -⟩ := fol_side H clo_none fuel false i r (by omega) rfl hr
    exact ⟨r, hr, by omega, by omega⟩
  · obtain ⟨r, hr⟩ := fol_outer H hn8 true (n + i) (by omega) (by rw [decide_eq_true (by omega)])
    obtain ⟨q, h1, h2, -⟩ := fol_side H clo_none fuel true (n + i) r (by omega) rfl hr
    exact ⟨r, hr, by omega, by omega⟩

/-- The other end of the line of an outer point. -/
def far (d e : Dg) (n p : Nat) : Nat := (res d e n (decide (n ≤ p)) p).toNat
/-- The points on the line of an outer point. -/
def line (d e : Dg) (n p : Nat) : Bool → Nat → Bool := on d e n fuel (decide (n ≤ p)) p

theorem far_spec (H : Two n (hop d e)) (hn8 : n ≤ 8) (p : Nat) (hp : p < 2 * n) : ∃ r, fol d e n (-1) fuel (decide (n ≤ p)) p = some r ∧ r.1 = (far d e n p : Nat) ∧ far d e n p < 2 * n ∧ res d e n (decide (n ≤ p)) p = (far d e n p : Nat) := by
  obtain ⟨r, hr⟩ := fol_outer H hn8 (decide (n ≤ p)) p hp rfl
  obtain ⟨q, h1, h2, -⟩ := fol_side H clo_none fuel _ p r hp rfl hr
  have hres : res d e n (decide (n ≤ p)) p = r.1 := by unfold res; rw [hr]; rfl
  have hf : far d e n p = q := by unfold far; rw [hres, h1]; simp
  exact ⟨r, hr, by rw [hf, h1], by rw [hf]; exact h2, by rw [hres, h1, hf]⟩

/-- The line is closed, and its outer points are its two ends. -/
theorem line_spec (H : Two n (hop d e)) (hn8 : n ≤ 8) (p : Nat) (hp : p < 2 * n) : Clo n (hop d e) (line d e n p) ∧ line d e n p (decide (n ≤ p)) p = true ∧
    ∀ q, q < 2 * n → line d e n p (decide (n ≤ q)) q = true → q = p ∨ q = far d e n p := by
  obtain ⟨r, hr, h1, h2, -⟩ := far_spec H hn8 p hp
  obtain ⟨i1, i2, i3, i4, i5, -⟩ := on_line H fuel _ p r hp hr
  refine ⟨⟨fun l q hq h => (i2 l q h).2, fun j hj => ?_⟩, i1, fun q hq h => ?_⟩
  · rw [Bool.eq_iff_iff]
    refine ⟨fun h => i3 j hj h ?_, fun h => i4 j hj h ?_⟩
    · intro he
      simp only [Prod.mk.injEq] at he
      have := he.1
      rw [← he.2, decide_eq_false (by omega)] at this; cases this
    · intro he
      simp only [Prod.mk.injEq] at he
      have := he.1
      rw [← he.2, decide_eq_true (by omega)] at this; cases this
  · rcases i5 q h with h3 | h3
    · simp only [Prod.mk.injEq] at h3; exact .inl h3.2
    · exact .inr (by rw [h1] at h3; omega)

theorem cntT_single (t : Nat → Bool) (a : Nat) : ∀ k, (∀ x, x < k → t x = decide (x = a)) → cntT t k = if a < k then 1 else 0
  | 0, _ => rfl
  | k + 1, h => by
    show _ + _ = _
    rw [cntT_single t a k (fun x hx => h x (by omega)), h k (by omega)]
    simp only [decide_eq_true_eq]
    split <;> split <;> split <;> omega
theorem cntT_pair (t : Nat → Bool) (a b : Nat) (hab : a ≠ b) : ∀ k, (∀ x, x < k → t x = decide (x = a ∨ x = b)) → cntT t k = (if a < k then 1 else 0) + (if b < k then 1 else 0)
  | 0, _ => rfl
  | k + 1, h => by
    show _ + _ = _
    rw [cntT_pair t a b hab k (fun x hx => h x (by omega)), h k (by omega)]
    simp only [decide_eq_true_eq]
    split <;> split <;> split <;> split <;> split <;> omega

theorem pl_inj {a b : Nat} (ha : a < 2 * n) (hb : b < 2 * n) (h : pl n a = pl n b) : a = b := by rw [← pl_pl ha, h, pl_pl hb]

/-- The end is another point. -/
theorem far_ne (H : Two n (hop d e)) (hn8 : n ≤ 8) (p : Nat) (hp : p < 2 * n) : far d e n p ≠ p := by
  intro he
  obtain ⟨C, h1, h2⟩ := line_spec H hn8 p hp
  have ho := C.outer_all H
  rw [cntT_single _ (pl n p) (2 * n) (fun x hx => ?_), if_pos (pl_lt hp)] at ho
  · omega
  · by_cases hx1 : x = pl n p
    · rw [decide_eq_true hx1, hx1]
      show line d e n p (decide (n ≤ pl n (pl n p))) (pl n (pl n p)) = true
      rw [pl_pl hp]; exact h1
    · rw [decide_eq_false hx1]
      by_cases hx2 : outer n (line d e n p) x = true
      · exfalso
        have := h2 (pl n x) (pl_lt hx) hx2
        rw [he] at this
        exact hx1 (by rw [← pl_pl hx]; congr 1; omega)
      · simpa using hx2

/-- The line of the end ends at the start. -/
theorem fol_in (H : Two n (hop d e)) {T : Bool → Nat → Bool} (C : Clo n (hop d e) T) : ∀ (k : Nat) (l : Bool) (p : Nat) (r : Int × List Nat), p < 2 * n → fol d e n (-1) k l p = some r →
    ∃ q : Nat, r.1 = q ∧ q < 2 * n ∧ T (decide (n ≤ q)) q = T l p
  | 0, _, _, _, _, h => by cases h
  | k + 1, l, p, r, hp, h => by
    have hq := H.lt l p hp
    have hTq : T l (hop d e l p) = T l p := C.iff H l p hp
    by_cases hl : l = decide (n ≤ hop d e l p)
    · rw [fol_end hl] at h
      cases h
      exact ⟨_, rfl, hq, by rw [← hl]; exact hTq⟩
    · have hu : ¬ ((hop d e l p % n : Nat) : Int) = -1 := by omega
      rw [fol_step hl hu] at h
      cases hf : fol d e n (-1) k (!l) (if l then n + hop d e l p % n else hop d e l p % n) with
      | none => rw [hf] at h; cases h
      | some r' =>
        rw [hf] at h
        cases h
        rcases step_nat l _ hq hl with ⟨h1, h2, h3, -⟩ | ⟨h1, h2, h3, -⟩
        · rw [h3] at hf
          obtain ⟨q, g1, g2, g3⟩ := fol_in H C k _ _ r' (by omega) hf
          refine ⟨q, g1, g2, ?_⟩
          rw [g3, ← hTq, h1]; exact (C.g _ (by rw [← h1]; exact h2)).symm
        · rw [h3] at hf
          obtain ⟨q, g1, g2, g3⟩ := fol_in H C k _ _ r' (by omega) hf
          refine ⟨q, g1, g2, ?_⟩
          rw [g3, ← hTq, h1]
          have := C.g (hop d e l p - n) (by omega)
          rw [show n + (hop d e l p - n) = hop d e l p from by omega, h1] at this
          exact this

theorem far_far (H : Two n (hop d e)) (hn8 : n ≤ 8) (p : Nat) (hp : p < 2 * n) : far d e n (far d e n p) = p := by
  obtain ⟨C, h1, h2⟩ := line_spec H hn8 p hp
  obtain ⟨r, hr, hr1, hlt, -⟩ := far_spec H hn8 p hp
  obtain ⟨q, g1, g2, g3⟩ := fol_in H C fuel _ p r hp hr
  have hq : q = far d e n p := by omega
  subst hq
  rw [h1] at g3
  obtain ⟨r', hr', hr1', hlt', -⟩ := far_spec H hn8 _ hlt
  obtain ⟨q', k1, k2, k3⟩ := fol_in H C fuel _ _ r' hlt hr'
  have hq' : q' = far d e n (far d e n p) := by omega
  subst hq'
  rw [g3] at k3
  rcases h2 _ hlt' k3 with h | h
  · exact h
  · exact absurd h (far_ne H hn8 _ hlt)

/-- Lines do not cross. -/
theorem far_nc (H : Two n (hop d e)) (hn8 : n ≤ 8) (a c : Nat) (ha : a < 2 * n) (hc : c < 2 * n) :
    ¬ (pl n a < pl n c ∧ pl n c < pl n (far d e n a) ∧ pl n (far d e n a) < pl n (far d e n c)) := by
  rintro ⟨x1, x2, x3⟩
  obtain ⟨C, h1, h2⟩ := line_spec H hn8 a ha
  obtain ⟨r, hr, hr1, hlt, -⟩ := far_spec H hn8 a ha
  obtain ⟨r', hr', hr1', hlt', -⟩ := far_spec H hn8 c hc
  have hb : line d e n a (decide (n ≤ far d e n a)) (far d e n a) = true := by
    obtain ⟨q, g1, g2, g3⟩ := fol_in H C fuel _ a r ha hr
    have hq : q = far d e n a := by omega
    rw [← hq, g3]; exact h1
  have hcT : line d e n a (decide (n ≤ c)) c = false := by
    cases hx : line d e n a (decide (n ≤ c)) c with
    | false => rfl
    | true => rcases h2 c hc hx with h | h <;> (subst h; omega)
  obtain ⟨q, g1, g2, g3, g4⟩ := fol_side H C fuel _ c r' hc hcT hr'
  have hq : q = far d e n c := by omega
  subst hq
  rw [← C.outer_eq H c hc, ← C.outer_eq H _ g2] at g4
  have hpair : ∀ x, x < 2 * n → outer n (line d e n a) x = decide (x = pl n a ∨ x = pl n (far d e n a)) := by
    intro x hx
    by_cases hx1 : x = pl n a ∨ x = pl n (far d e n a)
    · rw [decide_eq_true hx1]
      rcases hx1 with rfl | rfl
      · show line d e n a (decide (n ≤ pl n (pl n a))) (pl n (pl n a)) = true
        rw [pl_pl ha]; exact h1
      · show line d e n a (decide (n ≤ pl n (pl n _))) (pl n (pl n _)) = true
        rw [pl_pl hlt]; exact hb
    · rw [decide_eq_false hx1]
      cases hx2 : outer n (line d e n a) x with
      | false => rfl
      | true =>
        exfalso
        rcases h2 (pl n x) (pl_lt hx) hx2 with h | h
        · exact hx1 (.inl (by rw [← h, pl_pl hx]))
        · exact hx1 (.inr (by rw [← h, pl_pl hx]))
  have hpc := pl_lt hc
  have hpf := pl_lt hlt'
  rw [cntT_pair _ (pl n a) (pl n (far d e n a)) (by omega) _ (fun x hx => hpair x (by omega)), cntT_pair _ (pl n a) (pl n (far d e n a)) (by omega) _ (fun x hx => hpair x (by omega))] at g4
  rw [if_pos (by omega), if_pos (by omega), if_pos (by omega), if_neg (by omega)] at g4
  omega

/-- The mates of the product. -/
theorem outTo_m (hn8 : n ≤ 8) : ∀ j, j ≤ n → ∀ i, (outTo d e n j).m i = if i < j then res d e n false i else if n ≤ i ∧ i < n + j then res d e n true i else 0
  | 0, _, i => by
    show (Dg.zero n).m i = _
    rw [Dg.m_zero, if_neg (by omega), if_neg (by omega)]
  | j + 1, hj, i => by
    rw [outTo_succ, Dg.m_put _ _ _ _ (by rw [Dg.len_put, len_outTo]) (by omega), Dg.m_put _ _ _ _ (by rw [len_outTo]) (by omega), outTo_m hn8 j (by omega)]
    by_cases h1 : i = n + j
    · rw [if_pos h1, if_neg (by omega), if_pos (by omega), h1]
    · rw [if_neg h1]
      by_cases h2 : i = j
      · rw [if_pos h2, if_pos (by omega), h2]
      · rw [if_neg h2]
        by_cases h3 : i < j
        · rw [if_pos h3, if_pos (by omega)]
        · rw [if_neg h3, if_neg (show ¬ i < j + 1 by omega)]
          by_cases h4 : n ≤ i ∧ i < n + j
          · rw [if_pos h4, if_pos (by omega)]
          · rw [if_neg h4, if_neg (by omega)]

theorem prodD_m (H : Two n (hop d e)) (hn8 : n ≤ 8) (i : Nat) (hi : i < 2 * n) : (prodD d e n).m i = (far d e n i : Nat) := by
  obtain ⟨r, hr, h1, h2, h3⟩ := far_spec H hn8 i hi
  unfold prodD
  rw [outTo_m hn8 n (Nat.le_refl _), ← h3]
  by_cases h : i < n
  · rw [if_pos h, decide_eq_false (by omega)]
  · rw [if_neg h, if_pos (by omega), decide_eq_true (by omega)]
theorem prodD_m_out (hn8 : n ≤ 8) (i : Nat) (hi : 2 * n ≤ i) : (prodD d e n).m i = 0 := by
  unfold prodD
  rw [outTo_m hn8 n (Nat.le_refl _), if_neg (by omega), if_neg (by omega)]
theorem outTo_size (j : Nat) : (outTo d e n j).size = n := by
  induction j with
  | zero => rfl
  | succ j ih => rw [outTo_succ]; exact ih
theorem prodD_size : (prodD d e n).size = n := outTo_size n

theorem prodD_good (H : Two n (hop d e)) (hn1 : 1 ≤ n) (hn8 : n ≤ 8) : Good (prodD d e n) := by
  refine ⟨⟨len_outTo d e n n, fun i => ?_, by rw [prodD_size]; omega, by rw [prodD_size]; omega⟩, ⟨by rw [prodD_size]; omega, fun i hi => ?_, fun i hi k hk => ?_⟩⟩
  · by_cases hi : i < 2 * n
    · obtain ⟨-, -, -, h2, -⟩ := far_spec H hn8 i hi
      rw [prodD_m H hn8 i hi]; omega
    · rw [prodD_m_out hn8 i (by omega)]; omega
  · unfold Dg.OkAt
    rw [prodD_size]
    by_cases hi2 : 2 * (n : Int) ≤ i
    · rw [if_pos hi2, prodD_m_out hn8 i (by omega)]
    · rw [if_neg hi2]
      obtain ⟨-, -, -, h2, -⟩ := far_spec H hn8 i (by omega)
      have h3 := far_ne H hn8 i (by omega)
      have h4 := far_far H hn8 i (by omega)
      rw [prodD_m H hn8 i (by omega), Int.toNat_natCast, prodD_m H hn8 _ h2, h4]
      omega
  · rw [prodD_size] at hi hk
    have hi' : i < 2 * n := by omega
    have hk' : k < 2 * n := by omega
    obtain ⟨-, -, -, h2, -⟩ := far_spec H hn8 i hi'
    obtain ⟨-, -, -, k2, -⟩ := far_spec H hn8 k hk'
    have c1 := far_nc H hn8 i k hi' hk'
    have c2 := far_nc H hn8 i (far d e n k) hi' k2
    have c3 := far_nc H hn8 (far d e n i) k h2 hk'
    have c4 := far_nc H hn8 (far d e n i) (far d e n k) h2 k2
    rw [far_far H hn8 k hk'] at c2 c4
    rw [far_far H hn8 i hi'] at c3 c4
    unfold Dg.Cross Dg.low Dg.high
    rw [prodD_size, Int.toNat_natCast, Int.toNat_natCast, prodD_m H hn8 i hi', prodD_m H hn8 k hk', place_nat hi', place_nat hk', place_nat h2, place_nat k2]
    omega
end
end Go.Proofs.Yticmlgnolbccjaa
