/- Plain: the program and the reference count the same loops. -/
import Derived.Test.YticmlgnolbccjaaQ3
import Derived.Sort.Walk0
import Derived.Sort.Statements
import Derived.Test.YticmlgnolbccjaaQ1
import Derived.Deep.MidRow
import Derived.Great.BuildSlice
import Derived.Test.YticmlgnolbccjaaQ2
import Derived.Deep.RegionHeld

set_option linter.unusedVariables false
set_option linter.unusedSimpArgs false
namespace Go.Proofs.Yticmlgnolbccjaa
open Go.RowKit

/-- Pairs without fixed points, on some points. -/
structure Fl (U : Nat → Prop) (f : Nat → Nat) : Prop where
  cl : ∀ x, U x → U (f x)
  inv : ∀ x, U x → f (f x) = x
  ne : ∀ x, U x → f x ≠ x

/-- One after the other. -/
def alt (f g : Nat → Nat) : Nat → Nat → Nat
  | 0, x => x
  | t + 1, x => alt g f t (f x)

section
variable {U : Nat → Prop} {f g : Nat → Nat}

theorem alt_u (F : Fl U f) (G : Fl U g) : ∀ (t x : Nat), U x → U (alt f g t x) := by
  intro t
  induction t generalizing f g with
  | zero => exact fun x h => h
  | succ t ih => exact fun x h => ih G F _ (F.cl x h)
theorem alt_succ : ∀ (t : Nat) (f g : Nat → Nat) (x : Nat), alt f g (t + 1) x = if t % 2 = 0 then f (alt f g t x) else g (alt f g t x)
  | 0, f, g, x => rfl
  | t + 1, f, g, x => by
    show alt g f (t + 1) (f x) = _
    rw [alt_succ t]
    show _ = if (t + 1) % 2 = 0 then f (alt g f t (f x)) else g (alt g f t (f x))
    by_cases h : t % 2 = 0
    · rw [if_pos h, if_neg (by omega)]
    · rw [if_neg h, if_pos (by omega)]
theorem alt_odd : ∀ (c : Nat) (f g : Nat → Nat), Fl U f → Fl U g → ∀ x, U x → alt f g (2 * c + 1) x ≠ x
  | 0, f, g, F, G, x, h => F.ne x h
  | c + 1, f, g, F, G, x, h => by
    intro he
    rw [show 2 * (c + 1) + 1 = (2 * c + 2) + 1 from rfl, alt_succ, if_pos (by omega)] at he
    have h1 := alt_u F G (2 * c + 2) x h
    have h2 : alt f g (2 * c + 2) x = f x := by rw [← F.inv _ h1, he]
    exact alt_odd c g f G F (f x) (F.cl x h) h2
theorem alt_add : ∀ (a b : Nat) (f g : Nat → Nat) (x : Nat), alt f g (a + b) x = if a % 2 = 0 then alt f g b (alt f g a x) else alt g f b (alt f g a x)
  | 0, b, f, g, x => by rw [Nat.zero_add]; rfl
  | a + 1, b, f, g, x => by
    rw [show a + 1 + b = (a + b) + 1 from by omega]
    show alt g f (a + b) (f x) = if (a + 1) % 2 = 0 then alt f g b (alt g f a (f x)) else alt g f b (alt g f a (f x))
    rw [alt_add a b]
    by_cases h : a % 2 = 0
    · rw [if_pos h, if_neg (by omega)]
    · rw [if_neg h, if_pos (by omega)]

/-- Two steps tell where they began. -/
theorem alt_inj (F : Fl U f) (G : Fl U g) : ∀ (c x y : Nat), U x → U y → alt f g (2 * c) x = alt f g (2 * c) y → x = y
  | 0, x, y, _, _, h => h
  | c + 1, x, y, hx, hy, h => by
    have h1 : g (f x) = g (f y) := alt_inj F G c _ _ (G.cl _ (F.cl x hx)) (G.cl _ (F.cl y hy)) h
    have h2 : f x = f y := by rw [← G.inv _ (F.cl x hx), h1, G.inv _ (F.cl y hy)]
    rw [← F.inv x hx, h2, F.inv y hy]
theorem alt_cut (F : Fl U f) (G : Fl U g) (a c x : Nat) (hx : U x) (h : a ≤ c) (he : alt f g (2 * c) x = alt f g (2 * a) x) : alt f g (2 * (c - a)) x = x := by
  have h1 : alt f g (2 * c) x = alt f g (2 * a) (alt f g (2 * (c - a)) x) := by
    rw [show 2 * c = 2 * (c - a) + 2 * a from by omega, alt_add, if_pos (by omega)]
  rw [h1] at he
  exact alt_inj F G a _ _ (alt_u F G _ x hx) hx he
/-- There is a way back. -/
theorem alt_back (F : Fl U f) (G : Fl U g) {n : Nat} (hU : ∀ x, U x → x < n) (x : Nat) (hx : U x) : ∃ c, 0 < c ∧ c ≤ n ∧ alt f g (2 * c) x = x := by
  obtain ⟨i, j, hij, hj, he⟩ := pigeon n (fun c => alt f g (2 * c) x) (fun c _ => hU _ (alt_u F G _ x hx))
  exact ⟨j - i, by omega, by omega, alt_cut F G i j x hx (by omega) he.symm⟩

/-- What lies on a way that comes back is closed. -/
theorem alt_closed (F : Fl U f) (G : Fl U g) (c x : Nat) (hx : U x) (hc : 0 < c) (h : alt f g (2 * c) x = x) (t : Nat) (ht : t < 2 * c) :
    (∃ s, s < 2 * c ∧ f (alt f g t x) = alt f g s x) ∧ ∃ s, s < 2 * c ∧ g (alt f g t x) = alt f g s x := by
  have up : ∀ t, t < 2 * c → ∃ s, s < 2 * c ∧ (if t % 2 = 0 then f (alt f g t x) else g (alt f g t x)) = alt f g s x := by
    intro t ht
    rw [← alt_succ]
    by_cases h1 : t + 1 < 2 * c
    · exact ⟨t + 1, h1, rfl⟩
    · exact ⟨0, by omega, by rw [show t + 1 = 2 * c from by omega, h]; rfl⟩
  have down : ∀ t, 0 < t → t ≤ 2 * c → ∃ s, s < 2 * c ∧ (if t % 2 = 0 then g (alt f g t x) else f (alt f g t x)) = alt f g s x := by
    intro t h0 h1
    obtain ⟨s, rfl⟩ : ∃ s, t = s + 1 := ⟨t - 1, by omega⟩
    refine ⟨s, by omega, ?_⟩
    have hu := alt_u F G s x hx
    rw [alt_succ]
    by_cases h2 : s % 2 = 0
    · rw [if_neg (by omega), if_pos h2, F.inv _ hu]
    · rw [if_pos (by omega), if_neg h2, G.inv _ hu]
  have hu := up t ht
  have hd : ∃ s, s < 2 * c ∧ (if t % 2 = 0 then g (alt f g t x) else f (alt f g t x)) = alt f g s x := by
    by_cases h0 : t = 0
    · subst h0
      have := down (2 * c) (by omega) (Nat.le_refl _)
      rw [h] at this
      rw [if_pos (by omega)] at this
      exact this
    · exact down t (by omega) (by omega)
  by_cases h2 : t % 2 = 0
  · rw [if_pos h2] at hu hd; exact ⟨hu, hd⟩
  · rw [if_neg h2] at hu hd; exact ⟨hd, hu⟩
end

section
variable {d e : Dg} {n : Nat}

/-- The mates of middle points. -/
def me (d e : Dg) (x : Nat) : Nat := hop d e true x
def md (d e : Dg) (n x : Nat) : Nat := hop d e false (n + x) - n

/-- The points that are not marked have middle points that are not marked as mates on both sides. -/
structure Sat (d e : Dg) (n : Nat) (S : Nat → Bool) : Prop where
  em : ∀ x, x < n → S x = false → hop d e true x < n ∧ S (hop d e true x) = false
  dm : ∀ x, x < n → S x = false → n ≤ hop d e false (n + x) ∧ S (hop d e false (n + x) - n) = false
  out : ∀ x, n ≤ x → S x = false

def Un (n : Nat) (S : Nat → Bool) (x : Nat) : Prop := x < n ∧ S x = false

theorem fl_me (H : Two n (hop d e)) {S : Nat → Bool} (h : Sat d e n S) : Fl (Un n S) (me d e) :=
  ⟨fun x hx => h.em x hx.1 hx.2, fun x hx => H.inv true x (by have := hx.1; omega), fun x hx => H.ne true x (by have := hx.1; omega)⟩
theorem fl_md (H : Two n (hop d e)) {S : Nat → Bool} (h : Sat d e n S) : Fl (Un n S) (md d e n) := by
  refine ⟨fun x hx => ?_, fun x hx => ?_, fun x hx => ?_⟩
  · have h1 := h.dm x hx.1 hx.2
    have h2 := H.lt false (n + x) (by have := hx.1; omega)
    exact ⟨by unfold md; omega, h1.2⟩
  · have h1 := h.dm x hx.1 hx.2
    have h3 := H.inv false (n + x) (by have := hx.1; omega)
    unfold md
    rw [show n + (hop d e false (n + x) - n) = hop d e false (n + x) from by omega, h3]
    omega
  · have h1 := h.dm x hx.1 hx.2
    have h3 := H.ne false (n + x) (by have := hx.1; omega)
    unfold md
    omega

/-- With a closed set of points more. -/
theorem sat_more (H : Two n (hop d e)) {S : Nat → Bool} (h : Sat d e n S) (V : Nat → Prop) [DecidablePred V] (hV : ∀ x, V x → Un n S x ∧ V (me d e x) ∧ V (md d e n x)) : Sat d e n (fun x => S x || decide (V x)) := by
  refine ⟨fun x hx hs => ?_, fun x hx hs => ?_, fun x hx => ?_⟩
  · simp only [Bool.or_eq_false_iff, decide_eq_false_iff_not] at hs ⊢
    have h1 := h.em x hx hs.1
    refine ⟨h1.1, h1.2, fun hv => hs.2 ?_⟩
    have := (hV _ hv).2.1
    rwa [show me d e (hop d e true x) = x from H.inv true x (by omega)] at this
  · simp only [Bool.or_eq_false_iff, decide_eq_false_iff_not] at hs ⊢
    have h1 := h.dm x hx hs.1
    refine ⟨h1.1, h1.2, fun hv => hs.2 ?_⟩
    have := (hV _ hv).2.2
    rwa [show md d e n (hop d e false (n + x) - n) = x from (fl_md H h).inv x ⟨hx, hs.1⟩] at this
  · simp only [Bool.or_eq_false_iff, decide_eq_false_iff_not]
    refine ⟨h.out x hx, fun hv => ?_⟩
    have := (hV x hv).1.1; omega

/-- The loop that the program goes. -/
theorem fol_loop (H : Two n (hop d e)) {S : Nat → Bool} (h : Sat d e n S) (m : Nat) (hm : Un n S m) (c : Nat) (hback : alt (me d e) (md d e n) (2 * c) m = m) :
    ∀ (k t : Nat), t < 2 * c → 2 * c - t ≤ k → ∃ r k', t < k' ∧ k' ≤ 2 * c ∧ alt (me d e) (md d e n) k' m = m ∧
      fol d e n m k (decide (t % 2 = 0)) (if t % 2 = 0 then alt (me d e) (md d e n) t m else n + alt (me d e) (md d e n) t m) = some r ∧ ∀ x, x ∈ r.2 ↔ ∃ s, t < s ∧ s ≤ k' ∧ x = alt (me d e) (md d e n) s m
  | 0, t, h1, h2 => by omega
  | k + 1, t, h1, h2 => by
    have hu := alt_u (fl_me H h) (fl_md H h) t m hm
    have hu1 := alt_u (fl_me H h) (fl_md H h) (t + 1) m hm
    have hs := alt_succ t (me d e) (md d e n) m
    have key : ∀ l p, l = decide (t % 2 = 0) → p = (if t % 2 = 0 then alt (me d e) (md d e n) t m else n + alt (me d e) (md d e n) t m) →
        ¬ l = decide (n ≤ hop d e l p) ∧ hop d e l p % n = alt (me d e) (md d e n) (t + 1) m ∧ (!l) = decide ((t + 1) % 2 = 0) ∧
        (if l then n + hop d e l p % n else hop d e l p % n) = (if (t + 1) % 2 = 0 then alt (me d e) (md d e n) (t + 1) m else n + alt (me d e) (md d e n) (t + 1) m) := by
      rintro l p hl hp
      by_cases ht : t % 2 = 0
      · rw [if_pos ht] at hp hs
        rw [decide_eq_true ht] at hl
        subst hl
        rw [hp]
        have hq : hop d e true (alt (me d e) (md d e n) t m) = alt (me d e) (md d e n) (t + 1) m := by rw [hs]; rfl
        have hlt := hu1.1
        rw [hq, Nat.mod_eq_of_lt hlt, decide_eq_false (by omega), decide_eq_false (by omega), if_pos rfl, if_neg (by omega)]
        exact ⟨by simp, rfl, rfl, rfl⟩
      · rw [if_neg ht] at hp hs
        rw [decide_eq_false ht] at hl
        subst hl
        rw [hp]
        have hd := h.dm _ hu.1 hu.2
        have hlt := hu1.1
        have hq : hop d e false (n + alt (me d e) (md d e n) t m) = n + alt (me d e) (md d e n) (t + 1) m := by rw [hs]; unfold md at hd ⊢; omega
        rw [hq, decide_eq_true (by omega), decide_eq_true (by omega), if_neg (by simp), if_pos (by omega), Nat.add_mod_left, Nat.mod_eq_of_lt hlt]
        exact ⟨by simp, rfl, rfl, rfl⟩
    generalize hl : decide (t % 2 = 0) = l at *
    generalize hp : (if t % 2 = 0 then alt (me d e) (md d e n) t m else n + alt (me d e) (md d e n) t m) = p at *
    obtain ⟨k1, k2, k3, k4⟩ := key l p rfl rfl
    by_cases hx : alt (me d e) (md d e n) (t + 1) m = m
    · refine ⟨_, t + 1, by omega, by omega, hx, fol_until k1 (by rw [k2, hx]), fun x => ?_⟩
      simp only [List.mem_singleton, k2]
      exact ⟨fun he => ⟨t + 1, by omega, by omega, he⟩, fun ⟨s, s1, s2, s3⟩ => by rw [s3, show s = t + 1 from by omega]⟩
    · have h3 : t + 1 < 2 * c := by
        by_cases h4 : t + 1 < 2 * c
        · exact h4
        · exact absurd (by rw [show t + 1 = 2 * c from by omega]; exact hback) hx
      obtain ⟨r, k', a1, a2, a3, a4, a5⟩ := fol_loop H h m hm c hback k (t + 1) h3 (by omega)
      rw [← k3, ← k4] at a4
      refine ⟨_, k', by omega, a2, a3, by rw [fol_step k1 (by rw [k2]; omega), a4]; rfl, fun x => ?_⟩
      simp only [List.mem_cons, a5, k2]
      constructor
      · rintro (he | ⟨s, s1, s2, s3⟩)
        · exact ⟨t + 1, by omega, by omega, he⟩
        · exact ⟨s, by omega, s2, s3⟩
      · rintro ⟨s, s1, s2, s3⟩
        by_cases he : s = t + 1
        · exact .inl (by rw [s3, he])
        · exact .inr ⟨s, by omega, s2, s3⟩

/-- The marks of the program behind a loop. -/
theorem marks_loop (H : Two n (hop d e)) (hn8 : n ≤ 8) {S : Nat → Bool} (h : Sat d e n S) (m : Nat) (hm : Un n S m) :
    Sat d e n (marks S (cyc d e n m)) ∧ marks S (cyc d e n m) m = true ∧ ∀ (V : Nat → Prop), V m → (∀ x, Un n S x → V x → V (me d e x) ∧ V (md d e n x)) → ∀ x, marks S (cyc d e n m) x = true → S x = true ∨ V x := by
  have F := fl_me H h
  have G := fl_md H h
  obtain ⟨c, hc0, hcn, hc⟩ := alt_back F G (fun x hx => hx.1) m hm
  obtain ⟨r, k', a1, a2, a3, a4, a5⟩ := fol_loop H h m hm c hc fuel 0 (by omega) (by unfold fuel; omega)
  have a4' : fol d e n m fuel true m = some r := a4
  have hcyc : cyc d e n m = r.2 := by unfold cyc; rw [a4']; rfl
  rw [hcyc]
  obtain ⟨c', hc'⟩ : ∃ c', k' = 2 * c' := by
    by_cases hk : k' % 2 = 0
    · exact ⟨k' / 2, by omega⟩
    · exact absurd (by rw [show 2 * (k' / 2) + 1 = k' from by omega]; exact a3) (alt_odd (k' / 2) _ _ F G m hm)
  subst hc'
  have mem : ∀ x, x ∈ r.2 ↔ ∃ s, s < 2 * c' ∧ x = alt (me d e) (md d e n) s m := by
    intro x
    rw [a5]
    constructor
    · rintro ⟨s, s1, s2, s3⟩
      by_cases he : s = 2 * c'
      · exact ⟨0, by omega, by rw [s3, he, a3]; rfl⟩
      · exact ⟨s, by omega, s3⟩
    · rintro ⟨s, s1, s2⟩
      by_cases he : s = 0
      · exact ⟨2 * c', by omega, by omega, by rw [s2, he, a3]; rfl⟩
      · exact ⟨s, by omega, by omega, s2⟩
  have hmk : marks S r.2 = fun x => S x || decide (x ∈ r.2) := by funext x; exact marks_iff r.2 S x
  refine ⟨?_, ?_, fun V hV hcl x hx => ?_⟩
  · rw [hmk]
    refine sat_more H h (fun x => x ∈ r.2) (fun x hx => ?_)
    obtain ⟨s, s1, rfl⟩ := (mem x).1 hx
    obtain ⟨⟨s2, s3, s4⟩, s5, s6, s7⟩ := alt_closed F G c' m hm (by omega) a3 s s1
    exact ⟨alt_u F G s m hm, (mem _).2 ⟨s2, s3, s4⟩, (mem _).2 ⟨s5, s6, s7⟩⟩
  · rw [marks_iff]
    have : m ∈ r.2 := (mem m).2 ⟨0, by omega, rfl⟩
    simp [this]
  · rw [marks_iff, Bool.or_eq_true, decide_eq_true_eq] at hx
    rcases hx with hx | hx
    · exact .inl hx
    · obtain ⟨s, s1, rfl⟩ := (mem x).1 hx
      refine .inr ?_
      clear s1 hx
      induction s with
      | zero => exact hV
      | succ s ih =>
        have := hcl _ (alt_u F G s m hm) ih
        rw [alt_succ]
        split
        · exact this.1
        · exact this.2

/-- The marks of the reference behind j rounds of a loop. -/
def sj (d e : Dg) (n : Nat) (S : Nat → Bool) (m j : Nat) : Nat → Bool := fun x => S x || (List.range (2 * j)).any fun t => decide (alt (md d e n) (me d e) t m = x)
theorem sj_iff (S : Nat → Bool) (m j x : Nat) : sj d e n S m j x = true ↔ S x = true ∨ ∃ t, t < 2 * j ∧ alt (md d e n) (me d e) t m = x := by
  unfold sj
  rw [Bool.or_eq_true, List.any_eq_true]
  constructor
  · rintro (h | ⟨t, h1, h2⟩)
    · exact .inl h
    · exact .inr ⟨t, List.mem_range.1 h1, of_decide_eq_true h2⟩
  · rintro (h | ⟨t, h1, h2⟩)
    · exact .inl h
    · exact .inr ⟨t, List.mem_range.2 h1, decide_eq_true h2⟩
theorem sj_zero (S : Nat → Bool) (m : Nat) : sj d e n S m 0 = S := by funext x; simp [sj]
theorem sj_succ (S : Nat → Bool) (m j : Nat) : sj d e n S m (j + 1) = fun x => if x = alt (md d e n) (me d e) (2 * j + 1) m then true else if x = alt (md d e n) (me d e) (2 * j) m then true else sj d e n S m j x := by
  funext x
  rw [Bool.eq_iff_iff, sj_iff]
  by_cases h1 : x = alt (md d e n) (me d e) (2 * j + 1) m
  · rw [if_pos h1]
    exact ⟨fun _ => rfl, fun _ => .inr ⟨2 * j + 1, by omega, h1.symm⟩⟩
  · rw [if_neg h1]
    by_cases h2 : x = alt (md d e n) (me d e) (2 * j) m
    · rw [if_pos h2]
      exact ⟨fun _ => rfl, fun _ => .inr ⟨2 * j, by omega, h2.symm⟩⟩
    · rw [if_neg h2, sj_iff]
      constructor
      · rintro (h | ⟨t, t1, t2⟩)
        · exact .inl h
        · refine .inr ⟨t, ?_, t2⟩
          have a1 : t ≠ 2 * j + 1 := by rintro rfl; exact h1 t2.symm
          have a2 : t ≠ 2 * j := by rintro rfl; exact h2 t2.symm
          omega
      · rintro (h | ⟨t, t1, t2⟩)
        · exact .inl h
        · exact .inr ⟨t, by omega, t2⟩

theorem lpo_loop (H : Two n (hop d e)) {S : Nat → Bool} (h : Sat d e n S) (m : Nat) (hm : Un n S m) (c : Nat) (hc0 : 0 < c) (hback : alt (md d e n) (me d e) (2 * c) m = m) :
    ∀ (k j : Nat), j ≤ c → c - j < k → ∃ c', j ≤ c' ∧ c' ≤ c ∧ lpo d e n k (sj d e n S m j) (alt (md d e n) (me d e) (2 * j) m) = some (sj d e n S m c') ∧ sj d e n S m c' (alt (md d e n) (me d e) (2 * c') m) = true ∧
      ∀ i, j ≤ i → i < c' → sj d e n S m i (alt (md d e n) (me d e) (2 * i) m) = false
  | 0, j, _, h2 => by omega
  | k + 1, j, h1, h2 => by
    have F := fl_me H h
    have G := fl_md H h
    by_cases hx : sj d e n S m j (alt (md d e n) (me d e) (2 * j) m) = true
    · exact ⟨j, Nat.le_refl _, h1, lpo_met hx, hx, fun i i1 i2 => by omega⟩
    · have hxf : sj d e n S m j (alt (md d e n) (me d e) (2 * j) m) = false := by simpa using hx
      have hjc : j ≠ c := by
        rintro rfl
        exact hx ((sj_iff ..).2 (.inr ⟨0, by omega, by rw [hback]; rfl⟩))
      obtain ⟨c', a1, a2, a3, a4, a5⟩ := lpo_loop H h m hm c hc0 hback k (j + 1) (by omega) (by omega)
      have hu := alt_u G F (2 * j) m hm
      have hu1 := alt_u G F (2 * j + 1) m hm
      have hu2 := alt_u G F (2 * j + 2) m hm
      have e1 : alt (md d e n) (me d e) (2 * j + 1) m = hop d e false (n + alt (md d e n) (me d e) (2 * j) m) - n := by rw [alt_succ, if_pos (by omega)]; rfl
      have e2 : alt (md d e n) (me d e) (2 * (j + 1)) m = hop d e true (hop d e false (n + alt (md d e n) (me d e) (2 * j) m) - n) := by
        rw [show 2 * (j + 1) = 2 * j + 1 + 1 from rfl, alt_succ, if_neg (by omega), ← e1]; rfl
      have hd := h.dm _ hu.1 hu.2
      refine ⟨c', by omega, a2, ?_, a4, fun i i1 i2 => ?_⟩
      · show (if _ then _ else _) = _
        have hlt : hop d e true (hop d e false (n + alt (md d e n) (me d e) (2 * j) m) - n) < n := by rw [← e2]; exact hu2.1
        rw [if_neg hx, if_neg (by omega), if_neg (by omega), ← a3, sj_succ, ← e1, e2, ← e1]
      · by_cases he : i = j
        · subst he; exact hxf
        · exact a5 i (by omega) i2

/-- The marks of the reference behind a loop. -/
theorem lpo_marks (H : Two n (hop d e)) (hn8 : n ≤ 8) {S : Nat → Bool} (h : Sat d e n S) (m : Nat) (hm : Un n S m) :
    ∃ S', lpo d e n fuel S m = some S' ∧ Sat d e n S' ∧ S' m = true ∧ (∀ x, S x = true → S' x = true) ∧ ∀ (V : Nat → Prop), V m → (∀ x, Un n S x → V x → V (me d e x) ∧ V (md d e n x)) → ∀ x, S' x = true → S x = true ∨ V x := by
  have F := fl_me H h
  have G := fl_md H h
  obtain ⟨c, hc0, hcn, hc⟩ := alt_back G F (fun x hx => hx.1) m hm
  obtain ⟨c', a1, a2, a3, a4, a5⟩ := lpo_loop H h m hm c hc0 hc fuel 0 (by omega) (by unfold fuel; omega)
  rw [sj_zero] at a3
  have hc'0 : 0 < c' := by
    by_cases hz : c' = 0
    · subst hz
      rw [sj_zero] at a4
      have : S m = true := a4
      rw [hm.2] at this; cases this
    · omega
  have hu := alt_u G F (2 * c') m hm
  have hback : alt (md d e n) (me d e) (2 * c') m = m := by
    rcases (sj_iff ..).1 a4 with h1 | ⟨t, t1, t2⟩
    · rw [hu.2] at h1; cases h1
    · by_cases ht : t % 2 = 0
      · obtain ⟨a, rfl⟩ : ∃ a, t = 2 * a := ⟨t / 2, by omega⟩
        have h3 := alt_cut G F a c' m hm (by omega) t2.symm
        by_cases ha : a = 0
        · subst ha; exact t2.symm
        · have h4 := a5 (c' - a) (by omega) (by omega)
          rw [h3] at h4
          have : sj d e n S m (c' - a) m = true := (sj_iff ..).2 (.inr ⟨0, by omega, rfl⟩)
          rw [h4] at this; cases this
      · exfalso
        have h3 := alt_add t (2 * c' - t) (md d e n) (me d e) m
        rw [if_neg ht, show t + (2 * c' - t) = 2 * c' from by omega, ← t2] at h3
        have h4 := alt_odd ((2 * c' - t) / 2) _ _ F G (alt (md d e n) (me d e) t m) (alt_u G F t m hm)
        rw [show 2 * ((2 * c' - t) / 2) + 1 = 2 * c' - t from by omega] at h4
        exact h4 h3.symm
  refine ⟨_, a3, ?_, (sj_iff ..).2 (.inr ⟨0, by omega, rfl⟩), fun x hx => (sj_iff ..).2 (.inl hx), fun V hV hcl x hx => ?_⟩
  · have := sat_more H h (fun x => (List.range (2 * c')).any (fun t => decide (alt (md d e n) (me d e) t m = x)) = true) (fun x hx => by
      obtain ⟨t, t1, t2⟩ := List.any_eq_true.1 hx
      have t1 := List.mem_range.1 t1
      have t2 := of_decide_eq_true t2
      subst t2
      obtain ⟨⟨s2, s3, s4⟩, s5, s6, s7⟩ := alt_closed G F c' m hm hc'0 hback t t1
      exact ⟨alt_u G F t m hm, List.any_eq_true.2 ⟨s5, List.mem_range.2 s6, decide_eq_true s7.symm⟩, List.any_eq_true.2 ⟨s2, List.mem_range.2 s3, decide_eq_true s4.symm⟩⟩)
    have e : sj d e n S m c' = fun x => S x || decide ((List.range (2 * c')).any (fun t => decide (alt (md d e n) (me d e) t m = x)) = true) := by
      funext x; unfold sj; congr 1; cases (List.range (2 * c')).any fun t => decide (alt (md d e n) (me d e) t m = x) <;> rfl
    rw [e]; exact this
  · rcases (sj_iff ..).1 hx with h1 | ⟨t, t1, rfl⟩
    · exact .inl h1
    · refine .inr ?_
      clear t1 hx
      induction t with
      | zero => exact hV
      | succ t ih =>
        have := hcl _ (alt_u G F t m hm) ih
        rw [alt_succ]
        split
        · exact this.2
        · exact this.1

/-- What is seen from outside. -/
theorem mem_vis (H : Two n (hop d e)) (hn8 : n ≤ 8) (p : Nat) (hp : p < 2 * n) (m : Nat) : m ∈ vis d e n (decide (n ≤ p)) p ↔ m < n ∧ line d e n p true m = true := by
  obtain ⟨C, -, -⟩ := line_spec H hn8 p hp
  obtain ⟨r, hr⟩ := fol_outer H hn8 _ p hp rfl
  obtain ⟨-, -, -, -, -, i6⟩ := on_line H fuel _ p r hp hr
  have hv : vis d e n (decide (n ≤ p)) p = r.2 := by unfold vis; rw [hr]; rfl
  rw [hv, i6]
  have key : ∀ l q, (l, q) = (decide (n ≤ p), p) → l = decide (n ≤ q) := by
    intro l q he
    simp only [Prod.mk.injEq] at he
    rw [he.1, he.2]
  constructor
  · rintro (⟨h1, h2, -⟩ | ⟨h1, h2, -⟩)
    · exact ⟨h1, h2⟩
    · exact ⟨h1, (C.g m h1).trans h2⟩
  · rintro ⟨h1, h2⟩
    refine .inl ⟨h1, h2, fun he => ?_⟩
    have := key _ _ he
    rw [decide_eq_false (by omega)] at this; cases this

theorem seenTo_iff (j : Nat) (m : Nat) : seenTo d e n j m = true ↔ ∃ i, i < j ∧ (m ∈ vis d e n false i ∨ m ∈ vis d e n true (n + i)) := by
  induction j with
  | zero => simp [seenTo]
  | succ j ih =>
    rw [seenTo_succ, marks_iff, marks_iff, Bool.or_eq_true, Bool.or_eq_true, ih, decide_eq_true_eq, decide_eq_true_eq]
    constructor
    · rintro ((⟨i, h1, h2⟩ | h) | h)
      · exact ⟨i, by omega, h2⟩
      · exact ⟨j, by omega, .inl h⟩
      · exact ⟨j, by omega, .inr h⟩
    · rintro ⟨i, h1, h2⟩
      by_cases he : i = j
      · subst he
        rcases h2 with h | h
        · exact .inl (.inr h)
        · exact .inr h
      · exact .inl (.inl ⟨i, by omega, h2⟩)

theorem seen_iff (H : Two n (hop d e)) (hn8 : n ≤ 8) (m : Nat) : seenTo d e n n m = true ↔ m < n ∧ ∃ p, p < 2 * n ∧ line d e n p true m = true := by
  rw [seenTo_iff]
  constructor
  · rintro ⟨i, h1, h2⟩
    have e1 : decide (n ≤ i) = false := decide_eq_false (by omega)
    have e2 : decide (n ≤ n + i) = true := decide_eq_true (by omega)
    rcases h2 with h | h
    · rw [← e1, mem_vis H hn8 i (by omega)] at h
      exact ⟨h.1, i, by omega, h.2⟩
    · rw [← e2, mem_vis H hn8 (n + i) (by omega)] at h
      exact ⟨h.1, n + i, by omega, h.2⟩
  · rintro ⟨h1, p, h2, h3⟩
    have h4 := (mem_vis H hn8 p h2 m).2 ⟨h1, h3⟩
    by_cases hp : n ≤ p
    · rw [decide_eq_true hp] at h4
      exact ⟨p - n, by omega, .inr (by rw [show n + (p - n) = p from by omega]; exact h4)⟩
    · rw [decide_eq_false hp] at h4
      exact ⟨p, by omega, .inl h4⟩

theorem sat_seen (H : Two n (hop d e)) (hn8 : n ≤ 8) : Sat d e n (seenTo d e n n) := by
  have not_line : ∀ x, x < n → seenTo d e n n x = false → ∀ p, p < 2 * n → line d e n p true x = false := by
    intro x hx hs p hp
    cases hl : line d e n p true x with
    | false => rfl
    | true =>
      have := (seen_iff H hn8 x).2 ⟨hx, p, hp, hl⟩
      rw [hs] at this; cases this
  refine ⟨fun x hx hs => ?_, fun x hx hs => ?_, fun x hx => ?_⟩
  · have hq := H.lt true x (by omega)
    refine ⟨?_, ?_⟩
    · by_cases hlt : hop d e true x < n
      · exact hlt
      · exfalso
        obtain ⟨C, h1, -⟩ := line_spec H hn8 _ hq
        rw [decide_eq_true (by omega)] at h1
        have := C.s true _ hq h1
        rw [H.inv true x (by omega), not_line x hx hs _ hq] at this; cases this
    · cases hb : seenTo d e n n (hop d e true x) with
      | false => rfl
      | true =>
        obtain ⟨h1, p, hp, h2⟩ := (seen_iff H hn8 _).1 hb
        obtain ⟨C, -, -⟩ := line_spec H hn8 p hp
        have := C.s true _ hq h2
        rw [H.inv true x (by omega), not_line x hx hs _ hp] at this; cases this
  · have hq := H.lt false (n + x) (by omega)
    have hge : n ≤ hop d e false (n + x) := by
      by_cases hlt : n ≤ hop d e false (n + x)
      · exact hlt
      · exfalso
        obtain ⟨C, h1, -⟩ := line_spec H hn8 _ hq
        rw [decide_eq_false hlt] at h1
        have := C.s false _ hq h1
        rw [H.inv false (n + x) (by omega), ← C.g x hx, not_line x hx hs _ hq] at this; cases this
    refine ⟨hge, ?_⟩
    cases hb : seenTo d e n n (hop d e false (n + x) - n) with
    | false => rfl
    | true =>
      obtain ⟨h1, p, hp, h2⟩ := (seen_iff H hn8 _).1 hb
      obtain ⟨C, -, -⟩ := line_spec H hn8 p hp
      rw [C.g _ h1, show n + (hop d e false (n + x) - n) = hop d e false (n + x) from by omega] at h2
      have := C.s false _ hq h2
      rw [H.inv false (n + x) (by omega), ← C.g x hx, not_line x hx hs _ hp] at this; cases this
  · cases hb : seenTo d e n n x with
    | false => rfl
    | true => have := ((seen_iff H hn8 x).1 hb).1; omega

/-- Both go the same loops. -/
theorem loops_eq (H : Two n (hop d e)) (hn8 : n ≤ 8) : ∀ j, j ≤ n → Sat d e n (loopTo d e n j).1 ∧ sloopTo d e n j = loopTo d e n j
  | 0, _ => ⟨sat_seen H hn8, rfl⟩
  | j + 1, hj => by
    obtain ⟨h1, h2⟩ := loops_eq H hn8 j (by omega)
    rw [loopTo_succ, sloopTo_succ, h2]
    by_cases hm : (loopTo d e n j).1 j = true
    · simp only [if_pos hm]; exact ⟨h1, trivial⟩
    · have hm' : Un n (loopTo d e n j).1 j := ⟨by omega, by simpa using hm⟩
      simp only [if_neg hm]
      obtain ⟨a1, a2, a3⟩ := marks_loop H hn8 h1 j hm'
      obtain ⟨S', b1, b2, b3, b4, b5⟩ := lpo_marks H hn8 h1 j hm'
      refine ⟨a1, ?_⟩
      rw [b1]
      show (S', _) = _
      congr 1
      have cl : ∀ S'', Sat d e n S'' → ∀ x, Un n (loopTo d e n j).1 x → S'' x = true → S'' (me d e x) = true ∧ S'' (md d e n x) = true := by
        intro S'' hs x hx hxs
        have u1 := (fl_me H h1).cl x hx
        have u2 := (fl_md H h1).cl x hx
        refine ⟨?_, ?_⟩
        · cases hb : S'' (me d e x) with
          | true => rfl
          | false =>
            have := (hs.em _ u1.1 hb).2
            rw [show hop d e true (me d e x) = x from (fl_me H h1).inv x hx, hxs] at this; cases this
        · cases hb : S'' (md d e n x) with
          | true => rfl
          | false =>
            have := (hs.dm _ u2.1 hb).2
            rw [show hop d e false (n + md d e n x) - n = x from (fl_md H h1).inv x hx, hxs] at this; cases this
      funext x
      rw [Bool.eq_iff_iff]
      constructor
      · intro hx
        rcases b5 (fun x => marks (loopTo d e n j).1 (cyc d e n j) x = true) a2 (cl _ a1) x hx with h | h
        · rw [marks_iff, h]; rfl
        · exact h
      · intro hx
        rcases a3 (fun x => S' x = true) b3 (cl _ b2) x hx with h | h
        · exact b4 x h
        · exact h

theorem sruns (H : Two n (hop d e)) (hn8 : n ≤ 8) : SRuns d e n := by
  intro m hm hs
  obtain ⟨h1, h2⟩ := loops_eq H hn8 m (by omega)
  rw [h2] at hs ⊢
  obtain ⟨S', b1, -⟩ := lpo_marks H hn8 h1 m ⟨hm, hs⟩
  exact ⟨S', b1⟩
theorem sloop_eq (H : Two n (hop d e)) (hn8 : n ≤ 8) : (sloopTo d e n n).2 = prodL d e n := by
  rw [(loops_eq H hn8 n (Nat.le_refl _)).2]; rfl
end
end Go.Proofs.Yticmlgnolbccjaa

/- Plain: lists of terms, in the order of their texts. -/
set_option linter.unusedVariables false
set_option linter.unusedSimpArgs false
namespace Go.Proofs.Yticmlgnolbccjaa
open Go.RowKit

structure Tm where
  d : Dg
  k : Int
deriving DecidableEq, Inhabited

/-- The bytes of the text. -/
def Dg.key (d : Dg) : List UInt8 := (strOfNums d.txt).toList
/-- Less by text. -/
def tlt (d e : Dg) : Bool := Op.bytesLess d.key e.key

theorem tlt_eq (d e : Dg) : tlt d e = decide (d.key < e.key) := bytesLess_eq _ _
theorem tlt_irrefl (d : Dg) : tlt d d = false := by rw [tlt_eq]; exact decide_eq_false (List.lt_irrefl _)
theorem tlt_trans {a b c : Dg} (h : tlt a b = true) (k : tlt b c = true) : tlt a c = true := by
  rw [tlt_eq, decide_eq_true_eq] at *; exact List.lt_trans h k
theorem tlt_ntrans {a b c : Dg} (h : tlt a b = false) (k : tlt b c = false) : tlt a c = false := by
  rw [tlt_eq, decide_eq_false_iff_not, List.not_lt] at *; exact List.le_trans k h
theorem key_inj {d e : Dg} (hd : Good d) (he : Good e) (h : d.key = e.key) : d = e := by
  have h1 : codes (strOfNums d.txt) = codes (strOfNums e.txt) := by
    unfold Dg.key at h
    rw [ByteArray.toList_eq, ByteArray.toList_eq] at h
    unfold codes; rw [h]
  rw [codes_txt, codes_txt] at h1
  have h2 := read_good hd
  rw [h1, read_good he] at h2
  exact (Option.some.inj h2).symm
theorem tlt_total {d e : Dg} (hd : Good d) (he : Good e) (h : tlt d e = false) (k : tlt e d = false) : d = e := by
  rw [tlt_eq, decide_eq_false_iff_not, List.not_lt] at *
  exact key_inj hd he (List.le_antisymm k h)
theorem tlt_asymm {d e : Dg} (h : tlt d e = true) : tlt e d = false := by
  cases hx : tlt e d with
  | false => rfl
  | true => have := tlt_trans h hx; rw [tlt_irrefl] at this; cases this

/-- A list of terms in order. -/
structure Nf (p : Int) (n : Nat) (ts : List Tm) : Prop where
  mem : ∀ t ∈ ts, Good t.d ∧ t.d.size = n ∧ 1 ≤ t.k ∧ t.k < p
  sorted : ts.Pairwise (fun a b => tlt a.d b.d = true)

/-- The factor of a diagram. -/
def coef : List Tm → Dg → Int
  | [], _ => 0
  | t :: ts, d => if t.d = d then t.k else coef ts d

theorem coef_none : ∀ (ts : List Tm) (d : Dg), (∀ t ∈ ts, t.d ≠ d) → coef ts d = 0
  | [], _, _ => rfl
  | t :: ts, d, h => by
    show (if t.d = d then _ else _) = _
    rw [if_neg (h t (by simp)), coef_none ts d (fun u hu => h u (by simp [hu]))]
theorem Nf.tail {p : Int} {n : Nat} {t : Tm} {ts : List Tm} (h : Nf p n (t :: ts)) : Nf p n ts :=
  ⟨fun u hu => h.mem u (by simp [hu]), (List.pairwise_cons.1 h.sorted).2⟩
theorem Nf.head {p : Int} {n : Nat} {t : Tm} {ts : List Tm} (h : Nf p n (t :: ts)) : ∀ u ∈ ts, tlt t.d u.d = true := (List.pairwise_cons.1 h.sorted).1
theorem Nf.above {p : Int} {n : Nat} {ts : List Tm} (d : Dg) (h : ∀ u ∈ ts, tlt d u.d = true) : coef ts d = 0 :=
  coef_none ts d fun u hu he => by have := h u hu; rw [he, tlt_irrefl] at this; cases this
theorem nf_nil (p : Int) (n : Nat) : Nf p n [] := ⟨by simp, List.Pairwise.nil⟩
theorem coef_range {p : Int} {n : Nat} : ∀ {ts : List Tm}, Nf p n ts → 1 ≤ p → ∀ d, 0 ≤ coef ts d ∧ coef ts d < p
  | [], _, hp, d => by show 0 ≤ (0 : Int) ∧ (0 : Int) < p; omega
  | t :: ts, h, hp, d => by
    show 0 ≤ (if t.d = d then _ else _) ∧ (if t.d = d then _ else _) < p
    have := h.mem t (by simp)
    split
    · omega
    · exact coef_range h.tail hp d
theorem coef_mem {p : Int} {n : Nat} : ∀ {ts : List Tm}, Nf p n ts → ∀ d, coef ts d ≠ 0 → ∃ t ∈ ts, t.d = d ∧ t.k = coef ts d
  | [], _, d, h => absurd rfl h
  | t :: ts, hn, d, h => by
    have e : coef (t :: ts) d = if t.d = d then t.k else coef ts d := rfl
    by_cases he : t.d = d
    · rw [if_pos he] at e
      exact ⟨t, by simp, he, e.symm⟩
    · rw [if_neg he] at e
      rw [e] at h ⊢
      obtain ⟨u, h1, h2⟩ := coef_mem hn.tail d h
      exact ⟨u, by simp [h1], h2⟩
theorem coef_of_mem {p : Int} {n : Nat} : ∀ {ts : List Tm}, Nf p n ts → ∀ t ∈ ts, coef ts t.d = t.k
  | [], _, t, h => by cases h
  | u :: ts, hn, t, h => by
    show (if u.d = t.d then _ else _) = _
    rcases List.mem_cons.1 h with rfl | h
    · exact if_pos rfl
    · have h1 := hn.head t h
      rw [if_neg (fun he => by rw [he, tlt_irrefl] at h1; cases h1)]
      exact coef_of_mem hn.tail t h

/-- The factors tell the list. -/
theorem nf_unique {p : Int} {n : Nat} : ∀ {ts us : List Tm}, Nf p n ts → Nf p n us → (∀ d, coef ts d = coef us d) → ts = us
  | [], [], _, _, _ => rfl
  | [], u :: us, _, hu, h => by
    have h1 := h u.d
    have h2 := hu.mem u (by simp)
    rw [coef_of_mem hu u (by simp)] at h1
    have : coef [] u.d = 0 := rfl
    omega
  | t :: ts, [], ht, _, h => by
    have h1 := h t.d
    have h2 := ht.mem t (by simp)
    rw [coef_of_mem ht t (by simp)] at h1
    have : coef [] t.d = 0 := rfl
    omega
  | t :: ts, u :: us, ht, hu, h => by
    have t1 := ht.mem t (by simp)
    have u1 := hu.mem u (by simp)
    have hd : t.d = u.d := by
      refine tlt_total t1.1 u1.1 ?_ ?_
      · cases hx : tlt t.d u.d with
        | false => rfl
        | true =>
          have h1 := h t.d
          rw [coef_of_mem ht t (by simp), coef_none (u :: us) t.d (fun v hv he => ?_)] at h1
          · omega
          · rcases List.mem_cons.1 hv with rfl | hv
            · rw [he, tlt_irrefl] at hx; cases hx
            · have := tlt_trans hx (hu.head v hv); rw [he, tlt_irrefl] at this; cases this
      · cases hx : tlt u.d t.d with
        | false => rfl
        | true =>
          have h1 := h u.d
          rw [coef_of_mem hu u (by simp), coef_none (t :: ts) u.d (fun v hv he => ?_)] at h1
          · omega
          · rcases List.mem_cons.1 hv with rfl | hv
            · rw [he, tlt_irrefl] at hx; cases hx
            · have := tlt_trans hx (ht.head v hv); rw [he, tlt_irrefl] at this; cases this
    have hk : t.k = u.k := by
      have h1 := h t.d
      rw [coef_of_mem ht t (by simp), hd, coef_of_mem hu u (by simp)] at h1
      exact h1
    have htu : t = u := by cases t; cases u; simp_all
    subst htu
    rw [nf_unique ht.tail hu.tail (fun d => ?_)]
    have h1 := h d
    have e1 : coef (t :: ts) d = if t.d = d then t.k else coef ts d := rfl
    have e2 : coef (t :: us) d = if t.d = d then t.k else coef us d := rfl
    by_cases he : t.d = d
    · rw [← he, Nf.above (p := p) (n := n) t.d ht.head, Nf.above (p := p) (n := n) t.d hu.head]
    · rw [e1, e2, if_neg he, if_neg he] at h1; exact h1

/-- A list with a term more, of a factor that is not 0. -/
def ins (p : Int) (d : Dg) (k : Int) : List Tm → List Tm
  | [] => [⟨d, k⟩]
  | t :: ts => if tlt t.d d = true then t :: ins p d k ts else if t.d = d then (if (t.k + k) % p = 0 then ts else ⟨d, (t.k + k) % p⟩ :: ts) else ⟨d, k⟩ :: t :: ts
def put (p : Int) (ts : List Tm) (d : Dg) (k : Int) : List Tm := if k % p = 0 then ts else ins p d (k % p) ts

theorem mem_ins {p : Int} {d : Dg} {k : Int} : ∀ {ts : List Tm} {u : Tm}, u ∈ ins p d k ts → u ∈ ts ∨ (u.d = d ∧ (u.k = k ∨ ((∃ t ∈ ts, u.k = (t.k + k) % p) ∧ u.k ≠ 0)))
  | [], u, h => by
    have : u = ⟨d, k⟩ := by simpa [ins] using h
    subst this; exact .inr ⟨rfl, .inl rfl⟩
  | t :: ts, u, h => by
    unfold ins at h
    split at h
    · rcases List.mem_cons.1 h with rfl | h
      · exact .inl (by simp)
      · rcases mem_ins h with h | ⟨h1, h2 | ⟨⟨v, h3, h4⟩, h5⟩⟩
        · exact .inl (by simp [h])
        · exact .inr ⟨h1, .inl h2⟩
        · exact .inr ⟨h1, .inr ⟨⟨v, by simp [h3], h4⟩, h5⟩⟩
    · split at h
      · split at h
        · exact .inl (by simp [h])
        · rename_i h9
          rcases List.mem_cons.1 h with rfl | h
          · exact .inr ⟨rfl, .inr ⟨⟨t, by simp, rfl⟩, h9⟩⟩
          · exact .inl (by simp [h])
      · rcases List.mem_cons.1 h with rfl | h
        · exact .inr ⟨rfl, .inl rfl⟩
        · exact .inl h

theorem ins_nf {p : Int} {n : Nat} {d : Dg} {k : Int} (hp : 2 ≤ p) (hd : Good d) (hs : d.size = n) (hk : 1 ≤ k) (hkp : k < p) : ∀ {ts : List Tm}, Nf p n ts → Nf p n (ins p d k ts)
  | [], h => ⟨fun t ht => by have : t = ⟨d, k⟩ := by simpa [ins] using ht
                             subst this; exact ⟨hd, hs, hk, hkp⟩, by simp [ins]⟩
  | t :: ts, h => by
    have ht := h.mem t (by simp)
    have hmem : ∀ u ∈ ins p d k (t :: ts), Good u.d ∧ u.d.size = n ∧ 1 ≤ u.k ∧ u.k < p := by
      intro u hu
      rcases mem_ins hu with h1 | ⟨h1, h2⟩
      · exact h.mem u h1
      · rw [h1]
        refine ⟨hd, hs, ?_⟩
        rcases h2 with h2 | ⟨⟨v, h3, h4⟩, h5⟩
        · omega
        · have a1 := Int.emod_nonneg (v.k + k) (show p ≠ 0 by omega)
          have a2 := Int.emod_lt_of_pos (v.k + k) (show 0 < p by omega)
          omega
    refine ⟨hmem, ?_⟩
    unfold ins
    split
    · rename_i hlt
      refine List.pairwise_cons.2 ⟨fun u hu => ?_, (ins_nf hp hd hs hk hkp h.tail).sorted⟩
      rcases mem_ins hu with h1 | ⟨h1, -⟩
      · exact h.head u h1
      · rw [h1]; exact hlt
    · rename_i hlt
      have hlt' : tlt t.d d = false := by simpa using hlt
      split
      · rename_i he
        split
        · exact h.tail.sorted
        · exact List.pairwise_cons.2 ⟨fun u hu => by show tlt d u.d = true; rw [← he]; exact h.head u hu, h.tail.sorted⟩
      · rename_i he
        have hdt : tlt d t.d = true := by
          cases hx : tlt d t.d with
          | true => rfl
          | false => exact absurd (tlt_total ht.1 hd hlt' hx) he
        refine List.pairwise_cons.2 ⟨fun u hu => ?_, h.sorted⟩
        rcases List.mem_cons.1 hu with rfl | hu
        · exact hdt
        · exact tlt_trans hdt (h.head u hu)

theorem coef_ins {p : Int} {n : Nat} {d : Dg} {k : Int} (hp : 2 ≤ p) (hk : 1 ≤ k) (hkp : k < p) : ∀ {ts : List Tm}, Nf p n ts → ∀ e, coef (ins p d k ts) e = if e = d then (coef ts d + k) % p else coef ts e
  | [], h, e => by
    show (if d = e then k else 0) = if e = d then (0 + k) % p else 0
    by_cases he : e = d
    · rw [if_pos he.symm, if_pos he, Int.zero_add, Int.emod_eq_of_lt (by omega) hkp]
    · rw [if_neg (Ne.symm he), if_neg he]
  | t :: ts, h, e => by
    have ih := coef_ins (d := d) hp hk hkp h.tail e
    have c1 : ∀ x, coef (t :: ts) x = if t.d = x then t.k else coef ts x := fun x => rfl
    unfold ins
    split
    · rename_i hlt
      have hne : t.d ≠ d := fun he => by rw [he, tlt_irrefl] at hlt; cases hlt
      show (if t.d = e then t.k else coef (ins p d k ts) e) = _
      rw [ih, c1, c1, if_neg hne]
      by_cases he : e = d
      · rw [if_pos he, if_pos he, if_neg (by rw [he]; exact hne)]
      · rw [if_neg he, if_neg he]
    · split
      · rename_i hlt he
        have hab : coef ts d = 0 := by rw [← he]; exact Nf.above (p := p) (n := n) t.d h.head
        rw [c1, c1, if_pos he]
        split
        · rename_i h0
          by_cases hed : e = d
          · rw [if_pos hed, hed, hab, h0]
          · rw [if_neg hed, if_neg (by rw [he]; exact Ne.symm hed)]
        · show (if d = e then (t.k + k) % p else coef ts e) = _
          by_cases hed : e = d
          · rw [if_pos hed, if_pos hed.symm]
          · rw [if_neg hed, if_neg (Ne.symm hed), if_neg (by rw [he]; exact Ne.symm hed)]
      · rename_i hlt he
        show (if d = e then k else coef (t :: ts) e) = _
        by_cases hed : e = d
        · rw [if_pos hed, if_pos hed.symm]
          have : coef (t :: ts) d = 0 := by
            rw [c1, if_neg he]
            refine coef_none ts d fun u hu hue => ?_
            have h1 := h.head u hu
            rw [hue] at h1
            exact hlt h1
          rw [this, Int.zero_add, Int.emod_eq_of_lt (by omega) hkp]
        · rw [if_neg hed, if_neg (Ne.symm hed)]

theorem put_nf {p : Int} {n : Nat} {d : Dg} {k : Int} (hp : 2 ≤ p) (hd : Good d) (hs : d.size = n) {ts : List Tm} (h : Nf p n ts) : Nf p n (put p ts d k) := by
  unfold put
  have a1 := Int.emod_nonneg k (show p ≠ 0 by omega)
  have a2 := Int.emod_lt_of_pos k (show 0 < p by omega)
  split
  · exact h
  · exact ins_nf hp hd hs (by omega) a2 h
theorem coef_put {p : Int} {n : Nat} {d : Dg} {k : Int} (hp : 2 ≤ p) {ts : List Tm} (h : Nf p n ts) (e : Dg) : coef (put p ts d k) e = if e = d then (coef ts d + k) % p else coef ts e := by
  unfold put
  have a1 := Int.emod_nonneg k (show p ≠ 0 by omega)
  have a2 := Int.emod_lt_of_pos k (show 0 < p by omega)
  have hr := coef_range h (by omega) d
  split
  · rename_i h0
    by_cases he : e = d
    · rw [if_pos he, he, Int.add_emod, h0, Int.add_zero, Int.emod_emod_of_dvd _ (Int.dvd_refl p), Int.emod_eq_of_lt hr.1 hr.2]
    · rw [if_neg he]
  · rw [coef_ins hp (by omega) a2 h]
    by_cases he : e = d
    · rw [if_pos he, if_pos he, Int.add_emod, Int.emod_emod_of_dvd _ (Int.dvd_refl p), ← Int.add_emod]
    · rw [if_neg he, if_neg he]

/-- The list by the place of the new term. -/
theorem ins_low {p : Int} {d : Dg} {k : Int} : ∀ (ts : List Tm) (low : Nat), low ≤ ts.length → (∀ i (h : i < ts.length), i < low → tlt ts[i].d d = true) → (∀ h : low < ts.length, tlt ts[low].d d = false) →
    ins p d k ts = if h : low < ts.length then (if ts[low].d = d then (if (ts[low].k + k) % p = 0 then ts.take low ++ ts.drop (low + 1) else ts.take low ++ ⟨d, (ts[low].k + k) % p⟩ :: ts.drop (low + 1)) else ts.take low ++ ⟨d, k⟩ :: ts.drop low) else ts ++ [⟨d, k⟩]
  | [], low, h, _, _ => by rw [dif_neg (by simp)]; rfl
  | t :: ts, 0, h, h1, h2 => by
    have h3 := h2 (by simp)
    simp only [List.getElem_cons_zero] at h3
    rw [dif_pos (by simp)]
    unfold ins
    rw [if_neg (by rw [h3]; simp)]
    simp
  | t :: ts, low + 1, h, h1, h2 => by
    have h3 := h1 0 (by simp) (by omega)
    simp only [List.getElem_cons_zero] at h3
    unfold ins
    rw [if_pos h3, ins_low ts low (by simpa using h) (fun i hi hl => by have := h1 (i + 1) (by simp; omega) (by omega); simpa using this) (fun hl => by have := h2 (by simp; omega); simpa using this)]
    by_cases hl : low < ts.length
    · rw [dif_pos hl, dif_pos (by simp; omega)]
      simp only [List.getElem_cons_succ, List.take_succ_cons, List.drop_succ_cons, List.cons_append]
      split
      · split <;> rfl
      · rfl
    · rw [dif_neg hl, dif_neg (by simp; omega)]; rfl
end Go.Proofs.Yticmlgnolbccjaa

/- Lists of terms in memory. -/
set_option linter.unusedVariables false
set_option linter.unusedSimpArgs false
namespace Go.Proofs.Yticmlgnolbccjaa
open Go.RowKit

def Tm.vals (t : Tm) : List Value := t.d.list ++ [.int .i64 t.k]
theorem Tm.length_vals (t : Tm) : t.vals.length = 18 := by simp [Tm.vals, Dg.length_list]
def Tm.cells (t : Tm) : Array Value := t.vals.toArray
/-- The cells of a list of terms. -/
def tc (ts : List Tm) : List Value := ts.flatMap Tm.vals
theorem tc_nil : tc [] = [] := rfl
theorem tc_cons (t : Tm) (ts : List Tm) : tc (t :: ts) = t.vals ++ tc ts := rfl
theorem tc_append (ts us : List Tm) : tc (ts ++ us) = tc ts ++ tc us := by simp [tc]
theorem length_tc : ∀ ts : List Tm, (tc ts).length = ts.length * 18
  | [] => rfl
  | t :: ts => by rw [tc_cons, List.length_append, t.length_vals, length_tc ts, List.length_cons]; omega
theorem tc_at : ∀ (ts : List Tm) (i j : Nat) (t : Tm), ts[i]? = some t → j < 18 → (tc ts)[i * 18 + j]? = t.vals[j]?
  | [], i, j, t, h, _ => by simp at h
  | u :: ts, 0, j, t, h, hj => by
    simp at h; subst h
    rw [tc_cons, Nat.zero_mul, Nat.zero_add, List.getElem?_append_left (by rw [Tm.length_vals]; exact hj)]
  | u :: ts, i + 1, j, t, h, hj => by
    simp at h
    rw [tc_cons, List.getElem?_append_right (by rw [Tm.length_vals]; omega), Tm.length_vals, show (i + 1) * 18 + j - 18 = i * 18 + j from by omega]
    exact tc_at ts i j t h hj
theorem tc_oneCell (ts : List Tm) : ∀ v ∈ tc ts, v.oneCell' = true := by
  intro v hv
  simp only [tc, List.mem_flatMap] at hv
  obtain ⟨t, _, hv⟩ := hv
  simp only [Tm.vals, List.mem_append, List.mem_singleton] at hv
  rcases hv with hv | rfl
  · exact t.d.oneCell v hv
  · rfl
theorem Tm.list_at (t : Tm) (j : Nat) (v : Value) (h : t.d.list[j]? = some v) : t.vals[j]? = some v := by
  have : j < t.d.list.length := by
    by_cases h1 : j < t.d.list.length
    · exact h1
    · rw [List.getElem?_eq_none (by omega)] at h; cases h
  rw [Tm.vals, List.getElem?_append_left this]; exact h
theorem Tm.k_at (t : Tm) : t.vals[17]? = some (.int .i64 t.k) := by
  rw [Tm.vals, List.getElem?_append_right (by rw [Dg.length_list]; omega), Dg.length_list]; rfl
theorem tc_take (ts : List Tm) (n : Nat) : (tc ts).take (n * 18) = tc (ts.take n) := by
  induction ts generalizing n with
  | nil => simp [tc]
  | cons t ts ih =>
    cases n with
    | zero => simp [tc]
    | succ n =>
      rw [List.take_succ_cons, tc_cons, tc_cons, List.take_append, t.length_vals, List.take_of_length_le (by rw [t.length_vals]; omega), show (n + 1) * 18 - 18 = n * 18 from by omega, ih]
theorem tc_drop (ts : List Tm) (n : Nat) : (tc ts).drop (n * 18) = tc (ts.drop n) := by
  induction ts generalizing n with
  | nil => simp [tc]
  | cons t ts ih =>
    cases n with
    | zero => simp
    | succ n =>
      rw [List.drop_succ_cons, tc_cons, List.drop_append, t.length_vals, List.drop_eq_nil_of_le (by rw [t.length_vals]; omega), show (n + 1) * 18 - 18 = n * 18 from by omega, ih]
      rfl

theorem rangeAt_take {w : World} {g o : Nat} {ts : List Tm} (h : w.rangeAt g o (tc ts)) (l : Nat) : w.rangeAt g o (tc (ts.take l)) := by
  intro j v hv
  refine h j v ?_
  rw [← tc_take, List.getElem?_take] at hv
  split at hv
  · exact hv
  · cases hv
theorem rangeAt_drop {w : World} {g o : Nat} {ts : List Tm} (h : w.rangeAt g o (tc ts)) (l : Nat) : w.rangeAt g (o + l * 18) (tc (ts.drop l)) := by
  intro j v hv
  rw [← tc_drop, List.getElem?_drop] at hv
  have := h (l * 18 + j) v hv
  rwa [← Nat.add_assoc] at this
theorem rangeAt_grown {w w' : World} {g o : Nat} {l : List Value} {row : Option Nat} (h : w.rangeAt g o l) (hg : w.grownBy w' row) (hne : some g ≠ row) : w'.rangeAt g o l := fun j v hv => hg.cell (h j v hv) hne
theorem rangeAt_alloc {w : World} {g o : Nat} {l : List Value} (h : w.rangeAt g o l) (x : Obj) : (w.alloc x).rangeAt g o l := rangeAt_grown h (World.grownBy_alloc w x none) (by simp)

/-- A slice of terms, of blocks from a base on. -/
def TsOwn (w : World) (base : Nat) (v : Value) (ts : List Tm) : Prop := w.ownsRow base 57 18 v ts.length (tc ts)

section
variable {w : World} {g o : Nat} {ts : List Tm}
theorem range_term (h : w.rangeAt g o (tc ts)) (i : Nat) (t : Tm) (hi : ts[i]? = some t) : w.rangeAt g (o + i * 18) t.d.list ∧ w.cell? ⟨g, o + i * 18 + 17, none⟩ = some (.int .i64 t.k) := by
  refine ⟨fun j v hv => ?_, ?_⟩
  · have h1 := t.list_at j v hv
    have hj : j < 18 := by
      by_cases h2 : j < 18
      · exact h2
      · rw [List.getElem?_eq_none (by rw [t.length_vals]; omega)] at h1; cases h1
    have := h (i * 18 + j) v (by rw [tc_at ts i j t hi hj]; exact h1)
    rwa [← Nat.add_assoc] at this
  · have := h (i * 18 + 17) (.int .i64 t.k) (by rw [tc_at ts i 17 t hi (by omega)]; exact t.k_at)
    rwa [← Nat.add_assoc] at this
theorem TsOwn.pos {base : Nat} {v : Value} (h : TsOwn w base v ts) (hn : ts ≠ []) : ∃ g cap, v = .slice (some ⟨g, 0, none⟩) ts.length cap ∧ base ≤ g ∧ g < w.heap.size ∧ ts.length ≤ cap ∧ cap ≤ 9223372036854775807 ∧ w.rangeAt g 0 (tc ts) := by
  obtain ⟨g, cap, rfl, h1, h2, h3, h4⟩ := own_pos h (List.length_pos_iff.2 hn)
  refine ⟨g, cap, rfl, h1, h2, h3, h4, fun j v hv => ?_⟩
  rw [Nat.zero_add]
  exact own_cell h j v hv
theorem TsOwn.slice {base : Nat} {v : Value} (h : TsOwn w base v ts) : ∃ ad cap, v = .slice ad ts.length cap ∧ ts.length ≤ cap ∧ cap ≤ 9223372036854775807 := by
  rcases h.2 with ⟨rfl, h0⟩ | ⟨g, cap, cur, rfl, hb, hg, hc, hm, _⟩
  · exact ⟨_, _, by rw [h0], by omega, by omega⟩
  · exact ⟨_, _, rfl, hc, by unfold maxLen at hm; omega⟩
theorem rangeAt_below {w' : World} {B : Nat} {l : List Value} (h : w.rangeAt g o l) (hb : Below B w w') (hg : g < B) : w'.rangeAt g o l := fun j v hv => (hb.cell (p := ⟨g, o + j, none⟩) hg).trans (h j v hv)
theorem TsOwn.below {w' : World} {base B : Nat} {v : Value} (h : TsOwn w base v ts) (hb : Below B w w') (hB : w.heap.size ≤ B) : TsOwn w' base v ts := own_below h hb hB
theorem TsOwn.only {w' : World} {base b : Nat} {v : Value} (h : TsOwn w base v ts) (ho : Only w w' b) (hne : some b ≠ v.ownBlock) : TsOwn w' base v ts := own_only h ho hne
end

section
variable {ops : Array Oper} {rest : List Oper} {o : Oper} {a : Act} {w : World} {Q : Exit → Act → World → Prop}

/-- The load of a diagram out of the midst of a block. -/
theorem load_dg_mid (hgd : o.guard = none) (x : Operand) (ho : o.op = .load 47 x) (b off : Nat) (hx : a.eval x = .pointer (some ⟨b, off, none⟩)) (d : Dg) (h : w.rangeAt b off d.list)
    (hK : wpList Try.prog ops Q rest (a.put o.dst (.agg d.cells)) w) : wpList Try.prog ops Q (o :: rest) a w :=
  wpList_load_mid hgd _ x ho b off hx d.list _ h Try.underlying47 rfl (by rw [d.length_list]; exact (info_dg).trans rfl) hK
end

section
variable {P : Program} {ops : Array Oper} {a : Act} {o : Oper} {K : Act → Prop} {w : World}
/-- The same at a world in which old memory lies unturned. -/
theorem quiet_load_dg_mid (x : Operand) (ho : o.op = .load 47 x) (b off : Nat) (hx : a.eval x = .pointer (some ⟨b, off, none⟩)) (d : Dg) (h : w.rangeAt b off d.list) (hlt : b < w.heap.size)
    (hK : K (a.put o.dst (.agg d.cells))) : o.quiet Try.prog a (fun w' => ∃ p : ExtOf w, w' = p.W) K := by
  refine ⟨.agg d.cells, fun W hW => ?_, hK⟩
  obtain ⟨p, rfl⟩ := hW
  unfold Oper.quietAt execOp
  simp only [ho, hx, Instr.loadAt, Instr.sureAddr, Sem.run_bind, Sem.run_pure, Result.andThen_ok, run_loadVar_mid p.W b off 47 d.list _ (rangeAt_below h p.h hlt) Try.underlying47 rfl (by rw [d.length_list]; exact (info_dg).trans rfl)]
  exact ⟨rfl, rfl⟩
end

/-- The same, of a slice that is not nil. -/
def TsS (w : World) (base : Nat) (v : Value) (ts : List Tm) : Prop := TsOwn w base v ts ∧ v ≠ .slice none 0 0

section
variable {w : World} {base : Nat} {v : Value} {ts : List Tm}
theorem TsS.out (h : TsS w base v ts) : ∃ g cap, v = .slice (some ⟨g, 0, none⟩) ts.length cap ∧ base ≤ g ∧ g < w.heap.size ∧ ts.length ≤ cap ∧ cap ≤ 9223372036854775807 ∧ w.rangeAt g 0 (tc ts) := by
  rcases h.1.2 with ⟨h1, _⟩ | ⟨g, cap, cur, rfl, hb, hg, hc, hm, _⟩
  · exact absurd h1 h.2
  · refine ⟨g, cap, rfl, hb, (Array.getElem?_eq_some_iff.1 hg).1, hc, by unfold maxLen at hm; omega, fun j v hv => ?_⟩
    rw [Nat.zero_add]
    exact own_cell h.1 j v hv
theorem TsOwn.mono (h : TsOwn w base v ts) {base' : Nat} (hb : base' ≤ base) : TsOwn w base' v ts := by
  refine ⟨h.1, ?_⟩
  rcases h.2 with h0 | ⟨g, cap, cur, h1, h2, h3⟩
  · exact .inl h0
  · exact .inr ⟨g, cap, cur, h1, Nat.le_trans hb h2, h3⟩
theorem TsS.mono (h : TsS w base v ts) {base' : Nat} (hb : base' ≤ base) : TsS w base' v ts := ⟨h.1.mono hb, h.2⟩
theorem TsS.below {w' : World} {B : Nat} (h : TsS w base v ts) (hb : Below B w w') (hB : w.heap.size ≤ B) : TsS w' base v ts := ⟨h.1.below hb hB, h.2⟩
theorem TsS.drewN (h : TsS w base v ts) (j : Nat) : TsS (w.drewN j) base v ts := h
theorem TsS.drew (h : TsS w base v ts) : TsS w.drew base v ts := h
theorem TsS.alloc (h : TsS w base v ts) (o : Obj) : TsS (w.alloc o) base v ts := ⟨h.1.alloc o, h.2⟩
theorem TsS.only {w' : World} {b : Nat} (h : TsS w base v ts) (ho : Only w w' b) (hne : some b ≠ v.ownBlock) : TsS w' base v ts := ⟨h.1.only ho hne, h.2⟩
theorem TsS.new (w : World) {base b : Nat} (hb : base ≤ b) (he : b = w.heap.size) : TsS (w.alloc (.cells #[] 57)) base (.slice (some ⟨b, 0, none⟩) 0 0) [] := by
  subst he
  exact ⟨⟨rfl, .inr ⟨_, 0, #[], rfl, hb, (Blk.new w #[] 57), Nat.le_refl _, by simp [maxLen], rfl, rfl⟩⟩, by simp⟩
end

theorem rowTerm : Row 28 57 (.agg (⟨⟨0, List.replicate 16 0⟩, 0⟩ : Tm).cells) 18 32 := ⟨Try.underlying28, by kernel_rfl, rfl, by decide⟩

section
variable {ops : Array Oper} {rest : List Oper} {o : Oper} {a : Act} {w : World} {Q : Exit → Act → World → Prop}
/-- Terms more, of wherever they lie. -/
theorem append_ts (hgd : o.guard = none) (s x : Operand) (ho : o.op = .call { callee := .builtin .append, args := #[s, x], argTypes := #[28, 28] })
    (base : Nat) (v : Value) (ts : List Tm) (hs : a.eval s = v) (hown : TsS w base v ts)
    (g off m c : Nat) (us : List Tm) (hx : a.eval x = .slice (some ⟨g, off, none⟩) m c) (hr : w.rangeAt g off (tc us)) (hm : m = us.length)
    (hn : ts.length + us.length ≤ 1000000) (hbase : base ≤ w.heap.size)
    (h : ∀ v' w', TsS w' base v' (ts ++ us) → w.grownBy w' v.ownBlock → wpList Try.prog ops Q rest (a.put o.dst v') w') : wpList Try.prog ops Q (o :: rest) a w := by
  subst hm
  obtain ⟨i0, hi, hz0, hz1, hz2⟩ := info_parts rowTerm.info
  refine wpList_append_own w hgd s x 28 ho base 57 i0 _ 18 32 rowTerm.und hi hz0 hz1 hz2 rowTerm.zs (by decide) v ts.length _ hs hown.1 ⟨g, off, none⟩ us.length c (tc us) hx (length_tc us) ?_ (tc_oneCell us) (by unfold maxLen; omega) (by omega) hbase ?_
  · intro j u hu
    rw [Addr.add_mid]
    exact hr j u hu
  · intro v' w' h1 h2 h3
    refine h v' w' ⟨?_, fun he => ?_⟩ h2
    · unfold TsOwn
      rw [tc_append, List.length_append]; exact h1
    · exact hown.2 (h3.1 he).1
end
end Go.Proofs.Yticmlgnolbccjaa

/- Terms that are built. -/
set_option linter.unusedVariables false
set_option linter.unusedSimpArgs false
namespace Go.Proofs.Yticmlgnolbccjaa
open Go.RowKit

theorem built_term (d : Dg) (k : Int) : Try.prog.built 57 [(0, .agg d.cells), (1, .int .i64 k)] = some (Tm.cells ⟨d, k⟩) := by kernel_rfl

theorem fill_term (t : Tm) : Instr.fill (fun i => some (i * 18, 18)) ((Array.range (1 * 18)).map ((Value.agg (⟨⟨0, List.replicate 16 0⟩, 0⟩ : Tm).cells).cells[· % (Value.agg (⟨⟨0, List.replicate 16 0⟩, 0⟩ : Tm).cells).cells.size]!)) [(0, .agg t.cells)] = some t.cells := by kernel_rfl

section
variable {ops : Array Oper} {rest : List Oper} {o : Oper} {a : Act} {w : World} {Q : Exit → Act → World → Prop}
set_option maxRecDepth 100000 in
theorem build_term (hg : o.guard = none) (x y : Operand) (ho : o.op = .build 57 #[(0, x), (1, y)]) (d : Dg) (k : Int) (hx : a.eval x = .agg d.cells) (hy : a.eval y = .int .i64 k)
    (h : wpList Try.prog ops Q rest (a.put o.dst (.agg (Tm.cells ⟨d, k⟩))) w) : wpList Try.prog ops Q (o :: rest) a w :=
  wpList_buildTo hg _ _ ho _ rfl _ (by simp only [List.map_toArray, List.map_cons, List.map_nil, hx, hy]; exact built_term d k) h

set_option maxRecDepth 100000 in
theorem row_term (hg : o.guard = none) (x : Operand) (ho : o.op = .buildSlice 28 1 #[(0, x)]) (t : Tm) (hx : a.eval x = .agg t.cells)
    (h : wpList Try.prog ops Q rest (a.put o.dst (.slice (some ⟨w.heap.size, 0, none⟩) 1 1)) (w.alloc (.cells t.cells 57))) : wpList Try.prog ops Q (o :: rest) a w := by
  obtain ⟨i0, hi, hz0, hz1, hz2⟩ := info_parts rowTerm.info
  refine wpList_buildSlice hg _ 57 1 _ ho t.cells i0 _ rowTerm.und hi hz0 (by rw [hz1]; decide) (by rw [hz1]; decide) ?_ h
  rw [hz1]
  simp only [List.map_toArray, List.map_cons, List.map_nil, hx]
  exact fill_term t
end

section
variable {ops : Array Oper} {rest : List Oper} {o : Oper} {a : Act} {w : World} {Q : Exit → Act → World → Prop}
set_option maxRecDepth 100000 in
/-- The terms from a place on. -/
theorem slice_from (hg : o.guard = none) (x y : Operand) (ho : o.op = .slice 28 x (some y) none none) (g n cap l : Nat) (hx : a.eval x = .slice (some ⟨g, 0, none⟩) n cap) (L : Int) (hy : a.eval y = .int .i64 L) (hL : L = l) (hl : l ≤ n) (hc : n ≤ cap)
    (h : ∀ off, (l < cap → off = l * 18) → wpList Try.prog ops Q rest (a.put o.dst (.slice (some ⟨g, off, none⟩) (n - l) (cap - l))) w) : wpList Try.prog ops Q (o :: rest) a w := by
  subst hL
  obtain ⟨i0, hi, hz0, hz1, hz2⟩ := info_parts rowTerm.info
  have he : Try.prog.elem 28 = 57 := by kernel_rfl
  have ht : Try.prog.underlying 28 = some (.slice (Try.prog.elem 28)) := by rw [he]; exact rowTerm.und
  have hsz : (sizeOf (Try.prog.elem 28)).run Try.prog w = .ok 18 w := by rw [he]; simp [sizeOf, typeInfo, hi, hz1]
  have hrun := run_slice_l (P := Try.prog) (w := w) 28 (some ⟨g, 0, none⟩) n cap ht .i64 (l : Int) (by omega) (by omega)
  rw [hsz] at hrun
  refine wpList_plain hg fun K hK => ?_
  unfold Oper.wp execOp
  simp only [ho, hx, hy, Option.map_some, Option.map_none, run_sliceAt_slice (h := ht), Sem.run_bind, hrun, Result.andThen_ok]
  refine hK _ _ ?_
  have := h (if cap = l then 0 else l * 18) (fun hlt => if_neg (by omega))
  unfold sliced
  rw [Int.toNat_natCast]
  by_cases hcl : cap = l
  · rw [if_pos hcl] at this ⊢; exact this
  · rw [if_neg hcl] at this ⊢
    simp only [Option.map_some, Addr.add_mid, Nat.zero_add]
    exact this
end

theorem range_from {w : World} {g cap l off : Nat} {ts : List Tm} (h : w.rangeAt g 0 (tc ts)) (hn : ts.length ≤ cap) (ho : l < cap → off = l * 18) : w.rangeAt g off (tc (ts.drop l)) := by
  by_cases hl : l < cap
  · rw [ho hl]
    have := rangeAt_drop h l
    rwa [Nat.zero_add] at this
  · rw [List.drop_eq_nil_of_le (by omega)]
    intro j v hv
    simp [tc] at hv

theorem range_new (w : World) (t : Tm) (T : TypeId) : (w.alloc (.cells t.cells T)).rangeAt w.heap.size 0 (tc [t]) := by
  intro j v hv
  have h := (Blk.new w t.cells T).cells j
  rw [Nat.zero_add]
  rw [h]
  have : tc [t] = t.vals := by simp [tc]
  rw [this] at hv
  simpa [Tm.cells] using hv
end Go.Proofs.Yticmlgnolbccjaa

/- The walk of the reference's way to add a term to a list. -/
set_option linter.unusedVariables false
set_option linter.unusedSimpArgs false
namespace Go.Proofs.Yticmlgnolbccjaa
open Go.RowKit

theorem low_step {p : Int} {n : Nat} {ts : List Tm} (h : Nf p n ts) {d : Dg} {m : Nat} (hm : m < ts.length) (ht : tlt ts[m].d d = true) : ∀ i (hi : i < ts.length), i < m + 1 → tlt ts[i].d d = true := by
  intro i hi him
  by_cases he : i = m
  · subst he; exact ht
  · exact tlt_trans (List.pairwise_iff_getElem.1 h.sorted i m hi hm (by omega)) ht
theorem high_step {p : Int} {n : Nat} {ts : List Tm} (h : Nf p n ts) {d : Dg} {m : Nat} (hm : m < ts.length) (ht : tlt ts[m].d d = false) : ∀ i (hi : i < ts.length), m ≤ i → tlt ts[i].d d = false := by
  intro i hi him
  by_cases he : i = m
  · subst he; exact ht
  · cases hx : tlt ts[i].d d with
    | false => rfl
    | true =>
      have := tlt_trans (List.pairwise_iff_getElem.1 h.sorted m i hm hi (by omega)) hx
      rw [ht] at this; cases this

set_option maxHeartbeats 1000000 in
set_option maxRecDepth 100000 in
theorem specPut_calls (p : Int) (n : Nat) (ts : List Tm) (d : Dg) (k : Int) (hp : 2 ≤ p) (hp97 : p ≤ 97) (hn1 : 1 ≤ n) (hn8 : n ≤ 8) (hnf : Nf p n ts) (hd : Good d) (hds : d.size = n) (hk1 : -1000000000 ≤ k) (hk2 : k ≤ 1000000000) (hlen : ts.length ≤ 100000)
    (base : Nat) (v : Value) (w : World) (hown : TsS w base v ts) (hbase : base ≤ w.heap.size) :
    Calls Try.prog 77 #[.int .i64 p, v, .agg d.cells, .int .i64 k] w fun e w' => ∃ v', e = .returned v' ∧ TsS w' base v' (put p ts d k) ∧ Below w.heap.size w w' := by
  obtain ⟨g, cap, rfl, hg1, hg2, hc1, hc2, hr⟩ := hown.out
  have hpd := hd.pts
  have Hnf := Lib.hid hnf
  have Hd := Lib.hid hd
  have hk0 := Int.emod_nonneg k (show p ≠ 0 by omega)
  have hkp := Int.emod_lt_of_pos k (show 0 < p by omega)
  have hput0 : k % p = 0 → put p ts d k = ts := fun h => if_pos h
  have hput1 : k % p ≠ 0 → put p ts d k = ins p d (k % p) ts := fun h => if_neg h
  generalize hkr : k % p = r at *
  have Hput0 := Lib.hid hput0
  have Hput1 := Lib.hid hput1
  clear hput0 hput1 hnf hd
  go_enter Try.func77, Try.ntmps77
  have hB := Blk.new w d.cells 47
  have hbel := (Below.refl w.heap.size w).alloc (Nat.le_refl _) (.cells d.cells 47)
  have hownA := hown.alloc (.cells d.cells 47)
  have hrA := rangeAt_below hr hbel hg2
  have hz : (w.alloc (.cells d.cells 47)).heap.size = w.heap.size + 1 := by simp
  by_cases h0 : r = 0
  · subst h0
    go_wp2_with (go_at_call 103; refine (specMod_calls _ _ _ (by omega) (by omega) (by omega) (by omega)).mono ?_; rw [hkr]; rintro e w' ⟨rfl, rfl⟩)
    go_ret
    refine ⟨_, rfl, ?_, hbel⟩
    rw [Hput0.out trivial]; exact hownA
  · have hr0 : (r == 0) = false := beq_eq_false_iff_ne.2 h0
    go_wp2_with (first | (go_at_call 103; refine (specMod_calls _ _ _ (by omega) (by omega) (by omega) (by omega)).mono ?_; rw [hkr]; rintro e w' ⟨rfl, rfl⟩) | (refine load_dg rfl _ rfl _ rfl _ _ hB ?_) | (go_at_call 113; refine (specText_calls _ _ hpd).mono ?_; rintro e w2 ⟨rfl, hb2⟩))
    have hB2 := hB.below hb2 (by omega)
    have hown2 := hownA.below hb2 (Nat.le_refl _)
    have hr2 := rangeAt_below hrA hb2 (by omega)
    have hbel2 := hbel.trans (hb2.mono (by omega))
    have hz2 := hb2.size
    rw [hz] at hz2
    clear hB hownA hrA hbel hb2 hz hown hr
    go_loopw [9, 10] (fun lo hi wr => ∃ l h : Nat, l ≤ h ∧ h ≤ ts.length ∧ lo = .int .i64 l ∧ hi = .int .i64 h ∧ (∀ i (hi : i < ts.length), i < l → tlt ts[i].d d = true) ∧ (∀ i (hi : i < ts.length), h ≤ i → tlt ts[i].d d = false) ∧ Below w2.heap.size w2 wr) (fun lo hi _ => (intOf hi).toNat - (intOf lo).toNat)
    case atStart => exact ⟨0, ts.length, by omega, by omega, rfl, rfl, fun i _ h => absurd h (by omega), fun i h h' => absurd h (by omega), Below.refl _ _⟩
    case round =>
      obtain ⟨l, h, hlh, hh, rfl, rfl, hlow, hhigh, hbw⟩ := hrel
      have hB3 := hB2.below hbw hB2.lt
      have hr3 := rangeAt_below hr2 hbw (by omega)
      by_cases hlt : l < h
      · have Hlow := Lib.hid hlow
        have Hhigh := Lib.hid hhigh
        clear hlow hhigh
        have hmid : (l + h) / 2 < ts.length := by omega
        have hmid2 : (((l : Int) + (h : Int)).tdiv 2) = (((l + h) / 2 : Nat) : Int) := by
          rw [Int.tdiv_eq_ediv_of_nonneg (by omega)]; omega
        generalize hmv : (l + h) / 2 = m at hmid hmid2
        have hm1 : l ≤ m := by omega
        have hm2 : m < h := by omega
        clear hmv
        obtain ⟨hrt, -⟩ := range_term hr3 m ts[m] (List.getElem?_eq_getElem hmid)
        rw [Nat.zero_add] at hrt
        have hgm := (Hnf.out.mem ts[m] (List.getElem_mem hmid)).1
        have hpm := hgm.pts
        go_wp2_with (first | (refine load_dg_mid rfl _ rfl _ _ rfl _ hrt ?_) | (go_at_call 113; refine (specText_calls _ _ hpm).mono ?_; rintro e w4 ⟨rfl, hb4⟩))
        · have hb5 := hbw.trans (hb4.mono hbw.size)
          go_roundw
          case rel =>
            refine ⟨m + 1, h, by omega, hh, by go_num, rfl, low_step Hnf.out hmid (by assumption), Hhigh.out, hb5⟩
          case measure => simp [intOf]; omega
        · have hb5 := hbw.trans (hb4.mono hbw.size)
          go_roundw
          case rel =>
            refine ⟨l, m, by omega, by omega, rfl, by go_num, Hlow.out, high_step Hnf.out hmid (by first | assumption | (unfold tlt Dg.key; simp_all)), hb5⟩
          case measure => simp [intOf]; omega
      · obtain rfl : l = h := by omega
        have hl2 := ins_low (p := p) (d := d) (k := r) ts l hh hlow (fun h => hhigh l h (Nat.le_refl _))
        rw [← Hput1.out h0] at hl2
        have hz3 := hbw.size
        have hown3 := hown2.below hbw (Nat.le_refl _)
        have hbel3 := hbel2.trans (hbw.mono (by omega))
        clear hown2 hr2 hbel2 hB2 hbw hlow hhigh
        generalize hres : put p ts d k = res at *
        have hs0 := TsS.new wr (base := w.heap.size) (b := wr.heap.size) (by omega) rfl
        go_wp2_with (at_builtin; refine append_ts rfl _ _ rfl w.heap.size _ [] rfl hs0 g 0 l cap (ts.take l) rfl (rangeAt_alloc (rangeAt_take hr3 l) _) (by simp; omega) (by simp; omega) (by simp; omega) ?_; intro v5 w5 hv5 hg5)
        rw [List.nil_append] at hv5
        have hB5 := (hB3.alloc (.cells #[] 57)).grown hg5 (fun e => by have h9 : w.heap.size = wr.heap.size := Option.some.inj e; omega)
        have hr5 := rangeAt_grown (rangeAt_alloc hr3 (.cells #[] 57)) hg5 (fun e => by have h9 : g = wr.heap.size := Option.some.inj e; omega)
        have hz5 := hg5.size
        have hbel5 := bel_grown (hbel3.alloc (by omega) (.cells #[] 57)) hg5 hs0.1 (Nat.le_refl _) (by simp; omega)
        have hz6 : w.heap.size + 1 ≤ w5.heap.size := by simp at hz5; omega
        clear hs0 hg5 hB3 hr3 hown3 hbel3 hz5
        by_cases hl : l < ts.length
        · rw [dif_pos hl] at hl2
          have hli : (l : Int) < (ts.length : Int) := by omega
          have hdl : decide ((l : Int) < (ts.length : Int)) = true := by simpa using hl
          obtain ⟨hrt, hrk⟩ := range_term hr5 l ts[l] (List.getElem?_eq_getElem hl)
          rw [Nat.zero_add] at hrt hrk
          have hgl := Hnf.out.mem ts[l] (List.getElem_mem hl)
          have heq := run_eql_dg ts[l].d d hgl.1.wf Hd.out.wf
          refine wp_region_ext (by kernel_rfl) (by kernel_rfl) ?_
          repeat (first | (go_big_quiet_want; refine quiet_load_dg_mid _ rfl _ _ rfl _ hrt (by omega) ?_; simp only [Act.put, List.setIfInBounds_toArray, List.set_cons_succ, List.set_cons_zero]; go_big_quiet_on) | (go_big_quiet_want; refine quiet_load_dg _ rfl _ rfl _ _ hB5 ?_; simp only [Act.put, List.setIfInBounds_toArray, List.set_cons_succ, List.set_cons_zero]; go_big_quiet_on) | go_big_quiet_step (fail))
          refine wpQuiet_nil ?_
          rintro _ ⟨⟨W, hW⟩, rfl⟩
          have hB6 := hB5.below hW hB5.lt
          have hv6 := hv5.below hW (Nat.le_refl _)
          have hr6 := rangeAt_below hr5 hW (by omega)
          have hbel6 := hbel5.trans (hW.mono (by omega))
          have hz7 := hW.size
          have hrk6 := (hW.cell (p := ⟨g, l * 18 + 17, none⟩) (by show g < w5.heap.size; omega)).trans hrk
          clear hB5 hv5 hr5 hbel5 hrk hrt hW
          by_cases hed : ts[l].d = d
          · rw [if_pos hed] at hl2
            have hdd : decide (ts[l].d = d) = true := by simpa using hed
            have hgk := hgl.2.2
            have hm0 := Int.emod_nonneg (ts[l].k + r) (show p ≠ 0 by omega)
            have hm1 := Int.emod_lt_of_pos (ts[l].k + r) (show 0 < p by omega)
            generalize hsv : (ts[l].k + r) % p = sv at *
            by_cases hs0 : sv = 0
            · rw [if_pos hs0] at hl2
              have hs1 : (sv == 0) = true := by simpa using hs0
              go_wp2_with (first | (go_at_call 103; refine (specMod_calls _ _ _ (by omega) (by omega) (by omega) (by omega)).mono ?_; rw [hsv]; rintro e w' ⟨rfl, rfl⟩) | (refine slice_from rfl _ _ rfl g ts.length cap (l + 1) rfl _ rfl (by omega) (by omega) hc1 ?_; intro off8 hoff8) | (at_builtin; refine append_ts rfl _ _ rfl w.heap.size v5 _ rfl hv6 g off8 _ _ (ts.drop (l + 1)) rfl (range_from hr6 hc1 hoff8) (by simp) (by simp; omega) (by omega) ?_; intro v8 w8 hv8 hg8; have hbel8 := bel_grown hbel6 hg8 hv6.1 (Nat.le_refl _) (by omega)))
              go_ret
              refine ⟨_, rfl, ?_, hbel8⟩
              rw [hres, hl2]
              have h9 := hv8.mono (base' := base) hbase
              simpa using h9
            · rw [if_neg hs0] at hl2
              have hs1 : (sv == 0) = false := beq_eq_false_iff_ne.2 hs0
              go_wp2_with (first | (go_at_call 103; refine (specMod_calls _ _ _ (by omega) (by omega) (by omega) (by omega)).mono ?_; rw [hsv]; rintro e w' ⟨rfl, rfl⟩) | (refine load_dg rfl _ rfl _ rfl _ _ hB6 ?_) | (refine build_term rfl _ _ rfl d (sv) rfl rfl ?_) | (refine row_term rfl _ rfl ⟨d, sv⟩ rfl ?_) | (at_builtin; refine append_ts rfl _ _ rfl w.heap.size v5 (ts.take l) rfl (hv6.alloc _) _ 0 1 1 [⟨d, sv⟩] rfl (range_new _ _ _) rfl (by simp; omega) (by simp; omega) ?_; intro v7 w7 hv7 hg7; have hr7 := rangeAt_grown (rangeAt_alloc hr6 _) hg7 (own_ne hv6.1 (by omega)); have hbel7 := bel_grown (hbel6.alloc (by omega) _) hg7 (hv6.alloc _).1 (Nat.le_refl _) (by simp; omega); have hz8 : w.heap.size ≤ w7.heap.size := hbel7.size) | (refine slice_from rfl _ _ rfl g ts.length cap (l + 1) rfl _ rfl (by omega) (by omega) hc1 ?_; intro off8 hoff8) | (at_builtin; refine append_ts rfl _ _ rfl w.heap.size v7 _ rfl hv7 g off8 _ _ (ts.drop (l + 1)) rfl (range_from hr7 hc1 hoff8) (by simp) (by simp; omega) (by omega) ?_; intro v8 w8 hv8 hg8; have hbel8 := bel_grown hbel7 hg8 hv7.1 (Nat.le_refl _) (by omega)))
              go_ret
              refine ⟨_, rfl, ?_, hbel8⟩
              rw [hres, hl2]
              have h9 := hv8.mono (base' := base) hbase
              simpa using h9
          · rw [if_neg hed] at hl2
            have hdd : decide (ts[l].d = d) = false := by simpa using hed
            go_wp2_with (first | (refine load_dg rfl _ rfl _ rfl _ _ hB6 ?_) | (refine build_term rfl _ _ rfl d (r) rfl rfl ?_) | (refine row_term rfl _ rfl ⟨d, r⟩ rfl ?_) | (at_builtin; refine append_ts rfl _ _ rfl w.heap.size v5 (ts.take l) rfl (hv6.alloc _) _ 0 1 1 [⟨d, r⟩] rfl (range_new _ _ _) rfl (by simp; omega) (by simp; omega) ?_; intro v7 w7 hv7 hg7; have hr7 := rangeAt_grown (rangeAt_alloc hr6 _) hg7 (own_ne hv6.1 (by omega)); have hbel7 := bel_grown (hbel6.alloc (by omega) _) hg7 (hv6.alloc _).1 (Nat.le_refl _) (by simp; omega); have hz8 : w.heap.size ≤ w7.heap.size := hbel7.size) | (refine slice_from rfl _ _ rfl g ts.length cap (l) rfl _ rfl (by omega) (by omega) hc1 ?_; intro off8 hoff8) | (at_builtin; refine append_ts rfl _ _ rfl w.heap.size v7 _ rfl hv7 g off8 _ _ (ts.drop (l)) rfl (range_from hr7 hc1 hoff8) (by simp) (by simp; omega) (by omega) ?_; intro v8 w8 hv8 hg8; have hbel8 := bel_grown hbel7 hg8 hv7.1 (Nat.le_refl _) (by omega)))
            go_ret
            refine ⟨_, rfl, ?_, hbel8⟩
            rw [hres, hl2]
            have h9 := hv8.mono (base' := base) hbase
            simpa using h9
        · rw [dif_neg hl] at hl2
          have hdl : decide ((l : Int) < (ts.length : Int)) = false := by simp; omega
          have hll : l = ts.length := by omega
          refine wp_region_ext (by kernel_rfl) (by kernel_rfl) ?_
          repeat (first | go_big_quiet_step (fail))
          refine wpQuiet_nil ?_
          rintro _ ⟨⟨W, hW⟩, rfl⟩
          have hB6 := hB5.below hW hB5.lt
          have hv6 := hv5.below hW (Nat.le_refl _)
          have hr6 := rangeAt_below hr5 hW (by omega)
          have hbel6 := hbel5.trans (hW.mono (by omega))
          have hz7 := hW.size
          clear hB5 hv5 hr5 hbel5 hW
          go_wp2_with (first | (refine load_dg rfl _ rfl _ rfl _ _ hB6 ?_) | (refine build_term rfl _ _ rfl d (r) rfl rfl ?_) | (refine row_term rfl _ rfl ⟨d, r⟩ rfl ?_) | (at_builtin; refine append_ts rfl _ _ rfl w.heap.size v5 (ts.take l) rfl (hv6.alloc _) _ 0 1 1 [⟨d, r⟩] rfl (range_new _ _ _) rfl (by simp; omega) (by simp; omega) ?_; intro v7 w7 hv7 hg7; have hr7 := rangeAt_grown (rangeAt_alloc hr6 _) hg7 (own_ne hv6.1 (by omega)); have hbel7 := bel_grown (hbel6.alloc (by omega) _) hg7 (hv6.alloc _).1 (Nat.le_refl _) (by simp; omega); have hz8 : w.heap.size ≤ w7.heap.size := hbel7.size) | (refine slice_from rfl _ _ rfl g ts.length cap (l) rfl _ rfl (by omega) (by omega) hc1 ?_; intro off8 hoff8) | (at_builtin; refine append_ts rfl _ _ rfl w.heap.size v7 _ rfl hv7 g off8 _ _ (ts.drop (l)) rfl (range_from hr7 hc1 hoff8) (by simp) (by simp; omega) (by omega) ?_; intro v8 w8 hv8 hg8; have hbel8 := bel_grown hbel7 hg8 hv7.1 (Nat.le_refl _) (by omega)))
          go_ret
          refine ⟨_, rfl, ?_, hbel8⟩
          rw [hres, hl2]
          have h9 := hv8.mono (base' := base) hbase
          rw [hll, List.take_length, List.drop_length] at h9
          simpa using h9
end Go.Proofs.Yticmlgnolbccjaa

/- Regions that draw their order: loads first, in the worlds in which old memory lies unturned; then each order of what makes memory. -/
set_option linter.unusedVariables false
set_option linter.unusedSimpArgs false
namespace Go.Proofs.Yticmlgnolbccjaa
open Go.RowKit

section
variable {P : Program} {ops : Array Oper} {Q : Exit → Act → World → Prop} {md : Region.Mode} {S : World → Prop}

theorem allH_cons {fuel : Nat} {listed : Array Bool} {a : Act} {w : World} {i : Nat} {o : Oper} {rs : List Nat} (ho : ops[i]? = some o) (hg : o.guard = none)
    (h : ∀ K' : Act → World → Prop, (∀ a w, S w → wpAnyH P md ops Q S fuel (listed.setIfInBounds i true) a w → K' a w) → Oper.wp P o a w K' Q)
    (hs : AllReadyH P md ops Q S fuel listed a w rs) : AllReadyH P md ops Q S fuel listed a w (i :: rs) :=
  AllReadyH.cons ho (fun K' hK => by rw [if_pos (by simp [Region.wanted, hg])]; exact h K' fun a w hS hW => hK.out a w hS fun _ => hW) hs

/-- What yields in each world that meets S is taken first. -/
theorem takeH {i : Nat} {oi : Oper} {v : Value} {fuel : Nat} {listed : Array Bool} {a : Act} {w : World} (hi : ops[i]? = some oi)
    (hs : Region.noSelect ops = true) (hf : Region.free md ops listed i = true) (hr : (Region.ready md ops listed).contains i = true)
    (hQ : ∀ t v c a w, Q (.panic c) (a.put (some t) v) w → Q (.panic c) a w) (hS : S w) {t : Tmp} (hd : oi.dst = some t) (hg : oi.guard = none) (hy : ∀ w, S w → (execOp a.eval oi).run P w = .ok (.value v) w)
    (h : wpAnyH P md ops Q S fuel (listed.setIfInBounds i true) (a.put oi.dst v) w) : wpAnyH P md ops Q S (fuel + 1) listed a w :=
  wpAnyH_take hi hs hf hr (by rw [hd]; exact hQ t v) (.inl ⟨by simp [Region.wanted, hg], hy⟩) hS h

/-- The same, what is closed reckoned by the kernel. -/
theorem takeA (i : Nat) {oi : Oper} {v : Value} {fuel : Nat} {listed : Array Bool} {a : Act} {w : World} (hS : S w)
    (hy : ∀ w, S w → (execOp a.eval oi).run P w = .ok (.value v) w)
    (h : wpAnyH P md ops Q S fuel (listed.setIfInBounds i true) (a.put oi.dst v) w)
    (hi : ops[i]? = some oi := by simp only [List.getElem?_toArray, List.getElem?_cons_succ, List.getElem?_cons_zero]; rfl)
    (hs : Region.noSelect ops = true := by decide +kernel) (hf : Region.free md ops listed i = true := by decide +kernel) (hr : (Region.ready md ops listed).contains i = true := by decide +kernel)
    (hQ : ∀ t v c a w, Q (.panic c) (a.put (some t) v) w → Q (.panic c) a w := by exact fun _ _ _ _ _ h => h) {t : Tmp} (hd : oi.dst = some t := by rfl) (hg : oi.guard = none := by rfl) :
    wpAnyH P md ops Q S (fuel + 1) listed a w := takeH hi hs hf hr hQ hS hd hg hy h
theorem allA {fuel : Nat} {listed : Array Bool} {a : Act} {w : World} (i : Nat) {o : Oper} {rs : List Nat}
    (h : ∀ K' : Act → World → Prop, (∀ a w, S w → wpAnyH P md ops Q S fuel (listed.setIfInBounds i true) a w → K' a w) → Oper.wp P o a w K' Q)
    (hs : AllReadyH P md ops Q S fuel listed a w rs)
    (ho : ops[i]? = some o := by simp only [List.getElem?_toArray, List.getElem?_cons_succ, List.getElem?_cons_zero]; rfl) (hg : o.guard = none := by rfl) : AllReadyH P md ops Q S fuel listed a w (i :: rs) := allH_cons ho hg h hs

/-- The beginning, at the worlds in which old memory lies unturned. -/
theorem wp_region_old {id : Nat} {a : Act} {w : World} (hm : P.follows .mixedOrders = true)
    (h : Ext w w.drew → wpAnyH P .any ops Q (Ext w) ops.size (Array.replicate ops.size false) a w.drew) : (Code.region id ops true).wp P Q a w :=
  wp_region_held hm (h (Ext.drew w))

theorem Ext.alloc {w W : World} (h : Ext w W) (o : Obj) : Ext w (W.alloc o) := Below.alloc h h.size o
theorem Ext.call {w W W' : World} (h : Ext w W) (hb : Below W.heap.size W W') : Ext w W' := Below.trans h (hb.mono h.size)
theorem Ext.only {w W W' : World} {b : Nat} (h : Ext w W) (ho : Only W W' b) (hb : w.heap.size ≤ b) : Ext w W' := Below.trans h (ho.below hb)
theorem Ext.cell {w W : World} (h : Ext w W) {g o : Nat} {v : Value} (hc : w.cell? ⟨g, o, none⟩ = some v) : W.cell? ⟨g, o, none⟩ = some v :=
  (Below.cell (p := ⟨g, o, none⟩) h (World.block_lt_of_cell? w _ hc)).trans hc
end

section
variable {ops : Array Oper} {a : Act} {o : Oper} {w : World}
theorem held_dg {W : World} (hW : Ext w W) {a : Act} {o : Oper} {v : Value} (x : Operand) (ho : o.op = .load 47 x) (b off : Nat) (hx : a.eval x = .pointer (some ⟨b, off, none⟩)) (d : Dg) (h : w.rangeAt b off d.list) (hlt : b < w.heap.size) (hv : v = .agg d.cells) :
    (execOp a.eval o).run Try.prog W = .ok (.value v) W := by
  subst hv
  unfold execOp
  simp only [ho, hx, Instr.loadAt, Instr.sureAddr, Sem.run_bind, Sem.run_pure, Result.andThen_ok, run_loadVar_mid W b off 47 d.list _ (rangeAt_below h hW hlt) Try.underlying47 rfl (by rw [d.length_list]; exact (info_dg).trans rfl)]
  rfl
end
end Go.Proofs.Yticmlgnolbccjaa

/- Plain: the product of two lists of terms. -/
set_option linter.unusedVariables false
set_option linter.unusedSimpArgs false
namespace Go.Proofs.Yticmlgnolbccjaa
open Go.RowKit

/-- One product more. -/
def mstep (p c : Int) (n : Nat) (acc : List Tm) (t u : Tm) : List Tm := put p acc (prodD t.d u.d n) (t.k * u.k % p * powm p c (prodL t.d u.d n))
def mrow (p c : Int) (n : Nat) (acc : List Tm) (t : Tm) (us : List Tm) (j : Nat) : List Tm := (us.take j).foldl (fun a u => mstep p c n a t u) acc
def mulTo (p c : Int) (n : Nat) (ts us : List Tm) (i : Nat) : List Tm := (ts.take i).foldl (fun a t => mrow p c n a t us us.length) []
/-- The product. -/
def mulT (p c : Int) (n : Nat) (ts us : List Tm) : List Tm := mulTo p c n ts us ts.length

section
variable {p c : Int} {n : Nat} {ts us : List Tm}
theorem mrow_zero (acc : List Tm) (t : Tm) : mrow p c n acc t us 0 = acc := rfl
theorem mrow_succ (acc : List Tm) (t : Tm) (j : Nat) (h : j < us.length) : mrow p c n acc t us (j + 1) = mstep p c n (mrow p c n acc t us j) t us[j] := by
  unfold mrow
  rw [List.take_succ_eq_append_getElem h, List.foldl_append]; rfl
theorem mulTo_zero : mulTo p c n ts us 0 = [] := rfl
theorem mulTo_succ (i : Nat) (h : i < ts.length) : mulTo p c n ts us (i + 1) = mrow p c n (mulTo p c n ts us i) ts[i] us us.length := by
  unfold mulTo
  rw [List.take_succ_eq_append_getElem h, List.foldl_append]; rfl

theorem length_ins (d : Dg) (k : Int) : ∀ ts : List Tm, (ins p d k ts).length ≤ ts.length + 1
  | [] => by simp [ins]
  | t :: ts => by
    unfold ins
    split
    · have := length_ins d k ts; simp only [List.length_cons]; omega
    · split
      · split
        · simp only [List.length_cons]; omega
        · simp
      · simp
theorem length_put (ts : List Tm) (d : Dg) (k : Int) : (put p ts d k).length ≤ ts.length + 1 := by
  unfold put; split
  · omega
  · exact length_ins d _ ts

theorem prod_good {d e : Dg} (hd : Good d) (he : Good e) (hds : d.size = n) (hes : e.size = n) : Good (prodD d e n) := by
  have h1 := hd.ok.1
  exact prodD_good (two_of_good hd he hds hes) (by omega) (by omega)

theorem mstep_nf (hp : 2 ≤ p) {acc : List Tm} (h : Nf p n acc) {t u : Tm} (ht : Good t.d ∧ t.d.size = n) (hu : Good u.d ∧ u.d.size = n) : Nf p n (mstep p c n acc t u) :=
  put_nf hp (prod_good ht.1 hu.1 ht.2 hu.2) prodD_size h
theorem mrow_nf (hp : 2 ≤ p) (hu : Nf p n us) {acc : List Tm} (h : Nf p n acc) {t : Tm} (ht : Good t.d ∧ t.d.size = n) : ∀ j, j ≤ us.length → Nf p n (mrow p c n acc t us j)
  | 0, _ => h
  | j + 1, hj => by
    rw [mrow_succ acc t j (by omega)]
    have := hu.mem us[j] (List.getElem_mem _)
    exact mstep_nf hp (mrow_nf hp hu h ht j (by omega)) ht ⟨this.1, this.2.1⟩
theorem mulTo_nf (hp : 2 ≤ p) (ht : Nf p n ts) (hu : Nf p n us) : ∀ i, i ≤ ts.length → Nf p n (mulTo p c n ts us i)
  | 0, _ => nf_nil p n
  | i + 1, hi => by
    rw [mulTo_succ i (by omega)]
    have := ht.mem ts[i] (List.getElem_mem _)
    exact mrow_nf hp hu (mulTo_nf hp ht hu i (by omega)) ⟨this.1, this.2.1⟩ _ (Nat.le_refl _)
theorem mrow_length (acc : List Tm) (t : Tm) : ∀ j, j ≤ us.length → (mrow p c n acc t us j).length ≤ acc.length + j
  | 0, _ => Nat.le_refl _
  | j + 1, hj => by
    rw [mrow_succ acc t j (by omega)]
    have := length_put (p := p) (mrow p c n acc t us j) (prodD t.d us[j].d n) (t.k * us[j].k % p * powm p c (prodL t.d us[j].d n))
    have := mrow_length acc t j (by omega)
    unfold mstep; omega
theorem mulTo_length : ∀ i, i ≤ ts.length → (mulTo p c n ts us i).length ≤ i * us.length
  | 0, _ => by simp [mulTo_zero]
  | i + 1, hi => by
    rw [mulTo_succ i (by omega)]
    have h1 := mrow_length (p := p) (c := c) (n := n) (us := us) (mulTo p c n ts us i) ts[i] us.length (Nat.le_refl _)
    have h2 := mulTo_length i (by omega)
    rw [Nat.add_mul]; omega
theorem mulT_nf (hp : 2 ≤ p) (ht : Nf p n ts) (hu : Nf p n us) : Nf p n (mulT p c n ts us) := mulTo_nf hp ht hu _ (Nat.le_refl _)
end
end Go.Proofs.Yticmlgnolbccjaa

/- The walks of the reference's small functions on elements. -/
set_option linter.unusedVariables false
set_option linter.unusedSimpArgs false
namespace Go.Proofs.Yticmlgnolbccjaa
open Go.RowKit

/-- The cells of an element. -/
def el (p c : Int) (n : Nat) (v : Value) : Value := .agg #[.int .i64 p, .int .i64 c, .int .i64 n, v]

theorem info_el : (Try.prog.info? 30).map (·.size) = some 4 := by kernel_rfl
section
variable {a : Act} {w : World}
/-- The end of a walk whose result is an element. -/
theorem ret_el {fn : Func} {R : Ending → World → Prop} {q : Tmp} (hr : fn.results = #[.cell q 30]) (b : Nat) (hp : a.tmps.getD q undef = .pointer (some ⟨b, 0, none⟩)) (cs : Array Value) (hs : cs.size = 4) (T : TypeId) (h : Blk w b cs T)
    (hd : a.defers = []) (hR : R (.returned (.agg cs)) w) : bodyPost Try.prog fn R .ret a w :=
  bodyPost_ret (results_cell_row hr _ w b T cs (0, 0) _ hp h Try.underlying30 rfl (by rw [info_el, hs])) hd hR
theorem ret_el_tmp {fn : Func} {R : Ending → World → Prop} {q t : Tmp} (hr : fn.results = #[.cell q 30, .tmp t]) (b : Nat) (hp : a.tmps.getD q undef = .pointer (some ⟨b, 0, none⟩)) (cs : Array Value) (hs : cs.size = 4) (T : TypeId) (h : Blk w b cs T)
    (v : Value) (ht : a.tmps.getD t undef = v) (hd : a.defers = []) (hR : R (.returned (.tuple #[.agg cs, v])) w) : bodyPost Try.prog fn R .ret a w := by
  refine bodyPost_ret (v := .tuple #[.agg cs, v]) ?_ hd hR
  have hp' : a.tmps[q]?.getD undef = .pointer (some ⟨b, 0, none⟩) := by simpa using hp
  have ht' : a.tmps[t]?.getD undef = v := by simpa using ht
  simp [results, hr, hp', ht', asAddr, run_loadVar_row w b T 30 cs (0, 0) _ h Try.underlying30 rfl (by rw [info_el, hs])]
end

section
variable {ops : Array Oper} {rest : List Oper} {o : Oper} {a : Act} {w : World} {Q : Exit → Act → World → Prop}
theorem load_el (hgd : o.guard = none) (x : Operand) (ho : o.op = .load 30 x) (b : Nat) (hx : a.eval x = .pointer (some ⟨b, 0, none⟩)) (cs : Array Value) (hs : cs.size = 4) (T : TypeId) (h : Blk w b cs T)
    (hK : wpList Try.prog ops Q rest (a.put o.dst (.agg cs)) w) : wpList Try.prog ops Q (o :: rest) a w :=
  wpList_load_row hgd _ x ho b hx T cs (0, 0) _ h Try.underlying30 rfl (by rw [info_el, hs]) hK
theorem store_el (hgd : o.guard = none) (x y : Operand) (ho : o.op = .store 30 x y) (b : Nat) (hx : a.eval x = .pointer (some ⟨b, 0, none⟩)) (ns : Array Value) (hy : a.eval y = .agg ns) (hn : ns.size = 4) (h1 : ns.all (·.oneCell') = true)
    (cs : Array Value) (T : TypeId) (h : Blk w b cs T) (hs : cs.size = 4)
    (hK : ∀ w', Blk w' b ns T → Only w w' b → wpList Try.prog ops Q rest (a.put o.dst undef) w') : wpList Try.prog ops Q (o :: rest) a w := by
  refine wpList_store_row hgd _ x y ho b ns hx hy T cs h (by rw [info_el, hn]) (by rw [hs, hn]) h1 (hK _ ?_ ?_)
  · exact setRow_heap w b cs _ T _ h
  · exact ⟨rfl, rfl, rfl, by simp, fun k hk => setRow_heap_other w b k _ hk⟩
theorem el_all {p c : Int} {n : Int} {v : Value} (h : v.oneCell' = true) : (#[.int .i64 p, .int .i64 c, .int .i64 n, v] : Array Value).all (·.oneCell') = true := by
  refine all_oneCell_toArray (cs := [.int .i64 p, .int .i64 c, .int .i64 n, v]) fun x hx => ?_
  simp only [List.mem_cons, List.not_mem_nil, or_false] at hx
  rcases hx with rfl | rfl | rfl | rfl <;> first | rfl | exact h
theorem TsS.oneCell {base : Nat} {v : Value} {ts : List Tm} (h : TsS w base v ts) : v.oneCell' = true := by
  obtain ⟨g, cap, rfl, -⟩ := h.out; rfl
end

set_option maxRecDepth 100000 in
theorem specEmpty_calls (p c : Int) (n : Nat) (v : Value) (w : World) : Calls Try.prog 38 #[el p c n v] w fun e w' => ∃ v', e = .returned (el p c n v') ∧ TsS w' w.heap.size v' [] ∧ Below w.heap.size w w' := by
  unfold el
  go_enter Try.func38, Try.ntmps38
  go_wp2
  refine ret_el rfl _ rfl _ rfl _ ((Blk.newAt (w.alloc (.cells #[.int .i64 p, .int .i64 c, .int .i64 n, v] 30)) _ 30 (b := w.heap.size + 1) (by simp)).alloc _) rfl ?_
  exact ⟨_, rfl, TsS.new _ (by omega) (by simp), (((Below.refl _ w).alloc (Nat.le_refl _) _).alloc (by simp) _).alloc (by simp; omega) _⟩
end Go.Proofs.Yticmlgnolbccjaa
