/- Plain: the program and the reference count the same loops. -/
import Derived.Test.YticmlgnolbccjaaF2
set_option linter.unusedVariables false
set_option linter.unusedSimpArgs false
namespace Go.Proofs.Yticmlgnolbccjaa
open Go.RowKit

/-- Pairs without fixed points, on some points. -/
structure Fl (U : Nat → Prop) (f : Nat → Nat) : Prop where
  cl : ∀ x, U x → U (f x)
  inv : ∀ x, U x → f (f x) = x
  ne : ∀ x, U x → f x ≠ x

/-- One after the other. -/
def alt (f g : Nat → Nat) : Nat → Nat → Nat
  | 0, x => x
  | t + 1, x => alt g f t (f x)

section
variable {U : Nat → Prop} {f g : Nat → Nat}

theorem alt_u (F : Fl U f) (G : Fl U g) : ∀ (t x : Nat), U x → U (alt f g t x) := by
  intro t
  induction t generalizing f g with
  | zero => exact fun x h => h
  | succ t ih => exact fun x h => ih G F _ (F.cl x h)
theorem alt_succ : ∀ (t : Nat) (f g : Nat → Nat) (x : Nat), alt f g (t + 1) x = if t % 2 = 0 then f (alt f g t x) else g (alt f g t x)
  | 0, f, g, x => rfl
  | t + 1, f, g, x => by
    show alt g f (t + 1) (f x) = _
    rw [alt_succ t]
    show _ = if (t + 1) % 2 = 0 then f (alt g f t (f x)) else g (alt g f t (f x))
    by_cases h : t % 2 = 0
    · rw [if_pos h, if_neg (by omega)]
    · rw [if_neg h, if_pos (by omega)]
theorem alt_odd : ∀ (c : Nat) (f g : Nat → Nat), Fl U f → Fl U g → ∀ x, U x → alt f g (2 * c + 1) x ≠ x
  | 0, f, g, F, G, x, h => F.ne x h
  | c + 1, f, g, F, G, x, h => by
    intro he
    rw [show 2 * (c + 1) + 1 = (2 * c + 2) + 1 from rfl, alt_succ, if_pos (by omega)] at he
    have h1 := alt_u F G (2 * c + 2) x h
    have h2 : alt f g (2 * c + 2) x = f x := by rw [← F.inv _ h1, he]
    exact alt_odd c g f G F (f x) (F.cl x h) h2
theorem alt_add : ∀ (a b : Nat) (f g : Nat → Nat) (x : Nat), alt f g (a + b) x = if a % 2 = 0 then alt f g b (alt f g a x) else alt g f b (alt f g a x)
  | 0, b, f, g, x => by rw [Nat.zero_add]; rfl
  | a + 1, b, f, g, x => by
    rw [show a + 1 + b = (a + b) + 1 from by omega]
    show alt g f (a + b) (f x) = if (a + 1) % 2 = 0 then alt f g b (alt g f a (f x)) else alt g f b (alt g f a (f x))
    rw [alt_add a b]
    by_cases h : a % 2 = 0
    · rw [if_pos h, if_neg (by omega)]
    · rw [if_neg h, if_pos (by omega)]

/-- Two steps tell where they began. -/
theorem alt_inj (F : Fl U f) (G : Fl U g) : ∀ (c x y : Nat), U x → U y → alt f g (2 * c) x = alt f g (2 * c) y → x = y
  | 0, x, y, _, _, h => h
  | c + 1, x, y, hx, hy, h => by
    have h1 : g (f x) = g (f y) := alt_inj F G c _ _ (G.cl _ (F.cl x hx)) (G.cl _ (F.cl y hy)) h
    have h2 : f x = f y := by rw [← G.inv _ (F.cl x hx), h1, G.inv _ (F.cl y hy)]
    rw [← F.inv x hx, h2, F.inv y hy]
theorem alt_cut (F : Fl U f) (G : Fl U g) (a c x : Nat) (hx : U x) (h : a ≤ c) (he : alt f g (2 * c) x = alt f g (2 * a) x) : alt f g (2 * (c - a)) x = x := by
  have h1 : alt f g (2 * c) x = alt f g (2 * a) (alt f g (2 * (c - a)) x) := by
    rw [show 2 * c = 2 * (c - a) + 2 * a from by omega, alt_add, if_pos (by omega)]
  rw [h1] at he
  exact alt_inj F G a _ _ (alt_u F G _ x hx) hx he
/-- There is a way back. -/
theorem alt_back (F : Fl U f) (G : Fl U g) {n : Nat} (hU : ∀ x, U x → x < n) (x : Nat) (hx : U x) : ∃ c, 0 < c ∧ c ≤ n ∧ alt f g (2 * c) x = x := by
  obtain ⟨i, j, hij, hj, he⟩ := pigeon n (fun c => alt f g (2 * c) x) (fun c _ => hU _ (alt_u F G _ x hx))
  exact ⟨j - i, by omega, by omega, alt_cut F G i j x hx (by omega) he.symm⟩

/-- What lies on a way that comes back is closed. -/
theorem alt_closed (F : Fl U f) (G : Fl U g) (c x : Nat) (hx : U x) (hc : 0 < c) (h : alt f g (2 * c) x = x) (t : Nat) (ht : t < 2 * c) :
    (∃ s, s < 2 * c ∧ f (alt f g t x) = alt f g s x) ∧ ∃ s, s < 2 * c ∧ g (alt f g t x) = alt f g s x := by
  have up : ∀ t, t < 2 * c → ∃ s, s < 2 * c ∧ (if t % 2 = 0 then f (alt f g t x) else g (alt f g t x)) = alt f g s x := by
    intro t ht
    rw [← alt_succ]
    by_cases h1 : t + 1 < 2 * c
    · exact ⟨t + 1, h1, rfl⟩
    · exact ⟨0, by omega, by rw [show t + 1 = 2 * c from by omega, h]; rfl⟩
  have down : ∀ t, 0 < t → t ≤ 2 * c → ∃ s, s < 2 * c ∧ (if t % 2 = 0 then g (alt f g t x) else f (alt f g t x)) = alt f g s x := by
    intro t h0 h1
    obtain ⟨s, rfl⟩ : ∃ s, t = s + 1 := ⟨t - 1, by omega⟩
    refine ⟨s, by omega, ?_⟩
    have hu := alt_u F G s x hx
    rw [alt_succ]
    by_cases h2 : s % 2 = 0
    · rw [if_neg (by omega), if_pos h2, F.inv _ hu]
    · rw [if_pos (by omega), if_neg h2, G.inv _ hu]
  have hu := up t ht
  have hd : ∃ s, s < 2 * c ∧ (if t % 2 = 0 then g (alt f g t x) else f (alt f g t x)) = alt f g s x := by
    by_cases h0 : t = 0
    · subst h0
      have := down (2 * c) (by omega) (Nat.le_refl _)
      rw [h] at this
      rw [if_pos (by omega)] at this
      exact this
    · exact down t (by omega) (by omega)
  by_cases h2 : t % 2 = 0
  · rw [if_pos h2] at hu hd; exact ⟨hu, hd⟩
  · rw [if_neg h2] at hu hd; exact ⟨hd, hu⟩
end

section
variable {d e : Dg} {n : Nat}

/-- The mates of middle points. -/
def me (d e : Dg) (x : Nat) : Nat := hop d e true x
def md (d e : Dg) (n x : Nat) : Nat := hop d e false (n + x) - n

/-- The points that are not marked have middle points that are not marked as mates on both sides. -/
structure Sat (d e : Dg) (n : Nat) (S : Nat → Bool) : Prop where
  em : ∀ x, x < n → S x = false → hop d e true x < n ∧ S (hop d e true x) = false
  dm : ∀ x, x < n → S x = false → n ≤ hop d e false (n + x) ∧ S (hop d e false (n + x) - n) = false
  out : ∀ x, n ≤ x → S x = false

def Un (n : Nat) (S : Nat → Bool) (x : Nat) : Prop := x < n ∧ S x = false

theorem fl_me (H : Two n (hop d e)) {S : Nat → Bool} (h : Sat d e n S) : Fl (Un n S) (me d e) :=
  ⟨fun x hx => h.em x hx.1 hx.2, fun x hx => H.inv true x (by have := hx.1; omega), fun x hx => H.ne true x (by have := hx.1; omega)⟩
theorem fl_md (H : Two n (hop d e)) {S : Nat → Bool} (h : Sat d e n S) : Fl (Un n S) (md d e n) := by
  refine ⟨fun x hx => ?_, fun x hx => ?_, fun x hx => ?_⟩
  · have h1 := h.dm x hx.1 hx.2
    have h2 := H.lt false (n + x) (by have := hx.1; omega)
    exact ⟨by unfold md; omega, h1.2⟩
  · have h1 := h.dm x hx.1 hx.2
    have h3 := H.inv false (n + x) (by have := hx.1; omega)
    unfold md
    rw [show n + (hop d e false (n + x) - n) = hop d e false (n + x) from by omega, h3]
    omega
  · have h1 := h.dm x hx.1 hx.2
    have h3 := H.ne false (n + x) (by have := hx.1; omega)
    unfold md
    omega

/-- With a closed set of points more. -/
theorem sat_more (H : Two n (hop d e)) {S : Nat → Bool} (h : Sat d e n S) (V : Nat → Prop) [DecidablePred V] (hV : ∀ x, V x → Un n S x ∧ V (me d e x) ∧ V (md d e n x)) : Sat d e n (fun x => S x || decide (V x)) := by
  refine ⟨fun x hx hs => ?_, fun x hx hs => ?_, fun x hx => ?_⟩
  · simp only [Bool.or_eq_false_iff, decide_eq_false_iff_not] at hs ⊢
    have h1 := h.em x hx hs.1
    refine ⟨h1.1, h1.2, fun hv => hs.2 ?_⟩
    have := (hV _ hv).2.1
    rwa [show me d e (hop d e true x) = x from H.inv true x (by omega)] at this
  · simp only [Bool.or_eq_false_iff, decide_eq_false_iff_not] at hs ⊢
    have h1 := h.dm x hx hs.1
    refine ⟨h1.1, h1.2, fun hv => hs.2 ?_⟩
    have := (hV _ hv).2.2
    rwa [show md d e n (hop d e false (n + x) - n) = x from (fl_md H h).inv x ⟨hx, hs.1⟩] at this
  · simp only [Bool.or_eq_false_iff, decide_eq_false_iff_not]
    refine ⟨h.out x hx, fun hv => ?_⟩
    have := (hV x hv).1.1; omega

/-- The loop that the program goes. -/
theorem fol_loop (H : Two n (hop d e)) {S : Nat → Bool} (h : Sat d e n S) (m : Nat) (hm : Un n S m) (c : Nat) (hback : alt (me d e) (md d e n) (2 * c) m = m) :
    ∀ (k t : Nat), t < 2 * c → 2 * c - t ≤ k → ∃ r k', t < k' ∧ k' ≤ 2 * c ∧ alt (me d e) (md d e n) k' m = m ∧
      fol d e n m k (decide (t % 2 = 0)) (if t % 2 = 0 then alt (me d e) (md d e n) t m else n + alt (me d e) (md d e n) t m) = some r ∧ ∀ x, x ∈ r.2 ↔ ∃ s, t < s ∧ s ≤ k' ∧ x = alt (me d e) (md d e n) s m
  | 0, t, h1, h2 => by omega
  | k + 1, t, h1, h2 => by
    have hu := alt_u (fl_me H h) (fl_md H h) t m hm
    have hu1 := alt_u (fl_me H h) (fl_md H h) (t + 1) m hm
    have hs := alt_succ t (me d e) (md d e n) m
    have key : ∀ l p, l = decide (t % 2 = 0) → p = (if t % 2 = 0 then alt (me d e) (md d e n) t m else n + alt (me d e) (md d e n) t m) →
        ¬ l = decide (n ≤ hop d e l p) ∧ hop d e l p % n = alt (me d e) (md d e n) (t + 1) m ∧ (!l) = decide ((t + 1) % 2 = 0) ∧
        (if l then n + hop d e l p % n else hop d e l p % n) = (if (t + 1) % 2 = 0 then alt (me d e) (md d e n) (t + 1) m else n + alt (me d e) (md d e n) (t + 1) m) := by
      rintro l p hl hp
      by_cases ht : t % 2 = 0
      · rw [if_pos ht] at hp hs
        rw [decide_eq_true ht] at hl
        subst hl
        rw [hp]
        have hq : hop d e true (alt (me d e) (md d e n) t m) = alt (me d e) (md d e n) (t + 1) m := by rw [hs]; rfl
        have hlt := hu1.1
        rw [hq, Nat.mod_eq_of_lt hlt, decide_eq_false (by omega), decide_eq_false (by omega), if_pos rfl, if_neg (by omega)]
        exact ⟨by simp, rfl, rfl, rfl⟩
      · rw [if_neg ht] at hp hs
        rw [decide_eq_false ht] at hl
        subst hl
        rw [hp]
        have hd := h.dm _ hu.1 hu.2
        have hlt := hu1.1
        have hq : hop d e false (n + alt (me d e) (md d e n) t m) = n + alt (me d e) (md d e n) (t + 1) m := by rw [hs]; unfold md at hd ⊢; omega
        rw [hq, decide_eq_true (by omega), decide_eq_true (by omega), if_neg (by simp), if_pos (by omega), Nat.add_mod_left, Nat.mod_eq_of_lt hlt]
        exact ⟨by simp, rfl, rfl, rfl⟩
    generalize hl : decide (t % 2 = 0) = l at *
    generalize hp : (if t % 2 = 0 then alt (me d e) (md d e n) t m else n + alt (me d e) (md d e n) t m) = p at *
    obtain ⟨k1, k2, k3, k4⟩ := key l p rfl rfl
    by_cases hx : alt (me d e) (md d e n) (t + 1) m = m
    · refine ⟨_, t + 1, by omega, by omega, hx, fol_until k1 (by rw [k2, hx]), fun x => ?_⟩
      simp only [List.mem_singleton, k2]
      exact ⟨fun he => ⟨t + 1, by omega, by omega, he⟩, fun ⟨s, s1, s2, s3⟩ => by rw [s3, show s = t + 1 from by omega]⟩
    · have h3 : t + 1 < 2 * c := by
        by_cases h4 : t + 1 < 2 * c
        · exact h4
        · exact absurd (by rw [show t + 1 = 2 * c from by omega]; exact hback) hx
      obtain ⟨r, k', a1, a2, a3, a4, a5⟩ := fol_loop H h m hm c hback k (t + 1) h3 (by omega)
      rw [← k3, ← k4] at a4
      refine ⟨_, k', by omega, a2, a3, by rw [fol_step k1 (by rw [k2]; omega), a4]; rfl, fun x => ?_⟩
      simp only [List.mem_cons, a5, k2]
      constructor
      · rintro (he | ⟨s, s1, s2, s3⟩)
        · exact ⟨t + 1, by omega, by omega, he⟩
        · exact ⟨s, by omega, s2, s3⟩
      · rintro ⟨s, s1, s2, s3⟩
        by_cases he : s = t + 1
        · exact .inl (by rw [s3, he])
        · exact .inr ⟨s, by omega, s2, s3⟩

/-- The marks of the program behind a loop. -/
theorem marks_loop (H : Two n (hop d e)) (hn8 : n ≤ 8) {S : Nat → Bool} (h : Sat d e n S) (m : Nat) (hm : Un n S m) :
    Sat d e n (marks S (cyc d e n m)) ∧ marks S (cyc d e n m) m = true ∧ ∀ (V : Nat → Prop), V m → (∀ x, Un n S x → V x → V (me d e x) ∧ V (md d e n x)) → ∀ x, marks S (cyc d e n m) x = true → S x = true ∨ V x := by
  have F := fl_me H h
  have G := fl_md H h
  obtain ⟨c, hc0, hcn, hc⟩ := alt_back F G (fun x hx => hx.1) m hm
  obtain ⟨r, k', a1, a2, a3, a4, a5⟩ := fol_loop H h m hm c hc fuel 0 (by omega) (by unfold fuel; omega)
  have a4' : fol d e n m fuel true m = some r := a4
  have hcyc : cyc d e n m = r.2 := by unfold cyc; rw [a4']; rfl
  rw [hcyc]
  obtain ⟨c', hc'⟩ : ∃ c', k' = 2 * c' := by
    by_cases hk : k' % 2 = 0
    · exact ⟨k' / 2, by omega⟩
    · exact absurd (by rw [show 2 * (k' / 2) + 1 = k' from by omega]; exact a3) (alt_odd (k' / 2) _ _ F G m hm)
  subst hc'
  have mem : ∀ x, x ∈ r.2 ↔ ∃ s, s < 2 * c' ∧ x = alt (me d e) (md d e n) s m := by
    intro x
    rw [a5]
    constructor
    · rintro ⟨s, s1, s2, s3⟩
      by_cases he : s = 2 * c'
      · exact ⟨0, by omega, by rw [s3, he, a3]; rfl⟩
      · exact ⟨s, by omega, s3⟩
    · rintro ⟨s, s1, s2⟩
      by_cases he : s = 0
      · exact ⟨2 * c', by omega, by omega, by rw [s2, he, a3]; rfl⟩
      · exact ⟨s, by omega, by omega, s2⟩
  have hmk : marks S r.2 = fun x => S x || decide (x ∈ r.2) := by funext x; exact marks_iff r.2 S x
  refine ⟨?_, ?_, fun V hV hcl x hx => ?_⟩
  · rw [hmk]
    refine sat_more H h (fun x => x ∈ r.2) (fun x hx => ?_)
    obtain ⟨s, s1, rfl⟩ := (mem x).1 hx
    obtain ⟨⟨s2, s3, s4⟩, s5, s6, s7⟩ := alt_closed F G c' m hm (by omega) a3 s s1
    exact ⟨alt_u F G s m hm, (mem _).2 ⟨s2, s3, s4⟩, (mem _).2 ⟨s5, s6, s7⟩⟩
  · rw [marks_iff]
    have : m ∈ r.2 := (mem m).2 ⟨0, by omega, rfl⟩
    simp [this]
  · rw [marks_iff, Bool.or_eq_true, decide_eq_true_eq] at hx
    rcases hx with hx | hx
    · exact .inl hx
    · obtain ⟨s, s1, rfl⟩ := (mem x).1 hx
      refine .inr ?_
      clear s1 hx
      induction s with
      | zero => exact hV
      | succ s ih =>
        have := hcl _ (alt_u F G s m hm) ih
        rw [alt_succ]
        split
        · exact this.1
        · exact this.2

/-- The marks of the reference behind j rounds of a loop. -/
def sj (d e : Dg) (n : Nat) (S : Nat → Bool) (m j : Nat) : Nat → Bool := fun x => S x || (List.range (2 * j)).any fun t => decide (alt (md d e n) (me d e) t m = x)
theorem sj_iff (S : Nat → Bool) (m j x : Nat) : sj d e n S m j x = true ↔ S x = true ∨ ∃ t, t < 2 * j ∧ alt (md d e n) (me d e) t m = x := by
  unfold sj
  rw [Bool.or_eq_true, List.any_eq_true]
  constructor
  · rintro (h | ⟨t, h1, h2⟩)
    · exact .inl h
    · exact .inr ⟨t, List.mem_range.1 h1, of_decide_eq_true h2⟩
  · rintro (h | ⟨t, h1, h2⟩)
    · exact .inl h
    · exact .inr ⟨t, List.mem_range.2 h1, decide_eq_true h2⟩
theorem sj_zero (S : Nat → Bool) (m : Nat) : sj d e n S m 0 = S := by funext x; simp [sj]
theorem sj_succ (S : Nat → Bool) (m j : Nat) : sj d e n S m (j + 1) = fun x => if x = alt (md d e n) (me d e) (2 * j + 1) m then true else if x = alt (md d e n) (me d e) (2 * j) m then true else sj d e n S m j x := by
  funext x
  rw [Bool.eq_iff_iff, sj_iff]
  by_cases h1 : x = alt (md d e n) (me d e) (2 * j + 1) m
  · rw [if_pos h1]
    exact ⟨fun _ => rfl, fun _ => .inr ⟨2 * j + 1, by omega, h1.symm⟩⟩
  · rw [if_neg h1]
    by_cases h2 : x = alt (md d e n) (me d e) (2 * j) m
    · rw [if_pos h2]
      exact ⟨fun _ => rfl, fun _ => .inr ⟨2 * j, by omega, h2.symm⟩⟩
    · rw [if_neg h2, sj_iff]
      constructor
      · rintro (h | ⟨t, t1, t2⟩)
        · exact .inl h
        · refine .inr ⟨t, ?_, t2⟩
          have a1 : t ≠ 2 * j + 1 := by rintro rfl; exact h1 t2.symm
          have a2 : t ≠ 2 * j := by rintro rfl; exact h2 t2.symm
          omega
      · rintro (h | ⟨t, t1, t2⟩)
        · exact .inl h
        · exact .inr ⟨t, by omega, t2⟩

theorem lpo_loop (H : Two n (hop d e)) {S : Nat → Bool} (h : Sat d e n S) (m : Nat) (hm : Un n S m) (c : Nat) (hc0 : 0 < c) (hback : alt (md d e n) (me d e) (2 * c) m = m) :
    ∀ (k j : Nat), j ≤ c → c - j < k → ∃ c', j ≤ c' ∧ c' ≤ c ∧ lpo d e n k (sj d e n S m j) (alt (md d e n) (me d e) (2 * j) m) = some (sj d e n S m c') ∧ sj d e n S m c' (alt (md d e n) (me d e) (2 * c') m) = true ∧
      ∀ i, j ≤ i → i < c' → sj d e n S m i (alt (md d e n) (me d e) (2 * i) m) = false
  | 0, j, _, h2 => by omega
  | k + 1, j, h1, h2 => by
    have F := fl_me H h
    have G := fl_md H h
    by_cases hx : sj d e n S m j (alt (md d e n) (me d e) (2 * j) m) = true
    · exact ⟨j, Nat.le_refl _, h1, lpo_met hx, hx, fun i i1 i2 => by omega⟩
    · have hxf : sj d e n S m j (alt (md d e n) (me d e) (2 * j) m) = false := by simpa using hx
      have hjc : j ≠ c := by
        rintro rfl
        exact hx ((sj_iff ..).2 (.inr ⟨0, by omega, by rw [hback]; rfl⟩))
      obtain ⟨c', a1, a2, a3, a4, a5⟩ := lpo_loop H h m hm c hc0 hback k (j + 1) (by omega) (by omega)
      have hu := alt_u G F (2 * j) m hm
      have hu1 := alt_u G F (2 * j + 1) m hm
      have hu2 := alt_u G F (2 * j + 2) m hm
      have e1 : alt (md d e n) (me d e) (2 * j + 1) m = hop d e false (n + alt (md d e n) (me d e) (2 * j) m) - n := by rw [alt_succ, if_pos (by omega)]; rfl
      have e2 : alt (md d e n) (me d e) (2 * (j + 1)) m = hop d e true (hop d e false (n + alt (md d e n) (me d e) (2 * j) m) - n) := by
        rw [show 2 * (j + 1) = 2 * j + 1 + 1 from rfl, alt_succ, if_neg (by omega), ← e1]; rfl
      have hd := h.dm _ hu.1 hu.2
      refine ⟨c', by omega, a2, ?_, a4, fun i i1 i2 => ?_⟩
      · show (if _ then _ else _) = _
        have hlt : hop d e true (hop d e false (n + alt (md d e n) (me d e) (2 * j) m) - n) < n := by rw [← e2]; exact hu2.1
        rw [if_neg hx, if_neg (by omega), if_neg (by omega), ← a3, sj_succ, ← e1, e2, ← e1]
      · by_cases he : i = j
        · subst he; exact hxf
        · exact a5 i (by omega) i2

/-- The marks of the reference behind a loop. -/
theorem lpo_marks (H : Two n (hop d e)) (hn8 : n ≤ 8) {S : Nat → Bool} (h : Sat d e n S) (m : Nat) (hm : Un n S m) :
    ∃ S', lpo d e n fuel S m = some S' ∧ Sat d e n S' ∧ S' m = true ∧ (∀ x, S x = true → S' x = true) ∧ ∀ (V : Nat → Prop), V m → (∀ x, Un n S x → V x → V (me d e x) ∧ V (md d e n x)) → ∀ x, S' x = true → S x = true ∨ V x := by
  have F := fl_me H h
  have G := fl_md H h
  obtain ⟨c, hc0, hcn, hc⟩ := alt_back G F (fun x hx => hx.1) m hm
  obtain ⟨c', a1, a2, a3, a4, a5⟩ := lpo_loop H h m hm c hc0 hc fuel 0 (by omega) (by unfold fuel; omega)
  rw [sj_zero] at a3
  have hc'0 : 0 < c' := by
    by_cases hz : c' = 0
    · subst hz
      rw [sj_zero] at a4
      have : S m = true := a4
      rw [hm.2] at this; cases this
    · omega
  have hu := alt_u G F (2 * c') m hm
  have hback : alt (md d e n) (me d e) (2 * c') m = m := by
    rcases (sj_iff ..).1 a4 with h1 | ⟨t, t1, t2⟩
    · rw [hu.2] at h1; cases h1
    · by_cases ht : t % 2 = 0
      · obtain ⟨a, rfl⟩ : ∃ a, t = 2 * a := ⟨t / 2, by omega⟩
        have h3 := alt_cut G F a c' m hm (by omega) t2.symm
        by_cases ha : a = 0
        · subst ha; exact t2.symm
        · have h4 := a5 (c' - a) (by omega) (by omega)
          rw [h3] at h4
          have : sj d e n S m (c' - a) m = true := (sj_iff ..).2 (.inr ⟨0, by omega, rfl⟩)
          rw [h4] at this; cases this
      · exfalso
        have h3 := alt_add t (2 * c' - t) (md d e n) (me d e) m
        rw [if_neg ht, show t + (2 * c' - t) = 2 * c' from by omega, ← t2] at h3
        have h4 := alt_odd ((2 * c' - t) / 2) _ _ F G (alt (md d e n) (me d e) t m) (alt_u G F t m hm)
        rw [show 2 * ((2 * c' - t) / 2) + 1 = 2 * c' - t from by omega] at h4
        exact h4 h3.symm
  refine ⟨_, a3, ?_, (sj_iff ..).2 (.inr ⟨0, by omega, rfl⟩), fun x hx => (sj_iff ..).2 (.inl hx), fun V hV hcl x hx => ?_⟩
  · have := sat_more H h (fun x => (List.range (2 * c')).any (fun t => decide (alt (md d e n) (me d e) t m = x)) = true) (fun x hx => by
      obtain ⟨t, t1, t2⟩ := List.any_eq_true.1 hx
      have t1 := List.mem_range.1 t1
      have t2 := of_decide_eq_true t2
      subst t2
      obtain ⟨⟨s2, s3, s4⟩, s5, s6, s7⟩ := alt_closed G F c' m hm hc'0 hback t t1
      exact ⟨alt_u G F t m hm, List.any_eq_true.2 ⟨s5, List.mem_range.2 s6, decide_eq_true s7.symm⟩, List.any_eq_true.2 ⟨s2, List.mem_range.2 s3, decide_eq_true s4.symm⟩⟩)
    have e : sj d e n S m c' = fun x => S x || decide ((List.range (2 * c')).any (fun t => decide (alt (md d e n) (me d e) t m = x)) = true) := by
      funext x; unfold sj; congr 1; cases (List.range (2 * c')).any fun t => decide (alt (md d e n) (me d e) t m = x) <;> rfl
    rw [e]; exact this
  · rcases (sj_iff ..).1 hx with h1 | ⟨t, t1, rfl⟩
    · exact .inl h1
    · refine .inr ?_
      clear t1 hx
      induction t with
      | zero => exact hV
      | succ t ih =>
        have := hcl _ (alt_u G F t m hm) ih
        rw [alt_succ]
        split
        · exact this.2
        · exact this.1

/-- What is seen from outside. -/
theorem mem_vis (H : Two n (hop d e)) (hn8 : n ≤ 8) (p : Nat) (hp : p < 2 * n) (m : Nat) : m ∈ vis d e n (decide (n ≤ p)) p ↔ m < n ∧ line d e n p true m = true := by
  obtain ⟨C, -, -⟩ := line_spec H hn8 p hp
  obtain ⟨r, hr⟩ := fol_outer H hn8 _ p hp rfl
  obtain ⟨-, -, -, -, -, i6⟩ := on_line H fuel _ p r hp hr
  have hv : vis d e n (decide (n ≤ p)) p = r.2 := by unfold vis; rw [hr]; rfl
  rw [hv, i6]
  have key : ∀ l q, (l, q) = (decide (n ≤ p), p) → l = decide (n ≤ q) := by
    intro l q he
    simp only [Prod.mk.injEq] at he
    rw [he.1, he.2]
  constructor
  · rintro (⟨h1, h2, -⟩ | ⟨h1, h2, -⟩)
    · exact ⟨h1, h2⟩
    · exact ⟨h1, (C.g m h1).trans h2⟩
  · rintro ⟨h1, h2⟩
    refine .inl ⟨h1, h2, fun he => ?_⟩
    have := key _ _ he
    rw [decide_eq_false (by omega)] at this; cases this

theorem seenTo_iff (j : Nat) (m : Nat) : seenTo d e n j m = true ↔ ∃ i, i < j ∧ (m ∈ vis d e n false i ∨ m ∈ vis d e n true (n + i)) := by
  induction j with
  | zero => simp [seenTo]
  | succ j ih =>
    rw [seenTo_succ, marks_iff, marks_iff, Bool.or_eq_true, Bool.or_eq_true, ih, decide_eq_true_eq, decide_eq_true_eq]
    constructor
    · rintro ((⟨i, h1, h2⟩ | h) | h)
      · exact ⟨i, by omega, h2⟩
      · exact ⟨j, by omega, .inl h⟩
      · exact ⟨j, by omega, .inr h⟩
    · rintro ⟨i, h1, h2⟩
      by_cases he : i = j
      · subst he
        rcases h2 with h | h
        · exact .inl (.inr h)
        · exact .inr h
      · exact .inl (.inl ⟨i, by omega, h2⟩)

theorem seen_iff (H : Two n (hop d e)) (hn8 : n ≤ 8) (m : Nat) : seenTo d e n n m = true ↔ m < n ∧ ∃ p, p < 2 * n ∧ line d e n p true m = true := by
  rw [seenTo_iff]
  constructor
  · rintro ⟨i, h1, h2⟩
    have e1 : decide (n ≤ i) = false := decide_eq_false (by omega)
    have e2 : decide (n ≤ n + i) = true := decide_eq_true (by omega)
    rcases h2 with h | h
    · rw [← e1, mem_vis H hn8 i (by omega)] at h
      exact ⟨h.1, i, by omega, h.2⟩
    · rw [← e2, mem_vis H hn8 (n + i) (by omega)] at h
      exact ⟨h.1, n + i, by omega, h.2⟩
  · rintro ⟨h1, p, h2, h3⟩
    have h4 := (mem_vis H hn8 p h2 m).2 ⟨h1, h3⟩
    by_cases hp : n ≤ p
    · rw [decide_eq_true hp] at h4
      exact ⟨p - n, by omega, .inr (by rw [show n + (p - n) = p from by omega]; exact h4)⟩
    · rw [decide_eq_false hp] at h4
      exact ⟨p, by omega, .inl h4⟩

theorem sat_seen (H : Two n (hop d e)) (hn8 : n ≤ 8) : Sat d e n (seenTo d e n n) := by
  have not_line : ∀ x, x < n → seenTo d e n n x = false → ∀ p, p < 2 * n → line d e n p true x = false := by
    intro x hx hs p hp
    cases hl : line d e n p true x with
    | false => rfl
    | true =>
      have := (seen_iff H hn8 x).2 ⟨hx, p, hp, hl⟩
      rw [hs] at this; cases this
  refine ⟨fun x hx hs => ?_, fun x hx hs => ?_, fun x hx => ?_⟩
  · have hq := H.lt true x (by omega)
    refine ⟨?_, ?_⟩
    · by_cases hlt : hop d e true x < n
      · exact hlt
      · exfalso
        obtain ⟨C, h1, -⟩ := line_spec H hn8 _ hq
        rw [decide_eq_true (by omega)] at h1
        have := C.s true _ hq h1
        rw [H.inv true x (by omega), not_line x hx hs _ hq] at this; cases this
    · cases hb : seenTo d e n n (hop d e true x) with
      | false => rfl
      | true =>
        obtain ⟨h1, p, hp, h2⟩ := (seen_iff H hn8 _).1 hb
        obtain ⟨C, -, -⟩ := line_spec H hn8 p hp
        have := C.s true _ hq h2
        rw [H.inv true x (by omega), not_line x hx hs _ hp] at this; cases this
  · have hq := H.lt false (n + x) (by omega)
    have hge : n ≤ hop d e false (n + x) := by
      by_cases hlt : n ≤ hop d e false (n + x)
      · exact hlt
      · exfalso
        obtain ⟨C, h1, -⟩ := line_spec H hn8 _ hq
        rw [decide_eq_false hlt] at h1
        have := C.s false _ hq h1
        rw [H.inv false (n + x) (by omega), ← C.g x hx, not_line x hx hs _ hq] at this; cases this
    refine ⟨hge, ?_⟩
    cases hb : seenTo d e n n (hop d e false (n + x) - n) with
    | false => rfl
    | true =>
      obtain ⟨h1, p, hp, h2⟩ := (seen_iff H hn8 _).1 hb
      obtain ⟨C, -, -⟩ := line_spec H hn8 p hp
      rw [C.g _ h1, show n + (hop d e false (n + x) - n) = hop d e false (n + x) from by omega] at h2
      have := C.s false _ hq h2
      rw [H.inv false (n + x) (by omega), ← C.g x hx, not_line x hx hs _ hp] at this; cases this
  · cases hb : seenTo d e n n x with
    | false => rfl
    | true => have := ((seen_iff H hn8 x).1 hb).1; omega

/-- Both go the same loops. -/
theorem loops_eq (H : Two n (hop d e)) (hn8 : n ≤ 8) : ∀ j, j ≤ n → Sat d e n (loopTo d e n j).1 ∧ sloopTo d e n j = loopTo d e n j
  | 0, _ => ⟨sat_seen H hn8, rfl⟩
  | j + 1, hj => by
    obtain ⟨h1, h2⟩ := loops_eq H hn8 j (by omega)
    rw [loopTo_succ, sloopTo_succ, h2]
    by_cases hm : (loopTo d e n j).1 j = true
    · simp only [if_pos hm]; exact ⟨h1, trivial⟩
    · have hm' : Un n (loopTo d e n j).1 j := ⟨by omega, by simpa using hm⟩
      simp only [if_neg hm]
      obtain ⟨a1, a2, a3⟩ := marks_loop H hn8 h1 j hm'
      obtain ⟨S', b1, b2, b3, b4, b5⟩ := lpo_marks H hn8 h1 j hm'
      refine ⟨a1, ?_⟩
      rw [b1]
      show (S', _) = _
      congr 1
      have cl : ∀ S'', Sat d e n S'' → ∀ x, Un n (loopTo d e n j).1 x → S'' x = true → S'' (me d e x) = true ∧ S'' (md d e n x) = true := by
        intro S'' hs x hx hxs
        have u1 := (fl_me H h1).cl x hx
        have u2 := (fl_md H h1).cl x hx
        refine ⟨?_, ?_⟩
        · cases hb : S'' (me d e x) with
          | true => rfl
          | false =>
            have := (hs.em _ u1.1 hb).2
            rw [show hop d e true (me d e x) = x from (fl_me H h1).inv x hx, hxs] at this; cases this
        · cases hb : S'' (md d e n x) with
          | true => rfl
          | false =>
            have := (hs.dm _ u2.1 hb).2
            rw [show hop d e false (n + md d e n x) - n = x from (fl_md H h1).inv x hx, hxs] at this; cases this
      funext x
      rw [Bool.eq_iff_iff]
      constructor
      · intro hx
        rcases b5 (fun x => marks (loopTo d e n j).1 (cyc d e n j) x = true) a2 (cl _ a1) x hx with h | h
        · rw [marks_iff, h]; rfl
        · exact h
      · intro hx
        rcases a3 (fun x => S' x = true) b3 (cl _ b2) x hx with h | h
        · exact b4 x h
        · exact h

theorem sruns (H : Two n (hop d e)) (hn8 : n ≤ 8) : SRuns d e n := by
  intro m hm hs
  obtain ⟨h1, h2⟩ := loops_eq H hn8 m (by omega)
  rw [h2] at hs ⊢
  obtain ⟨S', b1, -⟩ := lpo_marks H hn8 h1 m ⟨hm, hs⟩
  exact ⟨S', b1⟩
theorem sloop_eq (H : Two n (hop d e)) (hn8 : n ≤ 8) : (sloopTo d e n n).2 = prodL d e n := by
  rw [(loops_eq H hn8 n (Nat.le_refl _)).2]; rfl
end
end Go.Proofs.Yticmlgnolbccjaa
