/- The walk of the program's way from a map to an element. -/
import Derived.Test.YticmlgnolbccjaaV1
import Derived.Test.YticmlgnolbccjaaS2
import Derived.Test.YticmlgnolbccjaaU2
import Derived.Deep.CutRange
set_option linter.unusedVariables false
set_option linter.unusedSimpArgs false
namespace Go.Proofs.Yticmlgnolbccjaa
open Go.RowKit Go.Maps

section
variable {ops : Array Oper} {rest : List Oper} {o : Oper} {a : Act} {w : World} {Q : Exit → Act → World → Prop}
/-- A step of a loop over such a map. -/
theorem next_dg (hg : o.guard = none) (it : Operand) (hop : o.op = Op.next it false) (b r k n : Nat) (D : DataW Unit) (left : Lit → Bool) (cnt : Nat) (f : Dg → Int) (hs : Says D n f)
    (hit : a.eval it = .pointer (some ⟨r, 0, none⟩)) (h : w.ranges Try.prog 47 PE b r k D left cnt)
    (hDone : (∀ l, left l = false) → wpList Try.prog ops Q rest (a.put o.dst (.tuple #[.bool false])) w)
    (hMore : ∀ (d : Dg) (w' : World) (cnt' : Nat), Good d → d.size = n → left (kl d) = true → Maps.has D (kl d) = true → w'.ranges Try.prog 47 PE b r k D (fun z => left z && !z.sameKey (kl d)) cnt' → cnt' < cnt → w.grownBy w' (some r) → w'.heap.size = w.heap.size →
      (Instr.entry (.pointer (some ⟨r, 0, none⟩))).run Try.prog w' = .ok (.tuple #[.agg d.cells, .int .i64 (f d)]) w' → wpList Try.prog ops Q rest (a.put o.dst (.tuple #[.bool true, .agg d.cells, .int .i64 (f d)])) w') :
    wpList Try.prog ops Q (o :: rest) a w := by
  refine wpList_plain hg fun K' hK' => ?_
  unfold Oper.wp
  rcases h.next keyedDg o.type with ⟨h0, hl, hrun⟩ | ⟨key, v, kl0, y, w', cnt', hkey, hlk, hv, hat, hrun, hrg, hlt, hgr, hsz, hen⟩
  · simp [execOp, hop, hit, hrun, Result.andThen]
    exact hK' _ _ (hDone hl)
  · have hhas := Maps.has_true_of_atKey hat
    obtain ⟨d, hd, hds, rfl⟩ := hs.keys kl0 hhas
    obtain rfl := keyedDg.inj hkey (kl_spec hd.wf)
    obtain ⟨c, rfl, hy, -⟩ := plainElem_int_inv Try.underlying2 hv
    have h1 := hs.at_ d hd.wf
    rw [hat, hy] at h1
    unfold i64d at h1
    simp only [DataW.lit.injEq, Lit.int.injEq, true_and] at h1
    subst h1
    simp [execOp, hop, hit, hrun, Result.andThen]
    exact hK' _ _ (hMore d w' cnt' hd hds hlk hhas hrg hlt hgr hsz hen)
end

/-- What has been collected so far. -/
structure Got (p : Int) (n : Nat) (D : DataW Unit) (f : Dg → Int) (left : Lit → Bool) (ts : List Tm) : Prop where
  mem : ∀ t ∈ ts, Good t.d ∧ t.d.size = n ∧ 1 ≤ t.k ∧ t.k < p ∧ left (kl t.d) = false ∧ t.k = f t.d % p
  nodup : ts.Pairwise (fun a b => a.d ≠ b.d)
  all : ∀ d, Good d → Maps.has D (kl d) = true → left (kl d) = false → f d % p ≠ 0 → ∃ t ∈ ts, t.d = d

section
variable {p : Int} {n : Nat} {D : DataW Unit} {f : Dg → Int} {left : Lit → Bool} {ts : List Tm}
theorem Got.start : Got p n D f (Maps.has D) [] := ⟨(fun t h => by cases h), List.Pairwise.nil, (fun d _ h h' => by rw [h] at h'; cases h')⟩
theorem same_kl {d e : Dg} (hd : Good d) (he : Good e) : (kl e).sameKey (kl d) = decide (e = d) := by
  by_cases h : e = d
  · subst h; rw [WideAt.sameKey_self (kl_key he.wf)]; simp
  · rw [Maps.sameKey_ne (fun h' => h (kl_inj he.wf hd.wf h'))]; simp [h]
theorem Got.skip (h : Got p n D f left ts) {d : Dg} (hd : Good d) (h0 : f d % p = 0) : Got p n D f (fun z => left z && !z.sameKey (kl d)) ts := by
  refine ⟨fun t ht => ?_, h.nodup, fun e he hh hl hne => ?_⟩
  · obtain ⟨a1, a2, a3, a4, a5, a6⟩ := h.mem t ht
    exact ⟨a1, a2, a3, a4, by rw [a5]; rfl, a6⟩
  · by_cases hed : e = d
    · subst hed; exact absurd h0 hne
    · refine h.all e he hh ?_ hne
      rw [same_kl hd he] at hl
      simpa [hed] using hl
theorem Got.add (h : Got p n D f left ts) {d : Dg} (hd : Good d) (hs : d.size = n) (hlk : left (kl d) = true) (hp : 2 ≤ p) (h0 : f d % p ≠ 0) : Got p n D f (fun z => left z && !z.sameKey (kl d)) (ts ++ [⟨d, f d % p⟩]) := by
  have b1 := Int.emod_nonneg (f d) (show p ≠ 0 by omega)
  have b2 := Int.emod_lt_of_pos (f d) (show 0 < p by omega)
  refine ⟨fun t ht => ?_, ?_, fun e he hh hl hne => ?_⟩
  · rcases List.mem_append.1 ht with ht | ht
    · obtain ⟨a1, a2, a3, a4, a5, a6⟩ := h.mem t ht
      exact ⟨a1, a2, a3, a4, by rw [a5]; rfl, a6⟩
    · have : t = ⟨d, f d % p⟩ := by simpa using ht
      subst this
      exact ⟨hd, hs, by show 1 ≤ f d % p; omega, b2, by rw [same_kl hd hd]; simp, rfl⟩
  · rw [List.pairwise_append]
    refine ⟨h.nodup, List.pairwise_singleton _ _, fun a ha b hb he => ?_⟩
    have : b = ⟨d, f d % p⟩ := by simpa using hb
    subst this
    have := (h.mem a ha).2.2.2.2.1
    rw [he, hlk] at this
    cases this
  · by_cases hed : e = d
    · subst hed; exact ⟨⟨e, f e % p⟩, by simp, rfl⟩
    · rw [same_kl hd he] at hl
      obtain ⟨t, ht, h1⟩ := h.all e he hh (by simpa [hed] using hl) hne
      exact ⟨t, by simp [ht], h1⟩

theorem sorted_of {us : List Tm} (hm : ∀ t ∈ us, Good t.d) (hd : us.Pairwise (fun a b => a.d ≠ b.d)) (hs : us.Pairwise (fun a b => tlt b.d a.d = false)) : us.Pairwise (fun a b => tlt a.d b.d = true) := by
  rw [List.pairwise_iff_getElem] at *
  intro i j hi hj hij
  cases hx : tlt us[i].d us[j].d with
  | true => rfl
  | false => exact absurd (tlt_total (hm _ (List.getElem_mem hi)) (hm _ (List.getElem_mem hj)) hx (hs i j hi hj hij)) (hd i j hi hj hij)

/-- What is collected at the end, sorted, is the list that the map tells. -/
theorem Got.done (h : Got p n D f left ts) (hl : ∀ l, left l = false) (hs : Says D n f) {us T : List Tm} (hpm : us.Perm ts) (hso : us.Pairwise (fun a b => tlt b.d a.d = false)) (hT : Nf p n T) (hf : ∀ d : Dg, d.Wf → f d % p = coef T d) : us = T := by
  have hmem : ∀ t ∈ us, Good t.d ∧ t.d.size = n ∧ 1 ≤ t.k ∧ t.k < p ∧ left (kl t.d) = false ∧ t.k = f t.d % p := fun t ht => h.mem t (hpm.mem_iff.1 ht)
  have hnd : us.Pairwise (fun a b => a.d ≠ b.d) := (hpm.pairwise_iff (fun {a b} (h : a.d ≠ b.d) => h.symm)).2 h.nodup
  have hnf : Nf p n us := ⟨fun t ht => ⟨(hmem t ht).1, (hmem t ht).2.1, (hmem t ht).2.2.1, (hmem t ht).2.2.2.1⟩, sorted_of (fun t ht => (hmem t ht).1) hnd hso⟩
  refine nf_unique hnf hT fun d => ?_
  by_cases hc : coef us d = 0
  · rw [hc]
    by_cases hc2 : coef T d = 0
    · exact hc2.symm
    · obtain ⟨t, ht, rfl, hk⟩ := coef_mem hT d hc2
      have hg := (hT.mem t ht).1
      have hfd := hf t.d hg.wf
      have hhas : Maps.has D (kl t.d) = true := by
        cases hx : Maps.has D (kl t.d) with
        | true => rfl
        | false =>
          have h1 := hs.at_ t.d hg.wf
          rw [Maps.atKey_of_not_has hx] at h1
          unfold i64d at h1
          simp only [DataW.lit.injEq, Lit.int.injEq, true_and] at h1
          rw [← h1] at hfd
          simp at hfd
          exact absurd hfd.symm hc2
      obtain ⟨u, hu, hud⟩ := h.all t.d hg hhas (hl _) (by rw [hfd]; exact hc2)
      have hu' := hpm.mem_iff.2 hu
      have h2 := coef_of_mem hnf u hu'
      rw [hud, hc] at h2
      have h3 := (hmem u hu').2.2.1
      omega
  · obtain ⟨t, ht, rfl, hk⟩ := coef_mem hnf d hc
    obtain ⟨a1, a2, a3, a4, a5, a6⟩ := hmem t ht
    rw [← hk, a6]
    exact hf _ a1.wf
theorem size_le_of_owns {w : World} {b k : Nat} {D : DataW Unit} (h : w.ownsMap Try.prog 47 PE b k D) : Maps.size D ≤ k := by
  obtain ⟨es, clock, -, -, hs, rfl⟩ := h
  show (List.foldr DataW.insert [] _).length ≤ k
  rw [length_sorted]
  simpa using hs
end

/-- The size that comes out. -/
def szOf (T : List Tm) (n0 n : Nat) : Nat := if T = [] then n0 else n
theorem szOf_same (T : List Tm) (n : Nat) : szOf T n n = n := by unfold szOf; split <;> rfl

section
variable {ops : Array Oper} {rest : List Oper} {o : Oper} {a : Act} {w : World} {Q : Exit → Act → World → Prop}
/-- Terms more behind a slice that may be nil. -/
theorem append_tsO (hgd : o.guard = none) (s x : Operand) (ho : o.op = .call { callee := .builtin .append, args := #[s, x], argTypes := #[28, 28] })
    (base : Nat) (v : Value) (ts : List Tm) (hs : a.eval s = v) (hown : TsOwn w base v ts)
    (g off m c : Nat) (us : List Tm) (hx : a.eval x = .slice (some ⟨g, off, none⟩) m c) (hr : w.rangeAt g off (tc us)) (hm : m = us.length)
    (hn : ts.length + us.length ≤ 1000000) (hbase : base ≤ w.heap.size)
    (h : ∀ v' w', TsOwn w' base v' (ts ++ us) → w.grownBy w' v.ownBlock → wpList Try.prog ops Q rest (a.put o.dst v') w') : wpList Try.prog ops Q (o :: rest) a w := by
  subst hm
  obtain ⟨i0, hi, hz0, hz1, hz2⟩ := info_parts rowTerm.info
  refine wpList_append_own w hgd s x 28 ho base 57 i0 _ 18 32 rowTerm.und hi hz0 hz1 hz2 rowTerm.zs (by decide) v ts.length _ hs hown ⟨g, off, none⟩ us.length c (tc us) hx (length_tc us) ?_ (tc_oneCell us) (by unfold maxLen; omega) (by omega) hbase ?_
  · intro j u hu
    rw [Addr.add_mid]
    exact hr j u hu
  · intro v' w' h1 h2 h3
    refine h v' w' ?_ h2
    unfold TsOwn
    rw [tc_append, List.length_append]; exact h1
end
theorem TsOwn.alloc' {w : World} {base : Nat} {v : Value} {ts : List Tm} (h : TsOwn w base v ts) (o : Obj) : TsOwn (w.alloc o) base v ts := World.ownsRow.alloc h o
theorem TsOwn.drewN {w : World} {base : Nat} {v : Value} {ts : List Tm} (h : TsOwn w base v ts) (j : Nat) : TsOwn (w.drewN j) base v ts := h
theorem TsOwn.grown {w w' : World} {base b : Nat} {v : Value} {ts : List Tm} (h : TsOwn w base v ts) (hg : w.grownBy w' (some b)) (hne : some b ≠ v.ownBlock) : TsOwn w' base v ts := World.ownsRow.kept h hg (.inr (fun e => hne e.symm))
theorem TsOwn.ne_low {w : World} {base b : Nat} {v : Value} {ts : List Tm} (h : TsOwn w base v ts) (hb : b < base) : some b ≠ v.ownBlock := own_ne h hb
theorem TsOwn.nil (w : World) (base : Nat) : TsOwn w base (.slice none 0 0) [] := World.ownsRow_nil w base _ _
theorem szOf_add (ts : List Tm) (t : Tm) (n0 n : Nat) : szOf (ts ++ [t]) n0 n = n := if_neg (by simp)

theorem Only.grownBy {w w' : World} {b : Nat} (h : Only w w' b) : w.grownBy w' (some b) := ⟨h.os, h.tape, h.output, by rw [h.size]; exact Nat.le_refl _, fun k _ hk => h.block k (fun e => hk (by rw [e]))⟩
theorem But.grown {w w1 w2 : World} {l : List Nat} {row : Option Nat} (h : But w w1 l) (hg : w1.grownBy w2 row) (hr : ∀ k, row = some k → w.heap.size ≤ k) : But w w2 l :=
  ⟨hg.os.trans h.os, hg.tape.trans h.tape, hg.output.trans h.output, Nat.le_trans h.size hg.size, fun k hk hn => (hg.block k (by have := h.size; omega) (fun e => by have := hr k e.symm; omega)).trans (h.block k hk hn)⟩
theorem range_newAt (w : World) (t : Tm) (T : TypeId) {b : Nat} (hb : b = w.heap.size) : (w.alloc (.cells t.cells T)).rangeAt b 0 (tc [t]) := by subst hb; exact range_new w t T
theorem szOf_perm {ts us : List Tm} (h : us.Perm ts) (n0 n : Nat) : szOf ts n0 n = szOf us n0 n := by
  unfold szOf
  by_cases h0 : us = []
  · subst h0; rw [if_pos rfl, if_pos (List.nil_perm.1 h)]
  · rw [if_neg h0, if_neg (fun e => by subst e; exact h0 (List.perm_nil.1 h))]
theorem Got.pts {p : Int} {n : Nat} {D : DataW Unit} {f : Dg → Int} {left : Lit → Bool} {ts : List Tm} (h : Got p n D f left ts) : ∀ t ∈ ts, t.d.Pts := fun t ht => (h.mem t ht).1.pts

theorem run_build_el (p c n : Int) (w : World) : (Instr.build 30 #[(0, .int .i64 p), (1, .int .i64 c), (2, .int .i64 n)]).run Try.prog w = .ok (.agg #[.int .i64 p, .int .i64 c, .int .i64 n, .slice none 0 0]) w := run_build w 30 _ _ (by kernel_rfl)
theorem wp_store_el {o : Oper} {a : Act} {w : World} {K : Act → World → Prop} {Q : Exit → Act → World → Prop} (x y : Operand) (ho : o.op = .store 30 x y) (b : Nat) (hx : a.eval x = .pointer (some ⟨b, 0, none⟩)) (ns : Array Value) (hy : a.eval y = .agg ns) (hn : ns.size = 4) (h1 : ns.all (·.oneCell') = true)
    (cs : Array Value) (T : TypeId) (h : Blk w b cs T) (hs : cs.size = 4)
    (hK : ∀ w', Blk w' b ns T → Only w w' b → K (a.put o.dst undef) w') : o.wp Try.prog a w K Q := by
  refine wp_store_row _ x y ho b ns hx hy T cs h (by rw [info_el, hn]) (by rw [hs, hn]) h1 (hK _ ?_ ?_)
  · exact setRow_heap w b cs _ T _ h
  · exact ⟨rfl, rfl, rfl, by simp, fun k hk => setRow_heap_other w b k _ hk⟩


set_option maxHeartbeats 1000000 in
set_option maxRecDepth 100000 in
theorem with_calls (p c : Int) (n0 n : Nat) (f : Dg → Int) (T : List Tm) (hp : 2 ≤ p) (hp97 : p ≤ 97) (hT : Nf p n T) (hf : ∀ d : Dg, d.Wf → f d % p = coef T d) (hfb : ∀ d : Dg, d.Wf → -4611686018427387904 ≤ f d ∧ f d ≤ 4611686018427387904) (bx bm k : Nat) (vx : Value) (Tx : TypeId) (w : World)
    (hx : Blk w bx #[.int .i64 p, .int .i64 c, .int .i64 n0, vx] Tx) (hm : MapIs w bm k n f) (hk : k ≤ 100000) :
    Calls Try.prog 82 #[.pointer (some ⟨bx, 0, none⟩), .map (some bm)] w fun e w' => ∃ v, e = .returned (el p c (szOf T n0 n) v) ∧ TsOwn w' w.heap.size v T ∧ Below w.heap.size w w' := by
  have HT := Lib.hid hT
  have Hf := Lib.hid hf
  have Hfb := Lib.hid hfb
  clear hT hf hfb
  have hxl := hx.lt
  have hml := hm.lt
  have hcx := hx.cells
  unfold el
  go_enter Try.func82, Try.ntmps82
  go_wp2_with fail
  have hx1 := hx.alloc (.cells #[.int .i64 0, .int .i64 0, .int .i64 0, .slice none 0 0] 30)
  have hm1 := hm.alloc (.cells #[.int .i64 0, .int .i64 0, .int .i64 0, .slice none 0 0] 30)
  have hR1 := Blk.new w #[.int .i64 0, .int .i64 0, .int .i64 0, .slice none 0 0] 30
  have hb1 := (Below.refl w.heap.size w).alloc (Nat.le_refl _) (.cells #[.int .i64 0, .int .i64 0, .int .i64 0, .slice none 0 0] 30)
  have hz1 : w.heap.size < (w.alloc (.cells #[.int .i64 0, .int .i64 0, .int .i64 0, .slice none 0 0] 30)).heap.size := by simp
  generalize w.alloc (.cells #[.int .i64 0, .int .i64 0, .int .i64 0, .slice none 0 0] 30) = w1 at *
  clear hx hm hcx
  go_cut [5] from 8 to 20 (fun v5 wx => v5 = .pointer (some ⟨w1.heap.size, 0, none⟩) ∧ Blk wx w1.heap.size #[.int .i64 p, .int .i64 c, .int .i64 n0, .slice none 0 0] 30 ∧ Below w1.heap.size w1 wx)
  case first =>
    refine wp_region_old (by kernel_rfl) (fun hS => ?_)
    refine takeA 0 (v := ?_) hS ?_ ?_
    rotate_left
    focus (intro W hW; go_simp; first | done | with_reducible rfl)
    try simp only [Act.put, List.setIfInBounds_toArray, List.set_cons_zero, List.set_cons_succ]
    refine takeA 1 (v := ?_) hS ?_ ?_
    rotate_left
    focus (intro W hW; go_simp; first | done | with_reducible rfl)
    try simp only [Act.put, List.setIfInBounds_toArray, List.set_cons_zero, List.set_cons_succ]
    refine takeA 2 (v := ?_) hS ?_ ?_
    rotate_left
    focus (intro W hW; go_simp; first | done | with_reducible rfl)
    try simp only [Act.put, List.setIfInBounds_toArray, List.set_cons_zero, List.set_cons_succ]
    refine takeA 3 (v := ?_) hS ?_ ?_
    rotate_left
    focus (intro W hW; have q := (hx1.below hW hx1.lt).cells; go_simp; first | done | with_reducible rfl)
    try simp only [Act.put, List.setIfInBounds_toArray, List.set_cons_zero, List.set_cons_succ]
    refine takeA 4 (v := ?_) hS ?_ ?_
    rotate_left
    focus (intro W hW; go_simp; first | done | with_reducible rfl)
    try simp only [Act.put, List.setIfInBounds_toArray, List.set_cons_zero, List.set_cons_succ]
    refine takeA 5 (v := ?_) hS ?_ ?_
    rotate_left
    focus (intro W hW; go_simp; first | done | with_reducible rfl)
    try simp only [Act.put, List.setIfInBounds_toArray, List.set_cons_zero, List.set_cons_succ]
    refine takeA 6 (v := ?_) hS ?_ ?_
    rotate_left
    focus (intro W hW; go_simp; first | done | with_reducible rfl)
    try simp only [Act.put, List.setIfInBounds_toArray, List.set_cons_zero, List.set_cons_succ]
    refine takeA 7 (v := ?_) hS ?_ ?_
    rotate_left
    focus (intro W hW; have q := (hx1.below hW hx1.lt).cells; go_simp; first | done | with_reducible rfl)
    try simp only [Act.put, List.setIfInBounds_toArray, List.set_cons_zero, List.set_cons_succ]
    refine takeA 8 (v := ?_) hS ?_ ?_
    rotate_left
    focus (intro W hW; go_simp; first | done | with_reducible rfl)
    try simp only [Act.put, List.setIfInBounds_toArray, List.set_cons_zero, List.set_cons_succ]
    refine takeA 9 (v := ?_) hS ?_ ?_
    rotate_left
    focus (intro W hW; go_simp; first | done | with_reducible rfl)
    try simp only [Act.put, List.setIfInBounds_toArray, List.set_cons_zero, List.set_cons_succ]
    refine takeA 10 (v := ?_) hS ?_ ?_
    rotate_left
    focus (intro W hW; go_simp; first | done | with_reducible rfl)
    try simp only [Act.put, List.setIfInBounds_toArray, List.set_cons_zero, List.set_cons_succ]
    refine takeA 11 (v := ?_) hS ?_ ?_
    rotate_left
    focus (intro W hW; have q := (hx1.below hW hx1.lt).cells; go_simp; first | done | with_reducible rfl)
    try simp only [Act.put, List.setIfInBounds_toArray, List.set_cons_zero, List.set_cons_succ]
    refine takeA 12 (v := .agg #[.int .i64 p, .int .i64 c, .int .i64 n0, .slice none 0 0]) hS ?_ ?_
    · exact fun W hW => by have hbe := run_build_el p c n0 W; go_simp
    try simp only [Act.put, List.setIfInBounds_toArray, List.set_cons_zero, List.set_cons_succ]
    refine wpAnyH_ready (rs := [13]) (by decide +kernel) (by simp) (allA 13 (fun K hK => ?_) AllReadyH.nil)
    have h5 := Blk.newAt w1.drew #[.int .i64 0, .int .i64 0, .int .i64 0, .slice none 0 0] 30 (b := w1.heap.size) rfl
    go_simp
    replace hS := hS.alloc (.cells #[.int .i64 0, .int .i64 0, .int .i64 0, .slice none 0 0] 30)
    refine hK _ _ hS ?_
    clear hK K
    try simp only [Act.put, List.setIfInBounds_toArray, List.set_cons_zero, List.set_cons_succ]
    refine wpAnyH_ready (rs := [14]) (by decide +kernel) (by simp) (allA 14 (fun K hK => ?_) AllReadyH.nil)
    refine wp_store_el _ _ rfl _ rfl _ rfl rfl (el_all rfl) _ _ h5 rfl ?_
    intro w5 hR5 ho5
    replace hS := hS.only ho5 (by omega)
    refine hK _ _ hS ?_
    clear hK K
    try simp only [Act.put, List.setIfInBounds_toArray, List.set_cons_zero, List.set_cons_succ]
    refine wpAnyH_done (by decide +kernel) ?_ _
    go_wp2_with fail
    go_meet
    case rel => exact ⟨rfl, hR5, hS⟩
  case rest =>
    obtain ⟨rfl, h5, hbc⟩ := hcut
    have hm2 := hm1.below hbc hm1.lt
    have hx2 := hx1.below hbc hx1.lt
    have hR2 := hR1.below hbc hR1.lt
    have hb2 := hb1.trans (hbc.mono (by omega))
    clear hm1 hx1 hR1 hb1 hbc
    obtain ⟨D, hown, hsays⟩ := hm2
    have hsz := size_le_of_owns hown
    have hz2 := h5.lt
    have Hsays := Lib.hid hsays
    clear hsays
    generalize hb5 : w1.heap.size = b5 at *
    clear hb5
    go_wp2_with (first | (at_range; refine wpList_range_own _ rfl _ 94 rfl 47 2 keyedDg Try.underlying94 PE bm k D rfl hown ?_; intro w0 hrg0 hg0 hs0))
    go_frame
    have h50 := h5.grown hg0 (by simp)
    have hx0 := hx2.grown hg0 (by simp)
    have hR0 := hR2.grown hg0 (by simp)
    have hb0 := hb2.grown hg0 (by omega) (by simp)
    have hzz : wc.heap.size < w0.heap.size := by omega
    clear h5 hx2 hR2 hb2 hg0 hs0 hown
    generalize hr : wc.heap.size = r at *
    clear hr
    go_loopw [7] (fun _ wr => ∃ (left : Lit → Bool) (cnt : Nat) (ts : List Tm) (v : Value), wr.ranges Try.prog 47 PE bm r k D left cnt ∧ ts.length + cnt ≤ k ∧ Blk wr b5 #[.int .i64 p, .int .i64 c, .int .i64 (szOf ts n0 n), v] 30 ∧ TsOwn wr w0.heap.size v ts ∧ Got p n D f left ts ∧ But w0 wr [b5, r]) (fun _ wr => wr.rangeLeft bm r)
    case atStart => exact ⟨_, _, [], _, hrg0, by simpa using hsz, h50, TsOwn.nil _ _, Got.start, But.refl _ _⟩
    case round =>
      clear h50 hrg0
      obtain ⟨left, cnt, ts, v, hrg, hlen, h5, hv, hgot, hbut⟩ := hrel
      have hz4 := hbut.size
      have hz5 := h5.lt
      go_wp2_with (at_next; refine next_dg rfl _ rfl bm r k n D left cnt f Hsays.out rfl hrg ?_ ?_)
      · intro hl0
        have hR4 := hR0.but hbut (by simp; omega)
        have hb4 := hb0.trans (hbut.below (B := w.heap.size) (by omega) (by simp; omega))
        have hcall := sortTerms_calls wr w0.heap.size v ts hv hgot.pts (by omega)
        have hc5 := h5.cells
        have Hgot := Lib.hid hgot
        clear hgot
        go_wp2_with fail
        refine hcall.mono ?_
        rintro e w6 ⟨rfl, us, hpm, hso, hv6, hg6⟩
        have h56 := h5.grown hg6 (hv.ne_low (by omega))
        have hR6 := hR4.grown hg6 (hv.ne_low (by omega))
        have hb6 := hb4.grown hg6 (by omega) (fun j hj => by have := (hv.lt j hj.symm.symm).1; omega)
        obtain rfl := Hgot.out.done hl0 Hsays.out hpm hso HT.out Hf.out
        rw [szOf_perm hpm] at h56
        have h1c : v.oneCell' = true := by obtain ⟨ad, cap, rfl, -, -⟩ := hv.slice; rfl
        clear hpm hso hcall hrg hc5 h5 hbut hR4 hb4
        go_wp2_with (first | (refine load_el rfl _ rfl _ rfl _ rfl _ h56 ?_) | (refine store_el rfl _ _ rfl _ rfl _ rfl rfl (el_all h1c) _ _ hR6 rfl ?_; intro w9 hR9 ho9))
        refine ret_el rfl _ rfl _ rfl _ hR9 rfl ?_
        exact ⟨v, rfl, (hv6.only ho9 (hv.ne_low (by omega))).mono (by omega), hb6.trans (ho9.below (by omega))⟩
      · intro d w2 cnt1 hd hds hlk hhas hrg1 hlt hg1 hs1 hen
        have hbx := hx0.but hbut (by simp; omega)
        have hx2 := hbx.grown hg1 (by simp; omega)
        have h52 := h5.grown hg1 (by simp; omega)
        have hv2 := hv.grown hg1 (hv.ne_low (by omega))
        have hb2 := hbut.trans (show But wr w2 [b5, r] from ⟨hg1.os, hg1.tape, hg1.output, hg1.size, fun b hb hn => hg1.block b hb (by simp at hn ⊢; exact fun e => hn.2 e)⟩)
        have hz6 : wr.heap.size ≤ w2.heap.size := hg1.size
        have Hlo := Lib.hid hrg.left_eq
        clear hg1 hs1 hv h5 hrg hbut hbx
        have hfd := Hfb.out d hd.wf
        have hsd := hds
        have hwd : d.cells[0]? = some (.int .i64 (n : Int)) := by rw [d.cells0, hds]
        have b1 := Int.emod_nonneg (f d) (show p ≠ 0 by omega)
        have b2 := Int.emod_lt_of_pos (f d) (show 0 < p by omega)
        have hrest := fun W => implRest_calls (f d) p W (by omega) (by omega) hfd.1 hfd.2
        have hskip : f d % p = 0 → _ := fun h => hgot.skip hd h
        have hadd : f d % p ≠ 0 → _ := fun h => hgot.add hd hds hlk hp h
        generalize hfx : f d = x at *
        generalize hq : x % p = q at *
        have Hrest := Lib.hid hrest
        have Hskip := Lib.hid hskip
        have Hadd := Lib.hid hadd
        have Hd := Lib.hid hd
        clear hrest hskip hadd hfx hq hgot hsd hds hd hhas
        by_cases h0 : q = 0
        · subst h0
          go_wp2_with (first | (refine store_dg rfl _ _ rfl _ rfl d rfl _ 47 (Blk.newAt _ _ _ rfl) rfl ?_; intro w3 hd3 ho3; have hx3 := (hx2.alloc _).only ho3 (by omega); have hcx3 := hx3.cells; have hrg3 := hrg1.alloc (.cells (Dg.zero 0).cells 47)) | (go_at_call 119; refine (Hrest.out _).mono ?_; rintro e w' ⟨rfl, rfl⟩))
          have hrg4 := hrg3.kept ho3.grownBy (by simp; omega) (by simp; have := hrg1.lt; omega)
          have h54 := (h52.alloc (.cells (Dg.zero 0).cells 47)).only ho3 (by omega)
          have hv4 := (hv2.alloc' (.cells (Dg.zero 0).cells 47)).only ho3 (fun e => by have := (hv2.lt _ e.symm).2; omega)
          have hb4 := (hb2.alloc (.cells (Dg.zero 0).cells 47)).only ho3 (.inr (by omega))
          go_roundw
          case rel => exact ⟨_, cnt1, ts, v, hrg4, by omega, h54, hv4, Hskip.out trivial, hb4⟩
          case measure => rw [hrg4.left_eq, Hlo.out]; exact hlt
        · have hq0 : (q == 0) = false := beq_eq_false_iff_ne.2 h0
          go_wp2_with (first | (refine store_dg rfl _ _ rfl _ rfl d rfl _ 47 (Blk.newAt _ _ _ rfl) rfl ?_; intro w3 hd3 ho3; have hx3 := (hx2.alloc _).only ho3 (by omega); have hcx3 := hx3.cells; have hcd3 := hd3.cells; have hz3 : w0.heap.size ≤ w3.heap.size := by { rw [ho3.size]; simp; omega }; have h53 := (h52.alloc (.cells (Dg.zero 0).cells 47)).only ho3 (by omega); have hc53 := h53.cells; have hf53 := h53.free; have hrg3 := hrg1.alloc (.cells (Dg.zero 0).cells 47); have hd5 := hd3.other ⟨b5, 2, none⟩ (.int .i64 (n : Int)) (by simp; omega); have hv3 := (hv2.alloc' (.cells (Dg.zero 0).cells 47)).only ho3 (fun e => by have := (hv2.lt _ e.symm).2; omega); have hv5 := hv3.only (Only.setCell w3 b5 2 (.int .i64 (n : Int))) (hv3.ne_low (by omega))) | (go_at_call 119; refine (Hrest.out _).mono ?_; rintro e w' ⟨rfl, rfl⟩) | (refine load_dg rfl _ rfl _ rfl _ _ hd5 ?_) | (refine build_term rfl _ _ rfl d q rfl rfl ?_) | (refine row_term rfl _ rfl ⟨d, q⟩ rfl ?_) | (at_builtin; refine append_tsO rfl _ _ rfl w0.heap.size v ts rfl (hv5.alloc' _) _ 0 1 1 [⟨d, q⟩] rfl (range_newAt _ _ _ (by simp)) rfl (by simp; omega) (by simp; omega) ?_; intro v7 w7 hv7 hg7; have hne7 := hv3.ne_low (b := b5) (by omega); have h57 := ((h53.set 2 (.int .i64 (n : Int))).alloc (.cells (Tm.cells ⟨d, q⟩) 57)).grown hg7 hne7; have hc57 := h57.cells; have hf57 := h57.free; obtain ⟨ad7, cap7, rfl, hn7, hc7⟩ := hv7.slice))
          have hrg4 := (((hrg3.kept ho3.grownBy (by simp; omega) (by simp; have := hrg1.lt; omega)).kept (Only.setCell w3 b5 2 (.int .i64 (n : Int))).grownBy (by simp; omega) (by simp; omega)).alloc (.cells (Tm.cells ⟨d, q⟩) 57)).kept hg7 (hv3.ne_low (by omega)) (hv3.ne_low (by omega))
          have hb4 := ((((hb2.alloc (.cells (Dg.zero 0).cells 47)).only ho3 (.inr (by omega))).only (Only.setCell w3 b5 2 (.int .i64 (n : Int))) (.inl (by simp))).alloc (.cells (Tm.cells ⟨d, q⟩) 57)).grown hg7 (fun j hj => (hv3.lt j hj).1)
          go_roundw
          case rel =>
            refine ⟨_, cnt1, ts ++ [⟨d, q⟩], .slice ad7 (ts.length + 1) cap7, hrg4.kept (Only.setCell w7 b5 3 (.slice ad7 (ts.length + 1) cap7)).grownBy (by simp; omega) (by simp; omega), by simp; omega, ?_, ?_, Hadd.out h0, hb4.only (Only.setCell w7 b5 3 (.slice ad7 (ts.length + 1) cap7)) (.inl (by simp))⟩
            · rw [szOf_add]
              exact h57.set 3 _
            · have h9 := hv7.only (Only.setCell w7 b5 3 (.slice ad7 (ts.length + 1) cap7)) (hv7.ne_low (by omega))
              simpa using h9
          case measure => rw [(hrg4.kept (Only.setCell w7 b5 3 (.slice ad7 (ts.length + 1) cap7)).grownBy (by simp; omega) (by simp; omega)).left_eq, Hlo.out]; exact hlt
end Go.Proofs.Yticmlgnolbccjaa
