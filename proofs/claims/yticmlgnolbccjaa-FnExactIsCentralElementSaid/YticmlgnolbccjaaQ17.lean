/- The unit element and powers: plain laws; the units of both sides walked. -/
import Derived.Test.YticmlgnolbccjaaQ14
import Derived.Test.YticmlgnolbccjaaQ12

set_option linter.unusedVariables false
set_option linter.unusedSimpArgs false
namespace Go.Proofs.Yticmlgnolbccjaa
open Go.RowKit Go.Maps

theorem wf_of {d : Dg} (hl : d.mate.length = 16) (hb : ∀ i, i < 16 → 0 ≤ d.m i ∧ d.m i ≤ 255) (h1 : -9223372036854775808 ≤ d.size) (h2 : d.size ≤ 9223372036854775807) : d.Wf := by
  refine ⟨hl, fun i => ?_, h1, h2⟩
  by_cases h : i < 16
  · exact hb i h
  · have : d.m i = 0 := by
      unfold Dg.m
      rw [List.getD_eq_getElem?_getD, List.getElem?_eq_none (by omega)]; rfl
    omega
theorem one_good (n : Nat) (h1 : 1 ≤ n) (h8 : n ≤ 8) : Good (Dg.one n) ∧ (Dg.one n).size = n := by
  have h : n = 1 ∨ n = 2 ∨ n = 3 ∨ n = 4 ∨ n = 5 ∨ n = 6 ∨ n = 7 ∨ n = 8 := by omega
  rcases h with rfl | rfl | rfl | rfl | rfl | rfl | rfl | rfl <;>
    exact ⟨⟨wf_of (by decide +kernel) (by decide +kernel) (by decide +kernel) (by decide +kernel), by decide +kernel⟩, by decide +kernel⟩
/-- The unit's terms. -/
def oneT (n : Nat) : List Tm := [⟨Dg.one n, 1⟩]
theorem oneT_nf {p : Int} {n : Nat} (hp : 2 ≤ p) (h1 : 1 ≤ n) (h8 : n ≤ 8) : Nf p n (oneT n) := by
  have h := one_good n h1 h8
  refine ⟨fun t ht => ?_, by simp [oneT]⟩
  have : t = ⟨Dg.one n, 1⟩ := by simpa [oneT] using ht
  subst this
  exact ⟨h.1, h.2, by show (1 : Int) ≤ 1; omega, by show (1 : Int) < p; omega⟩
theorem coef_one {n : Nat} (d : Dg) : coef (oneT n) d = if d = Dg.one n then 1 else 0 := by
  show (if Dg.one n = d then 1 else 0) = _
  by_cases h : d = Dg.one n
  · rw [if_pos h, if_pos h.symm]
  · rw [if_neg h, if_neg (fun e => h e.symm)]
/-- k times times x, behind acc. -/
def powGo (x : El) (acc : List Tm) : Nat → El × Int
  | 0 => (⟨x.p, x.c, x.n, acc⟩, 0)
  | k + 1 => if (mulT x.p x.c x.n.toNat acc x.ts).length ≤ 140 then powGo x (mulT x.p x.c x.n.toNat acc x.ts) k else (El.zero, 3)
/-- What PowerElement gives. -/
def El.powR (x : El) (k : Int) : El × Int :=
  if x.ok = true then (if 0 ≤ k ∧ k ≤ 20 then powGo x (oneT x.n.toNat) k.toNat else (El.zero, 2)) else (El.zero, 1)
theorem powGo_len (x : El) : ∀ (k : Nat) (acc : List Tm), acc.length ≤ 140 → (powGo x acc k).1.ts.length ≤ 140
  | 0, acc, h => h
  | k + 1, acc, h => by
    unfold powGo
    split
    · rename_i h1; exact powGo_len x k _ h1
    · exact Nat.zero_le _
theorem El.powR_len (x : El) (k : Int) : (x.powR k).1.ts.length ≤ 140 := by
  unfold El.powR
  split
  · split
    · exact powGo_len x _ _ (by simp [oneT])
    · exact Nat.zero_le _
  · exact Nat.zero_le _

section
variable {ops : Array Oper} {rest : List Oper} {o : Oper} {a : Act} {w : World} {Q : Exit → Act → World → Prop}
/-- An entry of a map that is being built. -/
theorem insert_dg (hg : o.guard = none) (m x v : Operand) (ho : o.op = Op.insert 94 m x v) (b k n : Nat) (f : Dg → Int) (hm : a.eval m = .map (some b)) (h : MapIs w b k n f) (hk : k ≤ 1000000)
    (d : Dg) (hd : Good d) (hs : d.size = n) (hx : a.eval x = .agg d.cells) (y : Int) (hv : a.eval v = .int .i64 y) (hy : (Lit.int .i64 y).wf = true)
    (hK : ∀ w', MapIs w' b (k + 1) n (fun e => if e = d then y else f e) → w.grownBy w' (some b) → wpList Try.prog ops Q rest (a.put o.dst undef) w') : wpList Try.prog ops Q (o :: rest) a w := by
  refine wpList_plain hg fun K' hK' => ?_
  obtain ⟨D, h1, h2⟩ := h
  obtain ⟨w', hrun, r1, r2⟩ := h1.update keyedDg Try.underlying94 (by unfold maxLen; omega) (val := .int .i64 y) (kl_spec hd.wf) (d := i64d y) (ps := []) (plainElem_int Try.underlying2 hy)
  unfold Oper.wp
  simp [execOp, ho, hm, hx, hv, hrun, Result.andThen]
  refine hK' _ _ (hK w' ⟨_, r1, h2.put ?_ hd hs hy⟩ r2)
  obtain ⟨es, clock, -, -, -, rfl⟩ := h1
  exact ⟨_, rfl⟩
end
theorem run_build_el' (p c n : Int) (w : World) : (Instr.build 30 #[(0, .int .i64 p), (1, .int .i64 c), (2, .int .i64 n)]).run Try.prog w = .ok (.agg #[.int .i64 p, .int .i64 c, .int .i64 n, .slice none 0 0]) w := run_build_el p c n w

set_option maxHeartbeats 4000000 in
set_option maxRecDepth 100000 in
/-- One diagram of the number one, as an element of the program. -/
theorem implSingle_calls (p c : Int) (n : Nat) (w : World) (hp : 2 ≤ p) (hp97 : p ≤ 97) (h1 : 1 ≤ n) (h8 : n ≤ 8) :
    Calls Try.prog 79 #[.int .i64 p, .int .i64 c, .agg (Dg.one n).cells, .int .i64 1] w fun e w' => ∃ v, e = .returned (el p c n v) ∧ TsOwn w' w.heap.size v (oneT n) ∧ Below w.heap.size w w' := by
  have hgd := one_good n h1 h8
  have hT := oneT_nf (p := p) (n := n) hp h1 h8
  have hcf : ∀ d : Dg, d.Wf → (fun e => if e = Dg.one n then 1 else (fun _ => 0) e : Dg → Int) d % p = coef (oneT n) d := fun d _ => by
    have h2 := coef_range hT (by omega) d
    have h3 := coef_one (n := n) d
    show (if d = Dg.one n then (1 : Int) else 0) % p = _
    rw [← h3, Int.emod_eq_of_lt h2.1 h2.2]
  have hsz := hgd.2
  have Hgd := Lib.hid hgd.1
  have HT := Lib.hid hT
  have Hcf := Lib.hid hcf
  have hpt := hgd.1.wf
  have hmm := @run_makeMap Try.prog
  have hbe := run_build_el' p c n
  clear hgd hT hcf
  have hD := ((Blk.new w (Dg.one n).cells 47).alloc (.cells #[.int .i64 0, .int .i64 0, .int .i64 0, .slice none 0 0] 30))
  have hR := Blk.newAt (w.alloc (.cells (Dg.one n).cells 47)) #[.int .i64 0, .int .i64 0, .int .i64 0, .slice none 0 0] 30 (b := w.heap.size + 1) (by simp)
  have hbl := ((Below.refl w.heap.size w).alloc (Nat.le_refl _) (.cells (Dg.one n).cells 47)).alloc (by simp) (.cells #[.int .i64 0, .int .i64 0, .int .i64 0, .slice none 0 0] 30)
  have hs0 : (Dg.one n).cells[0]? = some (.int .i64 (n : Int)) := by rw [Dg.cells0, hsz]
  generalize Dg.one (n : Int) = d at *
  have hcD := hD.cells
  go_enter Try.func79, Try.ntmps79
  go_upto_region 2 with (first | (refine store_el rfl _ _ rfl _ rfl _ rfl rfl (el_all rfl) _ _ (Blk.newAt _ _ _ (by simp)) rfl ?_; intro w3 h3 ho3))
  have hD3 := (((hD.alloc (.cells #[.int .i64 0, .int .i64 0, .int .i64 0, .slice none 0 0] 30)).only ho3 (by omega))).alloc (.map #[] 0)
  have hR3 := (((hR.alloc (.cells #[.int .i64 0, .int .i64 0, .int .i64 0, .slice none 0 0] 30)).only ho3 (by omega))).alloc (.map #[] 0)
  have hbl3 := (((hbl.alloc (by simp; omega) (.cells #[.int .i64 0, .int .i64 0, .int .i64 0, .slice none 0 0] 30)).trans (ho3.below (by omega)))).alloc (by have := h3.lt; omega) (.map #[] 0)
  have hM := MapIs.new w3 n
  have hz3 := h3.lt
  have h4 := h3.alloc (.map #[] 0)
  clear hD hR hbl h3 ho3 hcD hs0
  go_wp2_with (first | (refine load_dg rfl _ rfl _ rfl d _ hD3 ?_) | (refine insert_dg rfl _ _ _ rfl _ 0 n _ rfl hM (by omega) d Hgd.out hsz rfl 1 rfl (by decide) ?_; intro w5 hM5 hg5; have h5 := h4.grown hg5 (by simp; omega); have hR5 := hR3.grown hg5 (by simp; omega); have hbl5 : Below w.heap.size w w5 := hbl3.grown hg5 (by have := h4.lt; omega) (fun k hk => by have := Option.some.inj hk; omega)))
  have hcall := with_calls p c n n _ (oneT n) hp hp97 HT.out Hcf.out (fun e _ => by show _ ≤ (if e = d then (1 : Int) else 0) ∧ (if e = d then (1 : Int) else 0) ≤ _; split <;> omega) _ _ 1 _ _ w5 h5 hM5 (by omega)
  rw [szOf_same] at hcall
  refine hcall.mono ?_
  rintro e w6 ⟨v, rfl, hv6, hb6⟩
  have hR6 := hR5.below hb6 hR5.lt
  have hbl6 := hbl5.trans (hb6.mono (by have := hR5.lt; omega))
  have h1c : v.oneCell' = true := hv6.oneCell
  have hz5 := h5.lt
  clear hcall
  go_wp2_with (first | (refine store_el rfl _ _ rfl _ rfl _ rfl rfl (el_all h1c) _ _ hR6 rfl ?_; intro w9 hR9 ho9))
  refine ret_el rfl _ rfl _ rfl _ hR9 rfl ?_
  exact ⟨v, rfl, (hv6.only ho9 (hv6.ne_low (by omega))).mono (by omega), hbl6.trans (ho9.below (by omega))⟩
end Go.Proofs.Yticmlgnolbccjaa

/- The unit as an element: the program's and the reference's. -/
set_option linter.unusedVariables false
set_option linter.unusedSimpArgs false
namespace Go.Proofs.Yticmlgnolbccjaa
open Go.RowKit Go.Maps

section
variable {o : Oper} {a : Act} {w : World} {K : Act → World → Prop} {Q : Exit → Act → World → Prop}
set_option maxRecDepth 100000 in
theorem run_term {v : Value} (x y : Operand) (ho : o.op = .build 57 #[(0, x), (1, y)]) (d : Dg) (k : Int) (hx : a.eval x = .agg d.cells) (hy : a.eval y = .int .i64 k) (hv : v = .agg (Tm.cells ⟨d, k⟩)) :
    (execOp a.eval o).run Try.prog w = .ok (.value v) w := by
  subst hv
  unfold execOp
  simp only [ho, List.map_toArray, List.map_cons, List.map_nil, hx, hy, Sem.run_bind, run_build w 57 _ _ (built_term d k), Result.andThen_ok, Sem.run_pure]
set_option maxRecDepth 100000 in
theorem wp_row_term (x : Operand) (ho : o.op = .buildSlice 28 1 #[(0, x)]) (t : Tm) (hx : a.eval x = .agg t.cells)
    (h : K (a.put o.dst (.slice (some ⟨w.heap.size, 0, none⟩) 1 1)) (w.alloc (.cells t.cells 57))) : o.wp Try.prog a w K Q := by
  obtain ⟨i0, hi, hz0, hz1, hz2⟩ := info_parts rowTerm.info
  refine wp_buildSlice _ 57 1 _ ho t.cells i0 _ rowTerm.und hi hz0 (by rw [hz1]; decide) (by rw [hz1]; decide) ?_ h
  rw [hz1]
  simp only [List.map_toArray, List.map_cons, List.map_nil, hx]
  exact fill_term t
theorem wp_append_ts (s x : Operand) (ho : o.op = .call { callee := .builtin .append, args := #[s, x], argTypes := #[28, 28] })
    (base : Nat) (v : Value) (ts : List Tm) (hs : a.eval s = v) (hown : TsS w base v ts)
    (g off m c : Nat) (us : List Tm) (hx : a.eval x = .slice (some ⟨g, off, none⟩) m c) (hr : w.rangeAt g off (tc us)) (hm : m = us.length)
    (hn : ts.length + us.length ≤ 1000000) (hbase : base ≤ w.heap.size)
    (h : ∀ v' w', TsS w' base v' (ts ++ us) → w.grownBy w' v.ownBlock → K (a.put o.dst v') w') : o.wp Try.prog a w K Q := by
  subst hm
  obtain ⟨i0, hi, hz0, hz1, hz2⟩ := info_parts rowTerm.info
  refine wp_append_own w s x 28 ho base 57 i0 _ 18 32 rowTerm.und hi hz0 hz1 hz2 rowTerm.zs (by decide) v ts.length _ hs hown.1 ⟨g, off, none⟩ us.length c (tc us) hx (length_tc us) ?_ (tc_oneCell us) (by unfold maxLen; omega) (by omega) hbase ?_
  · intro j u hu
    rw [Addr.add_mid]
    exact hr j u hu
  · intro v' w' h1 h2 h3
    refine h v' w' ⟨?_, fun he => hown.2 (h3.1 he).1⟩ h2
    unfold TsOwn
    rw [tc_append, List.length_append]; exact h1
end

set_option maxHeartbeats 4000000 in
set_option maxRecDepth 100000 in
theorem implOneEl_calls (p c : Int) (n : Nat) (vx : Value) (bx : Nat) (Tx : TypeId) (w : World) (hx : Blk w bx #[.int .i64 p, .int .i64 c, .int .i64 n, vx] Tx) (hp : 2 ≤ p) (hp97 : p ≤ 97) (h1 : 1 ≤ n) (h8 : n ≤ 8) :
    Calls Try.prog 57 #[.pointer (some ⟨bx, 0, none⟩)] w fun e w' => ∃ v, e = .returned (el p c n v) ∧ TsOwn w' w.heap.size v (oneT n) ∧ Below w.heap.size w w' := by
  have hX := hx.alloc (.cells #[.int .i64 0, .int .i64 0, .int .i64 0, .slice none 0 0] 30)
  have hR := Blk.new w #[.int .i64 0, .int .i64 0, .int .i64 0, .slice none 0 0] 30
  have hbl := (Below.refl w.heap.size w).alloc (Nat.le_refl _) (.cells #[.int .i64 0, .int .i64 0, .int .i64 0, .slice none 0 0] 30)
  have HU := Lib.hid (fun W => implUnit_calls (n : Int) W (by omega) (by omega))
  have HS := Lib.hid (fun W => implSingle_calls p c n W hp hp97 h1 h8)
  unfold el at HS
  go_enter Try.func57, Try.ntmps57
  go_wp2_with fail
  generalize w.alloc (.cells #[.int .i64 0, .int .i64 0, .int .i64 0, .slice none 0 0] 30) = w1 at *
  have hnb : bx ∉ [w.heap.size] := by have := hx.lt; simp; omega
  have hz1 := hR.lt
  refine wp_region_held_drew (S := fun W => But w1 W [w.heap.size]) (by kernel_rfl) (But.drew w1 _) (fun hS => ?_)
  replace hR := hR.drew
  refine takeA 0 (v := ?_) hS ?_ ?_
  rotate_left
  focus (intro W hW; go_simp; first | done | with_reducible rfl)
  try simp only [Act.put, List.setIfInBounds_toArray, List.set_cons_zero, List.set_cons_succ]
  refine takeA 1 (v := ?_) hS ?_ ?_
  rotate_left
  focus (intro W hW; go_simp; first | done | with_reducible rfl)
  try simp only [Act.put, List.setIfInBounds_toArray, List.set_cons_zero, List.set_cons_succ]
  refine takeA 2 (v := ?_) hS ?_ ?_
  rotate_left
  focus (intro W hW; go_simp; first | done | with_reducible rfl)
  try simp only [Act.put, List.setIfInBounds_toArray, List.set_cons_zero, List.set_cons_succ]
  refine takeA 3 (v := ?_) hS ?_ ?_
  rotate_left
  focus (intro W hW; have q1 := (hX.but hW hnb).cells; go_simp; first | done | with_reducible rfl)
  try simp only [Act.put, List.setIfInBounds_toArray, List.set_cons_zero, List.set_cons_succ]
  refine takeA 4 (v := ?_) hS ?_ ?_
  rotate_left
  focus (intro W hW; go_simp; first | done | with_reducible rfl)
  try simp only [Act.put, List.setIfInBounds_toArray, List.set_cons_zero, List.set_cons_succ]
  refine takeA 5 (v := ?_) hS ?_ ?_
  rotate_left
  focus (intro W hW; go_simp; first | done | with_reducible rfl)
  try simp only [Act.put, List.setIfInBounds_toArray, List.set_cons_zero, List.set_cons_succ]
  refine takeA 6 (v := ?_) hS ?_ ?_
  rotate_left
  focus (intro W hW; go_simp; first | done | with_reducible rfl)
  try simp only [Act.put, List.setIfInBounds_toArray, List.set_cons_zero, List.set_cons_succ]
  refine takeA 7 (v := ?_) hS ?_ ?_
  rotate_left
  focus (intro W hW; have q1 := (hX.but hW hnb).cells; go_simp; first | done | with_reducible rfl)
  try simp only [Act.put, List.setIfInBounds_toArray, List.set_cons_zero, List.set_cons_succ]
  refine takeA 8 (v := ?_) hS ?_ ?_
  rotate_left
  focus (intro W hW; go_simp; first | done | with_reducible rfl)
  try simp only [Act.put, List.setIfInBounds_toArray, List.set_cons_zero, List.set_cons_succ]
  refine takeA 9 (v := ?_) hS ?_ ?_
  rotate_left
  focus (intro W hW; go_simp; first | done | with_reducible rfl)
  try simp only [Act.put, List.setIfInBounds_toArray, List.set_cons_zero, List.set_cons_succ]
  refine takeA 10 (v := ?_) hS ?_ ?_
  rotate_left
  focus (intro W hW; go_simp; first | done | with_reducible rfl)
  try simp only [Act.put, List.setIfInBounds_toArray, List.set_cons_zero, List.set_cons_succ]
  refine takeA 11 (v := ?_) hS ?_ ?_
  rotate_left
  focus (intro W hW; have q1 := (hX.but hW hnb).cells; go_simp; first | done | with_reducible rfl)
  try simp only [Act.put, List.setIfInBounds_toArray, List.set_cons_zero, List.set_cons_succ]
  refine wpAnyH_ready (rs := [12]) (by decide +kernel) (by simp) (allA 12 (fun K hK => ?_) AllReadyH.nil)
  go_simp
  refine (HU.out _).mono ?_
  rintro e u3 ⟨rfl, hb⟩
  replace hS : But w1 u3 [w.heap.size] := hS.ext hb
  replace hR := hR.below hb hR.lt
  refine hK _ _ hS ?_
  clear hK K hb
  try simp only [Act.put, List.setIfInBounds_toArray, List.set_cons_zero, List.set_cons_succ]
  refine wpAnyH_ready (rs := [13]) (by decide +kernel) (by simp) (allA 13 (fun K hK => ?_) AllReadyH.nil)
  go_simp
  refine (HS.out _).mono ?_
  rintro e u4 ⟨v, rfl, hv, hb⟩
  replace hv := hv.mono hS.size
  replace hS : But w1 u4 [w.heap.size] := hS.ext hb
  replace hR := hR.below hb hR.lt
  refine hK _ _ hS ?_
  clear hK K hb
  try simp only [Act.put, List.setIfInBounds_toArray, List.set_cons_zero, List.set_cons_succ]
  refine wpAnyH_ready (rs := [14]) (by decide +kernel) (by simp) (allA 14 (fun K hK => ?_) AllReadyH.nil)
  have h1c : v.oneCell' = true := hv.oneCell
  refine wp_store_el _ _ rfl _ rfl _ rfl rfl (el_all h1c) _ _ hR rfl ?_
  intro u9 hR9 ho9
  replace hv := hv.only ho9 (hv.ne_low (by omega))
  replace hS : But w1 u9 [w.heap.size] := hS.only ho9 (.inl (by simp))
  refine hK _ _ hS ?_
  clear hK K
  try simp only [Act.put, List.setIfInBounds_toArray, List.set_cons_zero, List.set_cons_succ]
  refine wpAnyH_done (by decide +kernel) ?_ _
  go_wp2_with fail
  refine ret_el rfl _ rfl _ rfl _ hR9 rfl ?_
  exact ⟨v, rfl, hv.mono (by omega), hbl.trans (hS.below (by omega) (by simp))⟩


set_option maxHeartbeats 4000000 in
set_option maxRecDepth 100000 in
theorem specOneEl_calls (p c : Int) (n : Nat) (vx : Value) (w : World) (h1c : vx.oneCell' = true) (h1 : 1 ≤ n) (h8 : n ≤ 8) :
    Calls Try.prog 55 #[el p c n vx] w fun e w' => ∃ v, e = .returned (el p c n v) ∧ TsS w' w.heap.size v (oneT n) ∧ Below w.heap.size w w' := by
  unfold el
  have hE := specEmpty_calls p c n vx ((w.alloc (.cells #[.int .i64 p, .int .i64 c, .int .i64 n, vx] 30)).alloc (.cells #[.int .i64 0, .int .i64 0, .int .i64 0, .slice none 0 0] 30))
  unfold el at hE
  have HU := Lib.hid (fun W => specOne_calls (n : Int) W (by omega) (by omega))
  have hX := (Blk.new w #[.int .i64 p, .int .i64 c, .int .i64 n, vx] 30).alloc (.cells #[.int .i64 0, .int .i64 0, .int .i64 0, .slice none 0 0] 30)
  have hR := Blk.newAt (w.alloc (.cells #[.int .i64 p, .int .i64 c, .int .i64 n, vx] 30)) #[.int .i64 0, .int .i64 0, .int .i64 0, .slice none 0 0] 30 (b := w.heap.size + 1) (by simp)
  have hbl := ((Below.refl w.heap.size w).alloc (Nat.le_refl _) (.cells #[.int .i64 p, .int .i64 c, .int .i64 n, vx] 30)).alloc (by simp) (.cells #[.int .i64 0, .int .i64 0, .int .i64 0, .slice none 0 0] 30)
  have hz2 := hR.lt
  have hTd : (⟨Dg.one n, 1⟩ : Tm) ∈ oneT n := by simp [oneT]
  go_enter Try.func55, Try.ntmps55
  go_upto_region 2 with (first | (refine load_el rfl _ rfl _ rfl _ rfl _ hX ?_) | (go_at_call 38; refine hE.mono ?_; rintro e w1 ⟨v0, rfl, hv0, hb0⟩; obtain ⟨g0, cap0, rfl, hg0, -, -, -, -⟩ := hv0.out))
  have hz0 := hb0.size
  have hX1 := (hX.below hb0 hX.lt).alloc (.cells #[.int .i64 p, .int .i64 c, .int .i64 n, .slice (some ⟨g0, 0, none⟩) ([] : List Tm).length cap0] 30)
  have hR1 := (hR.below hb0 hR.lt).alloc (.cells #[.int .i64 p, .int .i64 c, .int .i64 n, .slice (some ⟨g0, 0, none⟩) ([] : List Tm).length cap0] 30)
  have hO := Blk.new w1 #[.int .i64 p, .int .i64 c, .int .i64 n, .slice (some ⟨g0, 0, none⟩) ([] : List Tm).length cap0] 30
  have hbl2 := (hbl.trans (hb0.mono (by omega))).alloc (by omega) (.cells #[.int .i64 p, .int .i64 c, .int .i64 n, .slice (some ⟨g0, 0, none⟩) ([] : List Tm).length cap0] 30)
  have hv1 := (hv0.mono (base' := w.heap.size) (by omega)).alloc (.cells #[.int .i64 p, .int .i64 c, .int .i64 n, .slice (some ⟨g0, 0, none⟩) ([] : List Tm).length cap0] 30)
  have hz1 : (w1.alloc (.cells #[.int .i64 p, .int .i64 c, .int .i64 n, .slice (some ⟨g0, 0, none⟩) ([] : List Tm).length cap0] 30)).heap.size = w1.heap.size + 1 := by simp
  clear hE hb0 hv0 hbl hX hR
  generalize hb5 : w1.heap.size = b5 at *
  generalize w1.alloc (.cells #[.int .i64 p, .int .i64 c, .int .i64 n, .slice (some ⟨g0, 0, none⟩) ([] : List Tm).length cap0] 30) = w2 at *
  clear hb5
  have hz7 : w.heap.size + 2 ≤ g0 := by simp at hg0; omega
  have hz8 : w.heap.size + 2 ≤ b5 := by simp at hz0; omega
  have hnb : w.heap.size ∉ [b5, g0] := by simp; omega
  have hz3 : b5 < w2.heap.size := by omega
  have hv := hv1
  clear hv1
  refine wp_region_held_drew (S := fun W => But w2 W [b5, g0]) (by kernel_rfl) (But.drew w2 _) (fun hS => ?_)
  replace hO := hO.drew
  replace hv : TsS w2.drew w.heap.size _ _ := hv.drewN 1
  refine takeA 0 (v := ?_) hS ?_ ?_
  rotate_left
  focus (intro W hW; go_simp; first | done | with_reducible rfl)
  try simp only [Act.put, List.setIfInBounds_toArray, List.set_cons_zero, List.set_cons_succ]
  refine takeA 2 (v := ?_) hS ?_ ?_
  rotate_left
  focus (intro W hW; go_simp; first | done | with_reducible rfl)
  try simp only [Act.put, List.setIfInBounds_toArray, List.set_cons_zero, List.set_cons_succ]
  refine takeA 3 (v := ?_) hS ?_ ?_
  rotate_left
  focus (intro W hW; have q1 := (hX1.but hW hnb).cells; go_simp; first | done | with_reducible rfl)
  try simp only [Act.put, List.setIfInBounds_toArray, List.set_cons_zero, List.set_cons_succ]
  refine wpAnyH_ready (rs := [1, 4]) (by decide +kernel) (by simp) (allA 1 (fun K hK => ?_) (allA 4 (fun K hK => ?_) AllReadyH.nil))
  · have hcO := hO.cells
    go_simp
    refine hK _ _ hS ?_
    clear hK K hcO
    try simp only [Act.put, List.setIfInBounds_toArray, List.set_cons_zero, List.set_cons_succ]
    refine wpAnyH_ready (rs := [4]) (by decide +kernel) (by simp) (allA 4 (fun K hK => ?_) AllReadyH.nil)
    go_simp
    refine (HU.out _).mono ?_
    rintro e u4 ⟨rfl, hb⟩
    replace hS : But w2 u4 [b5, g0] := hS.ext hb
    replace hO := hO.below hb hO.lt
    replace hv := hv.below hb (Nat.le_refl _)
    refine hK _ _ hS ?_
    clear hK K hb
    try simp only [Act.put, List.setIfInBounds_toArray, List.set_cons_zero, List.set_cons_succ]
    refine takeA 5 (v := .agg (Tm.cells ⟨Dg.one n, 1⟩)) hS ?_ ?_
    · exact fun W hW => run_term _ _ rfl _ _ rfl rfl rfl
    try simp only [Act.put, List.setIfInBounds_toArray, List.set_cons_zero, List.set_cons_succ]
    refine wpAnyH_ready (rs := [6]) (by decide +kernel) (by simp) (allA 6 (fun K hK => ?_) AllReadyH.nil)
    refine wp_row_term _ rfl ⟨Dg.one n, 1⟩ rfl ?_
    have hr := range_new u4 ⟨Dg.one n, 1⟩ 57
    replace hv := hv.alloc (.cells (Tm.cells ⟨Dg.one n, 1⟩) 57)
    replace hO := hO.alloc (.cells (Tm.cells ⟨Dg.one n, 1⟩) 57)
    replace hS : But w2 _ [b5, g0] := hS.alloc (.cells (Tm.cells ⟨Dg.one n, 1⟩) 57)
    refine hK _ _ hS ?_
    clear hK K
    try simp only [Act.put, List.setIfInBounds_toArray, List.set_cons_zero, List.set_cons_succ]
    refine wpAnyH_ready (rs := [7]) (by decide +kernel) (by simp) (allA 7 (fun K hK => ?_) AllReadyH.nil)
    refine wp_append_ts _ _ rfl w.heap.size _ [] rfl hv _ 0 1 1 [⟨Dg.one n, 1⟩] rfl hr rfl (by simp) (by have := hS.size; omega) ?_
    intro v7 u7 hv7 hg7
    replace hS : But w2 u7 [b5, g0] := hS.own (b := g0) hg7 (by simp)
    replace hO := hO.grown hg7 (hv.ne_blk hO (by decide))
    refine hK _ _ hS ?_
    clear hK K hg7 hv
    try simp only [Act.put, List.setIfInBounds_toArray, List.set_cons_zero, List.set_cons_succ]
    refine takeA 8 (v := ?_) hS ?_ ?_
    rotate_left
    focus (intro W hW; go_simp; first | done | with_reducible rfl)
    try simp only [Act.put, List.setIfInBounds_toArray, List.set_cons_zero, List.set_cons_succ]
    refine wpAnyH_ready (rs := [9]) (by decide +kernel) (by simp) (allA 9 (fun K hK => ?_) AllReadyH.nil)
    have hc7 := hv7.oneCell
    have hO9 : Blk (u7.setCell ⟨b5, 3, none⟩ v7) b5 #[.int .i64 p, .int .i64 c, .int .i64 n, v7] 30 := hO.set 3 v7
    have hv9 := hv7.only (Only.setCell u7 b5 3 v7) (hv7.ne_blk hO (by decide))
    replace hS : But w2 (u7.setCell ⟨b5, 3, none⟩ v7) [b5, g0] := hS.only (Only.setCell u7 b5 3 v7) (.inl (by simp))
    obtain ⟨g7, cap7, rfl, -, -, -, -, -⟩ := hv7.out
    have hcO := hO.cells
    have hfO := hO.free
    go_simp
    refine hK _ _ hS ?_
    clear hK K hcO hfO hO hv7
    try simp only [Act.put, List.setIfInBounds_toArray, List.set_cons_zero, List.set_cons_succ]
    refine wpAnyH_done (by decide +kernel) ?_ _
    have hR9 := hR1.but hS (by simp; omega)
    have hbl9 := hbl2.trans (hS.below (B := w.heap.size) (by omega) (by simp; omega))
    go_wp2_with (first | (refine load_el rfl _ rfl _ rfl _ rfl _ hO9 ?_) | (refine store_el rfl _ _ rfl _ rfl _ rfl rfl (el_all hc7) _ _ hR9 rfl ?_; intro w9 hR10 ho9))
    refine ret_el rfl _ rfl _ rfl _ hR10 rfl ?_
    exact ⟨_, rfl, hv9.only ho9 (hv9.ne_blk hR9 (by decide)), hbl9.trans (ho9.below (by omega))⟩
  · go_simp
    refine (HU.out _).mono ?_
    rintro e u4 ⟨rfl, hb⟩
    replace hS : But w2 u4 [b5, g0] := hS.ext hb
    replace hO := hO.below hb hO.lt
    replace hv := hv.below hb (Nat.le_refl _)
    refine hK _ _ hS ?_
    clear hK K hb
    try simp only [Act.put, List.setIfInBounds_toArray, List.set_cons_zero, List.set_cons_succ]
    refine takeA 5 (v := .agg (Tm.cells ⟨Dg.one n, 1⟩)) hS ?_ ?_
    · exact fun W hW => run_term _ _ rfl _ _ rfl rfl rfl
    try simp only [Act.put, List.setIfInBounds_toArray, List.set_cons_zero, List.set_cons_succ]
    refine wpAnyH_ready (rs := [1, 6]) (by decide +kernel) (by simp) (allA 1 (fun K hK => ?_) (allA 6 (fun K hK => ?_) AllReadyH.nil))
    · have hcO := hO.cells
      go_simp
      refine hK _ _ hS ?_
      clear hK K hcO
      try simp only [Act.put, List.setIfInBounds_toArray, List.set_cons_zero, List.set_cons_succ]
      refine wpAnyH_ready (rs := [6]) (by decide +kernel) (by simp) (allA 6 (fun K hK => ?_) AllReadyH.nil)
      refine wp_row_term _ rfl ⟨Dg.one n, 1⟩ rfl ?_
      have hr := range_new u4 ⟨Dg.one n, 1⟩ 57
      replace hv := hv.alloc (.cells (Tm.cells ⟨Dg.one n, 1⟩) 57)
      replace hO := hO.alloc (.cells (Tm.cells ⟨Dg.one n, 1⟩) 57)
      replace hS : But w2 _ [b5, g0] := hS.alloc (.cells (Tm.cells ⟨Dg.one n, 1⟩) 57)
      refine hK _ _ hS ?_
      clear hK K
      try simp only [Act.put, List.setIfInBounds_toArray, List.set_cons_zero, List.set_cons_succ]
      refine wpAnyH_ready (rs := [7]) (by decide +kernel) (by simp) (allA 7 (fun K hK => ?_) AllReadyH.nil)
      refine wp_append_ts _ _ rfl w.heap.size _ [] rfl hv _ 0 1 1 [⟨Dg.one n, 1⟩] rfl hr rfl (by simp) (by have := hS.size; omega) ?_
      intro v7 u7 hv7 hg7
      replace hS : But w2 u7 [b5, g0] := hS.own (b := g0) hg7 (by simp)
      replace hO := hO.grown hg7 (hv.ne_blk hO (by decide))
      refine hK _ _ hS ?_
      clear hK K hg7 hv
      try simp only [Act.put, List.setIfInBounds_toArray, List.set_cons_zero, List.set_cons_succ]
      refine takeA 8 (v := ?_) hS ?_ ?_
      rotate_left
      focus (intro W hW; go_simp; first | done | with_reducible rfl)
      try simp only [Act.put, List.setIfInBounds_toArray, List.set_cons_zero, List.set_cons_succ]
      refine wpAnyH_ready (rs := [9]) (by decide +kernel) (by simp) (allA 9 (fun K hK => ?_) AllReadyH.nil)
      have hc7 := hv7.oneCell
      have hO9 : Blk (u7.setCell ⟨b5, 3, none⟩ v7) b5 #[.int .i64 p, .int .i64 c, .int .i64 n, v7] 30 := hO.set 3 v7
      have hv9 := hv7.only (Only.setCell u7 b5 3 v7) (hv7.ne_blk hO (by decide))
      replace hS : But w2 (u7.setCell ⟨b5, 3, none⟩ v7) [b5, g0] := hS.only (Only.setCell u7 b5 3 v7) (.inl (by simp))
      obtain ⟨g7, cap7, rfl, -, -, -, -, -⟩ := hv7.out
      have hcO := hO.cells
      have hfO := hO.free
      go_simp
      refine hK _ _ hS ?_
      clear hK K hcO hfO hO hv7
      try simp only [Act.put, List.setIfInBounds_toArray, List.set_cons_zero, List.set_cons_succ]
      refine wpAnyH_done (by decide +kernel) ?_ _
      have hR9 := hR1.but hS (by simp; omega)
      have hbl9 := hbl2.trans (hS.below (B := w.heap.size) (by omega) (by simp; omega))
      go_wp2_with (first | (refine load_el rfl _ rfl _ rfl _ rfl _ hO9 ?_) | (refine store_el rfl _ _ rfl _ rfl _ rfl rfl (el_all hc7) _ _ hR9 rfl ?_; intro w9 hR10 ho9))
      refine ret_el rfl _ rfl _ rfl _ hR10 rfl ?_
      exact ⟨_, rfl, hv9.only ho9 (hv9.ne_blk hR9 (by decide)), hbl9.trans (ho9.below (by omega))⟩
    · refine wp_row_term _ rfl ⟨Dg.one n, 1⟩ rfl ?_
      have hr := range_new u4 ⟨Dg.one n, 1⟩ 57
      replace hv := hv.alloc (.cells (Tm.cells ⟨Dg.one n, 1⟩) 57)
      replace hO := hO.alloc (.cells (Tm.cells ⟨Dg.one n, 1⟩) 57)
      replace hS : But w2 _ [b5, g0] := hS.alloc (.cells (Tm.cells ⟨Dg.one n, 1⟩) 57)
      refine hK _ _ hS ?_
      clear hK K
      try simp only [Act.put, List.setIfInBounds_toArray, List.set_cons_zero, List.set_cons_succ]
      refine wpAnyH_ready (rs := [1]) (by decide +kernel) (by simp) (allA 1 (fun K hK => ?_) AllReadyH.nil)
      have hcO := hO.cells
      go_simp
      refine hK _ _ hS ?_
      clear hK K hcO
      try simp only [Act.put, List.setIfInBounds_toArray, List.set_cons_zero, List.set_cons_succ]
      refine wpAnyH_ready (rs := [7]) (by decide +kernel) (by simp) (allA 7 (fun K hK => ?_) AllReadyH.nil)
      refine wp_append_ts _ _ rfl w.heap.size _ [] rfl hv _ 0 1 1 [⟨Dg.one n, 1⟩] rfl hr rfl (by simp) (by have := hS.size; omega) ?_
      intro v7 u7 hv7 hg7
      replace hS : But w2 u7 [b5, g0] := hS.own (b := g0) hg7 (by simp)
      replace hO := hO.grown hg7 (hv.ne_blk hO (by decide))
      refine hK _ _ hS ?_
      clear hK K hg7 hv
      try simp only [Act.put, List.setIfInBounds_toArray, List.set_cons_zero, List.set_cons_succ]
      refine takeA 8 (v := ?_) hS ?_ ?_
      rotate_left
      focus (intro W hW; go_simp; first | done | with_reducible rfl)
      try simp only [Act.put, List.setIfInBounds_toArray, List.set_cons_zero, List.set_cons_succ]
      refine wpAnyH_ready (rs := [9]) (by decide +kernel) (by simp) (allA 9 (fun K hK => ?_) AllReadyH.nil)
      have hc7 := hv7.oneCell
      have hO9 : Blk (u7.setCell ⟨b5, 3, none⟩ v7) b5 #[.int .i64 p, .int .i64 c, .int .i64 n, v7] 30 := hO.set 3 v7
      have hv9 := hv7.only (Only.setCell u7 b5 3 v7) (hv7.ne_blk hO (by decide))
      replace hS : But w2 (u7.setCell ⟨b5, 3, none⟩ v7) [b5, g0] := hS.only (Only.setCell u7 b5 3 v7) (.inl (by simp))
      obtain ⟨g7, cap7, rfl, -, -, -, -, -⟩ := hv7.out
      have hcO := hO.cells
      have hfO := hO.free
      go_simp
      refine hK _ _ hS ?_
      clear hK K hcO hfO hO hv7
      try simp only [Act.put, List.setIfInBounds_toArray, List.set_cons_zero, List.set_cons_succ]
      refine wpAnyH_done (by decide +kernel) ?_ _
      have hR9 := hR1.but hS (by simp; omega)
      have hbl9 := hbl2.trans (hS.below (B := w.heap.size) (by omega) (by simp; omega))
      go_wp2_with (first | (refine load_el rfl _ rfl _ rfl _ rfl _ hO9 ?_) | (refine store_el rfl _ _ rfl _ rfl _ rfl rfl (el_all hc7) _ _ hR9 rfl ?_; intro w9 hR10 ho9))
      refine ret_el rfl _ rfl _ rfl _ hR10 rfl ?_
      exact ⟨_, rfl, hv9.only ho9 (hv9.ne_blk hR9 (by decide)), hbl9.trans (ho9.below (by omega))⟩

end Go.Proofs.Yticmlgnolbccjaa

/- The walk of the program's product of two elements, the left one's terms perhaps nil. -/
set_option linter.unusedVariables false
set_option linter.unusedSimpArgs false
namespace Go.Proofs.Yticmlgnolbccjaa
open Go.RowKit Go.Maps

set_option maxHeartbeats 1000000 in
set_option maxRecDepth 100000 in
theorem implMulL_calls (p c : Int) (n : Nat) (ts us : List Tm) (hp : 2 ≤ p) (hp97 : p ≤ 97) (hc0 : 0 ≤ c) (hcp : c ≤ p) (hn1 : 1 ≤ n) (hn8 : n ≤ 8) (hts : Nf p n ts) (hus : Nf p n us) (hlt : ts.length ≤ 300) (hlu : us.length ≤ 300)
    (vx vy : Value) (w : World) (hx : LIn w vx ts) (hy : TsS w 0 vy us) :
    Calls Try.prog 45 #[el p c n vx, el p c n vy] w fun e w' => ∃ v, e = .returned (el p c n v) ∧ TsOwn w' w.heap.size v (mulT p c n ts us) ∧ Below w.heap.size w w' := by
  obtain ⟨ad1, cap1, rfl, hc1, hm1, hrd1⟩ := hx
  have Hrd1 := Lib.hid hrd1
  clear hrd1
  obtain ⟨g2, cap2, rfl, -, hg2, hc2, hm2, hr2⟩ := hy.out
  have Hts := Lib.hid hts
  have Hus := Lib.hid hus
  clear hts hus hy
  unfold el
  have hmm := @run_makeMap Try.prog
  go_enter Try.func45, Try.ntmps45
  have hX := ((Blk.new w #[.int .i64 p, .int .i64 c, .int .i64 n, .slice ad1 ts.length cap1] 30).alloc (.cells #[.int .i64 p, .int .i64 c, .int .i64 n, .slice (some ⟨g2, 0, none⟩) us.length cap2] 30)).alloc (.cells #[.int .i64 0, .int .i64 0, .int .i64 0, .slice none 0 0] 30) |>.alloc (.map #[] 0)
  have hY := (Blk.newAt (w.alloc (.cells #[.int .i64 p, .int .i64 c, .int .i64 n, .slice ad1 ts.length cap1] 30)) #[.int .i64 p, .int .i64 c, .int .i64 n, .slice (some ⟨g2, 0, none⟩) us.length cap2] 30 (b := w.heap.size + 1) (by simp)).alloc (.cells #[.int .i64 0, .int .i64 0, .int .i64 0, .slice none 0 0] 30) |>.alloc (.map #[] 0)
  have hZ := Blk.newAt ((w.alloc (.cells #[.int .i64 p, .int .i64 c, .int .i64 n, .slice ad1 ts.length cap1] 30)).alloc (.cells #[.int .i64 p, .int .i64 c, .int .i64 n, .slice (some ⟨g2, 0, none⟩) us.length cap2] 30)) #[.int .i64 0, .int .i64 0, .int .i64 0, .slice none 0 0] 30 (b := w.heap.size + 1 + 1) (by simp) |>.alloc (.map #[] 0)
  have hM := MapIs.new (((w.alloc (.cells #[.int .i64 p, .int .i64 c, .int .i64 n, .slice ad1 ts.length cap1] 30)).alloc (.cells #[.int .i64 p, .int .i64 c, .int .i64 n, .slice (some ⟨g2, 0, none⟩) us.length cap2] 30)).alloc (.cells #[.int .i64 0, .int .i64 0, .int .i64 0, .slice none 0 0] 30)) n
  have hbl := ((((Below.refl w.heap.size w).alloc (Nat.le_refl _) (.cells #[.int .i64 p, .int .i64 c, .int .i64 n, .slice ad1 ts.length cap1] 30)).alloc (by simp) (.cells #[.int .i64 p, .int .i64 c, .int .i64 n, .slice (some ⟨g2, 0, none⟩) us.length cap2] 30)).alloc (by simp; omega) (.cells #[.int .i64 0, .int .i64 0, .int .i64 0, .slice none 0 0] 30)).alloc (by simp; omega) (.map #[] 0)
  have hz : (((w.alloc (.cells #[.int .i64 p, .int .i64 c, .int .i64 n, .slice ad1 ts.length cap1] 30)).alloc (.cells #[.int .i64 p, .int .i64 c, .int .i64 n, .slice (some ⟨g2, 0, none⟩) us.length cap2] 30)).alloc (.cells #[.int .i64 0, .int .i64 0, .int .i64 0, .slice none 0 0] 30)).heap.size = w.heap.size + 1 + 1 + 1 := by simp
  rw [hz] at hM
  have hr2' := rangeAt_below hr2 hbl hg2
  have hcX := hX.cells
  have Hbl := Lib.hid hbl
  have HZ := Lib.hid hZ
  clear hz hr2 hbl hZ
  go_wp2_with fail
  generalize (((w.alloc (.cells #[.int .i64 p, .int .i64 c, .int .i64 n, .slice ad1 ts.length cap1] 30)).alloc (.cells #[.int .i64 p, .int .i64 c, .int .i64 n, .slice (some ⟨g2, 0, none⟩) us.length cap2] 30)).alloc (.cells #[.int .i64 0, .int .i64 0, .int .i64 0, .slice none 0 0] 30)).alloc (.map #[] 0) = w2 at *
  have hzm := hM.lt
  generalize hbm : w.heap.size + 1 + 1 + 1 = bm at *
  have hbm1 : w.heap.size + 1 + 1 < bm := by omega
  clear hbm hmm
  go_loopw [16] (fun i wr => ∃ j : Nat, j ≤ ts.length ∧ i = .int .i64 j ∧ MapIs wr bm (300 * j) n (coef (mulTo p c n ts us j)) ∧ But w2 wr [bm]) (fun i _ => ts.length - (intOf i).toNat)
  case atStart => exact ⟨0, by omega, rfl, hM, But.refl _ _⟩
  case round =>
    clear hM
    obtain ⟨j, hj, rfl, hM, hbut⟩ := hrel
    have hz3 := hbut.size
    have hX3 := hX.but hbut (by simp; omega)
    have hY3 := hY.but hbut (by simp; omega)
    by_cases hlt : j < ts.length
    · obtain ⟨g1, o1, rfl, hg1, hr1⟩ := Hrd1.out (fun e => by rw [e] at hlt; simp at hlt)
      have hT := Hts.out.mem ts[j] (List.getElem_mem hlt)
      have hbz : Below w.heap.size w2 wr := hbut.below (by omega) (by simp; omega)
      have hra := range_tm (rangeAt_below hr1 (Hbl.out.trans hbz) hg1) j ts[j] (List.getElem?_eq_getElem hlt)
      have hcY := hY3.cells
      have hzr := wr.heap.size
      have hbm3 : bm < wr.heap.size := by omega
      have hYa := hY3.alloc (.cells (Tm.cells ⟨Dg.zero 0, 0⟩) 57)
      have hba := hbut.alloc (.cells (Tm.cells ⟨Dg.zero 0, 0⟩) 57)
      have hMa := hM.alloc (.cells (Tm.cells ⟨Dg.zero 0, 0⟩) 57)
      go_wp2_with (first | (refine load_tm_mid rfl _ rfl _ _ rfl _ hra ?_) | (refine store_tm rfl _ _ rfl _ rfl ts[j] rfl _ 57 (Blk.newAt _ _ _ rfl) rfl ?_; intro w3 ht3 ho3; have hY4 := hYa.only ho3 (by omega); have hcY4 := hY4.cells))
      have hbut4 := hba.only ho3 (.inr (by omega))
      have hM4 := hMa.only ho3 (by omega)
      have hX4 := (hX3.alloc (.cells (Tm.cells ⟨Dg.zero 0, 0⟩) 57)).only ho3 (by omega)
      have hrb4 := rangeAt_below (rangeAt_below hr2' hbz hg2) (Below.trans ((Below.refl wr.heap.size wr).alloc (Nat.le_refl _) (.cells (Tm.cells ⟨Dg.zero 0, 0⟩) 57)) (ho3.below (Nat.le_refl _))) (by omega)
      have hz4 : wr.heap.size < w3.heap.size := ht3.lt
      have HT := Lib.hid hT
      clear hYa hba hMa hM hX3 hY3 hcY hra hbut hT ho3 hcY4 hbz hzr
      generalize hbt : wr.heap.size = bt at *
      clear hbt
      go_loopw [23] (fun i wq => ∃ m : Nat, m ≤ us.length ∧ i = .int .i64 m ∧ MapIs wq bm (300 * j + m) n (coef (mrow p c n (mulTo p c n ts us j) ts[j] us m)) ∧ But w3 wq [bm]) (fun i _ => us.length - (intOf i).toNat)
      case atStart => exact ⟨0, by omega, rfl, hM4, But.refl _ _⟩
      case round =>
        clear hM4
        obtain ⟨m, hm, rfl, hM, hbut⟩ := hrel
        have hz5 := hbut.size
        by_cases hltm : m < us.length
        · have hU := Hus.out.mem us[m] (List.getElem_mem hltm)
          have hbz : Below w.heap.size w3 wr := hbut.below (by omega) (by simp; omega)
          have hrb := range_tm (rangeAt_below hrb4 hbz hg2) m us[m] (List.getElem?_eq_getElem hltm)
          rw [Nat.zero_add] at hrb
          have htA := ht3.but hbut (by simp; omega)
          have hXA := hX4.but hbut (by simp; omega)
          have htB := htA.alloc (.cells (Tm.cells ⟨Dg.zero 0, 0⟩) 57)
          have hba := hbut.alloc (.cells (Tm.cells ⟨Dg.zero 0, 0⟩) 57)
          have hMa := hM.alloc (.cells (Tm.cells ⟨Dg.zero 0, 0⟩) 57)
          have hXB := hXA.alloc (.cells (Tm.cells ⟨Dg.zero 0, 0⟩) 57)
          go_wp2_with (first | (refine load_tm_mid rfl _ rfl _ _ rfl _ hrb ?_) | (refine store_tm rfl _ _ rfl _ rfl us[m] rfl _ 57 (Blk.newAt _ _ _ rfl) rfl ?_; intro w4 hu4 ho4; have htC := htB.only ho4 (by omega)) | (refine load_dg_mid rfl _ rfl _ _ rfl ts[j].d htC.tm_dg ?_) | (refine load_dg_mid rfl _ rfl _ _ rfl us[m].d hu4.tm_dg ?_))
          have hM4 := hMa.only ho4 (by omega)
          have hXC := hXB.only ho4 (by omega)
          have hbuC := hba.only ho4 (.inr (by omega))
          have hz6 : wr.heap.size < w4.heap.size := hu4.lt
          clear htB hba hMa hXB htA hXA hM hbut hrb hbz ho4
          generalize hbu : wr.heap.size = bu at *
          clear hbu
          refine (implMul_calls ts[j].d us[m].d n HT.out.1 hU.1 HT.out.2.1 hU.2.1 _).mono ?_
          rintro e w5 ⟨rfl, hb5⟩
          have hz7 := hb5.size
          have hMd := (hM4.below hb5 (by omega)).alloc (.cells (Dg.zero 0).cells 47)
          have hXd := (hXC.below hb5 (by omega)).alloc (.cells (Dg.zero 0).cells 47)
          have htd := (htC.below hb5 (by omega)).alloc (.cells (Dg.zero 0).cells 47)
          have hud := (hu4.below hb5 (by omega)).alloc (.cells (Dg.zero 0).cells 47)
          have hbd := (hbuC.ext hb5).alloc (.cells (Dg.zero 0).cells 47)
          clear hM4 hXC htC hu4 hbuC hb5
          go_wp2_with (refine store_dg rfl _ _ rfl _ rfl (prodD ts[j].d us[m].d n) rfl _ 47 (Blk.newAt _ _ _ rfl) rfl ?_; intro w6 hd6 ho6)
          have hM6 := hMd.only ho6 (by omega)
          have hX6 := hXd.only ho6 (by omega)
          have ht6 := htd.only ho6 (by omega)
          have hu6 := hud.only ho6 (by omega)
          have hb6 := hbd.only ho6 (.inr (by omega))
          clear hMd hXd htd hud hbd ho6
          generalize w5.heap.size = bd at *
          refine wp_region_still_tail 24 (by kernel_rfl) (by kernel_rfl) ?_
          simp only [List.take_succ_cons, List.take_zero, List.drop_succ_cons, List.drop_zero]
          change wpStill _ _ w6.drew (fun a' => wpList _ _ _ _ a' w6.drew) _ _
          replace hM6 := hM6.drew
          replace hX6 := hX6.drew
          replace ht6 := ht6.drew
          replace hu6 := hu6.drew
          replace hd6 := hd6.drew
          replace hb6 := hb6.trans (But.drew w6 _)
          generalize w6.drew = w7 at *
          have hkA := ht6.tm_k
          have hkB := hu6.tm_k
          have hcX := hX6.cells
          have hLL : prodL ts[j].d us[m].d n ≤ n := loopTo_le ts[j].d us[m].d n n
          have hPW := powm_range p c (prodL ts[j].d us[m].d n) (by omega)
          have hgd := prod_good HT.out.1 hU.1 HT.out.2.1 hU.2.1
          have hds : (prodD ts[j].d us[m].d n).size = n := prodD_size
          have hta := HT.out.2.2
          have hua := hU.2.2
          have hp0 : (p == 0) = false := beq_eq_false_iff_ne.2 (by omega)
          have hacc := mrow_nf (c := c) hp Hus.out (mulTo_nf (c := c) hp Hts.out Hus.out j hj) ⟨HT.out.1, HT.out.2.1⟩ m hm
          have hA := coef_range hacc (by omega) (prodD ts[j].d us[m].d n)
          have hstep : coef (mrow p c n (mulTo p c n ts us j) ts[j] us (m + 1)) = fun e => if e = prodD ts[j].d us[m].d n then (coef (mrow p c n (mulTo p c n ts us j) ts[j] us m) (prodD ts[j].d us[m].d n) + ts[j].k * us[m].k % p * powm p c (prodL ts[j].d us[m].d n)) % p else coef (mrow p c n (mulTo p c n ts us j) ts[j] us m) e := by
            funext e
            rw [mrow_succ _ _ _ hltm]
            exact coef_put hp hacc e
          have Hstep := Lib.hid hstep
          clear hstep hacc
          generalize coef (mrow p c n (mulTo p c n ts us j) ts[j] us m) = fA at *
          generalize prodD ts[j].d us[m].d n = dd at *
          generalize prodL ts[j].d us[m].d n = LL at *
          generalize hA0 : fA dd = A at hA Hstep
          have HA0 := Lib.hid hA0
          clear hA0
          generalize ts[j].k = ka at *
          generalize us[m].k = kb at *
          have hp1 : ¬ p = 0 := by omega
          have hab0 : 0 ≤ ka * kb := Int.mul_nonneg (by omega) (by omega)
          have hab1 : ka * kb ≤ 97 * 97 := Int.mul_le_mul (by omega) (by omega) (by omega) (by omega)
          have hr1 : IntKind.i64.wrap (ka * kb) = ka * kb := IntWalk.i64_in _ (by omega)
          have hr2 : (ka * kb).tmod p = ka * kb % p := Int.tmod_eq_emod_of_nonneg hab0
          have hq0 := Int.emod_nonneg (ka * kb) (show p ≠ 0 by omega)
          have hq1 := Int.emod_lt_of_pos (ka * kb) (show 0 < p by omega)
          have hf0 : 0 ≤ ka * kb % p * powm p c LL := Int.mul_nonneg (by omega) (by omega)
          have hf1 : ka * kb % p * powm p c LL ≤ 97 * 97 := Int.mul_le_mul (by omega) (by omega) (by omega) (by omega)
          have hr3 : IntKind.i64.wrap (ka * kb % p * powm p c LL) = ka * kb % p * powm p c LL := IntWalk.i64_in _ (by omega)
          have hr4 : IntKind.i64.wrap (A + ka * kb % p * powm p c LL) = A + ka * kb % p * powm p c LL := IntWalk.i64_in _ (by omega)
          have hr5 : (A + ka * kb % p * powm p c LL).tmod p = (A + ka * kb % p * powm p c LL) % p := Int.tmod_eq_emod_of_nonneg (by omega)
          have hy0 := Int.emod_nonneg (A + ka * kb % p * powm p c LL) (show p ≠ 0 by omega)
          have hy1 := Int.emod_lt_of_pos (A + ka * kb % p * powm p c LL) (show 0 < p by omega)
          have hwf : (Lit.int .i64 ((A + ka * kb % p * powm p c LL) % p)).wf = true := WalkArith.wf_i64 (by omega)
          have hPw := fun W => implPower_calls p c LL W hp hp97 hc0 hcp (by omega) (by omega)
          simp only [Int.toNat_natCast] at hPw
          have HPw := Lib.hid hPw
          have Hwf := Lib.hid hwf
          clear hPw hwf hy0 hy1
          have hlk : ∀ {o : Oper} {a : Act} {Q : Act → Prop} {rest ops : List Oper}, True := fun {_ _ _ _ _} => trivial
          clear hlk
          repeat (first
            | (refine still_load_dg _ rfl _ rfl _ _ hd6 rfl ?_; simp only [Act.put, List.setIfInBounds_toArray, List.set_cons_zero, List.set_cons_succ])
            | (refine still_lookup rfl _ _ rfl bm _ n fA rfl hM6 dd hgd.wf rfl ?_; rw [HA0.out]; simp only [Act.put, List.setIfInBounds_toArray, List.set_cons_zero, List.set_cons_succ])
            | (still_call ((HPw.out _).mono fun e w' ⟨h, h'⟩ => ⟨h, h'.symm⟩))
            | still_step)
          refine wpStill_nil ?_
          clear hr1 hr2 hr3 hr4 hr5
          have Hds := Lib.hid hds
          clear hds
          go_wp2_with (at_mapUpdate; refine update_dg rfl _ _ _ rfl bm _ n fA rfl hM6 (by omega) dd hgd Hds.out rfl _ rfl Hwf.out ?_; intro w8 hM8 hg8)
          have hb8 := hb6.trans (show But w7 w8 [bm] from ⟨hg8.os, hg8.tape, hg8.output, hg8.size, fun b hb hn => hg8.block b hb (by simp at hn ⊢; exact hn)⟩)
          go_roundw
          case rel => exact ⟨m + 1, by omega, by go_num, by rw [Hstep.out]; exact hM8, hb8⟩
          case measure => simp [intOf]; omega
        · obtain rfl : m = us.length := by omega
          rw [← mulTo_succ j hlt] at hM
          go_wp2_with fail
          go_roundw
          case rel => exact ⟨j + 1, by omega, by go_num, hM.mono (by omega), hbut4.trans hbut⟩
          case measure => simp [intOf]; omega
    · obtain rfl : j = ts.length := by omega
      have hXw := hX3
      have hTn : Nf p n (mulT p c n ts us) := mulT_nf hp Hts.out Hus.out
      have hcr := coef_range hTn (by omega)
      have hcall := with_calls p c n n (coef (mulTo p c n ts us ts.length)) (mulT p c n ts us) hp hp97 hTn (fun d _ => Int.emod_eq_of_lt (hcr d).1 (hcr d).2) (fun d _ => by have := hcr d; unfold mulT at this; omega) w.heap.size bm (300 * ts.length) _ _ wr hX3 hM (by omega)
      rw [szOf_same] at hcall
      have hZ3 := HZ.out.but hbut (by simp; omega)
      have hbl3 := Hbl.out.trans (hbut.below (B := w.heap.size) (by omega) (by simp; omega))
      have Hcall := Lib.hid hcall
      clear hcall hM hbut hcr hTn
      go_wp2_with fail
      refine Hcall.out.mono ?_
      rintro e w6 ⟨v, rfl, hv6, hb6⟩
      have hZ6 := hZ3.below hb6 hZ3.lt
      have hbl6 := hbl3.trans (hb6.mono (by omega))
      have h1c : v.oneCell' = true := by obtain ⟨ad, cap, rfl, -, -⟩ := hv6.slice; rfl
      go_wp2_with (first | (refine store_el rfl _ _ rfl _ rfl _ rfl rfl (el_all h1c) _ _ hZ6 rfl ?_; intro w9 hZ9 ho9))
      refine ret_el rfl _ rfl _ rfl _ hZ9 rfl ?_
      exact ⟨v, rfl, (hv6.only ho9 (hv6.ne_low (by omega))).mono (by omega), hbl6.trans (ho9.below (by omega))⟩
end Go.Proofs.Yticmlgnolbccjaa
