/- Sums of lists of terms: what is put term by term, and what a map gathers, are alike. Plain laws. -/
import Derived.Test.YticmlgnolbccjaaQ10
import Derived.Test.YticmlgnolbccjaaQ11
import Derived.Test.YticmlgnolbccjaaQ7
import Derived.WideKeyEntry

set_option linter.unusedVariables false
set_option linter.unusedSimpArgs false
namespace Go.Proofs.Yticmlgnolbccjaa

/-- xs and k times the first j of us, put. -/
def sumTo (p k : Int) (xs us : List Tm) (j : Nat) : List Tm := (us.take j).foldl (fun a t => put p a t.d (k * t.k)) xs
def sumT (p k : Int) (xs us : List Tm) : List Tm := sumTo p k xs us us.length
/-- What a map gathers. -/
def acc (k : Int) (f : Dg → Int) (us : List Tm) : Dg → Int := us.foldl (fun f t e => if e = t.d then f t.d + k * t.k else f e) f

section
variable {p k : Int} {n : Nat} {xs us : List Tm}
theorem sumTo_zero : sumTo p k xs us 0 = xs := rfl
theorem sumTo_succ (j : Nat) (h : j < us.length) : sumTo p k xs us (j + 1) = put p (sumTo p k xs us j) us[j].d (k * us[j].k) := by
  unfold sumTo
  rw [List.take_succ_eq_append_getElem h, List.foldl_append]; rfl
theorem acc_take (f : Dg → Int) (j : Nat) (h : j < us.length) : acc k f (us.take (j + 1)) = fun e => if e = us[j].d then acc k f (us.take j) us[j].d + k * us[j].k else acc k f (us.take j) e := by
  unfold acc
  rw [List.take_succ_eq_append_getElem h, List.foldl_append]; rfl
theorem sumTo_nf (hp : 2 ≤ p) (hx : Nf p n xs) (hu : Nf p n us) : ∀ j, j ≤ us.length → Nf p n (sumTo p k xs us j)
  | 0, _ => hx
  | j + 1, hj => by
    rw [sumTo_succ j (by omega)]
    have h := hu.mem us[j] (List.getElem_mem (by omega))
    exact put_nf hp h.1 h.2.1 (sumTo_nf hp hx hu j (by omega))
theorem sumTo_length : ∀ j, j ≤ us.length → (sumTo p k xs us j).length ≤ xs.length + j
  | 0, _ => Nat.le_refl _
  | j + 1, hj => by
    rw [sumTo_succ j (by omega)]
    have := sumTo_length j (by omega)
    have := length_put (p := p) (sumTo p k xs us j) us[j].d (k * us[j].k)
    omega
theorem coef_sumTo (hp : 2 ≤ p) (hx : Nf p n xs) (hu : Nf p n us) {f : Dg → Int} (hf : ∀ d, f d % p = coef xs d) : ∀ j, j ≤ us.length → ∀ d, acc k f (us.take j) d % p = coef (sumTo p k xs us j) d
  | 0, _, d => hf d
  | j + 1, hj, d => by
    rw [sumTo_succ j (by omega), acc_take f j (by omega), coef_put hp (sumTo_nf hp hx hu j (by omega))]
    by_cases hd : d = us[j].d
    · simp only [if_pos hd]
      rw [← coef_sumTo hp hx hu hf j (by omega) us[j].d, Int.emod_add_emod]
    · simp only [if_neg hd]
      exact coef_sumTo hp hx hu hf j (by omega) d
theorem acc_one : ∀ (us : List Tm) (f : Dg → Int), Nf p n us → ∀ d, acc 1 f us d = f d + coef us d
  | [], f, _, d => by show f d = f d + 0; omega
  | t :: us, f, h, d => by
    have h1 := acc_one us (fun e => if e = t.d then f t.d + 1 * t.k else f e) h.tail d
    have h2 : acc 1 f (t :: us) d = acc 1 (fun e => if e = t.d then f t.d + 1 * t.k else f e) us d := rfl
    have h3 : coef (t :: us) d = if t.d = d then t.k else coef us d := rfl
    rw [h2, h1, h3]
    by_cases hd : d = t.d
    · subst hd
      have h4 : coef us t.d = 0 := Nf.above t.d h.head (n := n) (p := p)
      simp only [if_true]
      omega
    · have hd' : ¬ t.d = d := fun e => hd e.symm
      simp only [if_neg hd, if_neg hd']
theorem mul_bound {k x : Int} (hk : -1000000 ≤ k ∧ k ≤ 1000000) (hx : 0 ≤ x ∧ x ≤ 97) : -97000000 ≤ k * x ∧ k * x ≤ 97000000 := by
  have h1 := Int.mul_le_mul_of_nonneg_right hk.1 hx.1
  have h2 := Int.mul_le_mul_of_nonneg_right hk.2 hx.1
  omega
theorem acc_bound (hp : p ≤ 97) (hk : -1000000 ≤ k ∧ k ≤ 1000000) (hu : Nf p n us) {f : Dg → Int} {B : Int} (hf : ∀ d, -B ≤ f d ∧ f d ≤ B) : ∀ j, j ≤ us.length → ∀ d, -(B + 97000000 * j) ≤ acc k f (us.take j) d ∧ acc k f (us.take j) d ≤ B + 97000000 * j
  | 0, _, d => by have := hf d; show -(B + 97000000 * (0 : Nat)) ≤ f d ∧ f d ≤ B + 97000000 * (0 : Nat); omega
  | j + 1, hj, d => by
    rw [acc_take f j (by omega)]
    have h := hu.mem us[j] (List.getElem_mem (by omega))
    have h1 := mul_bound (x := us[j].k) hk ⟨by omega, by omega⟩
    have h2 := acc_bound hp hk hu hf j (by omega) us[j].d
    have h3 := acc_bound hp hk hu hf j (by omega) d
    by_cases hd : d = us[j].d
    · simp only [if_pos hd]; omega
    · simp only [if_neg hd]; omega
end
namespace El
/-- What CommutatorElement gives. -/
def comR (x y : El) : El × Int :=
  if x.both y = 0 then
    (if (x.mul y).ts.length ≤ 140 ∧ (y.mul x).ts.length ≤ 140 then El.told ⟨x.p, x.c, x.n, sumT x.p (-1) (x.mul y).ts (y.mul x).ts⟩ else (zero, 3))
  else (zero, x.both y)
end El
end Go.Proofs.Yticmlgnolbccjaa

/- The walk of the reference's sum of two elements. -/
set_option linter.unusedVariables false
set_option linter.unusedSimpArgs false
namespace Go.Proofs.Yticmlgnolbccjaa
open Go.RowKit

section
variable {ops : Array Oper} {rest : List Oper} {o : Oper} {a : Act} {w : World}
theorem still_dg_mid (x : Operand) (ho : o.op = .load 47 x) (b off : Nat) (hx : a.eval x = .pointer (some ⟨b, off, none⟩)) (d : Dg) (h : w.rangeAt b off d.list) (hlt : b < w.heap.size) (hw : Region.wanted o (yielded ops a.tmps) = true)
    {Q : Act → Prop} (hK : wpStill Try.prog ops w Q rest (a.put o.dst (.agg d.cells))) : wpStill Try.prog ops w Q (o :: rest) a :=
  still_val (held_dg (Below.refl _ _) x ho b off hx d h hlt rfl) hw hK
end
theorem LIn_of_TsS {w : World} {base : Nat} {v : Value} {ts : List Tm} (h : TsS w base v ts) : LIn w v ts := by
  obtain ⟨g, cap, rfl, -, hg, h1, h2, h3⟩ := h.out
  exact ⟨_, cap, rfl, h1, h2, fun _ => ⟨g, 0, rfl, hg, h3⟩⟩
theorem LIn_of_TsOwn {w : World} {base : Nat} {v : Value} {ts : List Tm} (h : TsOwn w base v ts) : LIn w v ts := by
  by_cases hv : v = .slice none 0 0
  · subst hv
    rcases h.2 with ⟨-, h2⟩ | ⟨g, cap, cur, h1, -⟩
    · have : ts = [] := by
        cases ts with
        | nil => rfl
        | cons t ts => simp at h2
      subst this
      exact ⟨none, 0, rfl, Nat.le_refl _, by omega, by simp⟩
    · cases h1
  · exact LIn_of_TsS (base := base) ⟨h, hv⟩

theorem below_grown {w1 w2 w3 : World} {B base : Nat} {v : Value} {ts : List Tm} (h : Below B w1 w2) (hv : TsOwn w2 base v ts) (hg : w2.grownBy w3 v.ownBlock) (hB : B ≤ base) (hz : B ≤ w2.heap.size) : Below B w1 w3 :=
  h.trans ⟨hg.os, hg.tape, hg.output, hg.size, fun b hb => hg.block b (by omega) (fun e => by have := (hv.lt b e.symm).1; omega)⟩
set_option maxHeartbeats 8000000 in
set_option maxRecDepth 100000 in
theorem specSumT_calls (p c k : Int) (n : Nat) (ts us : List Tm) (hp : 2 ≤ p) (hp97 : p ≤ 97) (hn1 : 1 ≤ n) (hn8 : n ≤ 8) (hk : -1000000 ≤ k ∧ k ≤ 1000000) (hts : Nf p n ts) (hus : Nf p n us) (hlt : ts.length ≤ 300) (hlu : us.length ≤ 300)
    (vx vy : Value) (w : World) (hx : TsS w 0 vx ts) (hy : TsS w 0 vy us) :
    Calls Try.prog 63 #[el p c n vx, el p c n vy, .int .i64 k] w fun e w' => ∃ v, e = .returned (el p c n v) ∧ TsS w' w.heap.size v (sumT p k ts us) ∧ Below w.heap.size w w' := by
  obtain ⟨g1, cap1, rfl, -, hg1, hc1, hm1, hr1⟩ := hx.out
  obtain ⟨g2, cap2, rfl, -, hg2, hc2, hm2, hr2⟩ := hy.out
  have Hts := Lib.hid hts
  have Hus := Lib.hid hus
  clear hts hus hx hy
  unfold el
  go_enter Try.func63, Try.ntmps63
  have hE := specEmpty_calls p c n (.slice (some ⟨g1, 0, none⟩) ts.length cap1) (((w.alloc (.cells #[.int .i64 p, .int .i64 c, .int .i64 n, .slice (some ⟨g1, 0, none⟩) ts.length cap1] 30)).alloc (.cells #[.int .i64 p, .int .i64 c, .int .i64 n, .slice (some ⟨g2, 0, none⟩) us.length cap2] 30)).alloc (.cells #[.int .i64 0, .int .i64 0, .int .i64 0, .slice none 0 0] 30))
  unfold el at hE
  have hX := ((Blk.new w #[.int .i64 p, .int .i64 c, .int .i64 n, .slice (some ⟨g1, 0, none⟩) ts.length cap1] 30).alloc (.cells #[.int .i64 p, .int .i64 c, .int .i64 n, .slice (some ⟨g2, 0, none⟩) us.length cap2] 30)).alloc (.cells #[.int .i64 0, .int .i64 0, .int .i64 0, .slice none 0 0] 30)
  have hY := (Blk.newAt (w.alloc (.cells #[.int .i64 p, .int .i64 c, .int .i64 n, .slice (some ⟨g1, 0, none⟩) ts.length cap1] 30)) #[.int .i64 p, .int .i64 c, .int .i64 n, .slice (some ⟨g2, 0, none⟩) us.length cap2] 30 (b := w.heap.size + 1) (by simp)).alloc (.cells #[.int .i64 0, .int .i64 0, .int .i64 0, .slice none 0 0] 30)
  have hZ := Blk.newAt ((w.alloc (.cells #[.int .i64 p, .int .i64 c, .int .i64 n, .slice (some ⟨g1, 0, none⟩) ts.length cap1] 30)).alloc (.cells #[.int .i64 p, .int .i64 c, .int .i64 n, .slice (some ⟨g2, 0, none⟩) us.length cap2] 30)) #[.int .i64 0, .int .i64 0, .int .i64 0, .slice none 0 0] 30 (b := w.heap.size + 1 + 1) (by simp)
  have hbl := (((Below.refl w.heap.size w).alloc (Nat.le_refl _) (.cells #[.int .i64 p, .int .i64 c, .int .i64 n, .slice (some ⟨g1, 0, none⟩) ts.length cap1] 30)).alloc (by simp) (.cells #[.int .i64 p, .int .i64 c, .int .i64 n, .slice (some ⟨g2, 0, none⟩) us.length cap2] 30)).alloc (by simp; omega) (.cells #[.int .i64 0, .int .i64 0, .int .i64 0, .slice none 0 0] 30)
  have hz : (((w.alloc (.cells #[.int .i64 p, .int .i64 c, .int .i64 n, .slice (some ⟨g1, 0, none⟩) ts.length cap1] 30)).alloc (.cells #[.int .i64 p, .int .i64 c, .int .i64 n, .slice (some ⟨g2, 0, none⟩) us.length cap2] 30)).alloc (.cells #[.int .i64 0, .int .i64 0, .int .i64 0, .slice none 0 0] 30)).heap.size = w.heap.size + 3 := by simp
  go_upto_region 2 with (first | (refine load_el rfl _ rfl _ rfl _ rfl _ hX ?_) | (go_at_call 38; refine hE.mono ?_; rintro e w1 ⟨v0, rfl, hv0, hb0⟩; obtain ⟨g0, cap0, rfl, hg0, -, -, -, -⟩ := hv0.out))
  replace hX := (hX.below hb0 hX.lt).alloc (.cells #[.int .i64 p, .int .i64 c, .int .i64 n, .slice (some ⟨g0, 0, none⟩) ([] : List Tm).length cap0] 30)
  replace hY := (hY.below hb0 hY.lt).alloc (.cells #[.int .i64 p, .int .i64 c, .int .i64 n, .slice (some ⟨g0, 0, none⟩) ([] : List Tm).length cap0] 30)
  replace hZ := (hZ.below hb0 hZ.lt).alloc (.cells #[.int .i64 p, .int .i64 c, .int .i64 n, .slice (some ⟨g0, 0, none⟩) ([] : List Tm).length cap0] 30)
  have hO := Blk.new w1 #[.int .i64 p, .int .i64 c, .int .i64 n, .slice (some ⟨g0, 0, none⟩) ([] : List Tm).length cap0] 30
  have hz1 := hb0.size
  rw [hz] at hz1 hg0 hv0
  have hbl2 := (hbl.trans (hb0.mono (by omega))).alloc (by omega) (.cells #[.int .i64 p, .int .i64 c, .int .i64 n, .slice (some ⟨g0, 0, none⟩) ([] : List Tm).length cap0] 30)
  have hv1 := (hv0.mono (base' := w.heap.size) (by omega)).alloc (.cells #[.int .i64 p, .int .i64 c, .int .i64 n, .slice (some ⟨g0, 0, none⟩) ([] : List Tm).length cap0] 30)
  have hr1' := rangeAt_below hr1 hbl2 hg1
  have hr2' := rangeAt_below hr2 hbl2 hg2
  have hz2 : (w1.alloc (.cells #[.int .i64 p, .int .i64 c, .int .i64 n, .slice (some ⟨g0, 0, none⟩) ([] : List Tm).length cap0] 30)).heap.size = w1.heap.size + 1 := by simp
  clear hE hb0 hv0 hbl hz hr1
  generalize hb5 : w1.heap.size = b5 at *
  generalize w1.alloc (.cells #[.int .i64 p, .int .i64 c, .int .i64 n, .slice (some ⟨g0, 0, none⟩) ([] : List Tm).length cap0] 30) = w2 at *
  clear hb5
  have hcX := hX.cells
  have hcO := hO.cells
  have hfO := hO.free
  go_wp2_with (refine append_ts rfl _ _ rfl w.heap.size _ [] rfl hv1 g1 0 _ cap1 ts rfl hr1' rfl (by simp; omega) (by omega) ?_; intro v3 w3 hv3 hg3; have hO3 := hO.grown hg3 (hv1.ne_blk hO (by decide)); have h1c := hv3.oneCell; have hs3 := hO3.set 3 v3; have hv4 := hv3.only (Only.setCell w3 b5 3 v3) (hv3.ne_blk hO3 (by decide)); have hX4 := (hX.grown hg3 (hv1.ne_blk hX (by decide))).other ⟨b5, 3, none⟩ v3 (by simp; omega); have hY4 := (hY.grown hg3 (hv1.ne_blk hY (by decide))).other ⟨b5, 3, none⟩ v3 (by simp; omega); have hZ4 := (hZ.grown hg3 (hv1.ne_blk hZ (by decide))).other ⟨b5, 3, none⟩ v3 (by simp; omega); have hbl4 := (below_grown hbl2 hv1.1 hg3 (Nat.le_refl _) (by omega)).trans ((Only.setCell w3 b5 3 v3).below (by omega)); have hz3 := hg3.size; obtain ⟨g3, cap3, rfl, -, -, -, -, -⟩ := hv3.out; have hcO3 := hO3.cells; have hfO3 := hO3.free)
  clear hX hY hZ hO hv1 hbl2 hcX hcO hfO hcO3 hfO3 hO3 hv3 hg3 hr1' hr2' h1c
  have hs4 : Blk (w3.setCell ⟨b5, 3, none⟩ (.slice (some ⟨g3, 0, none⟩) ([] ++ ts).length cap3)) b5 #[.int .i64 p, .int .i64 c, .int .i64 n, .slice (some ⟨g3, 0, none⟩) ([] ++ ts).length cap3] 30 := hs3
  clear hs3
  have hz4 : (w3.setCell ⟨b5, 3, none⟩ (.slice (some ⟨g3, 0, none⟩) ([] ++ ts).length cap3)).heap.size = w3.heap.size := by simp
  simp only [List.nil_append] at hs4 hz4 hv4 hX4 hY4 hZ4 hbl4
  generalize w3.setCell ⟨b5, 3, none⟩ (.slice (some ⟨g3, 0, none⟩) ts.length cap3) = w4 at *
  go_loopw [8] (fun i wr => ∃ (j : Nat) (v : Value), j ≤ us.length ∧ i = .int .i64 j ∧ Blk wr b5 #[.int .i64 p, .int .i64 c, .int .i64 n, v] 30 ∧ TsS wr w.heap.size v (sumTo p k ts us j) ∧ But w4 wr [b5]) (fun i _ => us.length - (intOf i).toNat)
  case atStart => exact ⟨0, _, by omega, rfl, hs4, hv4, But.refl _ _⟩
  case round =>
    clear hs4 hv4
    obtain ⟨j, v, hj, rfl, hO, hv, hbut⟩ := hrel
    have hz5 := hbut.size
    have hX3 := hX4.but hbut (by simp; omega)
    have hY3 := hY4.but hbut (by simp; omega)
    have hbr := hbl4.trans (hbut.below (by omega) (by simp; omega))
    have hcY := hY3.cells
    by_cases hltj : j < us.length
    · have hU := Hus.out.mem us[j] (List.getElem_mem hltj)
      obtain ⟨hrb, hrbk⟩ := range_term (rangeAt_below hr2 hbr hg2) j us[j] (List.getElem?_eq_getElem hltj)
      rw [Nat.zero_add] at hrb hrbk
      have hgr : g2 < wr.heap.size := by omega
      go_wp2_with fail
      refine wp_region_still_tail 18 (by kernel_rfl) (by kernel_rfl) ?_
      simp only [List.take_succ_cons, List.take_zero, List.drop_succ_cons, List.drop_zero]
      change wpStill _ _ wr.drew (fun a' => wpList _ _ _ _ a' wr.drew) _ _
      replace hO := hO.drew
      replace hX3 := hX3.drew
      replace hY3 := hY3.drew
      replace hv : TsS wr.drew w.heap.size v (sumTo p k ts us j) := hv.drewN 1
      have hbut6 := hbut.trans (But.drew wr _)
      replace hrb := rangeAt_below hrb (Ext.drew wr) hgr
      replace hrbk := Ext.cell (Ext.drew wr) hrbk
      clear hbut
      have hz7 : wr.heap.size ≤ wr.drew.heap.size := Nat.le_refl _
      generalize wr.drew = w6 at *
      have hgw : g2 < w6.heap.size := by omega
      have hcX := hX3.cells
      have hcO := hO.cells
      have hcY := hY3.cells
      have hfO := hO.free
      have hua := hU.2.2
      have hmb := mul_bound (x := us[j].k) hk ⟨by omega, by omega⟩
      have hr1 : IntKind.i64.wrap (k * us[j].k) = k * us[j].k := IntWalk.i64_in _ (by omega)
      have hnf := sumTo_nf (k := k) hp Hts.out Hus.out j hj
      have hln := sumTo_length (p := p) (k := k) (xs := ts) (us := us) j hj
      have hPut := fun (W : World) (hW : TsS W w.heap.size v (sumTo p k ts us j)) (hb : w.heap.size ≤ W.heap.size) => specPut_calls p n (sumTo p k ts us j) us[j].d (k * us[j].k) hp hp97 hn1 hn8 hnf hU.1 hU.2.1 (by omega) (by omega) (by omega) w.heap.size v W hW hb
      rw [← sumTo_succ j hltj] at hPut
      have HPut := Lib.hid hPut
      clear hPut hnf hln
      have hwz : w.heap.size ≤ w6.heap.size := by omega
      obtain ⟨gv, capv, hvv, -⟩ := hv.out
      subst hvv
      generalize us[j] = t at *
      have hp0 : True := trivial
      repeat (first
        | (refine still_dg_mid _ rfl _ _ rfl _ hrb hgw rfl ?_; simp only [Act.put, List.setIfInBounds_toArray, List.set_cons_zero, List.set_cons_succ])
        | still_step)
      refine wpStill_nil ?_
      go_wp2_with fail
      refine (HPut.out _ hv hwz).mono ?_
      rintro e w7 ⟨v7, rfl, hv7, hb7⟩
      have hO7 := hO.below hb7 hO.lt
      have hv8 := hv7.only (Only.setCell w7 b5 3 v7) (hv7.ne_blk hO7 (by decide))
      have hO8 : Blk (w7.setCell ⟨b5, 3, none⟩ v7) b5 #[.int .i64 p, .int .i64 c, .int .i64 n, v7] 30 := hO7.set 3 v7
      have hbut8 := (hbut6.ext hb7).only (Only.setCell w7 b5 3 v7) (.inl (by simp))
      obtain ⟨g6, cap6, rfl, hg6, -, -, -, -⟩ := hv7.out
      have hcO7 := hO7.cells
      have hfO7 := hO7.free
      have Hv8 := Lib.hid hv8
      have HO8 := Lib.hid hO8
      have Hb8 := Lib.hid hbut8
      clear hv8 hO8 hbut8 hO7 hb7 hv7 hO hv hX3 hY3 hcX hcY hcO hfO HPut
      go_wp2_with fail
      go_roundw
      case rel => exact ⟨j + 1, _, by omega, by go_num, HO8.out, Hv8.out, Hb8.out⟩
      case measure => simp [intOf]; omega
    · obtain rfl : j = us.length := by omega
      have hZ3 := hZ4.but hbut (by simp; omega)
      have h1c := hv.oneCell
      go_wp2_with (first | (refine load_el rfl _ rfl _ rfl _ rfl _ hO ?_) | (refine store_el rfl _ _ rfl _ rfl _ rfl rfl (el_all h1c) _ _ hZ3 rfl ?_; intro w9 hZ9 ho9; have hbl9 := hbr.trans (ho9.below (by omega)); have hv9 := hv.only ho9 (hv.ne_blk hZ3 (by decide))))
      refine ret_el rfl _ rfl _ rfl _ hZ9 rfl ?_
      exact ⟨v, rfl, hv9, hbl9⟩
end Go.Proofs.Yticmlgnolbccjaa

/- A number laid on a map's entry by 's[d] += k': the entry, then the store. -/
set_option linter.unusedVariables false
set_option linter.unusedSimpArgs false
namespace Go.Proofs.Yticmlgnolbccjaa
open Go.RowKit Go.Maps Go.MapKept Go.WideElems Go.ChangeMaps

theorem owns_congr {w w' : World} {b k : Nat} {D : DataW Unit} (h : w.ownsMap Try.prog 47 PE b k D) (he : w'.heap[b]? = w.heap[b]?) : w'.ownsMap Try.prog 47 PE b k D := by
  obtain ⟨es, clock, hb, r⟩ := h
  exact ⟨es, clock, he.trans hb, r⟩
theorem MapIs.heap {w w' : World} {b k n : Nat} {f : Dg → Int} (h : MapIs w b k n f) (he : w'.heap[b]? = w.heap[b]?) : MapIs w' b k n f := by
  obtain ⟨D, h1, h2⟩ := h
  exact ⟨D, owns_congr h1 he, h2⟩
theorem set_grown {w : World} {b clock : Nat} {es : Array MapEntry} {o' : Obj} (hb : w.heap[b]? = some (.map es clock)) : w.grownBy (setBlock w b o') (some b) :=
  ⟨rfl, rfl, rfl, by simp [setBlock], fun i _ hi => heap_setBlock_other hb _ (fun e => hi (by rw [e]))⟩
theorem MapIs.put_run {w w' : World} {b k n : Nat} {f : Dg → Int} (h : MapIs w b k n f) (hk : k ≤ 1000000) {d : Dg} (hd : Good d) (hs : d.size = n) {y : Int} (hy : (Lit.int .i64 y).wf = true)
    (hrun : (Instr.mapUpdate 94 (.map (some b)) (.agg d.cells) (.int .i64 y)).run Try.prog w = .ok () w') : MapIs w' b (k + 1) n (fun e => if e = d then y else f e) := by
  obtain ⟨D, h1, h2⟩ := h
  obtain ⟨w2, hr2, r1, r2⟩ := h1.update keyedDg Try.underlying94 (by unfold maxLen; omega) (val := .int .i64 y) (kl_spec hd.wf) (d := i64d y) (ps := []) (plainElem_int Try.underlying2 hy)
  rw [hr2] at hrun
  simp only [Result.ok.injEq, true_and] at hrun
  subst hrun
  refine ⟨_, r1, h2.put ?_ hd hs hy⟩
  obtain ⟨es, clock, -, -, -, rfl⟩ := h1
  exact ⟨_, rfl⟩

set_option maxRecDepth 100000 in
theorem MapIs.entry {w : World} {b k n : Nat} {f : Dg → Int} (h : MapIs w b k n f) (hk : k ≤ 1000000) {d : Dg} (hd : Good d) (hs : d.size = n) :
    ∃ (st : Nat) (v0 : Value) (w1 : World), (Instr.mapEntry 94 (.map (some b)) (.agg d.cells)).run Try.prog w = .ok (.tuple #[v0, goInt st]) w1 ∧ w.grownBy w1 (some b) ∧ MapIs w1 b (k + 1) n f ∧
      ∀ (y : Int) (w2 : World), (Lit.int .i64 y).wf = true → w2.heap[b]? = w1.heap[b]? → ∃ w3, (Instr.entryStore 94 (.map (some b)) (goInt st) (.int .i64 y)).run Try.prog w2 = .ok () w3 ∧ w2.grownBy w3 (some b) ∧ MapIs w3 b (k + 1) n (fun e => if e = d then y else f e) := by
  have hm := h
  obtain ⟨D, ⟨es, clock, hb, F, hsz, hD⟩, h2⟩ := h
  have hkl := kl_spec hd.wf
  obtain ⟨v0, st, es1, clock1, hrun, -, hst⟩ := entry_then_store lawDg Try.underlying94 zeroI64 hb F hkl
  refine ⟨st, v0, _, hrun, set_grown hb, ?_, ?_⟩
  · rcases lawDg.find w hkl es.toList F.keys with ⟨h3, h4⟩ | ⟨j, e0, h3, h4, h5⟩
    · have hr2 : (Instr.mapEntry 94 (.map (some b)) (.agg d.cells)).run Try.prog w = .ok (.tuple #[.int .i64 0, goInt clock]) (setBlock w b (.map (es.push ⟨.agg d.cells, .int .i64 0, clock⟩) (clock + 1))) := by
        simp [Instr.mapEntry, run_underlying Try.underlying94, MapKept.run_getObj_map hb, lawDg.check w false hkl, h3, zeroI64, MapKept.run_setObj_map _ hb, Result.andThen, setBlock]
      have hr3 : (Instr.mapUpdate 94 (.map (some b)) (.agg d.cells) (.int .i64 0)).run Try.prog w = .ok () (setBlock w b (.map (es.push ⟨.agg d.cells, .int .i64 0, clock⟩) (clock + 1))) := by
        simp [Instr.mapUpdate, run_underlying Try.underlying94, MapKept.run_getObj_map hb, lawDg.check w false hkl, h3, MapKept.run_setObj_map _ hb, Result.andThen, setBlock]
      have hlk := hm.lookup hd.wf
      simp [Instr.lookup, run_underlying Try.underlying94, MapKept.run_getObj_map hb, lawDg.check w es.isEmpty hkl, h3, zeroI64, Result.andThen] at hlk
      have h6 := hm.put_run hk hd hs (y := 0) (by decide) hr3
      rw [hr2] at hrun
      simp only [Result.ok.injEq] at hrun
      rw [← hrun.2]
      refine h6.congr fun e _ => ?_
      by_cases he : e = d
      · subst he; rw [if_pos rfl]; exact hlk
      · rw [if_neg he]
    · have hj : es[j]? = some e0 := by simpa using h4
      have hsame : es.modify j (fun e => { e with key := .agg d.cells }) = es := by
        apply Array.ext'
        rw [Array.toList_modify, modify_eq_set _ _ _ _ h4]
        have : ({ e0 with key := .agg d.cells } : MapEntry) = e0 := by rw [← h5]
        rw [this]
        exact set_self _ _ _ h4
      have hr2 : (Instr.mapEntry 94 (.map (some b)) (.agg d.cells)).run Try.prog w = .ok (.tuple #[e0.val, goInt e0.born]) (setBlock w b (.map es clock)) := by
        simp [Instr.mapEntry, run_underlying Try.underlying94, MapKept.run_getObj_map hb, lawDg.check w false hkl, h3, hj, h5, lawDg.stays w hkl, hsame, MapKept.run_setObj_map _ hb, Result.andThen, setBlock]
      rw [hr2] at hrun
      simp only [Result.ok.injEq] at hrun
      rw [← hrun.2]
      exact (hm.heap ((heap_setBlock_same hb _).trans hb.symm)).mono (by omega)
  · intro y w2 hy hw2
    rw [heap_setBlock_same hb] at hw2
    obtain ⟨es', clock', h3, h4⟩ := hst w2 (.int .i64 y) hw2
    refine ⟨_, h3, set_grown hw2, (hm.put_run hk hd hs hy h4).heap ?_⟩
    rw [heap_setBlock_same hw2, heap_setBlock_same hb]
end Go.Proofs.Yticmlgnolbccjaa

/- The walk of the program's sum of two elements. -/
set_option linter.unusedVariables false
set_option linter.unusedSimpArgs false
namespace Go.Proofs.Yticmlgnolbccjaa
open Go.RowKit Go.Maps

theorem But.own {w w1 w2 : World} {l : List Nat} {b : Nat} (h : But w w1 l) (hg : w1.grownBy w2 (some b)) (hb : b ∈ l) : But w w2 l :=
  h.trans ⟨hg.os, hg.tape, hg.output, hg.size, fun k hk hn => hg.block k hk (fun e => hn (by rw [Option.some.inj e]; exact hb))⟩
section
variable {o : Oper} {a : Act} {w : World} {K : Act → World → Prop} {Q : Exit → Act → World → Prop}
theorem run_dg_at {v : Value} (x : Operand) (ho : o.op = .load 47 x) (b off : Nat) (hx : a.eval x = .pointer (some ⟨b, off, none⟩)) (d : Dg) (h : w.rangeAt b off d.list) (hv : v = .agg d.cells) :
    (execOp a.eval o).run Try.prog w = .ok (.value v) w := by
  subst hv
  unfold execOp
  simp only [ho, hx, Instr.loadAt, Instr.sureAddr, Sem.run_bind, Sem.run_pure, Result.andThen_ok, run_loadVar_mid w b off 47 d.list _ h Try.underlying47 rfl (by rw [d.length_list]; exact (info_dg).trans rfl)]
  rfl
theorem wp_lookup_dg (m x : Operand) (ho : o.op = Op.lookup 94 m x false) (b k n : Nat) (f : Dg → Int) (hm : a.eval m = .map (some b)) (h : MapIs w b k n f) (d : Dg) (hd : d.Wf) (hx : a.eval x = .agg d.cells)
    (hK : K (a.put o.dst (.int .i64 (f d))) w) : o.wp Try.prog a w K Q := by
  unfold Oper.wp
  simp [execOp, ho, hm, hx, h.lookup hd, Result.andThen]
  exact hK
theorem wp_entry_dg (m x : Operand) (ho : o.op = Op.mapEntry 94 m x) (b k n : Nat) (f : Dg → Int) (hm : a.eval m = .map (some b)) (h : MapIs w b k n f) (hk : k ≤ 1000000) (d : Dg) (hd : Good d) (hs : d.size = n) (hx : a.eval x = .agg d.cells)
    (hK : ∀ (st : Nat) (v0 : Value) (w1 : World), w.grownBy w1 (some b) → MapIs w1 b (k + 1) n f → (∀ (y : Int) (w2 : World), (Lit.int .i64 y).wf = true → w2.heap[b]? = w1.heap[b]? → ∃ w3, (Instr.entryStore 94 (.map (some b)) (goInt st) (.int .i64 y)).run Try.prog w2 = .ok () w3 ∧ w2.grownBy w3 (some b) ∧ MapIs w3 b (k + 1) n (fun e => if e = d then y else f e)) →
      K (a.put o.dst (.tuple #[v0, goInt st])) w1) : o.wp Try.prog a w K Q := by
  obtain ⟨st, v0, w1, h1, h2, h3, h4⟩ := h.entry hk hd hs
  unfold Oper.wp
  simp [execOp, ho, hm, hx, h1, Result.andThen]
  exact hK st v0 w1 h2 h3 h4
theorem wp_entryStore_dg (m s x : Operand) (ho : o.op = Op.entryStore 94 m s x) (b st : Nat) (y : Int) (hm : a.eval m = .map (some b)) (hs : a.eval s = goInt st) (hx : a.eval x = .int .i64 y) {R : World → Prop}
    (hr : ∃ w3, (Instr.entryStore 94 (.map (some b)) (goInt st) (.int .i64 y)).run Try.prog w = .ok () w3 ∧ R w3) (hK : ∀ w3, R w3 → K (a.put o.dst undef) w3) : o.wp Try.prog a w K Q := by
  obtain ⟨w3, h1, h2⟩ := hr
  unfold Oper.wp
  simp [execOp, ho, hm, hs, hx, h1, Result.andThen]
  exact hK w3 h2
end

set_option maxHeartbeats 8000000 in
set_option maxRecDepth 100000 in
theorem implSumT_calls (p c k : Int) (n : Nat) (ts us : List Tm) (hp : 2 ≤ p) (hp97 : p ≤ 97) (hn1 : 1 ≤ n) (hn8 : n ≤ 8) (hk : -1000000 ≤ k ∧ k ≤ 1000000) (hts : Nf p n ts) (hus : Nf p n us) (hlt : ts.length ≤ 300) (hlu : us.length ≤ 300)
    (vx vy : Value) (w : World) (hx : LIn w vx ts) (hy : LIn w vy us) :
    Calls Try.prog 64 #[el p c n vx, el p c n vy, .int .i64 k] w fun e w' => ∃ v, e = .returned (el p c n v) ∧ TsOwn w' w.heap.size v (sumT p k ts us) ∧ Below w.heap.size w w' := by
  obtain ⟨ad1, cap1, rfl, hc1, hm1, hrd1⟩ := hx
  obtain ⟨ad2, cap2, rfl, hc2, hm2, hrd2⟩ := hy
  have Hts := Lib.hid hts
  have Hus := Lib.hid hus
  have Hrd1 := Lib.hid hrd1
  have Hrd2 := Lib.hid hrd2
  clear hts hus hrd1 hrd2
  unfold el
  have hmm := @run_makeMap Try.prog
  go_enter Try.func64, Try.ntmps64
  have hX := ((Blk.new w #[.int .i64 p, .int .i64 c, .int .i64 n, .slice ad1 ts.length cap1] 30).alloc (.cells #[.int .i64 p, .int .i64 c, .int .i64 n, .slice ad2 us.length cap2] 30)).alloc (.cells #[.int .i64 0, .int .i64 0, .int .i64 0, .slice none 0 0] 30) |>.alloc (.map #[] 0)
  have hY := (Blk.newAt (w.alloc (.cells #[.int .i64 p, .int .i64 c, .int .i64 n, .slice ad1 ts.length cap1] 30)) #[.int .i64 p, .int .i64 c, .int .i64 n, .slice ad2 us.length cap2] 30 (b := w.heap.size + 1) (by simp)).alloc (.cells #[.int .i64 0, .int .i64 0, .int .i64 0, .slice none 0 0] 30) |>.alloc (.map #[] 0)
  have hZ := Blk.newAt ((w.alloc (.cells #[.int .i64 p, .int .i64 c, .int .i64 n, .slice ad1 ts.length cap1] 30)).alloc (.cells #[.int .i64 p, .int .i64 c, .int .i64 n, .slice ad2 us.length cap2] 30)) #[.int .i64 0, .int .i64 0, .int .i64 0, .slice none 0 0] 30 (b := w.heap.size + 1 + 1) (by simp) |>.alloc (.map #[] 0)
  have hM := MapIs.new (((w.alloc (.cells #[.int .i64 p, .int .i64 c, .int .i64 n, .slice ad1 ts.length cap1] 30)).alloc (.cells #[.int .i64 p, .int .i64 c, .int .i64 n, .slice ad2 us.length cap2] 30)).alloc (.cells #[.int .i64 0, .int .i64 0, .int .i64 0, .slice none 0 0] 30)) n
  have hbl := ((((Below.refl w.heap.size w).alloc (Nat.le_refl _) (.cells #[.int .i64 p, .int .i64 c, .int .i64 n, .slice ad1 ts.length cap1] 30)).alloc (by simp) (.cells #[.int .i64 p, .int .i64 c, .int .i64 n, .slice ad2 us.length cap2] 30)).alloc (by simp; omega) (.cells #[.int .i64 0, .int .i64 0, .int .i64 0, .slice none 0 0] 30)).alloc (by simp; omega) (.map #[] 0)
  have hz : (((w.alloc (.cells #[.int .i64 p, .int .i64 c, .int .i64 n, .slice ad1 ts.length cap1] 30)).alloc (.cells #[.int .i64 p, .int .i64 c, .int .i64 n, .slice ad2 us.length cap2] 30)).alloc (.cells #[.int .i64 0, .int .i64 0, .int .i64 0, .slice none 0 0] 30)).heap.size = w.heap.size + 1 + 1 + 1 := by simp
  rw [hz] at hM
  have hcX := hX.cells
  have Hbl := Lib.hid hbl
  have HZ := Lib.hid hZ
  clear hz hbl hZ
  go_wp2_with fail
  generalize (((w.alloc (.cells #[.int .i64 p, .int .i64 c, .int .i64 n, .slice ad1 ts.length cap1] 30)).alloc (.cells #[.int .i64 p, .int .i64 c, .int .i64 n, .slice ad2 us.length cap2] 30)).alloc (.cells #[.int .i64 0, .int .i64 0, .int .i64 0, .slice none 0 0] 30)).alloc (.map #[] 0) = w2 at *
  have hzm := hM.lt
  generalize hbm : w.heap.size + 1 + 1 + 1 = bm at *
  have hbm1 : w.heap.size + 1 + 1 < bm := by omega
  clear hbm hmm
  go_loopw [16] (fun i wr => ∃ j : Nat, j ≤ ts.length ∧ i = .int .i64 j ∧ MapIs wr bm j n (acc 1 (fun _ => 0) (ts.take j)) ∧ But w2 wr [bm]) (fun i _ => ts.length - (intOf i).toNat)
  case atStart => exact ⟨0, by omega, rfl, hM, But.refl _ _⟩
  case round =>
    clear hM
    obtain ⟨j, hj, rfl, hM, hbut⟩ := hrel
    have hz3 := hbut.size
    have hX3 := hX.but hbut (by simp; omega)
    have hY3 := hY.but hbut (by simp; omega)
    by_cases hltj : j < ts.length
    · obtain ⟨g1, o1, rfl, hg1, hr1⟩ := Hrd1.out (fun e => by rw [e] at hltj; simp at hltj)
      have hT := Hts.out.mem ts[j] (List.getElem_mem hltj)
      have hbz : Below w.heap.size w wr := Hbl.out.trans (hbut.below (by omega) (by simp; omega))
      have hra := range_tm (rangeAt_below hr1 hbz hg1) j ts[j] (List.getElem?_eq_getElem hltj)
      have hbm3 : bm < wr.heap.size := by omega
      have hba := hbut.alloc (.cells (Tm.cells ⟨Dg.zero 0, 0⟩) 57)
      have hMa := hM.alloc (.cells (Tm.cells ⟨Dg.zero 0, 0⟩) 57)
      have hbd := acc_bound (us := ts) (k := 1) (f := fun _ => 0) (B := 0) hp97 (by omega) Hts.out (by intro d; omega) j hj ts[j].d
      have hstep := acc_take (k := 1) (us := ts) (fun _ => 0) j hltj
      simp only [Int.one_mul] at hstep
      have Hstep := Lib.hid hstep
      clear hstep hbz hr1
      generalize acc 1 (fun _ => 0) (List.take j ts) = fA at *
      generalize ts[j] = t at *
      go_wp2_with (first | (refine load_tm_mid rfl _ rfl _ _ rfl _ hra ?_) | (refine store_tm rfl _ _ rfl _ rfl t rfl _ 57 (Blk.newAt _ _ _ rfl) rfl ?_; intro w3 ht ho3))
      have Hb := Lib.hid (hba.only ho3 (.inr (by omega)))
      have hM4 := hMa.only ho3 (by omega)
      have hnb : wr.heap.size ∉ [bm] := by simp; omega
      clear hba hMa hX3 hY3 hra ho3 hM hbut
      generalize wr.heap.size = bt at *
      obtain ⟨wr, rfl⟩ : ∃ z : World, z = w3 := ⟨_, rfl⟩
      have hM := hM4
      clear hM4
      have hgd := hT.1
      have hds := hT.2.1
      have hta := hT.2.2
      generalize hA0 : fA t.d = A at hbd Hstep
      have HA0 := Lib.hid hA0
      have hr4 : IntKind.i64.wrap (A + t.k) = A + t.k := IntWalk.i64_in _ (by omega)
      have hwf : (Lit.int .i64 (A + t.k)).wf = true := WalkArith.wf_i64 (by omega)
      have Hwf := Lib.hid hwf
      clear hA0 hwf
      refine wp_region_held_drew (S := fun W => But wr W [bm]) (by kernel_rfl) (But.drew wr _) (fun hS => ?_)
      replace hM := hM.drew
      refine takeA 0 (v := ?_) hS ?_ ?_
      rotate_left
      focus (intro W hW; go_simp; first | done | with_reducible rfl)
      try simp only [Act.put, List.setIfInBounds_toArray, List.set_cons_zero, List.set_cons_succ]
      refine takeA 1 (v := ?_) hS ?_ ?_
      rotate_left
      focus (intro W hW; go_simp; first | done | with_reducible rfl)
      try simp only [Act.put, List.setIfInBounds_toArray, List.set_cons_zero, List.set_cons_succ]
      refine takeA 2 (v := .agg t.d.cells) hS ?_ ?_
      · exact fun W hW => run_dg_at _ rfl _ _ rfl _ (ht.but hW hnb).tm_dg rfl
      try simp only [Act.put, List.setIfInBounds_toArray, List.set_cons_zero, List.set_cons_succ]
      refine takeA 4 (v := ?_) hS ?_ ?_
      rotate_left
      focus (intro W hW; go_simp; first | done | with_reducible rfl)
      try simp only [Act.put, List.setIfInBounds_toArray, List.set_cons_zero, List.set_cons_succ]
      refine takeA 5 (v := ?_) hS ?_ ?_
      rotate_left
      focus (intro W hW; have q1 := (ht.but hW hnb).tm_k; go_simp; first | done | with_reducible rfl)
      try simp only [Act.put, List.setIfInBounds_toArray, List.set_cons_zero, List.set_cons_succ]
      refine wpAnyH_ready (rs := [3, 7]) (by decide +kernel) (by simp) (allA 3 (fun K hK => ?_) (allA 7 (fun K hK => ?_) AllReadyH.nil))
      · refine wp_lookup_dg _ _ rfl bm _ n fA rfl hM t.d hgd.wf rfl ?_
        rw [HA0.out]
        refine hK _ _ hS ?_
        clear hK K
        try simp only [Act.put, List.setIfInBounds_toArray, List.set_cons_zero, List.set_cons_succ]
        refine takeA 6 (v := ?_) hS ?_ ?_
        rotate_left
        focus (intro W hW; go_simp; first | done | with_reducible rfl)
        try simp only [Act.put, List.setIfInBounds_toArray, List.set_cons_zero, List.set_cons_succ]
        refine wpAnyH_ready (rs := [7]) (by decide +kernel) (by simp) (allA 7 (fun K hK => ?_) AllReadyH.nil)
        refine wp_entry_dg _ _ rfl bm _ n fA rfl hM (by omega) t.d hgd hds rfl ?_
        intro st v0 u7 hg7 hM7 hst
        replace hS : But wr u7 [bm] := hS.own hg7 (by simp)
        replace hM := hM7
        refine hK _ _ hS ?_
        clear hK K hM7
        try simp only [Act.put, List.setIfInBounds_toArray, List.set_cons_zero, List.set_cons_succ]
        refine takeA 8 (v := ?_) hS ?_ ?_
        rotate_left
        focus (intro W hW; go_simp; first | done | with_reducible rfl)
        try simp only [Act.put, List.setIfInBounds_toArray, List.set_cons_zero, List.set_cons_succ]
        refine wpAnyH_ready (rs := [9]) (by decide +kernel) (by simp) (allA 9 (fun K hK => ?_) AllReadyH.nil)
        refine wp_entryStore_dg _ _ _ rfl bm st _ rfl rfl rfl (hst _ _ Hwf.out rfl) ?_
        intro u9 hu9
        obtain ⟨hg9, hM9⟩ := hu9
        replace hS : But wr u9 [bm] := hS.own hg9 (by simp)
        refine hK _ _ hS ?_
        clear hK K
        try simp only [Act.put, List.setIfInBounds_toArray, List.set_cons_zero, List.set_cons_succ]
        refine wpAnyH_done (by decide +kernel) ?_ _
        go_wp2_with fail
        go_roundw
        case rel => exact ⟨j + 1, by omega, by go_num, by rw [Hstep.out]; exact hM9, Hb.out.trans hS⟩
        case measure => simp [intOf]; omega
      · refine wp_entry_dg _ _ rfl bm _ n fA rfl hM (by omega) t.d hgd hds rfl ?_
        intro st v0 u7 hg7 hM7 hst
        replace hS : But wr u7 [bm] := hS.own hg7 (by simp)
        replace hM := hM7
        refine hK _ _ hS ?_
        clear hK K hM7
        try simp only [Act.put, List.setIfInBounds_toArray, List.set_cons_zero, List.set_cons_succ]
        refine takeA 8 (v := ?_) hS ?_ ?_
        rotate_left
        focus (intro W hW; go_simp; first | done | with_reducible rfl)
        try simp only [Act.put, List.setIfInBounds_toArray, List.set_cons_zero, List.set_cons_succ]
        refine wpAnyH_ready (rs := [3]) (by decide +kernel) (by simp) (allA 3 (fun K hK => ?_) AllReadyH.nil)
        refine wp_lookup_dg _ _ rfl bm _ n fA rfl hM t.d hgd.wf rfl ?_
        rw [HA0.out]
        refine hK _ _ hS ?_
        clear hK K
        try simp only [Act.put, List.setIfInBounds_toArray, List.set_cons_zero, List.set_cons_succ]
        refine takeA 6 (v := ?_) hS ?_ ?_
        rotate_left
        focus (intro W hW; go_simp; first | done | with_reducible rfl)
        try simp only [Act.put, List.setIfInBounds_toArray, List.set_cons_zero, List.set_cons_succ]
        refine wpAnyH_ready (rs := [9]) (by decide +kernel) (by simp) (allA 9 (fun K hK => ?_) AllReadyH.nil)
        refine wp_entryStore_dg _ _ _ rfl bm st _ rfl rfl rfl (hst _ _ Hwf.out rfl) ?_
        intro u9 hu9
        obtain ⟨hg9, hM9⟩ := hu9
        replace hS : But wr u9 [bm] := hS.own hg9 (by simp)
        refine hK _ _ hS ?_
        clear hK K
        try simp only [Act.put, List.setIfInBounds_toArray, List.set_cons_zero, List.set_cons_succ]
        refine wpAnyH_done (by decide +kernel) ?_ _
        go_wp2_with fail
        go_roundw
        case rel => exact ⟨j + 1, by omega, by go_num, by rw [Hstep.out]; exact hM9, Hb.out.trans hS⟩
        case measure => simp [intOf]; omega

    · obtain rfl : j = ts.length := by omega
      rw [List.take_length] at hM
      have hcY := hY3.cells
      have hM0 := hM.mono (k' := 300 + 0) (by omega)
      go_wp2_with fail
      have hf0 : ∀ d, acc 1 (fun _ => 0) ts d % p = coef ts d := fun d => by
        have h1 := coef_range Hts.out (by omega) d
        rw [acc_one ts _ Hts.out d, Int.zero_add, Int.emod_eq_of_lt h1.1 h1.2]
      have hfb : ∀ d, -29100000000 ≤ acc 1 (fun _ => 0) ts d ∧ acc 1 (fun _ => 0) ts d ≤ 29100000000 := fun d => by
        have h1 := coef_range Hts.out (by omega) d
        rw [acc_one ts _ Hts.out d]
        omega
      have Hf0 := Lib.hid hf0
      have Hfb := Lib.hid hfb
      clear hf0 hfb hX3 hY3 hcX hcY hM hz3
      generalize acc 1 (fun _ => 0) ts = f0 at *
      go_loopw [33] (fun i wq => ∃ j : Nat, j ≤ us.length ∧ i = .int .i64 j ∧ MapIs wq bm (300 + j) n (acc k f0 (us.take j)) ∧ But w2 wq [bm]) (fun i _ => us.length - (intOf i).toNat)
      case atStart => exact ⟨0, by omega, rfl, hM0, hbut⟩
      case round =>
        clear hM0 hbut
        obtain ⟨j, hj, rfl, hM, hbut⟩ := hrel
        have hz3 := hbut.size
        by_cases hltj : j < us.length
        · obtain ⟨g2, o2, rfl, hg2, hr2⟩ := Hrd2.out (fun e => by rw [e] at hltj; simp at hltj)
          have hT := Hus.out.mem us[j] (List.getElem_mem hltj)
          have hbz : Below w.heap.size w wr := Hbl.out.trans (hbut.below (by omega) (by simp; omega))
          have hra := range_tm (rangeAt_below hr2 hbz hg2) j us[j] (List.getElem?_eq_getElem hltj)
          have hbm3 : bm < wr.heap.size := by omega
          have hba := hbut.alloc (.cells (Tm.cells ⟨Dg.zero 0, 0⟩) 57)
          have hMa := hM.alloc (.cells (Tm.cells ⟨Dg.zero 0, 0⟩) 57)
          have hbd := acc_bound (us := us) (k := k) (f := f0) (B := 29100000000) hp97 hk Hus.out Hfb.out j hj us[j].d
          have hstep := acc_take (k := k) (us := us) f0 j hltj
          have Hstep := Lib.hid hstep
          clear hstep hbz hr2
          generalize acc k f0 (List.take j us) = fA at *
          generalize us[j] = t at *
          go_wp2_with (first | (refine load_tm_mid rfl _ rfl _ _ rfl _ hra ?_) | (refine store_tm rfl _ _ rfl _ rfl t rfl _ 57 (Blk.newAt _ _ _ rfl) rfl ?_; intro w3 ht ho3))
          have Hb := Lib.hid (hba.only ho3 (.inr (by omega)))
          have hM4 := hMa.only ho3 (by omega)
          have hnb : wr.heap.size ∉ [bm] := by simp; omega
          clear hba hMa hra ho3 hM hbut
          generalize wr.heap.size = bt at *
          obtain ⟨wr, rfl⟩ : ∃ z : World, z = w3 := ⟨_, rfl⟩
          have hM := hM4
          clear hM4
          have hgd := hT.1
          have hds := hT.2.1
          have hta := hT.2.2
          generalize hA0 : fA t.d = A at hbd Hstep
          have HA0 := Lib.hid hA0
          have hmb := mul_bound (x := t.k) hk ⟨by omega, by omega⟩
          have hr3 : IntKind.i64.wrap (k * t.k) = k * t.k := IntWalk.i64_in _ (by omega)
          have hr4 : IntKind.i64.wrap (A + k * t.k) = A + k * t.k := IntWalk.i64_in _ (by omega)
          have hwf : (Lit.int .i64 (A + k * t.k)).wf = true := WalkArith.wf_i64 (by omega)
          have Hwf := Lib.hid hwf
          clear hA0 hwf
          refine wp_region_held_drew (S := fun W => But wr W [bm]) (by kernel_rfl) (But.drew wr _) (fun hS => ?_)
          replace hM := hM.drew
          refine takeA 0 (v := ?_) hS ?_ ?_
          rotate_left
          focus (intro W hW; go_simp; first | done | with_reducible rfl)
          try simp only [Act.put, List.setIfInBounds_toArray, List.set_cons_zero, List.set_cons_succ]
          refine takeA 1 (v := ?_) hS ?_ ?_
          rotate_left
          focus (intro W hW; go_simp; first | done | with_reducible rfl)
          try simp only [Act.put, List.setIfInBounds_toArray, List.set_cons_zero, List.set_cons_succ]
          refine takeA 2 (v := .agg t.d.cells) hS ?_ ?_
          · exact fun W hW => run_dg_at _ rfl _ _ rfl _ (ht.but hW hnb).tm_dg rfl
          try simp only [Act.put, List.setIfInBounds_toArray, List.set_cons_zero, List.set_cons_succ]
          refine takeA 4 (v := ?_) hS ?_ ?_
          rotate_left
          focus (intro W hW; go_simp; first | done | with_reducible rfl)
          try simp only [Act.put, List.setIfInBounds_toArray, List.set_cons_zero, List.set_cons_succ]
          refine takeA 5 (v := ?_) hS ?_ ?_
          rotate_left
          focus (intro W hW; go_simp; first | done | with_reducible rfl)
          try simp only [Act.put, List.setIfInBounds_toArray, List.set_cons_zero, List.set_cons_succ]
          refine takeA 6 (v := ?_) hS ?_ ?_
          rotate_left
          focus (intro W hW; have q1 := (ht.but hW hnb).tm_k; go_simp; first | done | with_reducible rfl)
          try simp only [Act.put, List.setIfInBounds_toArray, List.set_cons_zero, List.set_cons_succ]
          refine takeA 7 (v := ?_) hS ?_ ?_
          rotate_left
          focus (intro W hW; go_simp; first | done | with_reducible rfl)
          try simp only [Act.put, List.setIfInBounds_toArray, List.set_cons_zero, List.set_cons_succ]
          refine wpAnyH_ready (rs := [3, 9]) (by decide +kernel) (by simp) (allA 3 (fun K hK => ?_) (allA 9 (fun K hK => ?_) AllReadyH.nil))
          · refine wp_lookup_dg _ _ rfl bm _ n fA rfl hM t.d hgd.wf rfl ?_
            rw [HA0.out]
            refine hK _ _ hS ?_
            clear hK K
            try simp only [Act.put, List.setIfInBounds_toArray, List.set_cons_zero, List.set_cons_succ]
            refine takeA 8 (v := ?_) hS ?_ ?_
            rotate_left
            focus (intro W hW; go_simp; first | done | with_reducible rfl)
            try simp only [Act.put, List.setIfInBounds_toArray, List.set_cons_zero, List.set_cons_succ]
            refine wpAnyH_ready (rs := [9]) (by decide +kernel) (by simp) (allA 9 (fun K hK => ?_) AllReadyH.nil)
            refine wp_entry_dg _ _ rfl bm _ n fA rfl hM (by omega) t.d hgd hds rfl ?_
            intro st v0 u7 hg7 hM7 hst
            replace hS : But wr u7 [bm] := hS.own hg7 (by simp)
            replace hM := hM7
            refine hK _ _ hS ?_
            clear hK K hM7
            try simp only [Act.put, List.setIfInBounds_toArray, List.set_cons_zero, List.set_cons_succ]
            refine takeA 10 (v := ?_) hS ?_ ?_
            rotate_left
            focus (intro W hW; go_simp; first | done | with_reducible rfl)
            try simp only [Act.put, List.setIfInBounds_toArray, List.set_cons_zero, List.set_cons_succ]
            refine wpAnyH_ready (rs := [11]) (by decide +kernel) (by simp) (allA 11 (fun K hK => ?_) AllReadyH.nil)
            refine wp_entryStore_dg _ _ _ rfl bm st _ rfl rfl rfl (hst _ _ Hwf.out rfl) ?_
            intro u9 hu9
            obtain ⟨hg9, hM9⟩ := hu9
            replace hS : But wr u9 [bm] := hS.own hg9 (by simp)
            refine hK _ _ hS ?_
            clear hK K
            try simp only [Act.put, List.setIfInBounds_toArray, List.set_cons_zero, List.set_cons_succ]
            refine wpAnyH_done (by decide +kernel) ?_ _
            go_wp2_with fail
            go_roundw
            case rel => exact ⟨j + 1, by omega, by go_num, by rw [Hstep.out]; exact hM9, Hb.out.trans hS⟩
            case measure => simp [intOf]; omega
          · refine wp_entry_dg _ _ rfl bm _ n fA rfl hM (by omega) t.d hgd hds rfl ?_
            intro st v0 u7 hg7 hM7 hst
            replace hS : But wr u7 [bm] := hS.own hg7 (by simp)
            replace hM := hM7
            refine hK _ _ hS ?_
            clear hK K hM7
            try simp only [Act.put, List.setIfInBounds_toArray, List.set_cons_zero, List.set_cons_succ]
            refine takeA 10 (v := ?_) hS ?_ ?_
            rotate_left
            focus (intro W hW; go_simp; first | done | with_reducible rfl)
            try simp only [Act.put, List.setIfInBounds_toArray, List.set_cons_zero, List.set_cons_succ]
            refine wpAnyH_ready (rs := [3]) (by decide +kernel) (by simp) (allA 3 (fun K hK => ?_) AllReadyH.nil)
            refine wp_lookup_dg _ _ rfl bm _ n fA rfl hM t.d hgd.wf rfl ?_
            rw [HA0.out]
            refine hK _ _ hS ?_
            clear hK K
            try simp only [Act.put, List.setIfInBounds_toArray, List.set_cons_zero, List.set_cons_succ]
            refine takeA 8 (v := ?_) hS ?_ ?_
            rotate_left
            focus (intro W hW; go_simp; first | done | with_reducible rfl)
            try simp only [Act.put, List.setIfInBounds_toArray, List.set_cons_zero, List.set_cons_succ]
            refine wpAnyH_ready (rs := [11]) (by decide +kernel) (by simp) (allA 11 (fun K hK => ?_) AllReadyH.nil)
            refine wp_entryStore_dg _ _ _ rfl bm st _ rfl rfl rfl (hst _ _ Hwf.out rfl) ?_
            intro u9 hu9
            obtain ⟨hg9, hM9⟩ := hu9
            replace hS : But wr u9 [bm] := hS.own hg9 (by simp)
            refine hK _ _ hS ?_
            clear hK K
            try simp only [Act.put, List.setIfInBounds_toArray, List.set_cons_zero, List.set_cons_succ]
            refine wpAnyH_done (by decide +kernel) ?_ _
            go_wp2_with fail
            go_roundw
            case rel => exact ⟨j + 1, by omega, by go_num, by rw [Hstep.out]; exact hM9, Hb.out.trans hS⟩
            case measure => simp [intOf]; omega

        · obtain rfl : j = us.length := by omega
          rw [List.take_length] at hM
          have hX5 := hX.but hbut (by simp; omega)
          have hZ5 := HZ.out.but hbut (by simp; omega)
          have hbl5 := Hbl.out.trans (hbut.below (B := w.heap.size) (by omega) (by simp; omega))
          have hTn : Nf p n (sumT p k ts us) := sumTo_nf (k := k) hp Hts.out Hus.out us.length (Nat.le_refl _)
          have hcf := coef_sumTo (k := k) hp Hts.out Hus.out Hf0.out us.length (Nat.le_refl _)
          have hbd := acc_bound (us := us) (k := k) (f := f0) (B := 29100000000) hp97 hk Hus.out Hfb.out us.length (Nat.le_refl _)
          rw [List.take_length] at hcf hbd
          have hcall := with_calls p c n n (acc k f0 us) (sumT p k ts us) hp hp97 hTn (fun d _ => hcf d) (fun d _ => by have := hbd d; omega) w.heap.size bm (300 + us.length) _ _ wr hX5 hM (by omega)
          rw [szOf_same] at hcall
          have Hcall := Lib.hid hcall
          clear hcall hM hbut hTn hcf hbd
          go_wp2_with fail
          refine Hcall.out.mono ?_
          rintro e w6 ⟨v, rfl, hv6, hb6⟩
          have hZ6 := hZ5.below hb6 hZ5.lt
          have hbl6 := hbl5.trans (hb6.mono (by omega))
          have h1c : v.oneCell' = true := by obtain ⟨ad, cap, rfl, -, -⟩ := hv6.slice; rfl
          go_wp2_with (first | (refine store_el rfl _ _ rfl _ rfl _ rfl rfl (el_all h1c) _ _ hZ6 rfl ?_; intro w9 hZ9 ho9))
          refine ret_el rfl _ rfl _ rfl _ hZ9 rfl ?_
          exact ⟨v, rfl, (hv6.only ho9 (hv6.ne_low (by omega))).mono (by omega), hbl6.trans (ho9.below (by omega))⟩
end Go.Proofs.Yticmlgnolbccjaa
