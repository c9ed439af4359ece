/- The text of a diagram once more, with the count of draws: what the library's sort asks of a comparison. -/
import Derived.Test.YticmlgnolbccjaaD3
import Derived.Sort.Grow
set_option linter.unusedVariables false
set_option linter.unusedSimpArgs false
namespace Go.Proofs.Yticmlgnolbccjaa
open Go.RowKit

section
variable {P : Program} {w : World}
/-- An append only draws on. -/
theorem drawn_append (base : Nat) (t ty e : TypeId) (i : TypeInfo) (z : Value) (size bytes : Nat) (ht : P.underlying t = some (.slice e)) (hi : P.info? e = some i) (hz : i.zero = some z)
    (hsize : i.size = size) (hby : i.bytes = bytes) (hzs : z.cells.size = size) (hsz : 0 < size)
    (v : Value) (n : Nat) (xs : List Value) (hown : w.ownsRow base e size v n xs)
    (a : Addr) (m c : Nat) (news : List Value) (hl : news.length = m * size) (hnews : ∀ j u, news[j]? = some u → w.cell? (a.add j) = some u) (h1 : ∀ u ∈ news, u.oneCell' = true)
    (h63 : n + m ≤ maxLen) (hbytes : (n + m) * bytes ≤ 140737488355328) (hm : m ≠ 0) {v' : Value} {w' : World}
    (hrun : (Builtin.append_ #[t, t] ty #[v, .slice (some a) m c]).run P w = .ok v' w') : w.drawn ≤ w'.drawn := by
  subst hsize
  subst hby
  have hsmall : n + m ≤ 9223372036854775807 := by simp only [maxLen] at h63; omega
  rcases hown.2 with ⟨rfl, rfl⟩ | ⟨g, cap, cur, rfl, hbg, hg, hnc, hcm, hcs, htake⟩
  · have hr := run_append_nil (P := P) w t ty e i z ht hi hz a m c news hl hnews (by omega) (by omega) (by have hb := hbytes; simp only [Nat.zero_add] at hb; omega)
    rw [hr] at hrun
    cases hrun
    exact Nat.le_succ _
  · by_cases hroom : n + m ≤ cap
    · have hfit : n * i.size + news.length ≤ cur.size := by rw [hl, hcs, ← Nat.add_mul]; exact Nat.mul_le_mul_right _ hroom
      have hr := run_append_room (P := P) w t ty e i ht hi g n cap cur hg a m c news hl hnews h1 hroom hfit
      rw [hr] at hrun
      cases hrun
      exact Nat.le_refl _
    · have holds : ∀ j u, xs[j]? = some u → w.cell? ((⟨g, 0, none⟩ : Addr).add j) = some u := hown.cells (g := g) rfl
      have hr := run_append_grow (P := P) w t ty e i z ht hi hz ⟨g, 0, none⟩ n cap xs hown.1 holds a m c news hl hnews (by omega) (by omega) (growslice_fits (by omega) hbytes)
      rw [hr] at hrun
      cases hrun
      exact Nat.le_succ _
end

section
variable {ops : Array Oper} {rest : List Oper} {o : Oper} {a : Act} {w : World} {Q : Exit → Act → World → Prop}
/-- One byte more. -/
theorem append_u8d (hgd : o.guard = none) (s x : Operand) (ho : o.op = .call { callee := .builtin .append, args := #[s, x], argTypes := #[131, 131] })
    (base : Nat) (v : Value) (n : Nat) (xs : List Int) (hs : a.eval s = v) (hown : w.ownsRow base 5 1 v n (xs.map (Value.int .u8)))
    (g : Nat) (c : Int) (hx : a.eval x = .slice (some ⟨g, 0, none⟩) 1 1) (T : TypeId) (hc : Blk w g #[.int .u8 c] T) (hn : n ≤ 1000000) (hbase : base ≤ w.heap.size)
    (h : ∀ v' w', w'.ownsRow base 5 1 v' (n + 1) ((xs ++ [c]).map (Value.int .u8)) → w.grownBy w' v.ownBlock → w.drawn ≤ w'.drawn → wpList Try.prog ops Q rest (a.put o.dst v') w') : wpList Try.prog ops Q (o :: rest) a w := by
  obtain ⟨i0, hi, hz0, hz1, hz2⟩ := info_parts info_u8
  have hc1 : ∀ j u, [Value.int .u8 c][j]? = some u → w.cell? ((⟨g, 0, none⟩ : Addr).add j) = some u := by
    intro j u hu
    cases j with
    | zero => simp at hu; subst hu; exact hc.cells 0
    | succ j => simp at hu
  have hc2 : ∀ u ∈ [Value.int .u8 c], u.oneCell' = true := by
    intro u hu; simp at hu; subst hu; rfl
  obtain ⟨v', w', hr, h2, h3, h4⟩ := run_append_own (P := Try.prog) w base 131 o.type 5 i0 (.int .u8 0) 1 1 Try.underlying131 hi hz0 hz1 hz2 rfl (by decide) v n _ hown ⟨g, 0, none⟩ 1 1 [.int .u8 c] rfl hc1 hc2 (by unfold maxLen; omega) (by omega) hbase
  have hd := drawn_append (P := Try.prog) base 131 o.type 5 i0 (.int .u8 0) 1 1 Try.underlying131 hi hz0 hz1 hz2 rfl (by decide) v n _ hown ⟨g, 0, none⟩ 1 1 [.int .u8 c] rfl hc1 hc2 (by unfold maxLen; omega) (by omega) (by decide) hr
  refine wpList_plain hgd fun K hK => ?_
  unfold Oper.wp execOp
  simp only [ho, resolve, invoke, builtin, Sem.run_bind, Sem.run_pure, Result.andThen_ok, List.map_toArray, List.map_cons, List.map_nil, hs, hx, hr]
  exact hK _ _ (h v' w' (by simpa using h2) h3 hd)
end

/-- Old memory unturned, draws gone on: new blocks behind the old ones. -/
theorem grow_of_below {w w' : World} (h : Below w.heap.size w w') (hd : w.drawn ≤ w'.drawn) : ∃ q os, w' = Sort.grow (w.drewN q) os := by
  refine ⟨w'.drawn - w.drawn, w'.heap.extract w.heap.size w'.heap.size, ?_⟩
  cases w with
  | mk heap tape drawn os output =>
    cases w' with
    | mk heap' tape' drawn' os' output' =>
      have h1 := h.os; have h2 := h.tape; have h3 := h.output; have h4 := h.size; have h5 := h.block
      simp only at h1 h2 h3 h4 h5 hd
      subst h1 h2 h3
      simp only [Sort.grow, World.drewN, World.mk.injEq, true_and, and_true]
      refine ⟨?_, by omega⟩
      apply Array.ext_getElem?
      intro i
      rw [Array.getElem?_append]
      by_cases hi : i < heap.size
      · rw [if_pos hi]; exact h5 i hi
      · rw [if_neg hi, Array.getElem?_extract]
        by_cases hj : i < heap'.size
        · rw [if_pos (by omega), show heap.size + (i - heap.size) = i from by omega]
        · rw [if_neg (by omega), Array.getElem?_eq_none (by omega)]

set_option maxRecDepth 100000 in
theorem implTextD_calls (d : Dg) (b off : Nat) (w : World) (hat : DgAt w b off d) (hp : d.Pts) :
    Calls Try.prog 90 #[.pointer (some ⟨b, off, none⟩)] w fun e w' => e = .returned (.string (strOfNums d.txt)) ∧ Below w.heap.size w w' ∧ w.drawn ≤ w'.drawn := by
  have hlo := hp.lo
  have hhi := hp.hi
  have hlt0 := hat.lt
  have Hp := Lib.hid hp
  clear hp
  go_enter Try.func90, Try.ntmps90
  go_wp2_with (go_at_call 124; refine (implN_calls d _ _ _ hat).mono ?_; rintro e w' ⟨rfl, rfl⟩)
  go_loopw [4, 5, 11] (fun v x i wr => ∃ k : Nat, k ≤ 2 * d.size.toNat ∧ i = .int .i64 k ∧ wr.ownsRow w.heap.size 5 1 v k ((d.txtTo k).map (Value.int .u8)) ∧ Below w.heap.size w wr ∧ w.drawn ≤ wr.drawn) (fun _ _ i _ => 2 * d.size.toNat - (intOf i).toNat)
  case atStart =>
    refine ⟨0, by omega, rfl, ?_, (Below.refl _ w).alloc (Nat.le_refl _) _, Nat.le_refl _⟩
    have := World.ownsRow_made (w := w) (base := w.heap.size) (e := 5) (size := 1) #[] 0 (by simp) (by simp [maxLen]) rfl
    simpa [Dg.txtTo] using this
  case round =>
    obtain ⟨k, hk, rfl, hown, hbel, hdr⟩ := hrel
    have hz := hbel.size
    have Hdr := Lib.hid hdr
    clear hdr
    by_cases hlt : k < 2 * d.size.toNat
    · have hpl := place_range (n := d.size) (i := k) (by omega) (by omega)
      have hm := Hp.out.mate (place d.size k).toNat (by omega)
      have hc := (hat.below hbel hlt0).mate (place d.size k).toNat (by omega)
      have hs : d.sign k = if (k : Int) < place d.size (d.m (place d.size k).toNat) then 40 else 41 := rfl
      have Hs := Lib.hid hs
      clear hs
      go_wp2
      go_quiet ((go_at_call 125; exact Calls.quiet_of_same ((implPlace_calls _ _ _ (by omega) (by omega) (by omega) (by omega)).mono fun e w' ⟨h, h'⟩ => ⟨h, h'.symm⟩)))
      go_wp2_with (at_builtin; refine append_u8d rfl _ _ rfl w.heap.size _ k (d.txtTo k) rfl ((own_drewN hown _).alloc _) wr.heap.size _ rfl _ (Blk.newAt _ _ _ rfl) (by omega) (by simp; omega) ?_; intro v1 w1 ho1 hg1 hd1; have Hd1 := Lib.hid hd1; clear hd1)
      all_goals
        go_roundw
        case rel => exact ⟨k + 1, by omega, by go_num, by rw [Dg.txtTo_succ, Hs.out]; first | (rw [if_pos (by assumption)]; exact ho1) | (rw [if_neg (by omega)]; exact ho1), bel_grown ((bel_drewN hbel _).alloc (by simp; omega) _) hg1 ((own_drewN hown _).alloc _) (by omega) (by simp; omega), Nat.le_trans Hdr.out (Nat.le_trans (Nat.le_add_right _ _) Hd1.out)⟩
        case measure => simp [intOf]; omega
    · obtain rfl : k = (2 * d.size).toNat := by omega
      go_wp2_with (refine convert_own rfl _ rfl w.heap.size _ _ (d.txtTo (2 * d.size).toNat) rfl hown ?_)
      go_ret
      exact ⟨rfl, hbel, Hdr.out⟩
end Go.Proofs.Yticmlgnolbccjaa
