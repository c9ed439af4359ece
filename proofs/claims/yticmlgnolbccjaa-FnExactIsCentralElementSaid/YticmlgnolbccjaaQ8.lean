/- Plain: what an element is. -/
import Derived.Test.YticmlgnolbccjaaQ5
import Derived.Test.YticmlgnolbccjaaQ7

set_option linter.unusedVariables false
set_option linter.unusedSimpArgs false
namespace Go.Proofs.Yticmlgnolbccjaa
open Go.RowKit

/-- As Go's types have it. -/
structure Tm.Wf (t : Tm) : Prop where
  d : t.d.Wf
  lo : -9223372036854775808 ≤ t.k
  hi : t.k ≤ 9223372036854775807

/-- Is the i-th term right, behind the one before it? -/
def tok (p n : Int) (ts : List Tm) (i : Nat) : Bool :=
  match ts[i]? with
  | none => true
  | some t => t.d.okB && decide (t.d.size = n) && inB t.k 1 (p - 1) && (match i with | 0 => true | k + 1 => match ts[k]? with | none => true | some s => tlt s.d t.d)
def eokB (p c n : Int) (ts : List Tm) : Bool := fieldB p c && inB n 1 8 && decide (ts.length ≤ 140) && (List.range ts.length).all (tok p n ts)

section
variable {p c n : Int} {ts : List Tm}
theorem tok_zero (h : 0 < ts.length) : tok p n ts 0 = (ts[0].d.okB && decide (ts[0].d.size = n) && inB ts[0].k 1 (p - 1)) := by
  unfold tok; rw [List.getElem?_eq_getElem h]; simp
theorem tok_succ {i : Nat} (h : i + 1 < ts.length) : tok p n ts (i + 1) = (ts[i + 1].d.okB && decide (ts[i + 1].d.size = n) && inB ts[i + 1].k 1 (p - 1) && tlt ts[i].d ts[i + 1].d) := by
  unfold tok; rw [List.getElem?_eq_getElem h]
  simp only [List.getElem?_eq_getElem (show i < ts.length by omega)]
theorem tok_ok {i : Nat} (h : i < ts.length) (ht : tok p n ts i = true) : ts[i].d.okB = true ∧ ts[i].d.size = n ∧ inB ts[i].k 1 (p - 1) = true := by
  unfold tok at ht; rw [List.getElem?_eq_getElem h] at ht
  simp only [Bool.and_eq_true, decide_eq_true_eq] at ht
  exact ⟨ht.1.1.1, ht.1.1.2, ht.1.2⟩
theorem tok_bad {i : Nat} (h : i < ts.length) (hb : ¬ (ts[i].d.okB = true ∧ ts[i].d.size = n ∧ inB ts[i].k 1 (p - 1) = true)) : tok p n ts i = false := by
  cases hx : tok p n ts i with
  | false => rfl
  | true => exact absurd (tok_ok h hx) hb
theorem eok_false (i : Nat) (hi : i < ts.length) (h : tok p n ts i = false) : eokB p c n ts = false := by
  unfold eokB
  have : (List.range ts.length).all (tok p n ts) = false := by
    rw [List.all_eq_false]
    exact ⟨i, List.mem_range.2 hi, by rw [h]; simp⟩
  rw [this, Bool.and_false]
theorem eok_true (h1 : fieldB p c = true) (h2 : inB n 1 8 = true) (h3 : ts.length ≤ 140) (h4 : ∀ i, i < ts.length → tok p n ts i = true) : eokB p c n ts = true := by
  unfold eokB
  rw [h1, h2, decide_eq_true h3]
  simp only [Bool.true_and, List.all_eq_true, List.mem_range]
  exact h4
theorem eok_head (h : (fieldB p c && inB n 1 8 && decide (ts.length ≤ 140)) = false) : eokB p c n ts = false := by
  unfold eokB; rw [h, Bool.false_and]

theorem pairwise_of_next {R : Dg → Dg → Prop} (htr : ∀ a b c, R a b → R b c → R a c) : ∀ ts : List Tm, (∀ i (h : i + 1 < ts.length), R ts[i].d ts[i + 1].d) → ts.Pairwise (fun a b => R a.d b.d)
  | [], _ => List.Pairwise.nil
  | [t], _ => List.pairwise_singleton _ _
  | t :: u :: ts, h => by
    have ih := pairwise_of_next htr (u :: ts) (fun i hi => h (i + 1) (by simpa using hi))
    have h0 : R t.d u.d := h 0 (by simp)
    refine List.pairwise_cons.2 ⟨fun v hv => ?_, ih⟩
    rcases List.mem_cons.1 hv with rfl | hv
    · exact h0
    · exact htr _ _ _ h0 ((List.pairwise_cons.1 ih).1 v hv)

/-- What a true answer says. -/
theorem eok_nf (hw : ∀ t ∈ ts, t.Wf) (h : eokB p c n ts = true) : (2 ≤ p ∧ p ≤ 97) ∧ (0 ≤ c ∧ c < p) ∧ (1 ≤ n ∧ n ≤ 8) ∧ ts.length ≤ 140 ∧ Nf p n.toNat ts := by
  unfold eokB at h
  simp only [Bool.and_eq_true, decide_eq_true_eq, List.all_eq_true, List.mem_range] at h
  obtain ⟨⟨⟨h1, h2⟩, h3⟩, h4⟩ := h
  have h2' := inB_iff.1 h2
  unfold fieldB at h1
  rw [Bool.and_eq_true] at h1
  have hc := inB_iff.1 h1.2
  have hp : 2 ≤ p ∧ p ≤ 97 := by
    have := h1.1
    unfold primeB at this
    rw [Bool.and_eq_true, decide_eq_true_eq] at this
    exact this.1
  refine ⟨hp, ⟨hc.1, by omega⟩, h2', h3, ⟨fun t ht => ?_, pairwise_of_next (R := fun a b => tlt a b = true) (fun _ _ _ => tlt_trans) ts fun i hi => ?_⟩⟩
  · obtain ⟨i, hi, rfl⟩ := List.getElem_of_mem ht
    obtain ⟨a1, a2, a3⟩ := tok_ok hi (h4 i hi)
    have := inB_iff.1 a3
    exact ⟨⟨(hw _ ht).d, Dg.okB_iff.1 a1⟩, by omega, this.1, by omega⟩
  · have := h4 (i + 1) hi
    rw [tok_succ hi, Bool.and_eq_true] at this
    exact this.2
end
end Go.Proofs.Yticmlgnolbccjaa

/- The walk of the program's IsElement. -/
set_option linter.unusedVariables false
set_option linter.unusedSimpArgs false
namespace Go.Proofs.Yticmlgnolbccjaa
open Go.RowKit

theorem range_dgAt {w : World} {g off : Nat} {d : Dg} (h : w.rangeAt g off d.list) : DgAt w g off d := by
  refine ⟨?_, fun i hi => ?_⟩
  · have := h 0 (.int .i64 d.size) rfl
    simpa using this
  · have := h (1 + i) (.int .u8 (d.m i)) (by have := d.cells1 i hi; simpa [Dg.cells] using this)
    rwa [← Nat.add_assoc] at this

theorem implIsD_calls (d : Dg) (w : World) (hw : d.Wf) (b : Bool) (hb : d.okB = b) :
    Calls Try.prog 89 #[.agg d.cells] w fun e w' => e = .returned (.bool b) ∧ Below w.heap.size w w' := by
  have h := implIs_calls d w hw
  rw [iokB_eq hw, hb] at h
  exact h
theorem implInB_calls (a b c : Int) (w : World) (x : Bool) (hx : inB a b c = x) : Calls Try.prog 56 #[.int .i64 a, .int .i64 b, .int .i64 c] w fun e w' => e = .returned (.bool x) ∧ w = w' := by
  have h := implIn_calls a b c w
  rw [hx] at h; exact h
theorem implFieldB_calls (p c : Int) (w : World) (x : Bool) (hx : fieldB p c = x) : Calls Try.prog 73 #[.int .i64 p, .int .i64 c] w fun e w' => e = .returned (.bool x) ∧ w = w' := by
  have h := implField_calls p c w
  rw [hx] at h; exact h

def elI (p c n : Int) (v : Value) : Value := .agg #[.int .i64 p, .int .i64 c, .int .i64 n, v]
theorem el_eq (p c : Int) (n : Nat) (v : Value) : el p c n v = elI p c n v := rfl

set_option maxHeartbeats 8000000 in
set_option maxRecDepth 100000 in
theorem implIsEl_calls (p c n : Int) (ts : List Tm) (v : Value) (w : World) (hv : TsS w 0 v ts) (hw : ∀ t ∈ ts, t.Wf) (hlen : ts.length ≤ 1048576) :
    Calls Try.prog 43 #[elI p c n v] w fun e w' => e = .returned (.bool (eokB p c n ts)) ∧ Below w.heap.size w w' := by
  obtain ⟨g, cap, rfl, -, hg, hcc, hmc, hr⟩ := hv.out
  have Hw := Lib.hid hw
  clear hv hw
  unfold elI
  have hX := Blk.new w #[.int .i64 p, .int .i64 c, .int .i64 n, .slice (some ⟨g, 0, none⟩) ts.length cap] 30
  have hbl := (Below.refl w.heap.size w).alloc (Nat.le_refl _) (.cells #[.int .i64 p, .int .i64 c, .int .i64 n, .slice (some ⟨g, 0, none⟩) ts.length cap] 30)
  cases hf : fieldB p c with
  | false =>
    have he : eokB p c n ts = false := eok_head (by rw [hf]; rfl)
    rw [he]
    clear he
    go_enter Try.func43, Try.ntmps43
    go_wp2_with (go_at_call 73; refine (implFieldB_calls _ _ _ _ hf).mono ?_; rintro e w' ⟨rfl, rfl⟩)
    go_ret
    exact ⟨rfl, hbl⟩
  | true =>
    cases hi : inB n 1 8 with
    | false =>
      have he : eokB p c n ts = false := eok_head (by rw [hf, hi]; rfl)
      rw [he]
      clear he
      go_enter Try.func43, Try.ntmps43
      go_wp2_with (first | (go_at_call 73; refine (implFieldB_calls _ _ _ _ hf).mono ?_; rintro e w' ⟨rfl, rfl⟩) | (go_at_call 56; refine (implInB_calls _ _ _ _ _ hi).mono ?_; rintro e w' ⟨rfl, rfl⟩))
      go_ret
      exact ⟨rfl, hbl⟩
    | true =>
      by_cases hl : ts.length ≤ 140
      · have Hf := Lib.hid hf
        have Hi := Lib.hid hi
        have hin := inB_iff.1 hi
        have hp97 : 2 ≤ p ∧ p ≤ 97 := by
          unfold fieldB at hf
          rw [Bool.and_eq_true] at hf
          have := hf.1
          unfold primeB at this
          rw [Bool.and_eq_true, decide_eq_true_eq] at this
          exact this.1
        clear hf hi
        go_enter Try.func43, Try.ntmps43
        go_wp2_with (first | (go_at_call 73; refine (implFieldB_calls _ _ _ _ Hf.out).mono ?_; rintro e w' ⟨rfl, rfl⟩) | (go_at_call 56; refine (implInB_calls _ _ _ _ _ Hi.out).mono ?_; rintro e w' ⟨rfl, rfl⟩))
        have hr2 := rangeAt_below hr hbl hg
        have hz2 := hX.lt
        generalize w.alloc (.cells #[.int .i64 p, .int .i64 c, .int .i64 n, .slice (some ⟨g, 0, none⟩) ts.length cap] 30) = w2 at *
        go_loopw [26] (fun i wr => ∃ j : Nat, j ≤ ts.length ∧ i = .int .i64 j ∧ (∀ k, k < j → tok p n ts k = true) ∧ Below w2.heap.size w2 wr) (fun i _ => ts.length - (intOf i).toNat)
        case atStart => exact ⟨0, by omega, rfl, fun k hk => absurd hk (by omega), Below.refl _ _⟩
        case round =>
          obtain ⟨j, hj, rfl, hall, hb⟩ := hrel
          have hbl3 := hbl.trans (hb.mono (by omega))
          have hX3 := hX.below hb hz2
          have hz3 := hb.size
          have hr3 := rangeAt_below hr2 hb (by omega)
          by_cases hlt : j < ts.length
          · have hwt := Hw.out ts[j] (List.getElem_mem hlt)
            have hra := range_tm hr3 j ts[j] (List.getElem?_eq_getElem hlt)
            rw [Nat.zero_add] at hra
            have hXa := hX3.alloc (.cells (Tm.cells ⟨Dg.zero 0, 0⟩) 57)
            have hba := (Below.refl wr.heap.size wr).alloc (Nat.le_refl _) (.cells (Tm.cells ⟨Dg.zero 0, 0⟩) 57)
            have hbad := fun hb => eok_false (p := p) (c := c) (n := n) j hlt (tok_bad hlt hb)
            have Hall := Lib.hid hall
            have Hbad := Lib.hid hbad
            clear hall hbad hX hbl hr2
            have hgt : ts[j]? = some ts[j] := List.getElem?_eq_getElem hlt
            have Hgt := Lib.hid hgt
            clear hgt
            generalize ts[j] = t at *
            by_cases hs : t.d.size = n
            · have hsb : (t.d.size == n) = true := by simpa using hs
              have Hs := Lib.hid hs
              clear hs
              go_wp2_with (first | (refine load_tm_mid rfl _ rfl _ _ rfl _ hra ?_) | (refine store_tm rfl _ _ rfl _ rfl t rfl _ 57 (Blk.newAt _ _ _ rfl) rfl ?_; intro w3 ht3 ho3; have hX4 := hXa.only ho3 (by omega); have hcX4 := hX4.cells; have hsz4 := ht3.tm_size; have hk4 := ht3.tm_k; have hb3 := hba.trans (ho3.below (Nat.le_refl _)); have hz4 := ht3.lt) | (refine load_dgw_mid _ rfl _ _ rfl t.d ht3.tm_dg rfl ?_))
              cases hok : t.d.okB with
              | false =>
                refine (implIsD_calls _ _ hwt.d _ hok).mono ?_
                rintro e w4 ⟨rfl, hb4⟩
                have Hok := Lib.hid hok
                clear hok
                go_wp2_with fail
                go_ret
                exact ⟨ret_bool (Hbad.out (fun h => by rw [Hok.out] at h; cases h.1)).symm, hbl3.trans ((hb3.trans (hb4.mono (by omega))).mono (by omega))⟩
              | true =>
                refine (implIsD_calls _ _ hwt.d _ hok).mono ?_
                rintro e w4 ⟨rfl, hb4⟩
                have Hok := Lib.hid hok
                clear hok
                have hX5 := hX4.below hb4 (by omega)
                have hcX5 := hX5.cells
                have ht4 := ht3.below hb4 (by omega)
                have hk5 := ht4.tm_k
                have hz5 := hb4.size
                have hb5 := hb3.trans (hb4.mono (by omega))
                have hr5 := rangeAt_below hr3 hb5 (by omega)
                clear hX4 hcX4 ht3 hk4 hsz4 hXa hba hX3 hra hb3 hb4
                cases hk : inB t.k 1 (p - 1) with
                | false =>
                  have Hk := Lib.hid hk
                  clear hk
                  go_wp2_with (go_at_call 56; refine (implInB_calls _ _ _ _ _ Hk.out).mono ?_; rintro e w' ⟨rfl, rfl⟩)
                  go_ret
                  exact ⟨ret_bool (Hbad.out (fun h => by rw [Hk.out] at h; cases h.2.2)).symm, hbl3.trans (hb5.mono (by omega))⟩
                | true =>
                  have Hk := Lib.hid hk
                  clear hk
                  by_cases h0 : j = 0
                  · have hj0 : (j : Int) ≤ 0 := by omega
                    have htk : tok p n ts j = true := by
                      subst h0
                      rw [tok_zero hlt]
                      have := Hgt.out
                      rw [List.getElem?_eq_getElem hlt] at this
                      rw [Option.some.inj this, Hok.out, Hk.out, decide_eq_true Hs.out]; rfl
                    have Htk := Lib.hid htk
                    clear htk h0
                    go_wp2_with (go_at_call 56; refine (implInB_calls _ _ _ _ _ Hk.out).mono ?_; rintro e w' ⟨rfl, rfl⟩)
                    go_roundw
                    case rel => exact ⟨j + 1, by omega, by go_num, fun k hk => (Nat.lt_succ_iff_lt_or_eq.1 hk).elim (Hall.out k) (fun e => e ▸ Htk.out), hb.trans (hb5.mono (by omega))⟩
                    case measure => simp [intOf]; omega
                  · obtain ⟨k, hkj⟩ : ∃ k, j = k + 1 := ⟨j - 1, by omega⟩
                    have hkl : k < ts.length := by omega
                    have htok := tok_ok hkl (Hall.out k (by omega))
                    have hgk : Good ts[k].d := ⟨(Hw.out ts[k] (List.getElem_mem hkl)).d, Dg.okB_iff.1 htok.1⟩
                    have hgj : Good t.d := ⟨hwt.d, Dg.okB_iff.1 Hok.out⟩
                    have hpk := hgk.pts
                    have hpj := hgj.pts
                    have hrk := range_dgAt (range_term hr5 k ts[k] (List.getElem?_eq_getElem hkl)).1
                    rw [Nat.zero_add] at hrk
                    have htk : tok p n ts j = tlt ts[k].d t.d := by
                      have := Hgt.out
                      subst hkj
                      rw [tok_succ hlt]
                      rw [List.getElem?_eq_getElem hlt] at this
                      rw [Option.some.inj this, Hok.out, Hk.out, decide_eq_true Hs.out]; rfl
                    have Htk := Lib.hid htk
                    clear htk htok hgk hgj
                    subst hkj
                    go_wp2_with (go_at_call 56; refine (implInB_calls _ _ _ _ _ Hk.out).mono ?_; rintro e w' ⟨rfl, rfl⟩)
                    refine (implText_calls ts[k].d g (k * 18) _ hrk hpk).mono ?_
                    rintro e w6 ⟨rfl, hb6⟩
                    have ht6 := ht4.below hb6 (by omega)
                    have hz6 := hb6.size
                    clear ht4 hk5 hr5 hrk hX5 hcX5
                    go_wp2_with fail
                    refine (implText_calls t.d _ 0 _ (range_dgAt ht6.tm_dg) hpj).mono ?_
                    rintro e w7 ⟨rfl, hb7⟩
                    have hb8 := (hb5.trans (hb6.mono (by omega))).trans (hb7.mono (by omega))
                    clear ht6 hb5 hb6 hb7
                    cases htl : tlt ts[k].d t.d with
                    | true =>
                      have Ht1 := Htk.out.trans htl
                      unfold tlt Dg.key at htl
                      have H1 := Lib.hid Ht1
                      clear Ht1
                      go_wp2_with fail
                      go_roundw
                      case rel => exact ⟨k + 1 + 1, by omega, by go_num, fun l hk => (Nat.lt_succ_iff_lt_or_eq.1 hk).elim (Hall.out l) (fun e => e ▸ H1.out), hb.trans (hb8.mono (by omega))⟩
                      case measure => simp [intOf]; omega
                    | false =>
                      have Ht1 := Htk.out.trans htl
                      unfold tlt Dg.key at htl
                      have H1 := Lib.hid Ht1
                      clear Ht1
                      go_wp2_with fail
                      go_ret
                      exact ⟨ret_bool (eok_false (k + 1) hlt H1.out).symm, hbl3.trans (hb8.mono (by omega))⟩
            · have hsb : (t.d.size == n) = false := by simpa using hs
              go_wp2_with (first | (refine load_tm_mid rfl _ rfl _ _ rfl _ hra ?_) | (refine store_tm rfl _ _ rfl _ rfl t rfl _ 57 (Blk.newAt _ _ _ rfl) rfl ?_; intro w3 ht3 ho3; have hX4 := hXa.only ho3 (by omega); have hcX4 := hX4.cells; have hsz4 := ht3.tm_size; have hk4 := ht3.tm_k; have hb3 := hba.trans (ho3.below (Nat.le_refl _)); have hz4 := ht3.lt))
              go_ret
              exact ⟨ret_bool (Hbad.out (fun h => hs h.2.1)).symm, hbl3.trans (hb3.mono (by omega))⟩
          · obtain rfl : j = ts.length := by omega
            go_wp2_with fail
            go_ret
            exact ⟨ret_bool (eok_true Hf.out Hi.out hl hall).symm, hbl3⟩
      · have he : eokB p c n ts = false := eok_head (by rw [hf, hi, decide_eq_false hl]; rfl)
        rw [he]
        clear he
        go_enter Try.func43, Try.ntmps43
        go_wp2_with (first | (go_at_call 73; refine (implFieldB_calls _ _ _ _ hf).mono ?_; rintro e w' ⟨rfl, rfl⟩) | (go_at_call 56; refine (implInB_calls _ _ _ _ _ hi).mono ?_; rintro e w' ⟨rfl, rfl⟩))
        go_ret
        exact ⟨rfl, hbl⟩
end Go.Proofs.Yticmlgnolbccjaa
