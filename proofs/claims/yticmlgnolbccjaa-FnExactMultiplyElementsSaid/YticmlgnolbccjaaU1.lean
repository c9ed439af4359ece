/- The walk of the reference's way to add a term to a list. -/
import Derived.Test.YticmlgnolbccjaaT3
import Derived.Test.YticmlgnolbccjaaD5
set_option linter.unusedVariables false
set_option linter.unusedSimpArgs false
namespace Go.Proofs.Yticmlgnolbccjaa
open Go.RowKit

theorem low_step {p : Int} {n : Nat} {ts : List Tm} (h : Nf p n ts) {d : Dg} {m : Nat} (hm : m < ts.length) (ht : tlt ts[m].d d = true) : ∀ i (hi : i < ts.length), i < m + 1 → tlt ts[i].d d = true := by
  intro i hi him
  by_cases he : i = m
  · subst he; exact ht
  · exact tlt_trans (List.pairwise_iff_getElem.1 h.sorted i m hi hm (by omega)) ht
theorem high_step {p : Int} {n : Nat} {ts : List Tm} (h : Nf p n ts) {d : Dg} {m : Nat} (hm : m < ts.length) (ht : tlt ts[m].d d = false) : ∀ i (hi : i < ts.length), m ≤ i → tlt ts[i].d d = false := by
  intro i hi him
  by_cases he : i = m
  · subst he; exact ht
  · cases hx : tlt ts[i].d d with
    | false => rfl
    | true =>
      have := tlt_trans (List.pairwise_iff_getElem.1 h.sorted m i hm hi (by omega)) hx
      rw [ht] at this; cases this

set_option maxHeartbeats 1000000 in
set_option maxRecDepth 100000 in
theorem specPut_calls (p : Int) (n : Nat) (ts : List Tm) (d : Dg) (k : Int) (hp : 2 ≤ p) (hp97 : p ≤ 97) (hn1 : 1 ≤ n) (hn8 : n ≤ 8) (hnf : Nf p n ts) (hd : Good d) (hds : d.size = n) (hk1 : -1000000000 ≤ k) (hk2 : k ≤ 1000000000) (hlen : ts.length ≤ 100000)
    (base : Nat) (v : Value) (w : World) (hown : TsS w base v ts) (hbase : base ≤ w.heap.size) :
    Calls Try.prog 77 #[.int .i64 p, v, .agg d.cells, .int .i64 k] w fun e w' => ∃ v', e = .returned v' ∧ TsS w' base v' (put p ts d k) ∧ Below w.heap.size w w' := by
  obtain ⟨g, cap, rfl, hg1, hg2, hc1, hc2, hr⟩ := hown.out
  have hpd := hd.pts
  have Hnf := Lib.hid hnf
  have Hd := Lib.hid hd
  have hk0 := Int.emod_nonneg k (show p ≠ 0 by omega)
  have hkp := Int.emod_lt_of_pos k (show 0 < p by omega)
  have hput0 : k % p = 0 → put p ts d k = ts := fun h => if_pos h
  have hput1 : k % p ≠ 0 → put p ts d k = ins p d (k % p) ts := fun h => if_neg h
  generalize hkr : k % p = r at *
  have Hput0 := Lib.hid hput0
  have Hput1 := Lib.hid hput1
  clear hput0 hput1 hnf hd
  go_enter Try.func77, Try.ntmps77
  have hB := Blk.new w d.cells 47
  have hbel := (Below.refl w.heap.size w).alloc (Nat.le_refl _) (.cells d.cells 47)
  have hownA := hown.alloc (.cells d.cells 47)
  have hrA := rangeAt_below hr hbel hg2
  have hz : (w.alloc (.cells d.cells 47)).heap.size = w.heap.size + 1 := by simp
  by_cases h0 : r = 0
  · subst h0
    go_wp2_with (go_at_call 103; refine (specMod_calls _ _ _ (by omega) (by omega) (by omega) (by omega)).mono ?_; rw [hkr]; rintro e w' ⟨rfl, rfl⟩)
    go_ret
    refine ⟨_, rfl, ?_, hbel⟩
    rw [Hput0.out trivial]; exact hownA
  · have hr0 : (r == 0) = false := beq_eq_false_iff_ne.2 h0
    go_wp2_with (first | (go_at_call 103; refine (specMod_calls _ _ _ (by omega) (by omega) (by omega) (by omega)).mono ?_; rw [hkr]; rintro e w' ⟨rfl, rfl⟩) | (refine load_dg rfl _ rfl _ rfl _ _ hB ?_) | (go_at_call 113; refine (specText_calls _ _ hpd).mono ?_; rintro e w2 ⟨rfl, hb2⟩))
    have hB2 := hB.below hb2 (by omega)
    have hown2 := hownA.below hb2 (Nat.le_refl _)
    have hr2 := rangeAt_below hrA hb2 (by omega)
    have hbel2 := hbel.trans (hb2.mono (by omega))
    have hz2 := hb2.size
    rw [hz] at hz2
    clear hB hownA hrA hbel hb2 hz hown hr
    go_loopw [9, 10] (fun lo hi wr => ∃ l h : Nat, l ≤ h ∧ h ≤ ts.length ∧ lo = .int .i64 l ∧ hi = .int .i64 h ∧ (∀ i (hi : i < ts.length), i < l → tlt ts[i].d d = true) ∧ (∀ i (hi : i < ts.length), h ≤ i → tlt ts[i].d d = false) ∧ Below w2.heap.size w2 wr) (fun lo hi _ => (intOf hi).toNat - (intOf lo).toNat)
    case atStart => exact ⟨0, ts.length, by omega, by omega, rfl, rfl, fun i _ h => absurd h (by omega), fun i h h' => absurd h (by omega), Below.refl _ _⟩
    case round =>
      obtain ⟨l, h, hlh, hh, rfl, rfl, hlow, hhigh, hbw⟩ := hrel
      have hB3 := hB2.below hbw hB2.lt
      have hr3 := rangeAt_below hr2 hbw (by omega)
      by_cases hlt : l < h
      · have Hlow := Lib.hid hlow
        have Hhigh := Lib.hid hhigh
        clear hlow hhigh
        have hmid : (l + h) / 2 < ts.length := by omega
        have hmid2 : (((l : Int) + (h : Int)).tdiv 2) = (((l + h) / 2 : Nat) : Int) := by
          rw [Int.tdiv_eq_ediv_of_nonneg (by omega)]; omega
        generalize hmv : (l + h) / 2 = m at hmid hmid2
        have hm1 : l ≤ m := by omega
        have hm2 : m < h := by omega
        clear hmv
        obtain ⟨hrt, -⟩ := range_term hr3 m ts[m] (List.getElem?_eq_getElem hmid)
        rw [Nat.zero_add] at hrt
        have hgm := (Hnf.out.mem ts[m] (List.getElem_mem hmid)).1
        have hpm := hgm.pts
        go_wp2_with (first | (refine load_dg_mid rfl _ rfl _ _ rfl _ hrt ?_) | (go_at_call 113; refine (specText_calls _ _ hpm).mono ?_; rintro e w4 ⟨rfl, hb4⟩))
        · have hb5 := hbw.trans (hb4.mono hbw.size)
          go_roundw
          case rel =>
            refine ⟨m + 1, h, by omega, hh, by go_num, rfl, low_step Hnf.out hmid (by assumption), Hhigh.out, hb5⟩
          case measure => simp [intOf]; omega
        · have hb5 := hbw.trans (hb4.mono hbw.size)
          go_roundw
          case rel =>
            refine ⟨l, m, by omega, by omega, rfl, by go_num, Hlow.out, high_step Hnf.out hmid (by first | assumption | (unfold tlt Dg.key; simp_all)), hb5⟩
          case measure => simp [intOf]; omega
      · obtain rfl : l = h := by omega
        have hl2 := ins_low (p := p) (d := d) (k := r) ts l hh hlow (fun h => hhigh l h (Nat.le_refl _))
        rw [← Hput1.out h0] at hl2
        have hz3 := hbw.size
        have hown3 := hown2.below hbw (Nat.le_refl _)
        have hbel3 := hbel2.trans (hbw.mono (by omega))
        clear hown2 hr2 hbel2 hB2 hbw hlow hhigh
        generalize hres : put p ts d k = res at *
        have hs0 := TsS.new wr (base := w.heap.size) (b := wr.heap.size) (by omega) rfl
        go_wp2_with (at_builtin; refine append_ts rfl _ _ rfl w.heap.size _ [] rfl hs0 g 0 l cap (ts.take l) rfl (rangeAt_alloc (rangeAt_take hr3 l) _) (by simp; omega) (by simp; omega) (by simp; omega) ?_; intro v5 w5 hv5 hg5)
        rw [List.nil_append] at hv5
        have hB5 := (hB3.alloc (.cells #[] 57)).grown hg5 (fun e => by have h9 : w.heap.size = wr.heap.size := Option.some.inj e; omega)
        have hr5 := rangeAt_grown (rangeAt_alloc hr3 (.cells #[] 57)) hg5 (fun e => by have h9 : g = wr.heap.size := Option.some.inj e; omega)
        have hz5 := hg5.size
        have hbel5 := bel_grown (hbel3.alloc (by omega) (.cells #[] 57)) hg5 hs0.1 (Nat.le_refl _) (by simp; omega)
        have hz6 : w.heap.size + 1 ≤ w5.heap.size := by simp at hz5; omega
        clear hs0 hg5 hB3 hr3 hown3 hbel3 hz5
        by_cases hl : l < ts.length
        · rw [dif_pos hl] at hl2
          have hli : (l : Int) < (ts.length : Int) := by omega
          have hdl : decide ((l : Int) < (ts.length : Int)) = true := by simpa using hl
          obtain ⟨hrt, hrk⟩ := range_term hr5 l ts[l] (List.getElem?_eq_getElem hl)
          rw [Nat.zero_add] at hrt hrk
          have hgl := Hnf.out.mem ts[l] (List.getElem_mem hl)
          have heq := run_eql_dg ts[l].d d hgl.1.wf Hd.out.wf
          refine wp_region_ext (by kernel_rfl) (by kernel_rfl) ?_
          repeat (first | (go_big_quiet_want; refine quiet_load_dg_mid _ rfl _ _ rfl _ hrt (by omega) ?_; simp only [Act.put, List.setIfInBounds_toArray, List.set_cons_succ, List.set_cons_zero]; go_big_quiet_on) | (go_big_quiet_want; refine quiet_load_dg _ rfl _ rfl _ _ hB5 ?_; simp only [Act.put, List.setIfInBounds_toArray, List.set_cons_succ, List.set_cons_zero]; go_big_quiet_on) | go_big_quiet_step (fail))
          refine wpQuiet_nil ?_
          rintro _ ⟨⟨W, hW⟩, rfl⟩
          have hB6 := hB5.below hW hB5.lt
          have hv6 := hv5.below hW (Nat.le_refl _)
          have hr6 := rangeAt_below hr5 hW (by omega)
          have hbel6 := hbel5.trans (hW.mono (by omega))
          have hz7 := hW.size
          have hrk6 := (hW.cell (p := ⟨g, l * 18 + 17, none⟩) (by show g < w5.heap.size; omega)).trans hrk
          clear hB5 hv5 hr5 hbel5 hrk hrt hW
          by_cases hed : ts[l].d = d
          · rw [if_pos hed] at hl2
            have hdd : decide (ts[l].d = d) = true := by simpa using hed
            have hgk := hgl.2.2
            have hm0 := Int.emod_nonneg (ts[l].k + r) (show p ≠ 0 by omega)
            have hm1 := Int.emod_lt_of_pos (ts[l].k + r) (show 0 < p by omega)
            generalize hsv : (ts[l].k + r) % p = sv at *
            by_cases hs0 : sv = 0
            · rw [if_pos hs0] at hl2
              have hs1 : (sv == 0) = true := by simpa using hs0
              go_wp2_with (first | (go_at_call 103; refine (specMod_calls _ _ _ (by omega) (by omega) (by omega) (by omega)).mono ?_; rw [hsv]; rintro e w' ⟨rfl, rfl⟩) | (refine slice_from rfl _ _ rfl g ts.length cap (l + 1) rfl _ rfl (by omega) (by omega) hc1 ?_; intro off8 hoff8) | (at_builtin; refine append_ts rfl _ _ rfl w.heap.size v5 _ rfl hv6 g off8 _ _ (ts.drop (l + 1)) rfl (range_from hr6 hc1 hoff8) (by simp) (by simp; omega) (by omega) ?_; intro v8 w8 hv8 hg8; have hbel8 := bel_grown hbel6 hg8 hv6.1 (Nat.le_refl _) (by omega)))
              go_ret
              refine ⟨_, rfl, ?_, hbel8⟩
              rw [hres, hl2]
              have h9 := hv8.mono (base' := base) hbase
              simpa using h9
            · rw [if_neg hs0] at hl2
              have hs1 : (sv == 0) = false := beq_eq_false_iff_ne.2 hs0
              go_wp2_with (first | (go_at_call 103; refine (specMod_calls _ _ _ (by omega) (by omega) (by omega) (by omega)).mono ?_; rw [hsv]; rintro e w' ⟨rfl, rfl⟩) | (refine load_dg rfl _ rfl _ rfl _ _ hB6 ?_) | (refine build_term rfl _ _ rfl d (sv) rfl rfl ?_) | (refine row_term rfl _ rfl ⟨d, sv⟩ rfl ?_) | (at_builtin; refine append_ts rfl _ _ rfl w.heap.size v5 (ts.take l) rfl (hv6.alloc _) _ 0 1 1 [⟨d, sv⟩] rfl (range_new _ _ _) rfl (by simp; omega) (by simp; omega) ?_; intro v7 w7 hv7 hg7; have hr7 := rangeAt_grown (rangeAt_alloc hr6 _) hg7 (own_ne hv6.1 (by omega)); have hbel7 := bel_grown (hbel6.alloc (by omega) _) hg7 (hv6.alloc _).1 (Nat.le_refl _) (by simp; omega); have hz8 : w.heap.size ≤ w7.heap.size := hbel7.size) | (refine slice_from rfl _ _ rfl g ts.length cap (l + 1) rfl _ rfl (by omega) (by omega) hc1 ?_; intro off8 hoff8) | (at_builtin; refine append_ts rfl _ _ rfl w.heap.size v7 _ rfl hv7 g off8 _ _ (ts.drop (l + 1)) rfl (range_from hr7 hc1 hoff8) (by simp) (by simp; omega) (by omega) ?_; intro v8 w8 hv8 hg8; have hbel8 := bel_grown hbel7 hg8 hv7.1 (Nat.le_refl _) (by omega)))
              go_ret
              refine ⟨_, rfl, ?_, hbel8⟩
              rw [hres, hl2]
              have h9 := hv8.mono (base' := base) hbase
              simpa using h9
          · rw [if_neg hed] at hl2
            have hdd : decide (ts[l].d = d) = false := by simpa using hed
            go_wp2_with (first | (refine load_dg rfl _ rfl _ rfl _ _ hB6 ?_) | (refine build_term rfl _ _ rfl d (r) rfl rfl ?_) | (refine row_term rfl _ rfl ⟨d, r⟩ rfl ?_) | (at_builtin; refine append_ts rfl _ _ rfl w.heap.size v5 (ts.take l) rfl (hv6.alloc _) _ 0 1 1 [⟨d, r⟩] rfl (range_new _ _ _) rfl (by simp; omega) (by simp; omega) ?_; intro v7 w7 hv7 hg7; have hr7 := rangeAt_grown (rangeAt_alloc hr6 _) hg7 (own_ne hv6.1 (by omega)); have hbel7 := bel_grown (hbel6.alloc (by omega) _) hg7 (hv6.alloc _).1 (Nat.le_refl _) (by simp; omega); have hz8 : w.heap.size ≤ w7.heap.size := hbel7.size) | (refine slice_from rfl _ _ rfl g ts.length cap (l) rfl _ rfl (by omega) (by omega) hc1 ?_; intro off8 hoff8) | (at_builtin; refine append_ts rfl _ _ rfl w.heap.size v7 _ rfl hv7 g off8 _ _ (ts.drop (l)) rfl (range_from hr7 hc1 hoff8) (by simp) (by simp; omega) (by omega) ?_; intro v8 w8 hv8 hg8; have hbel8 := bel_grown hbel7 hg8 hv7.1 (Nat.le_refl _) (by omega)))
            go_ret
            refine ⟨_, rfl, ?_, hbel8⟩
            rw [hres, hl2]
            have h9 := hv8.mono (base' := base) hbase
            simpa using h9
        · rw [dif_neg hl] at hl2
          have hdl : decide ((l : Int) < (ts.length : Int)) = false := by simp; omega
          have hll : l = ts.length := by omega
          refine wp_region_ext (by kernel_rfl) (by kernel_rfl) ?_
          repeat (first | go_big_quiet_step (fail))
          refine wpQuiet_nil ?_
          rintro _ ⟨⟨W, hW⟩, rfl⟩
          have hB6 := hB5.below hW hB5.lt
          have hv6 := hv5.below hW (Nat.le_refl _)
          have hr6 := rangeAt_below hr5 hW (by omega)
          have hbel6 := hbel5.trans (hW.mono (by omega))
          have hz7 := hW.size
          clear hB5 hv5 hr5 hbel5 hW
          go_wp2_with (first | (refine load_dg rfl _ rfl _ rfl _ _ hB6 ?_) | (refine build_term rfl _ _ rfl d (r) rfl rfl ?_) | (refine row_term rfl _ rfl ⟨d, r⟩ rfl ?_) | (at_builtin; refine append_ts rfl _ _ rfl w.heap.size v5 (ts.take l) rfl (hv6.alloc _) _ 0 1 1 [⟨d, r⟩] rfl (range_new _ _ _) rfl (by simp; omega) (by simp; omega) ?_; intro v7 w7 hv7 hg7; have hr7 := rangeAt_grown (rangeAt_alloc hr6 _) hg7 (own_ne hv6.1 (by omega)); have hbel7 := bel_grown (hbel6.alloc (by omega) _) hg7 (hv6.alloc _).1 (Nat.le_refl _) (by simp; omega); have hz8 : w.heap.size ≤ w7.heap.size := hbel7.size) | (refine slice_from rfl _ _ rfl g ts.length cap (l) rfl _ rfl (by omega) (by omega) hc1 ?_; intro off8 hoff8) | (at_builtin; refine append_ts rfl _ _ rfl w.heap.size v7 _ rfl hv7 g off8 _ _ (ts.drop (l)) rfl (range_from hr7 hc1 hoff8) (by simp) (by simp; omega) (by omega) ?_; intro v8 w8 hv8 hg8; have hbel8 := bel_grown hbel7 hg8 hv7.1 (Nat.le_refl _) (by omega)))
          go_ret
          refine ⟨_, rfl, ?_, hbel8⟩
          rw [hres, hl2]
          have h9 := hv8.mono (base' := base) hbase
          rw [hll, List.take_length, List.drop_length] at h9
          simpa using h9
end Go.Proofs.Yticmlgnolbccjaa
