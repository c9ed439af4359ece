/- The walk of the reference's l02Is. -/
import Derived.Test.YticmlgnolbccjaaQ7
import Derived.Test.YticmlgnolbccjaaQ8

set_option linter.unusedVariables false
set_option linter.unusedSimpArgs false
namespace Go.Proofs.Yticmlgnolbccjaa
open Go.RowKit

theorem specIsD_calls (d : Dg) (w : World) (hw : d.Wf) (b : Bool) (hb : d.okB = b) :
    Calls Try.prog 70 #[.agg d.cells] w fun e w' => e = .returned (.bool b) ∧ Below w.heap.size w w' := by
  have h := specIs_calls d w hw
  rw [hb] at h
  exact h
theorem specInB_calls (a b c : Int) (w : World) (x : Bool) (hx : inB a b c = x) : Calls Try.prog 54 #[.int .i64 a, .int .i64 b, .int .i64 c] w fun e w' => e = .returned (.bool x) ∧ w = w' := by
  have h := specIn_calls a b c w
  rw [hx] at h; exact h
theorem specPrimeB_calls (p : Int) (w : World) (x : Bool) (hx : primeB p = x) : Calls Try.prog 83 #[.int .i64 p] w fun e w' => e = .returned (.bool x) ∧ w = w' := by
  have h := specPrime_calls p w
  rw [hx] at h; exact h
theorem specLessB_calls (d e : Dg) (w : World) (hp : d.Pts) (hq : e.Pts) (x : Bool) (hx : tlt d e = x) :
    Calls Try.prog 84 #[.agg d.cells, .agg e.cells] w fun r w' => r = .returned (.bool x) ∧ Below w.heap.size w w' := by
  have h := specLess_calls d e w hp hq
  have e1 : Op.bytesLess (strOfNums d.txt).toList (strOfNums e.txt).toList = x := hx
  rw [e1] at h
  exact h
theorem prime_range {p : Int} (h : primeB p = true) : 2 ≤ p ∧ p ≤ 97 := by
  unfold primeB at h
  rw [Bool.and_eq_true, decide_eq_true_eq] at h
  exact h.1

set_option maxHeartbeats 8000000 in
set_option maxRecDepth 100000 in
theorem specIsEl_calls (p c n : Int) (ts : List Tm) (g cap : Nat) (w : World) (hg : g < w.heap.size) (hcc : ts.length ≤ cap) (hmc : cap ≤ 9223372036854775807) (hr : w.rangeAt g 0 (tc ts)) (hw : ∀ t ∈ ts, t.Wf) (hlen : ts.length ≤ 1048576) :
    Calls Try.prog 37 #[.agg #[.int .i64 p, .int .i64 c, .int .i64 n, .slice (some ⟨g, 0, none⟩) ts.length cap]] w fun e w' => e = .returned (.bool (eokB p c n ts)) ∧ Below w.heap.size w w' := by
  have Hw := Lib.hid hw
  clear hw
  have hX := Blk.new w #[.int .i64 p, .int .i64 c, .int .i64 n, .slice (some ⟨g, 0, none⟩) ts.length cap] 30
  have hbl := (Below.refl w.heap.size w).alloc (Nat.le_refl _) (.cells #[.int .i64 p, .int .i64 c, .int .i64 n, .slice (some ⟨g, 0, none⟩) ts.length cap] 30)
  cases hf : primeB p with
  | false =>
    have he : eokB p c n ts = false := eok_head (by unfold fieldB; rw [hf]; rfl)
    rw [he]
    clear he
    go_enter Try.func37, Try.ntmps37
    go_wp2_with (go_at_call 83; refine (specPrimeB_calls _ _ _ hf).mono ?_; rintro e w' ⟨rfl, rfl⟩)
    go_ret
    exact ⟨rfl, hbl⟩
  | true =>
    have hpr := prime_range hf
    cases hc : inB c 0 (p - 1) with
    | false =>
      have he : eokB p c n ts = false := eok_head (by unfold fieldB; rw [hf, hc]; rfl)
      rw [he]
      clear he
      go_enter Try.func37, Try.ntmps37
      go_wp2_with (first | (go_at_call 83; refine (specPrimeB_calls _ _ _ hf).mono ?_; rintro e w' ⟨rfl, rfl⟩) | (go_at_call 54; refine (specInB_calls _ _ _ _ _ hc).mono ?_; rintro e w' ⟨rfl, rfl⟩))
      go_ret
      exact ⟨rfl, hbl⟩
    | true =>
      cases hi : inB n 1 8 with
      | false =>
        have he : eokB p c n ts = false := eok_head (by unfold fieldB; rw [hf, hc, hi]; rfl)
        rw [he]
        clear he
        go_enter Try.func37, Try.ntmps37
        go_wp2_with (go_at_call 83; refine (specPrimeB_calls _ _ _ hf).mono ?_; rintro e w' ⟨rfl, rfl⟩)
        refine (specInB_calls _ _ _ _ _ hc).mono ?_
        rintro e w' ⟨rfl, rfl⟩
        go_wp2_with (go_at_call 54; refine (specInB_calls _ _ _ _ _ hi).mono ?_; rintro e w' ⟨rfl, rfl⟩)
        go_ret
        exact ⟨rfl, hbl⟩
      | true =>
        by_cases hl : ts.length ≤ 140
        · have Hf := Lib.hid hf
          have Hc := Lib.hid hc
          have Hi := Lib.hid hi
          have hin := inB_iff.1 hi
          clear hf hi hc
          go_enter Try.func37, Try.ntmps37
          go_wp2_with (go_at_call 83; refine (specPrimeB_calls _ _ _ Hf.out).mono ?_; rintro e w' ⟨rfl, rfl⟩)
          refine (specInB_calls _ _ _ _ _ Hc.out).mono ?_
          rintro e w' ⟨rfl, rfl⟩
          go_wp2_with (go_at_call 54; refine (specInB_calls _ _ _ _ _ Hi.out).mono ?_; rintro e w' ⟨rfl, rfl⟩)
          have hr2 := rangeAt_below hr hbl hg
          have hz2 := hX.lt
          generalize w.alloc (.cells #[.int .i64 p, .int .i64 c, .int .i64 n, .slice (some ⟨g, 0, none⟩) ts.length cap] 30) = w2 at *
          go_loopw [3] (fun i wr => ∃ j : Nat, j ≤ ts.length ∧ i = .int .i64 j ∧ (∀ k, k < j → tok p n ts k = true) ∧ Below w2.heap.size w2 wr) (fun i _ => ts.length - (intOf i).toNat)
          case atStart => exact ⟨0, by omega, rfl, fun k hk => absurd hk (by omega), Below.refl _ _⟩
          case round =>
            obtain ⟨j, hj, rfl, hall, hb⟩ := hrel
            have hbl3 := hbl.trans (hb.mono (by omega))
            have hX3 := hX.below hb hz2
            have hcX3 := hX3.cells
            have hz3 := hb.size
            have hr3 := rangeAt_below hr2 hb (by omega)
            by_cases hlt : j < ts.length
            · have hwt := Hw.out ts[j] (List.getElem_mem hlt)
              obtain ⟨hra, hka⟩ := range_term hr3 j ts[j] (List.getElem?_eq_getElem hlt)
              rw [Nat.zero_add] at hra hka
              have hXa := hX3.alloc (.cells (Dg.zero 0).cells 47)
              have hba := (Below.refl wr.heap.size wr).alloc (Nat.le_refl _) (.cells (Dg.zero 0).cells 47)
              have hbad := fun hb => eok_false (p := p) (c := c) (n := n) j hlt (tok_bad hlt hb)
              have Hall := Lib.hid hall
              have Hbad := Lib.hid hbad
              clear hall hbad hX hbl hr2
              have hgt : ts[j]? = some ts[j] := List.getElem?_eq_getElem hlt
              have Hgt := Lib.hid hgt
              clear hgt
              generalize ts[j] = t at *
              go_wp2_with (first | (refine load_dg_mid rfl _ rfl _ _ rfl t.d hra ?_) | (refine store_dg rfl _ _ rfl _ rfl t.d rfl _ 47 (Blk.newAt _ _ _ rfl) rfl ?_; intro w3 h4 ho3))
              simp only [Act.put, List.setIfInBounds_toArray, List.set_cons_succ, List.set_cons_zero]
              have hX4 := hXa.only ho3 (by omega)
              have hb3 := hba.trans (ho3.below (Nat.le_refl _))
              have hz4 := h4.lt
              have hr4 := rangeAt_below hr3 hb3 (by omega)
              have hka4 := (hb3.cell (p := ⟨g, j * 18 + 17, none⟩) (by show g < wr.heap.size; omega)).trans hka
              have hcX4 := ext_cells hX4
              have hcd4 := ext_cells h4
              have hcd0 := t.d.cells0
              have hkk : ∀ q : ExtOf w3, q.W.cell? ⟨g, j * 18 + 17, none⟩ = some (.int .i64 t.k) := fun q => (Below.cell (show Below w3.heap.size w3 q.W from q.h) (p := ⟨g, j * 18 + 17, none⟩) (by show g < w3.heap.size; omega)).trans hka4
              clear hXa hba hX3 hcX3 hra hka hka4 ho3
              have HIs := Lib.hid (fun W => specIsD_calls t.d W hwt.d _ rfl)
              have HIn := Lib.hid (fun W => specInB_calls t.k 1 (p - 1) W _ rfl)
              cases hok : t.d.okB with
              | false =>
                rw [hok] at HIs
                have Hok := Lib.hid hok
                clear hok
                refine wp_region_ext (by kernel_rfl) (by kernel_rfl) ?_
                repeat (first | (go_big_quiet_want; refine quiet_load_dg _ rfl _ rfl _ _ h4 ?_; simp only [Act.put, List.setIfInBounds_toArray, List.set_cons_succ, List.set_cons_zero]; go_big_quiet_on) | go_big_quiet_step ((first | (go_at_call 70; exact ext_call _ (HIs.out _)) | (go_at_call 54; exact ext_same _ (HIn.out _)) | (go_at_call 84; exact ext_call _ (HLs.out _)))))
                refine wpQuiet_nil ?_
                rintro _ ⟨⟨W, hW⟩, rfl⟩
                go_wp2_with fail
                go_ret
                exact ⟨ret_bool (Hbad.out (fun h => by rw [Hok.out] at h; cases h.1)).symm, hbl3.trans ((hb3.trans (hW.mono (by omega))).mono (by omega))⟩
              | true =>
                rw [hok] at HIs
                have Hok := Lib.hid hok
                clear hok
                by_cases hs : t.d.size = n
                · have hsb : (t.d.size == n) = true := by simpa using hs
                  have hsn : (t.d.size != n) = false := by simpa using hs
                  have Hs := Lib.hid hs
                  clear hs
                  cases hk : inB t.k 1 (p - 1) with
                  | false =>
                    rw [hk] at HIn
                    have Hk := Lib.hid hk
                    clear hk
                    refine wp_region_ext (by kernel_rfl) (by kernel_rfl) ?_
                    repeat (first | (go_big_quiet_want; refine quiet_load_dg _ rfl _ rfl _ _ h4 ?_; simp only [Act.put, List.setIfInBounds_toArray, List.set_cons_succ, List.set_cons_zero]; go_big_quiet_on) | go_big_quiet_step ((first | (go_at_call 70; exact ext_call _ (HIs.out _)) | (go_at_call 54; exact ext_same _ (HIn.out _)) | (go_at_call 84; exact ext_call _ (HLs.out _)))))
                    refine wpQuiet_nil ?_
                    rintro _ ⟨⟨W, hW⟩, rfl⟩
                    go_wp2_with fail
                    go_ret
                    exact ⟨ret_bool (Hbad.out (fun h => by rw [Hk.out] at h; cases h.2.2)).symm, hbl3.trans ((hb3.trans (hW.mono (by omega))).mono (by omega))⟩
                  | true =>
                    rw [hk] at HIn
                    have Hk := Lib.hid hk
                    clear hk
                    by_cases h0 : j = 0
                    · have hj0 : decide ((0 : Int) < (j : Int)) = false := by simp; omega
                      have hj1 : decide (0 < j) = false := by simp; omega
                      have htk : tok p n ts j = true := by
                        subst h0
                        rw [tok_zero hlt]
                        have := Hgt.out
                        rw [List.getElem?_eq_getElem hlt] at this
                        rw [Option.some.inj this, Hok.out, Hk.out, decide_eq_true Hs.out]; rfl
                      have Htk := Lib.hid htk
                      clear htk h0
                      refine wp_region_ext (by kernel_rfl) (by kernel_rfl) ?_
                      repeat (first | (go_big_quiet_want; refine quiet_load_dg _ rfl _ rfl _ _ h4 ?_; simp only [Act.put, List.setIfInBounds_toArray, List.set_cons_succ, List.set_cons_zero]; go_big_quiet_on) | go_big_quiet_step ((first | (go_at_call 70; exact ext_call _ (HIs.out _)) | (go_at_call 54; exact ext_same _ (HIn.out _)) | (go_at_call 84; exact ext_call _ (HLs.out _)))))
                      refine wpQuiet_nil ?_
                      rintro _ ⟨⟨W, hW⟩, rfl⟩
                      go_wp2_with fail
                      go_roundw
                      case rel => exact ⟨j + 1, by omega, by go_num, fun k hk => (Nat.lt_succ_iff_lt_or_eq.1 hk).elim (Hall.out k) (fun e => e ▸ Htk.out), (hb.trans (hb3.mono (by omega))).trans (hW.mono (by omega))⟩
                      case measure => simp [intOf]; omega
                    · obtain ⟨k, hkj⟩ : ∃ k, j = k + 1 := ⟨j - 1, by omega⟩
                      have hkl : k < ts.length := by omega
                      have htok := tok_ok hkl (Hall.out k (by omega))
                      have hgk : Good ts[k].d := ⟨(Hw.out ts[k] (List.getElem_mem hkl)).d, Dg.okB_iff.1 htok.1⟩
                      have hgj : Good t.d := ⟨hwt.d, Dg.okB_iff.1 Hok.out⟩
                      have hrk := (range_term hr4 k ts[k] (List.getElem?_eq_getElem hkl)).1
                      rw [Nat.zero_add] at hrk
                      have HLs := Lib.hid (fun W => specLessB_calls ts[k].d t.d W hgk.pts hgj.pts _ rfl)
                      have htk : tok p n ts j = tlt ts[k].d t.d := by
                        have := Hgt.out
                        subst hkj
                        rw [tok_succ hlt]
                        rw [List.getElem?_eq_getElem hlt] at this
                        rw [Option.some.inj this, Hok.out, Hk.out, decide_eq_true Hs.out]; rfl
                      have Htk := Lib.hid htk
                      clear htk htok hgk hgj
                      subst hkj
                      have hj0 : decide ((0 : Int) < ((k + 1 : Nat) : Int)) = true := by simp
                      have hw0 : IntKind.i64.wrap (((k + 1 : Nat) : Int) - 1) = (k : Int) := by rw [show ((k + 1 : Nat) : Int) - 1 = (k : Int) from by omega]; exact IntWalk.i64_in _ (by omega)
                      cases htl : tlt ts[k].d t.d with
                      | true =>
                        rw [htl] at HLs
                        have H1 := Lib.hid (Htk.out.trans htl)
                        clear htl
                        refine wp_region_ext (by kernel_rfl) (by kernel_rfl) ?_
                        repeat (first | (go_big_quiet_want; refine quiet_load_dg _ rfl _ rfl _ _ h4 ?_; simp only [Act.put, List.setIfInBounds_toArray, List.set_cons_succ, List.set_cons_zero]; go_big_quiet_on) | (go_big_quiet_want; refine quiet_load_dg_mid _ rfl _ _ rfl _ hrk (by omega) ?_; simp only [Act.put, List.setIfInBounds_toArray, List.set_cons_succ, List.set_cons_zero]; go_big_quiet_on) | go_big_quiet_step ((first | (go_at_call 70; exact ext_call _ (HIs.out _)) | (go_at_call 54; exact ext_same _ (HIn.out _)) | (go_at_call 84; exact ext_call _ (HLs.out _)))))
                        refine wpQuiet_nil ?_
                        rintro _ ⟨⟨W, hW⟩, rfl⟩
                        go_wp2_with fail
                        go_roundw
                        case rel => exact ⟨k + 1 + 1, by omega, by go_num, fun l hk => (Nat.lt_succ_iff_lt_or_eq.1 hk).elim (Hall.out l) (fun e => e ▸ H1.out), (hb.trans (hb3.mono (by omega))).trans (hW.mono (by omega))⟩
                        case measure => simp [intOf]; omega
                      | false =>
                        rw [htl] at HLs
                        have H1 := Lib.hid (Htk.out.trans htl)
                        clear htl
                        refine wp_region_ext (by kernel_rfl) (by kernel_rfl) ?_
                        repeat (first | (go_big_quiet_want; refine quiet_load_dg _ rfl _ rfl _ _ h4 ?_; simp only [Act.put, List.setIfInBounds_toArray, List.set_cons_succ, List.set_cons_zero]; go_big_quiet_on) | (go_big_quiet_want; refine quiet_load_dg_mid _ rfl _ _ rfl _ hrk (by omega) ?_; simp only [Act.put, List.setIfInBounds_toArray, List.set_cons_succ, List.set_cons_zero]; go_big_quiet_on) | go_big_quiet_step ((first | (go_at_call 70; exact ext_call _ (HIs.out _)) | (go_at_call 54; exact ext_same _ (HIn.out _)) | (go_at_call 84; exact ext_call _ (HLs.out _)))))
                        refine wpQuiet_nil ?_
                        rintro _ ⟨⟨W, hW⟩, rfl⟩
                        go_wp2_with fail
                        go_ret
                        exact ⟨ret_bool (eok_false (k + 1) hlt H1.out).symm, hbl3.trans ((hb3.trans (hW.mono (by omega))).mono (by omega))⟩
                · have hsb : (t.d.size == n) = false := by simpa using hs
                  have hsn : (t.d.size != n) = true := by simpa using hs
                  have Hs := Lib.hid hs
                  clear hs
                  refine wp_region_ext (by kernel_rfl) (by kernel_rfl) ?_
                  repeat (first | (go_big_quiet_want; refine quiet_load_dg _ rfl _ rfl _ _ h4 ?_; simp only [Act.put, List.setIfInBounds_toArray, List.set_cons_succ, List.set_cons_zero]; go_big_quiet_on) | go_big_quiet_step ((first | (go_at_call 70; exact ext_call _ (HIs.out _)) | (go_at_call 54; exact ext_same _ (HIn.out _)) | (go_at_call 84; exact ext_call _ (HLs.out _)))))
                  refine wpQuiet_nil ?_
                  rintro _ ⟨⟨W, hW⟩, rfl⟩
                  go_wp2_with fail
                  go_ret
                  exact ⟨ret_bool (Hbad.out (fun h => Hs.out h.2.1)).symm, hbl3.trans ((hb3.trans (hW.mono (by omega))).mono (by omega))⟩
            · obtain rfl : j = ts.length := by omega
              go_wp2_with fail
              go_ret
              exact ⟨ret_bool (eok_true (by unfold fieldB; rw [Hf.out, Hc.out]; rfl) Hi.out hl hall).symm, hbl3⟩
        · have he : eokB p c n ts = false := eok_head (by unfold fieldB; rw [hf, hc, hi, decide_eq_false hl]; rfl)
          rw [he]
          clear he
          go_enter Try.func37, Try.ntmps37
          go_wp2_with (go_at_call 83; refine (specPrimeB_calls _ _ _ hf).mono ?_; rintro e w' ⟨rfl, rfl⟩)
          refine (specInB_calls _ _ _ _ _ hc).mono ?_
          rintro e w' ⟨rfl, rfl⟩
          go_wp2_with (go_at_call 54; refine (specInB_calls _ _ _ _ _ hi).mono ?_; rintro e w' ⟨rfl, rfl⟩)
          go_ret
          exact ⟨rfl, hbl⟩
end Go.Proofs.Yticmlgnolbccjaa
