/- The walk of PowerElement: the reference. -/
import Derived.Test.YticmlgnolbccjaaQ17

set_option linter.unusedVariables false
set_option linter.unusedSimpArgs false
namespace Go.Proofs.Yticmlgnolbccjaa
open Go.RowKit

set_option maxHeartbeats 8000000 in
set_option maxRecDepth 100000 in
theorem specPow_bad (x : El) (k : Int) (vx : Value) (w : World) (hx : x.Wf) (hvx : TsS w 0 vx x.ts) (h0 : x.ok = false) :
    Calls Try.prog 21 #[x.val vx, .int .i64 k] w fun e w' => ElRes w.heap.size w w' (El.zero, 1) e := by
  have HB := Lib.hid (fun W h => specIsElS_calls x vx W hx h false h0)
  unfold El.val El.cells
  have hX := (Blk.new w #[.int .i64 x.p, .int .i64 x.c, .int .i64 x.n, vx] 30).alloc (.cells #[.int .i64 0, .int .i64 0, .int .i64 0, .slice none 0 0] 30)
  have hR := Blk.newAt (w.alloc (.cells #[.int .i64 x.p, .int .i64 x.c, .int .i64 x.n, vx] 30)) #[.int .i64 0, .int .i64 0, .int .i64 0, .slice none 0 0] 30 (b := w.heap.size + 1) (by simp)
  have hbl := ((Below.refl w.heap.size w).alloc (Nat.le_refl _) (.cells #[.int .i64 x.p, .int .i64 x.c, .int .i64 x.n, vx] 30)).alloc (by simp) (.cells #[.int .i64 0, .int .i64 0, .int .i64 0, .slice none 0 0] 30)
  have hvx2 := hvx.below hbl (Nat.le_refl _)
  have hz2 := hR.lt
  have hbz := run_build_zero
  clear hvx
  go_enter Try.func21, Try.ntmps21
  go_wp2_with (refine load_el rfl _ rfl _ rfl _ rfl _ hX ?_)
  generalize (w.alloc (.cells #[.int .i64 x.p, .int .i64 x.c, .int .i64 x.n, vx] 30)).alloc (.cells #[.int .i64 0, .int .i64 0, .int .i64 0, .slice none 0 0] 30) = w2 at *
  refine (HB.out _ hvx2).mono ?_
  rintro e w3 ⟨rfl, hb3⟩
  have hX3 := hX.below hb3 hX.lt
  have hR3 := hR.below hb3 hR.lt
  have hvx3 := hvx2.below hb3 (Nat.le_refl _)
  have hbl3 := hbl.trans (hb3.mono (by omega))
  have hz3 := hb3.size
  clear hX hR hvx2 hbl hb3 HB
  go_wp2_with (refine store_el rfl _ _ rfl _ rfl _ rfl rfl (el_all rfl) _ _ hR3 rfl ?_; intro w9 hR9 ho9)
  refine ret_el_tmp rfl _ rfl _ rfl _ hR9 _ rfl rfl ?_
  exact ⟨_, rfl, TsOwn.nil _ _, hbl3.trans (ho9.below (by omega))⟩

set_option maxHeartbeats 8000000 in
set_option maxRecDepth 100000 in
theorem specPow_far (x : El) (k : Int) (vx : Value) (w : World) (hx : x.Wf) (hvx : TsS w 0 vx x.ts) (h0 : x.ok = true) (hk : inB k 0 20 = false) :
    Calls Try.prog 21 #[x.val vx, .int .i64 k] w fun e w' => ElRes w.heap.size w w' (El.zero, 2) e := by
  have HB := Lib.hid (fun W h => specIsElS_calls x vx W hx h true h0)
  have HI := Lib.hid (fun W => specIn_calls k 0 20 W)
  rw [hk] at HI
  unfold El.val El.cells
  have hX := (Blk.new w #[.int .i64 x.p, .int .i64 x.c, .int .i64 x.n, vx] 30).alloc (.cells #[.int .i64 0, .int .i64 0, .int .i64 0, .slice none 0 0] 30)
  have hR := Blk.newAt (w.alloc (.cells #[.int .i64 x.p, .int .i64 x.c, .int .i64 x.n, vx] 30)) #[.int .i64 0, .int .i64 0, .int .i64 0, .slice none 0 0] 30 (b := w.heap.size + 1) (by simp)
  have hbl := ((Below.refl w.heap.size w).alloc (Nat.le_refl _) (.cells #[.int .i64 x.p, .int .i64 x.c, .int .i64 x.n, vx] 30)).alloc (by simp) (.cells #[.int .i64 0, .int .i64 0, .int .i64 0, .slice none 0 0] 30)
  have hvx2 := hvx.below hbl (Nat.le_refl _)
  have hz2 := hR.lt
  have hbz := run_build_zero
  clear hvx
  go_enter Try.func21, Try.ntmps21
  go_wp2_with (refine load_el rfl _ rfl _ rfl _ rfl _ hX ?_)
  generalize (w.alloc (.cells #[.int .i64 x.p, .int .i64 x.c, .int .i64 x.n, vx] 30)).alloc (.cells #[.int .i64 0, .int .i64 0, .int .i64 0, .slice none 0 0] 30) = w2 at *
  refine (HB.out _ hvx2).mono ?_
  rintro e w3 ⟨rfl, hb3⟩
  have hX3 := hX.below hb3 hX.lt
  have hR3 := hR.below hb3 hR.lt
  have hvx3 := hvx2.below hb3 (Nat.le_refl _)
  have hbl3 := hbl.trans (hb3.mono (by omega))
  have hz3 := hb3.size
  clear hX hR hvx2 hbl hb3 HB
  go_wp2_with fail
  refine (HI.out _).mono ?_
  rintro e w' ⟨rfl, rfl⟩
  go_wp2_with (refine store_el rfl _ _ rfl _ rfl _ rfl rfl (el_all rfl) _ _ hR3 rfl ?_; intro w9 hR9 ho9)
  refine ret_el_tmp rfl _ rfl _ rfl _ hR9 _ rfl rfl ?_
  exact ⟨_, rfl, TsOwn.nil _ _, hbl3.trans (ho9.below (by omega))⟩

set_option maxHeartbeats 8000000 in
set_option maxRecDepth 100000 in
theorem specPow_good (P C : Int) (N : Nat) (ts : List Tm) (k : Int) (vx : Value) (w : World) (hp : 2 ≤ P) (hp97 : P ≤ 97) (hc0 : 0 ≤ C) (hcp : C ≤ P) (hn1 : 1 ≤ N) (hn8 : N ≤ 8) (hnx : Nf P N ts) (hl1 : ts.length ≤ 140) (hk : 0 ≤ k ∧ k ≤ 20)
    (hB : ∀ W, TsS W 0 vx ts → Calls Try.prog 37 #[.agg #[.int .i64 P, .int .i64 C, .int .i64 N, vx]] W fun e w' => e = .returned (.bool true) ∧ Below W.heap.size W w') (hvx : TsS w 0 vx ts) :
    Calls Try.prog 21 #[.agg #[.int .i64 P, .int .i64 C, .int .i64 N, vx], .int .i64 k] w fun e w' => ElRes w.heap.size w w' (powGo ⟨P, C, N, ts⟩ (oneT N) k.toNat) e := by
  obtain ⟨K, rfl⟩ : ∃ K : Nat, k = (K : Int) := ⟨k.toNat, by omega⟩
  rw [Int.toNat_natCast]
  have HB := Lib.hid hB
  clear hB
  have hkin : inB K 0 20 = true := by unfold inB; simp; omega
  have HI := Lib.hid (fun W => specIn_calls K 0 20 W)
  rw [hkin] at HI
  clear hkin
  have hx1c := hvx.oneCell
  have HO := Lib.hid (fun W => specOneEl_calls P C N vx W hx1c hn1 hn8)
  unfold el at HO
  have Hnx := Lib.hid hnx
  have HnO := Lib.hid (oneT_nf (p := P) hp hn1 hn8)
  have HM := Lib.hid (fun L v W hL h1 h2 h3 => specMulT_calls P C N L ts hp hp97 hc0 hcp hn1 hn8 hL hnx h1 (by omega) v vx W h2 h3)
  unfold el at HM
  clear hnx
  have Hvx := Lib.hid hvx
  have hX := (Blk.new w #[.int .i64 P, .int .i64 C, .int .i64 N, vx] 30).alloc (.cells #[.int .i64 0, .int .i64 0, .int .i64 0, .slice none 0 0] 30)
  have hR := Blk.newAt (w.alloc (.cells #[.int .i64 P, .int .i64 C, .int .i64 N, vx] 30)) #[.int .i64 0, .int .i64 0, .int .i64 0, .slice none 0 0] 30 (b := w.heap.size + 1) (by simp)
  have hbl := ((Below.refl w.heap.size w).alloc (Nat.le_refl _) (.cells #[.int .i64 P, .int .i64 C, .int .i64 N, vx] 30)).alloc (by simp) (.cells #[.int .i64 0, .int .i64 0, .int .i64 0, .slice none 0 0] 30)
  have hvx2 := hvx.below hbl (Nat.le_refl _)
  have hz2 := hR.lt
  have hbz := run_build_zero
  clear hvx
  go_enter Try.func21, Try.ntmps21
  go_wp2_with (refine load_el rfl _ rfl _ rfl _ rfl _ hX ?_)
  generalize (w.alloc (.cells #[.int .i64 P, .int .i64 C, .int .i64 N, vx] 30)).alloc (.cells #[.int .i64 0, .int .i64 0, .int .i64 0, .slice none 0 0] 30) = w2 at *
  refine (HB.out _ hvx2).mono ?_
  rintro e w3 ⟨rfl, hb3⟩
  have hX3 := hX.below hb3 hX.lt
  have hR3 := hR.below hb3 hR.lt
  have hvx3 := hvx2.below hb3 (Nat.le_refl _)
  have hbl3 := hbl.trans (hb3.mono (by omega))
  have hz3 := hb3.size
  clear hX hR hvx2 hbl hb3 HB
  go_wp2_with fail
  refine (HI.out _).mono ?_
  rintro e w' ⟨rfl, rfl⟩
  clear HI
  go_wp2_with (refine load_el rfl _ rfl _ rfl _ rfl _ hX3 ?_)
  refine (HO.out _).mono ?_
  rintro e w4 ⟨v4, rfl, hv4, hb4⟩
  have n4 := hv4.2
  have hv4' := hv4.1
  have h4c := hv4'.oneCell
  have hX4 := (hX3.below hb4 hX3.lt).alloc (.cells #[.int .i64 0, .int .i64 0, .int .i64 0, .slice none 0 0] 30)
  have hR4 := (hR3.below hb4 hR3.lt).alloc (.cells #[.int .i64 0, .int .i64 0, .int .i64 0, .slice none 0 0] 30)
  have hz4 := hb4.size
  have hvx4 := (hvx3.below hb4 (Nat.le_refl _)).alloc (.cells #[.int .i64 0, .int .i64 0, .int .i64 0, .slice none 0 0] 30)
  have hbl4 := (hbl3.trans (hb4.mono (by omega))).alloc (by omega) (.cells #[.int .i64 0, .int .i64 0, .int .i64 0, .slice none 0 0] 30)
  have hv5 := hv4'.alloc' (.cells #[.int .i64 0, .int .i64 0, .int .i64 0, .slice none 0 0] 30)
  clear hX3 hR3 hvx3 hbl3 hb4 hv4 HO
  go_wp2_with (refine store_el rfl _ _ rfl _ rfl _ rfl rfl (el_all h4c) _ _ (Blk.newAt _ _ _ rfl) rfl ?_; intro w5 h5 ho5)
  have hO5 : Has w5 w.heap.size w4.heap.size ⟨P, C, N, oneT N⟩ v4 (oneT N) := ⟨h5, (hv5.only ho5 (fun e => by have := (hv5.lt _ e.symm).2; have := (hv4'.lt _ e.symm).2; omega)).mono (by omega)⟩
  have hX5 := hX4.only ho5 (by omega)
  have hR5 := hR4.only ho5 (by omega)
  have hbl5 := hbl4.trans (ho5.below (by omega))
  have hz5 : w4.heap.size < w5.heap.size := h5.lt
  clear hX4 hR4 hvx4 hbl4 hv5 h5 ho5 h4c hv4'
  generalize w4.heap.size = b6 at *
  try simp only [Act.put]
  go_loopw [1] (fun kv wr => ∃ (r : Nat) (v : Value) (L : List Tm), kv = .int .i64 r ∧ r ≤ 20 ∧ Has wr w.heap.size b6 ⟨P, C, N, L⟩ v L ∧ v ≠ .slice none 0 0 ∧ Nf P N L ∧ L.length ≤ 140 ∧ powGo ⟨P, C, N, ts⟩ L r = powGo ⟨P, C, N, ts⟩ (oneT N) K ∧ But w5 wr [b6]) (fun kv _ => (intOf kv).toNat)
  case atStart => exact ⟨K, v4, oneT N, rfl, by omega, hO5, n4, HnO.out, by simp [oneT], rfl, But.refl _ _⟩
  case round =>
    clear hO5
    obtain ⟨r, v, L, rfl, hr20, O, hnn, hL, hLl, hpw, hbut⟩ := hrel
    have hz7 := hbut.size
    have hX7 := hX5.but hbut (by simp; omega)
    have hR7 := hR5.but hbut (by simp; omega)
    have hbl7 := hbl5.trans (hbut.below (B := w.heap.size) (by omega) (by simp; omega))
    have hvx7 := Hvx.out.below hbl7 (Nat.le_refl _)
    have h1c := O.own.oneCell
    have Hpw := Lib.hid hpw
    clear hpw
    cases r with
    | zero =>
      skip
      go_wp2_with (first | (refine load_el rfl _ rfl _ rfl _ rfl _ O.blk ?_) | (refine store_el rfl _ _ rfl _ rfl _ rfl rfl (el_all h1c) _ _ hR7 rfl ?_; intro w9 hR9 ho9))
      refine ret_el_tmp rfl _ rfl _ rfl _ hR9 _ rfl rfl ?_
      rw [← Hpw.out]
      exact ⟨v, rfl, (O.own.only ho9 (fun e => by have := O.own.ne_blk hR7 (by decide); exact this e)).mono (Nat.le_refl _), hbl7.trans (ho9.below (by omega))⟩
    | succ r =>
      have HMn := Lib.hid (mulT_nf (c := C) hp hL Hnx.out)
      skip
      go_wp2_with (first | (refine load_el rfl _ rfl _ rfl _ rfl _ O.blk ?_) | (refine load_el rfl _ rfl _ rfl _ rfl _ hX7 ?_))
      refine (HM.out L v wr hL (by omega) ⟨O.own.mono (Nat.zero_le _), hnn⟩ hvx7).mono ?_
      rintro e w6 ⟨v6, rfl, hv6, hb6⟩
      have n6 := hv6.2
      have hv6o := hv6.1
      obtain ⟨ad6, cap6, rfl, -, -⟩ := hv6o.slice
      have c6 : (Value.slice ad6 (mulT P C N L ts).length cap6).oneCell' = true := rfl
      have O6 := O.blk.below hb6 O.blk.lt
      have hbut6 := hbut.ext hb6
      have hR6 := hR7.below hb6 hR7.lt
      have hbl6 := hbl7.trans (hb6.mono (by omega))
      have hz6 := hb6.size
      have hne6 := hv6o.ne_blk O6 (by decide)
      clear hX7 hR7 hvx7 hbl7 O hb6 hbut hv6
      by_cases hlm : (mulT P C N L ts).length ≤ 140
      · have hpw2 : powGo ⟨P, C, N, ts⟩ L (r + 1) = powGo ⟨P, C, N, ts⟩ (mulT P C N L ts) r := by
          show (if (mulT P C (N : Int).toNat L ts).length ≤ 140 then powGo ⟨P, C, N, ts⟩ (mulT P C (N : Int).toNat L ts) r else (El.zero, 3)) = _
          rw [Int.toNat_natCast, if_pos hlm]
        have Hpw2 := Lib.hid (hpw2.symm.trans Hpw.out)
        clear hpw2 Hpw
        generalize mulT P C N L ts = M at *
        go_wp2_with (refine store_el rfl _ _ rfl _ rfl _ rfl rfl (el_all c6) _ _ O6 rfl ?_; intro w7 h7 ho7; have hl7 := h7.cells; have O7 : Has w7 w.heap.size b6 ⟨P, C, N, M⟩ (.slice ad6 M.length cap6) M := ⟨h7, (hv6o.only ho7 hne6).mono (by omega)⟩; have hbut7 := hbut6.only ho7 (.inl (by simp)))
        go_roundw
        case rel => exact ⟨r, _, M, by go_num, by omega, O7, n6, HMn.out, hlm, Hpw2.out, hbut7⟩
        case measure => simp [intOf] <;> omega
      · have hpw2 : powGo ⟨P, C, N, ts⟩ L (r + 1) = (El.zero, 3) := by
          show (if (mulT P C (N : Int).toNat L ts).length ≤ 140 then powGo ⟨P, C, N, ts⟩ (mulT P C (N : Int).toNat L ts) r else (El.zero, 3)) = _
          rw [Int.toNat_natCast, if_neg hlm]
        have Hpw2 := Lib.hid (hpw2.symm.trans Hpw.out)
        clear hpw2 Hpw
        generalize mulT P C N L ts = M at *
        go_wp2_with (first | (refine store_el rfl _ _ rfl _ rfl _ rfl rfl (el_all c6) _ _ O6 rfl ?_; intro w7 h7 ho7; have hl7 := h7.cells; have hR8 := hR6.only ho7 (by omega); have hbl8 := hbl6.trans (ho7.below (by omega))) | (refine store_el rfl _ _ rfl _ rfl _ rfl rfl (el_all rfl) _ _ hR8 rfl ?_; intro w9 hR9 ho9))
        refine ret_el_tmp rfl _ rfl _ rfl _ hR9 _ rfl rfl ?_
        rw [← Hpw2.out]
        exact ⟨_, rfl, TsOwn.nil _ _, hbl8.trans (ho9.below (by omega))⟩
end Go.Proofs.Yticmlgnolbccjaa

/- The walk of PowerElement: the program. -/
set_option linter.unusedVariables false
set_option linter.unusedSimpArgs false
namespace Go.Proofs.Yticmlgnolbccjaa
open Go.RowKit

set_option maxHeartbeats 8000000 in
set_option maxRecDepth 100000 in
theorem implPow_bad (x : El) (k : Int) (vx : Value) (w : World) (hx : x.Wf) (hvx : TsS w 0 vx x.ts) (h0 : x.ok = false) :
    Calls Try.prog 22 #[x.val vx, .int .i64 k] w fun e w' => ElRes w.heap.size w w' (El.zero, 1) e := by
  have HB := Lib.hid (fun W h => implIsElS_calls x vx W hx h false h0)
  unfold El.val El.cells
  have hX := (Blk.new w #[.int .i64 x.p, .int .i64 x.c, .int .i64 x.n, vx] 30).alloc (.cells #[.int .i64 0, .int .i64 0, .int .i64 0, .slice none 0 0] 30)
  have hR := Blk.newAt (w.alloc (.cells #[.int .i64 x.p, .int .i64 x.c, .int .i64 x.n, vx] 30)) #[.int .i64 0, .int .i64 0, .int .i64 0, .slice none 0 0] 30 (b := w.heap.size + 1) (by simp)
  have hbl := ((Below.refl w.heap.size w).alloc (Nat.le_refl _) (.cells #[.int .i64 x.p, .int .i64 x.c, .int .i64 x.n, vx] 30)).alloc (by simp) (.cells #[.int .i64 0, .int .i64 0, .int .i64 0, .slice none 0 0] 30)
  have hvx2 := hvx.below hbl (Nat.le_refl _)
  have hz2 := hR.lt
  have hbz := run_build_zero
  clear hvx
  go_enter Try.func22, Try.ntmps22
  go_wp2_with (refine load_el rfl _ rfl _ rfl _ rfl _ hX ?_)
  generalize (w.alloc (.cells #[.int .i64 x.p, .int .i64 x.c, .int .i64 x.n, vx] 30)).alloc (.cells #[.int .i64 0, .int .i64 0, .int .i64 0, .slice none 0 0] 30) = w2 at *
  refine (HB.out _ hvx2).mono ?_
  rintro e w3 ⟨rfl, hb3⟩
  have hX3 := hX.below hb3 hX.lt
  have hR3 := hR.below hb3 hR.lt
  have hvx3 := hvx2.below hb3 (Nat.le_refl _)
  have hbl3 := hbl.trans (hb3.mono (by omega))
  have hz3 := hb3.size
  clear hX hR hvx2 hbl hb3 HB
  go_wp2_with (refine store_el rfl _ _ rfl _ rfl _ rfl rfl (el_all rfl) _ _ hR3 rfl ?_; intro w9 hR9 ho9)
  refine ret_el_tmp rfl _ rfl _ rfl _ hR9 _ rfl rfl ?_
  exact ⟨_, rfl, TsOwn.nil _ _, hbl3.trans (ho9.below (by omega))⟩

set_option maxHeartbeats 8000000 in
set_option maxRecDepth 100000 in
theorem implPow_far (x : El) (k : Int) (vx : Value) (w : World) (hx : x.Wf) (hvx : TsS w 0 vx x.ts) (h0 : x.ok = true) (hk : inB k 0 20 = false) :
    Calls Try.prog 22 #[x.val vx, .int .i64 k] w fun e w' => ElRes w.heap.size w w' (El.zero, 2) e := by
  have HB := Lib.hid (fun W h => implIsElS_calls x vx W hx h true h0)
  have HI := Lib.hid (fun W => implIn_calls k 0 20 W)
  rw [hk] at HI
  unfold El.val El.cells
  have hX := (Blk.new w #[.int .i64 x.p, .int .i64 x.c, .int .i64 x.n, vx] 30).alloc (.cells #[.int .i64 0, .int .i64 0, .int .i64 0, .slice none 0 0] 30)
  have hR := Blk.newAt (w.alloc (.cells #[.int .i64 x.p, .int .i64 x.c, .int .i64 x.n, vx] 30)) #[.int .i64 0, .int .i64 0, .int .i64 0, .slice none 0 0] 30 (b := w.heap.size + 1) (by simp)
  have hbl := ((Below.refl w.heap.size w).alloc (Nat.le_refl _) (.cells #[.int .i64 x.p, .int .i64 x.c, .int .i64 x.n, vx] 30)).alloc (by simp) (.cells #[.int .i64 0, .int .i64 0, .int .i64 0, .slice none 0 0] 30)
  have hvx2 := hvx.below hbl (Nat.le_refl _)
  have hz2 := hR.lt
  have hbz := run_build_zero
  clear hvx
  go_enter Try.func22, Try.ntmps22
  go_wp2_with (refine load_el rfl _ rfl _ rfl _ rfl _ hX ?_)
  generalize (w.alloc (.cells #[.int .i64 x.p, .int .i64 x.c, .int .i64 x.n, vx] 30)).alloc (.cells #[.int .i64 0, .int .i64 0, .int .i64 0, .slice none 0 0] 30) = w2 at *
  refine (HB.out _ hvx2).mono ?_
  rintro e w3 ⟨rfl, hb3⟩
  have hX3 := hX.below hb3 hX.lt
  have hR3 := hR.below hb3 hR.lt
  have hvx3 := hvx2.below hb3 (Nat.le_refl _)
  have hbl3 := hbl.trans (hb3.mono (by omega))
  have hz3 := hb3.size
  clear hX hR hvx2 hbl hb3 HB
  go_wp2_with fail
  refine (HI.out _).mono ?_
  rintro e w' ⟨rfl, rfl⟩
  go_wp2_with (refine store_el rfl _ _ rfl _ rfl _ rfl rfl (el_all rfl) _ _ hR3 rfl ?_; intro w9 hR9 ho9)
  refine ret_el_tmp rfl _ rfl _ rfl _ hR9 _ rfl rfl ?_
  exact ⟨_, rfl, TsOwn.nil _ _, hbl3.trans (ho9.below (by omega))⟩

set_option maxHeartbeats 8000000 in
set_option maxRecDepth 100000 in
theorem implPow_good (P C : Int) (N : Nat) (ts : List Tm) (k : Int) (vx : Value) (w : World) (hp : 2 ≤ P) (hp97 : P ≤ 97) (hc0 : 0 ≤ C) (hcp : C ≤ P) (hn1 : 1 ≤ N) (hn8 : N ≤ 8) (hnx : Nf P N ts) (hl1 : ts.length ≤ 140) (hk : 0 ≤ k ∧ k ≤ 20)
    (hB : ∀ W, TsS W 0 vx ts → Calls Try.prog 43 #[.agg #[.int .i64 P, .int .i64 C, .int .i64 N, vx]] W fun e w' => e = .returned (.bool true) ∧ Below W.heap.size W w') (hvx : TsS w 0 vx ts) :
    Calls Try.prog 22 #[.agg #[.int .i64 P, .int .i64 C, .int .i64 N, vx], .int .i64 k] w fun e w' => ElRes w.heap.size w w' (powGo ⟨P, C, N, ts⟩ (oneT N) k.toNat) e := by
  obtain ⟨K, rfl⟩ : ∃ K : Nat, k = (K : Int) := ⟨k.toNat, by omega⟩
  rw [Int.toNat_natCast]
  have HB := Lib.hid hB
  clear hB
  have hkin : inB K 0 20 = true := by unfold inB; simp; omega
  have HI := Lib.hid (fun W => implIn_calls K 0 20 W)
  rw [hkin] at HI
  clear hkin
  have hx1c := hvx.oneCell
  have HO := Lib.hid (fun b T W h => implOneEl_calls P C N vx b T W h hp hp97 hn1 hn8)
  unfold el at HO
  have Hnx := Lib.hid hnx
  have HnO := Lib.hid (oneT_nf (p := P) hp hn1 hn8)
  have HM := Lib.hid (fun L v W hL h1 h2 h3 => implMulL_calls P C N L ts hp hp97 hc0 hcp hn1 hn8 hL hnx h1 (by omega) v vx W h2 h3)
  unfold el at HM
  clear hnx
  have Hvx := Lib.hid hvx
  have hX := (Blk.new w #[.int .i64 P, .int .i64 C, .int .i64 N, vx] 30).alloc (.cells #[.int .i64 0, .int .i64 0, .int .i64 0, .slice none 0 0] 30)
  have hR := Blk.newAt (w.alloc (.cells #[.int .i64 P, .int .i64 C, .int .i64 N, vx] 30)) #[.int .i64 0, .int .i64 0, .int .i64 0, .slice none 0 0] 30 (b := w.heap.size + 1) (by simp)
  have hbl := ((Below.refl w.heap.size w).alloc (Nat.le_refl _) (.cells #[.int .i64 P, .int .i64 C, .int .i64 N, vx] 30)).alloc (by simp) (.cells #[.int .i64 0, .int .i64 0, .int .i64 0, .slice none 0 0] 30)
  have hvx2 := hvx.below hbl (Nat.le_refl _)
  have hz2 := hR.lt
  have hbz := run_build_zero
  clear hvx
  go_enter Try.func22, Try.ntmps22
  go_wp2_with (refine load_el rfl _ rfl _ rfl _ rfl _ hX ?_)
  generalize (w.alloc (.cells #[.int .i64 P, .int .i64 C, .int .i64 N, vx] 30)).alloc (.cells #[.int .i64 0, .int .i64 0, .int .i64 0, .slice none 0 0] 30) = w2 at *
  refine (HB.out _ hvx2).mono ?_
  rintro e w3 ⟨rfl, hb3⟩
  have hX3 := hX.below hb3 hX.lt
  have hR3 := hR.below hb3 hR.lt
  have hvx3 := hvx2.below hb3 (Nat.le_refl _)
  have hbl3 := hbl.trans (hb3.mono (by omega))
  have hz3 := hb3.size
  clear hX hR hvx2 hbl hb3 HB
  go_wp2_with fail
  refine (HI.out _).mono ?_
  rintro e w' ⟨rfl, rfl⟩
  clear HI
  go_wp2_with (fail)
  refine (HO.out _ _ _ hX3).mono ?_
  rintro e w4 ⟨v4, rfl, hv4, hb4⟩
  have hv4' := hv4
  have h4c := hv4'.oneCell
  have hX4 := (hX3.below hb4 hX3.lt).alloc (.cells #[.int .i64 0, .int .i64 0, .int .i64 0, .slice none 0 0] 30)
  have hR4 := (hR3.below hb4 hR3.lt).alloc (.cells #[.int .i64 0, .int .i64 0, .int .i64 0, .slice none 0 0] 30)
  have hz4 := hb4.size
  have hvx4 := (hvx3.below hb4 (Nat.le_refl _)).alloc (.cells #[.int .i64 0, .int .i64 0, .int .i64 0, .slice none 0 0] 30)
  have hbl4 := (hbl3.trans (hb4.mono (by omega))).alloc (by omega) (.cells #[.int .i64 0, .int .i64 0, .int .i64 0, .slice none 0 0] 30)
  have hv5 := hv4'.alloc' (.cells #[.int .i64 0, .int .i64 0, .int .i64 0, .slice none 0 0] 30)
  clear hX3 hR3 hvx3 hbl3 hb4 hv4 HO
  go_wp2_with (refine store_el rfl _ _ rfl _ rfl _ rfl rfl (el_all h4c) _ _ (Blk.newAt _ _ _ rfl) rfl ?_; intro w5 h5 ho5)
  have hO5 : Has w5 w.heap.size w4.heap.size ⟨P, C, N, oneT N⟩ v4 (oneT N) := ⟨h5, (hv5.only ho5 (fun e => by have := (hv5.lt _ e.symm).2; have := (hv4'.lt _ e.symm).2; omega)).mono (by omega)⟩
  have hX5 := hX4.only ho5 (by omega)
  have hR5 := hR4.only ho5 (by omega)
  have hbl5 := hbl4.trans (ho5.below (by omega))
  have hz5 : w4.heap.size < w5.heap.size := h5.lt
  clear hX4 hR4 hvx4 hbl4 hv5 h5 ho5 h4c hv4'
  generalize w4.heap.size = b6 at *
  try simp only [Act.put]
  go_loopw [19] (fun kv wr => ∃ (i : Nat) (r : Nat) (v : Value) (L : List Tm), kv = .int .i64 i ∧ i + r = K ∧ r ≤ 20 ∧ Has wr w.heap.size b6 ⟨P, C, N, L⟩ v L ∧ Nf P N L ∧ L.length ≤ 140 ∧ powGo ⟨P, C, N, ts⟩ L r = powGo ⟨P, C, N, ts⟩ (oneT N) K ∧ But w5 wr [b6]) (fun kv _ => K - (intOf kv).toNat)
  case atStart => exact ⟨0, K, v4, oneT N, rfl, by omega, by omega, hO5, HnO.out, by simp [oneT], rfl, But.refl _ _⟩
  case round =>
    clear hO5
    obtain ⟨i, r, v, L, rfl, hir, hr20, O, hL, hLl, hpw, hbut⟩ := hrel
    have hz7 := hbut.size
    have hX7 := hX5.but hbut (by simp; omega)
    have hR7 := hR5.but hbut (by simp; omega)
    have hbl7 := hbl5.trans (hbut.below (B := w.heap.size) (by omega) (by simp; omega))
    have hvx7 := Hvx.out.below hbl7 (Nat.le_refl _)
    have h1c := O.own.oneCell
    have Hpw := Lib.hid hpw
    clear hpw
    cases r with
    | zero =>
      obtain rfl : i = K := by omega
      go_wp2_with (first | (refine load_el rfl _ rfl _ rfl _ rfl _ O.blk ?_) | (refine store_el rfl _ _ rfl _ rfl _ rfl rfl (el_all h1c) _ _ hR7 rfl ?_; intro w9 hR9 ho9))
      refine ret_el_tmp rfl _ rfl _ rfl _ hR9 _ rfl rfl ?_
      rw [← Hpw.out]
      exact ⟨v, rfl, (O.own.only ho9 (fun e => by have := O.own.ne_blk hR7 (by decide); exact this e)).mono (Nat.le_refl _), hbl7.trans (ho9.below (by omega))⟩
    | succ r =>
      have HMn := Lib.hid (mulT_nf (c := C) hp hL Hnx.out)
      have hik : i < K := by omega
      go_wp2_with (first | (refine load_el rfl _ rfl _ rfl _ rfl _ O.blk ?_) | (refine load_el rfl _ rfl _ rfl _ rfl _ hX7 ?_))
      refine (HM.out L v wr hL (by omega) (LIn_of_TsOwn O.own) hvx7).mono ?_
      rintro e w6 ⟨v6, rfl, hv6, hb6⟩
      skip
      have hv6o := hv6
      obtain ⟨ad6, cap6, rfl, -, -⟩ := hv6o.slice
      have c6 : (Value.slice ad6 (mulT P C N L ts).length cap6).oneCell' = true := rfl
      have O6 := O.blk.below hb6 O.blk.lt
      have hbut6 := hbut.ext hb6
      have hR6 := hR7.below hb6 hR7.lt
      have hbl6 := hbl7.trans (hb6.mono (by omega))
      have hz6 := hb6.size
      have hne6 := hv6o.ne_blk O6 (by decide)
      clear hX7 hR7 hvx7 hbl7 O hb6 hbut hv6
      by_cases hlm : (mulT P C N L ts).length ≤ 140
      · have hpw2 : powGo ⟨P, C, N, ts⟩ L (r + 1) = powGo ⟨P, C, N, ts⟩ (mulT P C N L ts) r := by
          show (if (mulT P C (N : Int).toNat L ts).length ≤ 140 then powGo ⟨P, C, N, ts⟩ (mulT P C (N : Int).toNat L ts) r else (El.zero, 3)) = _
          rw [Int.toNat_natCast, if_pos hlm]
        have Hpw2 := Lib.hid (hpw2.symm.trans Hpw.out)
        clear hpw2 Hpw
        generalize mulT P C N L ts = M at *
        go_wp2_with (refine store_el rfl _ _ rfl _ rfl _ rfl rfl (el_all c6) _ _ O6 rfl ?_; intro w7 h7 ho7; have hl7 := h7.cells; have O7 : Has w7 w.heap.size b6 ⟨P, C, N, M⟩ (.slice ad6 M.length cap6) M := ⟨h7, (hv6o.only ho7 hne6).mono (by omega)⟩; have hbut7 := hbut6.only ho7 (.inl (by simp)))
        go_roundw
        case rel => exact ⟨i + 1, r, _, M, by go_num, by omega, by omega, O7, HMn.out, hlm, Hpw2.out, hbut7⟩
        case measure => simp [intOf] <;> omega
      · have hpw2 : powGo ⟨P, C, N, ts⟩ L (r + 1) = (El.zero, 3) := by
          show (if (mulT P C (N : Int).toNat L ts).length ≤ 140 then powGo ⟨P, C, N, ts⟩ (mulT P C (N : Int).toNat L ts) r else (El.zero, 3)) = _
          rw [Int.toNat_natCast, if_neg hlm]
        have Hpw2 := Lib.hid (hpw2.symm.trans Hpw.out)
        clear hpw2 Hpw
        generalize mulT P C N L ts = M at *
        go_wp2_with (first | (refine store_el rfl _ _ rfl _ rfl _ rfl rfl (el_all c6) _ _ O6 rfl ?_; intro w7 h7 ho7; have hl7 := h7.cells; have hR8 := hR6.only ho7 (by omega); have hbl8 := hbl6.trans (ho7.below (by omega))) | (refine store_el rfl _ _ rfl _ rfl _ rfl rfl (el_all rfl) _ _ hR8 rfl ?_; intro w9 hR9 ho9))
        refine ret_el_tmp rfl _ rfl _ rfl _ hR9 _ rfl rfl ?_
        rw [← Hpw2.out]
        exact ⟨_, rfl, TsOwn.nil _ _, hbl8.trans (ho9.below (by omega))⟩
end Go.Proofs.Yticmlgnolbccjaa

/- The walk of the statement FnExactPowerElement. -/
set_option linter.unusedVariables false
set_option linter.unusedSimpArgs false
namespace Go.Proofs.Yticmlgnolbccjaa
open Go.RowKit

theorem specPow_calls (x : El) (k : Int) (vx : Value) (w : World) (hx : x.Wf) (hvx : TsS w 0 vx x.ts) :
    Calls Try.prog 21 #[x.val vx, .int .i64 k] w fun e w' => ElRes w.heap.size w w' (x.powR k) e := by
  cases ho : x.ok with
  | false =>
    have h : x.powR k = (El.zero, 1) := by unfold El.powR; rw [ho]; rfl
    rw [h]
    exact specPow_bad x k vx w hx hvx ho
  | true =>
    by_cases hk : 0 ≤ k ∧ k ≤ 20
    · have h : x.powR k = powGo x (oneT x.n.toNat) k.toNat := by unfold El.powR; rw [ho, if_pos rfl, if_pos hk]
      rw [h]
      have HB := fun W h => specIsElS_calls x vx W hx h true ho
      obtain ⟨⟨hp, hp97⟩, ⟨hc0, hcp⟩, ⟨hn1, hn8⟩, hl1, hnx⟩ := El.ok_nf hx ho
      clear h ho hx
      cases x with
      | mk p c n ts =>
        simp only at hp hp97 hc0 hcp hn1 hn8 hl1 hnx hvx
        obtain ⟨N, rfl⟩ : ∃ N : Nat, n = N := ⟨n.toNat, by omega⟩
        exact specPow_good p c N ts k vx w hp hp97 hc0 (by omega) (by omega) (by omega) (by simpa using hnx) hl1 hk HB hvx
    · have h : x.powR k = (El.zero, 2) := by unfold El.powR; rw [ho, if_pos rfl, if_neg hk]
      rw [h]
      exact specPow_far x k vx w hx hvx ho (inB_false hk)
theorem implPow_calls (x : El) (k : Int) (vx : Value) (w : World) (hx : x.Wf) (hvx : TsS w 0 vx x.ts) :
    Calls Try.prog 22 #[x.val vx, .int .i64 k] w fun e w' => ElRes w.heap.size w w' (x.powR k) e := by
  cases ho : x.ok with
  | false =>
    have h : x.powR k = (El.zero, 1) := by unfold El.powR; rw [ho]; rfl
    rw [h]
    exact implPow_bad x k vx w hx hvx ho
  | true =>
    by_cases hk : 0 ≤ k ∧ k ≤ 20
    · have h : x.powR k = powGo x (oneT x.n.toNat) k.toNat := by unfold El.powR; rw [ho, if_pos rfl, if_pos hk]
      rw [h]
      have HB := fun W h => implIsElS_calls x vx W hx h true ho
      obtain ⟨⟨hp, hp97⟩, ⟨hc0, hcp⟩, ⟨hn1, hn8⟩, hl1, hnx⟩ := El.ok_nf hx ho
      clear h ho hx
      cases x with
      | mk p c n ts =>
        simp only at hp hp97 hc0 hcp hn1 hn8 hl1 hnx hvx
        obtain ⟨N, rfl⟩ : ∃ N : Nat, n = N := ⟨n.toNat, by omega⟩
        exact implPow_good p c N ts k vx w hp hp97 hc0 (by omega) (by omega) (by omega) (by simpa using hnx) hl1 hk HB hvx
    · have h : x.powR k = (El.zero, 2) := by unfold El.powR; rw [ho, if_pos rfl, if_neg hk]
      rw [h]
      exact implPow_far x k vx w hx hvx ho (inB_false hk)

set_option maxHeartbeats 8000000 in
set_option maxRecDepth 100000 in
theorem lawPow_calls (x : El) (k : Int) (vx : Value) (w : World) (hwx : x.Wf) (hlx : LIn w vx x.ts) :
    Calls Try.prog 5 #[x.val vx, .int .i64 k] w fun e w' => e = .returned (.bool true) ∧ Below w.heap.size w w' := by
  have hx := hwx.len
  have HTX := Lib.hid (fun W (h : LIn W vx x.ts) => toElement_calls x vx W h hwx.len)
  have HS := Lib.hid (fun v1 W h1 => specPow_calls x k v1 W hwx h1)
  have HI := Lib.hid (fun v1 W h1 => implPow_calls x k v1 W hwx h1)
  have hRl := El.powR_len x k
  generalize x.powR k = R at *
  simp only [El.val, El.cells] at HTX HS HI ⊢
  obtain ⟨adx, capx, hvx, -⟩ := id hlx
  have HZ1 := Lib.hid (fun W => szElement_calls x vx adx capx hvx 1048576 W (by omega) (by omega) (by omega))
  rw [if_pos (by omega)] at HZ1
  simp only [El.val, El.cells] at HZ1
  have hX := Blk.new w #[.int .i64 x.p, .int .i64 x.c, .int .i64 x.n, vx] 24
  have hbl := (Below.refl w.heap.size w).alloc (Nat.le_refl _) (.cells #[.int .i64 x.p, .int .i64 x.c, .int .i64 x.n, vx] 24)
  have hlx2 := hlx.below hbl (Nat.le_refl _)
  have hz2 := hX.lt
  clear hvx hlx
  go_enter Try.func5, Try.ntmps5
  go_wp2_with (refine load_lel rfl _ rfl _ rfl _ rfl _ hX ?_)
  generalize w.alloc (.cells #[.int .i64 x.p, .int .i64 x.c, .int .i64 x.n, vx] 24) = w2 at *
  refine (HZ1.out _).mono ?_
  rintro e w3 ⟨rfl, hb⟩
  clear HZ1
  have hXr := hX.below hb (by omega)
  have hlx := hlx2.below hb (Nat.le_refl _)
  have hzr := hb.size
  -- region 5
  go_wp2_with (refine load_lel rfl _ rfl _ rfl _ rfl _ hXr ?_)
  refine (HTX.out _ hlx).mono ?_
  rintro e w4 ⟨v3, rfl, hv3, hb4⟩
  have hz4 := hb4.size
  go_wp2_with fail
  refine (HS.out _ _ (hv3.mono (Nat.zero_le _))).mono ?_
  rintro e w5 ⟨v6, rfl, hv6, hb5⟩
  simp only [El.val, El.cells]
  have h1c := hv6.oneCell
  go_upto_region 6 with (refine store_el rfl _ _ rfl _ rfl _ rfl rfl (el_all h1c) _ _ (Blk.newAt _ _ _ rfl) rfl ?_; intro wq hq hoq)
  have O6 := Has.new (x := R.1) hv6 hq hoq
  have hb89 := (hb4.trans (hb5.mono hb4.size)).trans ((new_below hoq).mono (by have := hb5.size; omega))
  have hB := hb.trans (hb89.mono hzr)
  have hs1 := hB.size
  have hs5 := hb89.size
  clear hv3 hv6 hb4 hb5 hb89 hq hoq h1c hXr hlx
  generalize w5.heap.size = b6 at *
  obtain ⟨w6, rfl⟩ : ∃ z : World, z = wq := ⟨_, rfl⟩
  have hX1 := hX.below hB (by omega)
  have hl1 := hlx2.below hB (Nat.le_refl _)
  -- region 6
  go_wp2_with (refine load_lel rfl _ rfl _ rfl _ rfl _ hX1 ?_)
  refine (HTX.out _ hl1).mono ?_
  rintro e w8 ⟨v8, rfl, hv8, hb8⟩
  have h1c := hv8.oneCell
  have n68 := lt_ne O6.own hv8.1 (Nat.le_refl _)
  have hn8 := hv8.2
  clear hX1 hl1
  go_upto_region 7 with (refine store_el rfl _ _ rfl _ rfl _ rfl rfl (el_all h1c) _ _ (Blk.newAt _ _ _ rfl) rfl ?_; intro wq hq hoq)
  have O8 := Has.new (x := x) hv8.1 hq hoq
  have hb89 := hb8.trans ((new_below hoq).mono hb8.size)
  replace O6 := O6.ext hb89
  replace hB := hB.trans (hb89.mono hs1)
  have hs2 := hb89.size
  clear hv8 hb8 hb89 hq hoq h1c
  generalize w8.heap.size = b8 at *
  obtain ⟨w9, rfl⟩ : ∃ z : World, z = wq := ⟨_, rfl⟩
  -- region 7
  go_wp2_with (refine load_el rfl _ rfl _ rfl _ rfl _ O8.blk ?_)
  refine (HI.out _ _ ⟨O8.own.mono (Nat.zero_le _), hn8⟩).mono ?_
  rintro e w12 ⟨v10, rfl, hv10, hb12⟩
  simp only [El.val, El.cells]
  have h1c := hv10.oneCell
  have n610 := lt_ne O6.own hv10 (Nat.le_refl _)
  have n108 := gt_ne hv10 O8.own (Nat.le_refl _)
  go_upto_region 8 with (refine store_el rfl _ _ rfl _ rfl _ rfl rfl (el_all h1c) _ _ (Blk.newAt _ _ _ rfl) rfl ?_; intro wq hq hoq)
  have O10 := Has.new (x := R.1) hv10 hq hoq
  have hb89 := hb12.trans ((new_below hoq).mono hb12.size)
  replace O6 := O6.ext hb89
  replace O8 := O8.ext hb89
  replace hB := hB.trans (hb89.mono (by omega))
  have hs4 := hb89.size
  clear hv10 hb12 hb89 hq hoq h1c
  generalize w12.heap.size = b10 at *
  obtain ⟨w13, rfl⟩ : ∃ z : World, z = wq := ⟨_, rfl⟩
  -- region 8
  go_wp2_with (first | (refine load_el rfl _ rfl _ rfl _ rfl _ O10.blk ?_) | (refine load_el rfl _ rfl _ rfl _ rfl _ O6.blk ?_))
  refine (eqElement_calls R.1 v10 v6 _ _ _ O10.own O6.own (by omega)).mono ?_
  rintro e w14 ⟨rfl, hb14⟩
  replace O6 := O6.ext hb14
  replace O8 := O8.ext hb14
  replace O10 := O10.ext hb14
  replace hB := hB.trans (hb14.mono (by omega))
  have hs6 := hb14.size
  clear hb14
  have hXr := hX.below hB (by omega)
  have hlx := hlx2.below hB (Nat.le_refl _)
  go_wp2_with fail
  -- region 10
  refine wp_region_old (by kernel_rfl) (fun hS => ?_)
  refine takeA 0 (v := .agg #[.int .i64 x.p, .int .i64 x.c, .int .i64 x.n, v8]) hS ?_ ?_
  · exact fun W hW => held_el hW _ rfl _ rfl _ rfl _ O8.blk rfl
  try simp only [Act.put, List.setIfInBounds_toArray, List.set_cons_zero, List.set_cons_succ]
  refine takeA 1 (v := .agg #[.int .i64 x.p, .int .i64 x.c, .int .i64 x.n, vx]) hS ?_ ?_
  · exact fun W hW => held_lel hW _ rfl _ rfl _ rfl _ hXr rfl
  try simp only [Act.put, List.setIfInBounds_toArray, List.set_cons_zero, List.set_cons_succ]
  refine wpAnyH_ready (rs := [2]) (by decide +kernel) (by simp) (allA 2 (fun K hK => ?_) AllReadyH.nil)
  go_simp
  refine (HTX.out _ (hlx.below hS (Nat.le_refl _))).mono ?_
  rintro e u2 ⟨v2, rfl, hv2, hb⟩
  have hS0 := hS
  replace hS := hS.call hb
  have hvo := O8.own.below hS (Nat.le_refl _)
  simp only [El.val, El.cells]
  refine hK _ _ hS ?_
  clear hK K hb
  try simp only [Act.put, List.setIfInBounds_toArray, List.set_cons_zero, List.set_cons_succ]
  refine wpAnyH_ready (rs := [3]) (by decide +kernel) (by simp) (allA 3 (fun K hK => ?_) AllReadyH.nil)
  go_simp
  refine (eqElement_calls x _ _ _ _ _ hvo hv2.1 (by omega)).mono ?_
  rintro e u3 ⟨rfl, hb⟩
  replace hS := hS.call hb
  refine hK _ _ hS ?_
  clear hK K hb
  try simp only [Act.put, List.setIfInBounds_toArray, List.set_cons_zero, List.set_cons_succ]
  refine takeA 4 (v := ?_) hS ?_ ?_
  rotate_left
  focus (intro W hW; go_simp; first | done | with_reducible rfl)
  try simp only [Act.put, List.setIfInBounds_toArray, List.set_cons_zero, List.set_cons_succ]
  refine wpAnyH_done (by decide +kernel) ?_ _
  

  replace O6 := O6.below hS (Nat.le_refl _)
  replace O8 := O8.below hS (Nat.le_refl _)
  replace O10 := O10.below hS (Nat.le_refl _)
  replace hB := hB.trans (Below.mono hS (by omega))
  have hs7 := Below.size hS
  clear hS hXr hlx hv2 hvo hS0
  obtain ⟨w15, rfl⟩ : ∃ z : World, z = u3 := ⟨_, rfl⟩
  -- marks of the arguments
  go_wp2_with (refine load_el rfl _ rfl _ rfl _ rfl _ O8.blk ?_)
  refine (markElement_calls x 1 v8 _ _ O8.own (by omega) (by omega) (by omega)).mono ?_
  rintro e w18 ⟨rfl, -, hg8⟩
  replace O6 := O6.grown O8 hg8 n68
  replace O10 := O10.grown O8 hg8 n108
  replace hB := grown_below hB O8.own hg8 (by omega) (by omega)
  have hs9 := hg8.size
  clear O8 hg8 n68 n108
  -- region 14
  go_wp2_with (first | (refine load_elw _ rfl _ rfl _ rfl _ O10.blk rfl ?_) | (refine load_elw _ rfl _ rfl _ rfl _ O6.blk rfl ?_))
  refine (eqElement_calls R.1 v10 v6 _ _ _ O10.own O6.own (by omega)).mono ?_
  rintro e w20 ⟨rfl, hb20⟩
  replace O6 := O6.ext hb20
  replace O10 := O10.ext hb20
  replace hB := hB.trans (hb20.mono (by omega))
  have hs11 := hb20.size
  clear hb20
  -- the mark of the result
  go_wp2_with (refine load_el rfl _ rfl _ rfl _ rfl _ O10.blk ?_)
  refine (markElement_calls R.1 1 v10 _ _ O10.own (by omega) (by omega) (by omega)).mono ?_
  rintro e w21 ⟨rfl, hm10, hg10⟩
  replace O6 := O6.grown O10 hg10 n610
  have OB : Blk w21 b10 #[.int .i64 R.1.p, .int .i64 R.1.c, .int .i64 R.1.n, v10] 30 := O10.blk.grown hg10 (O10.own.ne_blk O10.blk (by decide))
  replace hB := grown_below hB O10.own hg10 (by omega) (by omega)
  have OM : Has w21 _ b10 R.1 v10 (mks 1 R.1.ts.length) := ⟨OB, hm10⟩
  have hs12 := hg10.size
  clear O10 hg10 n610 hm10 OB
  go_wp2_with (refine load_el rfl _ rfl _ rfl _ rfl _ OM.blk ?_)
  refine (heldElement_calls R.1 _ 1 v10 _ _ OM.own (by omega) (by omega) (by omega)).mono ?_
  rintro e w22 ⟨rfl, hb22⟩
  replace O6 := O6.ext hb22
  replace OM := OM.ext hb22
  replace hB := hB.trans (hb22.mono (by omega))
  have hs13 := hb22.size
  clear hb22
  -- region 24
  have hXr := hX.below hB (by omega)
  have hlx := hlx2.below hB (Nat.le_refl _)
  go_wp2_with (refine load_lel rfl _ rfl _ rfl _ rfl _ hXr ?_)
  refine (HTX.out _ hlx).mono ?_
  rintro e w23 ⟨v3, rfl, hv3, hb23⟩
  have hz23 := hb23.size
  go_wp2_with fail
  refine (HI.out _ _ (hv3.mono (Nat.zero_le _))).mono ?_
  rintro e w24 ⟨v15, rfl, hv15, hb24⟩
  simp only [El.val, El.cells]
  have h1c := hv15.oneCell
  go_upto_region 25 with (refine store_el rfl _ _ rfl _ rfl _ rfl rfl (el_all h1c) _ _ (Blk.newAt _ _ _ rfl) rfl ?_; intro wq hq hoq)
  have O15 := Has.new (x := R.1) hv15 hq hoq
  have hb89 := (hb23.trans (hb24.mono hb23.size)).trans ((new_below hoq).mono (by have := hb24.size; omega))
  replace O6 := O6.ext hb89
  replace OM := OM.ext hb89
  replace hB := hB.trans (hb89.mono (by omega))
  have hs14 := hb89.size
  clear hv3 hv15 hb23 hb24 hb89 hq hoq h1c hXr hlx
  generalize w24.heap.size = b15 at *
  obtain ⟨w25, rfl⟩ : ∃ z : World, z = wq := ⟨_, rfl⟩
  go_wp2_with (first | (refine load_el rfl _ rfl _ rfl _ rfl _ O15.blk ?_) | (refine load_el rfl _ rfl _ rfl _ rfl _ O6.blk ?_))
  refine (eqElement_calls R.1 v15 v6 _ _ _ O15.own O6.own (by omega)).mono ?_
  rintro e w26 ⟨rfl, hb26⟩
  replace OM := OM.ext hb26
  replace hB := hB.trans (hb26.mono (by omega))
  have hs15 := hb26.size
  clear hb26 O15 O6
  go_wp2_with (refine load_el rfl _ rfl _ rfl _ rfl _ OM.blk ?_)
  refine (heldElement_calls R.1 _ 1 v10 _ _ OM.own (by omega) (by omega) (by omega)).mono ?_
  rintro e w27 ⟨rfl, hb27⟩
  replace hB := hB.trans (hb27.mono (by omega))
  go_wp2_with fail
  go_ret
  exact ⟨rfl, hbl.trans (hB.mono (by omega))⟩
end Go.Proofs.Yticmlgnolbccjaa
