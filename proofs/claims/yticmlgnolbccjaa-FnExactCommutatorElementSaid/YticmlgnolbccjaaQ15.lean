/- The walk of CommutatorElement: the reference. -/
import Derived.Test.YticmlgnolbccjaaQ14
import Derived.Test.YticmlgnolbccjaaQ12

set_option linter.unusedVariables false
set_option linter.unusedSimpArgs false
namespace Go.Proofs.Yticmlgnolbccjaa
open Go.RowKit

set_option maxHeartbeats 8000000 in
set_option maxRecDepth 100000 in
theorem specCom_bad (x y : El) (vx vy : Value) (w : World) (hx : x.Wf) (hy : y.Wf) (hvx : TsS w 0 vx x.ts) (hvy : TsS w 0 vy y.ts) (h0 : ¬ x.both y = 0) :
    Calls Try.prog 25 #[x.val vx, y.val vy] w fun e w' => ElRes w.heap.size w w' (El.zero, x.both y) e := by
  have HB := Lib.hid (fun W h1 h2 => specBoth_calls x y vx vy W hx hy h1 h2)
  have hb0 : (x.both y == 0) = false := by simpa using h0
  have hb1 : (x.both y != 0) = true := by simpa using h0
  have hbz := run_build_zero
  clear h0
  generalize x.both y = K at *
  unfold El.val El.cells at HB ⊢
  have hX := ((Blk.new w #[.int .i64 x.p, .int .i64 x.c, .int .i64 x.n, vx] 30).alloc (.cells #[.int .i64 y.p, .int .i64 y.c, .int .i64 y.n, vy] 30)).alloc (.cells #[.int .i64 0, .int .i64 0, .int .i64 0, .slice none 0 0] 30)
  have hY := (Blk.newAt (w.alloc (.cells #[.int .i64 x.p, .int .i64 x.c, .int .i64 x.n, vx] 30)) #[.int .i64 y.p, .int .i64 y.c, .int .i64 y.n, vy] 30 (b := w.heap.size + 1) (by simp)).alloc (.cells #[.int .i64 0, .int .i64 0, .int .i64 0, .slice none 0 0] 30)
  have hR := Blk.newAt ((w.alloc (.cells #[.int .i64 x.p, .int .i64 x.c, .int .i64 x.n, vx] 30)).alloc (.cells #[.int .i64 y.p, .int .i64 y.c, .int .i64 y.n, vy] 30)) #[.int .i64 0, .int .i64 0, .int .i64 0, .slice none 0 0] 30 (b := w.heap.size + 1 + 1) (by simp)
  have hbl := (((Below.refl w.heap.size w).alloc (Nat.le_refl _) (.cells #[.int .i64 x.p, .int .i64 x.c, .int .i64 x.n, vx] 30)).alloc (by simp) (.cells #[.int .i64 y.p, .int .i64 y.c, .int .i64 y.n, vy] 30)).alloc (by simp; omega) (.cells #[.int .i64 0, .int .i64 0, .int .i64 0, .slice none 0 0] 30)
  have hvx2 := hvx.below hbl (Nat.le_refl _)
  have hvy2 := hvy.below hbl (Nat.le_refl _)
  have hz2 := hR.lt
  clear hvx hvy
  go_enter Try.func25, Try.ntmps25
  go_wp2_with (first | (refine load_el rfl _ rfl _ rfl _ rfl _ hX ?_) | (refine load_el rfl _ rfl _ rfl _ rfl _ hY ?_))
  generalize ((w.alloc (.cells #[.int .i64 x.p, .int .i64 x.c, .int .i64 x.n, vx] 30)).alloc (.cells #[.int .i64 y.p, .int .i64 y.c, .int .i64 y.n, vy] 30)).alloc (.cells #[.int .i64 0, .int .i64 0, .int .i64 0, .slice none 0 0] 30) = w2 at *
  refine (HB.out _ hvx2 hvy2).mono ?_
  rintro e w3 ⟨rfl, hb3⟩
  have hR3 := hR.below hb3 hR.lt
  have hbl3 := hbl.trans (hb3.mono (by omega))
  have hz3 := hb3.size
  clear hX hY hR hvx2 hvy2 hbl hb3 HB
  go_wp2_with (refine store_el rfl _ _ rfl _ rfl _ rfl rfl (el_all rfl) _ _ hR3 rfl ?_; intro w9 hR9 ho9)
  refine ret_el_tmp rfl _ rfl _ rfl _ hR9 _ rfl rfl ?_
  exact ⟨_, rfl, TsOwn.nil _ _, hbl3.trans (ho9.below (by omega))⟩

set_option maxHeartbeats 8000000 in
set_option maxRecDepth 100000 in
theorem specCom_good (P C : Int) (N : Nat) (ts us : List Tm) (vx vy : Value) (w : World) (hp : 2 ≤ P) (hp97 : P ≤ 97) (hc0 : 0 ≤ C) (hcp : C ≤ P) (hn1 : 1 ≤ N) (hn8 : N ≤ 8) (hnx : Nf P N ts) (hny : Nf P N us) (hl1 : ts.length ≤ 140) (hl2 : us.length ≤ 140)
    (hB : ∀ W, TsS W 0 vx ts → TsS W 0 vy us → Calls Try.prog 48 #[.agg #[.int .i64 P, .int .i64 C, .int .i64 N, vx], .agg #[.int .i64 P, .int .i64 C, .int .i64 N, vy]] W fun e w' => e = .returned (.int .i64 0) ∧ Below W.heap.size W w')
    (hvx : TsS w 0 vx ts) (hvy : TsS w 0 vy us) :
    Calls Try.prog 25 #[.agg #[.int .i64 P, .int .i64 C, .int .i64 N, vx], .agg #[.int .i64 P, .int .i64 C, .int .i64 N, vy]] w fun e w' => ElRes w.heap.size w w' (if (mulT P C N ts us).length ≤ 140 ∧ (mulT P C N us ts).length ≤ 140 then El.told ⟨P, C, N, sumT P (-1) (mulT P C N ts us) (mulT P C N us ts)⟩ else (El.zero, 3)) e := by
  have HB := Lib.hid hB
  clear hB
  have HM1 := Lib.hid (fun W h1 h2 => specMulT_calls P C N ts us hp hp97 hc0 hcp hn1 hn8 hnx hny (by omega) (by omega) vx vy W h1 h2)
  have HM2 := Lib.hid (fun W h1 h2 => specMulT_calls P C N us ts hp hp97 hc0 hcp hn1 hn8 hny hnx (by omega) (by omega) vy vx W h1 h2)
  have hnA := mulT_nf (c := C) hp hnx hny
  have hnB := mulT_nf (c := C) hp hny hnx
  unfold el at HM1 HM2
  generalize mulT P C N ts us = A at *
  generalize mulT P C N us ts = B at *
  have HnA := Lib.hid hnA
  have HnB := Lib.hid hnB
  clear hnA hnB
  have hbz := run_build_zero
  clear hnx hny
  have hX := ((Blk.new w #[.int .i64 P, .int .i64 C, .int .i64 N, vx] 30).alloc (.cells #[.int .i64 P, .int .i64 C, .int .i64 N, vy] 30)).alloc (.cells #[.int .i64 0, .int .i64 0, .int .i64 0, .slice none 0 0] 30)
  have hY := (Blk.newAt (w.alloc (.cells #[.int .i64 P, .int .i64 C, .int .i64 N, vx] 30)) #[.int .i64 P, .int .i64 C, .int .i64 N, vy] 30 (b := w.heap.size + 1) (by simp)).alloc (.cells #[.int .i64 0, .int .i64 0, .int .i64 0, .slice none 0 0] 30)
  have hR := Blk.newAt ((w.alloc (.cells #[.int .i64 P, .int .i64 C, .int .i64 N, vx] 30)).alloc (.cells #[.int .i64 P, .int .i64 C, .int .i64 N, vy] 30)) #[.int .i64 0, .int .i64 0, .int .i64 0, .slice none 0 0] 30 (b := w.heap.size + 1 + 1) (by simp)
  have hbl := (((Below.refl w.heap.size w).alloc (Nat.le_refl _) (.cells #[.int .i64 P, .int .i64 C, .int .i64 N, vx] 30)).alloc (by simp) (.cells #[.int .i64 P, .int .i64 C, .int .i64 N, vy] 30)).alloc (by simp; omega) (.cells #[.int .i64 0, .int .i64 0, .int .i64 0, .slice none 0 0] 30)
  have hvx2 := hvx.below hbl (Nat.le_refl _)
  have hvy2 := hvy.below hbl (Nat.le_refl _)
  have hz2 := hR.lt
  clear hvx hvy
  go_enter Try.func25, Try.ntmps25
  go_wp2_with (first | (refine load_el rfl _ rfl _ rfl _ rfl _ hX ?_) | (refine load_el rfl _ rfl _ rfl _ rfl _ hY ?_))
  generalize ((w.alloc (.cells #[.int .i64 P, .int .i64 C, .int .i64 N, vx] 30)).alloc (.cells #[.int .i64 P, .int .i64 C, .int .i64 N, vy] 30)).alloc (.cells #[.int .i64 0, .int .i64 0, .int .i64 0, .slice none 0 0] 30) = w2 at *
  refine (HB.out _ hvx2 hvy2).mono ?_
  rintro e w3 ⟨rfl, hb3⟩
  have hX3 := hX.below hb3 hX.lt
  have hY3 := hY.below hb3 hY.lt
  have hR3 := hR.below hb3 hR.lt
  have hvx3 := hvx2.below hb3 (Nat.le_refl _)
  have hvy3 := hvy2.below hb3 (Nat.le_refl _)
  have hbl3 := hbl.trans (hb3.mono (by omega))
  have hz3 := hb3.size
  clear hX hY hR hvx2 hvy2 hbl hb3 HB
  go_wp2_with fail
  go_cut [7, 8] from 18 to 23 (fun v7 v8 wx => ∃ (b7 b8 : Nat) (v20 v23 : Value), v7 = .pointer (some ⟨b7, 0, none⟩) ∧ v8 = .pointer (some ⟨b8, 0, none⟩) ∧ Has wx w3.heap.size b7 ⟨P, C, N, A⟩ v20 A ∧ Has wx w3.heap.size b8 ⟨P, C, N, B⟩ v23 B ∧ v20 ≠ .slice none 0 0 ∧ v23 ≠ .slice none 0 0 ∧ b8 ≠ b7 ∧ Below w3.heap.size w3 wx)
  case first =>
    refine wp_region_old (by kernel_rfl) (fun hS => ?_)
    generalize w3.drew = u0 at *
    refine takeA 0 (v := .agg #[.int .i64 P, .int .i64 C, .int .i64 N, vx]) hS ?_ ?_
    · exact fun W hW => held_el hW _ rfl _ rfl _ rfl _ hX3 rfl
    try simp only [Act.put, List.setIfInBounds_toArray, List.set_cons_zero, List.set_cons_succ]
    refine takeA 1 (v := .agg #[.int .i64 P, .int .i64 C, .int .i64 N, vy]) hS ?_ ?_
    · exact fun W hW => held_el hW _ rfl _ rfl _ rfl _ hY3 rfl
    try simp only [Act.put, List.setIfInBounds_toArray, List.set_cons_zero, List.set_cons_succ]
    refine takeA 3 (v := .agg #[.int .i64 P, .int .i64 C, .int .i64 N, vy]) hS ?_ ?_
    · exact fun W hW => held_el hW _ rfl _ rfl _ rfl _ hY3 rfl
    try simp only [Act.put, List.setIfInBounds_toArray, List.set_cons_zero, List.set_cons_succ]
    refine takeA 4 (v := .agg #[.int .i64 P, .int .i64 C, .int .i64 N, vx]) hS ?_ ?_
    · exact fun W hW => held_el hW _ rfl _ rfl _ rfl _ hX3 rfl
    try simp only [Act.put, List.setIfInBounds_toArray, List.set_cons_zero, List.set_cons_succ]
    refine wpAnyH_ready (rs := [2, 6, 7]) (by decide +kernel) (by simp) (allA 2 (fun K hK => ?_) (allA 6 (fun K hK => ?_) (allA 7 (fun K hK => ?_) AllReadyH.nil)))
    · go_simp
      refine (HM1.out _ (hvx3.below hS (Nat.le_refl _)) (hvy3.below hS (Nat.le_refl _))).mono ?_
      rintro e u2 ⟨v20, rfl, hv20, hb⟩
      have n20 := hv20.2
      replace hv20 := hv20.1.mono hS.size
      try replace h7 := h7.below hb h7.lt
      try replace h8 := h8.below hb h8.lt
      replace hS := hS.call hb
      refine hK _ _ hS ?_
      clear hK K hb
      try simp only [Act.put, List.setIfInBounds_toArray, List.set_cons_zero, List.set_cons_succ]
      refine wpAnyH_ready (rs := [5, 6, 7]) (by decide +kernel) (by simp) (allA 5 (fun K hK => ?_) (allA 6 (fun K hK => ?_) (allA 7 (fun K hK => ?_) AllReadyH.nil)))
      · go_simp
        refine (HM2.out _ (hvy3.below hS (Nat.le_refl _)) (hvx3.below hS (Nat.le_refl _))).mono ?_
        rintro e u5 ⟨v23, rfl, hv23, hb⟩
        have n23 := hv23.2
        replace hv23 := hv23.1.mono hS.size
        replace hv20 := hv20.below hb (Nat.le_refl _)
        try replace h7 := h7.below hb h7.lt
        try replace h8 := h8.below hb h8.lt
        replace hS := hS.call hb
        refine hK _ _ hS ?_
        clear hK K hb
        try simp only [Act.put, List.setIfInBounds_toArray, List.set_cons_zero, List.set_cons_succ]
        refine wpAnyH_ready (rs := [6, 7]) (by decide +kernel) (by simp) (allA 6 (fun K hK => ?_) (allA 7 (fun K hK => ?_) AllReadyH.nil))
        · have h7 := Blk.new (u5) #[.int .i64 0, .int .i64 0, .int .i64 0, .slice none 0 0] 30
          have hz7 := hS.size
          try have hne := Nat.ne_of_lt h8.lt
          go_simp
          try replace h8 := h8.alloc (.cells #[.int .i64 0, .int .i64 0, .int .i64 0, .slice none 0 0] 30)
          try replace hv20 := hv20.alloc' (.cells #[.int .i64 0, .int .i64 0, .int .i64 0, .slice none 0 0] 30)
          try replace hv23 := hv23.alloc' (.cells #[.int .i64 0, .int .i64 0, .int .i64 0, .slice none 0 0] 30)
          replace hS := hS.alloc (.cells #[.int .i64 0, .int .i64 0, .int .i64 0, .slice none 0 0] 30)
          refine hK _ _ hS ?_
          clear hK K
          generalize World.alloc (u5) (.cells #[.int .i64 0, .int .i64 0, .int .i64 0, .slice none 0 0] 30) = u6 at *
          try simp only [Act.put, List.setIfInBounds_toArray, List.set_cons_zero, List.set_cons_succ]
          refine wpAnyH_ready (rs := [7]) (by decide +kernel) (by simp) (allA 7 (fun K hK => ?_) AllReadyH.nil)
          have h8 := Blk.new (u6) #[.int .i64 0, .int .i64 0, .int .i64 0, .slice none 0 0] 30
          have hz8 := hS.size
          try have hne := Nat.ne_of_gt h7.lt
          go_simp
          try replace h7 := h7.alloc (.cells #[.int .i64 0, .int .i64 0, .int .i64 0, .slice none 0 0] 30)
          try replace hv20 := hv20.alloc' (.cells #[.int .i64 0, .int .i64 0, .int .i64 0, .slice none 0 0] 30)
          try replace hv23 := hv23.alloc' (.cells #[.int .i64 0, .int .i64 0, .int .i64 0, .slice none 0 0] 30)
          replace hS := hS.alloc (.cells #[.int .i64 0, .int .i64 0, .int .i64 0, .slice none 0 0] 30)
          refine hK _ _ hS ?_
          clear hK K
          generalize World.alloc (u6) (.cells #[.int .i64 0, .int .i64 0, .int .i64 0, .slice none 0 0] 30) = u7 at *
          try simp only [Act.put, List.setIfInBounds_toArray, List.set_cons_zero, List.set_cons_succ]
          refine wpAnyH_ready (rs := [8]) (by decide +kernel) (by simp) (allA 8 (fun K hK => ?_) AllReadyH.nil)
          have c20 := hv20.oneCell
          refine wp_store_el _ _ rfl _ rfl _ rfl rfl (el_all c20) _ _ h7 rfl ?_
          intro u8 g7 ho
          replace h8 := h8.only ho hne
          replace hv20 := hv20.only ho (hv20.ne_blk h7 (by decide))
          replace hv23 := hv23.only ho (hv23.ne_blk h7 (by decide))
          replace hS := hS.only ho hz7
          replace h7 := g7
          refine hK _ _ hS ?_
          clear hK K g7 ho
          try simp only [Act.put, List.setIfInBounds_toArray, List.set_cons_zero, List.set_cons_succ]
          refine wpAnyH_ready (rs := [9]) (by decide +kernel) (by simp) (allA 9 (fun K hK => ?_) AllReadyH.nil)
          have c23 := hv23.oneCell
          refine wp_store_el _ _ rfl _ rfl _ rfl rfl (el_all c23) _ _ h8 rfl ?_
          intro u9 g8 ho
          replace h7 := h7.only ho (Ne.symm hne)
          replace hv20 := hv20.only ho (hv20.ne_blk h8 (by decide))
          replace hv23 := hv23.only ho (hv23.ne_blk h8 (by decide))
          replace hS := hS.only ho hz8
          replace h8 := g8
          refine hK _ _ hS ?_
          clear hK K g8 ho
          try simp only [Act.put, List.setIfInBounds_toArray, List.set_cons_zero, List.set_cons_succ]
          refine wpAnyH_done (by decide +kernel) ?_ _
          go_wp2_with fail
          go_meet
          case rel => exact ⟨_, _, v20, v23, rfl, rfl, ⟨h7, hv20⟩, ⟨h8, hv23⟩, n20, n23, hne, hS⟩
        · have h8 := Blk.new (u5) #[.int .i64 0, .int .i64 0, .int .i64 0, .slice none 0 0] 30
          have hz8 := hS.size
          try have hne := Nat.ne_of_gt h7.lt
          go_simp
          try replace h7 := h7.alloc (.cells #[.int .i64 0, .int .i64 0, .int .i64 0, .slice none 0 0] 30)
          try replace hv20 := hv20.alloc' (.cells #[.int .i64 0, .int .i64 0, .int .i64 0, .slice none 0 0] 30)
          try replace hv23 := hv23.alloc' (.cells #[.int .i64 0, .int .i64 0, .int .i64 0, .slice none 0 0] 30)
          replace hS := hS.alloc (.cells #[.int .i64 0, .int .i64 0, .int .i64 0, .slice none 0 0] 30)
          refine hK _ _ hS ?_
          clear hK K
          generalize World.alloc (u5) (.cells #[.int .i64 0, .int .i64 0, .int .i64 0, .slice none 0 0] 30) = u7 at *
          try simp only [Act.put, List.setIfInBounds_toArray, List.set_cons_zero, List.set_cons_succ]
          refine wpAnyH_ready (rs := [6]) (by decide +kernel) (by simp) (allA 6 (fun K hK => ?_) AllReadyH.nil)
          have h7 := Blk.new (u7) #[.int .i64 0, .int .i64 0, .int .i64 0, .slice none 0 0] 30
          have hz7 := hS.size
          try have hne := Nat.ne_of_lt h8.lt
          go_simp
          try replace h8 := h8.alloc (.cells #[.int .i64 0, .int .i64 0, .int .i64 0, .slice none 0 0] 30)
          try replace hv20 := hv20.alloc' (.cells #[.int .i64 0, .int .i64 0, .int .i64 0, .slice none 0 0] 30)
          try replace hv23 := hv23.alloc' (.cells #[.int .i64 0, .int .i64 0, .int .i64 0, .slice none 0 0] 30)
          replace hS := hS.alloc (.cells #[.int .i64 0, .int .i64 0, .int .i64 0, .slice none 0 0] 30)
          refine hK _ _ hS ?_
          clear hK K
          generalize World.alloc (u7) (.cells #[.int .i64 0, .int .i64 0, .int .i64 0, .slice none 0 0] 30) = u6 at *
          try simp only [Act.put, List.setIfInBounds_toArray, List.set_cons_zero, List.set_cons_succ]
          refine wpAnyH_ready (rs := [8]) (by decide +kernel) (by simp) (allA 8 (fun K hK => ?_) AllReadyH.nil)
          have c20 := hv20.oneCell
          refine wp_store_el _ _ rfl _ rfl _ rfl rfl (el_all c20) _ _ h7 rfl ?_
          intro u8 g7 ho
          replace h8 := h8.only ho hne
          replace hv20 := hv20.only ho (hv20.ne_blk h7 (by decide))
          replace hv23 := hv23.only ho (hv23.ne_blk h7 (by decide))
          replace hS := hS.only ho hz7
          replace h7 := g7
          refine hK _ _ hS ?_
          clear hK K g7 ho
          try simp only [Act.put, List.setIfInBounds_toArray, List.set_cons_zero, List.set_cons_succ]
          refine wpAnyH_ready (rs := [9]) (by decide +kernel) (by simp) (allA 9 (fun K hK => ?_) AllReadyH.nil)
          have c23 := hv23.oneCell
          refine wp_store_el _ _ rfl _ rfl _ rfl rfl (el_all c23) _ _ h8 rfl ?_
          intro u9 g8 ho
          replace h7 := h7.only ho (Ne.symm hne)
          replace hv20 := hv20.only ho (hv20.ne_blk h8 (by decide))
          replace hv23 := hv23.only ho (hv23.ne_blk h8 (by decide))
          replace hS := hS.only ho hz8
          replace h8 := g8
          refine hK _ _ hS ?_
          clear hK K g8 ho
          try simp only [Act.put, List.setIfInBounds_toArray, List.set_cons_zero, List.set_cons_succ]
          refine wpAnyH_done (by decide +kernel) ?_ _
          go_wp2_with fail
          go_meet
          case rel => exact ⟨_, _, v20, v23, rfl, rfl, ⟨h7, hv20⟩, ⟨h8, hv23⟩, n20, n23, hne, hS⟩
      · have h7 := Blk.new (u2) #[.int .i64 0, .int .i64 0, .int .i64 0, .slice none 0 0] 30
        have hz7 := hS.size
        try have hne := Nat.ne_of_lt h8.lt
        go_simp
        try replace h8 := h8.alloc (.cells #[.int .i64 0, .int .i64 0, .int .i64 0, .slice none 0 0] 30)
        try replace hv20 := hv20.alloc' (.cells #[.int .i64 0, .int .i64 0, .int .i64 0, .slice none 0 0] 30)
        try replace hv23 := hv23.alloc' (.cells #[.int .i64 0, .int .i64 0, .int .i64 0, .slice none 0 0] 30)
        replace hS := hS.alloc (.cells #[.int .i64 0, .int .i64 0, .int .i64 0, .slice none 0 0] 30)
        refine hK _ _ hS ?_
        clear hK K
        generalize World.alloc (u2) (.cells #[.int .i64 0, .int .i64 0, .int .i64 0, .slice none 0 0] 30) = u6 at *
        try simp only [Act.put, List.setIfInBounds_toArray, List.set_cons_zero, List.set_cons_succ]
        refine wpAnyH_ready (rs := [5, 7]) (by decide +kernel) (by simp) (allA 5 (fun K hK => ?_) (allA 7 (fun K hK => ?_) AllReadyH.nil))
        · go_simp
          refine (HM2.out _ (hvy3.below hS (Nat.le_refl _)) (hvx3.below hS (Nat.le_refl _))).mono ?_
          rintro e u5 ⟨v23, rfl, hv23, hb⟩
          have n23 := hv23.2
          replace hv23 := hv23.1.mono hS.size
          replace hv20 := hv20.below hb (Nat.le_refl _)
          try replace h7 := h7.below hb h7.lt
          try replace h8 := h8.below hb h8.lt
          replace hS := hS.call hb
          refine hK _ _ hS ?_
          clear hK K hb
          try simp only [Act.put, List.setIfInBounds_toArray, List.set_cons_zero, List.set_cons_succ]
          refine wpAnyH_ready (rs := [7]) (by decide +kernel) (by simp) (allA 7 (fun K hK => ?_) AllReadyH.nil)
          have h8 := Blk.new (u5) #[.int .i64 0, .int .i64 0, .int .i64 0, .slice none 0 0] 30
          have hz8 := hS.size
          try have hne := Nat.ne_of_gt h7.lt
          go_simp
          try replace h7 := h7.alloc (.cells #[.int .i64 0, .int .i64 0, .int .i64 0, .slice none 0 0] 30)
          try replace hv20 := hv20.alloc' (.cells #[.int .i64 0, .int .i64 0, .int .i64 0, .slice none 0 0] 30)
          try replace hv23 := hv23.alloc' (.cells #[.int .i64 0, .int .i64 0, .int .i64 0, .slice none 0 0] 30)
          replace hS := hS.alloc (.cells #[.int .i64 0, .int .i64 0, .int .i64 0, .slice none 0 0] 30)
          refine hK _ _ hS ?_
          clear hK K
          generalize World.alloc (u5) (.cells #[.int .i64 0, .int .i64 0, .int .i64 0, .slice none 0 0] 30) = u7 at *
          try simp only [Act.put, List.setIfInBounds_toArray, List.set_cons_zero, List.set_cons_succ]
          refine wpAnyH_ready (rs := [8]) (by decide +kernel) (by simp) (allA 8 (fun K hK => ?_) AllReadyH.nil)
          have c20 := hv20.oneCell
          refine wp_store_el _ _ rfl _ rfl _ rfl rfl (el_all c20) _ _ h7 rfl ?_
          intro u8 g7 ho
          replace h8 := h8.only ho hne
          replace hv20 := hv20.only ho (hv20.ne_blk h7 (by decide))
          replace hv23 := hv23.only ho (hv23.ne_blk h7 (by decide))
          replace hS := hS.only ho hz7
          replace h7 := g7
          refine hK _ _ hS ?_
          clear hK K g7 ho
          try simp only [Act.put, List.setIfInBounds_toArray, List.set_cons_zero, List.set_cons_succ]
          refine wpAnyH_ready (rs := [9]) (by decide +kernel) (by simp) (allA 9 (fun K hK => ?_) AllReadyH.nil)
          have c23 := hv23.oneCell
          refine wp_store_el _ _ rfl _ rfl _ rfl rfl (el_all c23) _ _ h8 rfl ?_
          intro u9 g8 ho
          replace h7 := h7.only ho (Ne.symm hne)
          replace hv20 := hv20.only ho (hv20.ne_blk h8 (by decide))
          replace hv23 := hv23.only ho (hv23.ne_blk h8 (by decide))
          replace hS := hS.only ho hz8
          replace h8 := g8
          refine hK _ _ hS ?_
          clear hK K g8 ho
          try simp only [Act.put, List.setIfInBounds_toArray, List.set_cons_zero, List.set_cons_succ]
          refine wpAnyH_done (by decide +kernel) ?_ _
          go_wp2_with fail
          go_meet
          case rel => exact ⟨_, _, v20, v23, rfl, rfl, ⟨h7, hv20⟩, ⟨h8, hv23⟩, n20, n23, hne, hS⟩
        · have h8 := Blk.new (u6) #[.int .i64 0, .int .i64 0, .int .i64 0, .slice none 0 0] 30
          have hz8 := hS.size
          try have hne := Nat.ne_of_gt h7.lt
          go_simp
          try replace h7 := h7.alloc (.cells #[.int .i64 0, .int .i64 0, .int .i64 0, .slice none 0 0] 30)
          try replace hv20 := hv20.alloc' (.cells #[.int .i64 0, .int .i64 0, .int .i64 0, .slice none 0 0] 30)
          try replace hv23 := hv23.alloc' (.cells #[.int .i64 0, .int .i64 0, .int .i64 0, .slice none 0 0] 30)
          replace hS := hS.alloc (.cells #[.int .i64 0, .int .i64 0, .int .i64 0, .slice none 0 0] 30)
          refine hK _ _ hS ?_
          clear hK K
          generalize World.alloc (u6) (.cells #[.int .i64 0, .int .i64 0, .int .i64 0, .slice none 0 0] 30) = u7 at *
          try simp only [Act.put, List.setIfInBounds_toArray, List.set_cons_zero, List.set_cons_succ]
          refine wpAnyH_ready (rs := [5]) (by decide +kernel) (by simp) (allA 5 (fun K hK => ?_) AllReadyH.nil)
          go_simp
          refine (HM2.out _ (hvy3.below hS (Nat.le_refl _)) (hvx3.below hS (Nat.le_refl _))).mono ?_
          rintro e u5 ⟨v23, rfl, hv23, hb⟩
          have n23 := hv23.2
          replace hv23 := hv23.1.mono hS.size
          replace hv20 := hv20.below hb (Nat.le_refl _)
          try replace h7 := h7.below hb h7.lt
          try replace h8 := h8.below hb h8.lt
          replace hS := hS.call hb
          refine hK _ _ hS ?_
          clear hK K hb
          try simp only [Act.put, List.setIfInBounds_toArray, List.set_cons_zero, List.set_cons_succ]
          refine wpAnyH_ready (rs := [8]) (by decide +kernel) (by simp) (allA 8 (fun K hK => ?_) AllReadyH.nil)
          have c20 := hv20.oneCell
          refine wp_store_el _ _ rfl _ rfl _ rfl rfl (el_all c20) _ _ h7 rfl ?_
          intro u8 g7 ho
          replace h8 := h8.only ho hne
          replace hv20 := hv20.only ho (hv20.ne_blk h7 (by decide))
          replace hv23 := hv23.only ho (hv23.ne_blk h7 (by decide))
          replace hS := hS.only ho hz7
          replace h7 := g7
          refine hK _ _ hS ?_
          clear hK K g7 ho
          try simp only [Act.put, List.setIfInBounds_toArray, List.set_cons_zero, List.set_cons_succ]
          refine wpAnyH_ready (rs := [9]) (by decide +kernel) (by simp) (allA 9 (fun K hK => ?_) AllReadyH.nil)
          have c23 := hv23.oneCell
          refine wp_store_el _ _ rfl _ rfl _ rfl rfl (el_all c23) _ _ h8 rfl ?_
          intro u9 g8 ho
          replace h7 := h7.only ho (Ne.symm hne)
          replace hv20 := hv20.only ho (hv20.ne_blk h8 (by decide))
          replace hv23 := hv23.only ho (hv23.ne_blk h8 (by decide))
          replace hS := hS.only ho hz8
          replace h8 := g8
          refine hK _ _ hS ?_
          clear hK K g8 ho
          try simp only [Act.put, List.setIfInBounds_toArray, List.set_cons_zero, List.set_cons_succ]
          refine wpAnyH_done (by decide +kernel) ?_ _
          go_wp2_with fail
          go_meet
          case rel => exact ⟨_, _, v20, v23, rfl, rfl, ⟨h7, hv20⟩, ⟨h8, hv23⟩, n20, n23, hne, hS⟩
      · have h8 := Blk.new (u2) #[.int .i64 0, .int .i64 0, .int .i64 0, .slice none 0 0] 30
        have hz8 := hS.size
        try have hne := Nat.ne_of_gt h7.lt
        go_simp
        try replace h7 := h7.alloc (.cells #[.int .i64 0, .int .i64 0, .int .i64 0, .slice none 0 0] 30)
        try replace hv20 := hv20.alloc' (.cells #[.int .i64 0, .int .i64 0, .int .i64 0, .slice none 0 0] 30)
        try replace hv23 := hv23.alloc' (.cells #[.int .i64 0, .int .i64 0, .int .i64 0, .slice none 0 0] 30)
        replace hS := hS.alloc (.cells #[.int .i64 0, .int .i64 0, .int .i64 0, .slice none 0 0] 30)
        refine hK _ _ hS ?_
        clear hK K
        generalize World.alloc (u2) (.cells #[.int .i64 0, .int .i64 0, .int .i64 0, .slice none 0 0] 30) = u7 at *
        try simp only [Act.put, List.setIfInBounds_toArray, List.set_cons_zero, List.set_cons_succ]
        refine wpAnyH_ready (rs := [5, 6]) (by decide +kernel) (by simp) (allA 5 (fun K hK => ?_) (allA 6 (fun K hK => ?_) AllReadyH.nil))
        · go_simp
          refine (HM2.out _ (hvy3.below hS (Nat.le_refl _)) (hvx3.below hS (Nat.le_refl _))).mono ?_
          rintro e u5 ⟨v23, rfl, hv23, hb⟩
          have n23 := hv23.2
          replace hv23 := hv23.1.mono hS.size
          replace hv20 := hv20.below hb (Nat.le_refl _)
          try replace h7 := h7.below hb h7.lt
          try replace h8 := h8.below hb h8.lt
          replace hS := hS.call hb
          refine hK _ _ hS ?_
          clear hK K hb
          try simp only [Act.put, List.setIfInBounds_toArray, List.set_cons_zero, List.set_cons_succ]
          refine wpAnyH_ready (rs := [6]) (by decide +kernel) (by simp) (allA 6 (fun K hK => ?_) AllReadyH.nil)
          have h7 := Blk.new (u5) #[.int .i64 0, .int .i64 0, .int .i64 0, .slice none 0 0] 30
          have hz7 := hS.size
          try have hne := Nat.ne_of_lt h8.lt
          go_simp
          try replace h8 := h8.alloc (.cells #[.int .i64 0, .int .i64 0, .int .i64 0, .slice none 0 0] 30)
          try replace hv20 := hv20.alloc' (.cells #[.int .i64 0, .int .i64 0, .int .i64 0, .slice none 0 0] 30)
          try replace hv23 := hv23.alloc' (.cells #[.int .i64 0, .int .i64 0, .int .i64 0, .slice none 0 0] 30)
          replace hS := hS.alloc (.cells #[.int .i64 0, .int .i64 0, .int .i64 0, .slice none 0 0] 30)
          refine hK _ _ hS ?_
          clear hK K
          generalize World.alloc (u5) (.cells #[.int .i64 0, .int .i64 0, .int .i64 0, .slice none 0 0] 30) = u6 at *
          try simp only [Act.put, List.setIfInBounds_toArray, List.set_cons_zero, List.set_cons_succ]
          refine wpAnyH_ready (rs := [8]) (by decide +kernel) (by simp) (allA 8 (fun K hK => ?_) AllReadyH.nil)
          have c20 := hv20.oneCell
          refine wp_store_el _ _ rfl _ rfl _ rfl rfl (el_all c20) _ _ h7 rfl ?_
          intro u8 g7 ho
          replace h8 := h8.only ho hne
          replace hv20 := hv20.only ho (hv20.ne_blk h7 (by decide))
          replace hv23 := hv23.only ho (hv23.ne_blk h7 (by decide))
          replace hS := hS.only ho hz7
          replace h7 := g7
          refine hK _ _ hS ?_
          clear hK K g7 ho
          try simp only [Act.put, List.setIfInBounds_toArray, List.set_cons_zero, List.set_cons_succ]
          refine wpAnyH_ready (rs := [9]) (by decide +kernel) (by simp) (allA 9 (fun K hK => ?_) AllReadyH.nil)
          have c23 := hv23.oneCell
          refine wp_store_el _ _ rfl _ rfl _ rfl rfl (el_all c23) _ _ h8 rfl ?_
          intro u9 g8 ho
          replace h7 := h7.only ho (Ne.symm hne)
          replace hv20 := hv20.only ho (hv20.ne_blk h8 (by decide))
          replace hv23 := hv23.only ho (hv23.ne_blk h8 (by decide))
          replace hS := hS.only ho hz8
          replace h8 := g8
          refine hK _ _ hS ?_
          clear hK K g8 ho
          try simp only [Act.put, List.setIfInBounds_toArray, List.set_cons_zero, List.set_cons_succ]
          refine wpAnyH_done (by decide +kernel) ?_ _
          go_wp2_with fail
          go_meet
          case rel => exact ⟨_, _, v20, v23, rfl, rfl, ⟨h7, hv20⟩, ⟨h8, hv23⟩, n20, n23, hne, hS⟩
        · have h7 := Blk.new (u7) #[.int .i64 0, .int .i64 0, .int .i64 0, .slice none 0 0] 30
          have hz7 := hS.size
          try have hne := Nat.ne_of_lt h8.lt
          go_simp
          try replace h8 := h8.alloc (.cells #[.int .i64 0, .int .i64 0, .int .i64 0, .slice none 0 0] 30)
          try replace hv20 := hv20.alloc' (.cells #[.int .i64 0, .int .i64 0, .int .i64 0, .slice none 0 0] 30)
          try replace hv23 := hv23.alloc' (.cells #[.int .i64 0, .int .i64 0, .int .i64 0, .slice none 0 0] 30)
          replace hS := hS.alloc (.cells #[.int .i64 0, .int .i64 0, .int .i64 0, .slice none 0 0] 30)
          refine hK _ _ hS ?_
          clear hK K
          generalize World.alloc (u7) (.cells #[.int .i64 0, .int .i64 0, .int .i64 0, .slice none 0 0] 30) = u6 at *
          try simp only [Act.put, List.setIfInBounds_toArray, List.set_cons_zero, List.set_cons_succ]
          refine wpAnyH_ready (rs := [5]) (by decide +kernel) (by simp) (allA 5 (fun K hK => ?_) AllReadyH.nil)
          go_simp
          refine (HM2.out _ (hvy3.below hS (Nat.le_refl _)) (hvx3.below hS (Nat.le_refl _))).mono ?_
          rintro e u5 ⟨v23, rfl, hv23, hb⟩
          have n23 := hv23.2
          replace hv23 := hv23.1.mono hS.size
          replace hv20 := hv20.below hb (Nat.le_refl _)
          try replace h7 := h7.below hb h7.lt
          try replace h8 := h8.below hb h8.lt
          replace hS := hS.call hb
          refine hK _ _ hS ?_
          clear hK K hb
          try simp only [Act.put, List.setIfInBounds_toArray, List.set_cons_zero, List.set_cons_succ]
          refine wpAnyH_ready (rs := [8]) (by decide +kernel) (by simp) (allA 8 (fun K hK => ?_) AllReadyH.nil)
          have c20 := hv20.oneCell
          refine wp_store_el _ _ rfl _ rfl _ rfl rfl (el_all c20) _ _ h7 rfl ?_
          intro u8 g7 ho
          replace h8 := h8.only ho hne
          replace hv20 := hv20.only ho (hv20.ne_blk h7 (by decide))
          replace hv23 := hv23.only ho (hv23.ne_blk h7 (by decide))
          replace hS := hS.only ho hz7
          replace h7 := g7
          refine hK _ _ hS ?_
          clear hK K g7 ho
          try simp only [Act.put, List.setIfInBounds_toArray, List.set_cons_zero, List.set_cons_succ]
          refine wpAnyH_ready (rs := [9]) (by decide +kernel) (by simp) (allA 9 (fun K hK => ?_) AllReadyH.nil)
          have c23 := hv23.oneCell
          refine wp_store_el _ _ rfl _ rfl _ rfl rfl (el_all c23) _ _ h8 rfl ?_
          intro u9 g8 ho
          replace h7 := h7.only ho (Ne.symm hne)
          replace hv20 := hv20.only ho (hv20.ne_blk h8 (by decide))
          replace hv23 := hv23.only ho (hv23.ne_blk h8 (by decide))
          replace hS := hS.only ho hz8
          replace h8 := g8
          refine hK _ _ hS ?_
          clear hK K g8 ho
          try simp only [Act.put, List.setIfInBounds_toArray, List.set_cons_zero, List.set_cons_succ]
          refine wpAnyH_done (by decide +kernel) ?_ _
          go_wp2_with fail
          go_meet
          case rel => exact ⟨_, _, v20, v23, rfl, rfl, ⟨h7, hv20⟩, ⟨h8, hv23⟩, n20, n23, hne, hS⟩
    · have h7 := Blk.new (u0) #[.int .i64 0, .int .i64 0, .int .i64 0, .slice none 0 0] 30
      have hz7 := hS.size
      try have hne := Nat.ne_of_lt h8.lt
      go_simp
      try replace h8 := h8.alloc (.cells #[.int .i64 0, .int .i64 0, .int .i64 0, .slice none 0 0] 30)
      try replace hv20 := hv20.alloc' (.cells #[.int .i64 0, .int .i64 0, .int .i64 0, .slice none 0 0] 30)
      try replace hv23 := hv23.alloc' (.cells #[.int .i64 0, .int .i64 0, .int .i64 0, .slice none 0 0] 30)
      replace hS := hS.alloc (.cells #[.int .i64 0, .int .i64 0, .int .i64 0, .slice none 0 0] 30)
      refine hK _ _ hS ?_
      clear hK K
      generalize World.alloc (u0) (.cells #[.int .i64 0, .int .i64 0, .int .i64 0, .slice none 0 0] 30) = u6 at *
      try simp only [Act.put, List.setIfInBounds_toArray, List.set_cons_zero, List.set_cons_succ]
      refine wpAnyH_ready (rs := [2, 7]) (by decide +kernel) (by simp) (allA 2 (fun K hK => ?_) (allA 7 (fun K hK => ?_) AllReadyH.nil))
      · go_simp
        refine (HM1.out _ (hvx3.below hS (Nat.le_refl _)) (hvy3.below hS (Nat.le_refl _))).mono ?_
        rintro e u2 ⟨v20, rfl, hv20, hb⟩
        have n20 := hv20.2
        replace hv20 := hv20.1.mono hS.size
        try replace h7 := h7.below hb h7.lt
        try replace h8 := h8.below hb h8.lt
        replace hS := hS.call hb
        refine hK _ _ hS ?_
        clear hK K hb
        try simp only [Act.put, List.setIfInBounds_toArray, List.set_cons_zero, List.set_cons_succ]
        refine wpAnyH_ready (rs := [5, 7]) (by decide +kernel) (by simp) (allA 5 (fun K hK => ?_) (allA 7 (fun K hK => ?_) AllReadyH.nil))
        · go_simp
          refine (HM2.out _ (hvy3.below hS (Nat.le_refl _)) (hvx3.below hS (Nat.le_refl _))).mono ?_
          rintro e u5 ⟨v23, rfl, hv23, hb⟩
          have n23 := hv23.2
          replace hv23 := hv23.1.mono hS.size
          replace hv20 := hv20.below hb (Nat.le_refl _)
          try replace h7 := h7.below hb h7.lt
          try replace h8 := h8.below hb h8.lt
          replace hS := hS.call hb
          refine hK _ _ hS ?_
          clear hK K hb
          try simp only [Act.put, List.setIfInBounds_toArray, List.set_cons_zero, List.set_cons_succ]
          refine wpAnyH_ready (rs := [7]) (by decide +kernel) (by simp) (allA 7 (fun K hK => ?_) AllReadyH.nil)
          have h8 := Blk.new (u5) #[.int .i64 0, .int .i64 0, .int .i64 0, .slice none 0 0] 30
          have hz8 := hS.size
          try have hne := Nat.ne_of_gt h7.lt
          go_simp
          try replace h7 := h7.alloc (.cells #[.int .i64 0, .int .i64 0, .int .i64 0, .slice none 0 0] 30)
          try replace hv20 := hv20.alloc' (.cells #[.int .i64 0, .int .i64 0, .int .i64 0, .slice none 0 0] 30)
          try replace hv23 := hv23.alloc' (.cells #[.int .i64 0, .int .i64 0, .int .i64 0, .slice none 0 0] 30)
          replace hS := hS.alloc (.cells #[.int .i64 0, .int .i64 0, .int .i64 0, .slice none 0 0] 30)
          refine hK _ _ hS ?_
          clear hK K
          generalize World.alloc (u5) (.cells #[.int .i64 0, .int .i64 0, .int .i64 0, .slice none 0 0] 30) = u7 at *
          try simp only [Act.put, List.setIfInBounds_toArray, List.set_cons_zero, List.set_cons_succ]
          refine wpAnyH_ready (rs := [8]) (by decide +kernel) (by simp) (allA 8 (fun K hK => ?_) AllReadyH.nil)
          have c20 := hv20.oneCell
          refine wp_store_el _ _ rfl _ rfl _ rfl rfl (el_all c20) _ _ h7 rfl ?_
          intro u8 g7 ho
          replace h8 := h8.only ho hne
          replace hv20 := hv20.only ho (hv20.ne_blk h7 (by decide))
          replace hv23 := hv23.only ho (hv23.ne_blk h7 (by decide))
          replace hS := hS.only ho hz7
          replace h7 := g7
          refine hK _ _ hS ?_
          clear hK K g7 ho
          try simp only [Act.put, List.setIfInBounds_toArray, List.set_cons_zero, List.set_cons_succ]
          refine wpAnyH_ready (rs := [9]) (by decide +kernel) (by simp) (allA 9 (fun K hK => ?_) AllReadyH.nil)
          have c23 := hv23.oneCell
          refine wp_store_el _ _ rfl _ rfl _ rfl rfl (el_all c23) _ _ h8 rfl ?_
          intro u9 g8 ho
          replace h7 := h7.only ho (Ne.symm hne)
          replace hv20 := hv20.only ho (hv20.ne_blk h8 (by decide))
          replace hv23 := hv23.only ho (hv23.ne_blk h8 (by decide))
          replace hS := hS.only ho hz8
          replace h8 := g8
          refine hK _ _ hS ?_
          clear hK K g8 ho
          try simp only [Act.put, List.setIfInBounds_toArray, List.set_cons_zero, List.set_cons_succ]
          refine wpAnyH_done (by decide +kernel) ?_ _
          go_wp2_with fail
          go_meet
          case rel => exact ⟨_, _, v20, v23, rfl, rfl, ⟨h7, hv20⟩, ⟨h8, hv23⟩, n20, n23, hne, hS⟩
        · have h8 := Blk.new (u2) #[.int .i64 0, .int .i64 0, .int .i64 0, .slice none 0 0] 30
          have hz8 := hS.size
          try have hne := Nat.ne_of_gt h7.lt
          go_simp
          try replace h7 := h7.alloc (.cells #[.int .i64 0, .int .i64 0, .int .i64 0, .slice none 0 0] 30)
          try replace hv20 := hv20.alloc' (.cells #[.int .i64 0, .int .i64 0, .int .i64 0, .slice none 0 0] 30)
          try replace hv23 := hv23.alloc' (.cells #[.int .i64 0, .int .i64 0, .int .i64 0, .slice none 0 0] 30)
          replace hS := hS.alloc (.cells #[.int .i64 0, .int .i64 0, .int .i64 0, .slice none 0 0] 30)
          refine hK _ _ hS ?_
          clear hK K
          generalize World.alloc (u2) (.cells #[.int .i64 0, .int .i64 0, .int .i64 0, .slice none 0 0] 30) = u7 at *
          try simp only [Act.put, List.setIfInBounds_toArray, List.set_cons_zero, List.set_cons_succ]
          refine wpAnyH_ready (rs := [5]) (by decide +kernel) (by simp) (allA 5 (fun K hK => ?_) AllReadyH.nil)
          go_simp
          refine (HM2.out _ (hvy3.below hS (Nat.le_refl _)) (hvx3.below hS (Nat.le_refl _))).mono ?_
          rintro e u5 ⟨v23, rfl, hv23, hb⟩
          have n23 := hv23.2
          replace hv23 := hv23.1.mono hS.size
          replace hv20 := hv20.below hb (Nat.le_refl _)
          try replace h7 := h7.below hb h7.lt
          try replace h8 := h8.below hb h8.lt
          replace hS := hS.call hb
          refine hK _ _ hS ?_
          clear hK K hb
          try simp only [Act.put, List.setIfInBounds_toArray, List.set_cons_zero, List.set_cons_succ]
          refine wpAnyH_ready (rs := [8]) (by decide +kernel) (by simp) (allA 8 (fun K hK => ?_) AllReadyH.nil)
          have c20 := hv20.oneCell
          refine wp_store_el _ _ rfl _ rfl _ rfl rfl (el_all c20) _ _ h7 rfl ?_
          intro u8 g7 ho
          replace h8 := h8.only ho hne
          replace hv20 := hv20.only ho (hv20.ne_blk h7 (by decide))
          replace hv23 := hv23.only ho (hv23.ne_blk h7 (by decide))
          replace hS := hS.only ho hz7
          replace h7 := g7
          refine hK _ _ hS ?_
          clear hK K g7 ho
          try simp only [Act.put, List.setIfInBounds_toArray, List.set_cons_zero, List.set_cons_succ]
          refine wpAnyH_ready (rs := [9]) (by decide +kernel) (by simp) (allA 9 (fun K hK => ?_) AllReadyH.nil)
          have c23 := hv23.oneCell
          refine wp_store_el _ _ rfl _ rfl _ rfl rfl (el_all c23) _ _ h8 rfl ?_
          intro u9 g8 ho
          replace h7 := h7.only ho (Ne.symm hne)
          replace hv20 := hv20.only ho (hv20.ne_blk h8 (by decide))
          replace hv23 := hv23.only ho (hv23.ne_blk h8 (by decide))
          replace hS := hS.only ho hz8
          replace h8 := g8
          refine hK _ _ hS ?_
          clear hK K g8 ho
          try simp only [Act.put, List.setIfInBounds_toArray, List.set_cons_zero, List.set_cons_succ]
          refine wpAnyH_done (by decide +kernel) ?_ _
          go_wp2_with fail
          go_meet
          case rel => exact ⟨_, _, v20, v23, rfl, rfl, ⟨h7, hv20⟩, ⟨h8, hv23⟩, n20, n23, hne, hS⟩
      · have h8 := Blk.new (u6) #[.int .i64 0, .int .i64 0, .int .i64 0, .slice none 0 0] 30
        have hz8 := hS.size
        try have hne := Nat.ne_of_gt h7.lt
        go_simp
        try replace h7 := h7.alloc (.cells #[.int .i64 0, .int .i64 0, .int .i64 0, .slice none 0 0] 30)
        try replace hv20 := hv20.alloc' (.cells #[.int .i64 0, .int .i64 0, .int .i64 0, .slice none 0 0] 30)
        try replace hv23 := hv23.alloc' (.cells #[.int .i64 0, .int .i64 0, .int .i64 0, .slice none 0 0] 30)
        replace hS := hS.alloc (.cells #[.int .i64 0, .int .i64 0, .int .i64 0, .slice none 0 0] 30)
        refine hK _ _ hS ?_
        clear hK K
        generalize World.alloc (u6) (.cells #[.int .i64 0, .int .i64 0, .int .i64 0, .slice none 0 0] 30) = u7 at *
        try simp only [Act.put, List.setIfInBounds_toArray, List.set_cons_zero, List.set_cons_succ]
        refine wpAnyH_ready (rs := [2]) (by decide +kernel) (by simp) (allA 2 (fun K hK => ?_) AllReadyH.nil)
        go_simp
        refine (HM1.out _ (hvx3.below hS (Nat.le_refl _)) (hvy3.below hS (Nat.le_refl _))).mono ?_
        rintro e u2 ⟨v20, rfl, hv20, hb⟩
        have n20 := hv20.2
        replace hv20 := hv20.1.mono hS.size
        try replace h7 := h7.below hb h7.lt
        try replace h8 := h8.below hb h8.lt
        replace hS := hS.call hb
        refine hK _ _ hS ?_
        clear hK K hb
        try simp only [Act.put, List.setIfInBounds_toArray, List.set_cons_zero, List.set_cons_succ]
        refine wpAnyH_ready (rs := [5]) (by decide +kernel) (by simp) (allA 5 (fun K hK => ?_) AllReadyH.nil)
        go_simp
        refine (HM2.out _ (hvy3.below hS (Nat.le_refl _)) (hvx3.below hS (Nat.le_refl _))).mono ?_
        rintro e u5 ⟨v23, rfl, hv23, hb⟩
        have n23 := hv23.2
        replace hv23 := hv23.1.mono hS.size
        replace hv20 := hv20.below hb (Nat.le_refl _)
        try replace h7 := h7.below hb h7.lt
        try replace h8 := h8.below hb h8.lt
        replace hS := hS.call hb
        refine hK _ _ hS ?_
        clear hK K hb
        try simp only [Act.put, List.setIfInBounds_toArray, List.set_cons_zero, List.set_cons_succ]
        refine wpAnyH_ready (rs := [8]) (by decide +kernel) (by simp) (allA 8 (fun K hK => ?_) AllReadyH.nil)
        have c20 := hv20.oneCell
        refine wp_store_el _ _ rfl _ rfl _ rfl rfl (el_all c20) _ _ h7 rfl ?_
        intro u8 g7 ho
        replace h8 := h8.only ho hne
        replace hv20 := hv20.only ho (hv20.ne_blk h7 (by decide))
        replace hv23 := hv23.only ho (hv23.ne_blk h7 (by decide))
        replace hS := hS.only ho hz7
        replace h7 := g7
        refine hK _ _ hS ?_
        clear hK K g7 ho
        try simp only [Act.put, List.setIfInBounds_toArray, List.set_cons_zero, List.set_cons_succ]
        refine wpAnyH_ready (rs := [9]) (by decide +kernel) (by simp) (allA 9 (fun K hK => ?_) AllReadyH.nil)
        have c23 := hv23.oneCell
        refine wp_store_el _ _ rfl _ rfl _ rfl rfl (el_all c23) _ _ h8 rfl ?_
        intro u9 g8 ho
        replace h7 := h7.only ho (Ne.symm hne)
        replace hv20 := hv20.only ho (hv20.ne_blk h8 (by decide))
        replace hv23 := hv23.only ho (hv23.ne_blk h8 (by decide))
        replace hS := hS.only ho hz8
        replace h8 := g8
        refine hK _ _ hS ?_
        clear hK K g8 ho
        try simp only [Act.put, List.setIfInBounds_toArray, List.set_cons_zero, List.set_cons_succ]
        refine wpAnyH_done (by decide +kernel) ?_ _
        go_wp2_with fail
        go_meet
        case rel => exact ⟨_, _, v20, v23, rfl, rfl, ⟨h7, hv20⟩, ⟨h8, hv23⟩, n20, n23, hne, hS⟩
    · have h8 := Blk.new (u0) #[.int .i64 0, .int .i64 0, .int .i64 0, .slice none 0 0] 30
      have hz8 := hS.size
      try have hne := Nat.ne_of_gt h7.lt
      go_simp
      try replace h7 := h7.alloc (.cells #[.int .i64 0, .int .i64 0, .int .i64 0, .slice none 0 0] 30)
      try replace hv20 := hv20.alloc' (.cells #[.int .i64 0, .int .i64 0, .int .i64 0, .slice none 0 0] 30)
      try replace hv23 := hv23.alloc' (.cells #[.int .i64 0, .int .i64 0, .int .i64 0, .slice none 0 0] 30)
      replace hS := hS.alloc (.cells #[.int .i64 0, .int .i64 0, .int .i64 0, .slice none 0 0] 30)
      refine hK _ _ hS ?_
      clear hK K
      generalize World.alloc (u0) (.cells #[.int .i64 0, .int .i64 0, .int .i64 0, .slice none 0 0] 30) = u7 at *
      try simp only [Act.put, List.setIfInBounds_toArray, List.set_cons_zero, List.set_cons_succ]
      refine wpAnyH_ready (rs := [2, 6]) (by decide +kernel) (by simp) (allA 2 (fun K hK => ?_) (allA 6 (fun K hK => ?_) AllReadyH.nil))
      · go_simp
        refine (HM1.out _ (hvx3.below hS (Nat.le_refl _)) (hvy3.below hS (Nat.le_refl _))).mono ?_
        rintro e u2 ⟨v20, rfl, hv20, hb⟩
        have n20 := hv20.2
        replace hv20 := hv20.1.mono hS.size
        try replace h7 := h7.below hb h7.lt
        try replace h8 := h8.below hb h8.lt
        replace hS := hS.call hb
        refine hK _ _ hS ?_
        clear hK K hb
        try simp only [Act.put, List.setIfInBounds_toArray, List.set_cons_zero, List.set_cons_succ]
        refine wpAnyH_ready (rs := [5, 6]) (by decide +kernel) (by simp) (allA 5 (fun K hK => ?_) (allA 6 (fun K hK => ?_) AllReadyH.nil))
        · go_simp
          refine (HM2.out _ (hvy3.below hS (Nat.le_refl _)) (hvx3.below hS (Nat.le_refl _))).mono ?_
          rintro e u5 ⟨v23, rfl, hv23, hb⟩
          have n23 := hv23.2
          replace hv23 := hv23.1.mono hS.size
          replace hv20 := hv20.below hb (Nat.le_refl _)
          try replace h7 := h7.below hb h7.lt
          try replace h8 := h8.below hb h8.lt
          replace hS := hS.call hb
          refine hK _ _ hS ?_
          clear hK K hb
          try simp only [Act.put, List.setIfInBounds_toArray, List.set_cons_zero, List.set_cons_succ]
          refine wpAnyH_ready (rs := [6]) (by decide +kernel) (by simp) (allA 6 (fun K hK => ?_) AllReadyH.nil)
          have h7 := Blk.new (u5) #[.int .i64 0, .int .i64 0, .int .i64 0, .slice none 0 0] 30
          have hz7 := hS.size
          try have hne := Nat.ne_of_lt h8.lt
          go_simp
          try replace h8 := h8.alloc (.cells #[.int .i64 0, .int .i64 0, .int .i64 0, .slice none 0 0] 30)
          try replace hv20 := hv20.alloc' (.cells #[.int .i64 0, .int .i64 0, .int .i64 0, .slice none 0 0] 30)
          try replace hv23 := hv23.alloc' (.cells #[.int .i64 0, .int .i64 0, .int .i64 0, .slice none 0 0] 30)
          replace hS := hS.alloc (.cells #[.int .i64 0, .int .i64 0, .int .i64 0, .slice none 0 0] 30)
          refine hK _ _ hS ?_
          clear hK K
          generalize World.alloc (u5) (.cells #[.int .i64 0, .int .i64 0, .int .i64 0, .slice none 0 0] 30) = u6 at *
          try simp only [Act.put, List.setIfInBounds_toArray, List.set_cons_zero, List.set_cons_succ]
          refine wpAnyH_ready (rs := [8]) (by decide +kernel) (by simp) (allA 8 (fun K hK => ?_) AllReadyH.nil)
          have c20 := hv20.oneCell
          refine wp_store_el _ _ rfl _ rfl _ rfl rfl (el_all c20) _ _ h7 rfl ?_
          intro u8 g7 ho
          replace h8 := h8.only ho hne
          replace hv20 := hv20.only ho (hv20.ne_blk h7 (by decide))
          replace hv23 := hv23.only ho (hv23.ne_blk h7 (by decide))
          replace hS := hS.only ho hz7
          replace h7 := g7
          refine hK _ _ hS ?_
          clear hK K g7 ho
          try simp only [Act.put, List.setIfInBounds_toArray, List.set_cons_zero, List.set_cons_succ]
          refine wpAnyH_ready (rs := [9]) (by decide +kernel) (by simp) (allA 9 (fun K hK => ?_) AllReadyH.nil)
          have c23 := hv23.oneCell
          refine wp_store_el _ _ rfl _ rfl _ rfl rfl (el_all c23) _ _ h8 rfl ?_
          intro u9 g8 ho
          replace h7 := h7.only ho (Ne.symm hne)
          replace hv20 := hv20.only ho (hv20.ne_blk h8 (by decide))
          replace hv23 := hv23.only ho (hv23.ne_blk h8 (by decide))
          replace hS := hS.only ho hz8
          replace h8 := g8
          refine hK _ _ hS ?_
          clear hK K g8 ho
          try simp only [Act.put, List.setIfInBounds_toArray, List.set_cons_zero, List.set_cons_succ]
          refine wpAnyH_done (by decide +kernel) ?_ _
          go_wp2_with fail
          go_meet
          case rel => exact ⟨_, _, v20, v23, rfl, rfl, ⟨h7, hv20⟩, ⟨h8, hv23⟩, n20, n23, hne, hS⟩
        · have h7 := Blk.new (u2) #[.int .i64 0, .int .i64 0, .int .i64 0, .slice none 0 0] 30
          have hz7 := hS.size
          try have hne := Nat.ne_of_lt h8.lt
          go_simp
          try replace h8 := h8.alloc (.cells #[.int .i64 0, .int .i64 0, .int .i64 0, .slice none 0 0] 30)
          try replace hv20 := hv20.alloc' (.cells #[.int .i64 0, .int .i64 0, .int .i64 0, .slice none 0 0] 30)
          try replace hv23 := hv23.alloc' (.cells #[.int .i64 0, .int .i64 0, .int .i64 0, .slice none 0 0] 30)
          replace hS := hS.alloc (.cells #[.int .i64 0, .int .i64 0, .int .i64 0, .slice none 0 0] 30)
          refine hK _ _ hS ?_
          clear hK K
          generalize World.alloc (u2) (.cells #[.int .i64 0, .int .i64 0, .int .i64 0, .slice none 0 0] 30) = u6 at *
          try simp only [Act.put, List.setIfInBounds_toArray, List.set_cons_zero, List.set_cons_succ]
          refine wpAnyH_ready (rs := [5]) (by decide +kernel) (by simp) (allA 5 (fun K hK => ?_) AllReadyH.nil)
          go_simp
          refine (HM2.out _ (hvy3.below hS (Nat.le_refl _)) (hvx3.below hS (Nat.le_refl _))).mono ?_
          rintro e u5 ⟨v23, rfl, hv23, hb⟩
          have n23 := hv23.2
          replace hv23 := hv23.1.mono hS.size
          replace hv20 := hv20.below hb (Nat.le_refl _)
          try replace h7 := h7.below hb h7.lt
          try replace h8 := h8.below hb h8.lt
          replace hS := hS.call hb
          refine hK _ _ hS ?_
          clear hK K hb
          try simp only [Act.put, List.setIfInBounds_toArray, List.set_cons_zero, List.set_cons_succ]
          refine wpAnyH_ready (rs := [8]) (by decide +kernel) (by simp) (allA 8 (fun K hK => ?_) AllReadyH.nil)
          have c20 := hv20.oneCell
          refine wp_store_el _ _ rfl _ rfl _ rfl rfl (el_all c20) _ _ h7 rfl ?_
          intro u8 g7 ho
          replace h8 := h8.only ho hne
          replace hv20 := hv20.only ho (hv20.ne_blk h7 (by decide))
          replace hv23 := hv23.only ho (hv23.ne_blk h7 (by decide))
          replace hS := hS.only ho hz7
          replace h7 := g7
          refine hK _ _ hS ?_
          clear hK K g7 ho
          try simp only [Act.put, List.setIfInBounds_toArray, List.set_cons_zero, List.set_cons_succ]
          refine wpAnyH_ready (rs := [9]) (by decide +kernel) (by simp) (allA 9 (fun K hK => ?_) AllReadyH.nil)
          have c23 := hv23.oneCell
          refine wp_store_el _ _ rfl _ rfl _ rfl rfl (el_all c23) _ _ h8 rfl ?_
          intro u9 g8 ho
          replace h7 := h7.only ho (Ne.symm hne)
          replace hv20 := hv20.only ho (hv20.ne_blk h8 (by decide))
          replace hv23 := hv23.only ho (hv23.ne_blk h8 (by decide))
          replace hS := hS.only ho hz8
          replace h8 := g8
          refine hK _ _ hS ?_
          clear hK K g8 ho
          try simp only [Act.put, List.setIfInBounds_toArray, List.set_cons_zero, List.set_cons_succ]
          refine wpAnyH_done (by decide +kernel) ?_ _
          go_wp2_with fail
          go_meet
          case rel => exact ⟨_, _, v20, v23, rfl, rfl, ⟨h7, hv20⟩, ⟨h8, hv23⟩, n20, n23, hne, hS⟩
      · have h7 := Blk.new (u7) #[.int .i64 0, .int .i64 0, .int .i64 0, .slice none 0 0] 30
        have hz7 := hS.size
        try have hne := Nat.ne_of_lt h8.lt
        go_simp
        try replace h8 := h8.alloc (.cells #[.int .i64 0, .int .i64 0, .int .i64 0, .slice none 0 0] 30)
        try replace hv20 := hv20.alloc' (.cells #[.int .i64 0, .int .i64 0, .int .i64 0, .slice none 0 0] 30)
        try replace hv23 := hv23.alloc' (.cells #[.int .i64 0, .int .i64 0, .int .i64 0, .slice none 0 0] 30)
        replace hS := hS.alloc (.cells #[.int .i64 0, .int .i64 0, .int .i64 0, .slice none 0 0] 30)
        refine hK _ _ hS ?_
        clear hK K
        generalize World.alloc (u7) (.cells #[.int .i64 0, .int .i64 0, .int .i64 0, .slice none 0 0] 30) = u6 at *
        try simp only [Act.put, List.setIfInBounds_toArray, List.set_cons_zero, List.set_cons_succ]
        refine wpAnyH_ready (rs := [2]) (by decide +kernel) (by simp) (allA 2 (fun K hK => ?_) AllReadyH.nil)
        go_simp
        refine (HM1.out _ (hvx3.below hS (Nat.le_refl _)) (hvy3.below hS (Nat.le_refl _))).mono ?_
        rintro e u2 ⟨v20, rfl, hv20, hb⟩
        have n20 := hv20.2
        replace hv20 := hv20.1.mono hS.size
        try replace h7 := h7.below hb h7.lt
        try replace h8 := h8.below hb h8.lt
        replace hS := hS.call hb
        refine hK _ _ hS ?_
        clear hK K hb
        try simp only [Act.put, List.setIfInBounds_toArray, List.set_cons_zero, List.set_cons_succ]
        refine wpAnyH_ready (rs := [5]) (by decide +kernel) (by simp) (allA 5 (fun K hK => ?_) AllReadyH.nil)
        go_simp
        refine (HM2.out _ (hvy3.below hS (Nat.le_refl _)) (hvx3.below hS (Nat.le_refl _))).mono ?_
        rintro e u5 ⟨v23, rfl, hv23, hb⟩
        have n23 := hv23.2
        replace hv23 := hv23.1.mono hS.size
        replace hv20 := hv20.below hb (Nat.le_refl _)
        try replace h7 := h7.below hb h7.lt
        try replace h8 := h8.below hb h8.lt
        replace hS := hS.call hb
        refine hK _ _ hS ?_
        clear hK K hb
        try simp only [Act.put, List.setIfInBounds_toArray, List.set_cons_zero, List.set_cons_succ]
        refine wpAnyH_ready (rs := [8]) (by decide +kernel) (by simp) (allA 8 (fun K hK => ?_) AllReadyH.nil)
        have c20 := hv20.oneCell
        refine wp_store_el _ _ rfl _ rfl _ rfl rfl (el_all c20) _ _ h7 rfl ?_
        intro u8 g7 ho
        replace h8 := h8.only ho hne
        replace hv20 := hv20.only ho (hv20.ne_blk h7 (by decide))
        replace hv23 := hv23.only ho (hv23.ne_blk h7 (by decide))
        replace hS := hS.only ho hz7
        replace h7 := g7
        refine hK _ _ hS ?_
        clear hK K g7 ho
        try simp only [Act.put, List.setIfInBounds_toArray, List.set_cons_zero, List.set_cons_succ]
        refine wpAnyH_ready (rs := [9]) (by decide +kernel) (by simp) (allA 9 (fun K hK => ?_) AllReadyH.nil)
        have c23 := hv23.oneCell
        refine wp_store_el _ _ rfl _ rfl _ rfl rfl (el_all c23) _ _ h8 rfl ?_
        intro u9 g8 ho
        replace h7 := h7.only ho (Ne.symm hne)
        replace hv20 := hv20.only ho (hv20.ne_blk h8 (by decide))
        replace hv23 := hv23.only ho (hv23.ne_blk h8 (by decide))
        replace hS := hS.only ho hz8
        replace h8 := g8
        refine hK _ _ hS ?_
        clear hK K g8 ho
        try simp only [Act.put, List.setIfInBounds_toArray, List.set_cons_zero, List.set_cons_succ]
        refine wpAnyH_done (by decide +kernel) ?_ _
        go_wp2_with fail
        go_meet
        case rel => exact ⟨_, _, v20, v23, rfl, rfl, ⟨h7, hv20⟩, ⟨h8, hv23⟩, n20, n23, hne, hS⟩

  case rest =>
  obtain ⟨b7, b8, v20, v23, rfl, rfl, O7, O8, n20, n23, hne, hb4⟩ := hcut
  obtain ⟨ad7, cap7, rfl, hc7, hm7⟩ := O7.own.slice
  obtain ⟨ad8, cap8, rfl, hc8, hm8⟩ := O8.own.slice
  have hR4 := hR3.below hb4 hR3.lt
  have hbl4 := hbl3.trans (hb4.mono (by omega))
  have hz4 := hb4.size
  have hl7 := O7.blk.cells
  have hl8 := O8.blk.cells
  simp only at hl7 hl8
  clear hX3 hY3 hR3 hvx3 hvy3 hbl3 HM1 HM2
  by_cases hA : A.length ≤ 140
  · by_cases hB : B.length ≤ 140
    · have HSm := Lib.hid (fun W h1 h2 => specSumT_calls P C (-1) N A B hp hp97 hn1 hn8 (by omega) HnA.out HnB.out (by omega) (by omega) (.slice ad7 A.length cap7) (.slice ad8 B.length cap8) W h1 h2)
      unfold el at HSm
      go_wp2_with (first | (refine load_el rfl _ rfl _ rfl _ rfl _ O7.blk ?_) | (refine load_el rfl _ rfl _ rfl _ rfl _ O8.blk ?_))
      refine (HSm.out _ ⟨O7.own.mono (Nat.zero_le _), n20⟩ ⟨O8.own.mono (Nat.zero_le _), n23⟩).mono ?_
      rintro e w5 ⟨v5, rfl, hv5, hb5⟩
      have HT := Lib.hid (fun W h => specTold_calls ⟨P, C, N, sumT P (-1) A B⟩ v5 W w3.heap.size h)
      unfold El.val El.cells at HT
      have hR5 := hR4.below hb5 hR4.lt
      have hbl5 := hbl4.trans (hb5.mono (by omega))
      have hv5' := hv5.1.mono (base' := w3.heap.size) (by omega)
      have hz5 := hb5.size
      clear hR4 hbl4 O7 O8 hl7 hl8 hb4 hb5 hv5 HSm
      go_wp2_with fail
      refine (HT.out _ hv5').mono ?_
      rintro e w6 ⟨v6, rfl, hv6, hb6⟩
      unfold El.val El.cells
      have hR6 := hR5.below hb6 hR5.lt
      have hbl6 := hbl5.trans (hb6.mono (by omega))
      have h1c := hv6.oneCell
      have hz6 := hb6.size
      generalize hRe : (El.told ⟨P, C, N, sumT P (-1) A B⟩) = R at *
      have HRe := Lib.hid hRe
      clear hRe
      clear hR5 hbl5 hv5' hb6 HT
      go_wp2_with (first | (refine store_el rfl _ _ rfl _ rfl _ rfl rfl (el_all h1c) _ _ (Blk.newAt _ _ _ rfl) rfl ?_; intro w7 hD7 ho7; have hR7 := (hR6.alloc _).only ho7 (by omega); have hv7 := (hv6.alloc' _).only ho7 (fun e => by have := (hv6.lt _ e.symm).2; omega); have hbl7 := (hbl6.alloc (by omega) _).trans (ho7.below (by omega))) | (refine load_el rfl _ rfl _ rfl _ rfl _ hD7 ?_) | (refine store_el rfl _ _ rfl _ rfl _ rfl rfl (el_all h1c) _ _ hR7 rfl ?_; intro w9 hR9 ho9))
      refine ret_el_tmp rfl _ rfl _ rfl _ hR9 _ rfl rfl ?_
      try rw [if_pos ⟨hA, hB⟩]
      rw [HRe.out]
      exact ⟨v6, rfl, (hv7.only ho9 (fun e => by have := (hv7.lt _ e.symm).1; omega)).mono (by omega), hbl7.trans (ho9.below (by omega))⟩
    · clear O7 O8 hb4
      go_wp2_with (refine store_el rfl _ _ rfl _ rfl _ rfl rfl (el_all rfl) _ _ hR4 rfl ?_; intro w9 hR9 ho9)
      refine ret_el_tmp rfl _ rfl _ rfl _ hR9 _ rfl rfl ?_
      try rw [if_neg (fun e => hB e.2)]
      exact ⟨_, rfl, TsOwn.nil _ _, hbl4.trans (ho9.below (by omega))⟩
  · clear O7 O8 hb4
    go_wp2_with (refine store_el rfl _ _ rfl _ rfl _ rfl rfl (el_all rfl) _ _ hR4 rfl ?_; intro w9 hR9 ho9)
    refine ret_el_tmp rfl _ rfl _ rfl _ hR9 _ rfl rfl ?_
    try rw [if_neg (fun e => hA e.1)]
    exact ⟨_, rfl, TsOwn.nil _ _, hbl4.trans (ho9.below (by omega))⟩

theorem specCom_calls (x y : El) (vx vy : Value) (w : World) (hx : x.Wf) (hy : y.Wf) (hvx : TsS w 0 vx x.ts) (hvy : TsS w 0 vy y.ts) :
    Calls Try.prog 25 #[x.val vx, y.val vy] w fun e w' => ElRes w.heap.size w w' (x.comR y) e := by
  by_cases h0 : x.both y = 0
  · have hm : x.comR y = (if (x.mul y).ts.length ≤ 140 ∧ (y.mul x).ts.length ≤ 140 then El.told ⟨x.p, x.c, x.n, sumT x.p (-1) (x.mul y).ts (y.mul x).ts⟩ else (El.zero, 3)) := if_pos h0
    rw [hm]
    have HB := fun W h1 h2 => specBoth_calls x y vx vy W hx hy h1 h2
    rw [h0] at HB
    obtain ⟨P, C, N, hX, hY, hp, hp97, hc0, hcp, hn1, hn8, hnx, hny, hl1, hl2⟩ := both_zero hx hy h0
    generalize x.ts = ts at *
    generalize y.ts = us at *
    subst hX hY
    exact specCom_good P C N ts us vx vy w hp hp97 hc0 (by omega) hn1 hn8 hnx hny hl1 hl2 HB hvx hvy
  · have hm : x.comR y = (El.zero, x.both y) := if_neg h0
    rw [hm]
    exact specCom_bad x y vx vy w hx hy hvx hvy h0
end Go.Proofs.Yticmlgnolbccjaa

/- The walk of CommutatorElement: the program. -/
set_option linter.unusedVariables false
set_option linter.unusedSimpArgs false
namespace Go.Proofs.Yticmlgnolbccjaa
open Go.RowKit

set_option maxHeartbeats 8000000 in
set_option maxRecDepth 100000 in
theorem implCom_bad (x y : El) (vx vy : Value) (w : World) (hx : x.Wf) (hy : y.Wf) (hvx : TsS w 0 vx x.ts) (hvy : TsS w 0 vy y.ts) (h0 : ¬ x.both y = 0) :
    Calls Try.prog 26 #[x.val vx, y.val vy] w fun e w' => ElRes w.heap.size w w' (El.zero, x.both y) e := by
  have HB := Lib.hid (fun b T W h1 h2 h3 => wrong_calls x y vx vy b T W hx hy h1 h2 h3)
  have hb0 : (x.both y == 0) = false := by simpa using h0
  have hb1 : (x.both y != 0) = true := by simpa using h0
  have hbz := run_build_zero
  clear h0
  generalize x.both y = K at *
  unfold El.val El.cells
  have hX := ((Blk.new w #[.int .i64 x.p, .int .i64 x.c, .int .i64 x.n, vx] 30).alloc (.cells #[.int .i64 y.p, .int .i64 y.c, .int .i64 y.n, vy] 30)).alloc (.cells #[.int .i64 0, .int .i64 0, .int .i64 0, .slice none 0 0] 30)
  have hY := (Blk.newAt (w.alloc (.cells #[.int .i64 x.p, .int .i64 x.c, .int .i64 x.n, vx] 30)) #[.int .i64 y.p, .int .i64 y.c, .int .i64 y.n, vy] 30 (b := w.heap.size + 1) (by simp)).alloc (.cells #[.int .i64 0, .int .i64 0, .int .i64 0, .slice none 0 0] 30)
  have hR := Blk.newAt ((w.alloc (.cells #[.int .i64 x.p, .int .i64 x.c, .int .i64 x.n, vx] 30)).alloc (.cells #[.int .i64 y.p, .int .i64 y.c, .int .i64 y.n, vy] 30)) #[.int .i64 0, .int .i64 0, .int .i64 0, .slice none 0 0] 30 (b := w.heap.size + 1 + 1) (by simp)
  have hbl := (((Below.refl w.heap.size w).alloc (Nat.le_refl _) (.cells #[.int .i64 x.p, .int .i64 x.c, .int .i64 x.n, vx] 30)).alloc (by simp) (.cells #[.int .i64 y.p, .int .i64 y.c, .int .i64 y.n, vy] 30)).alloc (by simp; omega) (.cells #[.int .i64 0, .int .i64 0, .int .i64 0, .slice none 0 0] 30)
  have hvx2 := hvx.below hbl (Nat.le_refl _)
  have hvy2 := hvy.below hbl (Nat.le_refl _)
  have hz2 := hR.lt
  have hze := Lib.hid (show w.heap.size + 1 + 1 + 1 = (((w.alloc (.cells #[.int .i64 x.p, .int .i64 x.c, .int .i64 x.n, vx] 30)).alloc (.cells #[.int .i64 y.p, .int .i64 y.c, .int .i64 y.n, vy] 30)).alloc (.cells #[.int .i64 0, .int .i64 0, .int .i64 0, .slice none 0 0] 30)).heap.size by simp)
  clear hvx hvy
  go_enter Try.func26, Try.ntmps26
  go_wp2_with (first | (refine load_el rfl _ rfl _ rfl _ rfl _ hX ?_) | (refine load_el rfl _ rfl _ rfl _ rfl _ hY ?_) | (refine row_els rfl _ _ rfl _ _ _ _ _ _ _ _ rfl rfl ?_))
  generalize ((w.alloc (.cells #[.int .i64 x.p, .int .i64 x.c, .int .i64 x.n, vx] 30)).alloc (.cells #[.int .i64 y.p, .int .i64 y.c, .int .i64 y.n, vy] 30)).alloc (.cells #[.int .i64 0, .int .i64 0, .int .i64 0, .slice none 0 0] 30) = w2 at *
  have hLs := Blk.newAt w2 #[.int .i64 x.p, .int .i64 x.c, .int .i64 x.n, vx, .int .i64 y.p, .int .i64 y.c, .int .i64 y.n, vy] 30 hze.out
  have hR2 := hR.alloc (.cells #[.int .i64 x.p, .int .i64 x.c, .int .i64 x.n, vx, .int .i64 y.p, .int .i64 y.c, .int .i64 y.n, vy] 30)
  refine (HB.out _ _ _ (hvx2.alloc _) (hvy2.alloc _) hLs).mono ?_
  rintro e w3 ⟨rfl, hb3⟩
  have hR3 := hR2.below hb3 hR2.lt
  have hbl3 := (hbl.alloc (by omega) (.cells #[.int .i64 x.p, .int .i64 x.c, .int .i64 x.n, vx, .int .i64 y.p, .int .i64 y.c, .int .i64 y.n, vy] 30)).trans (hb3.mono (by have := hR2.lt; omega))
  clear hX hY hR hvx2 hvy2 hbl hb3 HB hLs hR2 hze
  go_wp2_with (refine store_el rfl _ _ rfl _ rfl _ rfl rfl (el_all rfl) _ _ hR3 rfl ?_; intro w9 hR9 ho9)
  refine ret_el_tmp rfl _ rfl _ rfl _ hR9 _ rfl rfl ?_
  exact ⟨_, rfl, TsOwn.nil _ _, hbl3.trans (ho9.below (by omega))⟩

set_option maxHeartbeats 8000000 in
set_option maxRecDepth 100000 in
theorem implCom_good (P C : Int) (N : Nat) (ts us : List Tm) (vx vy : Value) (w : World) (hp : 2 ≤ P) (hp97 : P ≤ 97) (hc0 : 0 ≤ C) (hcp : C ≤ P) (hn1 : 1 ≤ N) (hn8 : N ≤ 8) (hnx : Nf P N ts) (hny : Nf P N us) (hl1 : ts.length ≤ 140) (hl2 : us.length ≤ 140)
    (hB : ∀ b T W, TsS W 0 vx ts → TsS W 0 vy us → Blk W b #[.int .i64 P, .int .i64 C, .int .i64 N, vx, .int .i64 P, .int .i64 C, .int .i64 N, vy] T → Calls Try.prog 50 #[.slice (some ⟨b, 0, none⟩) 2 2] W fun e w' => e = .returned (.int .i64 0) ∧ Below W.heap.size W w')
    (hvx : TsS w 0 vx ts) (hvy : TsS w 0 vy us) :
    Calls Try.prog 26 #[.agg #[.int .i64 P, .int .i64 C, .int .i64 N, vx], .agg #[.int .i64 P, .int .i64 C, .int .i64 N, vy]] w fun e w' => ElRes w.heap.size w w' (if (mulT P C N ts us).length ≤ 140 ∧ (mulT P C N us ts).length ≤ 140 then El.told ⟨P, C, N, sumT P (-1) (mulT P C N ts us) (mulT P C N us ts)⟩ else (El.zero, 3)) e := by
  have HB := Lib.hid hB
  clear hB
  have HM1 := Lib.hid (fun W h1 h2 => implMulT_calls P C N ts us hp hp97 hc0 hcp hn1 hn8 hnx hny (by omega) (by omega) vx vy W h1 h2)
  have HM2 := Lib.hid (fun W h1 h2 => implMulT_calls P C N us ts hp hp97 hc0 hcp hn1 hn8 hny hnx (by omega) (by omega) vy vx W h1 h2)
  have hnA := mulT_nf (c := C) hp hnx hny
  have hnB := mulT_nf (c := C) hp hny hnx
  unfold el at HM1 HM2
  generalize mulT P C N ts us = A at *
  generalize mulT P C N us ts = B at *
  have HnA := Lib.hid hnA
  have HnB := Lib.hid hnB
  clear hnA hnB
  have hbz := run_build_zero
  clear hnx hny
  have hX := ((Blk.new w #[.int .i64 P, .int .i64 C, .int .i64 N, vx] 30).alloc (.cells #[.int .i64 P, .int .i64 C, .int .i64 N, vy] 30)).alloc (.cells #[.int .i64 0, .int .i64 0, .int .i64 0, .slice none 0 0] 30)
  have hY := (Blk.newAt (w.alloc (.cells #[.int .i64 P, .int .i64 C, .int .i64 N, vx] 30)) #[.int .i64 P, .int .i64 C, .int .i64 N, vy] 30 (b := w.heap.size + 1) (by simp)).alloc (.cells #[.int .i64 0, .int .i64 0, .int .i64 0, .slice none 0 0] 30)
  have hR := Blk.newAt ((w.alloc (.cells #[.int .i64 P, .int .i64 C, .int .i64 N, vx] 30)).alloc (.cells #[.int .i64 P, .int .i64 C, .int .i64 N, vy] 30)) #[.int .i64 0, .int .i64 0, .int .i64 0, .slice none 0 0] 30 (b := w.heap.size + 1 + 1) (by simp)
  have hbl := (((Below.refl w.heap.size w).alloc (Nat.le_refl _) (.cells #[.int .i64 P, .int .i64 C, .int .i64 N, vx] 30)).alloc (by simp) (.cells #[.int .i64 P, .int .i64 C, .int .i64 N, vy] 30)).alloc (by simp; omega) (.cells #[.int .i64 0, .int .i64 0, .int .i64 0, .slice none 0 0] 30)
  have hvx2 := hvx.below hbl (Nat.le_refl _)
  have hvy2 := hvy.below hbl (Nat.le_refl _)
  have hz2 := hR.lt
  have hze := Lib.hid (show w.heap.size + 1 + 1 + 1 = (((w.alloc (.cells #[.int .i64 P, .int .i64 C, .int .i64 N, vx] 30)).alloc (.cells #[.int .i64 P, .int .i64 C, .int .i64 N, vy] 30)).alloc (.cells #[.int .i64 0, .int .i64 0, .int .i64 0, .slice none 0 0] 30)).heap.size by simp)
  clear hvx hvy
  go_enter Try.func26, Try.ntmps26
  go_wp2_with (first | (refine load_el rfl _ rfl _ rfl _ rfl _ hX ?_) | (refine load_el rfl _ rfl _ rfl _ rfl _ hY ?_) | (refine row_els rfl _ _ rfl _ _ _ _ _ _ _ _ rfl rfl ?_))
  generalize ((w.alloc (.cells #[.int .i64 P, .int .i64 C, .int .i64 N, vx] 30)).alloc (.cells #[.int .i64 P, .int .i64 C, .int .i64 N, vy] 30)).alloc (.cells #[.int .i64 0, .int .i64 0, .int .i64 0, .slice none 0 0] 30) = w2 at *
  have hLs := Blk.newAt w2 #[.int .i64 P, .int .i64 C, .int .i64 N, vx, .int .i64 P, .int .i64 C, .int .i64 N, vy] 30 hze.out
  have hba := (Below.refl w2.heap.size w2).alloc (Nat.le_refl _) (.cells #[.int .i64 P, .int .i64 C, .int .i64 N, vx, .int .i64 P, .int .i64 C, .int .i64 N, vy] 30)
  refine (HB.out _ _ _ (hvx2.alloc _) (hvy2.alloc _) hLs).mono ?_
  rintro e w3 ⟨rfl, hb3⟩
  have hb23 := hba.trans (hb3.mono (by simp))
  have hX3 := hX.below hb23 hX.lt
  have hY3 := hY.below hb23 hY.lt
  have hR3 := hR.below hb23 hR.lt
  have hvx3 := hvx2.below hb23 (Nat.le_refl _)
  have hvy3 := hvy2.below hb23 (Nat.le_refl _)
  have hbl3 := hbl.trans (hb23.mono (by omega))
  have hz3 := hb23.size
  clear hX hY hR hvx2 hvy2 hbl hb3 HB hLs hze hba hb23
  go_wp2_with fail
  go_cut [7, 8] from 17 to 22 (fun v7 v8 wx => ∃ (b7 b8 : Nat) (v20 v23 : Value), v7 = .pointer (some ⟨b7, 0, none⟩) ∧ v8 = .pointer (some ⟨b8, 0, none⟩) ∧ Has wx w3.heap.size b7 ⟨P, C, N, A⟩ v20 A ∧ Has wx w3.heap.size b8 ⟨P, C, N, B⟩ v23 B ∧ b8 ≠ b7 ∧ Below w3.heap.size w3 wx)
  case first =>
    refine wp_region_old (by kernel_rfl) (fun hS => ?_)
    generalize w3.drew = u0 at *
    refine takeA 0 (v := .agg #[.int .i64 P, .int .i64 C, .int .i64 N, vx]) hS ?_ ?_
    · exact fun W hW => held_el hW _ rfl _ rfl _ rfl _ hX3 rfl
    try simp only [Act.put, List.setIfInBounds_toArray, List.set_cons_zero, List.set_cons_succ]
    refine takeA 1 (v := .agg #[.int .i64 P, .int .i64 C, .int .i64 N, vy]) hS ?_ ?_
    · exact fun W hW => held_el hW _ rfl _ rfl _ rfl _ hY3 rfl
    try simp only [Act.put, List.setIfInBounds_toArray, List.set_cons_zero, List.set_cons_succ]
    refine takeA 3 (v := .agg #[.int .i64 P, .int .i64 C, .int .i64 N, vy]) hS ?_ ?_
    · exact fun W hW => held_el hW _ rfl _ rfl _ rfl _ hY3 rfl
    try simp only [Act.put, List.setIfInBounds_toArray, List.set_cons_zero, List.set_cons_succ]
    refine takeA 4 (v := .agg #[.int .i64 P, .int .i64 C, .int .i64 N, vx]) hS ?_ ?_
    · exact fun W hW => held_el hW _ rfl _ rfl _ rfl _ hX3 rfl
    try simp only [Act.put, List.setIfInBounds_toArray, List.set_cons_zero, List.set_cons_succ]
    refine wpAnyH_ready (rs := [2, 6, 7]) (by decide +kernel) (by simp) (allA 2 (fun K hK => ?_) (allA 6 (fun K hK => ?_) (allA 7 (fun K hK => ?_) AllReadyH.nil)))
    · go_simp
      refine (HM1.out _ (hvx3.below hS (Nat.le_refl _)) (hvy3.below hS (Nat.le_refl _))).mono ?_
      rintro e u2 ⟨v20, rfl, hv20, hb⟩
      replace hv20 := hv20.mono hS.size
      try replace h7 := h7.below hb h7.lt
      try replace h8 := h8.below hb h8.lt
      replace hS := hS.call hb
      refine hK _ _ hS ?_
      clear hK K hb
      try simp only [Act.put, List.setIfInBounds_toArray, List.set_cons_zero, List.set_cons_succ]
      refine wpAnyH_ready (rs := [5, 6, 7]) (by decide +kernel) (by simp) (allA 5 (fun K hK => ?_) (allA 6 (fun K hK => ?_) (allA 7 (fun K hK => ?_) AllReadyH.nil)))
      · go_simp
        refine (HM2.out _ (hvy3.below hS (Nat.le_refl _)) (hvx3.below hS (Nat.le_refl _))).mono ?_
        rintro e u5 ⟨v23, rfl, hv23, hb⟩
        replace hv23 := hv23.mono hS.size
        replace hv20 := hv20.below hb (Nat.le_refl _)
        try replace h7 := h7.below hb h7.lt
        try replace h8 := h8.below hb h8.lt
        replace hS := hS.call hb
        refine hK _ _ hS ?_
        clear hK K hb
        try simp only [Act.put, List.setIfInBounds_toArray, List.set_cons_zero, List.set_cons_succ]
        refine wpAnyH_ready (rs := [6, 7]) (by decide +kernel) (by simp) (allA 6 (fun K hK => ?_) (allA 7 (fun K hK => ?_) AllReadyH.nil))
        · have h7 := Blk.new (u5) #[.int .i64 0, .int .i64 0, .int .i64 0, .slice none 0 0] 30
          have hz7 := hS.size
          try have hne := Nat.ne_of_lt h8.lt
          go_simp
          try replace h8 := h8.alloc (.cells #[.int .i64 0, .int .i64 0, .int .i64 0, .slice none 0 0] 30)
          try replace hv20 := hv20.alloc' (.cells #[.int .i64 0, .int .i64 0, .int .i64 0, .slice none 0 0] 30)
          try replace hv23 := hv23.alloc' (.cells #[.int .i64 0, .int .i64 0, .int .i64 0, .slice none 0 0] 30)
          replace hS := hS.alloc (.cells #[.int .i64 0, .int .i64 0, .int .i64 0, .slice none 0 0] 30)
          refine hK _ _ hS ?_
          clear hK K
          generalize World.alloc (u5) (.cells #[.int .i64 0, .int .i64 0, .int .i64 0, .slice none 0 0] 30) = u6 at *
          try simp only [Act.put, List.setIfInBounds_toArray, List.set_cons_zero, List.set_cons_succ]
          refine wpAnyH_ready (rs := [7]) (by decide +kernel) (by simp) (allA 7 (fun K hK => ?_) AllReadyH.nil)
          have h8 := Blk.new (u6) #[.int .i64 0, .int .i64 0, .int .i64 0, .slice none 0 0] 30
          have hz8 := hS.size
          try have hne := Nat.ne_of_gt h7.lt
          go_simp
          try replace h7 := h7.alloc (.cells #[.int .i64 0, .int .i64 0, .int .i64 0, .slice none 0 0] 30)
          try replace hv20 := hv20.alloc' (.cells #[.int .i64 0, .int .i64 0, .int .i64 0, .slice none 0 0] 30)
          try replace hv23 := hv23.alloc' (.cells #[.int .i64 0, .int .i64 0, .int .i64 0, .slice none 0 0] 30)
          replace hS := hS.alloc (.cells #[.int .i64 0, .int .i64 0, .int .i64 0, .slice none 0 0] 30)
          refine hK _ _ hS ?_
          clear hK K
          generalize World.alloc (u6) (.cells #[.int .i64 0, .int .i64 0, .int .i64 0, .slice none 0 0] 30) = u7 at *
          try simp only [Act.put, List.setIfInBounds_toArray, List.set_cons_zero, List.set_cons_succ]
          refine wpAnyH_ready (rs := [8]) (by decide +kernel) (by simp) (allA 8 (fun K hK => ?_) AllReadyH.nil)
          have c20 := hv20.oneCell
          refine wp_store_el _ _ rfl _ rfl _ rfl rfl (el_all c20) _ _ h7 rfl ?_
          intro u8 g7 ho
          replace h8 := h8.only ho hne
          replace hv20 := hv20.only ho (hv20.ne_blk h7 (by decide))
          replace hv23 := hv23.only ho (hv23.ne_blk h7 (by decide))
          replace hS := hS.only ho hz7
          replace h7 := g7
          refine hK _ _ hS ?_
          clear hK K g7 ho
          try simp only [Act.put, List.setIfInBounds_toArray, List.set_cons_zero, List.set_cons_succ]
          refine wpAnyH_ready (rs := [9]) (by decide +kernel) (by simp) (allA 9 (fun K hK => ?_) AllReadyH.nil)
          have c23 := hv23.oneCell
          refine wp_store_el _ _ rfl _ rfl _ rfl rfl (el_all c23) _ _ h8 rfl ?_
          intro u9 g8 ho
          replace h7 := h7.only ho (Ne.symm hne)
          replace hv20 := hv20.only ho (hv20.ne_blk h8 (by decide))
          replace hv23 := hv23.only ho (hv23.ne_blk h8 (by decide))
          replace hS := hS.only ho hz8
          replace h8 := g8
          refine hK _ _ hS ?_
          clear hK K g8 ho
          try simp only [Act.put, List.setIfInBounds_toArray, List.set_cons_zero, List.set_cons_succ]
          refine wpAnyH_done (by decide +kernel) ?_ _
          go_wp2_with fail
          go_meet
          case rel => exact ⟨_, _, v20, v23, rfl, rfl, ⟨h7, hv20⟩, ⟨h8, hv23⟩, hne, hS⟩
        · have h8 := Blk.new (u5) #[.int .i64 0, .int .i64 0, .int .i64 0, .slice none 0 0] 30
          have hz8 := hS.size
          try have hne := Nat.ne_of_gt h7.lt
          go_simp
          try replace h7 := h7.alloc (.cells #[.int .i64 0, .int .i64 0, .int .i64 0, .slice none 0 0] 30)
          try replace hv20 := hv20.alloc' (.cells #[.int .i64 0, .int .i64 0, .int .i64 0, .slice none 0 0] 30)
          try replace hv23 := hv23.alloc' (.cells #[.int .i64 0, .int .i64 0, .int .i64 0, .slice none 0 0] 30)
          replace hS := hS.alloc (.cells #[.int .i64 0, .int .i64 0, .int .i64 0, .slice none 0 0] 30)
          refine hK _ _ hS ?_
          clear hK K
          generalize World.alloc (u5) (.cells #[.int .i64 0, .int .i64 0, .int .i64 0, .slice none 0 0] 30) = u7 at *
          try simp only [Act.put, List.setIfInBounds_toArray, List.set_cons_zero, List.set_cons_succ]
          refine wpAnyH_ready (rs := [6]) (by decide +kernel) (by simp) (allA 6 (fun K hK => ?_) AllReadyH.nil)
          have h7 := Blk.new (u7) #[.int .i64 0, .int .i64 0, .int .i64 0, .slice none 0 0] 30
          have hz7 := hS.size
          try have hne := Nat.ne_of_lt h8.lt
          go_simp
          try replace h8 := h8.alloc (.cells #[.int .i64 0, .int .i64 0, .int .i64 0, .slice none 0 0] 30)
          try replace hv20 := hv20.alloc' (.cells #[.int .i64 0, .int .i64 0, .int .i64 0, .slice none 0 0] 30)
          try replace hv23 := hv23.alloc' (.cells #[.int .i64 0, .int .i64 0, .int .i64 0, .slice none 0 0] 30)
          replace hS := hS.alloc (.cells #[.int .i64 0, .int .i64 0, .int .i64 0, .slice none 0 0] 30)
          refine hK _ _ hS ?_
          clear hK K
          generalize World.alloc (u7) (.cells #[.int .i64 0, .int .i64 0, .int .i64 0, .slice none 0 0] 30) = u6 at *
          try simp only [Act.put, List.setIfInBounds_toArray, List.set_cons_zero, List.set_cons_succ]
          refine wpAnyH_ready (rs := [8]) (by decide +kernel) (by simp) (allA 8 (fun K hK => ?_) AllReadyH.nil)
          have c20 := hv20.oneCell
          refine wp_store_el _ _ rfl _ rfl _ rfl rfl (el_all c20) _ _ h7 rfl ?_
          intro u8 g7 ho
          replace h8 := h8.only ho hne
          replace hv20 := hv20.only ho (hv20.ne_blk h7 (by decide))
          replace hv23 := hv23.only ho (hv23.ne_blk h7 (by decide))
          replace hS := hS.only ho hz7
          replace h7 := g7
          refine hK _ _ hS ?_
          clear hK K g7 ho
          try simp only [Act.put, List.setIfInBounds_toArray, List.set_cons_zero, List.set_cons_succ]
          refine wpAnyH_ready (rs := [9]) (by decide +kernel) (by simp) (allA 9 (fun K hK => ?_) AllReadyH.nil)
          have c23 := hv23.oneCell
          refine wp_store_el _ _ rfl _ rfl _ rfl rfl (el_all c23) _ _ h8 rfl ?_
          intro u9 g8 ho
          replace h7 := h7.only ho (Ne.symm hne)
          replace hv20 := hv20.only ho (hv20.ne_blk h8 (by decide))
          replace hv23 := hv23.only ho (hv23.ne_blk h8 (by decide))
          replace hS := hS.only ho hz8
          replace h8 := g8
          refine hK _ _ hS ?_
          clear hK K g8 ho
          try simp only [Act.put, List.setIfInBounds_toArray, List.set_cons_zero, List.set_cons_succ]
          refine wpAnyH_done (by decide +kernel) ?_ _
          go_wp2_with fail
          go_meet
          case rel => exact ⟨_, _, v20, v23, rfl, rfl, ⟨h7, hv20⟩, ⟨h8, hv23⟩, hne, hS⟩
      · have h7 := Blk.new (u2) #[.int .i64 0, .int .i64 0, .int .i64 0, .slice none 0 0] 30
        have hz7 := hS.size
        try have hne := Nat.ne_of_lt h8.lt
        go_simp
        try replace h8 := h8.alloc (.cells #[.int .i64 0, .int .i64 0, .int .i64 0, .slice none 0 0] 30)
        try replace hv20 := hv20.alloc' (.cells #[.int .i64 0, .int .i64 0, .int .i64 0, .slice none 0 0] 30)
        try replace hv23 := hv23.alloc' (.cells #[.int .i64 0, .int .i64 0, .int .i64 0, .slice none 0 0] 30)
        replace hS := hS.alloc (.cells #[.int .i64 0, .int .i64 0, .int .i64 0, .slice none 0 0] 30)
        refine hK _ _ hS ?_
        clear hK K
        generalize World.alloc (u2) (.cells #[.int .i64 0, .int .i64 0, .int .i64 0, .slice none 0 0] 30) = u6 at *
        try simp only [Act.put, List.setIfInBounds_toArray, List.set_cons_zero, List.set_cons_succ]
        refine wpAnyH_ready (rs := [5, 7]) (by decide +kernel) (by simp) (allA 5 (fun K hK => ?_) (allA 7 (fun K hK => ?_) AllReadyH.nil))
        · go_simp
          refine (HM2.out _ (hvy3.below hS (Nat.le_refl _)) (hvx3.below hS (Nat.le_refl _))).mono ?_
          rintro e u5 ⟨v23, rfl, hv23, hb⟩
          replace hv23 := hv23.mono hS.size
          replace hv20 := hv20.below hb (Nat.le_refl _)
          try replace h7 := h7.below hb h7.lt
          try replace h8 := h8.below hb h8.lt
          replace hS := hS.call hb
          refine hK _ _ hS ?_
          clear hK K hb
          try simp only [Act.put, List.setIfInBounds_toArray, List.set_cons_zero, List.set_cons_succ]
          refine wpAnyH_ready (rs := [7]) (by decide +kernel) (by simp) (allA 7 (fun K hK => ?_) AllReadyH.nil)
          have h8 := Blk.new (u5) #[.int .i64 0, .int .i64 0, .int .i64 0, .slice none 0 0] 30
          have hz8 := hS.size
          try have hne := Nat.ne_of_gt h7.lt
          go_simp
          try replace h7 := h7.alloc (.cells #[.int .i64 0, .int .i64 0, .int .i64 0, .slice none 0 0] 30)
          try replace hv20 := hv20.alloc' (.cells #[.int .i64 0, .int .i64 0, .int .i64 0, .slice none 0 0] 30)
          try replace hv23 := hv23.alloc' (.cells #[.int .i64 0, .int .i64 0, .int .i64 0, .slice none 0 0] 30)
          replace hS := hS.alloc (.cells #[.int .i64 0, .int .i64 0, .int .i64 0, .slice none 0 0] 30)
          refine hK _ _ hS ?_
          clear hK K
          generalize World.alloc (u5) (.cells #[.int .i64 0, .int .i64 0, .int .i64 0, .slice none 0 0] 30) = u7 at *
          try simp only [Act.put, List.setIfInBounds_toArray, List.set_cons_zero, List.set_cons_succ]
          refine wpAnyH_ready (rs := [8]) (by decide +kernel) (by simp) (allA 8 (fun K hK => ?_) AllReadyH.nil)
          have c20 := hv20.oneCell
          refine wp_store_el _ _ rfl _ rfl _ rfl rfl (el_all c20) _ _ h7 rfl ?_
          intro u8 g7 ho
          replace h8 := h8.only ho hne
          replace hv20 := hv20.only ho (hv20.ne_blk h7 (by decide))
          replace hv23 := hv23.only ho (hv23.ne_blk h7 (by decide))
          replace hS := hS.only ho hz7
          replace h7 := g7
          refine hK _ _ hS ?_
          clear hK K g7 ho
          try simp only [Act.put, List.setIfInBounds_toArray, List.set_cons_zero, List.set_cons_succ]
          refine wpAnyH_ready (rs := [9]) (by decide +kernel) (by simp) (allA 9 (fun K hK => ?_) AllReadyH.nil)
          have c23 := hv23.oneCell
          refine wp_store_el _ _ rfl _ rfl _ rfl rfl (el_all c23) _ _ h8 rfl ?_
          intro u9 g8 ho
          replace h7 := h7.only ho (Ne.symm hne)
          replace hv20 := hv20.only ho (hv20.ne_blk h8 (by decide))
          replace hv23 := hv23.only ho (hv23.ne_blk h8 (by decide))
          replace hS := hS.only ho hz8
          replace h8 := g8
          refine hK _ _ hS ?_
          clear hK K g8 ho
          try simp only [Act.put, List.setIfInBounds_toArray, List.set_cons_zero, List.set_cons_succ]
          refine wpAnyH_done (by decide +kernel) ?_ _
          go_wp2_with fail
          go_meet
          case rel => exact ⟨_, _, v20, v23, rfl, rfl, ⟨h7, hv20⟩, ⟨h8, hv23⟩, hne, hS⟩
        · have h8 := Blk.new (u6) #[.int .i64 0, .int .i64 0, .int .i64 0, .slice none 0 0] 30
          have hz8 := hS.size
          try have hne := Nat.ne_of_gt h7.lt
          go_simp
          try replace h7 := h7.alloc (.cells #[.int .i64 0, .int .i64 0, .int .i64 0, .slice none 0 0] 30)
          try replace hv20 := hv20.alloc' (.cells #[.int .i64 0, .int .i64 0, .int .i64 0, .slice none 0 0] 30)
          try replace hv23 := hv23.alloc' (.cells #[.int .i64 0, .int .i64 0, .int .i64 0, .slice none 0 0] 30)
          replace hS := hS.alloc (.cells #[.int .i64 0, .int .i64 0, .int .i64 0, .slice none 0 0] 30)
          refine hK _ _ hS ?_
          clear hK K
          generalize World.alloc (u6) (.cells #[.int .i64 0, .int .i64 0, .int .i64 0, .slice none 0 0] 30) = u7 at *
          try simp only [Act.put, List.setIfInBounds_toArray, List.set_cons_zero, List.set_cons_succ]
          refine wpAnyH_ready (rs := [5]) (by decide +kernel) (by simp) (allA 5 (fun K hK => ?_) AllReadyH.nil)
          go_simp
          refine (HM2.out _ (hvy3.below hS (Nat.le_refl _)) (hvx3.below hS (Nat.le_refl _))).mono ?_
          rintro e u5 ⟨v23, rfl, hv23, hb⟩
          replace hv23 := hv23.mono hS.size
          replace hv20 := hv20.below hb (Nat.le_refl _)
          try replace h7 := h7.below hb h7.lt
          try replace h8 := h8.below hb h8.lt
          replace hS := hS.call hb
          refine hK _ _ hS ?_
          clear hK K hb
          try simp only [Act.put, List.setIfInBounds_toArray, List.set_cons_zero, List.set_cons_succ]
          refine wpAnyH_ready (rs := [8]) (by decide +kernel) (by simp) (allA 8 (fun K hK => ?_) AllReadyH.nil)
          have c20 := hv20.oneCell
          refine wp_store_el _ _ rfl _ rfl _ rfl rfl (el_all c20) _ _ h7 rfl ?_
          intro u8 g7 ho
          replace h8 := h8.only ho hne
          replace hv20 := hv20.only ho (hv20.ne_blk h7 (by decide))
          replace hv23 := hv23.only ho (hv23.ne_blk h7 (by decide))
          replace hS := hS.only ho hz7
          replace h7 := g7
          refine hK _ _ hS ?_
          clear hK K g7 ho
          try simp only [Act.put, List.setIfInBounds_toArray, List.set_cons_zero, List.set_cons_succ]
          refine wpAnyH_ready (rs := [9]) (by decide +kernel) (by simp) (allA 9 (fun K hK => ?_) AllReadyH.nil)
          have c23 := hv23.oneCell
          refine wp_store_el _ _ rfl _ rfl _ rfl rfl (el_all c23) _ _ h8 rfl ?_
          intro u9 g8 ho
          replace h7 := h7.only ho (Ne.symm hne)
          replace hv20 := hv20.only ho (hv20.ne_blk h8 (by decide))
          replace hv23 := hv23.only ho (hv23.ne_blk h8 (by decide))
          replace hS := hS.only ho hz8
          replace h8 := g8
          refine hK _ _ hS ?_
          clear hK K g8 ho
          try simp only [Act.put, List.setIfInBounds_toArray, List.set_cons_zero, List.set_cons_succ]
          refine wpAnyH_done (by decide +kernel) ?_ _
          go_wp2_with fail
          go_meet
          case rel => exact ⟨_, _, v20, v23, rfl, rfl, ⟨h7, hv20⟩, ⟨h8, hv23⟩, hne, hS⟩
      · have h8 := Blk.new (u2) #[.int .i64 0, .int .i64 0, .int .i64 0, .slice none 0 0] 30
        have hz8 := hS.size
        try have hne := Nat.ne_of_gt h7.lt
        go_simp
        try replace h7 := h7.alloc (.cells #[.int .i64 0, .int .i64 0, .int .i64 0, .slice none 0 0] 30)
        try replace hv20 := hv20.alloc' (.cells #[.int .i64 0, .int .i64 0, .int .i64 0, .slice none 0 0] 30)
        try replace hv23 := hv23.alloc' (.cells #[.int .i64 0, .int .i64 0, .int .i64 0, .slice none 0 0] 30)
        replace hS := hS.alloc (.cells #[.int .i64 0, .int .i64 0, .int .i64 0, .slice none 0 0] 30)
        refine hK _ _ hS ?_
        clear hK K
        generalize World.alloc (u2) (.cells #[.int .i64 0, .int .i64 0, .int .i64 0, .slice none 0 0] 30) = u7 at *
        try simp only [Act.put, List.setIfInBounds_toArray, List.set_cons_zero, List.set_cons_succ]
        refine wpAnyH_ready (rs := [5, 6]) (by decide +kernel) (by simp) (allA 5 (fun K hK => ?_) (allA 6 (fun K hK => ?_) AllReadyH.nil))
        · go_simp
          refine (HM2.out _ (hvy3.below hS (Nat.le_refl _)) (hvx3.below hS (Nat.le_refl _))).mono ?_
          rintro e u5 ⟨v23, rfl, hv23, hb⟩
          replace hv23 := hv23.mono hS.size
          replace hv20 := hv20.below hb (Nat.le_refl _)
          try replace h7 := h7.below hb h7.lt
          try replace h8 := h8.below hb h8.lt
          replace hS := hS.call hb
          refine hK _ _ hS ?_
          clear hK K hb
          try simp only [Act.put, List.setIfInBounds_toArray, List.set_cons_zero, List.set_cons_succ]
          refine wpAnyH_ready (rs := [6]) (by decide +kernel) (by simp) (allA 6 (fun K hK => ?_) AllReadyH.nil)
          have h7 := Blk.new (u5) #[.int .i64 0, .int .i64 0, .int .i64 0, .slice none 0 0] 30
          have hz7 := hS.size
          try have hne := Nat.ne_of_lt h8.lt
          go_simp
          try replace h8 := h8.alloc (.cells #[.int .i64 0, .int .i64 0, .int .i64 0, .slice none 0 0] 30)
          try replace hv20 := hv20.alloc' (.cells #[.int .i64 0, .int .i64 0, .int .i64 0, .slice none 0 0] 30)
          try replace hv23 := hv23.alloc' (.cells #[.int .i64 0, .int .i64 0, .int .i64 0, .slice none 0 0] 30)
          replace hS := hS.alloc (.cells #[.int .i64 0, .int .i64 0, .int .i64 0, .slice none 0 0] 30)
          refine hK _ _ hS ?_
          clear hK K
          generalize World.alloc (u5) (.cells #[.int .i64 0, .int .i64 0, .int .i64 0, .slice none 0 0] 30) = u6 at *
          try simp only [Act.put, List.setIfInBounds_toArray, List.set_cons_zero, List.set_cons_succ]
          refine wpAnyH_ready (rs := [8]) (by decide +kernel) (by simp) (allA 8 (fun K hK => ?_) AllReadyH.nil)
          have c20 := hv20.oneCell
          refine wp_store_el _ _ rfl _ rfl _ rfl rfl (el_all c20) _ _ h7 rfl ?_
          intro u8 g7 ho
          replace h8 := h8.only ho hne
          replace hv20 := hv20.only ho (hv20.ne_blk h7 (by decide))
          replace hv23 := hv23.only ho (hv23.ne_blk h7 (by decide))
          replace hS := hS.only ho hz7
          replace h7 := g7
          refine hK _ _ hS ?_
          clear hK K g7 ho
          try simp only [Act.put, List.setIfInBounds_toArray, List.set_cons_zero, List.set_cons_succ]
          refine wpAnyH_ready (rs := [9]) (by decide +kernel) (by simp) (allA 9 (fun K hK => ?_) AllReadyH.nil)
          have c23 := hv23.oneCell
          refine wp_store_el _ _ rfl _ rfl _ rfl rfl (el_all c23) _ _ h8 rfl ?_
          intro u9 g8 ho
          replace h7 := h7.only ho (Ne.symm hne)
          replace hv20 := hv20.only ho (hv20.ne_blk h8 (by decide))
          replace hv23 := hv23.only ho (hv23.ne_blk h8 (by decide))
          replace hS := hS.only ho hz8
          replace h8 := g8
          refine hK _ _ hS ?_
          clear hK K g8 ho
          try simp only [Act.put, List.setIfInBounds_toArray, List.set_cons_zero, List.set_cons_succ]
          refine wpAnyH_done (by decide +kernel) ?_ _
          go_wp2_with fail
          go_meet
          case rel => exact ⟨_, _, v20, v23, rfl, rfl, ⟨h7, hv20⟩, ⟨h8, hv23⟩, hne, hS⟩
        · have h7 := Blk.new (u7) #[.int .i64 0, .int .i64 0, .int .i64 0, .slice none 0 0] 30
          have hz7 := hS.size
          try have hne := Nat.ne_of_lt h8.lt
          go_simp
          try replace h8 := h8.alloc (.cells #[.int .i64 0, .int .i64 0, .int .i64 0, .slice none 0 0] 30)
          try replace hv20 := hv20.alloc' (.cells #[.int .i64 0, .int .i64 0, .int .i64 0, .slice none 0 0] 30)
          try replace hv23 := hv23.alloc' (.cells #[.int .i64 0, .int .i64 0, .int .i64 0, .slice none 0 0] 30)
          replace hS := hS.alloc (.cells #[.int .i64 0, .int .i64 0, .int .i64 0, .slice none 0 0] 30)
          refine hK _ _ hS ?_
          clear hK K
          generalize World.alloc (u7) (.cells #[.int .i64 0, .int .i64 0, .int .i64 0, .slice none 0 0] 30) = u6 at *
          try simp only [Act.put, List.setIfInBounds_toArray, List.set_cons_zero, List.set_cons_succ]
          refine wpAnyH_ready (rs := [5]) (by decide +kernel) (by simp) (allA 5 (fun K hK => ?_) AllReadyH.nil)
          go_simp
          refine (HM2.out _ (hvy3.below hS (Nat.le_refl _)) (hvx3.below hS (Nat.le_refl _))).mono ?_
          rintro e u5 ⟨v23, rfl, hv23, hb⟩
          replace hv23 := hv23.mono hS.size
          replace hv20 := hv20.below hb (Nat.le_refl _)
          try replace h7 := h7.below hb h7.lt
          try replace h8 := h8.below hb h8.lt
          replace hS := hS.call hb
          refine hK _ _ hS ?_
          clear hK K hb
          try simp only [Act.put, List.setIfInBounds_toArray, List.set_cons_zero, List.set_cons_succ]
          refine wpAnyH_ready (rs := [8]) (by decide +kernel) (by simp) (allA 8 (fun K hK => ?_) AllReadyH.nil)
          have c20 := hv20.oneCell
          refine wp_store_el _ _ rfl _ rfl _ rfl rfl (el_all c20) _ _ h7 rfl ?_
          intro u8 g7 ho
          replace h8 := h8.only ho hne
          replace hv20 := hv20.only ho (hv20.ne_blk h7 (by decide))
          replace hv23 := hv23.only ho (hv23.ne_blk h7 (by decide))
          replace hS := hS.only ho hz7
          replace h7 := g7
          refine hK _ _ hS ?_
          clear hK K g7 ho
          try simp only [Act.put, List.setIfInBounds_toArray, List.set_cons_zero, List.set_cons_succ]
          refine wpAnyH_ready (rs := [9]) (by decide +kernel) (by simp) (allA 9 (fun K hK => ?_) AllReadyH.nil)
          have c23 := hv23.oneCell
          refine wp_store_el _ _ rfl _ rfl _ rfl rfl (el_all c23) _ _ h8 rfl ?_
          intro u9 g8 ho
          replace h7 := h7.only ho (Ne.symm hne)
          replace hv20 := hv20.only ho (hv20.ne_blk h8 (by decide))
          replace hv23 := hv23.only ho (hv23.ne_blk h8 (by decide))
          replace hS := hS.only ho hz8
          replace h8 := g8
          refine hK _ _ hS ?_
          clear hK K g8 ho
          try simp only [Act.put, List.setIfInBounds_toArray, List.set_cons_zero, List.set_cons_succ]
          refine wpAnyH_done (by decide +kernel) ?_ _
          go_wp2_with fail
          go_meet
          case rel => exact ⟨_, _, v20, v23, rfl, rfl, ⟨h7, hv20⟩, ⟨h8, hv23⟩, hne, hS⟩
    · have h7 := Blk.new (u0) #[.int .i64 0, .int .i64 0, .int .i64 0, .slice none 0 0] 30
      have hz7 := hS.size
      try have hne := Nat.ne_of_lt h8.lt
      go_simp
      try replace h8 := h8.alloc (.cells #[.int .i64 0, .int .i64 0, .int .i64 0, .slice none 0 0] 30)
      try replace hv20 := hv20.alloc' (.cells #[.int .i64 0, .int .i64 0, .int .i64 0, .slice none 0 0] 30)
      try replace hv23 := hv23.alloc' (.cells #[.int .i64 0, .int .i64 0, .int .i64 0, .slice none 0 0] 30)
      replace hS := hS.alloc (.cells #[.int .i64 0, .int .i64 0, .int .i64 0, .slice none 0 0] 30)
      refine hK _ _ hS ?_
      clear hK K
      generalize World.alloc (u0) (.cells #[.int .i64 0, .int .i64 0, .int .i64 0, .slice none 0 0] 30) = u6 at *
      try simp only [Act.put, List.setIfInBounds_toArray, List.set_cons_zero, List.set_cons_succ]
      refine wpAnyH_ready (rs := [2, 7]) (by decide +kernel) (by simp) (allA 2 (fun K hK => ?_) (allA 7 (fun K hK => ?_) AllReadyH.nil))
      · go_simp
        refine (HM1.out _ (hvx3.below hS (Nat.le_refl _)) (hvy3.below hS (Nat.le_refl _))).mono ?_
        rintro e u2 ⟨v20, rfl, hv20, hb⟩
        replace hv20 := hv20.mono hS.size
        try replace h7 := h7.below hb h7.lt
        try replace h8 := h8.below hb h8.lt
        replace hS := hS.call hb
        refine hK _ _ hS ?_
        clear hK K hb
        try simp only [Act.put, List.setIfInBounds_toArray, List.set_cons_zero, List.set_cons_succ]
        refine wpAnyH_ready (rs := [5, 7]) (by decide +kernel) (by simp) (allA 5 (fun K hK => ?_) (allA 7 (fun K hK => ?_) AllReadyH.nil))
        · go_simp
          refine (HM2.out _ (hvy3.below hS (Nat.le_refl _)) (hvx3.below hS (Nat.le_refl _))).mono ?_
          rintro e u5 ⟨v23, rfl, hv23, hb⟩
          replace hv23 := hv23.mono hS.size
          replace hv20 := hv20.below hb (Nat.le_refl _)
          try replace h7 := h7.below hb h7.lt
          try replace h8 := h8.below hb h8.lt
          replace hS := hS.call hb
          refine hK _ _ hS ?_
          clear hK K hb
          try simp only [Act.put, List.setIfInBounds_toArray, List.set_cons_zero, List.set_cons_succ]
          refine wpAnyH_ready (rs := [7]) (by decide +kernel) (by simp) (allA 7 (fun K hK => ?_) AllReadyH.nil)
          have h8 := Blk.new (u5) #[.int .i64 0, .int .i64 0, .int .i64 0, .slice none 0 0] 30
          have hz8 := hS.size
          try have hne := Nat.ne_of_gt h7.lt
          go_simp
          try replace h7 := h7.alloc (.cells #[.int .i64 0, .int .i64 0, .int .i64 0, .slice none 0 0] 30)
          try replace hv20 := hv20.alloc' (.cells #[.int .i64 0, .int .i64 0, .int .i64 0, .slice none 0 0] 30)
          try replace hv23 := hv23.alloc' (.cells #[.int .i64 0, .int .i64 0, .int .i64 0, .slice none 0 0] 30)
          replace hS := hS.alloc (.cells #[.int .i64 0, .int .i64 0, .int .i64 0, .slice none 0 0] 30)
          refine hK _ _ hS ?_
          clear hK K
          generalize World.alloc (u5) (.cells #[.int .i64 0, .int .i64 0, .int .i64 0, .slice none 0 0] 30) = u7 at *
          try simp only [Act.put, List.setIfInBounds_toArray, List.set_cons_zero, List.set_cons_succ]
          refine wpAnyH_ready (rs := [8]) (by decide +kernel) (by simp) (allA 8 (fun K hK => ?_) AllReadyH.nil)
          have c20 := hv20.oneCell
          refine wp_store_el _ _ rfl _ rfl _ rfl rfl (el_all c20) _ _ h7 rfl ?_
          intro u8 g7 ho
          replace h8 := h8.only ho hne
          replace hv20 := hv20.only ho (hv20.ne_blk h7 (by decide))
          replace hv23 := hv23.only ho (hv23.ne_blk h7 (by decide))
          replace hS := hS.only ho hz7
          replace h7 := g7
          refine hK _ _ hS ?_
          clear hK K g7 ho
          try simp only [Act.put, List.setIfInBounds_toArray, List.set_cons_zero, List.set_cons_succ]
          refine wpAnyH_ready (rs := [9]) (by decide +kernel) (by simp) (allA 9 (fun K hK => ?_) AllReadyH.nil)
          have c23 := hv23.oneCell
          refine wp_store_el _ _ rfl _ rfl _ rfl rfl (el_all c23) _ _ h8 rfl ?_
          intro u9 g8 ho
          replace h7 := h7.only ho (Ne.symm hne)
          replace hv20 := hv20.only ho (hv20.ne_blk h8 (by decide))
          replace hv23 := hv23.only ho (hv23.ne_blk h8 (by decide))
          replace hS := hS.only ho hz8
          replace h8 := g8
          refine hK _ _ hS ?_
          clear hK K g8 ho
          try simp only [Act.put, List.setIfInBounds_toArray, List.set_cons_zero, List.set_cons_succ]
          refine wpAnyH_done (by decide +kernel) ?_ _
          go_wp2_with fail
          go_meet
          case rel => exact ⟨_, _, v20, v23, rfl, rfl, ⟨h7, hv20⟩, ⟨h8, hv23⟩, hne, hS⟩
        · have h8 := Blk.new (u2) #[.int .i64 0, .int .i64 0, .int .i64 0, .slice none 0 0] 30
          have hz8 := hS.size
          try have hne := Nat.ne_of_gt h7.lt
          go_simp
          try replace h7 := h7.alloc (.cells #[.int .i64 0, .int .i64 0, .int .i64 0, .slice none 0 0] 30)
          try replace hv20 := hv20.alloc' (.cells #[.int .i64 0, .int .i64 0, .int .i64 0, .slice none 0 0] 30)
          try replace hv23 := hv23.alloc' (.cells #[.int .i64 0, .int .i64 0, .int .i64 0, .slice none 0 0] 30)
          replace hS := hS.alloc (.cells #[.int .i64 0, .int .i64 0, .int .i64 0, .slice none 0 0] 30)
          refine hK _ _ hS ?_
          clear hK K
          generalize World.alloc (u2) (.cells #[.int .i64 0, .int .i64 0, .int .i64 0, .slice none 0 0] 30) = u7 at *
          try simp only [Act.put, List.setIfInBounds_toArray, List.set_cons_zero, List.set_cons_succ]
          refine wpAnyH_ready (rs := [5]) (by decide +kernel) (by simp) (allA 5 (fun K hK => ?_) AllReadyH.nil)
          go_simp
          refine (HM2.out _ (hvy3.below hS (Nat.le_refl _)) (hvx3.below hS (Nat.le_refl _))).mono ?_
          rintro e u5 ⟨v23, rfl, hv23, hb⟩
          replace hv23 := hv23.mono hS.size
          replace hv20 := hv20.below hb (Nat.le_refl _)
          try replace h7 := h7.below hb h7.lt
          try replace h8 := h8.below hb h8.lt
          replace hS := hS.call hb
          refine hK _ _ hS ?_
          clear hK K hb
          try simp only [Act.put, List.setIfInBounds_toArray, List.set_cons_zero, List.set_cons_succ]
          refine wpAnyH_ready (rs := [8]) (by decide +kernel) (by simp) (allA 8 (fun K hK => ?_) AllReadyH.nil)
          have c20 := hv20.oneCell
          refine wp_store_el _ _ rfl _ rfl _ rfl rfl (el_all c20) _ _ h7 rfl ?_
          intro u8 g7 ho
          replace h8 := h8.only ho hne
          replace hv20 := hv20.only ho (hv20.ne_blk h7 (by decide))
          replace hv23 := hv23.only ho (hv23.ne_blk h7 (by decide))
          replace hS := hS.only ho hz7
          replace h7 := g7
          refine hK _ _ hS ?_
          clear hK K g7 ho
          try simp only [Act.put, List.setIfInBounds_toArray, List.set_cons_zero, List.set_cons_succ]
          refine wpAnyH_ready (rs := [9]) (by decide +kernel) (by simp) (allA 9 (fun K hK => ?_) AllReadyH.nil)
          have c23 := hv23.oneCell
          refine wp_store_el _ _ rfl _ rfl _ rfl rfl (el_all c23) _ _ h8 rfl ?_
          intro u9 g8 ho
          replace h7 := h7.only ho (Ne.symm hne)
          replace hv20 := hv20.only ho (hv20.ne_blk h8 (by decide))
          replace hv23 := hv23.only ho (hv23.ne_blk h8 (by decide))
          replace hS := hS.only ho hz8
          replace h8 := g8
          refine hK _ _ hS ?_
          clear hK K g8 ho
          try simp only [Act.put, List.setIfInBounds_toArray, List.set_cons_zero, List.set_cons_succ]
          refine wpAnyH_done (by decide +kernel) ?_ _
          go_wp2_with fail
          go_meet
          case rel => exact ⟨_, _, v20, v23, rfl, rfl, ⟨h7, hv20⟩, ⟨h8, hv23⟩, hne, hS⟩
      · have h8 := Blk.new (u6) #[.int .i64 0, .int .i64 0, .int .i64 0, .slice none 0 0] 30
        have hz8 := hS.size
        try have hne := Nat.ne_of_gt h7.lt
        go_simp
        try replace h7 := h7.alloc (.cells #[.int .i64 0, .int .i64 0, .int .i64 0, .slice none 0 0] 30)
        try replace hv20 := hv20.alloc' (.cells #[.int .i64 0, .int .i64 0, .int .i64 0, .slice none 0 0] 30)
        try replace hv23 := hv23.alloc' (.cells #[.int .i64 0, .int .i64 0, .int .i64 0, .slice none 0 0] 30)
        replace hS := hS.alloc (.cells #[.int .i64 0, .int .i64 0, .int .i64 0, .slice none 0 0] 30)
        refine hK _ _ hS ?_
        clear hK K
        generalize World.alloc (u6) (.cells #[.int .i64 0, .int .i64 0, .int .i64 0, .slice none 0 0] 30) = u7 at *
        try simp only [Act.put, List.setIfInBounds_toArray, List.set_cons_zero, List.set_cons_succ]
        refine wpAnyH_ready (rs := [2]) (by decide +kernel) (by simp) (allA 2 (fun K hK => ?_) AllReadyH.nil)
        go_simp
        refine (HM1.out _ (hvx3.below hS (Nat.le_refl _)) (hvy3.below hS (Nat.le_refl _))).mono ?_
        rintro e u2 ⟨v20, rfl, hv20, hb⟩
        replace hv20 := hv20.mono hS.size
        try replace h7 := h7.below hb h7.lt
        try replace h8 := h8.below hb h8.lt
        replace hS := hS.call hb
        refine hK _ _ hS ?_
        clear hK K hb
        try simp only [Act.put, List.setIfInBounds_toArray, List.set_cons_zero, List.set_cons_succ]
        refine wpAnyH_ready (rs := [5]) (by decide +kernel) (by simp) (allA 5 (fun K hK => ?_) AllReadyH.nil)
        go_simp
        refine (HM2.out _ (hvy3.below hS (Nat.le_refl _)) (hvx3.below hS (Nat.le_refl _))).mono ?_
        rintro e u5 ⟨v23, rfl, hv23, hb⟩
        replace hv23 := hv23.mono hS.size
        replace hv20 := hv20.below hb (Nat.le_refl _)
        try replace h7 := h7.below hb h7.lt
        try replace h8 := h8.below hb h8.lt
        replace hS := hS.call hb
        refine hK _ _ hS ?_
        clear hK K hb
        try simp only [Act.put, List.setIfInBounds_toArray, List.set_cons_zero, List.set_cons_succ]
        refine wpAnyH_ready (rs := [8]) (by decide +kernel) (by simp) (allA 8 (fun K hK => ?_) AllReadyH.nil)
        have c20 := hv20.oneCell
        refine wp_store_el _ _ rfl _ rfl _ rfl rfl (el_all c20) _ _ h7 rfl ?_
        intro u8 g7 ho
        replace h8 := h8.only ho hne
        replace hv20 := hv20.only ho (hv20.ne_blk h7 (by decide))
        replace hv23 := hv23.only ho (hv23.ne_blk h7 (by decide))
        replace hS := hS.only ho hz7
        replace h7 := g7
        refine hK _ _ hS ?_
        clear hK K g7 ho
        try simp only [Act.put, List.setIfInBounds_toArray, List.set_cons_zero, List.set_cons_succ]
        refine wpAnyH_ready (rs := [9]) (by decide +kernel) (by simp) (allA 9 (fun K hK => ?_) AllReadyH.nil)
        have c23 := hv23.oneCell
        refine wp_store_el _ _ rfl _ rfl _ rfl rfl (el_all c23) _ _ h8 rfl ?_
        intro u9 g8 ho
        replace h7 := h7.only ho (Ne.symm hne)
        replace hv20 := hv20.only ho (hv20.ne_blk h8 (by decide))
        replace hv23 := hv23.only ho (hv23.ne_blk h8 (by decide))
        replace hS := hS.only ho hz8
        replace h8 := g8
        refine hK _ _ hS ?_
        clear hK K g8 ho
        try simp only [Act.put, List.setIfInBounds_toArray, List.set_cons_zero, List.set_cons_succ]
        refine wpAnyH_done (by decide +kernel) ?_ _
        go_wp2_with fail
        go_meet
        case rel => exact ⟨_, _, v20, v23, rfl, rfl, ⟨h7, hv20⟩, ⟨h8, hv23⟩, hne, hS⟩
    · have h8 := Blk.new (u0) #[.int .i64 0, .int .i64 0, .int .i64 0, .slice none 0 0] 30
      have hz8 := hS.size
      try have hne := Nat.ne_of_gt h7.lt
      go_simp
      try replace h7 := h7.alloc (.cells #[.int .i64 0, .int .i64 0, .int .i64 0, .slice none 0 0] 30)
      try replace hv20 := hv20.alloc' (.cells #[.int .i64 0, .int .i64 0, .int .i64 0, .slice none 0 0] 30)
      try replace hv23 := hv23.alloc' (.cells #[.int .i64 0, .int .i64 0, .int .i64 0, .slice none 0 0] 30)
      replace hS := hS.alloc (.cells #[.int .i64 0, .int .i64 0, .int .i64 0, .slice none 0 0] 30)
      refine hK _ _ hS ?_
      clear hK K
      generalize World.alloc (u0) (.cells #[.int .i64 0, .int .i64 0, .int .i64 0, .slice none 0 0] 30) = u7 at *
      try simp only [Act.put, List.setIfInBounds_toArray, List.set_cons_zero, List.set_cons_succ]
      refine wpAnyH_ready (rs := [2, 6]) (by decide +kernel) (by simp) (allA 2 (fun K hK => ?_) (allA 6 (fun K hK => ?_) AllReadyH.nil))
      · go_simp
        refine (HM1.out _ (hvx3.below hS (Nat.le_refl _)) (hvy3.below hS (Nat.le_refl _))).mono ?_
        rintro e u2 ⟨v20, rfl, hv20, hb⟩
        replace hv20 := hv20.mono hS.size
        try replace h7 := h7.below hb h7.lt
        try replace h8 := h8.below hb h8.lt
        replace hS := hS.call hb
        refine hK _ _ hS ?_
        clear hK K hb
        try simp only [Act.put, List.setIfInBounds_toArray, List.set_cons_zero, List.set_cons_succ]
        refine wpAnyH_ready (rs := [5, 6]) (by decide +kernel) (by simp) (allA 5 (fun K hK => ?_) (allA 6 (fun K hK => ?_) AllReadyH.nil))
        · go_simp
          refine (HM2.out _ (hvy3.below hS (Nat.le_refl _)) (hvx3.below hS (Nat.le_refl _))).mono ?_
          rintro e u5 ⟨v23, rfl, hv23, hb⟩
          replace hv23 := hv23.mono hS.size
          replace hv20 := hv20.below hb (Nat.le_refl _)
          try replace h7 := h7.below hb h7.lt
          try replace h8 := h8.below hb h8.lt
          replace hS := hS.call hb
          refine hK _ _ hS ?_
          clear hK K hb
          try simp only [Act.put, List.setIfInBounds_toArray, List.set_cons_zero, List.set_cons_succ]
          refine wpAnyH_ready (rs := [6]) (by decide +kernel) (by simp) (allA 6 (fun K hK => ?_) AllReadyH.nil)
          have h7 := Blk.new (u5) #[.int .i64 0, .int .i64 0, .int .i64 0, .slice none 0 0] 30
          have hz7 := hS.size
          try have hne := Nat.ne_of_lt h8.lt
          go_simp
          try replace h8 := h8.alloc (.cells #[.int .i64 0, .int .i64 0, .int .i64 0, .slice none 0 0] 30)
          try replace hv20 := hv20.alloc' (.cells #[.int .i64 0, .int .i64 0, .int .i64 0, .slice none 0 0] 30)
          try replace hv23 := hv23.alloc' (.cells #[.int .i64 0, .int .i64 0, .int .i64 0, .slice none 0 0] 30)
          replace hS := hS.alloc (.cells #[.int .i64 0, .int .i64 0, .int .i64 0, .slice none 0 0] 30)
          refine hK _ _ hS ?_
          clear hK K
          generalize World.alloc (u5) (.cells #[.int .i64 0, .int .i64 0, .int .i64 0, .slice none 0 0] 30) = u6 at *
          try simp only [Act.put, List.setIfInBounds_toArray, List.set_cons_zero, List.set_cons_succ]
          refine wpAnyH_ready (rs := [8]) (by decide +kernel) (by simp) (allA 8 (fun K hK => ?_) AllReadyH.nil)
          have c20 := hv20.oneCell
          refine wp_store_el _ _ rfl _ rfl _ rfl rfl (el_all c20) _ _ h7 rfl ?_
          intro u8 g7 ho
          replace h8 := h8.only ho hne
          replace hv20 := hv20.only ho (hv20.ne_blk h7 (by decide))
          replace hv23 := hv23.only ho (hv23.ne_blk h7 (by decide))
          replace hS := hS.only ho hz7
          replace h7 := g7
          refine hK _ _ hS ?_
          clear hK K g7 ho
          try simp only [Act.put, List.setIfInBounds_toArray, List.set_cons_zero, List.set_cons_succ]
          refine wpAnyH_ready (rs := [9]) (by decide +kernel) (by simp) (allA 9 (fun K hK => ?_) AllReadyH.nil)
          have c23 := hv23.oneCell
          refine wp_store_el _ _ rfl _ rfl _ rfl rfl (el_all c23) _ _ h8 rfl ?_
          intro u9 g8 ho
          replace h7 := h7.only ho (Ne.symm hne)
          replace hv20 := hv20.only ho (hv20.ne_blk h8 (by decide))
          replace hv23 := hv23.only ho (hv23.ne_blk h8 (by decide))
          replace hS := hS.only ho hz8
          replace h8 := g8
          refine hK _ _ hS ?_
          clear hK K g8 ho
          try simp only [Act.put, List.setIfInBounds_toArray, List.set_cons_zero, List.set_cons_succ]
          refine wpAnyH_done (by decide +kernel) ?_ _
          go_wp2_with fail
          go_meet
          case rel => exact ⟨_, _, v20, v23, rfl, rfl, ⟨h7, hv20⟩, ⟨h8, hv23⟩, hne, hS⟩
        · have h7 := Blk.new (u2) #[.int .i64 0, .int .i64 0, .int .i64 0, .slice none 0 0] 30
          have hz7 := hS.size
          try have hne := Nat.ne_of_lt h8.lt
          go_simp
          try replace h8 := h8.alloc (.cells #[.int .i64 0, .int .i64 0, .int .i64 0, .slice none 0 0] 30)
          try replace hv20 := hv20.alloc' (.cells #[.int .i64 0, .int .i64 0, .int .i64 0, .slice none 0 0] 30)
          try replace hv23 := hv23.alloc' (.cells #[.int .i64 0, .int .i64 0, .int .i64 0, .slice none 0 0] 30)
          replace hS := hS.alloc (.cells #[.int .i64 0, .int .i64 0, .int .i64 0, .slice none 0 0] 30)
          refine hK _ _ hS ?_
          clear hK K
          generalize World.alloc (u2) (.cells #[.int .i64 0, .int .i64 0, .int .i64 0, .slice none 0 0] 30) = u6 at *
          try simp only [Act.put, List.setIfInBounds_toArray, List.set_cons_zero, List.set_cons_succ]
          refine wpAnyH_ready (rs := [5]) (by decide +kernel) (by simp) (allA 5 (fun K hK => ?_) AllReadyH.nil)
          go_simp
          refine (HM2.out _ (hvy3.below hS (Nat.le_refl _)) (hvx3.below hS (Nat.le_refl _))).mono ?_
          rintro e u5 ⟨v23, rfl, hv23, hb⟩
          replace hv23 := hv23.mono hS.size
          replace hv20 := hv20.below hb (Nat.le_refl _)
          try replace h7 := h7.below hb h7.lt
          try replace h8 := h8.below hb h8.lt
          replace hS := hS.call hb
          refine hK _ _ hS ?_
          clear hK K hb
          try simp only [Act.put, List.setIfInBounds_toArray, List.set_cons_zero, List.set_cons_succ]
          refine wpAnyH_ready (rs := [8]) (by decide +kernel) (by simp) (allA 8 (fun K hK => ?_) AllReadyH.nil)
          have c20 := hv20.oneCell
          refine wp_store_el _ _ rfl _ rfl _ rfl rfl (el_all c20) _ _ h7 rfl ?_
          intro u8 g7 ho
          replace h8 := h8.only ho hne
          replace hv20 := hv20.only ho (hv20.ne_blk h7 (by decide))
          replace hv23 := hv23.only ho (hv23.ne_blk h7 (by decide))
          replace hS := hS.only ho hz7
          replace h7 := g7
          refine hK _ _ hS ?_
          clear hK K g7 ho
          try simp only [Act.put, List.setIfInBounds_toArray, List.set_cons_zero, List.set_cons_succ]
          refine wpAnyH_ready (rs := [9]) (by decide +kernel) (by simp) (allA 9 (fun K hK => ?_) AllReadyH.nil)
          have c23 := hv23.oneCell
          refine wp_store_el _ _ rfl _ rfl _ rfl rfl (el_all c23) _ _ h8 rfl ?_
          intro u9 g8 ho
          replace h7 := h7.only ho (Ne.symm hne)
          replace hv20 := hv20.only ho (hv20.ne_blk h8 (by decide))
          replace hv23 := hv23.only ho (hv23.ne_blk h8 (by decide))
          replace hS := hS.only ho hz8
          replace h8 := g8
          refine hK _ _ hS ?_
          clear hK K g8 ho
          try simp only [Act.put, List.setIfInBounds_toArray, List.set_cons_zero, List.set_cons_succ]
          refine wpAnyH_done (by decide +kernel) ?_ _
          go_wp2_with fail
          go_meet
          case rel => exact ⟨_, _, v20, v23, rfl, rfl, ⟨h7, hv20⟩, ⟨h8, hv23⟩, hne, hS⟩
      · have h7 := Blk.new (u7) #[.int .i64 0, .int .i64 0, .int .i64 0, .slice none 0 0] 30
        have hz7 := hS.size
        try have hne := Nat.ne_of_lt h8.lt
        go_simp
        try replace h8 := h8.alloc (.cells #[.int .i64 0, .int .i64 0, .int .i64 0, .slice none 0 0] 30)
        try replace hv20 := hv20.alloc' (.cells #[.int .i64 0, .int .i64 0, .int .i64 0, .slice none 0 0] 30)
        try replace hv23 := hv23.alloc' (.cells #[.int .i64 0, .int .i64 0, .int .i64 0, .slice none 0 0] 30)
        replace hS := hS.alloc (.cells #[.int .i64 0, .int .i64 0, .int .i64 0, .slice none 0 0] 30)
        refine hK _ _ hS ?_
        clear hK K
        generalize World.alloc (u7) (.cells #[.int .i64 0, .int .i64 0, .int .i64 0, .slice none 0 0] 30) = u6 at *
        try simp only [Act.put, List.setIfInBounds_toArray, List.set_cons_zero, List.set_cons_succ]
        refine wpAnyH_ready (rs := [2]) (by decide +kernel) (by simp) (allA 2 (fun K hK => ?_) AllReadyH.nil)
        go_simp
        refine (HM1.out _ (hvx3.below hS (Nat.le_refl _)) (hvy3.below hS (Nat.le_refl _))).mono ?_
        rintro e u2 ⟨v20, rfl, hv20, hb⟩
        replace hv20 := hv20.mono hS.size
        try replace h7 := h7.below hb h7.lt
        try replace h8 := h8.below hb h8.lt
        replace hS := hS.call hb
        refine hK _ _ hS ?_
        clear hK K hb
        try simp only [Act.put, List.setIfInBounds_toArray, List.set_cons_zero, List.set_cons_succ]
        refine wpAnyH_ready (rs := [5]) (by decide +kernel) (by simp) (allA 5 (fun K hK => ?_) AllReadyH.nil)
        go_simp
        refine (HM2.out _ (hvy3.below hS (Nat.le_refl _)) (hvx3.below hS (Nat.le_refl _))).mono ?_
        rintro e u5 ⟨v23, rfl, hv23, hb⟩
        replace hv23 := hv23.mono hS.size
        replace hv20 := hv20.below hb (Nat.le_refl _)
        try replace h7 := h7.below hb h7.lt
        try replace h8 := h8.below hb h8.lt
        replace hS := hS.call hb
        refine hK _ _ hS ?_
        clear hK K hb
        try simp only [Act.put, List.setIfInBounds_toArray, List.set_cons_zero, List.set_cons_succ]
        refine wpAnyH_ready (rs := [8]) (by decide +kernel) (by simp) (allA 8 (fun K hK => ?_) AllReadyH.nil)
        have c20 := hv20.oneCell
        refine wp_store_el _ _ rfl _ rfl _ rfl rfl (el_all c20) _ _ h7 rfl ?_
        intro u8 g7 ho
        replace h8 := h8.only ho hne
        replace hv20 := hv20.only ho (hv20.ne_blk h7 (by decide))
        replace hv23 := hv23.only ho (hv23.ne_blk h7 (by decide))
        replace hS := hS.only ho hz7
        replace h7 := g7
        refine hK _ _ hS ?_
        clear hK K g7 ho
        try simp only [Act.put, List.setIfInBounds_toArray, List.set_cons_zero, List.set_cons_succ]
        refine wpAnyH_ready (rs := [9]) (by decide +kernel) (by simp) (allA 9 (fun K hK => ?_) AllReadyH.nil)
        have c23 := hv23.oneCell
        refine wp_store_el _ _ rfl _ rfl _ rfl rfl (el_all c23) _ _ h8 rfl ?_
        intro u9 g8 ho
        replace h7 := h7.only ho (Ne.symm hne)
        replace hv20 := hv20.only ho (hv20.ne_blk h8 (by decide))
        replace hv23 := hv23.only ho (hv23.ne_blk h8 (by decide))
        replace hS := hS.only ho hz8
        replace h8 := g8
        refine hK _ _ hS ?_
        clear hK K g8 ho
        try simp only [Act.put, List.setIfInBounds_toArray, List.set_cons_zero, List.set_cons_succ]
        refine wpAnyH_done (by decide +kernel) ?_ _
        go_wp2_with fail
        go_meet
        case rel => exact ⟨_, _, v20, v23, rfl, rfl, ⟨h7, hv20⟩, ⟨h8, hv23⟩, hne, hS⟩

  case rest =>
  obtain ⟨b7, b8, v20, v23, rfl, rfl, O7, O8, hne, hb4⟩ := hcut
  obtain ⟨ad7, cap7, rfl, hc7, hm7⟩ := O7.own.slice
  obtain ⟨ad8, cap8, rfl, hc8, hm8⟩ := O8.own.slice
  have hR4 := hR3.below hb4 hR3.lt
  have hbl4 := hbl3.trans (hb4.mono (by omega))
  have hz4 := hb4.size
  have hl7 := O7.blk.cells
  have hl8 := O8.blk.cells
  simp only at hl7 hl8
  clear hX3 hY3 hR3 hvx3 hvy3 hbl3 HM1 HM2
  by_cases hA : A.length ≤ 140
  · by_cases hB : B.length ≤ 140
    · have HSm := Lib.hid (fun W h1 h2 => implSumT_calls P C (-1) N A B hp hp97 hn1 hn8 (by omega) HnA.out HnB.out (by omega) (by omega) (.slice ad7 A.length cap7) (.slice ad8 B.length cap8) W h1 h2)
      unfold el at HSm
      go_wp2_with (first | (refine load_el rfl _ rfl _ rfl _ rfl _ O7.blk ?_) | (refine load_el rfl _ rfl _ rfl _ rfl _ O8.blk ?_))
      refine (HSm.out _ (LIn_of_TsOwn O7.own) (LIn_of_TsOwn O8.own)).mono ?_
      rintro e w5 ⟨v5, rfl, hv5, hb5⟩
      have HT := Lib.hid (fun W h => implLimited_calls ⟨P, C, N, sumT P (-1) A B⟩ v5 W w3.heap.size h)
      unfold El.val El.cells at HT
      have hR5 := hR4.below hb5 hR4.lt
      have hbl5 := hbl4.trans (hb5.mono (by omega))
      have hv5' := hv5.mono (base' := w3.heap.size) (by omega)
      have hz5 := hb5.size
      clear hR4 hbl4 O7 O8 hl7 hl8 hb4 hb5 hv5 HSm
      go_wp2_with fail
      refine (HT.out _ hv5').mono ?_
      rintro e w6 ⟨v6, rfl, hv6, hb6⟩
      unfold El.val El.cells
      have hR6 := hR5.below hb6 hR5.lt
      have hbl6 := hbl5.trans (hb6.mono (by omega))
      have h1c := hv6.oneCell
      have hz6 := hb6.size
      generalize hRe : (El.told ⟨P, C, N, sumT P (-1) A B⟩) = R at *
      have HRe := Lib.hid hRe
      clear hRe
      clear hR5 hbl5 hv5' hb6 HT
      go_wp2_with (refine store_el rfl _ _ rfl _ rfl _ rfl rfl (el_all h1c) _ _ hR6 rfl ?_; intro w9 hR9 ho9)
      refine ret_el_tmp rfl _ rfl _ rfl _ hR9 _ rfl rfl ?_
      try rw [if_pos ⟨hA, hB⟩]
      rw [HRe.out]
      exact ⟨v6, rfl, (hv6.only ho9 (fun e => by have := (hv6.lt _ e.symm).1; omega)).mono (by omega), hbl6.trans (ho9.below (by omega))⟩
    · clear O7 O8 hb4
      go_wp2_with (refine store_el rfl _ _ rfl _ rfl _ rfl rfl (el_all rfl) _ _ hR4 rfl ?_; intro w9 hR9 ho9)
      refine ret_el_tmp rfl _ rfl _ rfl _ hR9 _ rfl rfl ?_
      try rw [if_neg (fun e => hB e.2)]
      exact ⟨_, rfl, TsOwn.nil _ _, hbl4.trans (ho9.below (by omega))⟩
  · clear O7 O8 hb4
    go_wp2_with (refine store_el rfl _ _ rfl _ rfl _ rfl rfl (el_all rfl) _ _ hR4 rfl ?_; intro w9 hR9 ho9)
    refine ret_el_tmp rfl _ rfl _ rfl _ hR9 _ rfl rfl ?_
    try rw [if_neg (fun e => hA e.1)]
    exact ⟨_, rfl, TsOwn.nil _ _, hbl4.trans (ho9.below (by omega))⟩

theorem implCom_calls (x y : El) (vx vy : Value) (w : World) (hx : x.Wf) (hy : y.Wf) (hvx : TsS w 0 vx x.ts) (hvy : TsS w 0 vy y.ts) :
    Calls Try.prog 26 #[x.val vx, y.val vy] w fun e w' => ElRes w.heap.size w w' (x.comR y) e := by
  by_cases h0 : x.both y = 0
  · have hm : x.comR y = (if (x.mul y).ts.length ≤ 140 ∧ (y.mul x).ts.length ≤ 140 then El.told ⟨x.p, x.c, x.n, sumT x.p (-1) (x.mul y).ts (y.mul x).ts⟩ else (El.zero, 3)) := if_pos h0
    rw [hm]
    have HB := fun b T W h1 h2 h3 => wrong_calls x y vx vy b T W hx hy h1 h2 h3
    rw [h0] at HB
    obtain ⟨P, C, N, hX, hY, hp, hp97, hc0, hcp, hn1, hn8, hnx, hny, hl1, hl2⟩ := both_zero hx hy h0
    generalize x.ts = ts at *
    generalize y.ts = us at *
    subst hX hY
    exact implCom_good P C N ts us vx vy w hp hp97 hc0 (by omega) hn1 hn8 hnx hny hl1 hl2 HB hvx hvy
  · have hm : x.comR y = (El.zero, x.both y) := if_neg h0
    rw [hm]
    exact implCom_bad x y vx vy w hx hy hvx hvy h0
end Go.Proofs.Yticmlgnolbccjaa
