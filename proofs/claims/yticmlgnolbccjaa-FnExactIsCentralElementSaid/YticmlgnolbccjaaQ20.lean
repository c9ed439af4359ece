/- Central elements: plain; IsCentralElement of the program, walked. -/
import Derived.Test.YticmlgnolbccjaaQ19
import Derived.Test.YticmlgnolbccjaaQ12

set_option linter.unusedVariables false
set_option linter.unusedSimpArgs false
namespace Go.Proofs.Yticmlgnolbccjaa
open Go.RowKit Go.Maps

/-- Do the first j cups go past? -/
def cenTo (P C : Int) (N : Nat) (ts : List Tm) (j : Nat) : Bool := (List.range j).all fun i => decide (mulT P C N ts (sngT (Dg.cup N i)) = mulT P C N (sngT (Dg.cup N i)) ts)
theorem cenTo_zero (P C : Int) (N : Nat) (ts : List Tm) : cenTo P C N ts 0 = true := rfl
theorem cenTo_succ (P C : Int) (N : Nat) (ts : List Tm) (j : Nat) : cenTo P C N ts (j + 1) = (cenTo P C N ts j && decide (mulT P C N ts (sngT (Dg.cup N j)) = mulT P C N (sngT (Dg.cup N j)) ts)) := by
  unfold cenTo
  rw [List.range_succ, List.all_append]
  simp
theorem cenTo_false {P C : Int} {N : Nat} {ts : List Tm} {j k : Nat} (h : cenTo P C N ts j = false) (hk : j ≤ k) : cenTo P C N ts k = false := by
  induction k with
  | zero => obtain rfl : j = 0 := by omega
            exact h
  | succ k ih =>
    by_cases hj : j = k + 1
    · subst hj; exact h
    · rw [cenTo_succ, ih (by omega)]; rfl
/-- What IsCentralElement gives. -/
def El.cenR (x : El) : Bool × Int := if x.ok = true then (cenTo x.p x.c x.n.toNat x.ts (x.n.toNat - 1), 0) else (false, 1)
theorem mulT_len (P C : Int) (N : Nat) (ts us : List Tm) : (mulT P C N ts us).length ≤ ts.length * us.length := mulTo_length _ (Nat.le_refl _)

section
variable {ops : Array Oper} {rest : List Oper} {o : Oper} {a : Act} {w : World} {Q : Exit → Act → World → Prop}
theorem load_gen (hgd : o.guard = none) (x : Operand) (ho : o.op = .load 30 x) (b off : Nat) (hx : a.eval x = .pointer (some ⟨b, off, none⟩)) (a0 b0 c0 d0 : Value) (h : w.rangeAt b off [a0, b0, c0, d0])
    (hK : wpList Try.prog ops Q rest (a.put o.dst (.agg #[a0, b0, c0, d0])) w) : wpList Try.prog ops Q (o :: rest) a w :=
  wpList_load_mid hgd _ x ho b off hx [a0, b0, c0, d0] _ h Try.underlying30 rfl (by rw [info_el]; rfl) hK
end
theorem gen_range {w : World} {g : Nat} {cur : Array Value} {p c : Int} {n j : Nat} {L : List Value} {T : TypeId} (h : Blk w g cur T) (ht : cur.toList.take (j * 4) = ec p c n L) (i : Nat) (u : Value) (hu : L[i]? = some u) (hi : i < j) : w.rangeAt g (0 + i * 4) [.int .i64 p, .int .i64 c, .int .i64 n, u] := by
  intro k v hv
  have hk : k < 4 := by
    by_cases h4 : k < 4
    · exact h4
    · rw [List.getElem?_eq_none (by simp; omega)] at hv; cases hv
  have h1 := ec_at p c n L i k u hu hk
  rw [← ht, List.getElem?_take, if_pos (by omega)] at h1
  rw [Nat.zero_add, h.cells, ← hv, ← h1]
  simp

set_option maxHeartbeats 8000000 in
set_option maxRecDepth 100000 in
theorem implCen_bad (x : El) (vx : Value) (w : World) (hx : x.Wf) (hvx : TsS w 0 vx x.ts) (h0 : x.ok = false) :
    Calls Try.prog 15 #[x.val vx] w fun e w' => e = .returned (.tuple #[.bool false, .int .i64 1]) ∧ Below w.heap.size w w' := by
  have HB := Lib.hid (fun W h => implIsElS_calls x vx W hx h false h0)
  unfold El.val El.cells
  have hX := Blk.new w #[.int .i64 x.p, .int .i64 x.c, .int .i64 x.n, vx] 30
  have hbl := (Below.refl w.heap.size w).alloc (Nat.le_refl _) (.cells #[.int .i64 x.p, .int .i64 x.c, .int .i64 x.n, vx] 30)
  have hvx2 := hvx.below hbl (Nat.le_refl _)
  have hz2 := hX.lt
  clear hvx
  go_enter Try.func15, Try.ntmps15
  go_wp2_with (refine load_el rfl _ rfl _ rfl _ rfl _ hX ?_)
  generalize w.alloc (.cells #[.int .i64 x.p, .int .i64 x.c, .int .i64 x.n, vx] 30) = w2 at *
  refine (HB.out _ hvx2).mono ?_
  rintro e w3 ⟨rfl, hb3⟩
  go_wp2_with fail
  go_ret2
  exact ⟨rfl, hbl.trans (hb3.mono (by omega))⟩

set_option maxHeartbeats 8000000 in
set_option maxRecDepth 100000 in
theorem implCen_good (P C : Int) (N : Nat) (ts : List Tm) (vx : Value) (w : World) (hp : 2 ≤ P) (hp97 : P ≤ 97) (hc0 : 0 ≤ C) (hcp : C ≤ P) (hn1 : 1 ≤ N) (hn8 : N ≤ 8) (hnx : Nf P N ts) (hl1 : ts.length ≤ 140)
    (hB : ∀ W, TsS W 0 vx ts → Calls Try.prog 43 #[.agg #[.int .i64 P, .int .i64 C, .int .i64 N, vx]] W fun e w' => e = .returned (.bool true) ∧ Below W.heap.size W w') (hvx : TsS w 0 vx ts) :
    Calls Try.prog 15 #[.agg #[.int .i64 P, .int .i64 C, .int .i64 N, vx]] w fun e w' => e = .returned (.tuple #[.bool (cenTo P C N ts (N - 1)), .int .i64 0]) ∧ Below w.heap.size w w' := by
  have HB := Lib.hid hB
  clear hB
  have Hnx := Lib.hid hnx
  clear hnx
  have HG := Lib.hid (fun b T W h => implGens_calls P C N vx b T W h hp hp97 hn1 hn8)
  have hX := Blk.new w #[.int .i64 P, .int .i64 C, .int .i64 N, vx] 30
  have hbl := (Below.refl w.heap.size w).alloc (Nat.le_refl _) (.cells #[.int .i64 P, .int .i64 C, .int .i64 N, vx] 30)
  have hvx2 := hvx.below hbl (Nat.le_refl _)
  have hz2 := hX.lt
  clear hvx
  go_enter Try.func15, Try.ntmps15
  go_wp2_with (refine load_el rfl _ rfl _ rfl _ rfl _ hX ?_)
  generalize w.alloc (.cells #[.int .i64 P, .int .i64 C, .int .i64 N, vx] 30) = w2 at *
  refine (HB.out _ hvx2).mono ?_
  rintro e w1 ⟨rfl, hb1⟩
  have hX1 := hX.below hb1 hX.lt
  have hvx1 := hvx2.below hb1 (Nat.le_refl _)
  have hbl1 := hbl.trans (hb1.mono (by omega))
  have hz1 := hb1.size
  clear hX hvx2 hbl hb1 HB
  go_wp2_with fail
  refine (HG.out _ _ _ hX1).mono ?_
  rintro e w4 ⟨vg, rfl, hG, hb4⟩
  have hX4 := hX1.below hb4 hX1.lt
  have hvx4 := hvx1.below hb4 (Nat.le_refl _)
  have hbl4 := hbl1.trans (hb4.mono (by omega))
  have hz4 := hb4.size
  obtain ⟨L, hLl, hrow, hvn, hLt⟩ := hG
  obtain ⟨gv, capv, cur, hvv, hgb, hgl, hcap1, hcap2, htk⟩ := own_gen hrow hvn
  subst hvv
  have HLt := Lib.hid hLt
  have Htk := Lib.hid htk
  unfold maxLen at hcap2
  clear hX1 hvx1 hbl1 hb4 HG hrow hvn hLt htk
  go_wp2_with fail
  go_loopw [14, 4] (fun i b wr => ∃ j : Nat, j ≤ N - 1 ∧ i = .int .i64 j ∧ b = .bool (cenTo P C N ts j) ∧ Below w4.heap.size w4 wr) (fun i _ _ => N - (intOf i).toNat)
  case atStart => exact ⟨0, by omega, rfl, rfl, Below.refl _ _⟩
  case round =>
    obtain ⟨j, hj, rfl, rfl, hbr⟩ := hrel
    have hz5 := hbr.size
    by_cases hlt : j < N - 1
    · have hLj : L[j]? = some (L[j]'(by omega)) := List.getElem?_eq_getElem (by omega)
      have hra := gen_range (hgl.below hbr hgl.lt) Htk.out j _ hLj (by omega)
      rw [Nat.zero_add] at hra
      have hvg := (HLt.out j _ hLj).below hbr (Nat.le_refl _)
      have hcu := cup_good N j (by omega) hn8 (by omega)
      have hng := sngT_nf (p := P) hp hcu
      have hlg : (sngT (Dg.cup N j)).length = 1 := rfl
      have hst := cenTo_succ P C N ts j
      have Hst := Lib.hid hst
      clear hst hcu
      generalize L[j]'(by omega) = vy at *
      generalize sngT (Dg.cup (N : Int) (j : Int)) = us at *
      have hXa := (hX4.below hbr hX4.lt).alloc (.cells #[.int .i64 0, .int .i64 0, .int .i64 0, .slice none 0 0] 30)
      have hvya := hvg.alloc (.cells #[.int .i64 0, .int .i64 0, .int .i64 0, .slice none 0 0] 30)
      have hvxa := (hvx4.below hbr (Nat.le_refl _)).alloc (.cells #[.int .i64 0, .int .i64 0, .int .i64 0, .slice none 0 0] 30)
      have hvy1c := hvg.oneCell
      have hvxb := hvx4.below hbr (Nat.le_refl _)
      go_upto_region 7 with (first | (refine load_gen rfl _ rfl _ _ rfl _ _ _ _ hra ?_) | (refine store_el rfl _ _ rfl _ rfl _ rfl rfl (el_all hvy1c) _ _ (Blk.newAt _ _ _ rfl) rfl ?_; intro w3 hY3 ho3))
      have hX3 := hXa.only ho3 (by omega)
      have hvx3 := hvxa.only ho3 (hvxa.ne_blk (Blk.new wr #[.int .i64 0, .int .i64 0, .int .i64 0, .slice none 0 0] 30) (by decide))
      have hvy3 := (hvya.only ho3 (hvya.ne_blk (Blk.new wr #[.int .i64 0, .int .i64 0, .int .i64 0, .slice none 0 0] 30) (by decide))).mono (Nat.zero_le _)
      have hbr3 := (hbr.alloc hz5 (.cells #[.int .i64 0, .int .i64 0, .int .i64 0, .slice none 0 0] 30)).trans (ho3.below hz5)
      have hz6 := hbr3.size
      have HM1 := Lib.hid (fun W h1 h2 => implMulT_calls P C N ts us hp hp97 hc0 hcp hn1 hn8 Hnx.out hng (by omega) (by omega) vx vy W h1 h2)
      have HM2 := Lib.hid (fun W h1 h2 => implMulT_calls P C N us ts hp hp97 hc0 hcp hn1 hn8 hng Hnx.out (by omega) (by omega) vy vx W h1 h2)
      have HnA := Lib.hid (mulT_nf (c := C) hp Hnx.out hng)
      have HnB := Lib.hid (mulT_nf (c := C) hp hng Hnx.out)
      have hlA := mulT_len P C N ts us
      have hlB := mulT_len P C N us ts
      rw [hlg, Nat.mul_one] at hlA
      rw [hlg, Nat.one_mul] at hlB
      unfold el at HM1 HM2
      generalize mulT P C N ts us = A at *
      generalize mulT P C N us ts = B at *
      clear hXa hvya hvxa hvxb hvg hra hvy1c ho3 hng
      generalize wr.heap.size = b6 at *
      try simp only [Act.put, List.setIfInBounds_toArray, List.set_cons_zero, List.set_cons_succ]
      go_cut [7, 8] from 18 to 23 (fun v7 v8 wx => ∃ (b7 b8 : Nat) (v20 v23 : Value), v7 = .pointer (some ⟨b7, 0, none⟩) ∧ v8 = .pointer (some ⟨b8, 0, none⟩) ∧ Has wx w3.heap.size b7 ⟨P, C, N, A⟩ v20 A ∧ Has wx w3.heap.size b8 ⟨P, C, N, B⟩ v23 B ∧ b8 ≠ b7 ∧ Below w3.heap.size w3 wx)
      case first =>
        refine wp_region_old (by kernel_rfl) (fun hS => ?_)
        generalize w3.drew = u0 at *
        refine takeA 0 (v := .agg #[.int .i64 P, .int .i64 C, .int .i64 N, vx]) hS ?_ ?_
        · exact fun W hW => held_el hW _ rfl _ rfl _ rfl _ hX3 rfl
        try simp only [Act.put, List.setIfInBounds_toArray, List.set_cons_zero, List.set_cons_succ]
        refine takeA 1 (v := .agg #[.int .i64 P, .int .i64 C, .int .i64 N, vy]) hS ?_ ?_
        · exact fun W hW => held_el hW _ rfl _ rfl _ rfl _ hY3 rfl
        try simp only [Act.put, List.setIfInBounds_toArray, List.set_cons_zero, List.set_cons_succ]
        refine takeA 3 (v := .agg #[.int .i64 P, .int .i64 C, .int .i64 N, vy]) hS ?_ ?_
        · exact fun W hW => held_el hW _ rfl _ rfl _ rfl _ hY3 rfl
        try simp only [Act.put, List.setIfInBounds_toArray, List.set_cons_zero, List.set_cons_succ]
        refine takeA 4 (v := .agg #[.int .i64 P, .int .i64 C, .int .i64 N, vx]) hS ?_ ?_
        · exact fun W hW => held_el hW _ rfl _ rfl _ rfl _ hX3 rfl
        try simp only [Act.put, List.setIfInBounds_toArray, List.set_cons_zero, List.set_cons_succ]
        refine wpAnyH_ready (rs := [2, 6, 7]) (by decide +kernel) (by simp) (allA 2 (fun K hK => ?_) (allA 6 (fun K hK => ?_) (allA 7 (fun K hK => ?_) AllReadyH.nil)))
        · go_simp
          refine (HM1.out _ (hvx3.below hS (Nat.le_refl _)) (hvy3.below hS (Nat.le_refl _))).mono ?_
          rintro e u2 ⟨v20, rfl, hv20, hb⟩
          replace hv20 := hv20.mono hS.size
          try replace h7 := h7.below hb h7.lt
          try replace h8 := h8.below hb h8.lt
          replace hS := hS.call hb
          refine hK _ _ hS ?_
          clear hK K hb
          try simp only [Act.put, List.setIfInBounds_toArray, List.set_cons_zero, List.set_cons_succ]
          refine wpAnyH_ready (rs := [5, 6, 7]) (by decide +kernel) (by simp) (allA 5 (fun K hK => ?_) (allA 6 (fun K hK => ?_) (allA 7 (fun K hK => ?_) AllReadyH.nil)))
          · go_simp
            refine (HM2.out _ (hvy3.below hS (Nat.le_refl _)) (hvx3.below hS (Nat.le_refl _))).mono ?_
            rintro e u5 ⟨v23, rfl, hv23, hb⟩
            replace hv23 := hv23.mono hS.size
            replace hv20 := hv20.below hb (Nat.le_refl _)
            try replace h7 := h7.below hb h7.lt
            try replace h8 := h8.below hb h8.lt
            replace hS := hS.call hb
            refine hK _ _ hS ?_
            clear hK K hb
            try simp only [Act.put, List.setIfInBounds_toArray, List.set_cons_zero, List.set_cons_succ]
            refine wpAnyH_ready (rs := [6, 7]) (by decide +kernel) (by simp) (allA 6 (fun K hK => ?_) (allA 7 (fun K hK => ?_) AllReadyH.nil))
            · have h7 := Blk.new (u5) #[.int .i64 0, .int .i64 0, .int .i64 0, .slice none 0 0] 30
              have hz7 := hS.size
              try have hne := Nat.ne_of_lt h8.lt
              go_simp
              try replace h8 := h8.alloc (.cells #[.int .i64 0, .int .i64 0, .int .i64 0, .slice none 0 0] 30)
              try replace hv20 := hv20.alloc' (.cells #[.int .i64 0, .int .i64 0, .int .i64 0, .slice none 0 0] 30)
              try replace hv23 := hv23.alloc' (.cells #[.int .i64 0, .int .i64 0, .int .i64 0, .slice none 0 0] 30)
              replace hS := hS.alloc (.cells #[.int .i64 0, .int .i64 0, .int .i64 0, .slice none 0 0] 30)
              refine hK _ _ hS ?_
              clear hK K
              generalize World.alloc (u5) (.cells #[.int .i64 0, .int .i64 0, .int .i64 0, .slice none 0 0] 30) = u6 at *
              try simp only [Act.put, List.setIfInBounds_toArray, List.set_cons_zero, List.set_cons_succ]
              refine wpAnyH_ready (rs := [7]) (by decide +kernel) (by simp) (allA 7 (fun K hK => ?_) AllReadyH.nil)
              have h8 := Blk.new (u6) #[.int .i64 0, .int .i64 0, .int .i64 0, .slice none 0 0] 30
              have hz8 := hS.size
              try have hne := Nat.ne_of_gt h7.lt
              go_simp
              try replace h7 := h7.alloc (.cells #[.int .i64 0, .int .i64 0, .int .i64 0, .slice none 0 0] 30)
              try replace hv20 := hv20.alloc' (.cells #[.int .i64 0, .int .i64 0, .int .i64 0, .slice none 0 0] 30)
              try replace hv23 := hv23.alloc' (.cells #[.int .i64 0, .int .i64 0, .int .i64 0, .slice none 0 0] 30)
              replace hS := hS.alloc (.cells #[.int .i64 0, .int .i64 0, .int .i64 0, .slice none 0 0] 30)
              refine hK _ _ hS ?_
              clear hK K
              generalize World.alloc (u6) (.cells #[.int .i64 0, .int .i64 0, .int .i64 0, .slice none 0 0] 30) = u7 at *
              try simp only [Act.put, List.setIfInBounds_toArray, List.set_cons_zero, List.set_cons_succ]
              refine wpAnyH_ready (rs := [8]) (by decide +kernel) (by simp) (allA 8 (fun K hK => ?_) AllReadyH.nil)
              have c20 := hv20.oneCell
              refine wp_store_el _ _ rfl _ rfl _ rfl rfl (el_all c20) _ _ h7 rfl ?_
              intro u8 g7 ho
              replace h8 := h8.only ho hne
              replace hv20 := hv20.only ho (hv20.ne_blk h7 (by decide))
              replace hv23 := hv23.only ho (hv23.ne_blk h7 (by decide))
              replace hS := hS.only ho hz7
              replace h7 := g7
              refine hK _ _ hS ?_
              clear hK K g7 ho
              try simp only [Act.put, List.setIfInBounds_toArray, List.set_cons_zero, List.set_cons_succ]
              refine wpAnyH_ready (rs := [9]) (by decide +kernel) (by simp) (allA 9 (fun K hK => ?_) AllReadyH.nil)
              have c23 := hv23.oneCell
              refine wp_store_el _ _ rfl _ rfl _ rfl rfl (el_all c23) _ _ h8 rfl ?_
              intro u9 g8 ho
              replace h7 := h7.only ho (Ne.symm hne)
              replace hv20 := hv20.only ho (hv20.ne_blk h8 (by decide))
              replace hv23 := hv23.only ho (hv23.ne_blk h8 (by decide))
              replace hS := hS.only ho hz8
              replace h8 := g8
              refine hK _ _ hS ?_
              clear hK K g8 ho
              try simp only [Act.put, List.setIfInBounds_toArray, List.set_cons_zero, List.set_cons_succ]
              refine wpAnyH_done (by decide +kernel) ?_ _
              go_wp2_with fail
              go_meet
              case rel => exact ⟨_, _, v20, v23, rfl, rfl, ⟨h7, hv20⟩, ⟨h8, hv23⟩, hne, hS⟩
            · have h8 := Blk.new (u5) #[.int .i64 0, .int .i64 0, .int .i64 0, .slice none 0 0] 30
              have hz8 := hS.size
              try have hne := Nat.ne_of_gt h7.lt
              go_simp
              try replace h7 := h7.alloc (.cells #[.int .i64 0, .int .i64 0, .int .i64 0, .slice none 0 0] 30)
              try replace hv20 := hv20.alloc' (.cells #[.int .i64 0, .int .i64 0, .int .i64 0, .slice none 0 0] 30)
              try replace hv23 := hv23.alloc' (.cells #[.int .i64 0, .int .i64 0, .int .i64 0, .slice none 0 0] 30)
              replace hS := hS.alloc (.cells #[.int .i64 0, .int .i64 0, .int .i64 0, .slice none 0 0] 30)
              refine hK _ _ hS ?_
              clear hK K
              generalize World.alloc (u5) (.cells #[.int .i64 0, .int .i64 0, .int .i64 0, .slice none 0 0] 30) = u7 at *
              try simp only [Act.put, List.setIfInBounds_toArray, List.set_cons_zero, List.set_cons_succ]
              refine wpAnyH_ready (rs := [6]) (by decide +kernel) (by simp) (allA 6 (fun K hK => ?_) AllReadyH.nil)
              have h7 := Blk.new (u7) #[.int .i64 0, .int .i64 0, .int .i64 0, .slice none 0 0] 30
              have hz7 := hS.size
              try have hne := Nat.ne_of_lt h8.lt
              go_simp
              try replace h8 := h8.alloc (.cells #[.int .i64 0, .int .i64 0, .int .i64 0, .slice none 0 0] 30)
              try replace hv20 := hv20.alloc' (.cells #[.int .i64 0, .int .i64 0, .int .i64 0, .slice none 0 0] 30)
              try replace hv23 := hv23.alloc' (.cells #[.int .i64 0, .int .i64 0, .int .i64 0, .slice none 0 0] 30)
              replace hS := hS.alloc (.cells #[.int .i64 0, .int .i64 0, .int .i64 0, .slice none 0 0] 30)
              refine hK _ _ hS ?_
              clear hK K
              generalize World.alloc (u7) (.cells #[.int .i64 0, .int .i64 0, .int .i64 0, .slice none 0 0] 30) = u6 at *
              try simp only [Act.put, List.setIfInBounds_toArray, List.set_cons_zero, List.set_cons_succ]
              refine wpAnyH_ready (rs := [8]) (by decide +kernel) (by simp) (allA 8 (fun K hK => ?_) AllReadyH.nil)
              have c20 := hv20.oneCell
              refine wp_store_el _ _ rfl _ rfl _ rfl rfl (el_all c20) _ _ h7 rfl ?_
              intro u8 g7 ho
              replace h8 := h8.only ho hne
              replace hv20 := hv20.only ho (hv20.ne_blk h7 (by decide))
              replace hv23 := hv23.only ho (hv23.ne_blk h7 (by decide))
              replace hS := hS.only ho hz7
              replace h7 := g7
              refine hK _ _ hS ?_
              clear hK K g7 ho
              try simp only [Act.put, List.setIfInBounds_toArray, List.set_cons_zero, List.set_cons_succ]
              refine wpAnyH_ready (rs := [9]) (by decide +kernel) (by simp) (allA 9 (fun K hK => ?_) AllReadyH.nil)
              have c23 := hv23.oneCell
              refine wp_store_el _ _ rfl _ rfl _ rfl rfl (el_all c23) _ _ h8 rfl ?_
              intro u9 g8 ho
              replace h7 := h7.only ho (Ne.symm hne)
              replace hv20 := hv20.only ho (hv20.ne_blk h8 (by decide))
              replace hv23 := hv23.only ho (hv23.ne_blk h8 (by decide))
              replace hS := hS.only ho hz8
              replace h8 := g8
              refine hK _ _ hS ?_
              clear hK K g8 ho
              try simp only [Act.put, List.setIfInBounds_toArray, List.set_cons_zero, List.set_cons_succ]
              refine wpAnyH_done (by decide +kernel) ?_ _
              go_wp2_with fail
              go_meet
              case rel => exact ⟨_, _, v20, v23, rfl, rfl, ⟨h7, hv20⟩, ⟨h8, hv23⟩, hne, hS⟩
          · have h7 := Blk.new (u2) #[.int .i64 0, .int .i64 0, .int .i64 0, .slice none 0 0] 30
            have hz7 := hS.size
            try have hne := Nat.ne_of_lt h8.lt
            go_simp
            try replace h8 := h8.alloc (.cells #[.int .i64 0, .int .i64 0, .int .i64 0, .slice none 0 0] 30)
            try replace hv20 := hv20.alloc' (.cells #[.int .i64 0, .int .i64 0, .int .i64 0, .slice none 0 0] 30)
            try replace hv23 := hv23.alloc' (.cells #[.int .i64 0, .int .i64 0, .int .i64 0, .slice none 0 0] 30)
            replace hS := hS.alloc (.cells #[.int .i64 0, .int .i64 0, .int .i64 0, .slice none 0 0] 30)
            refine hK _ _ hS ?_
            clear hK K
            generalize World.alloc (u2) (.cells #[.int .i64 0, .int .i64 0, .int .i64 0, .slice none 0 0] 30) = u6 at *
            try simp only [Act.put, List.setIfInBounds_toArray, List.set_cons_zero, List.set_cons_succ]
            refine wpAnyH_ready (rs := [5, 7]) (by decide +kernel) (by simp) (allA 5 (fun K hK => ?_) (allA 7 (fun K hK => ?_) AllReadyH.nil))
            · go_simp
              refine (HM2.out _ (hvy3.below hS (Nat.le_refl _)) (hvx3.below hS (Nat.le_refl _))).mono ?_
              rintro e u5 ⟨v23, rfl, hv23, hb⟩
              replace hv23 := hv23.mono hS.size
              replace hv20 := hv20.below hb (Nat.le_refl _)
              try replace h7 := h7.below hb h7.lt
              try replace h8 := h8.below hb h8.lt
              replace hS := hS.call hb
              refine hK _ _ hS ?_
              clear hK K hb
              try simp only [Act.put, List.setIfInBounds_toArray, List.set_cons_zero, List.set_cons_succ]
              refine wpAnyH_ready (rs := [7]) (by decide +kernel) (by simp) (allA 7 (fun K hK => ?_) AllReadyH.nil)
              have h8 := Blk.new (u5) #[.int .i64 0, .int .i64 0, .int .i64 0, .slice none 0 0] 30
              have hz8 := hS.size
              try have hne := Nat.ne_of_gt h7.lt
              go_simp
              try replace h7 := h7.alloc (.cells #[.int .i64 0, .int .i64 0, .int .i64 0, .slice none 0 0] 30)
              try replace hv20 := hv20.alloc' (.cells #[.int .i64 0, .int .i64 0, .int .i64 0, .slice none 0 0] 30)
              try replace hv23 := hv23.alloc' (.cells #[.int .i64 0, .int .i64 0, .int .i64 0, .slice none 0 0] 30)
              replace hS := hS.alloc (.cells #[.int .i64 0, .int .i64 0, .int .i64 0, .slice none 0 0] 30)
              refine hK _ _ hS ?_
              clear hK K
              generalize World.alloc (u5) (.cells #[.int .i64 0, .int .i64 0, .int .i64 0, .slice none 0 0] 30) = u7 at *
              try simp only [Act.put, List.setIfInBounds_toArray, List.set_cons_zero, List.set_cons_succ]
              refine wpAnyH_ready (rs := [8]) (by decide +kernel) (by simp) (allA 8 (fun K hK => ?_) AllReadyH.nil)
              have c20 := hv20.oneCell
              refine wp_store_el _ _ rfl _ rfl _ rfl rfl (el_all c20) _ _ h7 rfl ?_
              intro u8 g7 ho
              replace h8 := h8.only ho hne
              replace hv20 := hv20.only ho (hv20.ne_blk h7 (by decide))
              replace hv23 := hv23.only ho (hv23.ne_blk h7 (by decide))
              replace hS := hS.only ho hz7
              replace h7 := g7
              refine hK _ _ hS ?_
              clear hK K g7 ho
              try simp only [Act.put, List.setIfInBounds_toArray, List.set_cons_zero, List.set_cons_succ]
              refine wpAnyH_ready (rs := [9]) (by decide +kernel) (by simp) (allA 9 (fun K hK => ?_) AllReadyH.nil)
              have c23 := hv23.oneCell
              refine wp_store_el _ _ rfl _ rfl _ rfl rfl (el_all c23) _ _ h8 rfl ?_
              intro u9 g8 ho
              replace h7 := h7.only ho (Ne.symm hne)
              replace hv20 := hv20.only ho (hv20.ne_blk h8 (by decide))
              replace hv23 := hv23.only ho (hv23.ne_blk h8 (by decide))
              replace hS := hS.only ho hz8
              replace h8 := g8
              refine hK _ _ hS ?_
              clear hK K g8 ho
              try simp only [Act.put, List.setIfInBounds_toArray, List.set_cons_zero, List.set_cons_succ]
              refine wpAnyH_done (by decide +kernel) ?_ _
              go_wp2_with fail
              go_meet
              case rel => exact ⟨_, _, v20, v23, rfl, rfl, ⟨h7, hv20⟩, ⟨h8, hv23⟩, hne, hS⟩
            · have h8 := Blk.new (u6) #[.int .i64 0, .int .i64 0, .int .i64 0, .slice none 0 0] 30
              have hz8 := hS.size
              try have hne := Nat.ne_of_gt h7.lt
              go_simp
              try replace h7 := h7.alloc (.cells #[.int .i64 0, .int .i64 0, .int .i64 0, .slice none 0 0] 30)
              try replace hv20 := hv20.alloc' (.cells #[.int .i64 0, .int .i64 0, .int .i64 0, .slice none 0 0] 30)
              try replace hv23 := hv23.alloc' (.cells #[.int .i64 0, .int .i64 0, .int .i64 0, .slice none 0 0] 30)
              replace hS := hS.alloc (.cells #[.int .i64 0, .int .i64 0, .int .i64 0, .slice none 0 0] 30)
              refine hK _ _ hS ?_
              clear hK K
              generalize World.alloc (u6) (.cells #[.int .i64 0, .int .i64 0, .int .i64 0, .slice none 0 0] 30) = u7 at *
              try simp only [Act.put, List.setIfInBounds_toArray, List.set_cons_zero, List.set_cons_succ]
              refine wpAnyH_ready (rs := [5]) (by decide +kernel) (by simp) (allA 5 (fun K hK => ?_) AllReadyH.nil)
              go_simp
              refine (HM2.out _ (hvy3.below hS (Nat.le_refl _)) (hvx3.below hS (Nat.le_refl _))).mono ?_
              rintro e u5 ⟨v23, rfl, hv23, hb⟩
              replace hv23 := hv23.mono hS.size
              replace hv20 := hv20.below hb (Nat.le_refl _)
              try replace h7 := h7.below hb h7.lt
              try replace h8 := h8.below hb h8.lt
              replace hS := hS.call hb
              refine hK _ _ hS ?_
              clear hK K hb
              try simp only [Act.put, List.setIfInBounds_toArray, List.set_cons_zero, List.set_cons_succ]
              refine wpAnyH_ready (rs := [8]) (by decide +kernel) (by simp) (allA 8 (fun K hK => ?_) AllReadyH.nil)
              have c20 := hv20.oneCell
              refine wp_store_el _ _ rfl _ rfl _ rfl rfl (el_all c20) _ _ h7 rfl ?_
              intro u8 g7 ho
              replace h8 := h8.only ho hne
              replace hv20 := hv20.only ho (hv20.ne_blk h7 (by decide))
              replace hv23 := hv23.only ho (hv23.ne_blk h7 (by decide))
              replace hS := hS.only ho hz7
              replace h7 := g7
              refine hK _ _ hS ?_
              clear hK K g7 ho
              try simp only [Act.put, List.setIfInBounds_toArray, List.set_cons_zero, List.set_cons_succ]
              refine wpAnyH_ready (rs := [9]) (by decide +kernel) (by simp) (allA 9 (fun K hK => ?_) AllReadyH.nil)
              have c23 := hv23.oneCell
              refine wp_store_el _ _ rfl _ rfl _ rfl rfl (el_all c23) _ _ h8 rfl ?_
              intro u9 g8 ho
              replace h7 := h7.only ho (Ne.symm hne)
              replace hv20 := hv20.only ho (hv20.ne_blk h8 (by decide))
              replace hv23 := hv23.only ho (hv23.ne_blk h8 (by decide))
              replace hS := hS.only ho hz8
              replace h8 := g8
              refine hK _ _ hS ?_
              clear hK K g8 ho
              try simp only [Act.put, List.setIfInBounds_toArray, List.set_cons_zero, List.set_cons_succ]
              refine wpAnyH_done (by decide +kernel) ?_ _
              go_wp2_with fail
              go_meet
              case rel => exact ⟨_, _, v20, v23, rfl, rfl, ⟨h7, hv20⟩, ⟨h8, hv23⟩, hne, hS⟩
          · have h8 := Blk.new (u2) #[.int .i64 0, .int .i64 0, .int .i64 0, .slice none 0 0] 30
            have hz8 := hS.size
            try have hne := Nat.ne_of_gt h7.lt
            go_simp
            try replace h7 := h7.alloc (.cells #[.int .i64 0, .int .i64 0, .int .i64 0, .slice none 0 0] 30)
            try replace hv20 := hv20.alloc' (.cells #[.int .i64 0, .int .i64 0, .int .i64 0, .slice none 0 0] 30)
            try replace hv23 := hv23.alloc' (.cells #[.int .i64 0, .int .i64 0, .int .i64 0, .slice none 0 0] 30)
            replace hS := hS.alloc (.cells #[.int .i64 0, .int .i64 0, .int .i64 0, .slice none 0 0] 30)
            refine hK _ _ hS ?_
            clear hK K
            generalize World.alloc (u2) (.cells #[.int .i64 0, .int .i64 0, .int .i64 0, .slice none 0 0] 30) = u7 at *
            try simp only [Act.put, List.setIfInBounds_toArray, List.set_cons_zero, List.set_cons_succ]
            refine wpAnyH_ready (rs := [5, 6]) (by decide +kernel) (by simp) (allA 5 (fun K hK => ?_) (allA 6 (fun K hK => ?_) AllReadyH.nil))
            · go_simp
              refine (HM2.out _ (hvy3.below hS (Nat.le_refl _)) (hvx3.below hS (Nat.le_refl _))).mono ?_
              rintro e u5 ⟨v23, rfl, hv23, hb⟩
              replace hv23 := hv23.mono hS.size
              replace hv20 := hv20.below hb (Nat.le_refl _)
              try replace h7 := h7.below hb h7.lt
              try replace h8 := h8.below hb h8.lt
              replace hS := hS.call hb
              refine hK _ _ hS ?_
              clear hK K hb
              try simp only [Act.put, List.setIfInBounds_toArray, List.set_cons_zero, List.set_cons_succ]
              refine wpAnyH_ready (rs := [6]) (by decide +kernel) (by simp) (allA 6 (fun K hK => ?_) AllReadyH.nil)
              have h7 := Blk.new (u5) #[.int .i64 0, .int .i64 0, .int .i64 0, .slice none 0 0] 30
              have hz7 := hS.size
              try have hne := Nat.ne_of_lt h8.lt
              go_simp
              try replace h8 := h8.alloc (.cells #[.int .i64 0, .int .i64 0, .int .i64 0, .slice none 0 0] 30)
              try replace hv20 := hv20.alloc' (.cells #[.int .i64 0, .int .i64 0, .int .i64 0, .slice none 0 0] 30)
              try replace hv23 := hv23.alloc' (.cells #[.int .i64 0, .int .i64 0, .int .i64 0, .slice none 0 0] 30)
              replace hS := hS.alloc (.cells #[.int .i64 0, .int .i64 0, .int .i64 0, .slice none 0 0] 30)
              refine hK _ _ hS ?_
              clear hK K
              generalize World.alloc (u5) (.cells #[.int .i64 0, .int .i64 0, .int .i64 0, .slice none 0 0] 30) = u6 at *
              try simp only [Act.put, List.setIfInBounds_toArray, List.set_cons_zero, List.set_cons_succ]
              refine wpAnyH_ready (rs := [8]) (by decide +kernel) (by simp) (allA 8 (fun K hK => ?_) AllReadyH.nil)
              have c20 := hv20.oneCell
              refine wp_store_el _ _ rfl _ rfl _ rfl rfl (el_all c20) _ _ h7 rfl ?_
              intro u8 g7 ho
              replace h8 := h8.only ho hne
              replace hv20 := hv20.only ho (hv20.ne_blk h7 (by decide))
              replace hv23 := hv23.only ho (hv23.ne_blk h7 (by decide))
              replace hS := hS.only ho hz7
              replace h7 := g7
              refine hK _ _ hS ?_
              clear hK K g7 ho
              try simp only [Act.put, List.setIfInBounds_toArray, List.set_cons_zero, List.set_cons_succ]
              refine wpAnyH_ready (rs := [9]) (by decide +kernel) (by simp) (allA 9 (fun K hK => ?_) AllReadyH.nil)
              have c23 := hv23.oneCell
              refine wp_store_el _ _ rfl _ rfl _ rfl rfl (el_all c23) _ _ h8 rfl ?_
              intro u9 g8 ho
              replace h7 := h7.only ho (Ne.symm hne)
              replace hv20 := hv20.only ho (hv20.ne_blk h8 (by decide))
              replace hv23 := hv23.only ho (hv23.ne_blk h8 (by decide))
              replace hS := hS.only ho hz8
              replace h8 := g8
              refine hK _ _ hS ?_
              clear hK K g8 ho
              try simp only [Act.put, List.setIfInBounds_toArray, List.set_cons_zero, List.set_cons_succ]
              refine wpAnyH_done (by decide +kernel) ?_ _
              go_wp2_with fail
              go_meet
              case rel => exact ⟨_, _, v20, v23, rfl, rfl, ⟨h7, hv20⟩, ⟨h8, hv23⟩, hne, hS⟩
            · have h7 := Blk.new (u7) #[.int .i64 0, .int .i64 0, .int .i64 0, .slice none 0 0] 30
              have hz7 := hS.size
              try have hne := Nat.ne_of_lt h8.lt
              go_simp
              try replace h8 := h8.alloc (.cells #[.int .i64 0, .int .i64 0, .int .i64 0, .slice none 0 0] 30)
              try replace hv20 := hv20.alloc' (.cells #[.int .i64 0, .int .i64 0, .int .i64 0, .slice none 0 0] 30)
              try replace hv23 := hv23.alloc' (.cells #[.int .i64 0, .int .i64 0, .int .i64 0, .slice none 0 0] 30)
              replace hS := hS.alloc (.cells #[.int .i64 0, .int .i64 0, .int .i64 0, .slice none 0 0] 30)
              refine hK _ _ hS ?_
              clear hK K
              generalize World.alloc (u7) (.cells #[.int .i64 0, .int .i64 0, .int .i64 0, .slice none 0 0] 30) = u6 at *
              try simp only [Act.put, List.setIfInBounds_toArray, List.set_cons_zero, List.set_cons_succ]
              refine wpAnyH_ready (rs := [5]) (by decide +kernel) (by simp) (allA 5 (fun K hK => ?_) AllReadyH.nil)
              go_simp
              refine (HM2.out _ (hvy3.below hS (Nat.le_refl _)) (hvx3.below hS (Nat.le_refl _))).mono ?_
              rintro e u5 ⟨v23, rfl, hv23, hb⟩
              replace hv23 := hv23.mono hS.size
              replace hv20 := hv20.below hb (Nat.le_refl _)
              try replace h7 := h7.below hb h7.lt
              try replace h8 := h8.below hb h8.lt
              replace hS := hS.call hb
              refine hK _ _ hS ?_
              clear hK K hb
              try simp only [Act.put, List.setIfInBounds_toArray, List.set_cons_zero, List.set_cons_succ]
              refine wpAnyH_ready (rs := [8]) (by decide +kernel) (by simp) (allA 8 (fun K hK => ?_) AllReadyH.nil)
              have c20 := hv20.oneCell
              refine wp_store_el _ _ rfl _ rfl _ rfl rfl (el_all c20) _ _ h7 rfl ?_
              intro u8 g7 ho
              replace h8 := h8.only ho hne
              replace hv20 := hv20.only ho (hv20.ne_blk h7 (by decide))
              replace hv23 := hv23.only ho (hv23.ne_blk h7 (by decide))
              replace hS := hS.only ho hz7
              replace h7 := g7
              refine hK _ _ hS ?_
              clear hK K g7 ho
              try simp only [Act.put, List.setIfInBounds_toArray, List.set_cons_zero, List.set_cons_succ]
              refine wpAnyH_ready (rs := [9]) (by decide +kernel) (by simp) (allA 9 (fun K hK => ?_) AllReadyH.nil)
              have c23 := hv23.oneCell
              refine wp_store_el _ _ rfl _ rfl _ rfl rfl (el_all c23) _ _ h8 rfl ?_
              intro u9 g8 ho
              replace h7 := h7.only ho (Ne.symm hne)
              replace hv20 := hv20.only ho (hv20.ne_blk h8 (by decide))
              replace hv23 := hv23.only ho (hv23.ne_blk h8 (by decide))
              replace hS := hS.only ho hz8
              replace h8 := g8
              refine hK _ _ hS ?_
              clear hK K g8 ho
              try simp only [Act.put, List.setIfInBounds_toArray, List.set_cons_zero, List.set_cons_succ]
              refine wpAnyH_done (by decide +kernel) ?_ _
              go_wp2_with fail
              go_meet
              case rel => exact ⟨_, _, v20, v23, rfl, rfl, ⟨h7, hv20⟩, ⟨h8, hv23⟩, hne, hS⟩
        · have h7 := Blk.new (u0) #[.int .i64 0, .int .i64 0, .int .i64 0, .slice none 0 0] 30
          have hz7 := hS.size
          try have hne := Nat.ne_of_lt h8.lt
          go_simp
          try replace h8 := h8.alloc (.cells #[.int .i64 0, .int .i64 0, .int .i64 0, .slice none 0 0] 30)
          try replace hv20 := hv20.alloc' (.cells #[.int .i64 0, .int .i64 0, .int .i64 0, .slice none 0 0] 30)
          try replace hv23 := hv23.alloc' (.cells #[.int .i64 0, .int .i64 0, .int .i64 0, .slice none 0 0] 30)
          replace hS := hS.alloc (.cells #[.int .i64 0, .int .i64 0, .int .i64 0, .slice none 0 0] 30)
          refine hK _ _ hS ?_
          clear hK K
          generalize World.alloc (u0) (.cells #[.int .i64 0, .int .i64 0, .int .i64 0, .slice none 0 0] 30) = u6 at *
          try simp only [Act.put, List.setIfInBounds_toArray, List.set_cons_zero, List.set_cons_succ]
          refine wpAnyH_ready (rs := [2, 7]) (by decide +kernel) (by simp) (allA 2 (fun K hK => ?_) (allA 7 (fun K hK => ?_) AllReadyH.nil))
          · go_simp
            refine (HM1.out _ (hvx3.below hS (Nat.le_refl _)) (hvy3.below hS (Nat.le_refl _))).mono ?_
            rintro e u2 ⟨v20, rfl, hv20, hb⟩
            replace hv20 := hv20.mono hS.size
            try replace h7 := h7.below hb h7.lt
            try replace h8 := h8.below hb h8.lt
            replace hS := hS.call hb
            refine hK _ _ hS ?_
            clear hK K hb
            try simp only [Act.put, List.setIfInBounds_toArray, List.set_cons_zero, List.set_cons_succ]
            refine wpAnyH_ready (rs := [5, 7]) (by decide +kernel) (by simp) (allA 5 (fun K hK => ?_) (allA 7 (fun K hK => ?_) AllReadyH.nil))
            · go_simp
              refine (HM2.out _ (hvy3.below hS (Nat.le_refl _)) (hvx3.below hS (Nat.le_refl _))).mono ?_
              rintro e u5 ⟨v23, rfl, hv23, hb⟩
              replace hv23 := hv23.mono hS.size
              replace hv20 := hv20.below hb (Nat.le_refl _)
              try replace h7 := h7.below hb h7.lt
              try replace h8 := h8.below hb h8.lt
              replace hS := hS.call hb
              refine hK _ _ hS ?_
              clear hK K hb
              try simp only [Act.put, List.setIfInBounds_toArray, List.set_cons_zero, List.set_cons_succ]
              refine wpAnyH_ready (rs := [7]) (by decide +kernel) (by simp) (allA 7 (fun K hK => ?_) AllReadyH.nil)
              have h8 := Blk.new (u5) #[.int .i64 0, .int .i64 0, .int .i64 0, .slice none 0 0] 30
              have hz8 := hS.size
              try have hne := Nat.ne_of_gt h7.lt
              go_simp
              try replace h7 := h7.alloc (.cells #[.int .i64 0, .int .i64 0, .int .i64 0, .slice none 0 0] 30)
              try replace hv20 := hv20.alloc' (.cells #[.int .i64 0, .int .i64 0, .int .i64 0, .slice none 0 0] 30)
              try replace hv23 := hv23.alloc' (.cells #[.int .i64 0, .int .i64 0, .int .i64 0, .slice none 0 0] 30)
              replace hS := hS.alloc (.cells #[.int .i64 0, .int .i64 0, .int .i64 0, .slice none 0 0] 30)
              refine hK _ _ hS ?_
              clear hK K
              generalize World.alloc (u5) (.cells #[.int .i64 0, .int .i64 0, .int .i64 0, .slice none 0 0] 30) = u7 at *
              try simp only [Act.put, List.setIfInBounds_toArray, List.set_cons_zero, List.set_cons_succ]
              refine wpAnyH_ready (rs := [8]) (by decide +kernel) (by simp) (allA 8 (fun K hK => ?_) AllReadyH.nil)
              have c20 := hv20.oneCell
              refine wp_store_el _ _ rfl _ rfl _ rfl rfl (el_all c20) _ _ h7 rfl ?_
              intro u8 g7 ho
              replace h8 := h8.only ho hne
              replace hv20 := hv20.only ho (hv20.ne_blk h7 (by decide))
              replace hv23 := hv23.only ho (hv23.ne_blk h7 (by decide))
              replace hS := hS.only ho hz7
              replace h7 := g7
              refine hK _ _ hS ?_
              clear hK K g7 ho
              try simp only [Act.put, List.setIfInBounds_toArray, List.set_cons_zero, List.set_cons_succ]
              refine wpAnyH_ready (rs := [9]) (by decide +kernel) (by simp) (allA 9 (fun K hK => ?_) AllReadyH.nil)
              have c23 := hv23.oneCell
              refine wp_store_el _ _ rfl _ rfl _ rfl rfl (el_all c23) _ _ h8 rfl ?_
              intro u9 g8 ho
              replace h7 := h7.only ho (Ne.symm hne)
              replace hv20 := hv20.only ho (hv20.ne_blk h8 (by decide))
              replace hv23 := hv23.only ho (hv23.ne_blk h8 (by decide))
              replace hS := hS.only ho hz8
              replace h8 := g8
              refine hK _ _ hS ?_
              clear hK K g8 ho
              try simp only [Act.put, List.setIfInBounds_toArray, List.set_cons_zero, List.set_cons_succ]
              refine wpAnyH_done (by decide +kernel) ?_ _
              go_wp2_with fail
              go_meet
              case rel => exact ⟨_, _, v20, v23, rfl, rfl, ⟨h7, hv20⟩, ⟨h8, hv23⟩, hne, hS⟩
            · have h8 := Blk.new (u2) #[.int .i64 0, .int .i64 0, .int .i64 0, .slice none 0 0] 30
              have hz8 := hS.size
              try have hne := Nat.ne_of_gt h7.lt
              go_simp
              try replace h7 := h7.alloc (.cells #[.int .i64 0, .int .i64 0, .int .i64 0, .slice none 0 0] 30)
              try replace hv20 := hv20.alloc' (.cells #[.int .i64 0, .int .i64 0, .int .i64 0, .slice none 0 0] 30)
              try replace hv23 := hv23.alloc' (.cells #[.int .i64 0, .int .i64 0, .int .i64 0, .slice none 0 0] 30)
              replace hS := hS.alloc (.cells #[.int .i64 0, .int .i64 0, .int .i64 0, .slice none 0 0] 30)
              refine hK _ _ hS ?_
              clear hK K
              generalize World.alloc (u2) (.cells #[.int .i64 0, .int .i64 0, .int .i64 0, .slice none 0 0] 30) = u7 at *
              try simp only [Act.put, List.setIfInBounds_toArray, List.set_cons_zero, List.set_cons_succ]
              refine wpAnyH_ready (rs := [5]) (by decide +kernel) (by simp) (allA 5 (fun K hK => ?_) AllReadyH.nil)
              go_simp
              refine (HM2.out _ (hvy3.below hS (Nat.le_refl _)) (hvx3.below hS (Nat.le_refl _))).mono ?_
              rintro e u5 ⟨v23, rfl, hv23, hb⟩
              replace hv23 := hv23.mono hS.size
              replace hv20 := hv20.below hb (Nat.le_refl _)
              try replace h7 := h7.below hb h7.lt
              try replace h8 := h8.below hb h8.lt
              replace hS := hS.call hb
              refine hK _ _ hS ?_
              clear hK K hb
              try simp only [Act.put, List.setIfInBounds_toArray, List.set_cons_zero, List.set_cons_succ]
              refine wpAnyH_ready (rs := [8]) (by decide +kernel) (by simp) (allA 8 (fun K hK => ?_) AllReadyH.nil)
              have c20 := hv20.oneCell
              refine wp_store_el _ _ rfl _ rfl _ rfl rfl (el_all c20) _ _ h7 rfl ?_
              intro u8 g7 ho
              replace h8 := h8.only ho hne
              replace hv20 := hv20.only ho (hv20.ne_blk h7 (by decide))
              replace hv23 := hv23.only ho (hv23.ne_blk h7 (by decide))
              replace hS := hS.only ho hz7
              replace h7 := g7
              refine hK _ _ hS ?_
              clear hK K g7 ho
              try simp only [Act.put, List.setIfInBounds_toArray, List.set_cons_zero, List.set_cons_succ]
              refine wpAnyH_ready (rs := [9]) (by decide +kernel) (by simp) (allA 9 (fun K hK => ?_) AllReadyH.nil)
              have c23 := hv23.oneCell
              refine wp_store_el _ _ rfl _ rfl _ rfl rfl (el_all c23) _ _ h8 rfl ?_
              intro u9 g8 ho
              replace h7 := h7.only ho (Ne.symm hne)
              replace hv20 := hv20.only ho (hv20.ne_blk h8 (by decide))
              replace hv23 := hv23.only ho (hv23.ne_blk h8 (by decide))
              replace hS := hS.only ho hz8
              replace h8 := g8
              refine hK _ _ hS ?_
              clear hK K g8 ho
              try simp only [Act.put, List.setIfInBounds_toArray, List.set_cons_zero, List.set_cons_succ]
              refine wpAnyH_done (by decide +kernel) ?_ _
              go_wp2_with fail
              go_meet
              case rel => exact ⟨_, _, v20, v23, rfl, rfl, ⟨h7, hv20⟩, ⟨h8, hv23⟩, hne, hS⟩
          · have h8 := Blk.new (u6) #[.int .i64 0, .int .i64 0, .int .i64 0, .slice none 0 0] 30
            have hz8 := hS.size
            try have hne := Nat.ne_of_gt h7.lt
            go_simp
            try replace h7 := h7.alloc (.cells #[.int .i64 0, .int .i64 0, .int .i64 0, .slice none 0 0] 30)
            try replace hv20 := hv20.alloc' (.cells #[.int .i64 0, .int .i64 0, .int .i64 0, .slice none 0 0] 30)
            try replace hv23 := hv23.alloc' (.cells #[.int .i64 0, .int .i64 0, .int .i64 0, .slice none 0 0] 30)
            replace hS := hS.alloc (.cells #[.int .i64 0, .int .i64 0, .int .i64 0, .slice none 0 0] 30)
            refine hK _ _ hS ?_
            clear hK K
            generalize World.alloc (u6) (.cells #[.int .i64 0, .int .i64 0, .int .i64 0, .slice none 0 0] 30) = u7 at *
            try simp only [Act.put, List.setIfInBounds_toArray, List.set_cons_zero, List.set_cons_succ]
            refine wpAnyH_ready (rs := [2]) (by decide +kernel) (by simp) (allA 2 (fun K hK => ?_) AllReadyH.nil)
            go_simp
            refine (HM1.out _ (hvx3.below hS (Nat.le_refl _)) (hvy3.below hS (Nat.le_refl _))).mono ?_
            rintro e u2 ⟨v20, rfl, hv20, hb⟩
            replace hv20 := hv20.mono hS.size
            try replace h7 := h7.below hb h7.lt
            try replace h8 := h8.below hb h8.lt
            replace hS := hS.call hb
            refine hK _ _ hS ?_
            clear hK K hb
            try simp only [Act.put, List.setIfInBounds_toArray, List.set_cons_zero, List.set_cons_succ]
            refine wpAnyH_ready (rs := [5]) (by decide +kernel) (by simp) (allA 5 (fun K hK => ?_) AllReadyH.nil)
            go_simp
            refine (HM2.out _ (hvy3.below hS (Nat.le_refl _)) (hvx3.below hS (Nat.le_refl _))).mono ?_
            rintro e u5 ⟨v23, rfl, hv23, hb⟩
            replace hv23 := hv23.mono hS.size
            replace hv20 := hv20.below hb (Nat.le_refl _)
            try replace h7 := h7.below hb h7.lt
            try replace h8 := h8.below hb h8.lt
            replace hS := hS.call hb
            refine hK _ _ hS ?_
            clear hK K hb
            try simp only [Act.put, List.setIfInBounds_toArray, List.set_cons_zero, List.set_cons_succ]
            refine wpAnyH_ready (rs := [8]) (by decide +kernel) (by simp) (allA 8 (fun K hK => ?_) AllReadyH.nil)
            have c20 := hv20.oneCell
            refine wp_store_el _ _ rfl _ rfl _ rfl rfl (el_all c20) _ _ h7 rfl ?_
            intro u8 g7 ho
            replace h8 := h8.only ho hne
            replace hv20 := hv20.only ho (hv20.ne_blk h7 (by decide))
            replace hv23 := hv23.only ho (hv23.ne_blk h7 (by decide))
            replace hS := hS.only ho hz7
            replace h7 := g7
            refine hK _ _ hS ?_
            clear hK K g7 ho
            try simp only [Act.put, List.setIfInBounds_toArray, List.set_cons_zero, List.set_cons_succ]
            refine wpAnyH_ready (rs := [9]) (by decide +kernel) (by simp) (allA 9 (fun K hK => ?_) AllReadyH.nil)
            have c23 := hv23.oneCell
            refine wp_store_el _ _ rfl _ rfl _ rfl rfl (el_all c23) _ _ h8 rfl ?_
            intro u9 g8 ho
            replace h7 := h7.only ho (Ne.symm hne)
            replace hv20 := hv20.only ho (hv20.ne_blk h8 (by decide))
            replace hv23 := hv23.only ho (hv23.ne_blk h8 (by decide))
            replace hS := hS.only ho hz8
            replace h8 := g8
            refine hK _ _ hS ?_
            clear hK K g8 ho
            try simp only [Act.put, List.setIfInBounds_toArray, List.set_cons_zero, List.set_cons_succ]
            refine wpAnyH_done (by decide +kernel) ?_ _
            go_wp2_with fail
            go_meet
            case rel => exact ⟨_, _, v20, v23, rfl, rfl, ⟨h7, hv20⟩, ⟨h8, hv23⟩, hne, hS⟩
        · have h8 := Blk.new (u0) #[.int .i64 0, .int .i64 0, .int .i64 0, .slice none 0 0] 30
          have hz8 := hS.size
          try have hne := Nat.ne_of_gt h7.lt
          go_simp
          try replace h7 := h7.alloc (.cells #[.int .i64 0, .int .i64 0, .int .i64 0, .slice none 0 0] 30)
          try replace hv20 := hv20.alloc' (.cells #[.int .i64 0, .int .i64 0, .int .i64 0, .slice none 0 0] 30)
          try replace hv23 := hv23.alloc' (.cells #[.int .i64 0, .int .i64 0, .int .i64 0, .slice none 0 0] 30)
          replace hS := hS.alloc (.cells #[.int .i64 0, .int .i64 0, .int .i64 0, .slice none 0 0] 30)
          refine hK _ _ hS ?_
          clear hK K
          generalize World.alloc (u0) (.cells #[.int .i64 0, .int .i64 0, .int .i64 0, .slice none 0 0] 30) = u7 at *
          try simp only [Act.put, List.setIfInBounds_toArray, List.set_cons_zero, List.set_cons_succ]
          refine wpAnyH_ready (rs := [2, 6]) (by decide +kernel) (by simp) (allA 2 (fun K hK => ?_) (allA 6 (fun K hK => ?_) AllReadyH.nil))
          · go_simp
            refine (HM1.out _ (hvx3.below hS (Nat.le_refl _)) (hvy3.below hS (Nat.le_refl _))).mono ?_
            rintro e u2 ⟨v20, rfl, hv20, hb⟩
            replace hv20 := hv20.mono hS.size
            try replace h7 := h7.below hb h7.lt
            try replace h8 := h8.below hb h8.lt
            replace hS := hS.call hb
            refine hK _ _ hS ?_
            clear hK K hb
            try simp only [Act.put, List.setIfInBounds_toArray, List.set_cons_zero, List.set_cons_succ]
            refine wpAnyH_ready (rs := [5, 6]) (by decide +kernel) (by simp) (allA 5 (fun K hK => ?_) (allA 6 (fun K hK => ?_) AllReadyH.nil))
            · go_simp
              refine (HM2.out _ (hvy3.below hS (Nat.le_refl _)) (hvx3.below hS (Nat.le_refl _))).mono ?_
              rintro e u5 ⟨v23, rfl, hv23, hb⟩
              replace hv23 := hv23.mono hS.size
              replace hv20 := hv20.below hb (Nat.le_refl _)
              try replace h7 := h7.below hb h7.lt
              try replace h8 := h8.below hb h8.lt
              replace hS := hS.call hb
              refine hK _ _ hS ?_
              clear hK K hb
              try simp only [Act.put, List.setIfInBounds_toArray, List.set_cons_zero, List.set_cons_succ]
              refine wpAnyH_ready (rs := [6]) (by decide +kernel) (by simp) (allA 6 (fun K hK => ?_) AllReadyH.nil)
              have h7 := Blk.new (u5) #[.int .i64 0, .int .i64 0, .int .i64 0, .slice none 0 0] 30
              have hz7 := hS.size
              try have hne := Nat.ne_of_lt h8.lt
              go_simp
              try replace h8 := h8.alloc (.cells #[.int .i64 0, .int .i64 0, .int .i64 0, .slice none 0 0] 30)
              try replace hv20 := hv20.alloc' (.cells #[.int .i64 0, .int .i64 0, .int .i64 0, .slice none 0 0] 30)
              try replace hv23 := hv23.alloc' (.cells #[.int .i64 0, .int .i64 0, .int .i64 0, .slice none 0 0] 30)
              replace hS := hS.alloc (.cells #[.int .i64 0, .int .i64 0, .int .i64 0, .slice none 0 0] 30)
              refine hK _ _ hS ?_
              clear hK K
              generalize World.alloc (u5) (.cells #[.int .i64 0, .int .i64 0, .int .i64 0, .slice none 0 0] 30) = u6 at *
              try simp only [Act.put, List.setIfInBounds_toArray, List.set_cons_zero, List.set_cons_succ]
              refine wpAnyH_ready (rs := [8]) (by decide +kernel) (by simp) (allA 8 (fun K hK => ?_) AllReadyH.nil)
              have c20 := hv20.oneCell
              refine wp_store_el _ _ rfl _ rfl _ rfl rfl (el_all c20) _ _ h7 rfl ?_
              intro u8 g7 ho
              replace h8 := h8.only ho hne
              replace hv20 := hv20.only ho (hv20.ne_blk h7 (by decide))
              replace hv23 := hv23.only ho (hv23.ne_blk h7 (by decide))
              replace hS := hS.only ho hz7
              replace h7 := g7
              refine hK _ _ hS ?_
              clear hK K g7 ho
              try simp only [Act.put, List.setIfInBounds_toArray, List.set_cons_zero, List.set_cons_succ]
              refine wpAnyH_ready (rs := [9]) (by decide +kernel) (by simp) (allA 9 (fun K hK => ?_) AllReadyH.nil)
              have c23 := hv23.oneCell
              refine wp_store_el _ _ rfl _ rfl _ rfl rfl (el_all c23) _ _ h8 rfl ?_
              intro u9 g8 ho
              replace h7 := h7.only ho (Ne.symm hne)
              replace hv20 := hv20.only ho (hv20.ne_blk h8 (by decide))
              replace hv23 := hv23.only ho (hv23.ne_blk h8 (by decide))
              replace hS := hS.only ho hz8
              replace h8 := g8
              refine hK _ _ hS ?_
              clear hK K g8 ho
              try simp only [Act.put, List.setIfInBounds_toArray, List.set_cons_zero, List.set_cons_succ]
              refine wpAnyH_done (by decide +kernel) ?_ _
              go_wp2_with fail
              go_meet
              case rel => exact ⟨_, _, v20, v23, rfl, rfl, ⟨h7, hv20⟩, ⟨h8, hv23⟩, hne, hS⟩
            · have h7 := Blk.new (u2) #[.int .i64 0, .int .i64 0, .int .i64 0, .slice none 0 0] 30
              have hz7 := hS.size
              try have hne := Nat.ne_of_lt h8.lt
              go_simp
              try replace h8 := h8.alloc (.cells #[.int .i64 0, .int .i64 0, .int .i64 0, .slice none 0 0] 30)
              try replace hv20 := hv20.alloc' (.cells #[.int .i64 0, .int .i64 0, .int .i64 0, .slice none 0 0] 30)
              try replace hv23 := hv23.alloc' (.cells #[.int .i64 0, .int .i64 0, .int .i64 0, .slice none 0 0] 30)
              replace hS := hS.alloc (.cells #[.int .i64 0, .int .i64 0, .int .i64 0, .slice none 0 0] 30)
              refine hK _ _ hS ?_
              clear hK K
              generalize World.alloc (u2) (.cells #[.int .i64 0, .int .i64 0, .int .i64 0, .slice none 0 0] 30) = u6 at *
              try simp only [Act.put, List.setIfInBounds_toArray, List.set_cons_zero, List.set_cons_succ]
              refine wpAnyH_ready (rs := [5]) (by decide +kernel) (by simp) (allA 5 (fun K hK => ?_) AllReadyH.nil)
              go_simp
              refine (HM2.out _ (hvy3.below hS (Nat.le_refl _)) (hvx3.below hS (Nat.le_refl _))).mono ?_
              rintro e u5 ⟨v23, rfl, hv23, hb⟩
              replace hv23 := hv23.mono hS.size
              replace hv20 := hv20.below hb (Nat.le_refl _)
              try replace h7 := h7.below hb h7.lt
              try replace h8 := h8.below hb h8.lt
              replace hS := hS.call hb
              refine hK _ _ hS ?_
              clear hK K hb
              try simp only [Act.put, List.setIfInBounds_toArray, List.set_cons_zero, List.set_cons_succ]
              refine wpAnyH_ready (rs := [8]) (by decide +kernel) (by simp) (allA 8 (fun K hK => ?_) AllReadyH.nil)
              have c20 := hv20.oneCell
              refine wp_store_el _ _ rfl _ rfl _ rfl rfl (el_all c20) _ _ h7 rfl ?_
              intro u8 g7 ho
              replace h8 := h8.only ho hne
              replace hv20 := hv20.only ho (hv20.ne_blk h7 (by decide))
              replace hv23 := hv23.only ho (hv23.ne_blk h7 (by decide))
              replace hS := hS.only ho hz7
              replace h7 := g7
              refine hK _ _ hS ?_
              clear hK K g7 ho
              try simp only [Act.put, List.setIfInBounds_toArray, List.set_cons_zero, List.set_cons_succ]
              refine wpAnyH_ready (rs := [9]) (by decide +kernel) (by simp) (allA 9 (fun K hK => ?_) AllReadyH.nil)
              have c23 := hv23.oneCell
              refine wp_store_el _ _ rfl _ rfl _ rfl rfl (el_all c23) _ _ h8 rfl ?_
              intro u9 g8 ho
              replace h7 := h7.only ho (Ne.symm hne)
              replace hv20 := hv20.only ho (hv20.ne_blk h8 (by decide))
              replace hv23 := hv23.only ho (hv23.ne_blk h8 (by decide))
              replace hS := hS.only ho hz8
              replace h8 := g8
              refine hK _ _ hS ?_
              clear hK K g8 ho
              try simp only [Act.put, List.setIfInBounds_toArray, List.set_cons_zero, List.set_cons_succ]
              refine wpAnyH_done (by decide +kernel) ?_ _
              go_wp2_with fail
              go_meet
              case rel => exact ⟨_, _, v20, v23, rfl, rfl, ⟨h7, hv20⟩, ⟨h8, hv23⟩, hne, hS⟩
          · have h7 := Blk.new (u7) #[.int .i64 0, .int .i64 0, .int .i64 0, .slice none 0 0] 30
            have hz7 := hS.size
            try have hne := Nat.ne_of_lt h8.lt
            go_simp
            try replace h8 := h8.alloc (.cells #[.int .i64 0, .int .i64 0, .int .i64 0, .slice none 0 0] 30)
            try replace hv20 := hv20.alloc' (.cells #[.int .i64 0, .int .i64 0, .int .i64 0, .slice none 0 0] 30)
            try replace hv23 := hv23.alloc' (.cells #[.int .i64 0, .int .i64 0, .int .i64 0, .slice none 0 0] 30)
            replace hS := hS.alloc (.cells #[.int .i64 0, .int .i64 0, .int .i64 0, .slice none 0 0] 30)
            refine hK _ _ hS ?_
            clear hK K
            generalize World.alloc (u7) (.cells #[.int .i64 0, .int .i64 0, .int .i64 0, .slice none 0 0] 30) = u6 at *
            try simp only [Act.put, List.setIfInBounds_toArray, List.set_cons_zero, List.set_cons_succ]
            refine wpAnyH_ready (rs := [2]) (by decide +kernel) (by simp) (allA 2 (fun K hK => ?_) AllReadyH.nil)
            go_simp
            refine (HM1.out _ (hvx3.below hS (Nat.le_refl _)) (hvy3.below hS (Nat.le_refl _))).mono ?_
            rintro e u2 ⟨v20, rfl, hv20, hb⟩
            replace hv20 := hv20.mono hS.size
            try replace h7 := h7.below hb h7.lt
            try replace h8 := h8.below hb h8.lt
            replace hS := hS.call hb
            refine hK _ _ hS ?_
            clear hK K hb
            try simp only [Act.put, List.setIfInBounds_toArray, List.set_cons_zero, List.set_cons_succ]
            refine wpAnyH_ready (rs := [5]) (by decide +kernel) (by simp) (allA 5 (fun K hK => ?_) AllReadyH.nil)
            go_simp
            refine (HM2.out _ (hvy3.below hS (Nat.le_refl _)) (hvx3.below hS (Nat.le_refl _))).mono ?_
            rintro e u5 ⟨v23, rfl, hv23, hb⟩
            replace hv23 := hv23.mono hS.size
            replace hv20 := hv20.below hb (Nat.le_refl _)
            try replace h7 := h7.below hb h7.lt
            try replace h8 := h8.below hb h8.lt
            replace hS := hS.call hb
            refine hK _ _ hS ?_
            clear hK K hb
            try simp only [Act.put, List.setIfInBounds_toArray, List.set_cons_zero, List.set_cons_succ]
            refine wpAnyH_ready (rs := [8]) (by decide +kernel) (by simp) (allA 8 (fun K hK => ?_) AllReadyH.nil)
            have c20 := hv20.oneCell
            refine wp_store_el _ _ rfl _ rfl _ rfl rfl (el_all c20) _ _ h7 rfl ?_
            intro u8 g7 ho
            replace h8 := h8.only ho hne
            replace hv20 := hv20.only ho (hv20.ne_blk h7 (by decide))
            replace hv23 := hv23.only ho (hv23.ne_blk h7 (by decide))
            replace hS := hS.only ho hz7
            replace h7 := g7
            refine hK _ _ hS ?_
            clear hK K g7 ho
            try simp only [Act.put, List.setIfInBounds_toArray, List.set_cons_zero, List.set_cons_succ]
            refine wpAnyH_ready (rs := [9]) (by decide +kernel) (by simp) (allA 9 (fun K hK => ?_) AllReadyH.nil)
            have c23 := hv23.oneCell
            refine wp_store_el _ _ rfl _ rfl _ rfl rfl (el_all c23) _ _ h8 rfl ?_
            intro u9 g8 ho
            replace h7 := h7.only ho (Ne.symm hne)
            replace hv20 := hv20.only ho (hv20.ne_blk h8 (by decide))
            replace hv23 := hv23.only ho (hv23.ne_blk h8 (by decide))
            replace hS := hS.only ho hz8
            replace h8 := g8
            refine hK _ _ hS ?_
            clear hK K g8 ho
            try simp only [Act.put, List.setIfInBounds_toArray, List.set_cons_zero, List.set_cons_succ]
            refine wpAnyH_done (by decide +kernel) ?_ _
            go_wp2_with fail
            go_meet
            case rel => exact ⟨_, _, v20, v23, rfl, rfl, ⟨h7, hv20⟩, ⟨h8, hv23⟩, hne, hS⟩

      case rest =>
      obtain ⟨b7, b8, v20, v23, rfl, rfl, O7, O8, hne, hb7⟩ := hcut
      have HE := Lib.hid (fun W h1 h2 => implSame_calls A B (Nf.wf HnA.out hp97) (Nf.wf HnB.out hp97) v20 v23 W h1 h2)
      obtain ⟨ad7, cap7, rfl, hc7, hm7⟩ := O7.own.slice
      obtain ⟨ad8, cap8, rfl, hc8, hm8⟩ := O8.own.slice
      have hbr7 := hbr3.trans (hb7.mono hz6)
      have hz7 := hbr7.size
      have hl7 := O7.blk.cells
      have hl8 := O8.blk.cells
      simp only at hl7 hl8
      clear hX3 hvx3 hvy3 hY3 hbr hbr3 hb7 HM1 HM2
      cases hc : cenTo P C N ts j with
      | true =>
        rw [hc, Bool.true_and] at Hst
        clear hc
        go_wp2_with fail
        refine (HE.out _ (LIn_of_TsOwn O7.own) (LIn_of_TsOwn O8.own)).mono ?_
        rintro e w9 ⟨rfl, hb9⟩
        have hbr9 := hbr7.trans (hb9.mono hz7)
        clear O7 O8 hl7 hl8 HE hbr7 hb9
        go_wp2_with fail
        go_roundw
        case rel => exact ⟨j + 1, by omega, by go_num, by rw [Hst.out], hbr9⟩
        case measure => simp [intOf] <;> omega
      | false =>
        rw [hc, Bool.false_and] at Hst
        clear hc
        go_wp2_with fail
        go_roundw
        case rel => exact ⟨j + 1, by omega, by go_num, by rw [Hst.out], hbr7⟩
        case measure => simp [intOf] <;> omega
    · obtain rfl : j = N - 1 := by omega
      go_wp2_with fail
      go_ret2
      exact ⟨rfl, hbl4.trans (hbr.mono (by omega))⟩
end Go.Proofs.Yticmlgnolbccjaa

/- IsCentralElement of the reference, walked. -/
set_option linter.unusedVariables false
set_option linter.unusedSimpArgs false
namespace Go.Proofs.Yticmlgnolbccjaa
open Go.RowKit Go.Maps

set_option maxHeartbeats 8000000 in
set_option maxRecDepth 100000 in
theorem specCen_bad (x : El) (vx : Value) (w : World) (hx : x.Wf) (hvx : TsS w 0 vx x.ts) (h0 : x.ok = false) :
    Calls Try.prog 13 #[x.val vx] w fun e w' => e = .returned (.tuple #[.bool false, .int .i64 1]) ∧ Below w.heap.size w w' := by
  have HB := Lib.hid (fun W h => specIsElS_calls x vx W hx h false h0)
  unfold El.val El.cells
  have hX := Blk.new w #[.int .i64 x.p, .int .i64 x.c, .int .i64 x.n, vx] 30
  have hbl := (Below.refl w.heap.size w).alloc (Nat.le_refl _) (.cells #[.int .i64 x.p, .int .i64 x.c, .int .i64 x.n, vx] 30)
  have hvx2 := hvx.below hbl (Nat.le_refl _)
  have hz2 := hX.lt
  clear hvx
  go_enter Try.func13, Try.ntmps13
  go_wp2_with (refine load_el rfl _ rfl _ rfl _ rfl _ hX ?_)
  generalize w.alloc (.cells #[.int .i64 x.p, .int .i64 x.c, .int .i64 x.n, vx] 30) = w2 at *
  refine (HB.out _ hvx2).mono ?_
  rintro e w3 ⟨rfl, hb3⟩
  go_wp2_with fail
  go_ret2
  exact ⟨rfl, hbl.trans (hb3.mono (by omega))⟩

set_option maxHeartbeats 8000000 in
set_option maxRecDepth 100000 in
theorem specCen_good (P C : Int) (N : Nat) (ts : List Tm) (vx : Value) (w : World) (hp : 2 ≤ P) (hp97 : P ≤ 97) (hc0 : 0 ≤ C) (hcp : C ≤ P) (hn1 : 1 ≤ N) (hn8 : N ≤ 8) (hnx : Nf P N ts) (hl1 : ts.length ≤ 140)
    (hB : ∀ W, TsS W 0 vx ts → Calls Try.prog 37 #[.agg #[.int .i64 P, .int .i64 C, .int .i64 N, vx]] W fun e w' => e = .returned (.bool true) ∧ Below W.heap.size W w') (hvx : TsS w 0 vx ts) :
    Calls Try.prog 13 #[.agg #[.int .i64 P, .int .i64 C, .int .i64 N, vx]] w fun e w' => e = .returned (.tuple #[.bool (cenTo P C N ts (N - 1)), .int .i64 0]) ∧ Below w.heap.size w w' := by
  have HB := Lib.hid hB
  clear hB
  have Hnx := Lib.hid hnx
  clear hnx
  have hX := Blk.new w #[.int .i64 P, .int .i64 C, .int .i64 N, vx] 30
  have hbl := (Below.refl w.heap.size w).alloc (Nat.le_refl _) (.cells #[.int .i64 P, .int .i64 C, .int .i64 N, vx] 30)
  have hvx2 := hvx.below hbl (Nat.le_refl _)
  have hz2 := hX.lt
  clear hvx
  go_enter Try.func13, Try.ntmps13
  go_wp2_with (refine load_el rfl _ rfl _ rfl _ rfl _ hX ?_)
  generalize w.alloc (.cells #[.int .i64 P, .int .i64 C, .int .i64 N, vx] 30) = w2 at *
  refine (HB.out _ hvx2).mono ?_
  rintro e w4 ⟨rfl, hb1⟩
  have hX4 := hX.below hb1 hX.lt
  have hvx4 := hvx2.below hb1 (Nat.le_refl _)
  have hbl2' := hbl.trans (hb1.mono (by omega))
  have hz4 := hb1.size
  clear hX hvx2 hbl hb1 HB
  go_wp2_with fail
  go_loopw [4] (fun i wr => ∃ j : Nat, j ≤ N - 1 ∧ i = .int .i64 j ∧ cenTo P C N ts j = true ∧ Below w4.heap.size w4 wr) (fun i _ => N - (intOf i).toNat)
  case atStart => exact ⟨0, by omega, rfl, rfl, Below.refl _ _⟩
  case round =>
    obtain ⟨j, hj, rfl, hcen, hbr⟩ := hrel
    have Hcen := Lib.hid hcen
    clear hcen
    have hz5 := hbr.size
    have hXr := hX4.below hbr hX4.lt
    have hvxr := hvx4.below hbr (Nat.le_refl _)
    have hcXr := hXr.cells
    by_cases hlt : j < N - 1
    · have hcu := cup_good N j (by omega) hn8 (by omega)
      have hng := sngT_nf (p := P) hp hcu
      have hlg : (sngT (Dg.cup N j)).length = 1 := rfl
      have hst := cenTo_succ P C N ts j
      rw [Hcen.out, Bool.true_and] at hst
      have Hst0 := Lib.hid hst
      clear hst hcu Hcen
      have HU := Lib.hid (fun W => specCup_calls (n := (N : Int)) (i := (j : Int)) W (by omega) (by omega) (by omega) (by omega))
      have hE := specEmpty_calls P C N vx wr
      unfold el at hE
      go_upto_region 7 with (first | (refine load_el rfl _ rfl _ rfl _ rfl _ hXr ?_) | (go_at_call 38; refine hE.mono ?_; rintro e w1 ⟨v0, rfl, hv0, hb0⟩; obtain ⟨g0, cap0, rfl, hg0, -, -, -, -⟩ := hv0.out))
      have hz0 := hb0.size
      have hX1 := (hXr.below hb0 hXr.lt).alloc (.cells #[.int .i64 P, .int .i64 C, .int .i64 N, .slice (some ⟨g0, 0, none⟩) ([] : List Tm).length cap0] 30)
      have hO := Blk.new w1 #[.int .i64 P, .int .i64 C, .int .i64 N, .slice (some ⟨g0, 0, none⟩) ([] : List Tm).length cap0] 30
      have hbl2 := hb0.alloc hz0 (.cells #[.int .i64 P, .int .i64 C, .int .i64 N, .slice (some ⟨g0, 0, none⟩) ([] : List Tm).length cap0] 30)
      have hv := hv0.alloc (.cells #[.int .i64 P, .int .i64 C, .int .i64 N, .slice (some ⟨g0, 0, none⟩) ([] : List Tm).length cap0] 30)
      have hz1 : (w1.alloc (.cells #[.int .i64 P, .int .i64 C, .int .i64 N, .slice (some ⟨g0, 0, none⟩) ([] : List Tm).length cap0] 30)).heap.size = w1.heap.size + 1 := by simp
      clear hE hb0 hv0
      generalize hb5 : w1.heap.size = b5 at *
      generalize w1.alloc (.cells #[.int .i64 P, .int .i64 C, .int .i64 N, .slice (some ⟨g0, 0, none⟩) ([] : List Tm).length cap0] 30) = w5 at *
      clear hb5
      try simp only [Act.put, List.setIfInBounds_toArray, List.set_cons_zero, List.set_cons_succ]
      go_cut [5] from 18 to 27 (fun v5 wx => ∃ v7 : Value, v5 = .pointer (some ⟨b5, 0, none⟩) ∧ Blk wx b5 #[.int .i64 P, .int .i64 C, .int .i64 N, v7] 30 ∧ TsS wx wr.heap.size v7 (sngT (Dg.cup N j)) ∧ Below wr.heap.size wr wx)
      case first =>
        have hnb : w.heap.size ∉ [b5, g0] := by simp; omega
        have hz3 : b5 < w5.heap.size := by omega
        refine wp_region_held_drew (S := fun W => But w5 W [b5, g0]) (by kernel_rfl) (But.drew w5 _) (fun hS => ?_)
        replace hO := hO.drew
        replace hv : TsS w5.drew wr.heap.size _ _ := hv.drewN 1
        refine takeA 0 (v := ?_) hS ?_ ?_
        rotate_left
        focus (intro W hW; go_simp; first | done | with_reducible rfl)
        try simp only [Act.put, List.setIfInBounds_toArray, List.set_cons_zero, List.set_cons_succ]
        refine takeA 2 (v := ?_) hS ?_ ?_
        rotate_left
        focus (intro W hW; go_simp; first | done | with_reducible rfl)
        try simp only [Act.put, List.setIfInBounds_toArray, List.set_cons_zero, List.set_cons_succ]
        refine takeA 3 (v := ?_) hS ?_ ?_
        rotate_left
        focus (intro W hW; have q1 := (hX1.but hW hnb).cells; go_simp; first | done | with_reducible rfl)
        try simp only [Act.put, List.setIfInBounds_toArray, List.set_cons_zero, List.set_cons_succ]
        refine takeA 4 (v := ?_) hS ?_ ?_
        rotate_left
        focus (intro W hW; go_simp; first | done | with_reducible rfl)
        try simp only [Act.put, List.setIfInBounds_toArray, List.set_cons_zero, List.set_cons_succ]
        refine wpAnyH_ready (rs := [1, 5]) (by decide +kernel) (by simp) (allA 1 (fun K hK => ?_) (allA 5 (fun K hK => ?_) AllReadyH.nil))
        · have hcO := hO.cells
          go_simp
          refine hK _ _ hS ?_
          clear hK K hcO
          try simp only [Act.put, List.setIfInBounds_toArray, List.set_cons_zero, List.set_cons_succ]
          refine wpAnyH_ready (rs := [5]) (by decide +kernel) (by simp) (allA 5 (fun K hK => ?_) AllReadyH.nil)
          go_simp
          refine (HU.out _).mono ?_
          rintro e u4 ⟨rfl, hb⟩
          replace hS : But w5 u4 [b5, g0] := hS.ext hb
          replace hO := hO.below hb hO.lt
          replace hv := hv.below hb (Nat.le_refl _)
          refine hK _ _ hS ?_
          clear hK K hb
          try simp only [Act.put, List.setIfInBounds_toArray, List.set_cons_zero, List.set_cons_succ]
          refine takeA 6 (v := .agg (Tm.cells ⟨Dg.cup N j, 1⟩)) hS ?_ ?_
          · exact fun W hW => run_term _ _ rfl _ _ rfl rfl rfl
          try simp only [Act.put, List.setIfInBounds_toArray, List.set_cons_zero, List.set_cons_succ]
          refine wpAnyH_ready (rs := [7]) (by decide +kernel) (by simp) (allA 7 (fun K hK => ?_) AllReadyH.nil)
          refine wp_row_term _ rfl ⟨Dg.cup N j, 1⟩ rfl ?_
          have hr := range_new u4 ⟨Dg.cup N j, 1⟩ 57
          replace hv := hv.alloc (.cells (Tm.cells ⟨Dg.cup N j, 1⟩) 57)
          replace hO := hO.alloc (.cells (Tm.cells ⟨Dg.cup N j, 1⟩) 57)
          replace hS : But w5 _ [b5, g0] := hS.alloc (.cells (Tm.cells ⟨Dg.cup N j, 1⟩) 57)
          refine hK _ _ hS ?_
          clear hK K
          try simp only [Act.put, List.setIfInBounds_toArray, List.set_cons_zero, List.set_cons_succ]
          refine wpAnyH_ready (rs := [8]) (by decide +kernel) (by simp) (allA 8 (fun K hK => ?_) AllReadyH.nil)
          refine wp_append_ts _ _ rfl wr.heap.size _ [] rfl hv _ 0 1 1 [⟨Dg.cup N j, 1⟩] rfl hr rfl (by simp) (by have := hS.size; omega) ?_
          intro v7 u7 hv7 hg7
          replace hS : But w5 u7 [b5, g0] := hS.own (b := g0) hg7 (by simp)
          replace hO := hO.grown hg7 (hv.ne_blk hO (by decide))
          refine hK _ _ hS ?_
          clear hK K hg7 hv
          try simp only [Act.put, List.setIfInBounds_toArray, List.set_cons_zero, List.set_cons_succ]
          refine takeA 9 (v := ?_) hS ?_ ?_
          rotate_left
          focus (intro W hW; go_simp; first | done | with_reducible rfl)
          try simp only [Act.put, List.setIfInBounds_toArray, List.set_cons_zero, List.set_cons_succ]
          refine wpAnyH_ready (rs := [10]) (by decide +kernel) (by simp) (allA 10 (fun K hK => ?_) AllReadyH.nil)
          have hc7 := hv7.oneCell
          have hO9 : Blk (u7.setCell ⟨b5, 3, none⟩ v7) b5 #[.int .i64 P, .int .i64 C, .int .i64 N, v7] 30 := hO.set 3 v7
          have hv9 := hv7.only (Only.setCell u7 b5 3 v7) (hv7.ne_blk hO (by decide))
          replace hS : But w5 (u7.setCell ⟨b5, 3, none⟩ v7) [b5, g0] := hS.only (Only.setCell u7 b5 3 v7) (.inl (by simp))
          obtain ⟨g7, cap7, rfl, -, -, -, -, -⟩ := hv7.out
          have hcO := hO.cells
          have hfO := hO.free
          go_simp
          refine hK _ _ hS ?_
          clear hK K hcO hfO hO hv7
          try simp only [Act.put, List.setIfInBounds_toArray, List.set_cons_zero, List.set_cons_succ]
          refine wpAnyH_done (by decide +kernel) ?_ _
          go_wp2_with fail
          go_meet
          case rel => exact ⟨_, rfl, hO9, hv9, hbl2.trans (hS.below (B := wr.heap.size) (by omega) (by simp; omega))⟩
        · go_simp
          refine (HU.out _).mono ?_
          rintro e u4 ⟨rfl, hb⟩
          replace hS : But w5 u4 [b5, g0] := hS.ext hb
          replace hO := hO.below hb hO.lt
          replace hv := hv.below hb (Nat.le_refl _)
          refine hK _ _ hS ?_
          clear hK K hb
          try simp only [Act.put, List.setIfInBounds_toArray, List.set_cons_zero, List.set_cons_succ]
          refine takeA 6 (v := .agg (Tm.cells ⟨Dg.cup N j, 1⟩)) hS ?_ ?_
          · exact fun W hW => run_term _ _ rfl _ _ rfl rfl rfl
          try simp only [Act.put, List.setIfInBounds_toArray, List.set_cons_zero, List.set_cons_succ]
          refine wpAnyH_ready (rs := [1, 7]) (by decide +kernel) (by simp) (allA 1 (fun K hK => ?_) (allA 7 (fun K hK => ?_) AllReadyH.nil))
          · have hcO := hO.cells
            go_simp
            refine hK _ _ hS ?_
            clear hK K hcO
            try simp only [Act.put, List.setIfInBounds_toArray, List.set_cons_zero, List.set_cons_succ]
            refine wpAnyH_ready (rs := [7]) (by decide +kernel) (by simp) (allA 7 (fun K hK => ?_) AllReadyH.nil)
            refine wp_row_term _ rfl ⟨Dg.cup N j, 1⟩ rfl ?_
            have hr := range_new u4 ⟨Dg.cup N j, 1⟩ 57
            replace hv := hv.alloc (.cells (Tm.cells ⟨Dg.cup N j, 1⟩) 57)
            replace hO := hO.alloc (.cells (Tm.cells ⟨Dg.cup N j, 1⟩) 57)
            replace hS : But w5 _ [b5, g0] := hS.alloc (.cells (Tm.cells ⟨Dg.cup N j, 1⟩) 57)
            refine hK _ _ hS ?_
            clear hK K
            try simp only [Act.put, List.setIfInBounds_toArray, List.set_cons_zero, List.set_cons_succ]
            refine wpAnyH_ready (rs := [8]) (by decide +kernel) (by simp) (allA 8 (fun K hK => ?_) AllReadyH.nil)
            refine wp_append_ts _ _ rfl wr.heap.size _ [] rfl hv _ 0 1 1 [⟨Dg.cup N j, 1⟩] rfl hr rfl (by simp) (by have := hS.size; omega) ?_
            intro v7 u7 hv7 hg7
            replace hS : But w5 u7 [b5, g0] := hS.own (b := g0) hg7 (by simp)
            replace hO := hO.grown hg7 (hv.ne_blk hO (by decide))
            refine hK _ _ hS ?_
            clear hK K hg7 hv
            try simp only [Act.put, List.setIfInBounds_toArray, List.set_cons_zero, List.set_cons_succ]
            refine takeA 9 (v := ?_) hS ?_ ?_
            rotate_left
            focus (intro W hW; go_simp; first | done | with_reducible rfl)
            try simp only [Act.put, List.setIfInBounds_toArray, List.set_cons_zero, List.set_cons_succ]
            refine wpAnyH_ready (rs := [10]) (by decide +kernel) (by simp) (allA 10 (fun K hK => ?_) AllReadyH.nil)
            have hc7 := hv7.oneCell
            have hO9 : Blk (u7.setCell ⟨b5, 3, none⟩ v7) b5 #[.int .i64 P, .int .i64 C, .int .i64 N, v7] 30 := hO.set 3 v7
            have hv9 := hv7.only (Only.setCell u7 b5 3 v7) (hv7.ne_blk hO (by decide))
            replace hS : But w5 (u7.setCell ⟨b5, 3, none⟩ v7) [b5, g0] := hS.only (Only.setCell u7 b5 3 v7) (.inl (by simp))
            obtain ⟨g7, cap7, rfl, -, -, -, -, -⟩ := hv7.out
            have hcO := hO.cells
            have hfO := hO.free
            go_simp
            refine hK _ _ hS ?_
            clear hK K hcO hfO hO hv7
            try simp only [Act.put, List.setIfInBounds_toArray, List.set_cons_zero, List.set_cons_succ]
            refine wpAnyH_done (by decide +kernel) ?_ _
            go_wp2_with fail
            go_meet
            case rel => exact ⟨_, rfl, hO9, hv9, hbl2.trans (hS.below (B := wr.heap.size) (by omega) (by simp; omega))⟩
          · refine wp_row_term _ rfl ⟨Dg.cup N j, 1⟩ rfl ?_
            have hr := range_new u4 ⟨Dg.cup N j, 1⟩ 57
            replace hv := hv.alloc (.cells (Tm.cells ⟨Dg.cup N j, 1⟩) 57)
            replace hO := hO.alloc (.cells (Tm.cells ⟨Dg.cup N j, 1⟩) 57)
            replace hS : But w5 _ [b5, g0] := hS.alloc (.cells (Tm.cells ⟨Dg.cup N j, 1⟩) 57)
            refine hK _ _ hS ?_
            clear hK K
            try simp only [Act.put, List.setIfInBounds_toArray, List.set_cons_zero, List.set_cons_succ]
            refine wpAnyH_ready (rs := [1]) (by decide +kernel) (by simp) (allA 1 (fun K hK => ?_) AllReadyH.nil)
            have hcO := hO.cells
            go_simp
            refine hK _ _ hS ?_
            clear hK K hcO
            try simp only [Act.put, List.setIfInBounds_toArray, List.set_cons_zero, List.set_cons_succ]
            refine wpAnyH_ready (rs := [8]) (by decide +kernel) (by simp) (allA 8 (fun K hK => ?_) AllReadyH.nil)
            refine wp_append_ts _ _ rfl wr.heap.size _ [] rfl hv _ 0 1 1 [⟨Dg.cup N j, 1⟩] rfl hr rfl (by simp) (by have := hS.size; omega) ?_
            intro v7 u7 hv7 hg7
            replace hS : But w5 u7 [b5, g0] := hS.own (b := g0) hg7 (by simp)
            replace hO := hO.grown hg7 (hv.ne_blk hO (by decide))
            refine hK _ _ hS ?_
            clear hK K hg7 hv
            try simp only [Act.put, List.setIfInBounds_toArray, List.set_cons_zero, List.set_cons_succ]
            refine takeA 9 (v := ?_) hS ?_ ?_
            rotate_left
            focus (intro W hW; go_simp; first | done | with_reducible rfl)
            try simp only [Act.put, List.setIfInBounds_toArray, List.set_cons_zero, List.set_cons_succ]
            refine wpAnyH_ready (rs := [10]) (by decide +kernel) (by simp) (allA 10 (fun K hK => ?_) AllReadyH.nil)
            have hc7 := hv7.oneCell
            have hO9 : Blk (u7.setCell ⟨b5, 3, none⟩ v7) b5 #[.int .i64 P, .int .i64 C, .int .i64 N, v7] 30 := hO.set 3 v7
            have hv9 := hv7.only (Only.setCell u7 b5 3 v7) (hv7.ne_blk hO (by decide))
            replace hS : But w5 (u7.setCell ⟨b5, 3, none⟩ v7) [b5, g0] := hS.only (Only.setCell u7 b5 3 v7) (.inl (by simp))
            obtain ⟨g7, cap7, rfl, -, -, -, -, -⟩ := hv7.out
            have hcO := hO.cells
            have hfO := hO.free
            go_simp
            refine hK _ _ hS ?_
            clear hK K hcO hfO hO hv7
            try simp only [Act.put, List.setIfInBounds_toArray, List.set_cons_zero, List.set_cons_succ]
            refine wpAnyH_done (by decide +kernel) ?_ _
            go_wp2_with fail
            go_meet
            case rel => exact ⟨_, rfl, hO9, hv9, hbl2.trans (hS.below (B := wr.heap.size) (by omega) (by simp; omega))⟩

      case rest =>
      obtain ⟨v7, rfl, hO3, hvg, hb3⟩ := hcut
      have hX3 := hXr.below hb3 hXr.lt
      have hvx3 := hvxr.below hb3 (Nat.le_refl _)
      have hvy3 := hvg.mono (Nat.zero_le _)
      have hbr3 := hbr.trans (hb3.mono hz5)
      have hz6 := hbr3.size
      clear hX1 hbl2 hv hvg hbr hb3 hXr hvxr hcXr hO HU hz1 hz0 hg0
      generalize sngT (Dg.cup (N : Int) (j : Int)) = us at *
      have HM1 := Lib.hid (fun W h1 h2 => specMulT_calls P C N ts us hp hp97 hc0 hcp hn1 hn8 Hnx.out hng (by omega) (by omega) vx v7 W h1 h2)
      have HM2 := Lib.hid (fun W h1 h2 => specMulT_calls P C N us ts hp hp97 hc0 hcp hn1 hn8 hng Hnx.out (by omega) (by omega) v7 vx W h1 h2)
      have HnA := Lib.hid (mulT_nf (c := C) hp Hnx.out hng)
      have HnB := Lib.hid (mulT_nf (c := C) hp hng Hnx.out)
      unfold el at HM1 HM2
      generalize mulT P C N ts us = A at *
      generalize mulT P C N us ts = B at *
      have HE := Lib.hid (fun v1 v2 W h1 h2 => specSame_calls P C N A B (Nf.wf HnA.out hp97) (Nf.wf HnB.out hp97) v1 v2 W h1 h2)
      unfold el at HE
      by_cases hab : A = B
      · have hd : decide (A = B) = true := decide_eq_true hab
        rw [hd] at HE Hst0
        have Hst := Hst0
        clear hd Hst0 hab
        go_wp2_with fail
        refine wp_region_old (by kernel_rfl) (fun hS => ?_)
        refine takeA 0 (v := .agg #[.int .i64 P, .int .i64 C, .int .i64 N, vx]) hS ?_ ?_
        · exact fun W hW => held_el hW _ rfl _ rfl _ rfl _ hX3 rfl
        try simp only [Act.put, List.setIfInBounds_toArray, List.set_cons_zero, List.set_cons_succ]
        refine takeA 1 (v := .agg #[.int .i64 P, .int .i64 C, .int .i64 N, v7]) hS ?_ ?_
        · exact fun W hW => held_el hW _ rfl _ rfl _ rfl _ hO3 rfl
        try simp only [Act.put, List.setIfInBounds_toArray, List.set_cons_zero, List.set_cons_succ]
        refine takeA 3 (v := .agg #[.int .i64 P, .int .i64 C, .int .i64 N, v7]) hS ?_ ?_
        · exact fun W hW => held_el hW _ rfl _ rfl _ rfl _ hO3 rfl
        try simp only [Act.put, List.setIfInBounds_toArray, List.set_cons_zero, List.set_cons_succ]
        refine takeA 4 (v := .agg #[.int .i64 P, .int .i64 C, .int .i64 N, vx]) hS ?_ ?_
        · exact fun W hW => held_el hW _ rfl _ rfl _ rfl _ hX3 rfl
        try simp only [Act.put, List.setIfInBounds_toArray, List.set_cons_zero, List.set_cons_succ]
        refine wpAnyH_ready (rs := [2]) (by decide +kernel) (by simp) (allA 2 (fun K hK => ?_) AllReadyH.nil)
        go_simp
        refine (HM1.out _ (hvx3.below hS (Nat.le_refl _)) (hvy3.below hS (Nat.le_refl _))).mono ?_
        rintro e u2 ⟨v20, rfl, hv20, hb⟩
        replace hv20 := hv20.mono hS.size
        replace hS := hS.call hb
        refine hK _ _ hS ?_
        clear hK K hb
        try simp only [Act.put, List.setIfInBounds_toArray, List.set_cons_zero, List.set_cons_succ]
        refine wpAnyH_ready (rs := [5]) (by decide +kernel) (by simp) (allA 5 (fun K hK => ?_) AllReadyH.nil)
        go_simp
        refine (HM2.out _ (hvy3.below hS (Nat.le_refl _)) (hvx3.below hS (Nat.le_refl _))).mono ?_
        rintro e u5 ⟨v23, rfl, hv23, hb⟩
        replace hv23 := hv23.mono hS.size
        replace hv20 := hv20.below hb (Nat.le_refl _)
        replace hS := hS.call hb
        refine hK _ _ hS ?_
        clear hK K hb
        try simp only [Act.put, List.setIfInBounds_toArray, List.set_cons_zero, List.set_cons_succ]
        refine wpAnyH_ready (rs := [6]) (by decide +kernel) (by simp) (allA 6 (fun K hK => ?_) AllReadyH.nil)
        go_simp
        refine (HE.out _ _ _ (LIn_of_TsS hv20) (LIn_of_TsS hv23)).mono ?_
        rintro e u6 ⟨rfl, hb⟩
        replace hS := hS.call hb
        refine hK _ _ hS ?_
        clear hK K hb
        try simp only [Act.put, List.setIfInBounds_toArray, List.set_cons_zero, List.set_cons_succ]
        refine takeA 7 (v := ?_) hS ?_ ?_
        rotate_left
        focus (intro W hW; go_simp; first | done | with_reducible rfl)
        try simp only [Act.put, List.setIfInBounds_toArray, List.set_cons_zero, List.set_cons_succ]
        refine wpAnyH_done (by decide +kernel) ?_ _
        have hbr9 := hbr3.trans (Below.mono hS (by omega))
        clear hS hv20 hv23
        go_wp2_with fail
        go_roundw
        case rel => exact ⟨j + 1, by omega, by go_num, Hst.out, hbr9⟩
        case measure => simp [intOf] <;> omega

      · have hd : decide (A = B) = false := decide_eq_false hab
        rw [hd] at HE Hst0
        have Hst := Hst0
        clear hd Hst0 hab
        go_wp2_with fail
        refine wp_region_old (by kernel_rfl) (fun hS => ?_)
        refine takeA 0 (v := .agg #[.int .i64 P, .int .i64 C, .int .i64 N, vx]) hS ?_ ?_
        · exact fun W hW => held_el hW _ rfl _ rfl _ rfl _ hX3 rfl
        try simp only [Act.put, List.setIfInBounds_toArray, List.set_cons_zero, List.set_cons_succ]
        refine takeA 1 (v := .agg #[.int .i64 P, .int .i64 C, .int .i64 N, v7]) hS ?_ ?_
        · exact fun W hW => held_el hW _ rfl _ rfl _ rfl _ hO3 rfl
        try simp only [Act.put, List.setIfInBounds_toArray, List.set_cons_zero, List.set_cons_succ]
        refine takeA 3 (v := .agg #[.int .i64 P, .int .i64 C, .int .i64 N, v7]) hS ?_ ?_
        · exact fun W hW => held_el hW _ rfl _ rfl _ rfl _ hO3 rfl
        try simp only [Act.put, List.setIfInBounds_toArray, List.set_cons_zero, List.set_cons_succ]
        refine takeA 4 (v := .agg #[.int .i64 P, .int .i64 C, .int .i64 N, vx]) hS ?_ ?_
        · exact fun W hW => held_el hW _ rfl _ rfl _ rfl _ hX3 rfl
        try simp only [Act.put, List.setIfInBounds_toArray, List.set_cons_zero, List.set_cons_succ]
        refine wpAnyH_ready (rs := [2]) (by decide +kernel) (by simp) (allA 2 (fun K hK => ?_) AllReadyH.nil)
        go_simp
        refine (HM1.out _ (hvx3.below hS (Nat.le_refl _)) (hvy3.below hS (Nat.le_refl _))).mono ?_
        rintro e u2 ⟨v20, rfl, hv20, hb⟩
        replace hv20 := hv20.mono hS.size
        replace hS := hS.call hb
        refine hK _ _ hS ?_
        clear hK K hb
        try simp only [Act.put, List.setIfInBounds_toArray, List.set_cons_zero, List.set_cons_succ]
        refine wpAnyH_ready (rs := [5]) (by decide +kernel) (by simp) (allA 5 (fun K hK => ?_) AllReadyH.nil)
        go_simp
        refine (HM2.out _ (hvy3.below hS (Nat.le_refl _)) (hvx3.below hS (Nat.le_refl _))).mono ?_
        rintro e u5 ⟨v23, rfl, hv23, hb⟩
        replace hv23 := hv23.mono hS.size
        replace hv20 := hv20.below hb (Nat.le_refl _)
        replace hS := hS.call hb
        refine hK _ _ hS ?_
        clear hK K hb
        try simp only [Act.put, List.setIfInBounds_toArray, List.set_cons_zero, List.set_cons_succ]
        refine wpAnyH_ready (rs := [6]) (by decide +kernel) (by simp) (allA 6 (fun K hK => ?_) AllReadyH.nil)
        go_simp
        refine (HE.out _ _ _ (LIn_of_TsS hv20) (LIn_of_TsS hv23)).mono ?_
        rintro e u6 ⟨rfl, hb⟩
        replace hS := hS.call hb
        refine hK _ _ hS ?_
        clear hK K hb
        try simp only [Act.put, List.setIfInBounds_toArray, List.set_cons_zero, List.set_cons_succ]
        refine takeA 7 (v := ?_) hS ?_ ?_
        rotate_left
        focus (intro W hW; go_simp; first | done | with_reducible rfl)
        try simp only [Act.put, List.setIfInBounds_toArray, List.set_cons_zero, List.set_cons_succ]
        refine wpAnyH_done (by decide +kernel) ?_ _
        have hbr9 := hbr3.trans (Below.mono hS (by omega))
        clear hS hv20 hv23
        go_wp2_with fail
        go_ret2
        exact ⟨by rw [cenTo_false Hst.out (by omega)]; rfl, hbl2'.trans (hbr9.mono (by omega))⟩

    · obtain rfl : j = N - 1 := by omega
      go_wp2_with fail
      go_ret2
      exact ⟨by rw [Hcen.out]; rfl, hbl2'.trans (hbr.mono (by omega))⟩
end Go.Proofs.Yticmlgnolbccjaa

/- The walk of the statement FnExactIsCentralElement. -/
set_option linter.unusedVariables false
set_option linter.unusedSimpArgs false
namespace Go.Proofs.Yticmlgnolbccjaa
open Go.RowKit

theorem specCen_calls (x : El) (vx : Value) (w : World) (hx : x.Wf) (hvx : TsS w 0 vx x.ts) :
    Calls Try.prog 13 #[x.val vx] w fun e w' => e = .returned (.tuple #[.bool x.cenR.1, .int .i64 x.cenR.2]) ∧ Below w.heap.size w w' := by
  cases ho : x.ok with
  | false =>
    have h : x.cenR = (false, 1) := by unfold El.cenR; rw [ho]; rfl
    rw [h]
    exact specCen_bad x vx w hx hvx ho
  | true =>
    have h : x.cenR = (cenTo x.p x.c x.n.toNat x.ts (x.n.toNat - 1), 0) := by unfold El.cenR; rw [ho, if_pos rfl]
    rw [h]
    have HB := fun W h => specIsElS_calls x vx W hx h true ho
    obtain ⟨⟨hp, hp97⟩, ⟨hc0, hcp⟩, ⟨hn1, hn8⟩, hl1, hnx⟩ := El.ok_nf hx ho
    clear h ho hx
    cases x with
    | mk p c n ts =>
      simp only at hp hp97 hc0 hcp hn1 hn8 hl1 hnx hvx
      obtain ⟨N, rfl⟩ : ∃ N : Nat, n = N := ⟨n.toNat, by omega⟩
      exact specCen_good p c N ts vx w hp hp97 hc0 (by omega) (by omega) (by omega) (by simpa using hnx) hl1 HB hvx
theorem implCen_calls (x : El) (vx : Value) (w : World) (hx : x.Wf) (hvx : TsS w 0 vx x.ts) :
    Calls Try.prog 15 #[x.val vx] w fun e w' => e = .returned (.tuple #[.bool x.cenR.1, .int .i64 x.cenR.2]) ∧ Below w.heap.size w w' := by
  cases ho : x.ok with
  | false =>
    have h : x.cenR = (false, 1) := by unfold El.cenR; rw [ho]; rfl
    rw [h]
    exact implCen_bad x vx w hx hvx ho
  | true =>
    have h : x.cenR = (cenTo x.p x.c x.n.toNat x.ts (x.n.toNat - 1), 0) := by unfold El.cenR; rw [ho, if_pos rfl]
    rw [h]
    have HB := fun W h => implIsElS_calls x vx W hx h true ho
    obtain ⟨⟨hp, hp97⟩, ⟨hc0, hcp⟩, ⟨hn1, hn8⟩, hl1, hnx⟩ := El.ok_nf hx ho
    clear h ho hx
    cases x with
    | mk p c n ts =>
      simp only at hp hp97 hc0 hcp hn1 hn8 hl1 hnx hvx
      obtain ⟨N, rfl⟩ : ∃ N : Nat, n = N := ⟨n.toNat, by omega⟩
      exact implCen_good p c N ts vx w hp hp97 hc0 (by omega) (by omega) (by omega) (by simpa using hnx) hl1 HB hvx

set_option maxHeartbeats 8000000 in
set_option maxRecDepth 100000 in
theorem lawCen_calls (x : El) (vx : Value) (w : World) (hwx : x.Wf) (hlx : LIn w vx x.ts) :
    Calls Try.prog 3 #[x.val vx] w fun e w' => e = .returned (.bool true) ∧ Below w.heap.size w w' := by
  have hx := hwx.len
  have HTX := Lib.hid (fun W (h : LIn W vx x.ts) => toElement_calls x vx W h hwx.len)
  have HS := Lib.hid (fun v1 W h1 => specCen_calls x v1 W hwx h1)
  have HI := Lib.hid (fun v1 W h1 => implCen_calls x v1 W hwx h1)
  generalize x.cenR = R at *
  obtain ⟨R1, R2⟩ := R
  simp only [El.val, El.cells] at HTX HS HI ⊢
  obtain ⟨adx, capx, hvx, -⟩ := id hlx
  have HZ1 := Lib.hid (fun W => szElement_calls x vx adx capx hvx 1048576 W (by omega) (by omega) (by omega))
  rw [if_pos (by omega)] at HZ1
  simp only [El.val, El.cells] at HZ1
  have hX := Blk.new w #[.int .i64 x.p, .int .i64 x.c, .int .i64 x.n, vx] 24
  have hbl := (Below.refl w.heap.size w).alloc (Nat.le_refl _) (.cells #[.int .i64 x.p, .int .i64 x.c, .int .i64 x.n, vx] 24)
  have hlx2 := hlx.below hbl (Nat.le_refl _)
  have hz2 := hX.lt
  clear hvx hlx
  go_enter Try.func3, Try.ntmps3
  go_wp2_with (refine load_lel rfl _ rfl _ rfl _ rfl _ hX ?_)
  generalize w.alloc (.cells #[.int .i64 x.p, .int .i64 x.c, .int .i64 x.n, vx] 24) = w2 at *
  refine (HZ1.out _).mono ?_
  rintro e w3 ⟨rfl, hb⟩
  clear HZ1
  have hXr := hX.below hb (by omega)
  have hlx := hlx2.below hb (Nat.le_refl _)
  have hzr := hb.size
  -- region 5
  go_wp2_with (refine load_lel rfl _ rfl _ rfl _ rfl _ hXr ?_)
  refine (HTX.out _ hlx).mono ?_
  rintro e w4 ⟨v3, rfl, hv3, hb4⟩
  have hz4 := hb4.size
  go_wp2_with fail
  refine (HS.out _ _ (hv3.mono (Nat.zero_le _))).mono ?_
  rintro e w5 ⟨rfl, hb5⟩
  have hB := hb.trans ((hb4.trans (hb5.mono hb4.size)).mono hzr)
  have hs1 := hB.size
  clear hv3 hb4 hb5 hXr hlx
  have hX1 := hX.below hB (by omega)
  have hl1 := hlx2.below hB (Nat.le_refl _)
  -- region 6
  go_wp2_with (refine load_lel rfl _ rfl _ rfl _ rfl _ hX1 ?_)
  refine (HTX.out _ hl1).mono ?_
  rintro e w8 ⟨v8, rfl, hv8, hb8⟩
  have h1c := hv8.oneCell
  have hn8 := hv8.2
  clear hX1 hl1
  go_upto_region 7 with (refine store_el rfl _ _ rfl _ rfl _ rfl rfl (el_all h1c) _ _ (Blk.newAt _ _ _ rfl) rfl ?_; intro wq hq hoq)
  have O8 := Has.new (x := x) hv8.1 hq hoq
  have hb89 := hb8.trans ((new_below hoq).mono hb8.size)
  replace hB := hB.trans (hb89.mono hs1)
  have hs2 := hb89.size
  clear hv8 hb8 hb89 hq hoq h1c
  generalize w8.heap.size = b8 at *
  obtain ⟨w9, rfl⟩ : ∃ z : World, z = wq := ⟨_, rfl⟩
  -- region 7
  go_wp2_with (refine load_el rfl _ rfl _ rfl _ rfl _ O8.blk ?_)
  refine (HI.out _ _ ⟨O8.own.mono (Nat.zero_le _), hn8⟩).mono ?_
  rintro e w12 ⟨rfl, hb12⟩
  replace O8 := O8.ext hb12
  replace hB := hB.trans (hb12.mono (by omega))
  have hs4 := hb12.size
  clear hb12
  have hXr := hX.below hB (by omega)
  have hlx := hlx2.below hB (Nat.le_refl _)
  cases R1 <;> (
  go_wp2_with fail
  -- region 10
  refine wp_region_old (by kernel_rfl) (fun hS => ?_)
  refine takeA 0 (v := .agg #[.int .i64 x.p, .int .i64 x.c, .int .i64 x.n, v8]) hS ?_ ?_
  · exact fun W hW => held_el hW _ rfl _ rfl _ rfl _ O8.blk rfl
  try simp only [Act.put, List.setIfInBounds_toArray, List.set_cons_zero, List.set_cons_succ]
  refine takeA 1 (v := .agg #[.int .i64 x.p, .int .i64 x.c, .int .i64 x.n, vx]) hS ?_ ?_
  · exact fun W hW => held_lel hW _ rfl _ rfl _ rfl _ hXr rfl
  try simp only [Act.put, List.setIfInBounds_toArray, List.set_cons_zero, List.set_cons_succ]
  refine wpAnyH_ready (rs := [2]) (by decide +kernel) (by simp) (allA 2 (fun K hK => ?_) AllReadyH.nil)
  go_simp
  refine (HTX.out _ (hlx.below hS (Nat.le_refl _))).mono ?_
  rintro e u2 ⟨v2, rfl, hv2, hb⟩
  have hS0 := hS
  replace hS := hS.call hb
  have hvo := O8.own.below hS (Nat.le_refl _)
  simp only [El.val, El.cells]
  refine hK _ _ hS ?_
  clear hK K hb
  try simp only [Act.put, List.setIfInBounds_toArray, List.set_cons_zero, List.set_cons_succ]
  refine wpAnyH_ready (rs := [3]) (by decide +kernel) (by simp) (allA 3 (fun K hK => ?_) AllReadyH.nil)
  go_simp
  refine (eqElement_calls x _ _ _ _ _ hvo hv2.1 (by omega)).mono ?_
  rintro e u3 ⟨rfl, hb⟩
  replace hS := hS.call hb
  refine hK _ _ hS ?_
  clear hK K hb
  try simp only [Act.put, List.setIfInBounds_toArray, List.set_cons_zero, List.set_cons_succ]
  refine takeA 4 (v := ?_) hS ?_ ?_
  rotate_left
  focus (intro W hW; go_simp; first | done | with_reducible rfl)
  try simp only [Act.put, List.setIfInBounds_toArray, List.set_cons_zero, List.set_cons_succ]
  refine wpAnyH_done (by decide +kernel) ?_ _
  

  replace hB := hB.trans (Below.mono hS (by omega))
  clear hS hXr hlx hv2 hvo hS0
  go_wp2_with fail
  go_ret
  exact ⟨rfl, hbl.trans (hB.mono (by omega))⟩)
end Go.Proofs.Yticmlgnolbccjaa
