/- The walk of the statement FnExactMultiplyElements. -/
import Derived.Test.YticmlgnolbccjaaQ11
import Derived.Deep.CutRange

set_option linter.unusedVariables false
set_option linter.unusedSimpArgs false
namespace Go.Proofs.Yticmlgnolbccjaa
open Go.RowKit

theorem info_lel : (Try.prog.info? 24).map (·.size) = some 4 := by kernel_rfl
section
variable {ops : Array Oper} {rest : List Oper} {o : Oper} {a : Act} {w : World} {Q : Exit → Act → World → Prop}
theorem load_lel (hgd : o.guard = none) (x : Operand) (ho : o.op = .load 24 x) (b : Nat) (hx : a.eval x = .pointer (some ⟨b, 0, none⟩)) (cs : Array Value) (hs : cs.size = 4) (T : TypeId) (h : Blk w b cs T)
    (hK : wpList Try.prog ops Q rest (a.put o.dst (.agg cs)) w) : wpList Try.prog ops Q (o :: rest) a w :=
  wpList_load_row hgd _ x ho b hx T cs (0, 0) _ h Try.underlying24 rfl (by rw [info_lel, hs]) hK
end
section
variable {w W : World} {a : Act} {o : Oper} {v : Value}
theorem held_lel (hW : Ext w W) (x : Operand) (ho : o.op = .load 24 x) (b : Nat) (hx : a.eval x = .pointer (some ⟨b, 0, none⟩)) (cs : Array Value) (hs : cs.size = 4) (T : TypeId) (h : Blk w b cs T) (hv : v = .agg cs) :
    (execOp a.eval o).run Try.prog W = .ok (.value v) W := by
  subst hv
  unfold execOp
  simp only [ho, hx, Instr.loadAt, Instr.sureAddr, Sem.run_bind, Sem.run_pure, Result.andThen_ok, run_loadVar_row W b T 24 cs (0, 0) _ (h.below hW h.lt) Try.underlying24 rfl (by rw [info_lel, hs])]
theorem held_el (hW : Ext w W) (x : Operand) (ho : o.op = .load 30 x) (b : Nat) (hx : a.eval x = .pointer (some ⟨b, 0, none⟩)) (cs : Array Value) (hs : cs.size = 4) (T : TypeId) (h : Blk w b cs T) (hv : v = .agg cs) :
    (execOp a.eval o).run Try.prog W = .ok (.value v) W := by
  subst hv
  unfold execOp
  simp only [ho, hx, Instr.loadAt, Instr.sureAddr, Sem.run_bind, Sem.run_pure, Result.andThen_ok, run_loadVar_row W b T 30 cs (0, 0) _ (h.below hW h.lt) Try.underlying30 rfl (by rw [info_el, hs])]
end
theorem TsOwn.ne_blk {w : World} {base b : Nat} {v : Value} {ts : List Tm} {cs : Array Value} {T : TypeId} (h : TsOwn w base v ts) (hb : Blk w b cs T) (hT : T ≠ 57) : some b ≠ v.ownBlock := by
  intro he
  rcases h.2 with ⟨rfl, _⟩ | ⟨g, cap, cur, rfl, _, hg, _⟩
  · cases he
  · have e : b = g := Option.some.inj he
    subst e
    have hb' : w.heap[b]? = some (.cells cs T (0, 0)) := hb
    rw [hb'] at hg
    simp only [Option.some.injEq, Obj.cells.injEq] at hg
    exact hT hg.2.1

/-- An element of some block, whose terms are some list. -/
structure Has (w : World) (base b : Nat) (x : El) (v : Value) (ts : List Tm) : Prop where
  blk : Blk w b #[.int .i64 x.p, .int .i64 x.c, .int .i64 x.n, v] 30
  own : TsOwn w base v ts
theorem Has.below {w w' : World} {base b B : Nat} {x : El} {v : Value} {ts : List Tm} (h : Has w base b x v ts) (hb : Below B w w') (hB : w.heap.size ≤ B) : Has w' base b x v ts :=
  ⟨h.blk.below hb (by have := h.blk.lt; omega), h.own.below hb hB⟩
theorem Has.drewN {w : World} {base b : Nat} {x : El} {v : Value} {ts : List Tm} (h : Has w base b x v ts) (k : Nat) : Has (w.drewN k) base b x v ts := ⟨h.blk, h.own⟩
/-- Another's terms have changed. -/
theorem Has.grown {w w' : World} {base base' b b' : Nat} {x x' : El} {v v' : Value} {ts ts' : List Tm} (h : Has w base b x v ts) (k : Has w base' b' x' v' ts') (hg : w.grownBy w' v'.ownBlock) (hne : ∀ j, v.ownBlock = some j → v'.ownBlock ≠ some j) : Has w' base b x v ts := by
  refine ⟨h.blk.grown hg (k.own.ne_blk h.blk (by decide)), ?_⟩
  cases hv : v'.ownBlock with
  | none => rw [hv] at hg; exact World.ownsRow.kept h.own hg (by cases hv2 : v.ownBlock <;> simp)
  | some j =>
    rw [hv] at hg
    exact h.own.grown hg (fun e => hne j e.symm hv)
theorem lt_ne {w w' : World} {base base' : Nat} {v v' : Value} {ts ts' : List Tm} (h : TsOwn w base v ts) (h' : TsOwn w' base' v' ts') (hs : w.heap.size ≤ base') : ∀ j, v.ownBlock = some j → v'.ownBlock ≠ some j :=
  fun j h1 h2 => by have := (h.lt j h1).2; have := (h'.lt j h2).1; omega
theorem gt_ne {w w' : World} {base base' : Nat} {v v' : Value} {ts ts' : List Tm} (h : TsOwn w base v ts) (h' : TsOwn w' base' v' ts') (hs : w'.heap.size ≤ base) : ∀ j, v.ownBlock = some j → v'.ownBlock ≠ some j :=
  fun j h1 h2 => by have := (h.lt j h1).1; have := (h'.lt j h2).2; omega
theorem new_below {w w' : World} {o : Obj} (ho : Only (w.alloc o) w' w.heap.size) : Below w.heap.size w w' := ((Below.refl _ _).alloc (Nat.le_refl _) _).trans (ho.below (Nat.le_refl _))
theorem Has.new {w w' : World} {o : Obj} {base : Nat} {x : El} {v : Value} {ts : List Tm} (hv : TsOwn w base v ts) (h : Blk w' w.heap.size #[.int .i64 x.p, .int .i64 x.c, .int .i64 x.n, v] 30) (ho : Only (w.alloc o) w' w.heap.size) : Has w' base w.heap.size x v ts :=
  ⟨h, (hv.alloc' _).only ho (fun e => by have := (hv.lt _ e.symm).2; omega)⟩
theorem Has.ext {w w' : World} {base b : Nat} {x : El} {v : Value} {ts : List Tm} (h : Has w base b x v ts) (hb : Below w.heap.size w w') : Has w' base b x v ts := h.below hb (Nat.le_refl _)
theorem grown_below {w0 w w' : World} {B base : Nat} {v : Value} {ts : List Tm} (h : Below B w0 w) (hv : TsOwn w base v ts) (hg : w.grownBy w' v.ownBlock) (hB : B ≤ base) (hs : B ≤ w.heap.size) : Below B w0 w' := h.grown hg hs (fun k hk => by have := (hv.lt k hk).1; omega)
theorem El.told_len (x : El) : x.told.1.ts.length ≤ 140 := by
  unfold El.told
  split
  · assumption
  · exact Nat.zero_le _
theorem El.mulR_len (x y : El) : (x.mulR y).1.ts.length ≤ 140 := by
  unfold El.mulR
  split
  · exact El.told_len _
  · exact Nat.zero_le _

set_option maxHeartbeats 8000000 in
set_option maxRecDepth 100000 in
theorem lawMul_calls (x y : El) (vx vy : Value) (w : World) (hx : x.ts.length + y.ts.length ≤ 1048576) (hwx : x.Wf) (hwy : y.Wf) (hlx : LIn w vx x.ts) (hly : LIn w vy y.ts) :
    Calls Try.prog 4 #[x.val vx, y.val vy] w fun e w' => e = .returned (.bool true) ∧ Below w.heap.size w w' := by
  have HTX := Lib.hid (fun W (h : LIn W vx x.ts) => toElement_calls x vx W h hwx.len)
  have HTY := Lib.hid (fun W (h : LIn W vy y.ts) => toElement_calls y vy W h hwy.len)
  have HS := Lib.hid (fun v1 v3 W h1 h3 => specMultiply_calls x y v1 v3 W hwx hwy h1 h3)
  have HI := Lib.hid (fun v1 v3 W h1 h3 => implMultiply_calls x y v1 v3 W hwx hwy h1 h3)
  have hRl := El.mulR_len x y
  generalize x.mulR y = R at *
  simp only [El.val, El.cells] at HTX HTY HS HI ⊢
  obtain ⟨adx, capx, hvx, -⟩ := id hlx
  obtain ⟨ady, capy, hvy, -⟩ := id hly
  have HZ1 := Lib.hid (fun W => szElement_calls x vx adx capx hvx 1048576 W (by omega) (by omega) (by omega))
  have HZ2 := Lib.hid (fun W => szElement_calls y vy ady capy hvy (1048576 - x.ts.length) W (by omega) (by omega) (by omega))
  rw [if_pos (by omega)] at HZ1 HZ2
  simp only [El.val, El.cells] at HZ1 HZ2
  have hX := (Blk.new w #[.int .i64 x.p, .int .i64 x.c, .int .i64 x.n, vx] 24).alloc (.cells #[.int .i64 y.p, .int .i64 y.c, .int .i64 y.n, vy] 24)
  have hY := Blk.newAt (w.alloc (.cells #[.int .i64 x.p, .int .i64 x.c, .int .i64 x.n, vx] 24)) #[.int .i64 y.p, .int .i64 y.c, .int .i64 y.n, vy] 24 (b := w.heap.size + 1) (by simp)
  have hbl := ((Below.refl w.heap.size w).alloc (Nat.le_refl _) (.cells #[.int .i64 x.p, .int .i64 x.c, .int .i64 x.n, vx] 24)).alloc (by simp) (.cells #[.int .i64 y.p, .int .i64 y.c, .int .i64 y.n, vy] 24)
  have hlx2 := hlx.below hbl (Nat.le_refl _)
  have hly2 := hly.below hbl (Nat.le_refl _)
  have hz2 := hY.lt
  clear hvx hvy hlx hly
  go_enter Try.func4, Try.ntmps4
  go_wp2_with (refine load_lel rfl _ rfl _ rfl _ rfl _ hX ?_)
  generalize (w.alloc (.cells #[.int .i64 x.p, .int .i64 x.c, .int .i64 x.n, vx] 24)).alloc (.cells #[.int .i64 y.p, .int .i64 y.c, .int .i64 y.n, vy] 24) = w2 at *
  refine (HZ1.out _).mono ?_
  rintro e w3 ⟨rfl, hb3⟩
  have hY3 := hY.below hb3 (by omega)
  have hz3 := hb3.size
  go_wp2_with (refine load_lel rfl _ rfl _ rfl _ rfl _ hY3 ?_)
  refine (HZ2.out _).mono ?_
  rintro e wr ⟨rfl, hb4⟩
  have hb := hb3.trans (hb4.mono hz3)
  clear HZ1 HZ2 hY3 hb3 hb4 hz3
  have hXr := hX.below hb (by omega)
  have hYr := hY.below hb (by omega)
  have hlx := hlx2.below hb (Nat.le_refl _)
  have hly := hly2.below hb (Nat.le_refl _)
  have hzr := hb.size
  go_wp2_with fail
  go_cut [6, 7] from 27 to 34 (fun v6 v7 wx => ∃ (b6 : Nat) (v4 : Value), v6 = .pointer (some ⟨b6, 0, none⟩) ∧ v7 = .int .i64 R.2 ∧ Has wx wr.heap.size b6 R.1 v4 R.1.ts ∧ Below wr.heap.size wr wx)
  case first =>
    refine wp_region_old (by kernel_rfl) (fun hS => ?_)
    refine takeA 0 (v := .agg #[.int .i64 x.p, .int .i64 x.c, .int .i64 x.n, vx]) hS ?_ ?_
    · exact fun W hW => held_lel hW _ rfl _ rfl _ rfl _ hXr rfl
    try simp only [Act.put, List.setIfInBounds_toArray, List.set_cons_zero, List.set_cons_succ]
    refine takeA 2 (v := .agg #[.int .i64 y.p, .int .i64 y.c, .int .i64 y.n, vy]) hS ?_ ?_
    · exact fun W hW => held_lel hW _ rfl _ rfl _ rfl _ hYr rfl
    try simp only [Act.put, List.setIfInBounds_toArray, List.set_cons_zero, List.set_cons_succ]
    refine wpAnyH_ready (rs := [1, 8]) (by decide +kernel) (by simp) (allA 1 (fun K hK => ?_) (allA 8 (fun K hK => ?_) AllReadyH.nil))
    · go_simp
      refine (HTX.out _ (hlx.below hS (Nat.le_refl _))).mono ?_
      rintro e u1 ⟨v1, rfl, hv1, hb⟩
      try replace hv3 := hv3.below hb (Nat.le_refl _)
      try replace h8 := h8.below hb h8.lt
      replace hv1 := hv1.mono (Nat.zero_le _)
      replace hS := hS.call hb
      refine hK _ _ hS ?_
      clear hK K hb
      try simp only [Act.put, List.setIfInBounds_toArray, List.set_cons_zero, List.set_cons_succ]
      refine wpAnyH_ready (rs := [3, 8]) (by decide +kernel) (by simp) (allA 3 (fun K hK => ?_) (allA 8 (fun K hK => ?_) AllReadyH.nil))
      · go_simp
        refine (HTY.out _ (hly.below hS (Nat.le_refl _))).mono ?_
        rintro e u3 ⟨v3, rfl, hv3, hb⟩
        try replace hv1 := hv1.below hb (Nat.le_refl _)
        try replace h8 := h8.below hb h8.lt
        replace hv3 := hv3.mono (Nat.zero_le _)
        replace hS := hS.call hb
        refine hK _ _ hS ?_
        clear hK K hb
        try simp only [Act.put, List.setIfInBounds_toArray, List.set_cons_zero, List.set_cons_succ]
        refine wpAnyH_ready (rs := [4, 8]) (by decide +kernel) (by simp) (allA 4 (fun K hK => ?_) (allA 8 (fun K hK => ?_) AllReadyH.nil))
        · go_simp
          refine (HS.out _ _ _ hv1 hv3).mono ?_
          rintro e u4 ⟨v4, rfl, hv4, hb⟩
          try replace h8 := h8.below hb h8.lt
          simp only [El.val, El.cells]
          have h1c := hv4.oneCell
          replace hv4 := hv4.mono hS.size
          replace hS := hS.call hb
          refine hK _ _ hS ?_
          clear hK K hb hv1 hv3
          try simp only [Act.put, List.setIfInBounds_toArray, List.set_cons_zero, List.set_cons_succ]
          refine takeA 5 (v := ?_) hS ?_ ?_
          rotate_left
          focus (intro W hW; go_simp; first | done | with_reducible rfl)
          try simp only [Act.put, List.setIfInBounds_toArray, List.set_cons_zero, List.set_cons_succ]
          refine takeA 6 (v := ?_) hS ?_ ?_
          rotate_left
          focus (intro W hW; go_simp; first | done | with_reducible rfl)
          try simp only [Act.put, List.setIfInBounds_toArray, List.set_cons_zero, List.set_cons_succ]
          refine takeA 7 (v := ?_) hS ?_ ?_
          rotate_left
          focus (intro W hW; go_simp; first | done | with_reducible rfl)
          try simp only [Act.put, List.setIfInBounds_toArray, List.set_cons_zero, List.set_cons_succ]
          refine wpAnyH_ready (rs := [8]) (by decide +kernel) (by simp) (allA 8 (fun K hK => ?_) AllReadyH.nil)
          have h8 := Blk.new (u4) #[.int .i64 0, .int .i64 0, .int .i64 0, .slice none 0 0] 30
          have hz8 := hS.size
          go_simp
          try replace hv1 := hv1.alloc (.cells #[.int .i64 0, .int .i64 0, .int .i64 0, .slice none 0 0] 30)
          try replace hv3 := hv3.alloc (.cells #[.int .i64 0, .int .i64 0, .int .i64 0, .slice none 0 0] 30)
          try replace hv4 := hv4.alloc' (.cells #[.int .i64 0, .int .i64 0, .int .i64 0, .slice none 0 0] 30)
          replace hS := hS.alloc (.cells #[.int .i64 0, .int .i64 0, .int .i64 0, .slice none 0 0] 30)
          refine hK _ _ hS ?_
          clear hK K
          try simp only [Act.put, List.setIfInBounds_toArray, List.set_cons_zero, List.set_cons_succ]
          refine wpAnyH_ready (rs := [9]) (by decide +kernel) (by simp) (allA 9 (fun K hK => ?_) AllReadyH.nil)
          refine wp_store_el _ _ rfl _ rfl _ rfl rfl (el_all h1c) _ _ h8 rfl ?_
          intro u9 h9 ho9
          replace hv4 := hv4.only ho9 (hv4.ne_blk h8 (by decide))
          replace hS := hS.only ho9 (by first | exact hz8 | omega)
          refine hK _ _ hS ?_
          clear hK K
          try simp only [Act.put, List.setIfInBounds_toArray, List.set_cons_zero, List.set_cons_succ]
          refine takeA 10 (v := ?_) hS ?_ ?_
          rotate_left
          focus (intro W hW; go_simp; first | done | with_reducible rfl)
          try simp only [Act.put, List.setIfInBounds_toArray, List.set_cons_zero, List.set_cons_succ]
          refine wpAnyH_done (by decide +kernel) ?_ _
          go_wp2_with fail
          go_meet
          case rel => exact ⟨_, v4, rfl, rfl, ⟨h9, hv4⟩, hS⟩
        · have h8 := Blk.new (u3) #[.int .i64 0, .int .i64 0, .int .i64 0, .slice none 0 0] 30
          have hz8 := hS.size
          go_simp
          try replace hv1 := hv1.alloc (.cells #[.int .i64 0, .int .i64 0, .int .i64 0, .slice none 0 0] 30)
          try replace hv3 := hv3.alloc (.cells #[.int .i64 0, .int .i64 0, .int .i64 0, .slice none 0 0] 30)
          try replace hv4 := hv4.alloc' (.cells #[.int .i64 0, .int .i64 0, .int .i64 0, .slice none 0 0] 30)
          replace hS := hS.alloc (.cells #[.int .i64 0, .int .i64 0, .int .i64 0, .slice none 0 0] 30)
          refine hK _ _ hS ?_
          clear hK K
          try simp only [Act.put, List.setIfInBounds_toArray, List.set_cons_zero, List.set_cons_succ]
          refine wpAnyH_ready (rs := [4]) (by decide +kernel) (by simp) (allA 4 (fun K hK => ?_) AllReadyH.nil)
          go_simp
          refine (HS.out _ _ _ hv1 hv3).mono ?_
          rintro e u4 ⟨v4, rfl, hv4, hb⟩
          try replace h8 := h8.below hb h8.lt
          simp only [El.val, El.cells]
          have h1c := hv4.oneCell
          replace hv4 := hv4.mono hS.size
          replace hS := hS.call hb
          refine hK _ _ hS ?_
          clear hK K hb hv1 hv3
          try simp only [Act.put, List.setIfInBounds_toArray, List.set_cons_zero, List.set_cons_succ]
          refine takeA 5 (v := ?_) hS ?_ ?_
          rotate_left
          focus (intro W hW; go_simp; first | done | with_reducible rfl)
          try simp only [Act.put, List.setIfInBounds_toArray, List.set_cons_zero, List.set_cons_succ]
          refine takeA 6 (v := ?_) hS ?_ ?_
          rotate_left
          focus (intro W hW; go_simp; first | done | with_reducible rfl)
          try simp only [Act.put, List.setIfInBounds_toArray, List.set_cons_zero, List.set_cons_succ]
          refine takeA 7 (v := ?_) hS ?_ ?_
          rotate_left
          focus (intro W hW; go_simp; first | done | with_reducible rfl)
          try simp only [Act.put, List.setIfInBounds_toArray, List.set_cons_zero, List.set_cons_succ]
          refine wpAnyH_ready (rs := [9]) (by decide +kernel) (by simp) (allA 9 (fun K hK => ?_) AllReadyH.nil)
          refine wp_store_el _ _ rfl _ rfl _ rfl rfl (el_all h1c) _ _ h8 rfl ?_
          intro u9 h9 ho9
          replace hv4 := hv4.only ho9 (hv4.ne_blk h8 (by decide))
          replace hS := hS.only ho9 (by first | exact hz8 | omega)
          refine hK _ _ hS ?_
          clear hK K
          try simp only [Act.put, List.setIfInBounds_toArray, List.set_cons_zero, List.set_cons_succ]
          refine takeA 10 (v := ?_) hS ?_ ?_
          rotate_left
          focus (intro W hW; go_simp; first | done | with_reducible rfl)
          try simp only [Act.put, List.setIfInBounds_toArray, List.set_cons_zero, List.set_cons_succ]
          refine wpAnyH_done (by decide +kernel) ?_ _
          go_wp2_with fail
          go_meet
          case rel => exact ⟨_, v4, rfl, rfl, ⟨h9, hv4⟩, hS⟩
      · have h8 := Blk.new (u1) #[.int .i64 0, .int .i64 0, .int .i64 0, .slice none 0 0] 30
        have hz8 := hS.size
        go_simp
        try replace hv1 := hv1.alloc (.cells #[.int .i64 0, .int .i64 0, .int .i64 0, .slice none 0 0] 30)
        try replace hv3 := hv3.alloc (.cells #[.int .i64 0, .int .i64 0, .int .i64 0, .slice none 0 0] 30)
        try replace hv4 := hv4.alloc' (.cells #[.int .i64 0, .int .i64 0, .int .i64 0, .slice none 0 0] 30)
        replace hS := hS.alloc (.cells #[.int .i64 0, .int .i64 0, .int .i64 0, .slice none 0 0] 30)
        refine hK _ _ hS ?_
        clear hK K
        try simp only [Act.put, List.setIfInBounds_toArray, List.set_cons_zero, List.set_cons_succ]
        refine wpAnyH_ready (rs := [3]) (by decide +kernel) (by simp) (allA 3 (fun K hK => ?_) AllReadyH.nil)
        go_simp
        refine (HTY.out _ (hly.below hS (Nat.le_refl _))).mono ?_
        rintro e u3 ⟨v3, rfl, hv3, hb⟩
        try replace hv1 := hv1.below hb (Nat.le_refl _)
        try replace h8 := h8.below hb h8.lt
        replace hv3 := hv3.mono (Nat.zero_le _)
        replace hS := hS.call hb
        refine hK _ _ hS ?_
        clear hK K hb
        try simp only [Act.put, List.setIfInBounds_toArray, List.set_cons_zero, List.set_cons_succ]
        refine wpAnyH_ready (rs := [4]) (by decide +kernel) (by simp) (allA 4 (fun K hK => ?_) AllReadyH.nil)
        go_simp
        refine (HS.out _ _ _ hv1 hv3).mono ?_
        rintro e u4 ⟨v4, rfl, hv4, hb⟩
        try replace h8 := h8.below hb h8.lt
        simp only [El.val, El.cells]
        have h1c := hv4.oneCell
        replace hv4 := hv4.mono hS.size
        replace hS := hS.call hb
        refine hK _ _ hS ?_
        clear hK K hb hv1 hv3
        try simp only [Act.put, List.setIfInBounds_toArray, List.set_cons_zero, List.set_cons_succ]
        refine takeA 5 (v := ?_) hS ?_ ?_
        rotate_left
        focus (intro W hW; go_simp; first | done | with_reducible rfl)
        try simp only [Act.put, List.setIfInBounds_toArray, List.set_cons_zero, List.set_cons_succ]
        refine takeA 6 (v := ?_) hS ?_ ?_
        rotate_left
        focus (intro W hW; go_simp; first | done | with_reducible rfl)
        try simp only [Act.put, List.setIfInBounds_toArray, List.set_cons_zero, List.set_cons_succ]
        refine takeA 7 (v := ?_) hS ?_ ?_
        rotate_left
        focus (intro W hW; go_simp; first | done | with_reducible rfl)
        try simp only [Act.put, List.setIfInBounds_toArray, List.set_cons_zero, List.set_cons_succ]
        refine wpAnyH_ready (rs := [9]) (by decide +kernel) (by simp) (allA 9 (fun K hK => ?_) AllReadyH.nil)
        refine wp_store_el _ _ rfl _ rfl _ rfl rfl (el_all h1c) _ _ h8 rfl ?_
        intro u9 h9 ho9
        replace hv4 := hv4.only ho9 (hv4.ne_blk h8 (by decide))
        replace hS := hS.only ho9 (by first | exact hz8 | omega)
        refine hK _ _ hS ?_
        clear hK K
        try simp only [Act.put, List.setIfInBounds_toArray, List.set_cons_zero, List.set_cons_succ]
        refine takeA 10 (v := ?_) hS ?_ ?_
        rotate_left
        focus (intro W hW; go_simp; first | done | with_reducible rfl)
        try simp only [Act.put, List.setIfInBounds_toArray, List.set_cons_zero, List.set_cons_succ]
        refine wpAnyH_done (by decide +kernel) ?_ _
        go_wp2_with fail
        go_meet
        case rel => exact ⟨_, v4, rfl, rfl, ⟨h9, hv4⟩, hS⟩
    · have h8 := Blk.new (wr.drew) #[.int .i64 0, .int .i64 0, .int .i64 0, .slice none 0 0] 30
      have hz8 := hS.size
      go_simp
      try replace hv1 := hv1.alloc (.cells #[.int .i64 0, .int .i64 0, .int .i64 0, .slice none 0 0] 30)
      try replace hv3 := hv3.alloc (.cells #[.int .i64 0, .int .i64 0, .int .i64 0, .slice none 0 0] 30)
      try replace hv4 := hv4.alloc' (.cells #[.int .i64 0, .int .i64 0, .int .i64 0, .slice none 0 0] 30)
      replace hS := hS.alloc (.cells #[.int .i64 0, .int .i64 0, .int .i64 0, .slice none 0 0] 30)
      refine hK _ _ hS ?_
      clear hK K
      try simp only [Act.put, List.setIfInBounds_toArray, List.set_cons_zero, List.set_cons_succ]
      refine wpAnyH_ready (rs := [1]) (by decide +kernel) (by simp) (allA 1 (fun K hK => ?_) AllReadyH.nil)
      go_simp
      refine (HTX.out _ (hlx.below hS (Nat.le_refl _))).mono ?_
      rintro e u1 ⟨v1, rfl, hv1, hb⟩
      try replace hv3 := hv3.below hb (Nat.le_refl _)
      try replace h8 := h8.below hb h8.lt
      replace hv1 := hv1.mono (Nat.zero_le _)
      replace hS := hS.call hb
      refine hK _ _ hS ?_
      clear hK K hb
      try simp only [Act.put, List.setIfInBounds_toArray, List.set_cons_zero, List.set_cons_succ]
      refine wpAnyH_ready (rs := [3]) (by decide +kernel) (by simp) (allA 3 (fun K hK => ?_) AllReadyH.nil)
      go_simp
      refine (HTY.out _ (hly.below hS (Nat.le_refl _))).mono ?_
      rintro e u3 ⟨v3, rfl, hv3, hb⟩
      try replace hv1 := hv1.below hb (Nat.le_refl _)
      try replace h8 := h8.below hb h8.lt
      replace hv3 := hv3.mono (Nat.zero_le _)
      replace hS := hS.call hb
      refine hK _ _ hS ?_
      clear hK K hb
      try simp only [Act.put, List.setIfInBounds_toArray, List.set_cons_zero, List.set_cons_succ]
      refine wpAnyH_ready (rs := [4]) (by decide +kernel) (by simp) (allA 4 (fun K hK => ?_) AllReadyH.nil)
      go_simp
      refine (HS.out _ _ _ hv1 hv3).mono ?_
      rintro e u4 ⟨v4, rfl, hv4, hb⟩
      try replace h8 := h8.below hb h8.lt
      simp only [El.val, El.cells]
      have h1c := hv4.oneCell
      replace hv4 := hv4.mono hS.size
      replace hS := hS.call hb
      refine hK _ _ hS ?_
      clear hK K hb hv1 hv3
      try simp only [Act.put, List.setIfInBounds_toArray, List.set_cons_zero, List.set_cons_succ]
      refine takeA 5 (v := ?_) hS ?_ ?_
      rotate_left
      focus (intro W hW; go_simp; first | done | with_reducible rfl)
      try simp only [Act.put, List.setIfInBounds_toArray, List.set_cons_zero, List.set_cons_succ]
      refine takeA 6 (v := ?_) hS ?_ ?_
      rotate_left
      focus (intro W hW; go_simp; first | done | with_reducible rfl)
      try simp only [Act.put, List.setIfInBounds_toArray, List.set_cons_zero, List.set_cons_succ]
      refine takeA 7 (v := ?_) hS ?_ ?_
      rotate_left
      focus (intro W hW; go_simp; first | done | with_reducible rfl)
      try simp only [Act.put, List.setIfInBounds_toArray, List.set_cons_zero, List.set_cons_succ]
      refine wpAnyH_ready (rs := [9]) (by decide +kernel) (by simp) (allA 9 (fun K hK => ?_) AllReadyH.nil)
      refine wp_store_el _ _ rfl _ rfl _ rfl rfl (el_all h1c) _ _ h8 rfl ?_
      intro u9 h9 ho9
      replace hv4 := hv4.only ho9 (hv4.ne_blk h8 (by decide))
      replace hS := hS.only ho9 (by first | exact hz8 | omega)
      refine hK _ _ hS ?_
      clear hK K
      try simp only [Act.put, List.setIfInBounds_toArray, List.set_cons_zero, List.set_cons_succ]
      refine takeA 10 (v := ?_) hS ?_ ?_
      rotate_left
      focus (intro W hW; go_simp; first | done | with_reducible rfl)
      try simp only [Act.put, List.setIfInBounds_toArray, List.set_cons_zero, List.set_cons_succ]
      refine wpAnyH_done (by decide +kernel) ?_ _
      go_wp2_with fail
      go_meet
      case rel => exact ⟨_, v4, rfl, rfl, ⟨h9, hv4⟩, hS⟩

  case rest =>
  obtain ⟨b6, v6, rfl, rfl, O6, hb5⟩ := hcut
  have hB := hb.trans (hb5.mono hzr)
  have hX1 := hX.below hB (by omega)
  have hl1 := hlx2.below hB (Nat.le_refl _)
  have hs1 := hB.size
  have hs5 := hb5.size
  clear hb5
  -- region 9
  go_wp2_with (refine load_lel rfl _ rfl _ rfl _ rfl _ hX1 ?_)
  refine (HTX.out _ hl1).mono ?_
  rintro e w8 ⟨v8, rfl, hv8, hb8⟩
  have h1c := hv8.oneCell
  have n68 := lt_ne O6.own hv8.1 (Nat.le_refl _)
  have hn8 := hv8.2
  clear hX1 hl1
  go_upto_region 10 with (refine store_el rfl _ _ rfl _ rfl _ rfl rfl (el_all h1c) _ _ (Blk.newAt _ _ _ rfl) rfl ?_; intro wq hq hoq)
  have O8 := Has.new (x := x) hv8.1 hq hoq
  have hb89 := hb8.trans ((new_below hoq).mono hb8.size)
  replace O6 := O6.ext hb89
  replace hB := hB.trans (hb89.mono hs1)
  have hs2 := hb89.size
  clear hv8 hb8 hb89 hq hoq h1c
  generalize w8.heap.size = b8 at *
  obtain ⟨w9, rfl⟩ : ∃ z : World, z = wq := ⟨_, rfl⟩
  -- region 10
  have hY1 := hY.below hB (by omega)
  have hl1 := hly2.below hB (Nat.le_refl _)
  go_wp2_with (refine load_lel rfl _ rfl _ rfl _ rfl _ hY1 ?_)
  refine (HTY.out _ hl1).mono ?_
  rintro e w10 ⟨v9, rfl, hv9, hb10⟩
  have h1c := hv9.oneCell
  have n69 := lt_ne O6.own hv9.1 (Nat.le_refl _)
  have n98 := gt_ne hv9.1 O8.own (Nat.le_refl _)
  have hn9 := hv9.2
  clear hY1 hl1
  go_upto_region 11 with (refine store_el rfl _ _ rfl _ rfl _ rfl rfl (el_all h1c) _ _ (Blk.newAt _ _ _ rfl) rfl ?_; intro wq hq hoq)
  have O9 := Has.new (x := y) hv9.1 hq hoq
  have hb89 := hb10.trans ((new_below hoq).mono hb10.size)
  replace O6 := O6.ext hb89
  replace O8 := O8.ext hb89
  replace hB := hB.trans (hb89.mono (by omega))
  have hs3 := hb89.size
  clear hv9 hb10 hb89 hq hoq h1c
  generalize w10.heap.size = b9 at *
  obtain ⟨w11, rfl⟩ : ∃ z : World, z = wq := ⟨_, rfl⟩
  -- region 11
  go_wp2_with (first | (refine load_el rfl _ rfl _ rfl _ rfl _ O8.blk ?_) | (refine load_el rfl _ rfl _ rfl _ rfl _ O9.blk ?_))
  refine (HI.out _ _ _ ⟨O8.own.mono (Nat.zero_le _), hn8⟩ ⟨O9.own.mono (Nat.zero_le _), hn9⟩).mono ?_
  rintro e w12 ⟨v10, rfl, hv10, hb12⟩
  simp only [El.val, El.cells]
  have h1c := hv10.oneCell
  have n610 := lt_ne O6.own hv10 (Nat.le_refl _)
  have n108 := gt_ne hv10 O8.own (Nat.le_refl _)
  have n109 := gt_ne hv10 O9.own (Nat.le_refl _)
  go_upto_region 12 with (refine store_el rfl _ _ rfl _ rfl _ rfl rfl (el_all h1c) _ _ (Blk.newAt _ _ _ rfl) rfl ?_; intro wq hq hoq)
  have O10 := Has.new (x := R.1) hv10 hq hoq
  have hb89 := hb12.trans ((new_below hoq).mono hb12.size)
  replace O6 := O6.ext hb89
  replace O8 := O8.ext hb89
  replace O9 := O9.ext hb89
  replace hB := hB.trans (hb89.mono (by omega))
  have hs4 := hb89.size
  clear hv10 hb12 hb89 hq hoq h1c
  generalize w12.heap.size = b10 at *
  obtain ⟨w13, rfl⟩ : ∃ z : World, z = wq := ⟨_, rfl⟩
  -- region 12
  go_wp2_with (first | (refine load_el rfl _ rfl _ rfl _ rfl _ O10.blk ?_) | (refine load_el rfl _ rfl _ rfl _ rfl _ O6.blk ?_))
  refine (eqElement_calls R.1 v10 v6 _ _ _ O10.own O6.own (by omega)).mono ?_
  rintro e w14 ⟨rfl, hb14⟩
  replace O6 := O6.ext hb14
  replace O8 := O8.ext hb14
  replace O9 := O9.ext hb14
  replace O10 := O10.ext hb14
  replace hB := hB.trans (hb14.mono (by omega))
  have hs6 := hb14.size
  clear hb14
  have hXr := hX.below hB (by omega)
  have hlx := hlx2.below hB (Nat.le_refl _)
  go_wp2_with fail
  -- region 14
  refine wp_region_old (by kernel_rfl) (fun hS => ?_)
  refine takeA 0 (v := .agg #[.int .i64 x.p, .int .i64 x.c, .int .i64 x.n, v8]) hS ?_ ?_
  · exact fun W hW => held_el hW _ rfl _ rfl _ rfl _ O8.blk rfl
  try simp only [Act.put, List.setIfInBounds_toArray, List.set_cons_zero, List.set_cons_succ]
  refine takeA 1 (v := .agg #[.int .i64 x.p, .int .i64 x.c, .int .i64 x.n, vx]) hS ?_ ?_
  · exact fun W hW => held_lel hW _ rfl _ rfl _ rfl _ hXr rfl
  try simp only [Act.put, List.setIfInBounds_toArray, List.set_cons_zero, List.set_cons_succ]
  refine wpAnyH_ready (rs := [2]) (by decide +kernel) (by simp) (allA 2 (fun K hK => ?_) AllReadyH.nil)
  go_simp
  refine (HTX.out _ (hlx.below hS (Nat.le_refl _))).mono ?_
  rintro e u2 ⟨v2, rfl, hv2, hb⟩
  replace hb := hb
  have hS0 := hS
  replace hS := hS.call hb
  have hvo := O8.own.below hS (Nat.le_refl _)
  simp only [El.val, El.cells]
  refine hK _ _ hS ?_
  clear hK K hb
  try simp only [Act.put, List.setIfInBounds_toArray, List.set_cons_zero, List.set_cons_succ]
  refine wpAnyH_ready (rs := [3]) (by decide +kernel) (by simp) (allA 3 (fun K hK => ?_) AllReadyH.nil)
  go_simp
  refine (eqElement_calls x _ _ _ _ _ hvo hv2.1 (by omega)).mono ?_
  rintro e u3 ⟨rfl, hb⟩
  replace hS := hS.call hb
  refine hK _ _ hS ?_
  clear hK K hb
  try simp only [Act.put, List.setIfInBounds_toArray, List.set_cons_zero, List.set_cons_succ]
  refine takeA 4 (v := ?_) hS ?_ ?_
  rotate_left
  focus (intro W hW; go_simp; first | done | with_reducible rfl)
  try simp only [Act.put, List.setIfInBounds_toArray, List.set_cons_zero, List.set_cons_succ]
  refine wpAnyH_done (by decide +kernel) ?_ _
  

  replace O6 := O6.below hS (Nat.le_refl _)
  replace O8 := O8.below hS (Nat.le_refl _)
  replace O9 := O9.below hS (Nat.le_refl _)
  replace O10 := O10.below hS (Nat.le_refl _)
  replace hB := hB.trans (Below.mono hS (by omega))
  have hs7 := Below.size hS
  clear hS hXr hlx hv2 hvo hS0
  obtain ⟨w15, rfl⟩ : ∃ z : World, z = u3 := ⟨_, rfl⟩
  have hYr := hY.below hB (by omega)
  have hly := hly2.below hB (Nat.le_refl _)
  go_wp2_with fail
  -- region 16
  refine wp_region_old (by kernel_rfl) (fun hS => ?_)
  refine takeA 0 (v := .agg #[.int .i64 y.p, .int .i64 y.c, .int .i64 y.n, v9]) hS ?_ ?_
  · exact fun W hW => held_el hW _ rfl _ rfl _ rfl _ O9.blk rfl
  try simp only [Act.put, List.setIfInBounds_toArray, List.set_cons_zero, List.set_cons_succ]
  refine takeA 1 (v := .agg #[.int .i64 y.p, .int .i64 y.c, .int .i64 y.n, vy]) hS ?_ ?_
  · exact fun W hW => held_lel hW _ rfl _ rfl _ rfl _ hYr rfl
  try simp only [Act.put, List.setIfInBounds_toArray, List.set_cons_zero, List.set_cons_succ]
  refine wpAnyH_ready (rs := [2]) (by decide +kernel) (by simp) (allA 2 (fun K hK => ?_) AllReadyH.nil)
  go_simp
  refine (HTY.out _ (hly.below hS (Nat.le_refl _))).mono ?_
  rintro e u2 ⟨v2, rfl, hv2, hb⟩
  replace hb := hb
  have hS0 := hS
  replace hS := hS.call hb
  have hvo := O9.own.below hS (Nat.le_refl _)
  simp only [El.val, El.cells]
  refine hK _ _ hS ?_
  clear hK K hb
  try simp only [Act.put, List.setIfInBounds_toArray, List.set_cons_zero, List.set_cons_succ]
  refine wpAnyH_ready (rs := [3]) (by decide +kernel) (by simp) (allA 3 (fun K hK => ?_) AllReadyH.nil)
  go_simp
  refine (eqElement_calls y _ _ _ _ _ hvo hv2.1 (by omega)).mono ?_
  rintro e u3 ⟨rfl, hb⟩
  replace hS := hS.call hb
  refine hK _ _ hS ?_
  clear hK K hb
  try simp only [Act.put, List.setIfInBounds_toArray, List.set_cons_zero, List.set_cons_succ]
  refine takeA 4 (v := ?_) hS ?_ ?_
  rotate_left
  focus (intro W hW; go_simp; first | done | with_reducible rfl)
  try simp only [Act.put, List.setIfInBounds_toArray, List.set_cons_zero, List.set_cons_succ]
  refine wpAnyH_done (by decide +kernel) ?_ _
  

  replace O6 := O6.below hS (Nat.le_refl _)
  replace O8 := O8.below hS (Nat.le_refl _)
  replace O9 := O9.below hS (Nat.le_refl _)
  replace O10 := O10.below hS (Nat.le_refl _)
  replace hB := hB.trans (Below.mono hS (by omega))
  have hs8 := Below.size hS
  clear hS hYr hly hv2 hvo hS0
  obtain ⟨w17, rfl⟩ : ∃ z : World, z = u3 := ⟨_, rfl⟩
  -- marks of the arguments
  go_wp2_with (refine load_el rfl _ rfl _ rfl _ rfl _ O8.blk ?_)
  refine (markElement_calls x 1 v8 _ _ O8.own (by omega) (by omega) (by omega)).mono ?_
  rintro e w18 ⟨rfl, -, hg8⟩
  replace O6 := O6.grown O8 hg8 n68
  replace O9 := O9.grown O8 hg8 n98
  replace O10 := O10.grown O8 hg8 n108
  replace hB := grown_below hB O8.own hg8 (by omega) (by omega)
  have hs9 := hg8.size
  clear O8 hg8 n68 n98 n108
  go_wp2_with (refine load_el rfl _ rfl _ rfl _ rfl _ O9.blk ?_)
  refine (markElement_calls y _ v9 _ _ O9.own (by omega) (by omega) (by omega)).mono ?_
  rintro e w19 ⟨rfl, -, hg9⟩
  replace O6 := O6.grown O9 hg9 n69
  replace O10 := O10.grown O9 hg9 n109
  replace hB := grown_below hB O9.own hg9 (by omega) (by omega)
  have hs10 := hg9.size
  clear O9 hg9 n69 n109
  -- region 21
  go_wp2_with (first | (refine load_elw _ rfl _ rfl _ rfl _ O10.blk rfl ?_) | (refine load_elw _ rfl _ rfl _ rfl _ O6.blk rfl ?_))
  refine (eqElement_calls R.1 v10 v6 _ _ _ O10.own O6.own (by omega)).mono ?_
  rintro e w20 ⟨rfl, hb20⟩
  replace O6 := O6.ext hb20
  replace O10 := O10.ext hb20
  replace hB := hB.trans (hb20.mono (by omega))
  have hs11 := hb20.size
  clear hb20
  -- the mark of the result
  go_wp2_with (refine load_el rfl _ rfl _ rfl _ rfl _ O10.blk ?_)
  refine (markElement_calls R.1 1 v10 _ _ O10.own (by omega) (by omega) (by omega)).mono ?_
  rintro e w21 ⟨rfl, hm10, hg10⟩
  replace O6 := O6.grown O10 hg10 n610
  have OB : Blk w21 b10 #[.int .i64 R.1.p, .int .i64 R.1.c, .int .i64 R.1.n, v10] 30 := O10.blk.grown hg10 (O10.own.ne_blk O10.blk (by decide))
  replace hB := grown_below hB O10.own hg10 (by omega) (by omega)
  have OM : Has w21 _ b10 R.1 v10 (mks 1 R.1.ts.length) := ⟨OB, hm10⟩
  have hs12 := hg10.size
  clear O10 hg10 n610 hm10 OB
  go_wp2_with (refine load_el rfl _ rfl _ rfl _ rfl _ OM.blk ?_)
  refine (heldElement_calls R.1 _ 1 v10 _ _ OM.own (by omega) (by omega) (by omega)).mono ?_
  rintro e w22 ⟨rfl, hb22⟩
  replace O6 := O6.ext hb22
  replace OM := OM.ext hb22
  replace hB := hB.trans (hb22.mono (by omega))
  have hs13 := hb22.size
  clear hb22
  go_wp2_with fail
  -- region 31
  obtain ⟨wr, rfl⟩ : ∃ z : World, z = w22 := ⟨_, rfl⟩
  have hXr := hX.below hB (by omega)
  have hYr := hY.below hB (by omega)
  have hlx := hlx2.below hB (Nat.le_refl _)
  have hly := hly2.below hB (Nat.le_refl _)
  go_cut [15, 16] from 94 to 101 (fun v6 v7 wx => ∃ (b6 : Nat) (v4 : Value), v6 = .pointer (some ⟨b6, 0, none⟩) ∧ v7 = .int .i64 R.2 ∧ Has wx wr.heap.size b6 R.1 v4 R.1.ts ∧ Below wr.heap.size wr wx)
  case first =>
    refine wp_region_old (by kernel_rfl) (fun hS => ?_)
    refine takeA 0 (v := .agg #[.int .i64 x.p, .int .i64 x.c, .int .i64 x.n, vx]) hS ?_ ?_
    · exact fun W hW => held_lel hW _ rfl _ rfl _ rfl _ hXr rfl
    try simp only [Act.put, List.setIfInBounds_toArray, List.set_cons_zero, List.set_cons_succ]
    refine takeA 2 (v := .agg #[.int .i64 y.p, .int .i64 y.c, .int .i64 y.n, vy]) hS ?_ ?_
    · exact fun W hW => held_lel hW _ rfl _ rfl _ rfl _ hYr rfl
    try simp only [Act.put, List.setIfInBounds_toArray, List.set_cons_zero, List.set_cons_succ]
    refine wpAnyH_ready (rs := [1, 8]) (by decide +kernel) (by simp) (allA 1 (fun K hK => ?_) (allA 8 (fun K hK => ?_) AllReadyH.nil))
    · go_simp
      refine (HTX.out _ (hlx.below hS (Nat.le_refl _))).mono ?_
      rintro e u1 ⟨v1, rfl, hv1, hb⟩
      try replace hv3 := hv3.below hb (Nat.le_refl _)
      try replace h8 := h8.below hb h8.lt
      replace hv1 := hv1.mono (Nat.zero_le _)
      replace hS := hS.call hb
      refine hK _ _ hS ?_
      clear hK K hb
      try simp only [Act.put, List.setIfInBounds_toArray, List.set_cons_zero, List.set_cons_succ]
      refine wpAnyH_ready (rs := [3, 8]) (by decide +kernel) (by simp) (allA 3 (fun K hK => ?_) (allA 8 (fun K hK => ?_) AllReadyH.nil))
      · go_simp
        refine (HTY.out _ (hly.below hS (Nat.le_refl _))).mono ?_
        rintro e u3 ⟨v3, rfl, hv3, hb⟩
        try replace hv1 := hv1.below hb (Nat.le_refl _)
        try replace h8 := h8.below hb h8.lt
        replace hv3 := hv3.mono (Nat.zero_le _)
        replace hS := hS.call hb
        refine hK _ _ hS ?_
        clear hK K hb
        try simp only [Act.put, List.setIfInBounds_toArray, List.set_cons_zero, List.set_cons_succ]
        refine wpAnyH_ready (rs := [4, 8]) (by decide +kernel) (by simp) (allA 4 (fun K hK => ?_) (allA 8 (fun K hK => ?_) AllReadyH.nil))
        · go_simp
          refine (HI.out _ _ _ hv1 hv3).mono ?_
          rintro e u4 ⟨v4, rfl, hv4, hb⟩
          try replace h8 := h8.below hb h8.lt
          simp only [El.val, El.cells]
          have h1c := hv4.oneCell
          replace hv4 := hv4.mono hS.size
          replace hS := hS.call hb
          refine hK _ _ hS ?_
          clear hK K hb hv1 hv3
          try simp only [Act.put, List.setIfInBounds_toArray, List.set_cons_zero, List.set_cons_succ]
          refine takeA 5 (v := ?_) hS ?_ ?_
          rotate_left
          focus (intro W hW; go_simp; first | done | with_reducible rfl)
          try simp only [Act.put, List.setIfInBounds_toArray, List.set_cons_zero, List.set_cons_succ]
          refine takeA 6 (v := ?_) hS ?_ ?_
          rotate_left
          focus (intro W hW; go_simp; first | done | with_reducible rfl)
          try simp only [Act.put, List.setIfInBounds_toArray, List.set_cons_zero, List.set_cons_succ]
          refine takeA 7 (v := ?_) hS ?_ ?_
          rotate_left
          focus (intro W hW; go_simp; first | done | with_reducible rfl)
          try simp only [Act.put, List.setIfInBounds_toArray, List.set_cons_zero, List.set_cons_succ]
          refine wpAnyH_ready (rs := [8]) (by decide +kernel) (by simp) (allA 8 (fun K hK => ?_) AllReadyH.nil)
          have h8 := Blk.new (u4) #[.int .i64 0, .int .i64 0, .int .i64 0, .slice none 0 0] 30
          have hz8 := hS.size
          go_simp
          try replace hv1 := hv1.alloc (.cells #[.int .i64 0, .int .i64 0, .int .i64 0, .slice none 0 0] 30)
          try replace hv3 := hv3.alloc (.cells #[.int .i64 0, .int .i64 0, .int .i64 0, .slice none 0 0] 30)
          try replace hv4 := hv4.alloc' (.cells #[.int .i64 0, .int .i64 0, .int .i64 0, .slice none 0 0] 30)
          replace hS := hS.alloc (.cells #[.int .i64 0, .int .i64 0, .int .i64 0, .slice none 0 0] 30)
          refine hK _ _ hS ?_
          clear hK K
          try simp only [Act.put, List.setIfInBounds_toArray, List.set_cons_zero, List.set_cons_succ]
          refine wpAnyH_ready (rs := [9]) (by decide +kernel) (by simp) (allA 9 (fun K hK => ?_) AllReadyH.nil)
          refine wp_store_el _ _ rfl _ rfl _ rfl rfl (el_all h1c) _ _ h8 rfl ?_
          intro u9 h9 ho9
          replace hv4 := hv4.only ho9 (hv4.ne_blk h8 (by decide))
          replace hS := hS.only ho9 (by first | exact hz8 | omega)
          refine hK _ _ hS ?_
          clear hK K
          try simp only [Act.put, List.setIfInBounds_toArray, List.set_cons_zero, List.set_cons_succ]
          refine takeA 10 (v := ?_) hS ?_ ?_
          rotate_left
          focus (intro W hW; go_simp; first | done | with_reducible rfl)
          try simp only [Act.put, List.setIfInBounds_toArray, List.set_cons_zero, List.set_cons_succ]
          refine wpAnyH_done (by decide +kernel) ?_ _
          go_wp2_with fail
          go_meet
          case rel => exact ⟨_, v4, rfl, rfl, ⟨h9, hv4⟩, hS⟩
        · have h8 := Blk.new (u3) #[.int .i64 0, .int .i64 0, .int .i64 0, .slice none 0 0] 30
          have hz8 := hS.size
          go_simp
          try replace hv1 := hv1.alloc (.cells #[.int .i64 0, .int .i64 0, .int .i64 0, .slice none 0 0] 30)
          try replace hv3 := hv3.alloc (.cells #[.int .i64 0, .int .i64 0, .int .i64 0, .slice none 0 0] 30)
          try replace hv4 := hv4.alloc' (.cells #[.int .i64 0, .int .i64 0, .int .i64 0, .slice none 0 0] 30)
          replace hS := hS.alloc (.cells #[.int .i64 0, .int .i64 0, .int .i64 0, .slice none 0 0] 30)
          refine hK _ _ hS ?_
          clear hK K
          try simp only [Act.put, List.setIfInBounds_toArray, List.set_cons_zero, List.set_cons_succ]
          refine wpAnyH_ready (rs := [4]) (by decide +kernel) (by simp) (allA 4 (fun K hK => ?_) AllReadyH.nil)
          go_simp
          refine (HI.out _ _ _ hv1 hv3).mono ?_
          rintro e u4 ⟨v4, rfl, hv4, hb⟩
          try replace h8 := h8.below hb h8.lt
          simp only [El.val, El.cells]
          have h1c := hv4.oneCell
          replace hv4 := hv4.mono hS.size
          replace hS := hS.call hb
          refine hK _ _ hS ?_
          clear hK K hb hv1 hv3
          try simp only [Act.put, List.setIfInBounds_toArray, List.set_cons_zero, List.set_cons_succ]
          refine takeA 5 (v := ?_) hS ?_ ?_
          rotate_left
          focus (intro W hW; go_simp; first | done | with_reducible rfl)
          try simp only [Act.put, List.setIfInBounds_toArray, List.set_cons_zero, List.set_cons_succ]
          refine takeA 6 (v := ?_) hS ?_ ?_
          rotate_left
          focus (intro W hW; go_simp; first | done | with_reducible rfl)
          try simp only [Act.put, List.setIfInBounds_toArray, List.set_cons_zero, List.set_cons_succ]
          refine takeA 7 (v := ?_) hS ?_ ?_
          rotate_left
          focus (intro W hW; go_simp; first | done | with_reducible rfl)
          try simp only [Act.put, List.setIfInBounds_toArray, List.set_cons_zero, List.set_cons_succ]
          refine wpAnyH_ready (rs := [9]) (by decide +kernel) (by simp) (allA 9 (fun K hK => ?_) AllReadyH.nil)
          refine wp_store_el _ _ rfl _ rfl _ rfl rfl (el_all h1c) _ _ h8 rfl ?_
          intro u9 h9 ho9
          replace hv4 := hv4.only ho9 (hv4.ne_blk h8 (by decide))
          replace hS := hS.only ho9 (by first | exact hz8 | omega)
          refine hK _ _ hS ?_
          clear hK K
          try simp only [Act.put, List.setIfInBounds_toArray, List.set_cons_zero, List.set_cons_succ]
          refine takeA 10 (v := ?_) hS ?_ ?_
          rotate_left
          focus (intro W hW; go_simp; first | done | with_reducible rfl)
          try simp only [Act.put, List.setIfInBounds_toArray, List.set_cons_zero, List.set_cons_succ]
          refine wpAnyH_done (by decide +kernel) ?_ _
          go_wp2_with fail
          go_meet
          case rel => exact ⟨_, v4, rfl, rfl, ⟨h9, hv4⟩, hS⟩
      · have h8 := Blk.new (u1) #[.int .i64 0, .int .i64 0, .int .i64 0, .slice none 0 0] 30
        have hz8 := hS.size
        go_simp
        try replace hv1 := hv1.alloc (.cells #[.int .i64 0, .int .i64 0, .int .i64 0, .slice none 0 0] 30)
        try replace hv3 := hv3.alloc (.cells #[.int .i64 0, .int .i64 0, .int .i64 0, .slice none 0 0] 30)
        try replace hv4 := hv4.alloc' (.cells #[.int .i64 0, .int .i64 0, .int .i64 0, .slice none 0 0] 30)
        replace hS := hS.alloc (.cells #[.int .i64 0, .int .i64 0, .int .i64 0, .slice none 0 0] 30)
        refine hK _ _ hS ?_
        clear hK K
        try simp only [Act.put, List.setIfInBounds_toArray, List.set_cons_zero, List.set_cons_succ]
        refine wpAnyH_ready (rs := [3]) (by decide +kernel) (by simp) (allA 3 (fun K hK => ?_) AllReadyH.nil)
        go_simp
        refine (HTY.out _ (hly.below hS (Nat.le_refl _))).mono ?_
        rintro e u3 ⟨v3, rfl, hv3, hb⟩
        try replace hv1 := hv1.below hb (Nat.le_refl _)
        try replace h8 := h8.below hb h8.lt
        replace hv3 := hv3.mono (Nat.zero_le _)
        replace hS := hS.call hb
        refine hK _ _ hS ?_
        clear hK K hb
        try simp only [Act.put, List.setIfInBounds_toArray, List.set_cons_zero, List.set_cons_succ]
        refine wpAnyH_ready (rs := [4]) (by decide +kernel) (by simp) (allA 4 (fun K hK => ?_) AllReadyH.nil)
        go_simp
        refine (HI.out _ _ _ hv1 hv3).mono ?_
        rintro e u4 ⟨v4, rfl, hv4, hb⟩
        try replace h8 := h8.below hb h8.lt
        simp only [El.val, El.cells]
        have h1c := hv4.oneCell
        replace hv4 := hv4.mono hS.size
        replace hS := hS.call hb
        refine hK _ _ hS ?_
        clear hK K hb hv1 hv3
        try simp only [Act.put, List.setIfInBounds_toArray, List.set_cons_zero, List.set_cons_succ]
        refine takeA 5 (v := ?_) hS ?_ ?_
        rotate_left
        focus (intro W hW; go_simp; first | done | with_reducible rfl)
        try simp only [Act.put, List.setIfInBounds_toArray, List.set_cons_zero, List.set_cons_succ]
        refine takeA 6 (v := ?_) hS ?_ ?_
        rotate_left
        focus (intro W hW; go_simp; first | done | with_reducible rfl)
        try simp only [Act.put, List.setIfInBounds_toArray, List.set_cons_zero, List.set_cons_succ]
        refine takeA 7 (v := ?_) hS ?_ ?_
        rotate_left
        focus (intro W hW; go_simp; first | done | with_reducible rfl)
        try simp only [Act.put, List.setIfInBounds_toArray, List.set_cons_zero, List.set_cons_succ]
        refine wpAnyH_ready (rs := [9]) (by decide +kernel) (by simp) (allA 9 (fun K hK => ?_) AllReadyH.nil)
        refine wp_store_el _ _ rfl _ rfl _ rfl rfl (el_all h1c) _ _ h8 rfl ?_
        intro u9 h9 ho9
        replace hv4 := hv4.only ho9 (hv4.ne_blk h8 (by decide))
        replace hS := hS.only ho9 (by first | exact hz8 | omega)
        refine hK _ _ hS ?_
        clear hK K
        try simp only [Act.put, List.setIfInBounds_toArray, List.set_cons_zero, List.set_cons_succ]
        refine takeA 10 (v := ?_) hS ?_ ?_
        rotate_left
        focus (intro W hW; go_simp; first | done | with_reducible rfl)
        try simp only [Act.put, List.setIfInBounds_toArray, List.set_cons_zero, List.set_cons_succ]
        refine wpAnyH_done (by decide +kernel) ?_ _
        go_wp2_with fail
        go_meet
        case rel => exact ⟨_, v4, rfl, rfl, ⟨h9, hv4⟩, hS⟩
    · have h8 := Blk.new (wr.drew) #[.int .i64 0, .int .i64 0, .int .i64 0, .slice none 0 0] 30
      have hz8 := hS.size
      go_simp
      try replace hv1 := hv1.alloc (.cells #[.int .i64 0, .int .i64 0, .int .i64 0, .slice none 0 0] 30)
      try replace hv3 := hv3.alloc (.cells #[.int .i64 0, .int .i64 0, .int .i64 0, .slice none 0 0] 30)
      try replace hv4 := hv4.alloc' (.cells #[.int .i64 0, .int .i64 0, .int .i64 0, .slice none 0 0] 30)
      replace hS := hS.alloc (.cells #[.int .i64 0, .int .i64 0, .int .i64 0, .slice none 0 0] 30)
      refine hK _ _ hS ?_
      clear hK K
      try simp only [Act.put, List.setIfInBounds_toArray, List.set_cons_zero, List.set_cons_succ]
      refine wpAnyH_ready (rs := [1]) (by decide +kernel) (by simp) (allA 1 (fun K hK => ?_) AllReadyH.nil)
      go_simp
      refine (HTX.out _ (hlx.below hS (Nat.le_refl _))).mono ?_
      rintro e u1 ⟨v1, rfl, hv1, hb⟩
      try replace hv3 := hv3.below hb (Nat.le_refl _)
      try replace h8 := h8.below hb h8.lt
      replace hv1 := hv1.mono (Nat.zero_le _)
      replace hS := hS.call hb
      refine hK _ _ hS ?_
      clear hK K hb
      try simp only [Act.put, List.setIfInBounds_toArray, List.set_cons_zero, List.set_cons_succ]
      refine wpAnyH_ready (rs := [3]) (by decide +kernel) (by simp) (allA 3 (fun K hK => ?_) AllReadyH.nil)
      go_simp
      refine (HTY.out _ (hly.below hS (Nat.le_refl _))).mono ?_
      rintro e u3 ⟨v3, rfl, hv3, hb⟩
      try replace hv1 := hv1.below hb (Nat.le_refl _)
      try replace h8 := h8.below hb h8.lt
      replace hv3 := hv3.mono (Nat.zero_le _)
      replace hS := hS.call hb
      refine hK _ _ hS ?_
      clear hK K hb
      try simp only [Act.put, List.setIfInBounds_toArray, List.set_cons_zero, List.set_cons_succ]
      refine wpAnyH_ready (rs := [4]) (by decide +kernel) (by simp) (allA 4 (fun K hK => ?_) AllReadyH.nil)
      go_simp
      refine (HI.out _ _ _ hv1 hv3).mono ?_
      rintro e u4 ⟨v4, rfl, hv4, hb⟩
      try replace h8 := h8.below hb h8.lt
      simp only [El.val, El.cells]
      have h1c := hv4.oneCell
      replace hv4 := hv4.mono hS.size
      replace hS := hS.call hb
      refine hK _ _ hS ?_
      clear hK K hb hv1 hv3
      try simp only [Act.put, List.setIfInBounds_toArray, List.set_cons_zero, List.set_cons_succ]
      refine takeA 5 (v := ?_) hS ?_ ?_
      rotate_left
      focus (intro W hW; go_simp; first | done | with_reducible rfl)
      try simp only [Act.put, List.setIfInBounds_toArray, List.set_cons_zero, List.set_cons_succ]
      refine takeA 6 (v := ?_) hS ?_ ?_
      rotate_left
      focus (intro W hW; go_simp; first | done | with_reducible rfl)
      try simp only [Act.put, List.setIfInBounds_toArray, List.set_cons_zero, List.set_cons_succ]
      refine takeA 7 (v := ?_) hS ?_ ?_
      rotate_left
      focus (intro W hW; go_simp; first | done | with_reducible rfl)
      try simp only [Act.put, List.setIfInBounds_toArray, List.set_cons_zero, List.set_cons_succ]
      refine wpAnyH_ready (rs := [9]) (by decide +kernel) (by simp) (allA 9 (fun K hK => ?_) AllReadyH.nil)
      refine wp_store_el _ _ rfl _ rfl _ rfl rfl (el_all h1c) _ _ h8 rfl ?_
      intro u9 h9 ho9
      replace hv4 := hv4.only ho9 (hv4.ne_blk h8 (by decide))
      replace hS := hS.only ho9 (by first | exact hz8 | omega)
      refine hK _ _ hS ?_
      clear hK K
      try simp only [Act.put, List.setIfInBounds_toArray, List.set_cons_zero, List.set_cons_succ]
      refine takeA 10 (v := ?_) hS ?_ ?_
      rotate_left
      focus (intro W hW; go_simp; first | done | with_reducible rfl)
      try simp only [Act.put, List.setIfInBounds_toArray, List.set_cons_zero, List.set_cons_succ]
      refine wpAnyH_done (by decide +kernel) ?_ _
      go_wp2_with fail
      go_meet
      case rel => exact ⟨_, v4, rfl, rfl, ⟨h9, hv4⟩, hS⟩

  case rest =>
  obtain ⟨b15, v15, rfl, rfl, O15, hb23⟩ := hcut
  replace O6 := O6.ext hb23
  replace OM := OM.ext hb23
  replace hB := hB.trans (hb23.mono (by omega))
  have hs14 := hb23.size
  clear hb23 hXr hYr hlx hly
  go_wp2_with (first | (refine load_el rfl _ rfl _ rfl _ rfl _ O15.blk ?_) | (refine load_el rfl _ rfl _ rfl _ rfl _ O6.blk ?_))
  refine (eqElement_calls R.1 v15 v6 _ _ _ O15.own O6.own (by omega)).mono ?_
  rintro e w24 ⟨rfl, hb24⟩
  replace OM := OM.ext hb24
  replace hB := hB.trans (hb24.mono (by omega))
  have hs15 := hb24.size
  clear hb24 O15 O6
  go_wp2_with (refine load_el rfl _ rfl _ rfl _ rfl _ OM.blk ?_)
  refine (heldElement_calls R.1 _ 1 v10 _ _ OM.own (by omega) (by omega) (by omega)).mono ?_
  rintro e w25 ⟨rfl, hb25⟩
  replace hB := hB.trans (hb25.mono (by omega))
  go_wp2_with fail
  go_ret
  exact ⟨rfl, hbl.trans (hB.mono (by omega))⟩
end Go.Proofs.Yticmlgnolbccjaa
