/- The walk of the reference's product of two elements. -/
import Derived.Test.YticmlgnolbccjaaQ5
import Derived.Test.YticmlgnolbccjaaQ4

set_option linter.unusedVariables false
set_option linter.unusedSimpArgs false
namespace Go.Proofs.Yticmlgnolbccjaa
open Go.RowKit

theorem TsS.ne_blk {w : World} {base b : Nat} {v : Value} {ts : List Tm} {cs : Array Value} {T : TypeId} (h : TsS w base v ts) (hb : Blk w b cs T) (hT : T ≠ 57) : some b ≠ v.ownBlock := by
  intro he
  rcases h.1.2 with ⟨h1, _⟩ | ⟨g, cap, cur, rfl, _, hg, _⟩
  · exact h.2 h1
  · have e : b = g := Option.some.inj he
    subst e
    have hb' : w.heap[b]? = some (.cells cs T (0, 0)) := hb
    rw [hb'] at hg
    simp only [Option.some.injEq, Obj.cells.injEq] at hg
    exact hT hg.2.1

theorem But.ext {w w1 w2 : World} {l : List Nat} (h : But w w1 l) (k : Below w1.heap.size w1 w2) : But w w2 l :=
  h.trans ⟨k.os, k.tape, k.output, k.size, fun b hb _ => k.block b hb⟩

/-- The product of two diagrams of the reference, as it is met. -/
theorem specMul_calls (d e : Dg) (n : Nat) (hd : Good d) (he : Good e) (hds : d.size = n) (hes : e.size = n) (w : World) :
    Calls Try.prog 86 #[.agg d.cells, .agg e.cells] w fun ee w' => ee = .returned (.tuple #[.agg (prodD d e n).cells, .int .i64 (prodL d e n : Nat)]) ∧ Below w.heap.size w w' := by
  have h1 := hd.ok.1
  have H := two_of_good hd he hds hes
  rw [← sloop_eq H (by omega)]
  exact specTimes_calls d e n (by omega) (by omega) hds hes hd.pts he.pts (runs H (by omega)) (sruns H (by omega)) w
theorem implMul_calls (d e : Dg) (n : Nat) (hd : Good d) (he : Good e) (hds : d.size = n) (hes : e.size = n) (w : World) :
    Calls Try.prog 92 #[.agg d.cells, .agg e.cells] w fun ee w' => ee = .returned (.tuple #[.agg (prodD d e n).cells, .int .i64 (prodL d e n : Nat)]) ∧ Below w.heap.size w w' := by
  have h1 := hd.ok.1
  have H := two_of_good hd he hds hes
  exact implTimes_calls d e n (by omega) (by omega) hds hes hd.pts he.pts (runs H (by omega)) w

set_option maxHeartbeats 1000000 in
set_option maxRecDepth 100000 in
theorem specMulT_calls (p c : Int) (n : Nat) (ts us : List Tm) (hp : 2 ≤ p) (hp97 : p ≤ 97) (hc0 : 0 ≤ c) (hcp : c ≤ p) (hn1 : 1 ≤ n) (hn8 : n ≤ 8) (hts : Nf p n ts) (hus : Nf p n us) (hlt : ts.length ≤ 300) (hlu : us.length ≤ 300)
    (vx vy : Value) (w : World) (hx : TsS w 0 vx ts) (hy : TsS w 0 vy us) :
    Calls Try.prog 41 #[el p c n vx, el p c n vy] w fun e w' => ∃ v, e = .returned (el p c n v) ∧ TsS w' w.heap.size v (mulT p c n ts us) ∧ Below w.heap.size w w' := by
  obtain ⟨g1, cap1, rfl, -, hg1, hc1, hm1, hr1⟩ := hx.out
  obtain ⟨g2, cap2, rfl, -, hg2, hc2, hm2, hr2⟩ := hy.out
  have Hts := Lib.hid hts
  have Hus := Lib.hid hus
  clear hts hus hx hy
  unfold el
  go_enter Try.func41, Try.ntmps41
  have hE := specEmpty_calls p c n (.slice (some ⟨g1, 0, none⟩) ts.length cap1) (((w.alloc (.cells #[.int .i64 p, .int .i64 c, .int .i64 n, .slice (some ⟨g1, 0, none⟩) ts.length cap1] 30)).alloc (.cells #[.int .i64 p, .int .i64 c, .int .i64 n, .slice (some ⟨g2, 0, none⟩) us.length cap2] 30)).alloc (.cells #[.int .i64 0, .int .i64 0, .int .i64 0, .slice none 0 0] 30))
  unfold el at hE
  go_wp2_with (go_at_call 38; refine hE.mono ?_; rintro e w1 ⟨v0, rfl, hv0, hb0⟩; obtain ⟨g0, cap0, rfl, hg0, -, -, -, -⟩ := hv0.out)
  have hX := ((Blk.new w #[.int .i64 p, .int .i64 c, .int .i64 n, .slice (some ⟨g1, 0, none⟩) ts.length cap1] 30).alloc (.cells #[.int .i64 p, .int .i64 c, .int .i64 n, .slice (some ⟨g2, 0, none⟩) us.length cap2] 30)).alloc (.cells #[.int .i64 0, .int .i64 0, .int .i64 0, .slice none 0 0] 30)
  have hY := (Blk.newAt (w.alloc (.cells #[.int .i64 p, .int .i64 c, .int .i64 n, .slice (some ⟨g1, 0, none⟩) ts.length cap1] 30)) #[.int .i64 p, .int .i64 c, .int .i64 n, .slice (some ⟨g2, 0, none⟩) us.length cap2] 30 (b := w.heap.size + 1) (by simp)).alloc (.cells #[.int .i64 0, .int .i64 0, .int .i64 0, .slice none 0 0] 30)
  have hZ := Blk.newAt ((w.alloc (.cells #[.int .i64 p, .int .i64 c, .int .i64 n, .slice (some ⟨g1, 0, none⟩) ts.length cap1] 30)).alloc (.cells #[.int .i64 p, .int .i64 c, .int .i64 n, .slice (some ⟨g2, 0, none⟩) us.length cap2] 30)) #[.int .i64 0, .int .i64 0, .int .i64 0, .slice none 0 0] 30 (b := w.heap.size + 1 + 1) (by simp)
  have hbl := (((Below.refl w.heap.size w).alloc (Nat.le_refl _) (.cells #[.int .i64 p, .int .i64 c, .int .i64 n, .slice (some ⟨g1, 0, none⟩) ts.length cap1] 30)).alloc (by simp) (.cells #[.int .i64 p, .int .i64 c, .int .i64 n, .slice (some ⟨g2, 0, none⟩) us.length cap2] 30)).alloc (by simp; omega) (.cells #[.int .i64 0, .int .i64 0, .int .i64 0, .slice none 0 0] 30)
  have hz : (((w.alloc (.cells #[.int .i64 p, .int .i64 c, .int .i64 n, .slice (some ⟨g1, 0, none⟩) ts.length cap1] 30)).alloc (.cells #[.int .i64 p, .int .i64 c, .int .i64 n, .slice (some ⟨g2, 0, none⟩) us.length cap2] 30)).alloc (.cells #[.int .i64 0, .int .i64 0, .int .i64 0, .slice none 0 0] 30)).heap.size = w.heap.size + 3 := by simp
  replace hX := (hX.below hb0 hX.lt).alloc (.cells #[.int .i64 p, .int .i64 c, .int .i64 n, .slice (some ⟨g0, 0, none⟩) ([] : List Tm).length cap0] 30)
  replace hY := (hY.below hb0 hY.lt).alloc (.cells #[.int .i64 p, .int .i64 c, .int .i64 n, .slice (some ⟨g0, 0, none⟩) ([] : List Tm).length cap0] 30)
  replace hZ := (hZ.below hb0 hZ.lt).alloc (.cells #[.int .i64 p, .int .i64 c, .int .i64 n, .slice (some ⟨g0, 0, none⟩) ([] : List Tm).length cap0] 30)
  have hO := Blk.new w1 #[.int .i64 p, .int .i64 c, .int .i64 n, .slice (some ⟨g0, 0, none⟩) ([] : List Tm).length cap0] 30
  have hz1 := hb0.size
  rw [hz] at hz1 hg0 hv0
  have hbl2 := (hbl.trans (hb0.mono (by omega))).alloc (by omega) (.cells #[.int .i64 p, .int .i64 c, .int .i64 n, .slice (some ⟨g0, 0, none⟩) ([] : List Tm).length cap0] 30)
  have hv1 := (hv0.mono (base' := w.heap.size) (by omega)).alloc (.cells #[.int .i64 p, .int .i64 c, .int .i64 n, .slice (some ⟨g0, 0, none⟩) ([] : List Tm).length cap0] 30)
  have hr1' := rangeAt_below hr1 hbl2 hg1
  have hr2' := rangeAt_below hr2 hbl2 hg2
  have hz2 : (w1.alloc (.cells #[.int .i64 p, .int .i64 c, .int .i64 n, .slice (some ⟨g0, 0, none⟩) ([] : List Tm).length cap0] 30)).heap.size = w1.heap.size + 1 := by simp
  clear hE hb0 hv0 hbl hz hr1 hr2
  generalize hb5 : w1.heap.size = b5 at *
  generalize w1.alloc (.cells #[.int .i64 p, .int .i64 c, .int .i64 n, .slice (some ⟨g0, 0, none⟩) ([] : List Tm).length cap0] 30) = w2 at *
  clear hb5
  go_loopw [6] (fun i wr => ∃ (j : Nat) (v : Value), j ≤ ts.length ∧ i = .int .i64 j ∧ Blk wr b5 #[.int .i64 p, .int .i64 c, .int .i64 n, v] 30 ∧ TsS wr w.heap.size v (mulTo p c n ts us j) ∧ But w2 wr [b5]) (fun i _ => ts.length - (intOf i).toNat)
  case atStart => exact ⟨0, _, by omega, rfl, hO, hv1, But.refl _ _⟩
  case round =>
    clear hO hv1
    obtain ⟨j, v, hj, rfl, hO, hv, hbut⟩ := hrel
    have hz3 := hbut.size
    have hX3 := hX.but hbut (by simp; omega)
    have hcX := hX3.cells
    have hY3 := hY.but hbut (by simp; omega)
    by_cases hlt : j < ts.length
    · have hT := Hts.out.mem ts[j] (List.getElem_mem hlt)
      obtain ⟨hra0, hrak⟩ := range_term hr1' j ts[j] (List.getElem?_eq_getElem hlt)
      rw [Nat.zero_add] at hra0 hrak
      go_wp2_with fail
      go_loopw [7] (fun k wq => ∃ (m : Nat) (v : Value), m ≤ us.length ∧ k = .int .i64 m ∧ Blk wq b5 #[.int .i64 p, .int .i64 c, .int .i64 n, v] 30 ∧ TsS wq w.heap.size v (mrow p c n (mulTo p c n ts us j) ts[j] us m) ∧ But w2 wq [b5]) (fun k _ => us.length - (intOf k).toNat)
      case atStart => exact ⟨0, v, by omega, rfl, hO, hv, hbut⟩
      case round =>
        clear hO hv hbut hX3 hcX hY3 hz3
        obtain ⟨m, v, hm, rfl, hO, hv, hbut⟩ := hrel
        have hz3 := hbut.size
        have hX3 := hX.but hbut (by simp; omega)
        have hY3 := hY.but hbut (by simp; omega)
        have hcX := hX3.cells
        have hcY := hY3.cells
        have hx3 := hcX 3
        have hy3 := hcY 3
        simp only [List.getElem?_toArray, List.getElem?_cons_succ, List.getElem?_cons_zero] at hx3 hy3
        by_cases hltm : m < us.length
        · have hU := Hus.out.mem us[m] (List.getElem_mem hltm)
          obtain ⟨hrb0, hrbk⟩ := range_term hr2' m us[m] (List.getElem?_eq_getElem hltm)
          rw [Nat.zero_add] at hrb0 hrbk
          have hbz : Below w.heap.size w2 wr := hbut.below (by omega) (by simp; omega)
          have hra := rangeAt_below hra0 hbz (by omega)
          have hrb := rangeAt_below hrb0 hbz (by omega)
          have hgw1 : g1 < wr.heap.size := by omega
          have hgw2 : g2 < wr.heap.size := by omega
          have hLL : prodL ts[j].d us[m].d n ≤ n := loopTo_le ts[j].d us[m].d n n
          have hPW := powm_range p c (prodL ts[j].d us[m].d n) (by omega)
          go_wp2_with fail
          go_cut [8, 9] from 27 to 42 (fun v8 v9 wx => ∃ b8 : Nat, v8 = .pointer (some ⟨b8, 0, none⟩) ∧ v9 = .int .i64 (prodL ts[j].d us[m].d n : Nat) ∧ Blk wx b8 (prodD ts[j].d us[m].d n).cells 47 ∧ wr.heap.size ≤ b8 ∧ Below wr.heap.size wr wx)
          case first =>
            refine wp_region_old (by kernel_rfl) (fun hS => ?_)
            have hz0 : wr.heap.size ≤ wr.drew.heap.size := Nat.le_refl _
            refine takeA 0 (v := ?_) hS ?_ ?_
            rotate_left
            focus (intro W hW; go_simp; first | done | with_reducible rfl)
            try simp only [Act.put, List.setIfInBounds_toArray, List.set_cons_zero, List.set_cons_succ]
            refine takeA 1 (v := ?_) hS ?_ ?_
            rotate_left
            focus (intro W hW; have q1 := hW.cell hx3; have q2 := hW.cell hy3; go_simp; first | done | with_reducible rfl)
            try simp only [Act.put, List.setIfInBounds_toArray, List.set_cons_zero, List.set_cons_succ]
            refine takeA 2 (v := ?_) hS ?_ ?_
            rotate_left
            focus (intro W hW; go_simp; first | done | with_reducible rfl)
            try simp only [Act.put, List.setIfInBounds_toArray, List.set_cons_zero, List.set_cons_succ]
            refine takeA 3 (v := ?_) hS ?_ ?_
            rotate_left
            focus (intro W hW; go_simp; first | done | with_reducible rfl)
            try simp only [Act.put, List.setIfInBounds_toArray, List.set_cons_zero, List.set_cons_succ]
            refine takeA 4 (v := ?_) hS ?_ ?_
            rotate_left
            focus (intro W hW; go_simp; first | done | with_reducible rfl)
            try simp only [Act.put, List.setIfInBounds_toArray, List.set_cons_zero, List.set_cons_succ]
            refine takeA 5 (v := .agg ts[j].d.cells) hS ?_ ?_
            · exact fun W hW => held_dg hW _ rfl _ _ rfl _ hra hgw1 rfl
            try simp only [Act.put, List.setIfInBounds_toArray, List.set_cons_zero, List.set_cons_succ]
            refine takeA 6 (v := ?_) hS ?_ ?_
            rotate_left
            focus (intro W hW; go_simp; first | done | with_reducible rfl)
            try simp only [Act.put, List.setIfInBounds_toArray, List.set_cons_zero, List.set_cons_succ]
            refine takeA 7 (v := ?_) hS ?_ ?_
            rotate_left
            focus (intro W hW; have q1 := hW.cell hx3; have q2 := hW.cell hy3; go_simp; first | done | with_reducible rfl)
            try simp only [Act.put, List.setIfInBounds_toArray, List.set_cons_zero, List.set_cons_succ]
            refine takeA 8 (v := ?_) hS ?_ ?_
            rotate_left
            focus (intro W hW; go_simp; first | done | with_reducible rfl)
            try simp only [Act.put, List.setIfInBounds_toArray, List.set_cons_zero, List.set_cons_succ]
            refine takeA 9 (v := ?_) hS ?_ ?_
            rotate_left
            focus (intro W hW; go_simp; first | done | with_reducible rfl)
            try simp only [Act.put, List.setIfInBounds_toArray, List.set_cons_zero, List.set_cons_succ]
            refine takeA 10 (v := ?_) hS ?_ ?_
            rotate_left
            focus (intro W hW; go_simp; first | done | with_reducible rfl)
            try simp only [Act.put, List.setIfInBounds_toArray, List.set_cons_zero, List.set_cons_succ]
            refine takeA 11 (v := .agg us[m].d.cells) hS ?_ ?_
            · exact fun W hW => held_dg hW _ rfl _ _ rfl _ hrb hgw2 rfl
            try simp only [Act.put, List.setIfInBounds_toArray, List.set_cons_zero, List.set_cons_succ]
            refine wpAnyH_ready (rs := [12, 16]) (by decide +kernel) (by simp) (allA 12 (fun K hK => ?_) (allA 16 (fun K hK => ?_) AllReadyH.nil))
            · go_simp
              refine (specMul_calls ts[j].d us[m].d n hT.1 hU.1 hT.2.1 hU.2.1 _).mono ?_
              rintro e w1 ⟨rfl, hb1⟩
              replace hS := hS.call hb1
              have hz9 := hb1.size
              try replace h8 := h8.below hb1 h8.lt
              refine hK _ _ hS ?_
              clear hK K hb1
              try simp only [Act.put, List.setIfInBounds_toArray, List.set_cons_zero, List.set_cons_succ]
              refine takeA 13 (v := ?_) hS ?_ ?_
              rotate_left
              focus (intro W hW; go_simp; first | done | with_reducible rfl)
              try simp only [Act.put, List.setIfInBounds_toArray, List.set_cons_zero, List.set_cons_succ]
              refine takeA 14 (v := ?_) hS ?_ ?_
              rotate_left
              focus (intro W hW; go_simp; first | done | with_reducible rfl)
              try simp only [Act.put, List.setIfInBounds_toArray, List.set_cons_zero, List.set_cons_succ]
              refine takeA 15 (v := ?_) hS ?_ ?_
              rotate_left
              focus (intro W hW; go_simp; first | done | with_reducible rfl)
              try simp only [Act.put, List.setIfInBounds_toArray, List.set_cons_zero, List.set_cons_succ]
              refine wpAnyH_ready (rs := [16]) (by decide +kernel) (by simp) (allA 16 (fun K hK => ?_) AllReadyH.nil)
              have h8 := Blk.new (w1) (Dg.zero 0).cells 47
              go_simp
              replace hS := hS.alloc (.cells (Dg.zero 0).cells 47)
              refine hK _ _ hS ?_
              clear hK K
              try simp only [Act.put, List.setIfInBounds_toArray, List.set_cons_zero, List.set_cons_succ]
              refine wpAnyH_ready (rs := [17]) (by decide +kernel) (by simp) (allA 17 (fun K hK => ?_) AllReadyH.nil)
              refine wp_store_dg _ _ rfl _ rfl (prodD ts[j].d us[m].d n) rfl _ _ h8 (Dg.size_cells _) ?_
              intro w5 hR5 ho5
              replace hS := hS.only ho5 (by omega)
              refine hK _ _ hS ?_
              clear hK K
              try simp only [Act.put, List.setIfInBounds_toArray, List.set_cons_zero, List.set_cons_succ]
              refine takeA 18 (v := ?_) hS ?_ ?_
              rotate_left
              focus (intro W hW; go_simp; first | done | with_reducible rfl)
              try simp only [Act.put, List.setIfInBounds_toArray, List.set_cons_zero, List.set_cons_succ]
              refine wpAnyH_done (by decide +kernel) ?_ _
              go_wp2_with fail
              go_meet
              case rel => exact ⟨_, rfl, rfl, hR5, by omega, hS⟩
            · have h8 := Blk.new (wr.drew) (Dg.zero 0).cells 47
              go_simp
              replace hS := hS.alloc (.cells (Dg.zero 0).cells 47)
              refine hK _ _ hS ?_
              clear hK K
              try simp only [Act.put, List.setIfInBounds_toArray, List.set_cons_zero, List.set_cons_succ]
              refine wpAnyH_ready (rs := [12]) (by decide +kernel) (by simp) (allA 12 (fun K hK => ?_) AllReadyH.nil)
              go_simp
              refine (specMul_calls ts[j].d us[m].d n hT.1 hU.1 hT.2.1 hU.2.1 _).mono ?_
              rintro e w1 ⟨rfl, hb1⟩
              replace hS := hS.call hb1
              have hz9 := hb1.size
              try replace h8 := h8.below hb1 h8.lt
              refine hK _ _ hS ?_
              clear hK K hb1
              try simp only [Act.put, List.setIfInBounds_toArray, List.set_cons_zero, List.set_cons_succ]
              refine takeA 13 (v := ?_) hS ?_ ?_
              rotate_left
              focus (intro W hW; go_simp; first | done | with_reducible rfl)
              try simp only [Act.put, List.setIfInBounds_toArray, List.set_cons_zero, List.set_cons_succ]
              refine takeA 14 (v := ?_) hS ?_ ?_
              rotate_left
              focus (intro W hW; go_simp; first | done | with_reducible rfl)
              try simp only [Act.put, List.setIfInBounds_toArray, List.set_cons_zero, List.set_cons_succ]
              refine takeA 15 (v := ?_) hS ?_ ?_
              rotate_left
              focus (intro W hW; go_simp; first | done | with_reducible rfl)
              try simp only [Act.put, List.setIfInBounds_toArray, List.set_cons_zero, List.set_cons_succ]
              refine wpAnyH_ready (rs := [17]) (by decide +kernel) (by simp) (allA 17 (fun K hK => ?_) AllReadyH.nil)
              refine wp_store_dg _ _ rfl _ rfl (prodD ts[j].d us[m].d n) rfl _ _ h8 (Dg.size_cells _) ?_
              intro w5 hR5 ho5
              replace hS := hS.only ho5 (by omega)
              refine hK _ _ hS ?_
              clear hK K
              try simp only [Act.put, List.setIfInBounds_toArray, List.set_cons_zero, List.set_cons_succ]
              refine takeA 18 (v := ?_) hS ?_ ?_
              rotate_left
              focus (intro W hW; go_simp; first | done | with_reducible rfl)
              try simp only [Act.put, List.setIfInBounds_toArray, List.set_cons_zero, List.set_cons_succ]
              refine wpAnyH_done (by decide +kernel) ?_ _
              go_wp2_with fail
              go_meet
              case rel => exact ⟨_, rfl, rfl, hR5, by omega, hS⟩
          case rest =>
            clear hra hrb hcX hcY hx3 hy3
            obtain ⟨b8, rfl, rfl, h8, hb8, hbc⟩ := hcut
            have hO4 := hO.below hbc hO.lt
            have hv4 := hv.below hbc (Nat.le_refl _)
            have hX4 := hX3.below hbc hX3.lt
            have hY4 := hY3.below hbc hY3.lt
            have hcX4 := hX4.cells
            have hcY4 := hY4.cells
            have hcO4 := hO4.cells
            have hka := (hbc.cell (p := ⟨g1, j * 18 + 17, none⟩) hgw1).trans ((hbz.cell (p := ⟨g1, j * 18 + 17, none⟩) (by omega)).trans hrak)
            have hkb := (hbc.cell (p := ⟨g2, m * 18 + 17, none⟩) hgw2).trans ((hbz.cell (p := ⟨g2, m * 18 + 17, none⟩) (by omega)).trans hrbk)
            have hfO4 := hO4.free
            have hz4 := hbc.size
            have hta := hT.2.2
            have hua := hU.2.2
            have hp0 : (p == 0) = false := beq_eq_false_iff_ne.2 (by omega)
            have hab0 : 0 ≤ ts[j].k * us[m].k := Int.mul_nonneg (by omega) (by omega)
            have hab1 : ts[j].k * us[m].k ≤ 97 * 97 := Int.mul_le_mul (by omega) (by omega) (by omega) (by omega)
            have hq0 := Int.emod_nonneg (ts[j].k * us[m].k) (show p ≠ 0 by omega)
            have hq1 := Int.emod_lt_of_pos (ts[j].k * us[m].k) (show 0 < p by omega)
            have hf0 : 0 ≤ ts[j].k * us[m].k % p * powm p c (prodL ts[j].d us[m].d n) := Int.mul_nonneg (by omega) (by omega)
            have hf1 : ts[j].k * us[m].k % p * powm p c (prodL ts[j].d us[m].d n) ≤ 97 * 97 := Int.mul_le_mul (by omega) (by omega) (by omega) (by omega)
            have hr1 : IntKind.i64.wrap (ts[j].k * us[m].k) = ts[j].k * us[m].k := IntWalk.i64_in _ (by omega)
            have hr2 : (ts[j].k * us[m].k).tmod p = ts[j].k * us[m].k % p := Int.tmod_eq_emod_of_nonneg hab0
            have hr3 : IntKind.i64.wrap (ts[j].k * us[m].k % p * powm p c (prodL ts[j].d us[m].d n)) = ts[j].k * us[m].k % p * powm p c (prodL ts[j].d us[m].d n) := IntWalk.i64_in _ (by omega)
            have hPw := fun W => specPower_calls p c (prodL ts[j].d us[m].d n : Nat) W hp hp97 hc0 hcp (by omega) (by omega)
            simp only [Int.toNat_natCast] at hPw
            have HPw := Lib.hid hPw
            clear hPw
            go_wp2_with fail
            go_quiet ((go_at_call 87; exact Calls.quiet_of_same ((HPw.out _).mono fun e w' ⟨h, h'⟩ => ⟨h, h'.symm⟩)))
            clear hr1 hr2 hr3 HPw
            have hstep : mrow p c n (mulTo p c n ts us j) ts[j] us (m + 1) = put p (mrow p c n (mulTo p c n ts us j) ts[j] us m) (prodD ts[j].d us[m].d n) (ts[j].k * us[m].k % p * powm p c (prodL ts[j].d us[m].d n)) := mrow_succ _ _ _ hltm
            have hnf := mrow_nf (c := c) hp Hus.out (mulTo_nf (c := c) hp Hts.out Hus.out j hj) ⟨hT.1, hT.2.1⟩ m hm
            have hln : (mrow p c n (mulTo p c n ts us j) ts[j] us m).length ≤ 100000 := by
              have h1 := mrow_length (p := p) (c := c) (n := n) (us := us) (mulTo p c n ts us j) ts[j] m hm
              have h2 := mulTo_length (p := p) (c := c) (n := n) (ts := ts) (us := us) j hj
              have h3 : j * us.length ≤ 300 * 300 := Nat.mul_le_mul (by omega) hlu
              omega
            have hgd := prod_good hT.1 hU.1 hT.2.1 hU.2.1
            have hPut := fun (W : World) (hW : TsS W w.heap.size v (mrow p c n (mulTo p c n ts us j) ts[j] us m)) => specPut_calls p n (mrow p c n (mulTo p c n ts us j) ts[j] us m) (prodD ts[j].d us[m].d n) (ts[j].k * us[m].k % p * powm p c (prodL ts[j].d us[m].d n)) hp hp97 hn1 hn8 hnf hgd prodD_size (by omega) (by omega) hln w.heap.size v W hW
            rw [← hstep] at hPut
            have hnb : some b5 ≠ v.ownBlock := hv4.ne_blk hO4 (by decide)
            have hzc : w.heap.size ≤ wc.heap.size := by omega
            have HPut := Lib.hid hPut
            clear hPut hnf hln hgd
            have Hstep := Lib.hid hstep
            clear hstep hT hU hta hua hab0 hab1 hq0 hq1 hf0 hf1
            go_wp2_with (refine load_dg rfl _ rfl _ rfl _ _ h8 ?_)
            refine (HPut.out _ (hv4.drewN _) hzc).mono ?_
            rintro e w6 ⟨v6, rfl, hv6, hb6⟩
            have hO6 := (hO4.drewN nq).below hb6 hO4.lt
            have h1c := hv6.oneCell
            have hv7 := hv6.only (Only.setCell w6 b5 3 v6) (hv6.ne_blk hO6 (by decide))
            have hO7 := hO6.set 3 v6
            have hbut7 := ((hbut.ext hbc).ext (Below.trans (bel_drewN (Below.refl wc.heap.size wc) nq) hb6)).only (Only.setCell w6 b5 3 v6) (.inl (by simp))
            obtain ⟨g6, cap6, rfl, hg6, -, -, -, -⟩ := hv6.out
            have hcO6 := hO6.cells
            have hfO6 := hO6.free
            have Hv7 := Lib.hid hv7
            have HO7 := Lib.hid hO7
            have Hb7 := Lib.hid hbut7
            clear hv7 hO7 hbut7 hO6 hb6 hv6 hO4 hv4 hX4 hY4 hcX4 hcY4 hcO4 hfO4 hnb
            go_wp2_with fail
            go_roundw
            case rel => exact ⟨m + 1, _, by omega, by go_num, HO7.out, Hv7.out, Hb7.out⟩
            case measure => simp [intOf]; omega
        · obtain rfl : m = us.length := by omega
          rw [← mulTo_succ j hlt] at hv
          clear hX3 hY3 hcX hx3
          go_wp2_with fail
          go_roundw
          case rel => exact ⟨j + 1, _, by omega, by go_num, hO, hv, hbut⟩
          case measure => simp [intOf]; omega
    · obtain rfl : j = ts.length := by omega
      have hZ3 := hZ.but hbut (by simp; omega)
      have hbl3 := hbl2.trans (hbut.below (B := w.heap.size) (by omega) (by simp; omega))
      have h1c := hv.oneCell
      go_wp2_with (first | (refine load_el rfl _ rfl _ rfl _ rfl _ hO ?_) | (refine store_el rfl _ _ rfl _ rfl _ rfl rfl (el_all h1c) _ _ hZ3 rfl ?_; intro w9 hZ9 ho9; have hbl9 := hbl3.trans (ho9.below (by omega)); have hv9 := hv.only ho9 (hv.ne_blk hZ3 (by decide))))
      refine ret_el rfl _ rfl _ rfl _ hZ9 rfl ?_
      exact ⟨v, rfl, hv9, hbl9⟩
end Go.Proofs.Yticmlgnolbccjaa
