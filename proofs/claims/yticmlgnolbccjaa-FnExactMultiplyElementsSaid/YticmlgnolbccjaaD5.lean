/- The walks of the functions that read a text of brackets, in the program. -/
import Derived.Test.YticmlgnolbccjaaD3
import Derived.Test.YticmlgnolbccjaaM3
import Derived.Test.YticmlgnolbccjaaB1
import Derived.Test.YticmlgnolbccjaaM4
set_option linter.unusedVariables false
set_option linter.unusedSimpArgs false
namespace Go.Proofs.Yticmlgnolbccjaa
open Go.RowKit

/-- What partners gives: the partners and true, or something and false. -/
def PartsPost (B : Nat) (w w' : World) (cs : List Nat) (e : Ending) : Prop :=
  ∃ v, e = .returned (.tuple #[v, .bool (parts cs).isSome]) ∧ Below B w w' ∧
    ∀ l, parts cs = some l → ∃ b, v = .slice (some ⟨b, 0, none⟩) cs.length cs.length ∧ B ≤ b ∧ Blk w' b (nums l).toArray 3

set_option maxHeartbeats 1000000 in
set_option maxRecDepth 100000 in
theorem implPartners_calls (s : ByteArray) (w : World) (hs : s.size ≤ 1000000) :
    Calls Try.prog 141 #[.string s] w fun e w' => PartsPost w.heap.size w w' (codes s) e := by
  have hcl := codes_length s
  have Hcl := Lib.hid hcl
  clear hcl
  go_enter Try.func141, Try.ntmps141
  go_wp2_with (at_make; refine make_row rowInt rfl _ _ rfl _ _ s.size _ _ rfl rfl rfl rfl (by omega) (by omega) ?_; intro w1 hb1 hg1)
  rw [made_ints] at hb1
  have hz1 := hb1.lt
  go_loopw [5, 14] (fun v i wr => ∃ (k : Nat) (out st : List Nat), k ≤ s.size ∧ i = .int .i64 k ∧ out.length = s.size ∧ st.length ≤ k ∧ (∀ x ∈ st, x < k) ∧ pgo ((codes s).drop k) k out st = parts (codes s) ∧
    Blk wr w.heap.size (nums out).toArray 3 ∧ wr.ownsRow (w.heap.size + 1) 3 1 v st.length (nums st.reverse) ∧ Below w.heap.size w wr) (fun _ i _ => s.size - (intOf i).toNat)
  case atStart =>
    refine ⟨0, List.replicate s.size 0, [], by omega, rfl, by simp, by simp, by simp, ?_, hb1.alloc _, ?_, ((Below.refl _ w).grown hg1 (Nat.le_refl _) (by simp)).alloc (by omega) _⟩
    · simp [parts, Hcl.out]
    · have := World.ownsRow_made (w := w1) (base := w.heap.size + 1) (e := 3) (size := 1) #[] 0 (by omega) (by simp [maxLen]) rfl
      simpa [nums] using this
  case round =>
    clear hb1 hg1 hz1
    obtain ⟨k, out, st, hk, rfl, hol, hsl, hst, hrest, hb, hown, hbel⟩ := hrel
    have hz := hb.lt
    have Hol := Lib.hid hol
    have Hst := Lib.hid hst
    have Hrest := Lib.hid hrest
    clear hol hst hrest
    by_cases hlt : k < s.size
    · have hcs := codes_drop s k hlt
      have Hcs := Lib.hid hcs
      clear hcs
      by_cases h40 : s[k].toNat = 40
      · have hb40 : ((s[k].toNat : Int) == 40) = true := by rw [h40]; rfl
        have H40 := Lib.hid h40
        clear h40
        go_wp2_with (at_builtin; refine append_row rowInt rfl _ _ rfl (w.heap.size + 1) _ st.length _ rfl (hown.alloc _) wr.heap.size 1 1 [.int .i64 k] rfl _ (Blk.newAt _ _ _ rfl) rfl (by intro u hu; simp at hu; subst hu; rfl) (by omega) (by omega) (by simp; omega) ?_; intro v2 w2 ho2 hg2)
        go_roundw
        case rel =>
          refine ⟨k + 1, out, k :: st, by omega, by go_num, Hol.out, by simp; omega, ?_, ?_, (hb.alloc _).grownOwn hg2 (hown.alloc _) (by omega), ?_, bel_grown (hbel.alloc (by omega) _) hg2 (hown.alloc _) (by omega) (by simp; omega)⟩
          · intro x hx
            rcases List.mem_cons.1 hx with rfl | hx
            · omega
            · have := Hst.out x hx; omega
          · rw [← Hrest.out, Hcs.out, pgo_open H40.out]
          · rw [List.reverse_cons, nums_snoc]; exact ho2
        case measure => simp [intOf]; omega
      · have hb40 : ((s[k].toNat : Int) == 40) = false := by simp; omega
        have H40 := Lib.hid h40
        clear h40
        by_cases h41 : s[k].toNat = 41
        · have hb41 : ((s[k].toNat : Int) != 41) = false := by rw [h41]; rfl
          have H41 := Lib.hid h41
          clear h41
          cases st with
          | nil =>
            obtain ⟨ad, cap, rfl⟩ := own_slice hown
            go_wp2
            go_ret2
            exact ⟨_, by rw [← Hrest.out, Hcs.out, pgo_none H41.out]; rfl, hbel, fun l hl => by rw [← Hrest.out, Hcs.out, pgo_none H41.out] at hl; cases hl⟩
          | cons i st =>
            have hik : i < k := Hst.out i (by simp)
            simp only [List.reverse_cons, nums_snoc, List.length_cons] at hown hsl
            obtain ⟨g, cap, rfl, hg1, hg2, hcap, hcap2⟩ := own_pos hown (by omega)
            have hci := own_cell hown st.length (.int .i64 (i : Int)) (by simp [nums])
            have hc := hb.cells
            have hf := hb.free
            have hn1 := nums_get out i (by rw [Hol.out]; omega)
            have hn2 := nums_get out k (by rw [Hol.out]; omega)
            go_wp2
            go_roundw
            case rel =>
              have hpop := Go.ownsRow_pop (xs := nums st.reverse) (last := [.int .i64 (i : Int)]) (by simp [nums]) hown
              have hne : some w.heap.size ≠ Value.ownBlock (.slice (some ⟨g, 0, none⟩) st.length cap) := by simp [Value.ownBlock]; omega
              refine ⟨k + 1, (out.set i k).set k i, st, by omega, by go_num, by simp [Hol.out], by omega, fun x hx => by have := Hst.out x (by simp [hx]); omega, by rw [← Hrest.out, Hcs.out, pgo_close H41.out], ?_, ?_, ?_⟩
              · have := (hb.set i (.int .i64 (k : Int))).set k (.int .i64 (i : Int))
                rwa [nums_set, nums_set] at this
              · exact own_only (own_only hpop (Only.setCell _ _ _ _) hne) (Only.setCell _ _ _ _) hne
              · exact (hbel.setCell (by simp) _).setCell (by simp) _
            case measure => simp [intOf]; omega
        · have hb41 : ((s[k].toNat : Int) != 41) = true := by simp; omega
          have H41 := Lib.hid h41
          clear h41
          go_wp2
          go_ret2
          exact ⟨_, by rw [← Hrest.out, Hcs.out, pgo_bad H40.out H41.out]; rfl, hbel, fun l hl => by rw [← Hrest.out, Hcs.out, pgo_bad H40.out H41.out] at hl; cases hl⟩
    · obtain rfl : k = s.size := by omega
      have hd : (codes s).drop s.size = [] := List.drop_eq_nil_of_le (by rw [Hcl.out]; omega)
      have Hd := Lib.hid hd
      clear hd
      cases st with
      | nil =>
        have hp : parts (codes s) = some out := by rw [← Hrest.out, Hd.out]; rfl
        have Hp := Lib.hid hp
        clear hp
        obtain ⟨ad, cap, rfl⟩ := own_slice hown
        go_wp2
        go_ret2
        refine ⟨.slice (some ⟨w.heap.size, 0, none⟩) s.size s.size, by rw [Hp.out]; simp, hbel, fun l hl => ?_⟩
        rw [Hp.out] at hl
        cases hl
        exact ⟨_, by rw [Hcl.out], Nat.le_refl _, hb⟩
      | cons i st =>
        have hp : parts (codes s) = none := by rw [← Hrest.out, Hd.out]; rfl
        have Hp := Lib.hid hp
        clear hp
        obtain ⟨g, cap, rfl, hg1, hg2, hcap, hcap2⟩ := own_pos hown (by simp)
        simp only [List.length_cons] at hcap
        go_wp2
        go_ret2
        exact ⟨.slice (some ⟨w.heap.size, 0, none⟩) s.size s.size, by rw [Hp.out]; simp; omega, hbel, fun l hl => by rw [Hp.out] at hl; cases hl⟩

set_option maxRecDepth 100000 in
theorem implJoined_calls (n : Int) (l : List Nat) (b : Nat) (T : TypeId) (w : World) (hn1 : 1 ≤ n) (hn8 : n ≤ 8) (hl : (l.length : Int) = 2 * n) (hb : Blk w b (nums l).toArray T) (hx : ∀ x ∈ l, x < l.length) :
    Calls Try.prog 142 #[.int .i64 n, .slice (some ⟨b, 0, none⟩) l.length l.length] w fun e w' => e = .returned (.agg (Dg.joinTo n l l.length).cells) ∧ Below w.heap.size w w' := by
  have hl1 : (l.length : Int) ≤ 2 * n := by omega
  have hl2 : 2 * n ≤ (l.length : Int) := by omega
  have Hx := Lib.hid hx
  have hblt := hb.lt
  clear hl hx
  go_enter Try.func142, Try.ntmps142
  go_wp2_with (refine store_dg rfl _ _ rfl _ rfl (Dg.zero n) rfl _ 47 (Blk.newAt _ _ _ (by simp)) rfl ?_; intro w1 hb1 ho1)
  go_loopw [12] (fun i wr => ∃ k : Nat, k ≤ l.length ∧ i = .int .i64 k ∧ Blk wr (w.heap.size + 1) (Dg.joinTo n l k).cells 47 ∧ Blk wr w.heap.size (Dg.zero 0).cells 47 ∧ Below w.heap.size w wr) (fun i _ => l.length - (intOf i).toNat)
  case atStart => exact ⟨0, by omega, rfl, hb1, ((Blk.new w _ _).alloc _).only ho1 (by omega), (((Below.refl _ w).alloc (Nat.le_refl _) _).alloc (by simp) _).trans (ho1.below (by simp))⟩
  case round =>
    obtain ⟨k, hk, rfl, hb2, hr, hbel⟩ := hrel
    have hz := hb2.lt
    have hbl := hb.below hbel hblt
    by_cases hlt : k < l.length
    · have hxk : l.getD k 0 < l.length := Hx.out _ (by rw [List.getD_eq_getElem?_getD, List.getElem?_eq_getElem hlt]; exact List.getElem_mem hlt)
      have hc := hbl.cells k
      rw [nums_get l k hlt] at hc
      generalize hxe : l.getD k 0 = x at hc hxk
      have Hxe := Lib.hid hxe
      clear hxe
      have hp1 := place_range (n := n) (i := k) (by omega) (by omega)
      have hp2 := place_range (n := n) (i := (x : Int)) (by omega) (by omega)
      have hcc := hb2.cells
      have hff := hb2.free
      have hpn : (place n k).toNat < 16 := by omega
      go_wp2_with (go_at_call 125; refine (implPlace_calls _ _ _ (by omega) (by omega) (by omega) (by omega)).mono ?_; rintro e w' ⟨rfl, rfl⟩)
      go_roundw
      case rel =>
        refine ⟨k + 1, by omega, by go_num, ?_, (hr.other _ _ (by simp)), hbel.setCell (by simp) _⟩
        have := hb2.set (1 + (place n k).toNat) (.int .u8 (place n x))
        rw [Dg.cells_put _ _ _ (Dg.len_joinTo n l k) hpn] at this
        rw [Dg.joinTo_succ, Hxe.out]
        exact this
      case measure => simp [intOf]; omega
    · obtain rfl : k = l.length := by omega
      go_wp2_with (first | (refine load_dg rfl _ rfl _ rfl _ 47 hb2 ?_) | (refine store_dg rfl _ _ rfl _ rfl _ rfl _ 47 hr (Dg.size_cells _) ?_; intro w3 hb3 ho3))
      exact ret_dg rfl _ rfl _ _ hb3 rfl ⟨rfl, hbel.trans (ho3.below (by omega))⟩

set_option maxRecDepth 100000 in
theorem specLess_calls (d e : Dg) (w : World) (hp : d.Pts) (hq : e.Pts) :
    Calls Try.prog 84 #[.agg d.cells, .agg e.cells] w fun r w' => r = .returned (.bool (Op.bytesLess (strOfNums d.txt).toList (strOfNums e.txt).toList)) ∧ Below w.heap.size w w' := by
  have Hp := Lib.hid hp
  have Hq := Lib.hid hq
  clear hp hq
  go_enter Try.func84, Try.ntmps84
  go_wp2
  have h1 := (Blk.new w d.cells 47).alloc (.cells e.cells 47)
  have h2 : Blk ((w.alloc (.cells d.cells 47)).alloc (.cells e.cells 47)) (w.heap.size + 1) e.cells 47 := Blk.newAt _ _ _ (by simp)
  have hbel : Below w.heap.size w ((w.alloc (.cells d.cells 47)).alloc (.cells e.cells 47)) := ((Below.refl _ w).alloc (Nat.le_refl _) _).alloc (by simp) _
  have hz : w.heap.size ≤ ((w.alloc (.cells d.cells 47)).alloc (.cells e.cells 47)).heap.size := by simp; omega
  generalize (w.alloc (.cells d.cells 47)).alloc (.cells e.cells 47) = w2 at *
  have Hbel := Lib.hid hbel
  clear hbel
  refine wp_region_ext (by kernel_rfl) (by kernel_rfl) ?_
  repeat (first | (go_big_quiet_want; refine quiet_load_dg _ rfl _ rfl _ _ h1 ?_; simp only [Act.put, List.setIfInBounds_toArray, List.set_cons_succ, List.set_cons_zero]; go_big_quiet_on) | (go_big_quiet_want; refine quiet_load_dg _ rfl _ rfl _ _ h2 ?_; simp only [Act.put, List.setIfInBounds_toArray, List.set_cons_succ, List.set_cons_zero]; go_big_quiet_on) | go_big_quiet_step ((go_at_call 113; exact ext_call _ (specText_calls _ _ (by first | exact Hp.out | exact Hq.out)))))
  refine wpQuiet_nil ?_
  rintro _ ⟨⟨W, hW⟩, rfl⟩
  go_wp2
  go_ret
  exact ⟨rfl, Hbel.out.trans (hW.mono hz)⟩

/-- What read gives: the diagram with the text and true, or nothing and false. -/
def ReadPost (w w' : World) (r : Option Dg) (e : Ending) : Prop :=
  e = .returned (.tuple #[.agg (r.getD (Dg.zero 0)).cells, .bool r.isSome]) ∧ Below w.heap.size w w'

set_option maxHeartbeats 1000000 in
set_option maxRecDepth 100000 in
theorem implRead_calls (s : ByteArray) (w : World) (hs : s.size ≤ 1000000) :
    Calls Try.prog 115 #[.string s] w fun e w' => ReadPost w w' (readD (codes s)) e := by
  have hcl := codes_length s
  have Hcl := Lib.hid hcl
  clear hcl
  by_cases hodd : s.size % 2 = 0
  · have hb1 : ((s.size : Int) % 2 != 0) = false := by simp; omega
    by_cases hin : 2 ≤ s.size ∧ s.size ≤ 16
    · have hi : inB (s.size : Int) 2 16 = true := inB_true (by omega)
      obtain ⟨hi1, hi2⟩ := hin
      have hrd : readD (codes s) = (parts (codes s)).map fun l => Dg.joinTo (s.size / 2 : Nat) l s.size := by
        unfold readD; rw [Hcl.out, if_pos ⟨hodd, hi1, hi2⟩]
      have Hrd := Lib.hid hrd
      have Hodd := Lib.hid hodd
      clear hrd hodd
      cases hpp : parts (codes s) with
      | none =>
        have hso : (parts (codes s)).isSome = false := by rw [hpp]; rfl
        have Hpp := Lib.hid hpp
        clear hpp
        go_enter Try.func115, Try.ntmps115
        go_wp2_with (first | (refine store_dg rfl _ _ rfl _ rfl (Dg.zero 0) rfl _ 47 ((Blk.new w _ _).below hbel (by simp)) rfl ?_; intro w3 hb3 ho3) | (go_at_call 56; refine (implIn_calls _ _ _ _).mono ?_; rintro e w' ⟨rfl, rfl⟩) | (go_at_call 141; refine (implPartners_calls _ _ hs).mono ?_; rintro e w1 ⟨v, rfl, hbel, hv⟩))
        refine ret_dg_tmp rfl _ rfl _ _ hb3 _ rfl rfl ⟨by rw [Hrd.out, Hpp.out]; rfl, ?_⟩
        exact (((Below.refl _ w).alloc (Nat.le_refl _) _).trans (hbel.mono (by simp))).trans (ho3.below (Nat.le_refl _))
      | some l =>
        have hso : (parts (codes s)).isSome = true := by rw [hpp]; rfl
        have hlb := parts_bound hpp
        have Hpp := Lib.hid hpp
        have Hlb := Lib.hid hlb
        clear hpp hlb
        go_enter Try.func115, Try.ntmps115
        go_wp2_with (go_at_call 56; refine (implIn_calls _ _ _ _).mono ?_; rintro e w' ⟨rfl, rfl⟩)
        refine (implPartners_calls _ _ hs).mono ?_
        rintro e w1 ⟨v, rfl, hbel, hv⟩
        obtain ⟨b, rfl, hb1, hblk⟩ := hv l Hpp.out
        have hz := hblk.lt
        have hll : l.length = s.size := Hlb.out.1.trans Hcl.out
        have h8 : s.size = 2 * (s.size / 2) := by have := Hodd.out; omega
        rw [← Hlb.out.1]
        have Hll := Lib.hid hll
        have H8 := Lib.hid h8
        clear hll h8 hv
        go_wp2_with (first | (go_at_call 142; refine (implJoined_calls _ l _ _ _ (by omega) (by omega) (by rw [Hll.out]; have := H8.out; omega) hblk (by rw [Hlb.out.1]; exact Hlb.out.2)).mono ?_; rintro e w2 ⟨rfl, hbel2⟩) | (refine store_dg rfl _ _ rfl _ rfl _ rfl _ 47 (((Blk.new w _ _).below hbel (by simp)).below hbel2 (by have := hbel.size; simp at this; omega)) rfl ?_; intro w3 hb3 ho3))
        refine ret_dg_tmp rfl _ rfl _ _ hb3 _ rfl rfl ⟨by rw [Hrd.out, Hpp.out, ← Hll.out]; rfl, ?_⟩
        exact ((((Below.refl _ w).alloc (Nat.le_refl _) _).trans (hbel.mono (by simp))).trans (hbel2.mono (by have := hbel.size; simp at this; omega))).trans (ho3.below (Nat.le_refl _))
    · have hi : inB (s.size : Int) 2 16 = false := inB_false (by omega)
      have hrd : readD (codes s) = none := by
        unfold readD; rw [Hcl.out, if_neg (fun h => hin ⟨h.2.1, h.2.2⟩)]
      have Hrd := Lib.hid hrd
      have Hodd := Lib.hid hodd
      clear hrd hodd
      go_enter Try.func115, Try.ntmps115
      go_wp2_with (first | (refine store_dg rfl _ _ rfl _ rfl (Dg.zero 0) rfl _ 47 (Blk.new _ _ _) rfl ?_; intro w3 hb3 ho3) | (go_at_call 56; refine (implIn_calls _ _ _ _).mono ?_; rintro e w' ⟨rfl, rfl⟩))
      refine ret_dg_tmp rfl _ rfl _ _ hb3 _ rfl rfl ⟨by rw [Hrd.out]; rfl, ((Below.refl _ w).alloc (Nat.le_refl _) _).trans (ho3.below (Nat.le_refl _))⟩
  · have hb1 : ((s.size : Int) % 2 != 0) = true := by simp; omega
    have hrd : readD (codes s) = none := by
      unfold readD; rw [Hcl.out, if_neg (fun h => hodd h.1)]
    have Hrd := Lib.hid hrd
    have Hodd := Lib.hid hodd
    clear hrd hodd
    go_enter Try.func115, Try.ntmps115
    go_wp2_with (refine store_dg rfl _ _ rfl _ rfl (Dg.zero 0) rfl _ 47 (Blk.new _ _ _) rfl ?_; intro w3 hb3 ho3)
    refine ret_dg_tmp rfl _ rfl _ _ hb3 _ rfl rfl ⟨by rw [Hrd.out]; rfl, ((Below.refl _ w).alloc (Nat.le_refl _) _).trans (ho3.below (Nat.le_refl _))⟩
end Go.Proofs.Yticmlgnolbccjaa
