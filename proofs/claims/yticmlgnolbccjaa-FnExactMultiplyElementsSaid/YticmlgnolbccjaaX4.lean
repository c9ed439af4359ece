/- The statements' own marks. -/
import Derived.Test.YticmlgnolbccjaaX3
set_option linter.unusedVariables false
set_option linter.unusedSimpArgs false
namespace Go.Proofs.Yticmlgnolbccjaa
open Go.RowKit

def mkTm (k : Int) : Tm := ⟨⟨k, (List.range 16).map fun (j : Nat) => ((k + 1 + (j : Int)) % 256)⟩, k + 17⟩
def mks (k : Int) (n : Nat) : List Tm := (List.range n).map fun (i : Nat) => mkTm (k + 18 * i)
theorem mks_len (k : Int) (n : Nat) : (mks k n).length = n := by simp [mks]
theorem mks_succ (k : Int) (n : Nat) : mks k (n + 1) = mks k n ++ [mkTm (k + 18 * n)] := by simp [mks, List.range_succ]
theorem mks_get (k : Int) (n i : Nat) (h : i < n) : (mks k n)[i]? = some (mkTm (k + 18 * i)) := by simp [mks, h]
theorem mkTm_m (k : Int) (j : Nat) (h : j < 16) : (mkTm k).d.m j = ((k + 1 + (j : Int)) % 256) := by
  simp [mkTm, Dg.m, List.getD_eq_getElem?_getD, h]

/-- A term under way: the size laid, the first m bytes laid. -/
def pt (K : Int) (t : Tm) (m : Nat) : Tm := ⟨⟨K, (List.range 16).map fun (j : Nat) => if j < m then ((K + 1 + (j : Int)) % 256) else t.d.m j⟩, t.k⟩
theorem pt_m (K : Int) (t : Tm) (m j : Nat) (h : j < 16) : (pt K t m).d.m j = if j < m then ((K + 1 + (j : Int)) % 256) else t.d.m j := by
  simp [pt, Dg.m, List.getD_eq_getElem?_getD, h]
theorem vals_eq (t : Tm) : t.vals = .int .i64 t.d.size :: (byt t.d.m ++ [.int .i64 t.k]) := rfl
theorem vals_congr {s t : Tm} (h1 : s.d.size = t.d.size) (h2 : ∀ j, j < 16 → s.d.m j = t.d.m j) (h3 : s.k = t.k) : s.vals = t.vals := by
  rw [vals_eq, vals_eq, h1, h3, byt_congr h2]
theorem pt_zero (K : Int) (t : Tm) : (pt K t 0).vals = t.vals.set 0 (.int .i64 K) := by
  rw [vals_eq, vals_eq, List.set_cons_zero]
  rw [byt_congr (f := (pt K t 0).d.m) (g := t.d.m) (fun j hj => by rw [pt_m K t 0 j hj, if_neg (by omega)])]
  rfl
theorem pt_succ (K : Int) (t : Tm) (m : Nat) (h : m < 16) : (pt K t (m + 1)).vals = (pt K t m).vals.set (1 + m) (.int .u8 (((K + 1 + (m : Int)) % 256))) := by
  rw [vals_eq, vals_eq, Nat.add_comm 1 m, List.set_cons_succ, List.set_append_left _ _ (by rw [byt_len]; exact h), byt_set _ _ _ h]
  have e : byt (pt K t (m + 1)).d.m = byt fun j => if j = m then ((K + 1 + (m : Int)) % 256) else (pt K t m).d.m j := byt_congr fun j hj => by
    rw [pt_m _ _ _ _ hj]
    by_cases h1 : j = m
    · subst h1; rw [if_pos (by omega), if_pos rfl]
    · rw [if_neg h1, pt_m _ _ _ _ hj]
      by_cases h2 : j < m
      · rw [if_pos (by omega), if_pos h2]
      · rw [if_neg (by omega), if_neg h2]
  rw [e]; rfl
theorem mk_of_pt (K : Int) (t : Tm) : (mkTm K).vals = (pt K t 16).vals.set 17 (.int .i64 (K + 17)) := by
  have e : byt (mkTm K).d.m = byt (pt K t 16).d.m := byt_congr fun j hj => by rw [pt_m _ _ _ _ hj, if_pos hj, mkTm_m _ _ hj]
  rw [vals_eq, vals_eq, e, List.set_cons_succ, List.set_append_right _ _ (by rw [byt_len]; omega), byt_len]
  rfl

theorem tc_set (sp : List Value) : ∀ (L : List Tm) (j o : Nat) (v : Value) (t' : Tm), j < L.length → o < 18 → (∀ t, L[j]? = some t → t'.vals = t.vals.set o v) → (tc L ++ sp).set (j * 18 + o) v = tc (L.set j t') ++ sp
  | [], j, o, v, t', h, _, _ => by simp at h
  | x :: xs, 0, o, v, t', _, ho, ht => by
    have h1 := ht x rfl
    rw [tc_cons, List.append_assoc, Nat.zero_mul, Nat.zero_add, List.set_append_left _ _ (by rw [x.length_vals]; exact ho), ← h1, List.set_cons_zero, tc_cons, List.append_assoc]
  | x :: xs, j + 1, o, v, t', h, ho, ht => by
    rw [tc_cons, List.append_assoc, List.set_append_right _ _ (by rw [x.length_vals]; omega), x.length_vals, show (j + 1) * 18 + o - 18 = j * 18 + o from by omega, tc_set sp xs j o v t' (by simpa using h) ho (by simpa using ht), List.set_cons_succ, tc_cons, List.append_assoc]
theorem tc_sp_at (sp : List Value) (L : List Tm) (j o : Nat) (t : Tm) (h : L[j]? = some t) (ho : o < 18) : (tc L ++ sp)[j * 18 + o]? = t.vals[o]? := by
  have hj : j < L.length := (List.getElem?_eq_some_iff.1 h).1
  rw [List.getElem?_append_left (by rw [length_tc]; omega)]
  exact tc_at L j o t h ho

/-- The list under way. -/
def ml (k : Int) (ts : List Tm) (j : Nat) : List Tm := mks k j ++ ts.drop j
theorem ml_len (k : Int) (ts : List Tm) (j : Nat) (h : j ≤ ts.length) : (ml k ts j).length = ts.length := by simp [ml, mks_len]; omega
theorem ml_get (k : Int) (ts : List Tm) (j : Nat) (h : j < ts.length) : (ml k ts j)[j]? = some ts[j] := by
  unfold ml
  rw [List.getElem?_append_right (by rw [mks_len]; omega), mks_len, Nat.sub_self, List.getElem?_drop, Nat.add_zero, List.getElem?_eq_getElem h]
theorem ml_set (k : Int) (ts : List Tm) (j : Nat) (h : j < ts.length) : (ml k ts j).set j (mkTm (k + 18 * j)) = ml k ts (j + 1) := by
  unfold ml
  rw [List.set_append_right _ _ (by rw [mks_len]; omega), mks_len, Nat.sub_self, List.drop_eq_getElem_cons h, List.set_cons_zero, mks_succ, List.append_assoc]; rfl

set_option maxHeartbeats 4000000 in
set_option maxRecDepth 100000 in
theorem markTermS_blk (ts : List Tm) (k : Int) (g cap : Nat) (sp : List Value) (T : TypeId) (w : World) (h : Blk w g (tc ts ++ sp).toArray T) (hk0 : 0 ≤ k) (hk1 : k ≤ 1000000000) (hn : ts.length ≤ 2000000) (hc1 : ts.length ≤ cap) (hc2 : cap ≤ 9223372036854775807) :
    Calls Try.prog 52 #[.slice (some ⟨g, 0, none⟩) ts.length cap, .int .i64 k] w fun e w' => e = .returned (.int .i64 (k + 18 * ts.length)) ∧ Blk w' g (tc (mks k ts.length) ++ sp).toArray T ∧ Only w w' g := by
  go_enter Try.func52, Try.ntmps52
  go_wp2_with fail
  go_loopw [1, 5] (fun s1 i wr => ∃ j : Nat, j ≤ ts.length ∧ i = .int .i64 j ∧ s1 = .int .i64 (k + 18 * j) ∧ Blk wr g (tc (ml k ts j) ++ sp).toArray T ∧ Only w wr g) (fun _ i _ => ts.length - (intOf i).toNat)
  case atStart => exact ⟨0, by omega, rfl, by simp, by simpa [ml, mks] using h, Only.refl _ _⟩
  case round =>
    clear h
    obtain ⟨j, hj, rfl, rfl, h, ho⟩ := hrel
    by_cases hlt : j < ts.length
    · have hget := ml_get k ts j hlt
      have hset := ml_set k ts j hlt
      have hll := ml_len k ts j hj
      generalize ts[j] = t at *
      generalize hK : k + 18 * (j : Int) = K at *
      have hK0 : 0 ≤ K ∧ K ≤ 1000000000 + 36000000 := by omega
      have HK := Lib.hid hK
      have Hset := Lib.hid hset
      have Hget := Lib.hid hget
      clear hK hset hget
      -- the size
      have hc0 := h.cells (j * 18)
      rw [List.getElem?_toArray] at hc0
      have hc0' := tc_sp_at sp _ j 0 t Hget.out (by omega)
      rw [Nat.add_zero] at hc0'
      rw [hc0'] at hc0
      have hc0'' : t.vals[0]? = some (.int .i64 t.d.size) := rfl
      rw [hc0''] at hc0
      have hf0 := h.free
      have h1 := h.set (j * 18) (.int .i64 K)
      have e1 : (tc (ml k ts j) ++ sp).toArray.setIfInBounds (j * 18) (.int .i64 K) = (tc ((ml k ts j).set j (pt K t 0)) ++ sp).toArray := by
        rw [List.setIfInBounds_toArray]
        have := tc_set sp (ml k ts j) j 0 (.int .i64 K) (pt K t 0) (by omega) (by omega) (fun u hu => by rw [Hget.out] at hu; cases hu; exact pt_zero K t)
        rw [Nat.add_zero] at this
        rw [this]
      rw [e1] at h1
      have ho1 := ho.trans (Only.setCell wr g (j * 18) (.int .i64 K))
      have H1 := Lib.hid h1
      have Ho1 := Lib.hid ho1
      clear h1 ho1 e1 hc0' hc0''
      go_wp2_with fail
      generalize wr.setCell ⟨g, j * 18, none⟩ (.int .i64 K) = w1 at *
      clear h hc0 hf0 ho
      go_loopw [1, 6] (fun s1 i wr => ∃ m : Nat, m ≤ 16 ∧ i = .int .i64 m ∧ s1 = .int .i64 (K + 1 + m) ∧ Blk wr g (tc ((ml k ts j).set j (pt K t m)) ++ sp).toArray T ∧ Only w wr g) (fun _ i _ => 16 - (intOf i).toNat)
      case atStart => exact ⟨0, by omega, rfl, by simp, H1.out, Ho1.out⟩
      case round =>
        clear H1 Ho1
        obtain ⟨m, hm, rfl, rfl, h, ho⟩ := hrel
        have hgs : ((ml k ts j).set j (pt K t m))[j]? = some (pt K t m) := by rw [List.getElem?_set_self (by omega)]
        by_cases hltm : m < 16
        · have hc0 := h.cells (j * 18 + 1 + m)
          rw [List.getElem?_toArray] at hc0
          have hc1 := tc_sp_at sp _ j (1 + m) _ hgs (by omega)
          rw [← Nat.add_assoc] at hc1
          rw [hc1] at hc0
          have hc2 : (pt K t m).vals[1 + m]? = some (.int .u8 ((pt K t m).d.m m)) := (pt K t m).list_at _ _ (by have := (pt K t m).d.cells1 m hltm; simpa [Dg.cells] using this)
          rw [hc2] at hc0
          have hf0 := h.free
          have h2 := h.set (j * 18 + 1 + m) (.int .u8 (((K + 1 + (m : Int)) % 256)))
          have e1 : (tc ((ml k ts j).set j (pt K t m)) ++ sp).toArray.setIfInBounds (j * 18 + 1 + m) (.int .u8 (((K + 1 + (m : Int)) % 256))) = (tc ((ml k ts j).set j (pt K t (m + 1))) ++ sp).toArray := by
            rw [List.setIfInBounds_toArray]
            have := tc_set sp ((ml k ts j).set j (pt K t m)) j (1 + m) (.int .u8 (((K + 1 + (m : Int)) % 256))) (pt K t (m + 1)) (by rw [List.length_set]; omega) (by omega) (fun u hu => by rw [hgs] at hu; cases hu; exact pt_succ K t m hltm)
            rw [← Nat.add_assoc] at this
            rw [this, List.set_set]
          rw [e1] at h2
          have ho2 := ho.trans (Only.setCell wr g (j * 18 + 1 + m) (.int .u8 (((K + 1 + (m : Int)) % 256))))
          have H2 := Lib.hid h2
          have Ho2 := Lib.hid ho2
          clear h2 ho2 e1 hc1 hc2 hgs
          go_wp2_with fail
          go_roundw
          case rel => exact ⟨m + 1, by omega, by go_num, by go_num, H2.out, Ho2.out⟩
          case measure => simp [intOf]; omega
        · obtain rfl : m = 16 := by omega
          have hc0 := h.cells (j * 18 + 17)
          rw [List.getElem?_toArray] at hc0
          have hc1 := tc_sp_at sp _ j 17 _ hgs (by omega)
          rw [hc1, Tm.k_at] at hc0
          have hf0 := h.free
          have h2 := h.set (j * 18 + 17) (.int .i64 (K + 17))
          have e1 : (tc ((ml k ts j).set j (pt K t 16)) ++ sp).toArray.setIfInBounds (j * 18 + 17) (.int .i64 (K + 17)) = (tc (ml k ts (j + 1)) ++ sp).toArray := by
            rw [List.setIfInBounds_toArray]
            have := tc_set sp ((ml k ts j).set j (pt K t 16)) j 17 (.int .i64 (K + 17)) (mkTm K) (by rw [List.length_set]; omega) (by omega) (fun u hu => by rw [hgs] at hu; cases hu; exact mk_of_pt K t)
            rw [this, List.set_set, Hset.out]
          rw [e1] at h2
          have ho2 := ho.trans (Only.setCell wr g (j * 18 + 17) (.int .i64 (K + 17)))
          rw [show K + 17 = K + 1 + 16 from by omega] at h2 ho2
          have H2 := Lib.hid h2
          have Ho2 := Lib.hid ho2
          clear h2 ho2 e1 hc1 hgs
          go_wp2_with fail
          go_roundw
          case rel => exact ⟨j + 1, by omega, by go_num, by have := HK.out; go_num, by first | exact H2.out | (simpa using H2.out), by first | exact Ho2.out | (simpa using Ho2.out)⟩
          case measure => simp [intOf]; omega
    · obtain rfl : j = ts.length := by omega
      have e : ml k ts ts.length = mks k ts.length := by unfold ml; rw [List.drop_length, List.append_nil]
      rw [e] at h
      go_wp2_with fail
      go_ret
      exact ⟨rfl, h, ho⟩
end Go.Proofs.Yticmlgnolbccjaa
