/-
  DERIVED: THE SHELF's CONTRACTS AT THIS DUMP, IN PLAIN WORDS (tools/lay-plain.mjs out of 'YticmlgnolbccjaaS0.lean', which tools/lay-shelf.mjs wrote): THE SAME DECLARATIONS UNDER THE SAME NAMES: 'import', 'namespace', 'open', 'def', 'theorem' AND NOTHING ELSE: no command of the shelf's: FOR A HAND-IN. Each laying: the table of numbers ('.._ren') and one theorem, a field a fact of the dump's own or the kernel's comparison; each contract: ONE APPLICATION.
-/
import Derived.Shelf.SlGeneric
import Derived.Shelf.Small.Bits
import Derived.Shelf.Small.Strs
import Derived.Shelf.SlSortCmp.NoneTotal
import Derived.Ground.SlsfProg
import Derived.Ground.NamesProg
import Derived.Test.YticmlgnolbccjaaProg
import Derived.Test.YticmlgnolbccjaaQ1
import Derived.Sort.Grow
import Derived.Test.YticmlgnolbccjaaQ5
import Derived.Sort.OwnSorted
import Derived.Test.YticmlgnolbccjaaQ2
import Derived.Maps.RangeWalk
import Derived.Maps.OwnOps
import Derived.Deep.CutRange
import Derived.Test.YticmlgnolbccjaaQ6
import Derived.StillTailTactics

namespace Go.Proofs
open Go.Shelf
def Try.sortTerm_ren : Go.Shelf.Ren := ⟨fun | 6 => 120 | 15 => 144 | 14 => 143 | 28 => 158 | 29 => 159 | 20 => 150 | 21 => 151 | 22 => 152 | 23 => 153 | 24 => 154 | 25 => 155 | 26 => 156 | 27 => 157 | 46 => 161 | 47 => 162 | 48 => 163 | 49 => 164 | 50 => 165 | 57 => 166 | n => n, fun | 22 => 28 | 24 => 57 | 25 => 124 | 3 => 3 | 39 => 149 | 0 => 0 | 53 => 166 | 55 => 168 | 4 => 4 | 46 => 159 | 45 => 158 | 50 => 163 | 5 => 5 | 9 => 9 | 66 => 169 | 70 => 173 | 76 => 175 | 77 => 176 | n => n, fun | n => n⟩
theorem Try.sortTerm : Go.Proofs.SlLaysF0.n6 Try.prog Try.sortTerm_ren := {
  mixed := by kernel_rfl
  f6 := ⟨Try.f120.name, by decide, Try.func120.trans (congrArg some (by kernel_rfl))⟩
  f14 := ⟨Try.f143.name, by decide, Try.func143.trans (congrArg some (by kernel_rfl))⟩
  f15 := Try.func144.trans (congrArg some (by kernel_rfl))
  f20 := ⟨Try.f150.name, by decide, Try.func150.trans (congrArg some (by kernel_rfl))⟩
  f21 := ⟨Try.f151.name, by decide, Try.func151.trans (congrArg some (by kernel_rfl))⟩
  f22 := ⟨Try.f152.name, by decide, Try.func152.trans (congrArg some (by kernel_rfl))⟩
  f23 := ⟨Try.f153.name, by decide, Try.func153.trans (congrArg some (by kernel_rfl))⟩
  f24 := ⟨Try.f154.name, by decide, Try.func154.trans (congrArg some (by kernel_rfl))⟩
  f25 := ⟨Try.f155.name, by decide, Try.func155.trans (congrArg some (by kernel_rfl))⟩
  f26 := ⟨Try.f156.name, by decide, Try.func156.trans (congrArg some (by kernel_rfl))⟩
  f27 := ⟨Try.f157.name, by decide, Try.func157.trans (congrArg some (by kernel_rfl))⟩
  f28 := Try.func158.trans (congrArg some (by kernel_rfl))
  f29 := Try.func159.trans (congrArg some (by kernel_rfl))
  f46 := ⟨Try.f161.name, by decide, Try.func161.trans (congrArg some (by kernel_rfl))⟩
  f47 := Try.func162.trans (congrArg some (by kernel_rfl))
  f48 := Try.func163.trans (congrArg some (by kernel_rfl))
  f49 := ⟨Try.f164.name, by decide, Try.func164.trans (congrArg some (by kernel_rfl))⟩
  f50 := ⟨Try.f165.name, by decide, Try.func165.trans (congrArg some (by kernel_rfl))⟩
  f57 := ⟨Try.f166.name, by decide, Try.func166.trans (congrArg some (by kernel_rfl))⟩
  t0 := Try.underlying0
  a0 := Try.isAgg0
  z0 := Try.sizeOf0
  v0 := Try.zeroValue0
  t3 := Try.underlying3
  a3 := Try.isAgg3
  z3 := Try.sizeOf3
  v3 := Try.zeroValue3
  t4 := Try.underlying4
  a4 := Try.isAgg4
  z4 := Try.sizeOf4
  v4 := Try.zeroValue4
  t5 := Try.underlying5
  a5 := Try.isAgg5
  z5 := Try.sizeOf5
  v5 := Try.zeroValue5
  t9 := Try.underlying9
  a9 := Try.isAgg9
  z9 := Try.sizeOf9
  v9 := Try.zeroValue9
  t22 := Try.underlying28
  a22 := Try.isAgg28
  z22 := Try.sizeOf28
  v22 := Try.zeroValue28
  t25 := Try.underlying124
  a25 := Try.isAgg124
  z25 := Try.sizeOf124
  v25 := Try.zeroValue124
  t39 := Try.underlying149
  a39 := Try.isAgg149
  z39 := Try.sizeOf149
  v39 := Try.zeroValue149
  t45 := Try.underlying158
  a45 := Try.isAgg158
  z45 := Try.sizeOf158
  v45 := Try.zeroValue158
  t46 := Try.underlying159
  a46 := Try.isAgg159
  z46 := Try.sizeOf159
  v46 := Try.zeroValue159
  t50 := Try.underlying163
  a50 := Try.isAgg163
  z50 := Try.sizeOf163
  v50 := Try.zeroValue163
  t53 := Try.underlying166
  a53 := Try.isAgg166
  z53 := Try.sizeOf166
  v53 := Try.zeroValue166
  t55 := Try.underlying168
  a55 := Try.isAgg168
  z55 := Try.sizeOf168
  v55 := Try.zeroValue168
  t66 := Try.underlying169
  a66 := Try.isAgg169
  z66 := Try.sizeOf169
  v66 := Try.zeroValue169
  t70 := Try.underlying173
  a70 := Try.isAgg173
  z70 := Try.sizeOf173
  v70 := Try.zeroValue173
  t76 := Try.underlying175
  a76 := Try.isAgg175
  z76 := Try.sizeOf175
  v76 := Try.zeroValue175
  t77 := Try.underlying176
  a77 := Try.isAgg176
  z77 := Try.sizeOf176
  v77 := Try.zeroValue176 }
def Try.lays106_ren : Go.Shelf.Ren := ⟨fun | 106 => 122 | 213 => 145 | 265 => 160 | n => n, fun | 9 => 9 | 3 => 3 | n => n, fun | n => n⟩
theorem Try.lays106 : Go.Proofs.Lays.n106 Try.prog Try.lays106_ren := {
  mixed := by kernel_rfl
  f106 := Try.func122.trans (congrArg some (by kernel_rfl))
  f213 := Try.func145.trans (congrArg some (by kernel_rfl))
  f265 := Try.func160.trans (congrArg some (by kernel_rfl))
  t3 := Try.underlying3
  a3 := Try.isAgg3
  z3 := Try.sizeOf3
  v3 := Try.zeroValue3
  t9 := Try.underlying9
  a9 := Try.isAgg9
  z9 := Try.sizeOf9
  v9 := Try.zeroValue9 }
theorem Try.strings_Compare (a b : ByteArray) (w : World) :
    Calls Try.prog 122 #[.string a, .string b] w fun e w' => e = .returned (.int .i64 (Lib.compareBytes a.data.toList b.data.toList)) ∧ w' = w := Any.strings_Compare Try.lays106 a b w
end Go.Proofs

/- The text of a diagram once more, with the count of draws: what the library's sort asks of a comparison. -/
set_option linter.unusedVariables false
set_option linter.unusedSimpArgs false
namespace Go.Proofs.Yticmlgnolbccjaa
open Go.RowKit

section
variable {P : Program} {w : World}
/-- An append only draws on. -/
theorem drawn_append (base : Nat) (t ty e : TypeId) (i : TypeInfo) (z : Value) (size bytes : Nat) (ht : P.underlying t = some (.slice e)) (hi : P.info? e = some i) (hz : i.zero = some z)
    (hsize : i.size = size) (hby : i.bytes = bytes) (hzs : z.cells.size = size) (hsz : 0 < size)
    (v : Value) (n : Nat) (xs : List Value) (hown : w.ownsRow base e size v n xs)
    (a : Addr) (m c : Nat) (news : List Value) (hl : news.length = m * size) (hnews : ∀ j u, news[j]? = some u → w.cell? (a.add j) = some u) (h1 : ∀ u ∈ news, u.oneCell' = true)
    (h63 : n + m ≤ maxLen) (hbytes : (n + m) * bytes ≤ 140737488355328) (hm : m ≠ 0) {v' : Value} {w' : World}
    (hrun : (Builtin.append_ #[t, t] ty #[v, .slice (some a) m c]).run P w = .ok v' w') : w.drawn ≤ w'.drawn := by
  subst hsize
  subst hby
  have hsmall : n + m ≤ 9223372036854775807 := by simp only [maxLen] at h63; omega
  rcases hown.2 with ⟨rfl, rfl⟩ | ⟨g, cap, cur, rfl, hbg, hg, hnc, hcm, hcs, htake⟩
  · have hr := run_append_nil (P := P) w t ty e i z ht hi hz a m c news hl hnews (by omega) (by omega) (by have hb := hbytes; simp only [Nat.zero_add] at hb; omega)
    rw [hr] at hrun
    cases hrun
    exact Nat.le_succ _
  · by_cases hroom : n + m ≤ cap
    · have hfit : n * i.size + news.length ≤ cur.size := by rw [hl, hcs, ← Nat.add_mul]; exact Nat.mul_le_mul_right _ hroom
      have hr := run_append_room (P := P) w t ty e i ht hi g n cap cur hg a m c news hl hnews h1 hroom hfit
      rw [hr] at hrun
      cases hrun
      exact Nat.le_refl _
    · have holds : ∀ j u, xs[j]? = some u → w.cell? ((⟨g, 0, none⟩ : Addr).add j) = some u := hown.cells (g := g) rfl
      have hr := run_append_grow (P := P) w t ty e i z ht hi hz ⟨g, 0, none⟩ n cap xs hown.1 holds a m c news hl hnews (by omega) (by omega) (growslice_fits (by omega) hbytes)
      rw [hr] at hrun
      cases hrun
      exact Nat.le_succ _
end

section
variable {ops : Array Oper} {rest : List Oper} {o : Oper} {a : Act} {w : World} {Q : Exit → Act → World → Prop}
/-- One byte more. -/
theorem append_u8d (hgd : o.guard = none) (s x : Operand) (ho : o.op = .call { callee := .builtin .append, args := #[s, x], argTypes := #[131, 131] })
    (base : Nat) (v : Value) (n : Nat) (xs : List Int) (hs : a.eval s = v) (hown : w.ownsRow base 5 1 v n (xs.map (Value.int .u8)))
    (g : Nat) (c : Int) (hx : a.eval x = .slice (some ⟨g, 0, none⟩) 1 1) (T : TypeId) (hc : Blk w g #[.int .u8 c] T) (hn : n ≤ 1000000) (hbase : base ≤ w.heap.size)
    (h : ∀ v' w', w'.ownsRow base 5 1 v' (n + 1) ((xs ++ [c]).map (Value.int .u8)) → w.grownBy w' v.ownBlock → w.drawn ≤ w'.drawn → wpList Try.prog ops Q rest (a.put o.dst v') w') : wpList Try.prog ops Q (o :: rest) a w := by
  obtain ⟨i0, hi, hz0, hz1, hz2⟩ := info_parts info_u8
  have hc1 : ∀ j u, [Value.int .u8 c][j]? = some u → w.cell? ((⟨g, 0, none⟩ : Addr).add j) = some u := by
    intro j u hu
    cases j with
    | zero => simp at hu; subst hu; exact hc.cells 0
    | succ j => simp at hu
  have hc2 : ∀ u ∈ [Value.int .u8 c], u.oneCell' = true := by
    intro u hu; simp at hu; subst hu; rfl
  obtain ⟨v', w', hr, h2, h3, h4⟩ := run_append_own (P := Try.prog) w base 131 o.type 5 i0 (.int .u8 0) 1 1 Try.underlying131 hi hz0 hz1 hz2 rfl (by decide) v n _ hown ⟨g, 0, none⟩ 1 1 [.int .u8 c] rfl hc1 hc2 (by unfold maxLen; omega) (by omega) hbase
  have hd := drawn_append (P := Try.prog) base 131 o.type 5 i0 (.int .u8 0) 1 1 Try.underlying131 hi hz0 hz1 hz2 rfl (by decide) v n _ hown ⟨g, 0, none⟩ 1 1 [.int .u8 c] rfl hc1 hc2 (by unfold maxLen; omega) (by omega) (by decide) hr
  refine wpList_plain hgd fun K hK => ?_
  unfold Oper.wp execOp
  simp only [ho, resolve, invoke, builtin, Sem.run_bind, Sem.run_pure, Result.andThen_ok, List.map_toArray, List.map_cons, List.map_nil, hs, hx, hr]
  exact hK _ _ (h v' w' (by simpa using h2) h3 hd)
end

/-- Old memory unturned, draws gone on: new blocks behind the old ones. -/
theorem grow_of_below {w w' : World} (h : Below w.heap.size w w') (hd : w.drawn ≤ w'.drawn) : ∃ q os, w' = Sort.grow (w.drewN q) os := by
  refine ⟨w'.drawn - w.drawn, w'.heap.extract w.heap.size w'.heap.size, ?_⟩
  cases w with
  | mk heap tape drawn os output =>
    cases w' with
    | mk heap' tape' drawn' os' output' =>
      have h1 := h.os; have h2 := h.tape; have h3 := h.output; have h4 := h.size; have h5 := h.block
      simp only at h1 h2 h3 h4 h5 hd
      subst h1 h2 h3
      simp only [Sort.grow, World.drewN, World.mk.injEq, true_and, and_true]
      refine ⟨?_, by omega⟩
      apply Array.ext_getElem?
      intro i
      rw [Array.getElem?_append]
      by_cases hi : i < heap.size
      · rw [if_pos hi]; exact h5 i hi
      · rw [if_neg hi, Array.getElem?_extract]
        by_cases hj : i < heap'.size
        · rw [if_pos (by omega), show heap.size + (i - heap.size) = i from by omega]
        · rw [if_neg (by omega), Array.getElem?_eq_none (by omega)]

set_option maxRecDepth 100000 in
theorem implTextD_calls (d : Dg) (b off : Nat) (w : World) (hat : DgAt w b off d) (hp : d.Pts) :
    Calls Try.prog 90 #[.pointer (some ⟨b, off, none⟩)] w fun e w' => e = .returned (.string (strOfNums d.txt)) ∧ Below w.heap.size w w' ∧ w.drawn ≤ w'.drawn := by
  have hlo := hp.lo
  have hhi := hp.hi
  have hlt0 := hat.lt
  have Hp := Lib.hid hp
  clear hp
  go_enter Try.func90, Try.ntmps90
  go_wp2_with (go_at_call 124; refine (implN_calls d _ _ _ hat).mono ?_; rintro e w' ⟨rfl, rfl⟩)
  go_loopw [4, 5, 11] (fun v x i wr => ∃ k : Nat, k ≤ 2 * d.size.toNat ∧ i = .int .i64 k ∧ wr.ownsRow w.heap.size 5 1 v k ((d.txtTo k).map (Value.int .u8)) ∧ Below w.heap.size w wr ∧ w.drawn ≤ wr.drawn) (fun _ _ i _ => 2 * d.size.toNat - (intOf i).toNat)
  case atStart =>
    refine ⟨0, by omega, rfl, ?_, (Below.refl _ w).alloc (Nat.le_refl _) _, Nat.le_refl _⟩
    have := World.ownsRow_made (w := w) (base := w.heap.size) (e := 5) (size := 1) #[] 0 (by simp) (by simp [maxLen]) rfl
    simpa [Dg.txtTo] using this
  case round =>
    obtain ⟨k, hk, rfl, hown, hbel, hdr⟩ := hrel
    have hz := hbel.size
    have Hdr := Lib.hid hdr
    clear hdr
    by_cases hlt : k < 2 * d.size.toNat
    · have hpl := place_range (n := d.size) (i := k) (by omega) (by omega)
      have hm := Hp.out.mate (place d.size k).toNat (by omega)
      have hc := (hat.below hbel hlt0).mate (place d.size k).toNat (by omega)
      have hs : d.sign k = if (k : Int) < place d.size (d.m (place d.size k).toNat) then 40 else 41 := rfl
      have Hs := Lib.hid hs
      clear hs
      go_wp2
      go_quiet ((go_at_call 125; exact Calls.quiet_of_same ((implPlace_calls _ _ _ (by omega) (by omega) (by omega) (by omega)).mono fun e w' ⟨h, h'⟩ => ⟨h, h'.symm⟩)))
      go_wp2_with (at_builtin; refine append_u8d rfl _ _ rfl w.heap.size _ k (d.txtTo k) rfl ((own_drewN hown _).alloc _) wr.heap.size _ rfl _ (Blk.newAt _ _ _ rfl) (by omega) (by simp; omega) ?_; intro v1 w1 ho1 hg1 hd1; have Hd1 := Lib.hid hd1; clear hd1)
      all_goals
        go_roundw
        case rel => exact ⟨k + 1, by omega, by go_num, by rw [Dg.txtTo_succ, Hs.out]; first | (rw [if_pos (by assumption)]; exact ho1) | (rw [if_neg (by omega)]; exact ho1), bel_grown ((bel_drewN hbel _).alloc (by simp; omega) _) hg1 ((own_drewN hown _).alloc _) (by omega) (by simp; omega), Nat.le_trans Hdr.out (Nat.le_trans (Nat.le_add_right _ _) Hd1.out)⟩
        case measure => simp [intOf]; omega
    · obtain rfl : k = (2 * d.size).toNat := by omega
      go_wp2_with (refine convert_own rfl _ rfl w.heap.size _ _ (d.txtTo (2 * d.size).toNat) rfl hown ?_)
      go_ret
      exact ⟨rfl, hbel, Hdr.out⟩
end Go.Proofs.Yticmlgnolbccjaa

/- The library's sort at terms, by their texts. -/
set_option linter.unusedVariables false
set_option linter.unusedSimpArgs false
namespace Go.Proofs.Yticmlgnolbccjaa
open Go.RowKit Go.Sort Go.Shelf

theorem cmpb_lt : ∀ a b : List UInt8, (Lib.compareBytes a b < 0) ↔ a < b
  | [], [] => by simp [Lib.compareBytes]
  | [], _ :: _ => by simp [Lib.compareBytes]
  | _ :: _, [] => by simp [Lib.compareBytes]
  | a :: l, b :: m => by
    have ih := cmpb_lt l m
    unfold Lib.compareBytes
    rw [List.cons_lt_cons_iff]
    by_cases h1 : a < b
    · simp [h1]
    · rw [if_neg h1]
      by_cases h2 : b < a
      · rw [if_pos h2]
        have : a ≠ b := fun e => h1 (by rw [e] at h2 ⊢; exact h2)
        simp [h1, this]
      · rw [if_neg h2, ih]
        have : a = b := UInt8.le_antisymm (UInt8.not_lt.1 h2) (UInt8.not_lt.1 h1)
        simp [h1, this]

/-- Terms whose texts can be made. -/
abbrev PTm := {t : Tm // t.d.Pts}
instance : Inhabited PTm := ⟨⟨⟨Dg.zero 0, 0⟩, ⟨by decide, by decide, fun i h => absurd h (by show ¬ ((i : Int) < 2 * 0); omega)⟩⟩⟩
def encT (x : PTm) : List Value := x.1.vals
def cfT (x y : PTm) : Int := Lib.compareBytes x.1.d.key y.1.d.key
theorem ltT (x y : PTm) : ltOf cfT x y = tlt x.1.d y.1.d := by
  unfold ltOf cfT
  rw [tlt_eq]
  exact decide_eq_decide.2 (cmpb_lt _ _)
theorem swoT : Sort.SWO (ltOf cfT) where
  irrefl x := by rw [ltT]; exact tlt_irrefl _
  trans x y z h1 h2 := by rw [ltT] at *; exact tlt_trans h1 h2
  ntrans x y z h1 h2 := by rw [ltT] at *; exact tlt_ntrans h1 h2

theorem cells_vals (t : Tm) : (Value.agg t.vals.toArray) = .agg t.cells := rfl
theorem term_at (w : World) (t : Tm) (T : TypeId) : DgAt (w.alloc (.cells t.cells T)) w.heap.size 0 t.d := by
  have h := (Blk.new w t.cells T).cells
  refine ⟨?_, fun i hi => ?_⟩
  · rw [h]
    have := t.list_at 0 (.int .i64 t.d.size) rfl
    simpa [Tm.cells] using this
  · rw [h]
    have := t.list_at (1 + i) (.int .u8 (t.d.m i)) (by have := t.d.cells1 i hi; simpa [Dg.cells] using this)
    simpa [Tm.cells] using this

set_option maxRecDepth 100000 in
theorem lessT_calls (x y : PTm) (w : World) : Calls Try.prog 121 #[.agg x.1.cells, .agg y.1.cells] w fun e w' => e = .returned (.int .i64 (cfT x y)) ∧ ∃ q os', w' = Sort.grow (w.drewN q) os' := by
  have hx := x.2
  have hy := y.2
  have hcf : cfT x y = Lib.compareBytes (strOfNums x.1.d.txt).data.toList (strOfNums y.1.d.txt).data.toList := by
    unfold cfT Dg.key; rw [ByteArray.toList_eq, ByteArray.toList_eq]
  rw [hcf]
  clear hcf
  go_enter Try.func121, Try.ntmps121
  have a1 := (term_at w x.1 57).below ((Below.refl _ (w.alloc (.cells x.1.cells 57))).alloc (Nat.le_refl _) (.cells y.1.cells 57)) (by simp)
  have a2 := term_at (w.alloc (.cells x.1.cells 57)) y.1 57
  have hb : Below w.heap.size w ((w.alloc (.cells x.1.cells 57)).alloc (.cells y.1.cells 57)) := ((Below.refl _ w).alloc (Nat.le_refl _) _).alloc (by simp) _
  have hd : w.drawn ≤ ((w.alloc (.cells x.1.cells 57)).alloc (.cells y.1.cells 57)).drawn := Nat.le_refl _
  have hz : (w.alloc (.cells x.1.cells 57)).heap.size = w.heap.size + 1 := by simp
  have hz2 : ((w.alloc (.cells x.1.cells 57)).alloc (.cells y.1.cells 57)).heap.size = w.heap.size + 2 := by simp
  rw [hz] at a2
  have Hb := Lib.hid hb
  have Hd := Lib.hid hd
  clear hb hd hz
  go_wp2_with fail
  generalize (w.alloc (.cells x.1.cells 57)).alloc (.cells y.1.cells 57) = w2 at *
  refine (implTextD_calls _ _ _ _ a1 hx).mono ?_
  rintro e w3 ⟨rfl, hb3, hd3⟩
  have a3 := a2.below hb3 (by omega)
  have Hb3 := Lib.hid hb3
  have Hd3 := Lib.hid hd3
  have hz3 := hb3.size
  clear hb3 hd3 a1 a2
  go_wp2_with fail
  refine (implTextD_calls _ _ _ _ a3 hy).mono ?_
  rintro e w4 ⟨rfl, hb4, hd4⟩
  have Hb4 := Lib.hid hb4
  have Hd4 := Lib.hid hd4
  have hzz : w.heap.size ≤ w2.heap.size ∧ w.heap.size ≤ w3.heap.size := by omega
  clear hb4 hd4 a3
  go_wp2_with (go_at_call 122; refine (Try.strings_Compare _ _ _).mono ?_; rintro e w' ⟨rfl, rfl⟩)
  go_ret
  exact ⟨rfl, grow_of_below ((Hb.out.trans (Hb3.out.mono hzz.1)).trans (Hb4.out.mono hzz.2)) (Nat.le_trans Hd.out (Nat.le_trans Hd3.out Hd4.out))⟩

/-! The world behind the sort. -/
theorem flat_at (L : List PTm) (t : Nat) (ht : t < L.length * 18) : (flatK encT 18 L.toArray)[t]! = ((tc (L.map (·.1)))[t]?).getD default := by
  rw [get_flatK encT 18 L.toArray t (by simpa using ht)]
  have hi : t / 18 < L.length := by omega
  have hj : t % 18 < 18 := by omega
  have h1 := tc_at (L.map (·.1)) (t / 18) (t % 18) L[t / 18].1 (by rw [List.getElem?_map, List.getElem?_eq_getElem hi]; rfl) hj
  rw [show t / 18 * 18 + t % 18 = t from by omega] at h1
  rw [h1]
  have h2 : (L.toArray[t / 18]! : PTm) = L[t / 18] := by
    rw [getElem!_pos L.toArray (t / 18) (by simpa using hi)]; simp
  rw [h2]
  show (L[t / 18].1.vals)[t % 18]! = _
  rw [List.getElem!_eq_getElem?_getD]

theorem holds_terms {w : World} {base g cap : Nat} {L : List PTm} (h : TsOwn w base (.slice (some ⟨g, 0, none⟩) L.length cap) (L.map (·.1))) : HoldsK encT 18 w g 0 L.toArray := by
  intro t ht
  have ht' : t < L.length * 18 := by simpa [flatK] using ht
  have hl : t < (tc (L.map (·.1))).length := by rw [length_tc, List.length_map]; exact ht'
  rw [Nat.zero_add]
  refine ⟨?_, ?_⟩
  · rw [flat_at L t ht', List.getElem?_eq_getElem hl]
    have h' : w.ownsRow base 57 18 (.slice (some ⟨g, 0, none⟩) (L.map (·.1)).length cap) (L.map (·.1)).length (tc (L.map (·.1))) := by
      rw [List.length_map]
      have := h
      unfold TsOwn at this
      rwa [List.length_map] at this
    exact own_cell (n := (L.map (·.1)).length) h' t _ (List.getElem?_eq_getElem hl)
  · rcases h.2 with ⟨h1, _⟩ | ⟨g', cap', cur, h1, _, hg, _⟩
    · cases h1
    · simp only [Value.slice.injEq, Option.some.injEq, Addr.mk.injEq] at h1
      obtain ⟨⟨rfl, -, -⟩, -, -⟩ := h1
      simp [World.frozen?, hg]

theorem heap_sortedK {w : World} {g n : Nat} {os : Array Obj} {cur : Array Value} {e : TypeId} {fr : Nat × Nat} (d : Array PTm) (hb : w.heap[g]? = some (.cells cur e fr)) :
    (sortWorldK encT 18 w g 0 n d os).heap[g]? = some (.cells (Sort.putCells id 0 (flatK encT 18 d) cur) e fr) := by
  have hg : g < w.heap.size := (Array.getElem?_eq_some_iff.1 hb).1
  unfold sortWorldK putRowK
  rw [Sort.heap_grow_old _ _ (by simpa using hg)]
  simp [Sort.putRow, Sort.mapBlock, Sort.ahead, Array.getElem?_modify, hb, Sort.onCells]

theorem grownBy_sortedK {w : World} {g n : Nat} {os : Array Obj} (d : Array PTm) : w.grownBy (sortWorldK encT 18 w g 0 n d os) (some g) := by
  unfold sortWorldK putRowK
  refine ⟨rfl, rfl, rfl, by simp, fun k hk hne => ?_⟩
  rw [Sort.heap_grow_old _ _ (by simpa using hk)]
  have : g ≠ k := fun e => hne (by rw [e])
  simp [Sort.putRow, Sort.mapBlock, Sort.ahead, Array.getElem?_modify, this]

theorem ts_sorted {w : World} {base g cap n : Nat} {os : Array Obj} {L M : List PTm} (hl : M.length = L.length) (h : TsOwn w base (.slice (some ⟨g, 0, none⟩) L.length cap) (L.map (·.1))) :
    TsOwn (sortWorldK encT 18 w g 0 n M.toArray os) base (.slice (some ⟨g, 0, none⟩) L.length cap) (M.map (·.1)) := by
  rcases h.2 with ⟨h1, _⟩ | ⟨g', cap', cur, h1, hb, hg, hc, hm, hs, _⟩
  · cases h1
  · simp only [Value.slice.injEq, Option.some.injEq, Addr.mk.injEq, List.length_map] at h1
    obtain ⟨⟨rfl, -, -⟩, -, rfl⟩ := h1
    rw [List.length_map] at hc
    refine ⟨length_tc _, .inr ⟨g, cap, _, by rw [List.length_map, hl], hb, heap_sortedK M.toArray hg, by rw [List.length_map, hl]; exact hc, hm, by simp [Sort.putCells, hs], ?_⟩⟩
    apply List.ext_getElem?
    intro j
    have hln := length_tc (M.map (·.1))
    rw [List.length_map] at hln
    rw [List.length_map]
    by_cases hj : j < M.length * 18
    · have hcs : j < cur.size := by
        rw [hs]
        have : M.length * 18 ≤ cap * 18 := Nat.mul_le_mul_right _ (by omega)
        omega
      rw [List.getElem?_take_of_lt hj, Array.getElem?_toList]
      have h2 := flat_at M j hj
      rw [List.getElem?_eq_getElem (by rw [hln]; exact hj)] at h2 ⊢
      have h3 : (Sort.putCells id 0 (flatK encT 18 M.toArray) cur)[j]? = some ((flatK encT 18 M.toArray)[j]!) := by
        have h4 : j < (flatK encT 18 M.toArray).size := by simpa [flatK] using hj
        simp [Sort.putCells, hcs, h4]
        intro h5; omega
      rw [h3, h2]; rfl
    · rw [List.getElem?_take_eq_none (by omega), List.getElem?_eq_none (by rw [hln]; omega)]

theorem aggTerm : ∀ w, (isAgg (Try.sortTerm_ren.t 24)).run Try.prog w = .ok true w := fun _ => by kernel_rfl
theorem sizeTerm : ∀ w, (Go.sizeOf (Try.sortTerm_ren.t 24)).run Try.prog w = .ok 18 w := fun _ => by kernel_rfl

theorem sortTerms_calls (w : World) (base : Nat) (v : Value) (ts : List Tm) (h : TsOwn w base v ts) (hp : ∀ t ∈ ts, t.d.Pts) (hn : ts.length ≤ 1000000) :
    Calls Try.prog 120 #[v, .func (.func 121) #[] #[]] w fun e w' => e = .returned (.tuple #[]) ∧ ∃ us, us.Perm ts ∧ us.Pairwise (fun a b => tlt b.d a.d = false) ∧ TsOwn w' base v us ∧ w.grownBy w' v.ownBlock := by
  rcases h.2 with ⟨h1, h0⟩ | ⟨g, cap, cur, rfl, hb, hg, hc, hm, hs, htk⟩
  · subst h1
    have hts : ts = [] := List.eq_nil_of_length_eq_zero h0
    subst hts
    have := AnyF.slices_SortFunc_none (P := Try.prog) (ρ := Try.sortTerm_ren) { Try.sortTerm with } none 0 (.func (.func 121) #[] #[]) w
    change Calls Try.prog 120 _ _ _ at this
    refine this.mono ?_
    rintro e w' ⟨rfl, rfl⟩
    exact ⟨rfl, [], List.Perm.refl _, List.Pairwise.nil, h, ⟨rfl, rfl, rfl, Nat.le_refl _, fun _ _ _ => rfl⟩⟩
  · obtain ⟨L, rfl⟩ : ∃ L : List PTm, L.map (·.1) = ts := ⟨ts.pmap (fun t ht => ⟨t, ht⟩) hp, by rw [List.map_pmap]; simp⟩
    rw [List.length_map] at *
    have eg : ∀ args w, (callFunc 121 args).run Try.prog w = .ok (.enter 121 args) w := enters_of Try.func121 (by kernel_rfl) rfl
    have hcon := AnyQ.slices_SortFunc Try.sortTerm 18 aggTerm sizeTerm encT (fun x => x.1.length_vals) (fun x v hv => tc_oneCell [x.1] v (by simp only [tc, List.flatMap_cons, List.flatMap_nil, List.append_nil]; exact hv)) cfT swoT 121 #[] g 0 cap L.toArray w eg (fun _ _ _ _ x y => lessT_calls x y _) (holds_terms h) (Array.getElem?_eq_some_iff.1 hg).1 (by simp; omega)
    change Calls Try.prog 120 _ _ _ at hcon
    refine hcon.mono ?_
    rintro e w' ⟨rfl, d', n, os, hpm, hso, rfl⟩
    obtain ⟨M, rfl⟩ : ∃ M : List PTm, M.toArray = d' := ⟨d'.toList, by simp⟩
    have hl : M.length = L.length := by simpa using hpm.1
    have hpe : M.Perm L := by
      have h9 := hpm.2.2
      have e1 : (M.toArray.extract 0 L.toArray.size).toList = M := by simp [← hl]
      have e2 : (L.toArray.extract 0 L.toArray.size).toList = L := by simp
      rw [e1, e2] at h9
      exact h9
    refine ⟨rfl, M.map (·.1), hpe.map _, ?_, ts_sorted hl h, grownBy_sortedK _⟩
    rw [List.pairwise_map, List.pairwise_iff_getElem]
    intro i j hi hj hij
    have := hso i j (Nat.zero_le _) hij (by simp; omega)
    rw [ltT] at this
    rw [getElem!_pos M.toArray i (by simpa using hi), getElem!_pos M.toArray j (by simpa using hj)] at this
    simpa using this
end Go.Proofs.Yticmlgnolbccjaa

/- Maps from diagrams to numbers, as functions. -/
set_option linter.unusedVariables false
set_option linter.unusedSimpArgs false
namespace Go.Proofs.Yticmlgnolbccjaa
open Go.RowKit Go.Maps

theorem keyedDg : Keyed Try.prog 47 := Keyed.of_law lawDg
open Classical in
/-- What a diagram reads as, as a key. -/
noncomputable def kl (d : Dg) : Lit := if h : ∃ l, keyOf Try.prog 47 (.agg d.cells) = some l then Classical.choose h else .bool false
theorem kl_spec {d : Dg} (h : d.Wf) : keyOf Try.prog 47 (.agg d.cells) = some (kl d) := by
  have h1 := keyOf_dg d h
  unfold kl
  rw [dif_pos h1]
  exact Classical.choose_spec h1
theorem kl_inj {d e : Dg} (hd : d.Wf) (he : e.Wf) (h : kl d = kl e) : d = e := by
  have h1 := kl_spec hd
  rw [h] at h1
  exact cells_inj hd he (Value.agg.inj (keyedDg.inj h1 (kl_spec he)))
theorem kl_key {d : Dg} (h : d.Wf) : WideAt.IsKeyLit (kl d) := by
  have h1 := kl_spec h
  generalize kl d = x at h1 ⊢
  exact keyedDg.key h1

noncomputable abbrev PE (v : Value) : Option (DataW Unit × List MemPlace) := plainElem Try.prog 2 v
theorem zeroI64 (w : World) : (zeroValue 2).run Try.prog w = .ok (.int .i64 0) w := by kernel_rfl
def i64d (x : Int) : DataW Unit := .lit (.int .i64 x)

/-- A map's reading says the function f; its keys are diagrams of the size n. -/
structure Says (D : DataW Unit) (n : Nat) (f : Dg → Int) : Prop where
  at_ : ∀ d : Dg, d.Wf → D.atKey (kl d) (i64d 0) = i64d (f d)
  keys : ∀ l, Maps.has D l = true → ∃ d, Good d ∧ d.size = n ∧ l = kl d
  wf : ∀ d : Dg, d.Wf → (Lit.int .i64 (f d)).wf = true

/-- Block b is a map of at most k entries that says f. -/
def MapIs (w : World) (b k n : Nat) (f : Dg → Int) : Prop := ∃ D : DataW Unit, w.ownsMap Try.prog 47 PE b k D ∧ Says D n f

theorem says_empty (n : Nat) : Says (.map []) n (fun _ => 0) := ⟨fun d _ => rfl, (fun l h => by cases h), fun _ _ => by decide⟩
theorem Says.put {D : DataW Unit} {n : Nat} {f : Dg → Int} (h : Says D n f) (hD : IsMap D) {d : Dg} (hd : Good d) (hs : d.size = n) {x : Int} (hx : (Lit.int .i64 x).wf = true) : Says (D.put (kl d) (i64d x)) n (fun e => if e = d then x else f e) := by
  refine ⟨fun e he => ?_, fun l hl => ?_, fun e he => ?_⟩
  · by_cases hed : e = d
    · subst hed
      rw [if_pos rfl, atKey_put_same hD (kl_key he)]
    · rw [if_neg hed, atKey_put_other (fun h' => hed (kl_inj he hd.wf h')), h.at_ e he]
  · by_cases hld : l = kl d
    · exact ⟨d, hd, hs, hld⟩
    · rw [has_put_other hld] at hl
      exact h.keys l hl
  · show (Lit.int .i64 (if e = d then x else f e)).wf = true
    split
    · exact hx
    · exact h.wf e he

section
variable {w w' : World} {b k n : Nat} {f : Dg → Int}
theorem MapIs.lt (h : MapIs w b k n f) : b < w.heap.size := by obtain ⟨D, h1, h2⟩ := h; exact h1.lt
theorem MapIs.kept {row : Option Nat} (h : MapIs w b k n f) (hg : w.grownBy w' row) (hne : some b ≠ row) : MapIs w' b k n f := by
  obtain ⟨D, h1, h2⟩ := h; exact ⟨D, h1.kept hg hne, h2⟩
theorem MapIs.below {B : Nat} (h : MapIs w b k n f) (hb : Below B w w') (hB : b < B) : MapIs w' b k n f := by
  obtain ⟨D, ⟨es, clock, hh, r⟩, h2⟩ := h
  exact ⟨D, ⟨es, clock, (hb.block b hB).trans hh, r⟩, h2⟩
theorem MapIs.only {b' : Nat} (h : MapIs w b k n f) (ho : Only w w' b') (hne : b ≠ b') : MapIs w' b k n f := by
  obtain ⟨D, ⟨es, clock, hh, r⟩, h2⟩ := h
  exact ⟨D, ⟨es, clock, (ho.block b hne).trans hh, r⟩, h2⟩
theorem MapIs.but {l : List Nat} (h : MapIs w b k n f) (hb : But w w' l) (hn : b ∉ l) : MapIs w' b k n f := by
  have hlt := h.lt
  obtain ⟨D, ⟨es, clock, hh, r⟩, h2⟩ := h
  exact ⟨D, ⟨es, clock, (hb.block b hlt hn).trans hh, r⟩, h2⟩
theorem MapIs.alloc (h : MapIs w b k n f) (o : Obj) : MapIs (w.alloc o) b k n f := h.kept (World.grownBy_alloc w o none) (by simp)
theorem MapIs.drewN (h : MapIs w b k n f) (j : Nat) : MapIs (w.drewN j) b k n f := h
theorem MapIs.drew (h : MapIs w b k n f) : MapIs w.drew b k n f := h
theorem MapIs.new (w : World) (n : Nat) : MapIs (w.alloc (.map #[] 0)) w.heap.size 0 n (fun _ => 0) := ⟨.map [], World.ownsMap_made _ _ _ _, says_empty n⟩
theorem MapIs.congr {g : Dg → Int} (h : MapIs w b k n f) (hg : ∀ d : Dg, d.Wf → f d = g d) : MapIs w b k n g := by
  obtain ⟨D, h1, h2⟩ := h
  exact ⟨D, h1, ⟨fun d hd => by rw [← hg d hd]; exact h2.at_ d hd, h2.keys, fun d hd => by rw [← hg d hd]; exact h2.wf d hd⟩⟩
theorem MapIs.lookup (h : MapIs w b k n f) {d : Dg} (hd : d.Wf) : (Instr.lookup 94 (.map (some b)) (.agg d.cells) false).run Try.prog w = .ok (.int .i64 (f d)) w := by
  obtain ⟨D, h1, h2⟩ := h
  obtain ⟨c, hrun, hat, hwc⟩ := h1.lookup_int keyedDg Try.underlying94 Try.underlying2 (zeroI64 w) (kl_spec hd)
  have := h2.at_ d hd
  unfold i64d at this
  rw [this] at hat
  simp only [DataW.lit.injEq, Lit.int.injEq, true_and] at hat
  rw [hrun, hat]
theorem MapIs.wf (h : MapIs w b k n f) {d : Dg} (hd : d.Wf) : (Lit.int .i64 (f d)).wf = true := by
  obtain ⟨D, h1, h2⟩ := h; exact h2.wf d hd
end

section
variable {ops : Array Oper} {rest : List Oper} {o : Oper} {a : Act} {w : World} {Q : Exit → Act → World → Prop}
/-- 'm[k] = v' at a diagram. -/
theorem update_dg (hg : o.guard = none) (m x v : Operand) (ho : o.op = Op.mapUpdate 94 m x v) (b k n : Nat) (f : Dg → Int) (hm : a.eval m = .map (some b)) (h : MapIs w b k n f) (hk : k ≤ 1000000)
    (d : Dg) (hd : Good d) (hs : d.size = n) (hx : a.eval x = .agg d.cells) (y : Int) (hv : a.eval v = .int .i64 y) (hy : (Lit.int .i64 y).wf = true)
    (hK : ∀ w', MapIs w' b (k + 1) n (fun e => if e = d then y else f e) → w.grownBy w' (some b) → wpList Try.prog ops Q rest (a.put o.dst undef) w') : wpList Try.prog ops Q (o :: rest) a w := by
  obtain ⟨D, h1, h2⟩ := h
  refine wpList_mapUpdate_own w hg m x v 94 ho 47 2 keyedDg Try.underlying94 PE b k D hm h1 (by unfold maxLen; omega) _ _ (kl d) hx hv (kl_spec hd.wf) (i64d y) [] (plainElem_int Try.underlying2 hy) ?_
  intro w' h3 h4
  refine hK w' ⟨_, h3, h2.put ?_ hd hs hy⟩ h4
  obtain ⟨es, clock, -, -, -, rfl⟩ := h1
  exact ⟨_, rfl⟩

/-- The same, outside of a list. -/
theorem wp_update_dg {K : Act → World → Prop} (m x v : Operand) (ho : o.op = Op.mapUpdate 94 m x v) (b k n : Nat) (f : Dg → Int) (hm : a.eval m = .map (some b)) (h : MapIs w b k n f) (hk : k ≤ 1000000)
    (d : Dg) (hd : Good d) (hs : d.size = n) (hx : a.eval x = .agg d.cells) (y : Int) (hv : a.eval v = .int .i64 y) (hy : (Lit.int .i64 y).wf = true)
    (hK : ∀ w', MapIs w' b (k + 1) n (fun e => if e = d then y else f e) → w.grownBy w' (some b) → K (a.put o.dst undef) w') : o.wp Try.prog a w K Q := by
  obtain ⟨D, h1, h2⟩ := h
  obtain ⟨w', hrun, r1, r2⟩ := h1.update keyedDg Try.underlying94 (by unfold maxLen; omega) (val := .int .i64 y) (kl_spec hd.wf) (d := i64d y) (ps := []) (plainElem_int Try.underlying2 hy)
  unfold Oper.wp
  simp [execOp, ho, hm, hx, hv, hrun, Result.andThen]
  refine hK w' ⟨_, r1, h2.put ?_ hd hs hy⟩ r2
  obtain ⟨es, clock, -, -, -, rfl⟩ := h1
  exact ⟨_, rfl⟩
end
end Go.Proofs.Yticmlgnolbccjaa

/- The walk of the program's way from a map to an element. -/
set_option linter.unusedVariables false
set_option linter.unusedSimpArgs false
namespace Go.Proofs.Yticmlgnolbccjaa
open Go.RowKit Go.Maps

section
variable {ops : Array Oper} {rest : List Oper} {o : Oper} {a : Act} {w : World} {Q : Exit → Act → World → Prop}
/-- A step of a loop over such a map. -/
theorem next_dg (hg : o.guard = none) (it : Operand) (hop : o.op = Op.next it false) (b r k n : Nat) (D : DataW Unit) (left : Lit → Bool) (cnt : Nat) (f : Dg → Int) (hs : Says D n f)
    (hit : a.eval it = .pointer (some ⟨r, 0, none⟩)) (h : w.ranges Try.prog 47 PE b r k D left cnt)
    (hDone : (∀ l, left l = false) → wpList Try.prog ops Q rest (a.put o.dst (.tuple #[.bool false])) w)
    (hMore : ∀ (d : Dg) (w' : World) (cnt' : Nat), Good d → d.size = n → left (kl d) = true → Maps.has D (kl d) = true → w'.ranges Try.prog 47 PE b r k D (fun z => left z && !z.sameKey (kl d)) cnt' → cnt' < cnt → w.grownBy w' (some r) → w'.heap.size = w.heap.size →
      (Instr.entry (.pointer (some ⟨r, 0, none⟩))).run Try.prog w' = .ok (.tuple #[.agg d.cells, .int .i64 (f d)]) w' → wpList Try.prog ops Q rest (a.put o.dst (.tuple #[.bool true, .agg d.cells, .int .i64 (f d)])) w') :
    wpList Try.prog ops Q (o :: rest) a w := by
  refine wpList_plain hg fun K' hK' => ?_
  unfold Oper.wp
  rcases h.next keyedDg o.type with ⟨h0, hl, hrun⟩ | ⟨key, v, kl0, y, w', cnt', hkey, hlk, hv, hat, hrun, hrg, hlt, hgr, hsz, hen⟩
  · simp [execOp, hop, hit, hrun, Result.andThen]
    exact hK' _ _ (hDone hl)
  · have hhas := Maps.has_true_of_atKey hat
    obtain ⟨d, hd, hds, rfl⟩ := hs.keys kl0 hhas
    obtain rfl := keyedDg.inj hkey (kl_spec hd.wf)
    obtain ⟨c, rfl, hy, -⟩ := plainElem_int_inv Try.underlying2 hv
    have h1 := hs.at_ d hd.wf
    rw [hat, hy] at h1
    unfold i64d at h1
    simp only [DataW.lit.injEq, Lit.int.injEq, true_and] at h1
    subst h1
    simp [execOp, hop, hit, hrun, Result.andThen]
    exact hK' _ _ (hMore d w' cnt' hd hds hlk hhas hrg hlt hgr hsz hen)
end

/-- What has been collected so far. -/
structure Got (p : Int) (n : Nat) (D : DataW Unit) (f : Dg → Int) (left : Lit → Bool) (ts : List Tm) : Prop where
  mem : ∀ t ∈ ts, Good t.d ∧ t.d.size = n ∧ 1 ≤ t.k ∧ t.k < p ∧ left (kl t.d) = false ∧ t.k = f t.d % p
  nodup : ts.Pairwise (fun a b => a.d ≠ b.d)
  all : ∀ d, Good d → Maps.has D (kl d) = true → left (kl d) = false → f d % p ≠ 0 → ∃ t ∈ ts, t.d = d

section
variable {p : Int} {n : Nat} {D : DataW Unit} {f : Dg → Int} {left : Lit → Bool} {ts : List Tm}
theorem Got.start : Got p n D f (Maps.has D) [] := ⟨(fun t h => by cases h), List.Pairwise.nil, (fun d _ h h' => by rw [h] at h'; cases h')⟩
theorem same_kl {d e : Dg} (hd : Good d) (he : Good e) : (kl e).sameKey (kl d) = decide (e = d) := by
  by_cases h : e = d
  · subst h; rw [WideAt.sameKey_self (kl_key he.wf)]; simp
  · rw [Maps.sameKey_ne (fun h' => h (kl_inj he.wf hd.wf h'))]; simp [h]
theorem Got.skip (h : Got p n D f left ts) {d : Dg} (hd : Good d) (h0 : f d % p = 0) : Got p n D f (fun z => left z && !z.sameKey (kl d)) ts := by
  refine ⟨fun t ht => ?_, h.nodup, fun e he hh hl hne => ?_⟩
  · obtain ⟨a1, a2, a3, a4, a5, a6⟩ := h.mem t ht
    exact ⟨a1, a2, a3, a4, by rw [a5]; rfl, a6⟩
  · by_cases hed : e = d
    · subst hed; exact absurd h0 hne
    · refine h.all e he hh ?_ hne
      rw [same_kl hd he] at hl
      simpa [hed] using hl
theorem Got.add (h : Got p n D f left ts) {d : Dg} (hd : Good d) (hs : d.size = n) (hlk : left (kl d) = true) (hp : 2 ≤ p) (h0 : f d % p ≠ 0) : Got p n D f (fun z => left z && !z.sameKey (kl d)) (ts ++ [⟨d, f d % p⟩]) := by
  have b1 := Int.emod_nonneg (f d) (show p ≠ 0 by omega)
  have b2 := Int.emod_lt_of_pos (f d) (show 0 < p by omega)
  refine ⟨fun t ht => ?_, ?_, fun e he hh hl hne => ?_⟩
  · rcases List.mem_append.1 ht with ht | ht
    · obtain ⟨a1, a2, a3, a4, a5, a6⟩ := h.mem t ht
      exact ⟨a1, a2, a3, a4, by rw [a5]; rfl, a6⟩
    · have : t = ⟨d, f d % p⟩ := by simpa using ht
      subst this
      exact ⟨hd, hs, by show 1 ≤ f d % p; omega, b2, by rw [same_kl hd hd]; simp, rfl⟩
  · rw [List.pairwise_append]
    refine ⟨h.nodup, List.pairwise_singleton _ _, fun a ha b hb he => ?_⟩
    have : b = ⟨d, f d % p⟩ := by simpa using hb
    subst this
    have := (h.mem a ha).2.2.2.2.1
    rw [he, hlk] at this
    cases this
  · by_cases hed : e = d
    · subst hed; exact ⟨⟨e, f e % p⟩, by simp, rfl⟩
    · rw [same_kl hd he] at hl
      obtain ⟨t, ht, h1⟩ := h.all e he hh (by simpa [hed] using hl) hne
      exact ⟨t, by simp [ht], h1⟩

theorem sorted_of {us : List Tm} (hm : ∀ t ∈ us, Good t.d) (hd : us.Pairwise (fun a b => a.d ≠ b.d)) (hs : us.Pairwise (fun a b => tlt b.d a.d = false)) : us.Pairwise (fun a b => tlt a.d b.d = true) := by
  rw [List.pairwise_iff_getElem] at *
  intro i j hi hj hij
  cases hx : tlt us[i].d us[j].d with
  | true => rfl
  | false => exact absurd (tlt_total (hm _ (List.getElem_mem hi)) (hm _ (List.getElem_mem hj)) hx (hs i j hi hj hij)) (hd i j hi hj hij)

/-- What is collected at the end, sorted, is the list that the map tells. -/
theorem Got.done (h : Got p n D f left ts) (hl : ∀ l, left l = false) (hs : Says D n f) {us T : List Tm} (hpm : us.Perm ts) (hso : us.Pairwise (fun a b => tlt b.d a.d = false)) (hT : Nf p n T) (hf : ∀ d : Dg, d.Wf → f d % p = coef T d) : us = T := by
  have hmem : ∀ t ∈ us, Good t.d ∧ t.d.size = n ∧ 1 ≤ t.k ∧ t.k < p ∧ left (kl t.d) = false ∧ t.k = f t.d % p := fun t ht => h.mem t (hpm.mem_iff.1 ht)
  have hnd : us.Pairwise (fun a b => a.d ≠ b.d) := (hpm.pairwise_iff (fun {a b} (h : a.d ≠ b.d) => h.symm)).2 h.nodup
  have hnf : Nf p n us := ⟨fun t ht => ⟨(hmem t ht).1, (hmem t ht).2.1, (hmem t ht).2.2.1, (hmem t ht).2.2.2.1⟩, sorted_of (fun t ht => (hmem t ht).1) hnd hso⟩
  refine nf_unique hnf hT fun d => ?_
  by_cases hc : coef us d = 0
  · rw [hc]
    by_cases hc2 : coef T d = 0
    · exact hc2.symm
    · obtain ⟨t, ht, rfl, hk⟩ := coef_mem hT d hc2
      have hg := (hT.mem t ht).1
      have hfd := hf t.d hg.wf
      have hhas : Maps.has D (kl t.d) = true := by
        cases hx : Maps.has D (kl t.d) with
        | true => rfl
        | false =>
          have h1 := hs.at_ t.d hg.wf
          rw [Maps.atKey_of_not_has hx] at h1
          unfold i64d at h1
          simp only [DataW.lit.injEq, Lit.int.injEq, true_and] at h1
          rw [← h1] at hfd
          simp at hfd
          exact absurd hfd.symm hc2
      obtain ⟨u, hu, hud⟩ := h.all t.d hg hhas (hl _) (by rw [hfd]; exact hc2)
      have hu' := hpm.mem_iff.2 hu
      have h2 := coef_of_mem hnf u hu'
      rw [hud, hc] at h2
      have h3 := (hmem u hu').2.2.1
      omega
  · obtain ⟨t, ht, rfl, hk⟩ := coef_mem hnf d hc
    obtain ⟨a1, a2, a3, a4, a5, a6⟩ := hmem t ht
    rw [← hk, a6]
    exact hf _ a1.wf
theorem size_le_of_owns {w : World} {b k : Nat} {D : DataW Unit} (h : w.ownsMap Try.prog 47 PE b k D) : Maps.size D ≤ k := by
  obtain ⟨es, clock, -, -, hs, rfl⟩ := h
  show (List.foldr DataW.insert [] _).length ≤ k
  rw [length_sorted]
  simpa using hs
end

/-- The size that comes out. -/
def szOf (T : List Tm) (n0 n : Nat) : Nat := if T = [] then n0 else n
theorem szOf_same (T : List Tm) (n : Nat) : szOf T n n = n := by unfold szOf; split <;> rfl

section
variable {ops : Array Oper} {rest : List Oper} {o : Oper} {a : Act} {w : World} {Q : Exit → Act → World → Prop}
/-- Terms more behind a slice that may be nil. -/
theorem append_tsO (hgd : o.guard = none) (s x : Operand) (ho : o.op = .call { callee := .builtin .append, args := #[s, x], argTypes := #[28, 28] })
    (base : Nat) (v : Value) (ts : List Tm) (hs : a.eval s = v) (hown : TsOwn w base v ts)
    (g off m c : Nat) (us : List Tm) (hx : a.eval x = .slice (some ⟨g, off, none⟩) m c) (hr : w.rangeAt g off (tc us)) (hm : m = us.length)
    (hn : ts.length + us.length ≤ 1000000) (hbase : base ≤ w.heap.size)
    (h : ∀ v' w', TsOwn w' base v' (ts ++ us) → w.grownBy w' v.ownBlock → wpList Try.prog ops Q rest (a.put o.dst v') w') : wpList Try.prog ops Q (o :: rest) a w := by
  subst hm
  obtain ⟨i0, hi, hz0, hz1, hz2⟩ := info_parts rowTerm.info
  refine wpList_append_own w hgd s x 28 ho base 57 i0 _ 18 32 rowTerm.und hi hz0 hz1 hz2 rowTerm.zs (by decide) v ts.length _ hs hown ⟨g, off, none⟩ us.length c (tc us) hx (length_tc us) ?_ (tc_oneCell us) (by unfold maxLen; omega) (by omega) hbase ?_
  · intro j u hu
    rw [Addr.add_mid]
    exact hr j u hu
  · intro v' w' h1 h2 h3
    refine h v' w' ?_ h2
    unfold TsOwn
    rw [tc_append, List.length_append]; exact h1
end
theorem TsOwn.alloc' {w : World} {base : Nat} {v : Value} {ts : List Tm} (h : TsOwn w base v ts) (o : Obj) : TsOwn (w.alloc o) base v ts := World.ownsRow.alloc h o
theorem TsOwn.drewN {w : World} {base : Nat} {v : Value} {ts : List Tm} (h : TsOwn w base v ts) (j : Nat) : TsOwn (w.drewN j) base v ts := h
theorem TsOwn.grown {w w' : World} {base b : Nat} {v : Value} {ts : List Tm} (h : TsOwn w base v ts) (hg : w.grownBy w' (some b)) (hne : some b ≠ v.ownBlock) : TsOwn w' base v ts := World.ownsRow.kept h hg (.inr (fun e => hne e.symm))
theorem TsOwn.ne_low {w : World} {base b : Nat} {v : Value} {ts : List Tm} (h : TsOwn w base v ts) (hb : b < base) : some b ≠ v.ownBlock := own_ne h hb
theorem TsOwn.nil (w : World) (base : Nat) : TsOwn w base (.slice none 0 0) [] := World.ownsRow_nil w base _ _
theorem szOf_add (ts : List Tm) (t : Tm) (n0 n : Nat) : szOf (ts ++ [t]) n0 n = n := if_neg (by simp)

theorem Only.grownBy {w w' : World} {b : Nat} (h : Only w w' b) : w.grownBy w' (some b) := ⟨h.os, h.tape, h.output, by rw [h.size]; exact Nat.le_refl _, fun k _ hk => h.block k (fun e => hk (by rw [e]))⟩
theorem But.grown {w w1 w2 : World} {l : List Nat} {row : Option Nat} (h : But w w1 l) (hg : w1.grownBy w2 row) (hr : ∀ k, row = some k → w.heap.size ≤ k) : But w w2 l :=
  ⟨hg.os.trans h.os, hg.tape.trans h.tape, hg.output.trans h.output, Nat.le_trans h.size hg.size, fun k hk hn => (hg.block k (by have := h.size; omega) (fun e => by have := hr k e.symm; omega)).trans (h.block k hk hn)⟩
theorem range_newAt (w : World) (t : Tm) (T : TypeId) {b : Nat} (hb : b = w.heap.size) : (w.alloc (.cells t.cells T)).rangeAt b 0 (tc [t]) := by subst hb; exact range_new w t T
theorem szOf_perm {ts us : List Tm} (h : us.Perm ts) (n0 n : Nat) : szOf ts n0 n = szOf us n0 n := by
  unfold szOf
  by_cases h0 : us = []
  · subst h0; rw [if_pos rfl, if_pos (List.nil_perm.1 h)]
  · rw [if_neg h0, if_neg (fun e => by subst e; exact h0 (List.perm_nil.1 h))]
theorem Got.pts {p : Int} {n : Nat} {D : DataW Unit} {f : Dg → Int} {left : Lit → Bool} {ts : List Tm} (h : Got p n D f left ts) : ∀ t ∈ ts, t.d.Pts := fun t ht => (h.mem t ht).1.pts

theorem run_build_el (p c n : Int) (w : World) : (Instr.build 30 #[(0, .int .i64 p), (1, .int .i64 c), (2, .int .i64 n)]).run Try.prog w = .ok (.agg #[.int .i64 p, .int .i64 c, .int .i64 n, .slice none 0 0]) w := run_build w 30 _ _ (by kernel_rfl)
theorem wp_store_el {o : Oper} {a : Act} {w : World} {K : Act → World → Prop} {Q : Exit → Act → World → Prop} (x y : Operand) (ho : o.op = .store 30 x y) (b : Nat) (hx : a.eval x = .pointer (some ⟨b, 0, none⟩)) (ns : Array Value) (hy : a.eval y = .agg ns) (hn : ns.size = 4) (h1 : ns.all (·.oneCell') = true)
    (cs : Array Value) (T : TypeId) (h : Blk w b cs T) (hs : cs.size = 4)
    (hK : ∀ w', Blk w' b ns T → Only w w' b → K (a.put o.dst undef) w') : o.wp Try.prog a w K Q := by
  refine wp_store_row _ x y ho b ns hx hy T cs h (by rw [info_el, hn]) (by rw [hs, hn]) h1 (hK _ ?_ ?_)
  · exact setRow_heap w b cs _ T _ h
  · exact ⟨rfl, rfl, rfl, by simp, fun k hk => setRow_heap_other w b k _ hk⟩


set_option maxHeartbeats 1000000 in
set_option maxRecDepth 100000 in
theorem with_calls (p c : Int) (n0 n : Nat) (f : Dg → Int) (T : List Tm) (hp : 2 ≤ p) (hp97 : p ≤ 97) (hT : Nf p n T) (hf : ∀ d : Dg, d.Wf → f d % p = coef T d) (hfb : ∀ d : Dg, d.Wf → -4611686018427387904 ≤ f d ∧ f d ≤ 4611686018427387904) (bx bm k : Nat) (vx : Value) (Tx : TypeId) (w : World)
    (hx : Blk w bx #[.int .i64 p, .int .i64 c, .int .i64 n0, vx] Tx) (hm : MapIs w bm k n f) (hk : k ≤ 100000) :
    Calls Try.prog 82 #[.pointer (some ⟨bx, 0, none⟩), .map (some bm)] w fun e w' => ∃ v, e = .returned (el p c (szOf T n0 n) v) ∧ TsOwn w' w.heap.size v T ∧ Below w.heap.size w w' := by
  have HT := Lib.hid hT
  have Hf := Lib.hid hf
  have Hfb := Lib.hid hfb
  clear hT hf hfb
  have hxl := hx.lt
  have hml := hm.lt
  have hcx := hx.cells
  unfold el
  go_enter Try.func82, Try.ntmps82
  go_wp2_with fail
  have hx1 := hx.alloc (.cells #[.int .i64 0, .int .i64 0, .int .i64 0, .slice none 0 0] 30)
  have hm1 := hm.alloc (.cells #[.int .i64 0, .int .i64 0, .int .i64 0, .slice none 0 0] 30)
  have hR1 := Blk.new w #[.int .i64 0, .int .i64 0, .int .i64 0, .slice none 0 0] 30
  have hb1 := (Below.refl w.heap.size w).alloc (Nat.le_refl _) (.cells #[.int .i64 0, .int .i64 0, .int .i64 0, .slice none 0 0] 30)
  have hz1 : w.heap.size < (w.alloc (.cells #[.int .i64 0, .int .i64 0, .int .i64 0, .slice none 0 0] 30)).heap.size := by simp
  generalize w.alloc (.cells #[.int .i64 0, .int .i64 0, .int .i64 0, .slice none 0 0] 30) = w1 at *
  clear hx hm hcx
  go_cut [5] from 8 to 20 (fun v5 wx => v5 = .pointer (some ⟨w1.heap.size, 0, none⟩) ∧ Blk wx w1.heap.size #[.int .i64 p, .int .i64 c, .int .i64 n0, .slice none 0 0] 30 ∧ Below w1.heap.size w1 wx)
  case first =>
    refine wp_region_old (by kernel_rfl) (fun hS => ?_)
    refine takeA 0 (v := ?_) hS ?_ ?_
    rotate_left
    focus (intro W hW; go_simp; first | done | with_reducible rfl)
    try simp only [Act.put, List.setIfInBounds_toArray, List.set_cons_zero, List.set_cons_succ]
    refine takeA 1 (v := ?_) hS ?_ ?_
    rotate_left
    focus (intro W hW; go_simp; first | done | with_reducible rfl)
    try simp only [Act.put, List.setIfInBounds_toArray, List.set_cons_zero, List.set_cons_succ]
    refine takeA 2 (v := ?_) hS ?_ ?_
    rotate_left
    focus (intro W hW; go_simp; first | done | with_reducible rfl)
    try simp only [Act.put, List.setIfInBounds_toArray, List.set_cons_zero, List.set_cons_succ]
    refine takeA 3 (v := ?_) hS ?_ ?_
    rotate_left
    focus (intro W hW; have q := (hx1.below hW hx1.lt).cells; go_simp; first | done | with_reducible rfl)
    try simp only [Act.put, List.setIfInBounds_toArray, List.set_cons_zero, List.set_cons_succ]
    refine takeA 4 (v := ?_) hS ?_ ?_
    rotate_left
    focus (intro W hW; go_simp; first | done | with_reducible rfl)
    try simp only [Act.put, List.setIfInBounds_toArray, List.set_cons_zero, List.set_cons_succ]
    refine takeA 5 (v := ?_) hS ?_ ?_
    rotate_left
    focus (intro W hW; go_simp; first | done | with_reducible rfl)
    try simp only [Act.put, List.setIfInBounds_toArray, List.set_cons_zero, List.set_cons_succ]
    refine takeA 6 (v := ?_) hS ?_ ?_
    rotate_left
    focus (intro W hW; go_simp; first | done | with_reducible rfl)
    try simp only [Act.put, List.setIfInBounds_toArray, List.set_cons_zero, List.set_cons_succ]
    refine takeA 7 (v := ?_) hS ?_ ?_
    rotate_left
    focus (intro W hW; have q := (hx1.below hW hx1.lt).cells; go_simp; first | done | with_reducible rfl)
    try simp only [Act.put, List.setIfInBounds_toArray, List.set_cons_zero, List.set_cons_succ]
    refine takeA 8 (v := ?_) hS ?_ ?_
    rotate_left
    focus (intro W hW; go_simp; first | done | with_reducible rfl)
    try simp only [Act.put, List.setIfInBounds_toArray, List.set_cons_zero, List.set_cons_succ]
    refine takeA 9 (v := ?_) hS ?_ ?_
    rotate_left
    focus (intro W hW; go_simp; first | done | with_reducible rfl)
    try simp only [Act.put, List.setIfInBounds_toArray, List.set_cons_zero, List.set_cons_succ]
    refine takeA 10 (v := ?_) hS ?_ ?_
    rotate_left
    focus (intro W hW; go_simp; first | done | with_reducible rfl)
    try simp only [Act.put, List.setIfInBounds_toArray, List.set_cons_zero, List.set_cons_succ]
    refine takeA 11 (v := ?_) hS ?_ ?_
    rotate_left
    focus (intro W hW; have q := (hx1.below hW hx1.lt).cells; go_simp; first | done | with_reducible rfl)
    try simp only [Act.put, List.setIfInBounds_toArray, List.set_cons_zero, List.set_cons_succ]
    refine takeA 12 (v := .agg #[.int .i64 p, .int .i64 c, .int .i64 n0, .slice none 0 0]) hS ?_ ?_
    · exact fun W hW => by have hbe := run_build_el p c n0 W; go_simp
    try simp only [Act.put, List.setIfInBounds_toArray, List.set_cons_zero, List.set_cons_succ]
    refine wpAnyH_ready (rs := [13]) (by decide +kernel) (by simp) (allA 13 (fun K hK => ?_) AllReadyH.nil)
    have h5 := Blk.newAt w1.drew #[.int .i64 0, .int .i64 0, .int .i64 0, .slice none 0 0] 30 (b := w1.heap.size) rfl
    go_simp
    replace hS := hS.alloc (.cells #[.int .i64 0, .int .i64 0, .int .i64 0, .slice none 0 0] 30)
    refine hK _ _ hS ?_
    clear hK K
    try simp only [Act.put, List.setIfInBounds_toArray, List.set_cons_zero, List.set_cons_succ]
    refine wpAnyH_ready (rs := [14]) (by decide +kernel) (by simp) (allA 14 (fun K hK => ?_) AllReadyH.nil)
    refine wp_store_el _ _ rfl _ rfl _ rfl rfl (el_all rfl) _ _ h5 rfl ?_
    intro w5 hR5 ho5
    replace hS := hS.only ho5 (by omega)
    refine hK _ _ hS ?_
    clear hK K
    try simp only [Act.put, List.setIfInBounds_toArray, List.set_cons_zero, List.set_cons_succ]
    refine wpAnyH_done (by decide +kernel) ?_ _
    go_wp2_with fail
    go_meet
    case rel => exact ⟨rfl, hR5, hS⟩
  case rest =>
    obtain ⟨rfl, h5, hbc⟩ := hcut
    have hm2 := hm1.below hbc hm1.lt
    have hx2 := hx1.below hbc hx1.lt
    have hR2 := hR1.below hbc hR1.lt
    have hb2 := hb1.trans (hbc.mono (by omega))
    clear hm1 hx1 hR1 hb1 hbc
    obtain ⟨D, hown, hsays⟩ := hm2
    have hsz := size_le_of_owns hown
    have hz2 := h5.lt
    have Hsays := Lib.hid hsays
    clear hsays
    generalize hb5 : w1.heap.size = b5 at *
    clear hb5
    go_wp2_with (first | (at_range; refine wpList_range_own _ rfl _ 94 rfl 47 2 keyedDg Try.underlying94 PE bm k D rfl hown ?_; intro w0 hrg0 hg0 hs0))
    go_frame
    have h50 := h5.grown hg0 (by simp)
    have hx0 := hx2.grown hg0 (by simp)
    have hR0 := hR2.grown hg0 (by simp)
    have hb0 := hb2.grown hg0 (by omega) (by simp)
    have hzz : wc.heap.size < w0.heap.size := by omega
    clear h5 hx2 hR2 hb2 hg0 hs0 hown
    generalize hr : wc.heap.size = r at *
    clear hr
    go_loopw [7] (fun _ wr => ∃ (left : Lit → Bool) (cnt : Nat) (ts : List Tm) (v : Value), wr.ranges Try.prog 47 PE bm r k D left cnt ∧ ts.length + cnt ≤ k ∧ Blk wr b5 #[.int .i64 p, .int .i64 c, .int .i64 (szOf ts n0 n), v] 30 ∧ TsOwn wr w0.heap.size v ts ∧ Got p n D f left ts ∧ But w0 wr [b5, r]) (fun _ wr => wr.rangeLeft bm r)
    case atStart => exact ⟨_, _, [], _, hrg0, by simpa using hsz, h50, TsOwn.nil _ _, Got.start, But.refl _ _⟩
    case round =>
      clear h50 hrg0
      obtain ⟨left, cnt, ts, v, hrg, hlen, h5, hv, hgot, hbut⟩ := hrel
      have hz4 := hbut.size
      have hz5 := h5.lt
      go_wp2_with (at_next; refine next_dg rfl _ rfl bm r k n D left cnt f Hsays.out rfl hrg ?_ ?_)
      · intro hl0
        have hR4 := hR0.but hbut (by simp; omega)
        have hb4 := hb0.trans (hbut.below (B := w.heap.size) (by omega) (by simp; omega))
        have hcall := sortTerms_calls wr w0.heap.size v ts hv hgot.pts (by omega)
        have hc5 := h5.cells
        have Hgot := Lib.hid hgot
        clear hgot
        go_wp2_with fail
        refine hcall.mono ?_
        rintro e w6 ⟨rfl, us, hpm, hso, hv6, hg6⟩
        have h56 := h5.grown hg6 (hv.ne_low (by omega))
        have hR6 := hR4.grown hg6 (hv.ne_low (by omega))
        have hb6 := hb4.grown hg6 (by omega) (fun j hj => by have := (hv.lt j hj.symm.symm).1; omega)
        obtain rfl := Hgot.out.done hl0 Hsays.out hpm hso HT.out Hf.out
        rw [szOf_perm hpm] at h56
        have h1c : v.oneCell' = true := by obtain ⟨ad, cap, rfl, -, -⟩ := hv.slice; rfl
        clear hpm hso hcall hrg hc5 h5 hbut hR4 hb4
        go_wp2_with (first | (refine load_el rfl _ rfl _ rfl _ rfl _ h56 ?_) | (refine store_el rfl _ _ rfl _ rfl _ rfl rfl (el_all h1c) _ _ hR6 rfl ?_; intro w9 hR9 ho9))
        refine ret_el rfl _ rfl _ rfl _ hR9 rfl ?_
        exact ⟨v, rfl, (hv6.only ho9 (hv.ne_low (by omega))).mono (by omega), hb6.trans (ho9.below (by omega))⟩
      · intro d w2 cnt1 hd hds hlk hhas hrg1 hlt hg1 hs1 hen
        have hbx := hx0.but hbut (by simp; omega)
        have hx2 := hbx.grown hg1 (by simp; omega)
        have h52 := h5.grown hg1 (by simp; omega)
        have hv2 := hv.grown hg1 (hv.ne_low (by omega))
        have hb2 := hbut.trans (show But wr w2 [b5, r] from ⟨hg1.os, hg1.tape, hg1.output, hg1.size, fun b hb hn => hg1.block b hb (by simp at hn ⊢; exact fun e => hn.2 e)⟩)
        have hz6 : wr.heap.size ≤ w2.heap.size := hg1.size
        have Hlo := Lib.hid hrg.left_eq
        clear hg1 hs1 hv h5 hrg hbut hbx
        have hfd := Hfb.out d hd.wf
        have hsd := hds
        have hwd : d.cells[0]? = some (.int .i64 (n : Int)) := by rw [d.cells0, hds]
        have b1 := Int.emod_nonneg (f d) (show p ≠ 0 by omega)
        have b2 := Int.emod_lt_of_pos (f d) (show 0 < p by omega)
        have hrest := fun W => implRest_calls (f d) p W (by omega) (by omega) hfd.1 hfd.2
        have hskip : f d % p = 0 → _ := fun h => hgot.skip hd h
        have hadd : f d % p ≠ 0 → _ := fun h => hgot.add hd hds hlk hp h
        generalize hfx : f d = x at *
        generalize hq : x % p = q at *
        have Hrest := Lib.hid hrest
        have Hskip := Lib.hid hskip
        have Hadd := Lib.hid hadd
        have Hd := Lib.hid hd
        clear hrest hskip hadd hfx hq hgot hsd hds hd hhas
        by_cases h0 : q = 0
        · subst h0
          go_wp2_with (first | (refine store_dg rfl _ _ rfl _ rfl d rfl _ 47 (Blk.newAt _ _ _ rfl) rfl ?_; intro w3 hd3 ho3; have hx3 := (hx2.alloc _).only ho3 (by omega); have hcx3 := hx3.cells; have hrg3 := hrg1.alloc (.cells (Dg.zero 0).cells 47)) | (go_at_call 119; refine (Hrest.out _).mono ?_; rintro e w' ⟨rfl, rfl⟩))
          have hrg4 := hrg3.kept ho3.grownBy (by simp; omega) (by simp; have := hrg1.lt; omega)
          have h54 := (h52.alloc (.cells (Dg.zero 0).cells 47)).only ho3 (by omega)
          have hv4 := (hv2.alloc' (.cells (Dg.zero 0).cells 47)).only ho3 (fun e => by have := (hv2.lt _ e.symm).2; omega)
          have hb4 := (hb2.alloc (.cells (Dg.zero 0).cells 47)).only ho3 (.inr (by omega))
          go_roundw
          case rel => exact ⟨_, cnt1, ts, v, hrg4, by omega, h54, hv4, Hskip.out trivial, hb4⟩
          case measure => rw [hrg4.left_eq, Hlo.out]; exact hlt
        · have hq0 : (q == 0) = false := beq_eq_false_iff_ne.2 h0
          go_wp2_with (first | (refine store_dg rfl _ _ rfl _ rfl d rfl _ 47 (Blk.newAt _ _ _ rfl) rfl ?_; intro w3 hd3 ho3; have hx3 := (hx2.alloc _).only ho3 (by omega); have hcx3 := hx3.cells; have hcd3 := hd3.cells; have hz3 : w0.heap.size ≤ w3.heap.size := by { rw [ho3.size]; simp; omega }; have h53 := (h52.alloc (.cells (Dg.zero 0).cells 47)).only ho3 (by omega); have hc53 := h53.cells; have hf53 := h53.free; have hrg3 := hrg1.alloc (.cells (Dg.zero 0).cells 47); have hd5 := hd3.other ⟨b5, 2, none⟩ (.int .i64 (n : Int)) (by simp; omega); have hv3 := (hv2.alloc' (.cells (Dg.zero 0).cells 47)).only ho3 (fun e => by have := (hv2.lt _ e.symm).2; omega); have hv5 := hv3.only (Only.setCell w3 b5 2 (.int .i64 (n : Int))) (hv3.ne_low (by omega))) | (go_at_call 119; refine (Hrest.out _).mono ?_; rintro e w' ⟨rfl, rfl⟩) | (refine load_dg rfl _ rfl _ rfl _ _ hd5 ?_) | (refine build_term rfl _ _ rfl d q rfl rfl ?_) | (refine row_term rfl _ rfl ⟨d, q⟩ rfl ?_) | (at_builtin; refine append_tsO rfl _ _ rfl w0.heap.size v ts rfl (hv5.alloc' _) _ 0 1 1 [⟨d, q⟩] rfl (range_newAt _ _ _ (by simp)) rfl (by simp; omega) (by simp; omega) ?_; intro v7 w7 hv7 hg7; have hne7 := hv3.ne_low (b := b5) (by omega); have h57 := ((h53.set 2 (.int .i64 (n : Int))).alloc (.cells (Tm.cells ⟨d, q⟩) 57)).grown hg7 hne7; have hc57 := h57.cells; have hf57 := h57.free; obtain ⟨ad7, cap7, rfl, hn7, hc7⟩ := hv7.slice))
          have hrg4 := (((hrg3.kept ho3.grownBy (by simp; omega) (by simp; have := hrg1.lt; omega)).kept (Only.setCell w3 b5 2 (.int .i64 (n : Int))).grownBy (by simp; omega) (by simp; omega)).alloc (.cells (Tm.cells ⟨d, q⟩) 57)).kept hg7 (hv3.ne_low (by omega)) (hv3.ne_low (by omega))
          have hb4 := ((((hb2.alloc (.cells (Dg.zero 0).cells 47)).only ho3 (.inr (by omega))).only (Only.setCell w3 b5 2 (.int .i64 (n : Int))) (.inl (by simp))).alloc (.cells (Tm.cells ⟨d, q⟩) 57)).grown hg7 (fun j hj => (hv3.lt j hj).1)
          go_roundw
          case rel =>
            refine ⟨_, cnt1, ts ++ [⟨d, q⟩], .slice ad7 (ts.length + 1) cap7, hrg4.kept (Only.setCell w7 b5 3 (.slice ad7 (ts.length + 1) cap7)).grownBy (by simp; omega) (by simp; omega), by simp; omega, ?_, ?_, Hadd.out h0, hb4.only (Only.setCell w7 b5 3 (.slice ad7 (ts.length + 1) cap7)) (.inl (by simp))⟩
            · rw [szOf_add]
              exact h57.set 3 _
            · have h9 := hv7.only (Only.setCell w7 b5 3 (.slice ad7 (ts.length + 1) cap7)) (hv7.ne_low (by omega))
              simpa using h9
          case measure => rw [(hrg4.kept (Only.setCell w7 b5 3 (.slice ad7 (ts.length + 1) cap7)).grownBy (by simp; omega) (by simp; omega)).left_eq, Hlo.out]; exact hlt
end Go.Proofs.Yticmlgnolbccjaa

/- The walk of the program's product of two elements. -/
set_option linter.unusedVariables false
set_option linter.unusedSimpArgs false
namespace Go.Proofs.Yticmlgnolbccjaa
open Go.RowKit Go.Maps

theorem info_tm : (Try.prog.info? 57).map (·.size) = some 18 := by kernel_rfl
theorem range_tm {w : World} {g o : Nat} {ts : List Tm} (h : w.rangeAt g o (tc ts)) (i : Nat) (t : Tm) (hi : ts[i]? = some t) : w.rangeAt g (o + i * 18) t.vals := by
  intro j v hv
  have hj : j < 18 := by
    by_cases h2 : j < 18
    · exact h2
    · rw [List.getElem?_eq_none (by rw [t.length_vals]; omega)] at hv; cases hv
  have := h (i * 18 + j) v (by rw [tc_at ts i j t hi hj]; exact hv)
  rwa [← Nat.add_assoc] at this
theorem Tm.size_cells (t : Tm) : t.cells.size = 18 := by simp [Tm.cells, t.length_vals]
theorem Tm.oneCell (t : Tm) : ∀ v ∈ t.vals, v.oneCell' = true := fun v hv => tc_oneCell [t] v (by simp only [tc, List.flatMap_cons, List.flatMap_nil, List.append_nil]; exact hv)
theorem Blk.tm_dg {w : World} {b : Nat} {t : Tm} {T : TypeId} (h : Blk w b t.cells T) : w.rangeAt b 0 t.d.list := by
  intro j v hv
  rw [Nat.zero_add, h.cells j]
  have := t.list_at j v hv
  simpa [Tm.cells] using this
theorem Blk.tm_k {w : World} {b : Nat} {t : Tm} {T : TypeId} (h : Blk w b t.cells T) : w.cell? ⟨b, 17, none⟩ = some (.int .i64 t.k) := by
  rw [h.cells]
  have := t.k_at
  simpa [Tm.cells] using this
theorem Blk.tm_size {w : World} {b : Nat} {t : Tm} {T : TypeId} (h : Blk w b t.cells T) : w.cell? ⟨b, 0, none⟩ = some (.int .i64 t.d.size) := by
  rw [h.cells]; rfl

section
variable {ops : Array Oper} {rest : List Oper} {o : Oper} {a : Act} {w : World} {Q : Exit → Act → World → Prop}
theorem load_tm_mid (hgd : o.guard = none) (x : Operand) (ho : o.op = .load 57 x) (b off : Nat) (hx : a.eval x = .pointer (some ⟨b, off, none⟩)) (t : Tm) (h : w.rangeAt b off t.vals)
    (hK : wpList Try.prog ops Q rest (a.put o.dst (.agg t.cells)) w) : wpList Try.prog ops Q (o :: rest) a w :=
  wpList_load_mid hgd _ x ho b off hx t.vals _ h Try.underlying57 rfl (by rw [t.length_vals]; exact (info_tm).trans rfl) hK
theorem load_dgw_mid (x : Operand) (ho : o.op = .load 47 x) (b off : Nat) (hx : a.eval x = .pointer (some ⟨b, off, none⟩)) (d : Dg) (h : w.rangeAt b off d.list) (hw : Region.wanted o (yielded ops a.tmps) = true)
    (hK : wpList Try.prog ops Q rest (a.put o.dst (.agg d.cells)) w) : wpList Try.prog ops Q (o :: rest) a w :=
  BigFrame.wpList_want hw fun _ hk => wp_load_mid 47 x ho b off hx d.list _ h Try.underlying47 rfl (by rw [d.length_list]; exact (info_dg).trans rfl) (hk _ _ hK)
theorem store_tm (hgd : o.guard = none) (x y : Operand) (ho : o.op = .store 57 x y) (b : Nat) (hx : a.eval x = .pointer (some ⟨b, 0, none⟩)) (t : Tm) (hy : a.eval y = .agg t.cells)
    (cs : Array Value) (T : TypeId) (h : Blk w b cs T) (hs : cs.size = 18)
    (hK : ∀ w', Blk w' b t.cells T → Only w w' b → wpList Try.prog ops Q rest (a.put o.dst undef) w') : wpList Try.prog ops Q (o :: rest) a w := by
  refine wpList_store_row hgd _ x y ho b t.cells hx hy T cs h (by rw [info_tm, t.size_cells]) (by rw [hs, t.size_cells]) (all_oneCell_toArray t.oneCell) (hK _ ?_ ?_)
  · exact setRow_heap w b cs _ T _ h
  · exact ⟨rfl, rfl, rfl, by simp, fun k hk => setRow_heap_other w b k _ hk⟩
/-- What yields at this world, in the head of a region that ends in a store. -/
theorem still_val {v : Value} (hrun : (execOp a.eval o).run Try.prog w = .ok (.value v) w) (hw : Region.wanted o (yielded ops a.tmps) = true)
    {Q : Act → Prop} (hK : wpStill Try.prog ops w Q rest (a.put o.dst v)) : wpStill Try.prog ops w Q (o :: rest) a := by
  refine wpStill_step fun K hk => ?_
  rw [if_pos hw]
  unfold Oper.still
  rw [hrun]
  exact ⟨rfl, hk _ hK⟩
theorem still_lookup (hw : Region.wanted o (yielded ops a.tmps) = true) (m x : Operand) (ho : o.op = Op.lookup 94 m x false) (b k n : Nat) (f : Dg → Int) (hm : a.eval m = .map (some b)) (h : MapIs w b k n f) (d : Dg) (hd : d.Wf) (hx : a.eval x = .agg d.cells)
    {Q : Act → Prop} (hK : wpStill Try.prog ops w Q rest (a.put o.dst (.int .i64 (f d)))) : wpStill Try.prog ops w Q (o :: rest) a := by
  refine still_val ?_ hw hK
  unfold execOp
  simp only [ho, hm, hx, Sem.run_bind, h.lookup hd, Result.andThen_ok, Sem.run_pure]
end
theorem MapIs.mono {w : World} {b k k' n : Nat} {f : Dg → Int} (h : MapIs w b k n f) (hk : k ≤ k') : MapIs w b k' n f := by
  obtain ⟨D, h1, h2⟩ := h; exact ⟨D, h1.mono hk, h2⟩

set_option maxHeartbeats 1000000 in
set_option maxRecDepth 100000 in
theorem implMulT_calls (p c : Int) (n : Nat) (ts us : List Tm) (hp : 2 ≤ p) (hp97 : p ≤ 97) (hc0 : 0 ≤ c) (hcp : c ≤ p) (hn1 : 1 ≤ n) (hn8 : n ≤ 8) (hts : Nf p n ts) (hus : Nf p n us) (hlt : ts.length ≤ 300) (hlu : us.length ≤ 300)
    (vx vy : Value) (w : World) (hx : TsS w 0 vx ts) (hy : TsS w 0 vy us) :
    Calls Try.prog 45 #[el p c n vx, el p c n vy] w fun e w' => ∃ v, e = .returned (el p c n v) ∧ TsOwn w' w.heap.size v (mulT p c n ts us) ∧ Below w.heap.size w w' := by
  obtain ⟨g1, cap1, rfl, -, hg1, hc1, hm1, hr1⟩ := hx.out
  obtain ⟨g2, cap2, rfl, -, hg2, hc2, hm2, hr2⟩ := hy.out
  have Hts := Lib.hid hts
  have Hus := Lib.hid hus
  clear hts hus hx hy
  unfold el
  have hmm := @run_makeMap Try.prog
  go_enter Try.func45, Try.ntmps45
  have hX := ((Blk.new w #[.int .i64 p, .int .i64 c, .int .i64 n, .slice (some ⟨g1, 0, none⟩) ts.length cap1] 30).alloc (.cells #[.int .i64 p, .int .i64 c, .int .i64 n, .slice (some ⟨g2, 0, none⟩) us.length cap2] 30)).alloc (.cells #[.int .i64 0, .int .i64 0, .int .i64 0, .slice none 0 0] 30) |>.alloc (.map #[] 0)
  have hY := (Blk.newAt (w.alloc (.cells #[.int .i64 p, .int .i64 c, .int .i64 n, .slice (some ⟨g1, 0, none⟩) ts.length cap1] 30)) #[.int .i64 p, .int .i64 c, .int .i64 n, .slice (some ⟨g2, 0, none⟩) us.length cap2] 30 (b := w.heap.size + 1) (by simp)).alloc (.cells #[.int .i64 0, .int .i64 0, .int .i64 0, .slice none 0 0] 30) |>.alloc (.map #[] 0)
  have hZ := Blk.newAt ((w.alloc (.cells #[.int .i64 p, .int .i64 c, .int .i64 n, .slice (some ⟨g1, 0, none⟩) ts.length cap1] 30)).alloc (.cells #[.int .i64 p, .int .i64 c, .int .i64 n, .slice (some ⟨g2, 0, none⟩) us.length cap2] 30)) #[.int .i64 0, .int .i64 0, .int .i64 0, .slice none 0 0] 30 (b := w.heap.size + 1 + 1) (by simp) |>.alloc (.map #[] 0)
  have hM := MapIs.new (((w.alloc (.cells #[.int .i64 p, .int .i64 c, .int .i64 n, .slice (some ⟨g1, 0, none⟩) ts.length cap1] 30)).alloc (.cells #[.int .i64 p, .int .i64 c, .int .i64 n, .slice (some ⟨g2, 0, none⟩) us.length cap2] 30)).alloc (.cells #[.int .i64 0, .int .i64 0, .int .i64 0, .slice none 0 0] 30)) n
  have hbl := ((((Below.refl w.heap.size w).alloc (Nat.le_refl _) (.cells #[.int .i64 p, .int .i64 c, .int .i64 n, .slice (some ⟨g1, 0, none⟩) ts.length cap1] 30)).alloc (by simp) (.cells #[.int .i64 p, .int .i64 c, .int .i64 n, .slice (some ⟨g2, 0, none⟩) us.length cap2] 30)).alloc (by simp; omega) (.cells #[.int .i64 0, .int .i64 0, .int .i64 0, .slice none 0 0] 30)).alloc (by simp; omega) (.map #[] 0)
  have hz : (((w.alloc (.cells #[.int .i64 p, .int .i64 c, .int .i64 n, .slice (some ⟨g1, 0, none⟩) ts.length cap1] 30)).alloc (.cells #[.int .i64 p, .int .i64 c, .int .i64 n, .slice (some ⟨g2, 0, none⟩) us.length cap2] 30)).alloc (.cells #[.int .i64 0, .int .i64 0, .int .i64 0, .slice none 0 0] 30)).heap.size = w.heap.size + 1 + 1 + 1 := by simp
  rw [hz] at hM
  have hr1' := rangeAt_below hr1 hbl hg1
  have hr2' := rangeAt_below hr2 hbl hg2
  have hcX := hX.cells
  have Hbl := Lib.hid hbl
  have HZ := Lib.hid hZ
  clear hz hr1 hr2 hbl hZ
  go_wp2_with fail
  generalize (((w.alloc (.cells #[.int .i64 p, .int .i64 c, .int .i64 n, .slice (some ⟨g1, 0, none⟩) ts.length cap1] 30)).alloc (.cells #[.int .i64 p, .int .i64 c, .int .i64 n, .slice (some ⟨g2, 0, none⟩) us.length cap2] 30)).alloc (.cells #[.int .i64 0, .int .i64 0, .int .i64 0, .slice none 0 0] 30)).alloc (.map #[] 0) = w2 at *
  have hzm := hM.lt
  generalize hbm : w.heap.size + 1 + 1 + 1 = bm at *
  have hbm1 : w.heap.size + 1 + 1 < bm := by omega
  clear hbm hmm
  go_loopw [16] (fun i wr => ∃ j : Nat, j ≤ ts.length ∧ i = .int .i64 j ∧ MapIs wr bm (300 * j) n (coef (mulTo p c n ts us j)) ∧ But w2 wr [bm]) (fun i _ => ts.length - (intOf i).toNat)
  case atStart => exact ⟨0, by omega, rfl, hM, But.refl _ _⟩
  case round =>
    clear hM
    obtain ⟨j, hj, rfl, hM, hbut⟩ := hrel
    have hz3 := hbut.size
    have hX3 := hX.but hbut (by simp; omega)
    have hY3 := hY.but hbut (by simp; omega)
    by_cases hlt : j < ts.length
    · have hT := Hts.out.mem ts[j] (List.getElem_mem hlt)
      have hbz : Below w.heap.size w2 wr := hbut.below (by omega) (by simp; omega)
      have hra := range_tm (rangeAt_below hr1' hbz hg1) j ts[j] (List.getElem?_eq_getElem hlt)
      rw [Nat.zero_add] at hra
      have hcY := hY3.cells
      have hzr := wr.heap.size
      have hbm3 : bm < wr.heap.size := by omega
      have hYa := hY3.alloc (.cells (Tm.cells ⟨Dg.zero 0, 0⟩) 57)
      have hba := hbut.alloc (.cells (Tm.cells ⟨Dg.zero 0, 0⟩) 57)
      have hMa := hM.alloc (.cells (Tm.cells ⟨Dg.zero 0, 0⟩) 57)
      go_wp2_with (first | (refine load_tm_mid rfl _ rfl _ _ rfl _ hra ?_) | (refine store_tm rfl _ _ rfl _ rfl ts[j] rfl _ 57 (Blk.newAt _ _ _ rfl) rfl ?_; intro w3 ht3 ho3; have hY4 := hYa.only ho3 (by omega); have hcY4 := hY4.cells))
      have hbut4 := hba.only ho3 (.inr (by omega))
      have hM4 := hMa.only ho3 (by omega)
      have hX4 := (hX3.alloc (.cells (Tm.cells ⟨Dg.zero 0, 0⟩) 57)).only ho3 (by omega)
      have hrb4 := rangeAt_below (rangeAt_below hr2' hbz hg2) (Below.trans ((Below.refl wr.heap.size wr).alloc (Nat.le_refl _) (.cells (Tm.cells ⟨Dg.zero 0, 0⟩) 57)) (ho3.below (Nat.le_refl _))) (by omega)
      have hz4 : wr.heap.size < w3.heap.size := ht3.lt
      have HT := Lib.hid hT
      clear hYa hba hMa hM hX3 hY3 hcY hra hbut hT ho3 hcY4 hbz hzr
      generalize hbt : wr.heap.size = bt at *
      clear hbt
      go_loopw [23] (fun i wq => ∃ m : Nat, m ≤ us.length ∧ i = .int .i64 m ∧ MapIs wq bm (300 * j + m) n (coef (mrow p c n (mulTo p c n ts us j) ts[j] us m)) ∧ But w3 wq [bm]) (fun i _ => us.length - (intOf i).toNat)
      case atStart => exact ⟨0, by omega, rfl, hM4, But.refl _ _⟩
      case round =>
        clear hM4
        obtain ⟨m, hm, rfl, hM, hbut⟩ := hrel
        have hz5 := hbut.size
        by_cases hltm : m < us.length
        · have hU := Hus.out.mem us[m] (List.getElem_mem hltm)
          have hbz : Below w.heap.size w3 wr := hbut.below (by omega) (by simp; omega)
          have hrb := range_tm (rangeAt_below hrb4 hbz hg2) m us[m] (List.getElem?_eq_getElem hltm)
          rw [Nat.zero_add] at hrb
          have htA := ht3.but hbut (by simp; omega)
          have hXA := hX4.but hbut (by simp; omega)
          have htB := htA.alloc (.cells (Tm.cells ⟨Dg.zero 0, 0⟩) 57)
          have hba := hbut.alloc (.cells (Tm.cells ⟨Dg.zero 0, 0⟩) 57)
          have hMa := hM.alloc (.cells (Tm.cells ⟨Dg.zero 0, 0⟩) 57)
          have hXB := hXA.alloc (.cells (Tm.cells ⟨Dg.zero 0, 0⟩) 57)
          go_wp2_with (first | (refine load_tm_mid rfl _ rfl _ _ rfl _ hrb ?_) | (refine store_tm rfl _ _ rfl _ rfl us[m] rfl _ 57 (Blk.newAt _ _ _ rfl) rfl ?_; intro w4 hu4 ho4; have htC := htB.only ho4 (by omega)) | (refine load_dg_mid rfl _ rfl _ _ rfl ts[j].d htC.tm_dg ?_) | (refine load_dg_mid rfl _ rfl _ _ rfl us[m].d hu4.tm_dg ?_))
          have hM4 := hMa.only ho4 (by omega)
          have hXC := hXB.only ho4 (by omega)
          have hbuC := hba.only ho4 (.inr (by omega))
          have hz6 : wr.heap.size < w4.heap.size := hu4.lt
          clear htB hba hMa hXB htA hXA hM hbut hrb hbz ho4
          generalize hbu : wr.heap.size = bu at *
          clear hbu
          refine (implMul_calls ts[j].d us[m].d n HT.out.1 hU.1 HT.out.2.1 hU.2.1 _).mono ?_
          rintro e w5 ⟨rfl, hb5⟩
          have hz7 := hb5.size
          have hMd := (hM4.below hb5 (by omega)).alloc (.cells (Dg.zero 0).cells 47)
          have hXd := (hXC.below hb5 (by omega)).alloc (.cells (Dg.zero 0).cells 47)
          have htd := (htC.below hb5 (by omega)).alloc (.cells (Dg.zero 0).cells 47)
          have hud := (hu4.below hb5 (by omega)).alloc (.cells (Dg.zero 0).cells 47)
          have hbd := (hbuC.ext hb5).alloc (.cells (Dg.zero 0).cells 47)
          clear hM4 hXC htC hu4 hbuC hb5
          go_wp2_with (refine store_dg rfl _ _ rfl _ rfl (prodD ts[j].d us[m].d n) rfl _ 47 (Blk.newAt _ _ _ rfl) rfl ?_; intro w6 hd6 ho6)
          have hM6 := hMd.only ho6 (by omega)
          have hX6 := hXd.only ho6 (by omega)
          have ht6 := htd.only ho6 (by omega)
          have hu6 := hud.only ho6 (by omega)
          have hb6 := hbd.only ho6 (.inr (by omega))
          clear hMd hXd htd hud hbd ho6
          generalize w5.heap.size = bd at *
          refine wp_region_still_tail 24 (by kernel_rfl) (by kernel_rfl) ?_
          simp only [List.take_succ_cons, List.take_zero, List.drop_succ_cons, List.drop_zero]
          change wpStill _ _ w6.drew (fun a' => wpList _ _ _ _ a' w6.drew) _ _
          replace hM6 := hM6.drew
          replace hX6 := hX6.drew
          replace ht6 := ht6.drew
          replace hu6 := hu6.drew
          replace hd6 := hd6.drew
          replace hb6 := hb6.trans (But.drew w6 _)
          generalize w6.drew = w7 at *
          have hkA := ht6.tm_k
          have hkB := hu6.tm_k
          have hcX := hX6.cells
          have hLL : prodL ts[j].d us[m].d n ≤ n := loopTo_le ts[j].d us[m].d n n
          have hPW := powm_range p c (prodL ts[j].d us[m].d n) (by omega)
          have hgd := prod_good HT.out.1 hU.1 HT.out.2.1 hU.2.1
          have hds : (prodD ts[j].d us[m].d n).size = n := prodD_size
          have hta := HT.out.2.2
          have hua := hU.2.2
          have hp0 : (p == 0) = false := beq_eq_false_iff_ne.2 (by omega)
          have hacc := mrow_nf (c := c) hp Hus.out (mulTo_nf (c := c) hp Hts.out Hus.out j hj) ⟨HT.out.1, HT.out.2.1⟩ m hm
          have hA := coef_range hacc (by omega) (prodD ts[j].d us[m].d n)
          have hstep : coef (mrow p c n (mulTo p c n ts us j) ts[j] us (m + 1)) = fun e => if e = prodD ts[j].d us[m].d n then (coef (mrow p c n (mulTo p c n ts us j) ts[j] us m) (prodD ts[j].d us[m].d n) + ts[j].k * us[m].k % p * powm p c (prodL ts[j].d us[m].d n)) % p else coef (mrow p c n (mulTo p c n ts us j) ts[j] us m) e := by
            funext e
            rw [mrow_succ _ _ _ hltm]
            exact coef_put hp hacc e
          have Hstep := Lib.hid hstep
          clear hstep hacc
          generalize coef (mrow p c n (mulTo p c n ts us j) ts[j] us m) = fA at *
          generalize prodD ts[j].d us[m].d n = dd at *
          generalize prodL ts[j].d us[m].d n = LL at *
          generalize hA0 : fA dd = A at hA Hstep
          have HA0 := Lib.hid hA0
          clear hA0
          generalize ts[j].k = ka at *
          generalize us[m].k = kb at *
          have hp1 : ¬ p = 0 := by omega
          have hab0 : 0 ≤ ka * kb := Int.mul_nonneg (by omega) (by omega)
          have hab1 : ka * kb ≤ 97 * 97 := Int.mul_le_mul (by omega) (by omega) (by omega) (by omega)
          have hr1 : IntKind.i64.wrap (ka * kb) = ka * kb := IntWalk.i64_in _ (by omega)
          have hr2 : (ka * kb).tmod p = ka * kb % p := Int.tmod_eq_emod_of_nonneg hab0
          have hq0 := Int.emod_nonneg (ka * kb) (show p ≠ 0 by omega)
          have hq1 := Int.emod_lt_of_pos (ka * kb) (show 0 < p by omega)
          have hf0 : 0 ≤ ka * kb % p * powm p c LL := Int.mul_nonneg (by omega) (by omega)
          have hf1 : ka * kb % p * powm p c LL ≤ 97 * 97 := Int.mul_le_mul (by omega) (by omega) (by omega) (by omega)
          have hr3 : IntKind.i64.wrap (ka * kb % p * powm p c LL) = ka * kb % p * powm p c LL := IntWalk.i64_in _ (by omega)
          have hr4 : IntKind.i64.wrap (A + ka * kb % p * powm p c LL) = A + ka * kb % p * powm p c LL := IntWalk.i64_in _ (by omega)
          have hr5 : (A + ka * kb % p * powm p c LL).tmod p = (A + ka * kb % p * powm p c LL) % p := Int.tmod_eq_emod_of_nonneg (by omega)
          have hy0 := Int.emod_nonneg (A + ka * kb % p * powm p c LL) (show p ≠ 0 by omega)
          have hy1 := Int.emod_lt_of_pos (A + ka * kb % p * powm p c LL) (show 0 < p by omega)
          have hwf : (Lit.int .i64 ((A + ka * kb % p * powm p c LL) % p)).wf = true := WalkArith.wf_i64 (by omega)
          have hPw := fun W => implPower_calls p c LL W hp hp97 hc0 hcp (by omega) (by omega)
          simp only [Int.toNat_natCast] at hPw
          have HPw := Lib.hid hPw
          have Hwf := Lib.hid hwf
          clear hPw hwf hy0 hy1
          have hlk : ∀ {o : Oper} {a : Act} {Q : Act → Prop} {rest ops : List Oper}, True := fun {_ _ _ _ _} => trivial
          clear hlk
          repeat (first
            | (refine still_load_dg _ rfl _ rfl _ _ hd6 rfl ?_; simp only [Act.put, List.setIfInBounds_toArray, List.set_cons_zero, List.set_cons_succ])
            | (refine still_lookup rfl _ _ rfl bm _ n fA rfl hM6 dd hgd.wf rfl ?_; rw [HA0.out]; simp only [Act.put, List.setIfInBounds_toArray, List.set_cons_zero, List.set_cons_succ])
            | (still_call ((HPw.out _).mono fun e w' ⟨h, h'⟩ => ⟨h, h'.symm⟩))
            | still_step)
          refine wpStill_nil ?_
          clear hr1 hr2 hr3 hr4 hr5
          have Hds := Lib.hid hds
          clear hds
          go_wp2_with (at_mapUpdate; refine update_dg rfl _ _ _ rfl bm _ n fA rfl hM6 (by omega) dd hgd Hds.out rfl _ rfl Hwf.out ?_; intro w8 hM8 hg8)
          have hb8 := hb6.trans (show But w7 w8 [bm] from ⟨hg8.os, hg8.tape, hg8.output, hg8.size, fun b hb hn => hg8.block b hb (by simp at hn ⊢; exact hn)⟩)
          go_roundw
          case rel => exact ⟨m + 1, by omega, by go_num, by rw [Hstep.out]; exact hM8, hb8⟩
          case measure => simp [intOf]; omega
        · obtain rfl : m = us.length := by omega
          rw [← mulTo_succ j hlt] at hM
          go_wp2_with fail
          go_roundw
          case rel => exact ⟨j + 1, by omega, by go_num, hM.mono (by omega), hbut4.trans hbut⟩
          case measure => simp [intOf]; omega
    · obtain rfl : j = ts.length := by omega
      have hXw := hX3
      have hTn : Nf p n (mulT p c n ts us) := mulT_nf hp Hts.out Hus.out
      have hcr := coef_range hTn (by omega)
      have hcall := with_calls p c n n (coef (mulTo p c n ts us ts.length)) (mulT p c n ts us) hp hp97 hTn (fun d _ => Int.emod_eq_of_lt (hcr d).1 (hcr d).2) (fun d _ => by have := hcr d; unfold mulT at this; omega) w.heap.size bm (300 * ts.length) _ _ wr hX3 hM (by omega)
      rw [szOf_same] at hcall
      have hZ3 := HZ.out.but hbut (by simp; omega)
      have hbl3 := Hbl.out.trans (hbut.below (B := w.heap.size) (by omega) (by simp; omega))
      have Hcall := Lib.hid hcall
      clear hcall hM hbut hcr hTn
      go_wp2_with fail
      refine Hcall.out.mono ?_
      rintro e w6 ⟨v, rfl, hv6, hb6⟩
      have hZ6 := hZ3.below hb6 hZ3.lt
      have hbl6 := hbl3.trans (hb6.mono (by omega))
      have h1c : v.oneCell' = true := by obtain ⟨ad, cap, rfl, -, -⟩ := hv6.slice; rfl
      go_wp2_with (first | (refine store_el rfl _ _ rfl _ rfl _ rfl rfl (el_all h1c) _ _ hZ6 rfl ?_; intro w9 hZ9 ho9))
      refine ret_el rfl _ rfl _ rfl _ hZ9 rfl ?_
      exact ⟨v, rfl, (hv6.only ho9 (hv6.ne_low (by omega))).mono (by omega), hbl6.trans (ho9.below (by omega))⟩
end Go.Proofs.Yticmlgnolbccjaa
