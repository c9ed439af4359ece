/- Plain: a diagram is what its text is read as; diagrams of one text are one. -/
import Derived.Test.YticmlgnolbccjaaL2
import Derived.Test.YticmlgnolbccjaaD6
set_option linter.unusedVariables false
set_option linter.unusedSimpArgs false
namespace Go.Proofs.Yticmlgnolbccjaa
open Go.RowKit

/-- A way to join N places in pairs, without crossings. -/
structure Match (N : Nat) (f : Nat → Nat) : Prop where
  lt : ∀ k, k < N → f k < N
  inv : ∀ k, k < N → f (f k) = k
  ne : ∀ k, k < N → f k ≠ k
  nc : ∀ i k, i < N → k < N → ¬ (i < k ∧ k < f i ∧ f i < f k)

theorem getD_set (l : List Nat) (i j v : Nat) (hi : i < l.length) : (l.set i v).getD j 0 = if j = i then v else l.getD j 0 := by
  simp only [List.getD_eq_getElem?_getD, List.getElem?_set]
  by_cases h : i = j
  · subst h; simp [hi]
  · rw [if_neg h, if_neg (fun h' => h h'.symm)]

/-- Reading the signs of a matching. -/
theorem pgo_match {N : Nat} {f : Nat → Nat} (M : Match N f) (cs : List Nat) (hlen : cs.length = N) (hcs : ∀ k (h : k < cs.length), cs[k] = if k < f k then 40 else 41) :
    ∀ (c k : Nat) (out st : List Nat), k + c = N → out.length = N → st.Pairwise (· > ·) → (∀ i, i ∈ st ↔ i < k ∧ k ≤ f i) → (∀ i, i < k → f i < k → out.getD i 0 = f i) →
      ∃ l, pgo (cs.drop k) k out st = some l ∧ l.length = N ∧ ∀ i, i < N → l.getD i 0 = f i
  | 0, k, out, st, hk, ho, hs, hm, hd => by
    obtain rfl : k = N := by omega
    have hst : st = [] := by
      cases st with
      | nil => rfl
      | cons i st =>
        have := (hm i).1 (by simp)
        have := M.lt i this.1
        omega
    subst hst
    rw [List.drop_eq_nil_of_le (by omega), pgo_end]
    exact ⟨out, rfl, ho, fun i hi => hd i hi (M.lt i hi)⟩
  | c + 1, k, out, st, hk, ho, hs, hm, hd => by
    have hkN : k < N := by omega
    have hcs' := hcs k (by omega)
    rw [List.drop_eq_getElem_cons (by omega), hcs']
    have hfl := M.lt k hkN
    have hfi := M.inv k hkN
    have hfn := M.ne k hkN
    by_cases h : k < f k
    · rw [if_pos h, pgo_open rfl]
      refine pgo_match M cs hlen hcs c (k + 1) out (k :: st) (by omega) ho ?_ ?_ ?_
      · exact List.pairwise_cons.2 ⟨fun i hi => ((hm i).1 hi).1, hs⟩
      · intro i
        rw [List.mem_cons, hm]
        constructor
        · rintro (rfl | ⟨h1, h2⟩)
          · omega
          · have : f i ≠ k := fun he => by rw [← he, M.inv i (by omega)] at h; omega
            omega
        · rintro ⟨h1, h2⟩
          by_cases he : i = k
          · exact .inl he
          · exact .inr ⟨by omega, by omega⟩
      · intro i hi hfi'
        have : i ≠ k := by rintro rfl; omega
        have : f i ≠ k := fun he => by rw [← he, M.inv i (by omega)] at h; omega
        exact hd i (by omega) (by omega)
    · have hlt : f k < k := by omega
      have hin : f k ∈ st := (hm _).2 ⟨hlt, by omega⟩
      rw [if_neg h]
      cases st with
      | nil => cases hin
      | cons i st =>
        have hp := List.pairwise_cons.1 hs
        have hi := (hm i).1 (by simp)
        have hie : i = f k := by
          rcases List.mem_cons.1 hin with he | he
          · exact he.symm
          · exfalso
            have h1 := hp.1 _ he
            have h2 : f i ≠ k := fun he => by
              have := M.inv i (by omega)
              rw [he] at this; omega
            refine M.nc (f k) i (by omega) (by omega) ?_
            rw [hfi]; omega
        subst hie
        rw [pgo_close rfl]
        refine pgo_match M cs hlen hcs c (k + 1) _ st (by omega) (by simp [ho]) hp.2 ?_ ?_
        · intro i
          constructor
          · intro hin'
            have h1 := (hm i).1 (by simp [hin'])
            have h2 := hp.1 i hin'
            have h3 : f i ≠ k := fun he => by
              have := M.inv i (by omega)
              rw [he] at this; omega
            omega
          · rintro ⟨h1, h2⟩
            have hne : i ≠ k := by rintro rfl; omega
            have h3 := (hm i).2 ⟨by omega, by omega⟩
            rcases List.mem_cons.1 h3 with he | he
            · rw [he, hfi] at h2; omega
            · exact he
        · intro i hi1 hi2
          rw [getD_set _ _ _ _ (by simp [ho]; omega), getD_set _ _ _ _ (by omega)]
          by_cases h1 : i = k
          · rw [if_pos h1, h1]
          · rw [if_neg h1]
            by_cases h2 : i = f k
            · rw [if_pos h2, h2, hfi]
            · rw [if_neg h2]
              refine hd i (by omega) ?_
              have : f i ≠ k := fun he => by
                have := M.inv i (by omega)
                rw [he] at this; omega
              omega

theorem parts_match {N : Nat} {f : Nat → Nat} (M : Match N f) (cs : List Nat) (hlen : cs.length = N) (hcs : ∀ k (h : k < cs.length), cs[k] = if k < f k then 40 else 41) :
    ∃ l, parts cs = some l ∧ l.length = N ∧ ∀ i, i < N → l.getD i 0 = f i := by
  have := pgo_match M cs hlen hcs N 0 (List.replicate cs.length 0) [] (by omega) (by simp [hlen]) List.Pairwise.nil (by simp) (fun i hi => absurd hi (by omega))
  rwa [List.drop_zero] at this

/-- The state of a reader: the open places descend, the others are joined in pairs, and no line goes over an open place. -/
structure Part (N k : Nat) (out st : List Nat) : Prop where
  len : out.length = N
  kN : k ≤ N
  desc : st.Pairwise (· > ·)
  lt : ∀ i ∈ st, i < k
  done : ∀ i, i < k → i ∉ st → out.getD i 0 < k ∧ out.getD i 0 ∉ st ∧ out.getD (out.getD i 0) 0 = i ∧ out.getD i 0 ≠ i
  over : ∀ i, i < k → i ∉ st → ∀ s ∈ st, ¬ (i < s ∧ s < out.getD i 0)
  nc : ∀ i j, i < k → i ∉ st → j < k → j ∉ st → ¬ (i < j ∧ j < out.getD i 0 ∧ out.getD i 0 < out.getD j 0)

theorem pgo_part {N : Nat} : ∀ (cs : List Nat) (k : Nat) (out st l : List Nat), k + cs.length = N → Part N k out st → pgo cs k out st = some l → Part N N l []
  | [], k, out, [], l, hk, P, h => by
    obtain rfl : k = N := by simpa using hk
    cases h; exact P
  | [], k, out, i :: st, l, hk, P, h => by cases h
  | c :: cs, k, out, st, l, hk, P, h => by
    simp only [List.length_cons] at hk
    by_cases h40 : c = 40
    · rw [pgo_open h40] at h
      refine pgo_part cs (k + 1) out (k :: st) l (by omega) ⟨P.len, by omega, ?_, ?_, ?_, ?_, ?_⟩ h
      · exact List.pairwise_cons.2 ⟨fun i hi => P.lt i hi, P.desc⟩
      · intro i hi
        rcases List.mem_cons.1 hi with rfl | hi
        · omega
        · have := P.lt i hi; omega
      · intro i hi hn
        simp only [List.mem_cons, not_or] at hn ⊢
        have h1 := P.done i (by omega) hn.2
        exact ⟨by omega, ⟨by omega, h1.2.1⟩, h1.2.2⟩
      · intro i hi hn s hs
        simp only [List.mem_cons, not_or] at hn
        have h1 := P.done i (by omega) hn.2
        rcases List.mem_cons.1 hs with rfl | hs
        · omega
        · exact P.over i (by omega) hn.2 s hs
      · intro i j hi hni hj hnj
        simp only [List.mem_cons, not_or] at hni hnj
        exact P.nc i j (by omega) hni.2 (by omega) hnj.2
    · by_cases h41 : c = 41
      · cases st with
        | nil => rw [pgo_none h41] at h; cases h
        | cons s st =>
          rw [pgo_close h41] at h
          have hd := List.pairwise_cons.1 P.desc
          have hsk := P.lt s (by simp)
          have hns : s ∉ st := fun hs => by have := hd.1 s hs; omega
          have hnk : k ∉ st := fun hs => by have := P.lt k (by simp [hs]); omega
          have hkN : k < N := by omega
          have hlen := P.len
          have get : ∀ i, ((out.set s k).set k s).getD i 0 = if i = k then s else if i = s then k else out.getD i 0 := fun i => by
            rw [getD_set _ _ _ _ (by simp [hlen]; omega), getD_set _ _ _ _ (by omega)]
          have old : ∀ i, i < k + 1 → i ∉ st → ¬ i = k → ¬ i = s → i < k ∧ i ∉ s :: st := fun i h1 h2 h3 h4 => ⟨by omega, by simp [h2, h4]⟩
          refine pgo_part cs (k + 1) _ st l (by omega) ⟨by simp [hlen], by omega, hd.2, fun i hi => by have := P.lt i (by simp [hi]); omega, ?_, ?_, ?_⟩ h
          · intro i hi hn
            simp only [get]
            by_cases h1 : i = k
            · subst h1
              rw [if_pos rfl, if_neg (show ¬ s = i by omega), if_pos rfl]
              exact ⟨by omega, hns, rfl, by omega⟩
            · rw [if_neg h1]
              by_cases h2 : i = s
              · subst h2
                rw [if_pos rfl, if_pos rfl]
                exact ⟨by omega, hnk, rfl, by omega⟩
              · rw [if_neg h2]
                obtain ⟨o1, o2⟩ := old i hi hn h1 h2
                obtain ⟨p1, p2, p3, p4⟩ := P.done i o1 o2
                simp only [List.mem_cons, not_or] at p2
                rw [if_neg (show ¬ out.getD i 0 = k by omega), if_neg p2.1]
                exact ⟨by omega, p2.2, p3, p4⟩
          · intro i hi hn t ht
            have htk := P.lt t (by simp [ht])
            have hts := hd.1 t ht
            simp only [get]
            by_cases h1 : i = k
            · rw [if_pos h1]; omega
            · rw [if_neg h1]
              by_cases h2 : i = s
              · rw [if_pos h2]; omega
              · rw [if_neg h2]
                obtain ⟨o1, o2⟩ := old i hi hn h1 h2
                exact P.over i o1 o2 t (by simp [ht])
          · intro i j hi hni hj hnj
            simp only [get]
            by_cases h1 : i = k
            · rw [if_pos h1]; omega
            · rw [if_neg h1]
              by_cases h3 : j = k
              · rw [if_pos h3]
                by_cases h2 : i = s
                · rw [if_pos h2]; omega
                · rw [if_neg h2]
                  obtain ⟨o1, o2⟩ := old i hi hni h1 h2
                  obtain ⟨p1, -⟩ := P.done i o1 o2
                  omega
              · rw [if_neg h3]
                by_cases h2 : i = s
                · rw [if_pos h2]
                  by_cases h4 : j = s
                  · omega
                  · rw [if_neg h4]
                    obtain ⟨o1, o2⟩ := old j hj hnj h3 h4
                    obtain ⟨p1, -⟩ := P.done j o1 o2
                    omega
                · rw [if_neg h2]
                  obtain ⟨o1, o2⟩ := old i hi hni h1 h2
                  by_cases h4 : j = s
                  · rw [if_pos h4]
                    have := P.over i o1 o2 s (by simp)
                    omega
                  · rw [if_neg h4]
                    obtain ⟨q1, q2⟩ := old j hj hnj h3 h4
                    exact P.nc i j o1 o2 q1 q2
      · rw [pgo_bad h40 h41] at h; cases h

theorem match_parts {cs l : List Nat} (h : parts cs = some l) : l.length = cs.length ∧ Match cs.length (fun k => l.getD k 0) := by
  have P := pgo_part (N := cs.length) cs 0 (List.replicate cs.length 0) [] l (by omega) ⟨by simp, by omega, List.Pairwise.nil, by simp, fun i hi => absurd hi (by omega), fun i hi => absurd hi (by omega), fun i j hi => absurd hi (by omega)⟩ h
  refine ⟨P.len, ⟨fun k hk => (P.done k hk (by simp)).1, fun k hk => (P.done k hk (by simp)).2.2.1, fun k hk => (P.done k hk (by simp)).2.2.2, fun i k hi hk => P.nc i k hi (by simp) hk (by simp)⟩⟩

/-- The mates of a diagram that is joined by places. -/
theorem joinTo_m (n : Nat) (hn8 : n ≤ 8) (l : List Nat) (hl : ∀ k, k < 2 * n → l.getD k 0 < 2 * n) : ∀ j, j ≤ 2 * n → ∀ i, (Dg.joinTo n l j).m i = if i < 2 * n ∧ pl n i < j then (pl n (l.getD (pl n i) 0) : Nat) else 0
  | 0, _, i => by
    show (Dg.zero n).m i = _
    rw [Dg.m_zero, if_neg (by omega)]; rfl
  | j + 1, hj, i => by
    have hp := pl_lt (n := n) (k := j) (by omega)
    rw [Dg.joinTo_succ, place_nat (by omega), place_nat (hl j (by omega)), Int.toNat_natCast, Dg.m_put _ _ _ _ (Dg.len_joinTo ..) (by omega), joinTo_m n hn8 l hl j (by omega)]
    by_cases h1 : i = pl n j
    · rw [if_pos h1, h1, if_pos ⟨hp, by rw [pl_pl (by omega)]; omega⟩, pl_pl (by omega)]
    · rw [if_neg h1]
      by_cases h2 : i < 2 * n ∧ pl n i < j
      · rw [if_pos h2, if_pos ⟨h2.1, by omega⟩]
      · rw [if_neg h2, if_neg ?_]
        rintro ⟨h3, h4⟩
        have : pl n i = j := by omega
        exact h1 (by rw [← this, pl_pl h3])

/-- A diagram by a matching of its places. -/
theorem ok_of_match {d : Dg} {n : Nat} {f : Nat → Nat} (M : Match (2 * n) f) (hn1 : 1 ≤ n) (hn8 : n ≤ 8) (hs : d.size = n) (hm : ∀ i, i < 2 * n → d.m i = (pl n (f (pl n i)) : Nat)) (h0 : ∀ i, 2 * n ≤ i → i < 16 → d.m i = 0) : d.Ok := by
  refine ⟨by omega, fun i hi => ?_, fun i hi k hk => ?_⟩
  · unfold Dg.OkAt
    rw [hs]
    by_cases hi2 : 2 * (n : Int) ≤ i
    · rw [if_pos hi2, h0 i (by omega) hi]
    · have hi' : i < 2 * n := by omega
      have hp := pl_lt hi'
      have hf := M.lt _ hp
      have hpf := pl_lt hf
      rw [if_neg hi2, hm i hi', Int.toNat_natCast, hm _ hpf, pl_pl hf, M.inv _ hp, pl_pl hi']
      refine ⟨by omega, ?_, rfl⟩
      intro he
      have : f (pl n i) = pl n i := by
        rw [← pl_pl hf]; congr 1; omega
      exact M.ne _ hp this
  · rw [hs] at hi hk
    have hi' : i < 2 * n := by omega
    have hk' : k < 2 * n := by omega
    have hpi := pl_lt hi'
    have hpk := pl_lt hk'
    have hfi := M.lt _ hpi
    have hfk := M.lt _ hpk
    have c1 := M.nc _ _ hpi hpk
    have c2 := M.nc _ _ hpi hfk
    have c3 := M.nc _ _ hfi hpk
    have c4 := M.nc _ _ hfi hfk
    rw [M.inv _ hpk] at c2 c4
    rw [M.inv _ hpi] at c3 c4
    unfold Dg.Cross Dg.low Dg.high
    rw [hs, Int.toNat_natCast, Int.toNat_natCast, hm i hi', hm k hk', place_nat hi', place_nat hk', place_nat (pl_lt hfi), place_nat (pl_lt hfk), pl_pl hfi, pl_pl hfk]
    omega

/-- The matching of the places of a diagram. -/
def Dg.mt (d : Dg) (n k : Nat) : Nat := pl n (d.m (pl n k)).toNat

theorem match_of_good {d : Dg} {n : Nat} (h : Good d) (hs : d.size = n) : Match (2 * n) (d.mt n) := by
  have T := two_of_good h h hs hs
  refine ⟨fun k hk => pl_lt (T.lt false _ (pl_lt hk)), fun k hk => ?_, fun k hk he => ?_, fun i k hi hk => T.nc false i k hi hk⟩
  · have h1 := T.lt false _ (pl_lt hk)
    show pl n (d.m (pl n (pl n (d.m (pl n k)).toNat))).toNat = k
    rw [pl_pl (show (d.m (pl n k)).toNat < 2 * n from h1)]
    have := T.inv false _ (pl_lt hk)
    rw [show (d.m (d.m (pl n k)).toNat).toNat = pl n k from this, pl_pl hk]
  · have h1 := T.lt false _ (pl_lt hk)
    have he' : pl n (d.m (pl n k)).toNat = k := he
    have : (d.m (pl n k)).toNat = pl n k := by have h2 := congrArg (pl n) he'; rwa [pl_pl (show (d.m (pl n k)).toNat < 2 * n from h1)] at h2
    exact T.ne false _ (pl_lt hk) this

theorem ctxt_length {d : Dg} {n : Nat} (hs : d.size = n) : d.ctxt.length = 2 * n := by
  simp [Dg.ctxt, Dg.txt, hs]; omega

theorem ctxt_at {d : Dg} {n : Nat} (h : Good d) (hs : d.size = n) (k : Nat) (hk : k < d.ctxt.length) : d.ctxt[k] = if k < d.mt n k then 40 else 41 := by
  have hk' : k < 2 * n := by rw [ctxt_length hs] at hk; exact hk
  have hp := pl_lt hk'
  have ha := h.at hs _ hp
  have e : d.m (pl n k) = ((d.m (pl n k)).toNat : Nat) := by omega
  have ho : d.other (k : Int) = (d.mt n k : Nat) := by
    unfold Dg.other Dg.mt
    rw [hs, place_nat hk', Int.toNat_natCast, e, place_nat (by omega)]
    rw [Int.toNat_natCast]
  simp only [Dg.ctxt, Dg.txt, List.getElem_map, List.getElem_range]
  unfold Dg.sign
  rw [ho]
  by_cases h1 : k < d.mt n k
  · rw [if_pos h1, if_pos (by omega)]; rfl
  · rw [if_neg h1, if_neg (by omega)]; rfl

/-- A diagram is read from its text. -/
theorem read_good {d : Dg} (h : Good d) : readD d.ctxt = some d := by
  obtain ⟨n, hs⟩ : ∃ n : Nat, d.size = n := ⟨d.size.toNat, by have := h.ok.1.1; omega⟩
  have h18 := h.ok.1
  have hlen := ctxt_length hs
  obtain ⟨l, h1, h2, h3⟩ := parts_match (match_of_good h hs) d.ctxt hlen (fun k hk => ctxt_at h hs k hk)
  unfold readD
  rw [if_pos (by omega), h1]
  show some _ = some _
  congr 1
  rw [hlen, show 2 * n / 2 = n from by omega]
  have M := match_of_good h hs
  refine Dg.ext (Dg.len_joinTo ..) h.wf.len (by rw [size_joinTo, hs]) (fun i hi => ?_)
  rw [joinTo_m n (by omega) l (fun k hk => by rw [h3 k hk]; exact M.lt k hk) (2 * n) (Nat.le_refl _)]
  by_cases hi2 : i < 2 * n
  · have hp := pl_lt hi2
    have ha := h.at hs i hi2
    rw [if_pos ⟨hi2, hp⟩, h3 _ hp]
    unfold Dg.mt
    rw [pl_pl hi2, pl_pl (by omega)]
    omega
  · rw [if_neg (by omega)]
    have := h.ok.2.1 i hi
    unfold Dg.OkAt at this
    rw [if_pos (by omega)] at this
    exact this.symm

theorem iok_iff {d : Dg} (hw : d.Wf) : d.IOk ↔ d.Ok := by
  constructor
  · rintro ⟨h18, hrg, hr⟩
    obtain ⟨n, hs⟩ : ∃ n : Nat, d.size = n := ⟨d.size.toNat, by omega⟩
    have hlen := ctxt_length hs
    unfold readD at hr
    rw [if_pos (by omega)] at hr
    obtain ⟨l, hl, hd⟩ := Option.map_eq_some_iff.1 hr
    obtain ⟨h1, M⟩ := match_parts hl
    rw [hlen] at M hd
    rw [show 2 * n / 2 = n from by omega] at hd
    have hm := joinTo_m n (by omega) l (fun k hk => M.lt k hk) (2 * n) (Nat.le_refl _)
    rw [hd] at hm
    refine ok_of_match M (by omega) (by omega) hs (fun i hi => ?_) (fun i hi _ => ?_)
    · rw [hm i, if_pos ⟨hi, pl_lt hi⟩]
    · rw [hm i, if_neg (by omega)]; rfl
  · intro h
    refine ⟨h.1, fun i hi => ?_, read_good ⟨hw, h⟩⟩
    have := h.2.1 i hi
    unfold Dg.OkAt at this
    unfold Dg.RgAt
    split
    · rename_i h2; rw [if_pos h2] at this; exact this
    · rename_i h2; rw [if_neg h2] at this; exact this.1

theorem iokB_eq {d : Dg} (hw : d.Wf) : d.iokB = d.okB := by
  unfold Dg.iokB Dg.okB
  by_cases h : d.Ok
  · rw [decide_eq_true h, decide_eq_true ((iok_iff hw).2 h)]
  · rw [decide_eq_false h, decide_eq_false (fun h' => h ((iok_iff hw).1 h'))]

/-- Diagrams of one text are one. -/
theorem txt_inj {d e : Dg} (hd : Good d) (he : Good e) (h : d.txt = e.txt) : d = e := by
  have h1 := read_good hd
  have h2 := read_good he
  unfold Dg.ctxt at h1 h2
  rw [h, h2] at h1
  exact (Option.some.inj h1).symm
end Go.Proofs.Yticmlgnolbccjaa
