/- Brackets: with which places those of a text of brackets are joined. -/
import Derived.Test.YticmlgnolbccjaaT1
set_option linter.unusedVariables false
set_option linter.unusedSimpArgs false
namespace Go.Proofs.Yticmlgnolbccjaa

/-- The codes of the bytes of a text. -/
def codes (s : ByteArray) : List Nat := s.data.toList.map (·.toNat)
theorem codes_length (s : ByteArray) : (codes s).length = s.size := by unfold codes; rw [List.length_map, Array.length_toList]; rfl
theorem codes_drop (s : ByteArray) (k : Nat) (h : k < s.size) : (codes s).drop k = s[k].toNat :: (codes s).drop (k + 1) := by
  rw [List.drop_eq_getElem_cons (by rw [codes_length]; exact h)]
  congr 1
  simp [codes]; rfl

/-- From the place k on: out are the places joined so far, st the open places, the last one first. -/
def pgo : List Nat → Nat → List Nat → List Nat → Option (List Nat)
  | [], _, out, st => if st = [] then some out else none
  | c :: cs, k, out, st =>
    if c = 40 then pgo cs (k + 1) out (k :: st)
    else if c = 41 then
      match st with
      | [] => none
      | i :: st' => pgo cs (k + 1) ((out.set i k).set k i) st'
    else none

theorem pgo_open {c : Nat} (h : c = 40) (cs : List Nat) (k : Nat) (out st : List Nat) : pgo (c :: cs) k out st = pgo cs (k + 1) out (k :: st) := by
  rw [pgo.eq_def]; exact if_pos h
theorem pgo_close {c : Nat} (h : c = 41) (cs : List Nat) (k i : Nat) (out st : List Nat) : pgo (c :: cs) k out (i :: st) = pgo cs (k + 1) ((out.set i k).set k i) st := by
  subst h; rfl
theorem pgo_none {c : Nat} (h : c = 41) (cs : List Nat) (k : Nat) (out : List Nat) : pgo (c :: cs) k out [] = none := by
  subst h; rfl
theorem pgo_bad {c : Nat} (h : ¬ c = 40) (h' : ¬ c = 41) (cs : List Nat) (k : Nat) (out st : List Nat) : pgo (c :: cs) k out st = none := by
  rw [pgo.eq_def]; simp only; rw [if_neg h, if_neg h']
theorem pgo_end (k : Nat) (out : List Nat) : pgo [] k out [] = some out := rfl
theorem pgo_left (k i : Nat) (out st : List Nat) : pgo [] k out (i :: st) = none := rfl

/-- The partners of the places of a text of brackets. -/
def parts (cs : List Nat) : Option (List Nat) := pgo cs 0 (List.replicate cs.length 0) []

namespace Dg
/-- The diagram of size n whose places are joined with the first k of some partners. -/
def joinTo (n : Int) (l : List Nat) (k : Nat) : Dg := (List.range k).foldl (fun d (j : Nat) => d.put (place n j).toNat (place n (l.getD j 0 : Nat))) (zero n)
theorem joinTo_succ (n : Int) (l : List Nat) (k : Nat) : joinTo n l (k + 1) = (joinTo n l k).put (place n k).toNat (place n (l.getD k 0 : Nat)) := by simp [joinTo, List.range_succ]
theorem len_joinTo (n : Int) (l : List Nat) (k : Nat) : (joinTo n l k).mate.length = 16 := by
  induction k with
  | zero => simp [joinTo, len_zero]
  | succ k ih => rw [joinTo_succ, len_put, ih]
end Dg

/-- The diagram with a text. -/
def readD (cs : List Nat) : Option Dg :=
  if cs.length % 2 = 0 ∧ 2 ≤ cs.length ∧ cs.length ≤ 16 then (parts cs).map fun l => Dg.joinTo (cs.length / 2 : Nat) l cs.length else none

theorem pgo_bound : ∀ (cs : List Nat) (k : Nat) (out st l : List Nat), pgo cs k out st = some l → (∀ x ∈ out, x < k + cs.length) → (∀ x ∈ st, x < k) → l.length = out.length ∧ ∀ x ∈ l, x < k + cs.length
  | [], k, out, [], l, h, ho, _ => by cases h; exact ⟨rfl, ho⟩
  | [], k, out, i :: st, l, h, _, _ => by cases h
  | c :: cs, k, out, st, l, h, ho, hs => by
    simp only [List.length_cons] at ho ⊢
    by_cases h40 : c = 40
    · rw [pgo_open h40] at h
      have := pgo_bound cs (k + 1) out (k :: st) l h (fun x hx => by have := ho x hx; omega) (fun x hx => by
        rcases List.mem_cons.1 hx with rfl | hx
        · omega
        · have := hs x hx; omega)
      exact ⟨this.1, fun x hx => by have := this.2 x hx; omega⟩
    · by_cases h41 : c = 41
      · cases st with
        | nil => rw [pgo_none h41] at h; cases h
        | cons i st =>
          rw [pgo_close h41] at h
          have hi := hs i (by simp)
          have := pgo_bound cs (k + 1) ((out.set i k).set k i) st l h (fun x hx => by
            rcases List.mem_or_eq_of_mem_set hx with hx | rfl
            · rcases List.mem_or_eq_of_mem_set hx with hx | rfl
              · have := ho x hx; omega
              · omega
            · omega) (fun x hx => by have := hs x (by simp [hx]); omega)
          exact ⟨by simpa using this.1, fun x hx => by have := this.2 x hx; omega⟩
      · rw [pgo_bad h40 h41] at h; cases h

theorem parts_bound {cs l : List Nat} (h : parts cs = some l) : l.length = cs.length ∧ ∀ x ∈ l, x < cs.length := by
  by_cases h0 : cs = []
  · subst h0; cases h; simp
  · have hpos : 0 < cs.length := List.length_pos_iff.2 h0
    have := pgo_bound cs 0 _ [] l h (fun x hx => by rw [List.eq_of_mem_replicate hx]; omega) (by simp)
    simpa using this

theorem joinTo_wf (n : Int) (l : List Nat) (h1 : 1 ≤ n) (h8 : n ≤ 8) (hl : (l.length : Int) = 2 * n) (hx : ∀ x ∈ l, x < l.length) : ∀ k, k ≤ l.length → (Dg.joinTo n l k).Wf
  | 0, _ => Dg.zero_wf n (by omega) (by omega)
  | k + 1, hk => by
    rw [Dg.joinTo_succ]
    have hxk : l.getD k 0 < l.length := hx _ (by rw [List.getD_eq_getElem?_getD, List.getElem?_eq_getElem (by omega)]; exact List.getElem_mem (by omega))
    have hp1 := place_range (n := n) (i := k) (by omega) (by omega)
    have hp2 := place_range (n := n) (i := (l.getD k 0 : Nat)) (by omega) (by omega)
    exact (joinTo_wf n l h1 h8 hl hx k (by omega)).put _ _ (by omega) (by omega) (by omega)

theorem size_joinTo (n : Int) (l : List Nat) (k : Nat) : (Dg.joinTo n l k).size = n := by
  induction k with
  | zero => rfl
  | succ k ih => rw [Dg.joinTo_succ]; exact ih

theorem readD_some {cs : List Nat} {e : Dg} (h : readD cs = some e) : e.Wf ∧ e.size = (cs.length / 2 : Nat) ∧ 1 ≤ e.size ∧ e.size ≤ 8 := by
  unfold readD at h
  split at h
  · rename_i hc
    obtain ⟨l, hl, rfl⟩ := Option.map_eq_some_iff.1 h
    have hb := parts_bound hl
    rw [← hb.1]
    have h1 : (1 : Int) ≤ (l.length / 2 : Nat) := by omega
    have h8 : ((l.length / 2 : Nat) : Int) ≤ 8 := by omega
    refine ⟨joinTo_wf _ l h1 h8 (by omega) (by rw [hb.1]; exact hb.2) _ (Nat.le_refl _), ?_, ?_, ?_⟩ <;> rw [size_joinTo] <;> first | rfl | exact h1 | exact h8
  · cases h
end Go.Proofs.Yticmlgnolbccjaa
