/-
Laws with texts: plain law of the library's Split at one byte.
Conditions: none.
-/
import Derived.Test.YtpokfjhlilbpfaaGreatDoorXAg
set_option linter.unusedVariables false
set_option linter.unusedSimpArgs false
namespace Go.Sas
open Go.Lib
/-! ### The library's Split at one byte -/
theorem miss_or_hit (c : UInt8) (s : List UInt8) : (index s [c] = -1 ∧ ∀ b ∈ s, b ≠ c) ∨ ∃ (x r : List UInt8), s = x ++ c :: r ∧ (∀ b ∈ x, b ≠ c) ∧ index s [c] = x.length := by
  rw [index_one]
  have hge := indexByte_ge s c
  by_cases h : indexByte s c = -1
  · refine .inl ⟨h, fun b hb he => ?_⟩
    obtain ⟨k, hk⟩ := List.mem_iff_getElem?.1 hb
    exact indexByte_none h k (by rw [hk, he])
  · obtain ⟨o, ho⟩ : ∃ o : Nat, indexByte s c = o := ⟨(indexByte s c).toNat, by omega⟩
    obtain ⟨h1, h2⟩ := indexByte_some ho
    have hlt := (List.getElem?_eq_some_iff.1 h1).1
    refine .inr ⟨s.take o, s.drop (o + 1), ?_, fun b hb he => ?_, ?_⟩
    · have e1 := List.take_append_drop o s
      have e2 : s.drop o = c :: s.drop (o + 1) := by
        rw [List.drop_eq_getElem_cons hlt]
        congr 1
        rw [List.getElem?_eq_getElem hlt] at h1
        exact Option.some.inj h1
      rw [e2] at e1
      exact e1.symm
    · obtain ⟨k, hk⟩ := List.mem_iff_getElem?.1 hb
      rw [List.getElem?_take] at hk
      split at hk
      · exact h2 k (by assumption) (by rw [hk, he])
      · cases hk
    · rw [ho, List.length_take]; omega
theorem count_no {c : UInt8} {s : List UInt8} (h : ∀ b ∈ s, b ≠ c) : s.count c = 0 := List.count_eq_zero.2 fun hm => h c hm rfl
theorem countFrom_one (c : UInt8) : ∀ (fuel : Nat) (s : List UInt8), s.length < fuel → countFrom [c] fuel s = s.count c
  | 0, s, h => absurd h (Nat.not_lt_zero _)
  | fuel + 1, s, h => by
    rcases miss_or_hit c s with ⟨h1, h2⟩ | ⟨x, r, h1, h2, h3⟩
    · unfold countFrom
      rw [if_pos (by rw [h1]; rfl), count_no h2]
    · unfold countFrom
      rw [if_neg (by rw [h3]; simp)]
      have e : s.drop ((index s [c]).toNat + [c].length) = r := by rw [h3, h1]; simp
      rw [e, countFrom_one c fuel r (by rw [h1] at h; simp at h; omega), h1, List.count_append, count_no h2, List.count_cons_self]
      omega
theorem count_one (c : UInt8) (s : List UInt8) : Go.Lib.count s [c] = s.count c := countFrom_one c _ _ (by omega)
theorem splitK_one (c : UInt8) : ∀ (k : Nat) (s : List UInt8), s.count c ≤ k → splitK [c] 0 k s = splitL c s
  | 0, s, h => by
    rw [splitL_miss]
    · rfl
    · intro b hb he
      subst he
      have := List.count_pos_iff.2 hb
      omega
  | k + 1, s, h => by
    rcases miss_or_hit c s with ⟨h1, h2⟩ | ⟨x, r, h1, h2, h3⟩
    · unfold splitK
      rw [if_pos (by rw [h1]; rfl), splitL_miss h2]
    · unfold splitK
      rw [if_neg (by rw [h3]; simp)]
      have e : s.drop ((index s [c]).toNat + [c].length) = r := by rw [h3, h1]; simp
      have e2 : s.take ((index s [c]).toNat + 0) = x := by rw [h3, h1]; simp
      rw [e, e2]
      have hc : r.count c ≤ k := by
        rw [h1, List.count_append, List.count_cons_self] at h; omega
      rw [splitK_one c k r hc, h1, splitL_hit h2]
theorem split_one (c : UInt8) (s : List UInt8) : Go.Lib.split s [c] = splitL c s := by
  unfold Go.Lib.split
  rw [count_one]
  exact splitK_one c _ _ (Nat.le_refl _)
end Go.Sas
