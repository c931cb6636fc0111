/-
Freight: copies and comparisons of freights: contracts.
Conditions: none.
-/
import Derived.Test.YtaeaamhlejhgkaaGreatDoorHE
import Derived.Test.YtaeaamhlejhgkaaGreatDoorHJ
import Derived.Test.YtaeaamhlejhgkaaGreatDoorQG8
set_option linter.unusedVariables false
set_option linter.unusedSimpArgs false
namespace Go.Sas
open Go.Proofs
set_option maxRecDepth 100000
abbrev orC (o : Ord) : List AV := [I o.u, I o.d, I o.l, I o.s]
def eSameS : List AV → Option ((AV → Prop) → Prop)
  | [.vs 2 xs, .vs 2 ys] => some fun K => ∃ l l' : List (Int × Int), xs = l.map sp ∧ ys = l'.map sp ∧ l.length ≤ 9223372036854775807 ∧ l'.length ≤ 9223372036854775807 ∧ ∀ q, q = decide (l = l') → K (B q)
  | _ => none
theorem eSameS_ok : ∀ args pt, eSameS args = some pt → ∀ (H : AHeap) (Kk : AV → AHeap → Prop), pt (fun r => Kk r H) → ACalls Tryz.prog 41 args H Kk := by
  intro args pt h H Kk hk
  unfold eSameS at h
  split at h
  · cases h
    obtain ⟨l, l', rfl, rfl, h1, h2, h3⟩ := hk
    exact p41 _ _ h1 h2 H (h3 _ rfl)
  · cases h
/-- a freight is the same as itself -/
theorem p14s (a b c d : Int) (cs : List (Int × Int)) (os : List Ord) (hc : cs.length ≤ 1000000) (ho : os.length ≤ 1000000) (H : AHeap) {Kk : AV → AHeap → Prop} (h : Kk (B true) H) :
    ACalls Tryz.prog 14 [frV a b c d (.vs 2 (cs.map sp)) (.vs 4 (os.map orV)), frV a b c d (.vs 2 (cs.map sp)) (.vs 4 (os.map orV))] H Kk := by
  refine (fun q => pureC (by rfl) (by rfl) q H h) ?_
  clear h
  intro Kk h
  obtain ⟨xs, hxs⟩ : ∃ xs, xs = cs.map sp := ⟨_, rfl⟩
  obtain ⟨ys, hys⟩ : ∃ ys, ys = os.map orV := ⟨_, rfl⟩
  rw [← hxs, ← hys]
  obtain ⟨A, hA⟩ : ∃ A, A = std := ⟨_, rfl⟩
  have hv : A.vlen ys = iLen os.length := by subst hA; simp [std, hys]
  have hee : ∀ x, A.eq x x = true := by subst hA; intro x; simp [std, iEq]
  have hne : ∀ x, A.ne x x = false := by subst hA; intro x; simp [std, iNe]
  have hnb : ∀ b, A.bnot b = !b := by subst hA; intro b; rfl
  have hba : ∀ b b', A.band b b' = (b && b') := by subst hA; intro b b'; rfl
  have hd1 : A.bnot (A.band (A.eq a a) (A.band (A.eq b b) true)) = false := by simp [hee, hnb, hba]
  have hd2 : A.bnot (A.band (A.eq c c) (A.band (A.eq d d) true)) = false := by simp [hee, hnb, hba]
  refine go14 rfl (SGo_run hA ⟨[], [], (41, eSameS) :: [], []⟩ (.cons eSameS_ok .nil) .nil 200 fun T TD hT hTD => ?_)
  cbv
  split <;> cbv
  · rename_i hz; exact Bool.noConfusion (hz.symm.trans hd1)
  split <;> cbv
  · rename_i hz; exact Bool.noConfusion (hz.symm.trans hd2)
  refine Exists.intro cs (Exists.intro cs (And.intro hxs (And.intro hxs (And.intro (by omega) (And.intro (by omega) ?_)))))
  intro q hq; cbv
  have hq1 : q = true := by rw [hq]; simp
  have hq2 : A.bnot q = false := by rw [hnb, hq1]; rfl
  split <;> cbv
  · rename_i hz; exact Bool.noConfusion (hz.symm.trans hq2)
  split <;> cbv
  · rename_i hz; exact Bool.noConfusion (hz.symm.trans (hne _))
  rw [hT]
  refine AGo_upE [2, 3] os.length (fun j (_ : Unit) => True) (fun j _ i => [(5, I i)]) (fun _ _ => [.own 0 [I a, I b, I c, I d, .vs 2 xs, .vs 4 ys], .own 0 [I a, I b, I c, I d, .vs 2 xs, .vs 4 ys]]) () trivial ⟨rfl, trivial⟩ (.inl rfl) fun j _ i hi hj hP Bk hB => ?_
  have hlt : A.lt i (A.vlen ys) = decide (j < os.length) := by subst hA; exact lt_len (by simp [hys]) hi
  have hadd : ∀ N, j < N → N ≤ 9223372036854775807 → A.add .i64 i 1 = iLen (j + 1) := fun N hj hN => by subst hA; exact add_one hi hj hN
  refine SGo_run hA ⟨[], [], [], []⟩ .nil .nil 200 fun T TD hT hTD => ?_
  cbv
  split <;> cbv
  · rename_i hk0
    have hk1 : j < os.length := by have hz := hlt.symm.trans hk0; simpa using hz
    clear hk0
    obtain ⟨⟨ou, od, ol, ol2⟩, hx⟩ : ∃ x, os[j]? = some x := ⟨_, List.getElem?_eq_getElem hk1⟩
    have hix : A.ix 4 4 ys i [I ou, I od, I ol, I ol2] := by subst hA; exact ix_map hys hi hx rfl
    refine Exists.intro _ (And.intro hix ?_); cbv
    refine Exists.intro _ (And.intro hix ?_); cbv
    have hd3 : A.bnot (A.band (A.eq ou ou) (A.band (A.eq od od) (A.band (A.eq ol ol) (A.band (A.eq ol2 ol2) true)))) = false := by simp [hee, hnb, hba]
    split <;> cbv
    · rename_i hz; exact Bool.noConfusion (hz.symm.trans hd3)
    · exact hB () _ _ hk1 trivial ⟨congrArg I (hadd _ hk1 (by omega)), trivial⟩ ⟨rfl, rfl, trivial⟩ (.inl rfl)
  · exact h
def eSameFr : List AV → Option ((AV → Prop) → Prop)
  | [.agg [.lit (.int .i64 a), .lit (.int .i64 b), .lit (.int .i64 c), .lit (.int .i64 d), .vs 2 xs, .vs 4 ys], .agg [.lit (.int .i64 a'), .lit (.int .i64 b'), .lit (.int .i64 c'), .lit (.int .i64 d'), .vs 2 xs', .vs 4 ys']] =>
    some fun K => ∃ (cs : List (Int × Int)) (os : List Ord), a' = a ∧ b' = b ∧ c' = c ∧ d' = d ∧ xs' = xs ∧ ys' = ys ∧ xs = cs.map sp ∧ ys = os.map orV ∧ cs.length ≤ 1000000 ∧ os.length ≤ 1000000 ∧ K (B true)
  | _ => none
theorem eSameFr_ok : ∀ args pt, eSameFr args = some pt → ∀ (H : AHeap) (Kk : AV → AHeap → Prop), pt (fun r => Kk r H) → ACalls Tryz.prog 14 args H Kk := by
  intro args pt h H Kk hk
  unfold eSameFr at h
  split at h
  · cases h
    obtain ⟨cs, os, rfl, rfl, rfl, rfl, rfl, rfl, rfl, rfl, h1, h2, h3⟩ := hk
    exact p14s _ _ _ _ _ _ h1 h2 H h3
  · cases h
end Go.Sas
