/-
What the functions that ice rests on yield, part 3: parts of tables, a search.
Conditions: none.
-/
import Derived.Test.YtelmlpjkpebcgaaB2
set_option linter.unusedVariables false
set_option linter.unusedSimpArgs false
namespace Go.Sas
open Go.Proofs
set_option maxRecDepth 100000
theorem lastF_take {l : List (Int × Int)} {n : Int} {o x : Int × Int} {j : Nat} (hx : l[j]? = some x) : (l.take (j + 1)).foldl (lastF n) o = lastF n ((l.take j).foldl (lastF n) o) x := by
  rw [List.take_add_one, hx]; simp
theorem p130 (l : List (Int × Int)) (n : Int) (h0 : l ≠ []) (hl : l.length ≤ 9223372036854775807) (H : AHeap) {Kk : AV → AHeap → Prop} (h : Kk (I (partS l n)) H) : ACalls Try.prog 130 [.vs 2 (l.map sp), I n] H Kk := by
  obtain ⟨⟨x0, y0⟩, hx0⟩ : ∃ x, l[0]? = some x := by cases l with | nil => exact absurd rfl h0 | cons x l' => exact ⟨x, rfl⟩
  have hd : l.headD (0, 0) = (x0, y0) := by cases l with | nil => cases hx0 | cons x l' => simpa using hx0
  refine pureC (by rfl) (by rfl) (fun Kk h => ?_) H h
  obtain ⟨xs, hxs⟩ : ∃ xs, xs = l.map sp := ⟨_, rfl⟩
  rw [← hxs]
  obtain ⟨A, hA⟩ : ∃ A, A = std := ⟨_, rfl⟩
  obtain ⟨S, hS⟩ : ∃ S, S = stS := ⟨_, rfl⟩
  obtain ⟨W, hW⟩ : ∃ W, W = partS l n := ⟨_, rfl⟩
  rw [← hW] at h
  have hv : A.vlen xs = iLen l.length := by subst hA; simp [std, hxs]
  have hi0 : A.ix 2 2 xs 0 [I x0, I y0] := by subst hA; exact ix_map (j := 0) hxs rfl hx0 rfl
  refine go130 rfl (SGo_run hA ⟨[], [], [], []⟩ .nil .nil 200 fun T TD hT hTD => ?_)
  cbv
  refine ⟨_, hi0, ?_⟩
  cbv
  rw [hT]
  refine AGo_upS l.length (fun j (o : Int) => o = ((l.take j).foldl (lastF n) (x0, y0)).2) (fun _ o i => [(0, .vs 2 xs), (1, I n), (4, I 0), (5, I o), (6, I i)]) (fun _ _ => []) y0 rfl ⟨rfl, rfl, rfl, rfl, rfl, trivial⟩ (.inl rfl) fun j o i hi hj hP Bk hB => ?_
  have hlt : A.lt i (A.vlen xs) = decide (j < l.length) := by subst hA; exact lt_len (by simp [hxs]) hi
  have hadd : ∀ N, j < N → N ≤ 9223372036854775807 → A.add .i64 i 1 = iLen (j + 1) := fun N hj hN => by subst hA; exact add_one hi hj hN
  refine SGo_run hA ⟨[], [], [], []⟩ .nil .nil 200 fun T TD hT hTD => ?_
  cbv
  split <;> cbv
  · rename_i hk1
    have hk1 : j < l.length := by have := hlt.symm.trans hk1; simpa using this
    obtain ⟨⟨x, y⟩, hx⟩ : ∃ x, l[j]? = some x := ⟨_, List.getElem?_eq_getElem hk1⟩
    have hix : A.ix 2 2 xs i [I x, I y] := by subst hA; exact ix_map hxs hi hx rfl
    repeat' (first | (refine Exists.intro _ (And.intro hix ?_); cbv) | (split <;> cbv))
    · rename_i hq
      have hq : x ≤ n := by have hq : A.le x n = true := hq; subst hA; simpa [std, iLe] using hq
      exact hB y _ _ hk1 (by rw [lastF_take hx]; simp [lastF, hq]) ⟨rfl, rfl, rfl, rfl, congrArg I (hadd _ hk1 (by omega)), trivial⟩ (.inl rfl)
    · rename_i hq
      have hq : ¬ x ≤ n := by have hq : A.le x n = false := hq; subst hA; simpa [std, iLe] using hq
      exact hB o _ _ hk1 (by rw [lastF_take hx]; simp only [lastF]; rw [if_neg (by simpa using hq)]; exact hP) ⟨rfl, rfl, rfl, rfl, congrArg I (hadd _ hk1 (by omega)), trivial⟩ (.inl rfl)
  · rename_i hk1
    have hk1 : ¬ j < l.length := by have := hlt.symm.trans hk1; simpa using this
    refine leaf h (congrArg I ?_) rfl
    rw [hP, hW, partS, lastS, hd, List.take_of_length_le (by omega)]
theorem p140 (a b : Int) (H : AHeap) {Kk : AV → AHeap → Prop} (h : Kk (I a) H) : ACalls Try.prog 140 [.agg [I a, I b]] H Kk := by
  refine pureC (by rfl) (by rfl) (fun Kk h => ?_) H h
  obtain ⟨A, hA⟩ : ∃ A, A = std := ⟨_, rfl⟩
  refine go140 rfl (SGo_run hA ⟨[], [], [], []⟩ .nil .nil 200 fun T TD hT hTD => ?_)
  cbv
  exact h
def eFrom : List AV → Option ((AV → Prop) → Prop)
  | [.agg [.lit (.int .i64 a), .lit (.int .i64 _)]] => some fun K => K (I a)
  | _ => none
theorem eFrom_ok : ∀ args pt, eFrom args = some pt → ∀ (H : AHeap) (Kk : AV → AHeap → Prop), pt (fun r => Kk r H) → ACalls Try.prog 140 args H Kk := by
  intro args pt h H Kk hk
  unfold eFrom at h
  split at h
  · cases h; exact p140 _ _ H hk
  · cases h
theorem p139 (l : List (Int × Int)) (n : Int) (h0 : l ≠ []) (hl : l.length ≤ 9223372036854775807) (H : AHeap) {Kk : AV → AHeap → Prop} (h : Kk (.agg [I (lastS l n).1, I (lastS l n).2]) H) : ACalls Try.prog 139 [.vs 2 (l.map sp), I n, .fn 140 []] H Kk := by
  obtain ⟨⟨x0, y0⟩, hx0⟩ : ∃ x, l[0]? = some x := by cases l with | nil => exact absurd rfl h0 | cons x l' => exact ⟨x, rfl⟩
  have hd : l.headD (0, 0) = (x0, y0) := by cases l with | nil => cases hx0 | cons x l' => simpa using hx0
  refine pureC (by rfl) (by rfl) (fun Kk h => ?_) H h
  obtain ⟨xs, hxs⟩ : ∃ xs, xs = l.map sp := ⟨_, rfl⟩
  rw [← hxs]
  obtain ⟨A, hA⟩ : ∃ A, A = std := ⟨_, rfl⟩
  have hv : A.vlen xs = iLen l.length := by subst hA; simp [std, hxs]
  have hi0 : A.ix 2 2 xs 0 [I x0, I y0] := by subst hA; exact ix_map (j := 0) hxs rfl hx0 rfl
  refine go139 rfl (SGo_run hA ⟨[], [], [(140, eFrom)], []⟩ (.cons eFrom_ok .nil) .nil 200 fun T TD hT hTD => ?_)
  cbv
  refine ⟨_, hi0, ?_⟩
  cbv
  rw [hT]
  refine AGo_upS l.length (fun j (o : Int × Int) => o = (l.take j).foldl (lastF n) (x0, y0)) (fun _ o i => [(0, .vs 2 xs), (1, I n), (2, .fn 140 []), (6, .mp 0 0 0), (7, .mp 1 0 0), (13, .vs 2 xs), (14, I (A.vlen xs)), (15, I i)]) (fun _ o => [.own 0 [I 0, I 0], .own 0 [I o.1, I o.2]]) (x0, y0) rfl ⟨rfl, rfl, rfl, rfl, rfl, rfl, rfl, rfl, trivial⟩ (.inl rfl) fun j o i hi hj hP Bk hB => ?_
  obtain ⟨o1, o2⟩ := o
  have hlt : A.lt i (A.vlen xs) = decide (j < l.length) := by subst hA; exact lt_len (by simp [hxs]) hi
  have hadd : ∀ N, j < N → N ≤ 9223372036854775807 → A.add .i64 i 1 = iLen (j + 1) := fun N hj hN => by subst hA; exact add_one hi hj hN
  refine SGo_run hA ⟨[], [], [(140, eFrom)], []⟩ (.cons eFrom_ok .nil) .nil 200 fun T TD hT hTD => ?_
  cbv
  split <;> cbv
  · rename_i hk1
    have hk1 : j < l.length := by have := hlt.symm.trans hk1; simpa using this
    obtain ⟨⟨x, y⟩, hx⟩ : ∃ x, l[j]? = some x := ⟨_, List.getElem?_eq_getElem hk1⟩
    have hix : A.ix 2 2 xs i [I x, I y] := by subst hA; exact ix_map hxs hi hx rfl
    repeat' (first | (refine Exists.intro _ (And.intro hix ?_); cbv) | (split <;> cbv))
    · rename_i hq
      have hq : x ≤ n := by have hq : A.le x n = true := hq; subst hA; simpa [std, iLe] using hq
      exact hB (x, y) _ _ hk1 (by rw [lastF_take hx]; simp [lastF, hq]) ⟨rfl, rfl, rfl, rfl, rfl, rfl, rfl, congrArg I (hadd _ hk1 (by omega)), trivial⟩ (.inr ⟨⟨_, rfl⟩, Nat.zero_le _, by simp [ltG, AV.lt, AV.ltL], by simp [ltH, AObj.lt, AV.ltL, AV.lt]⟩)
    · rename_i hq
      have hq : ¬ x ≤ n := by have hq : A.le x n = false := hq; subst hA; simpa [std, iLe] using hq
      exact hB (o1, o2) _ _ hk1 (by rw [lastF_take hx]; simp only [lastF]; rw [if_neg (by simpa using hq)]; exact hP) ⟨rfl, rfl, rfl, rfl, rfl, rfl, rfl, congrArg I (hadd _ hk1 (by omega)), trivial⟩ (.inr ⟨⟨_, rfl⟩, Nat.zero_le _, by simp [ltG, AV.lt, AV.ltL], by simp [ltH, AObj.lt, AV.ltL, AV.lt]⟩)
  · rename_i hk1
    have hk1 : ¬ j < l.length := by have := hlt.symm.trans hk1; simpa using this
    have : (o1, o2) = lastS l n := by rw [hP, lastS, hd, List.take_of_length_le (by omega)]
    rw [← this] at h
    exact h
def eLast (S : Sp) : List AV → Option ((AV → Prop) → Prop)
  | [x, .lit (.int .i64 n), .fn 140 []] => match asVs 2 x with
    | some xs => some fun K => ∃ l, xs = l.map sp ∧ l ≠ [] ∧ l.length ≤ 9223372036854775807 ∧ ∀ q, K (.agg [I q, I (S.part l n)])
    | none => none
  | _ => none
theorem eLast_ok {S : Sp} (hS : S = stS) : ∀ args pt, eLast S args = some pt → ∀ (H : AHeap) (Kk : AV → AHeap → Prop), pt (fun r => Kk r H) → ACalls Try.prog 139 args H Kk := by
  intro args pt h H Kk hk
  subst hS
  unfold eLast at h
  split at h
  · split at h
    · rename_i ys hy
      cases h
      obtain ⟨l, h1, h2, h3, h4⟩ := hk
      subst h1
      exact (p139 _ _ h2 h3 H (h4 _)).wk ⟨asVs_wk hy, Wk.rfl, Wk.rfl, trivial⟩
    · cases h
  · cases h
theorem p110 (l : List (Int × Int)) (n : Int) (h0 : l ≠ []) (hl : l.length ≤ 9223372036854775807) (H : AHeap) {Kk : AV → AHeap → Prop} (h : Kk (I (partS l n)) H) : ACalls Try.prog 110 [.vs 2 (l.map sp), I n] H Kk := by
  refine pureC (by rfl) (by rfl) (fun Kk h => ?_) H h
  obtain ⟨xs, hxs⟩ : ∃ xs, xs = l.map sp := ⟨_, rfl⟩
  rw [← hxs]
  obtain ⟨A, hA⟩ : ∃ A, A = std := ⟨_, rfl⟩
  obtain ⟨S, hS⟩ : ∃ S, S = stS := ⟨_, rfl⟩
  obtain ⟨W, hW⟩ : ∃ W, W = partS l n := ⟨_, rfl⟩
  rw [← hW] at h
  have hv : A.vlen xs = iLen l.length := by subst hA; simp [std, hxs]
  refine go110 rfl (SGo_run hA ⟨[], [], [(139, eLast S)], []⟩ (.cons (eLast_ok hS) .nil) .nil 200 fun T TD hT hTD => ?_)
  cbv
  refine ⟨l, hxs, h0, hl, fun q => ?_⟩
  cbv
  refine leaf h (congrArg I ?_) rfl
  subst hS; exact hW
end Go.Sas
