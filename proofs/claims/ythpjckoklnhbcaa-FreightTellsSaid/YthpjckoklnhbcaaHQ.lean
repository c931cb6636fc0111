/-
Freight: places in the order of what is left over: contracts.
Freight: places sorted by what is left over: contracts (up to 19 places).
Rows of values, one cell each (beside the freight texts).
Freight: a product of words, a slice of equal numbers: contracts.
Conditions: none.
-/
import Derived.Test.YthpjckoklnhbcaaHY
import Derived.Test.YthpjckoklnhbcaaHL
import Derived.Test.YthpjckoklnhbcaaH8
import Derived.Test.YthpjckoklnhbcaaHC
import Derived.Test.YthpjckoklnhbcaaH7
import Derived.Test.YthpjckoklnhbcaaH6
import Derived.Test.YthpjckoklnhbcaaQF6
set_option linter.unusedVariables false
set_option linter.unusedSimpArgs false
namespace Go.Sas
open Go.Proofs
set_option maxRecDepth 100000
/-- places, and the numbers that they are compared by -/
abbrev shH (g g2 n : Nat) (l : List Nat) (rc : List Int) : AHeap := [.own g (l.map natI), .own 0 [.ms 1 2 g2 0 n], .own g2 (rc.map I)]
abbrev keyR (rc : List Int) (k : Nat) : Int := rc.getD k 0
theorem getS_D {rc : List Int} {k : Nat} (h : k < rc.length) : getS none (rc.map I) k (I (keyR rc k)) := by
  unfold keyR
  rw [List.getD_eq_getElem?_getD, List.getElem?_eq_getElem h]
  exact getS_I (List.getElem?_eq_getElem h)
theorem p117 (g g2 n a b : Nat) (l : List Nat) (rc : List Int) (hr : rc.length = n) (ha : a < n) (hb : b < n) (hn : n ≤ 1000) {Kk : AV → AHeap → Prop} (h : Kk (I (cmpI (keyR rc b) (keyR rc a))) (shH g g2 n l rc)) :
    ACalls Try.prog 117 [natI a, natI b, .mp 1 0 0] (shH g g2 n l rc) Kk := by
  obtain ⟨ia, hia⟩ : ∃ q, q = iLen a := ⟨_, rfl⟩
  obtain ⟨ib, hib⟩ : ∃ q, q = iLen b := ⟨_, rfl⟩
  obtain ⟨lc, hlc⟩ : ∃ q, q = l.map natI := ⟨_, rfl⟩
  obtain ⟨rr, hrr⟩ : ∃ q, q = rc.map I := ⟨_, rfl⟩
  obtain ⟨W, hW⟩ : ∃ W, W = cmpI (keyR rc b) (keyR rc a) := ⟨_, rfl⟩
  unfold shH at h ⊢
  rw [← hW, ← hlc, ← hrr] at h
  rw [← hlc, ← hrr]
  show ACalls Try.prog 117 [I (iLen a), I (iLen b), .mp 1 0 0] _ Kk
  rw [← hia, ← hib]
  obtain ⟨A, hA⟩ : ∃ A, A = std := ⟨_, rfl⟩
  have hsg : ∀ g, A.sg g g := by subst hA; exact fun _ => rfl
  have hx1 : A.ixm 1 1 0 n ia a := by subst hA; exact ixm1 hia ha
  have hx2 : A.ixm 1 1 0 n ib b := by subst hA; exact ixm1 hib hb
  obtain ⟨ka, hka⟩ : ∃ q, q = keyR rc a := ⟨_, rfl⟩
  obtain ⟨kb, hkb⟩ : ∃ q, q = keyR rc b := ⟨_, rfl⟩
  have hg1 : A.get none rr a (I ka) := by subst hA; rw [hrr, hka]; exact getS_D (by omega)
  have hg2 : A.get none rr b (I kb) := by subst hA; rw [hrr, hkb]; exact getS_D (by omega)
  rw [← hka, ← hkb] at hW
  refine go117 rfl (SGo_run hA ⟨[2], [], (110, eCmp) :: [], []⟩ (.cons eCmp_ok .nil) .nil 200 fun T TD hT hTD => ?_)
  cbv
  refine And.intro (hsg _) (Exists.intro b (And.intro hx2 ?_)); cbv
  refine And.intro (hsg _) (Exists.intro _ (And.intro hg2 ?_)); cbv
  refine And.intro (hsg _) (Exists.intro a (And.intro hx1 ?_)); cbv
  refine And.intro (hsg _) (Exists.intro _ (And.intro hg1 ?_)); cbv
  intro q hq; cbv
  have e : q = W := by rw [hq, hW]
  rw [e]; exact ite_both h
def eCmpR : List AV → AHeap → Option PT
  | [.lit (.int .i64 x), .lit (.int .i64 y), .mp 1 0 0], [.own g lc, .own 0 [.ms 1 2 g2 0 n], .own g2' rr] => some fun K => ∃ (a b : Nat) (l : List Nat) (rc : List Int), (x = iLen a ∧ y = iLen b ∧ lc = l.map natI ∧ rr = rc.map I ∧ g2' = g2 ∧ rc.length = n ∧ a < n ∧ b < n ∧ n ≤ 1000) ∧ ∀ q, q = cmpI (keyR rc b) (keyR rc a) → K (I q) [.own g lc, .own 0 [.ms 1 2 g2 0 n], .own g2' rr]
  | _, _ => none
theorem eCmpR_ok : ∀ args H pt, eCmpR args H = some pt → ∀ (Kk : AV → AHeap → Prop), pt Kk → ACalls Try.prog 117 args H Kk := by
  intro args H pt h Kk hk
  unfold eCmpR at h
  split at h
  · cases h
    obtain ⟨a, b, l, rc, ⟨rfl, rfl, rfl, rfl, rfl, h1, h2, h3, h4⟩, h5⟩ := hk
    exact p117 _ _ _ a b l rc h1 h2 h3 h4 (h5 _ rfl)
  · cases h
theorem app_set {α : Type} {P M : List α} {q : Nat} {x : α} : (P ++ M).set (P.length + q) x = P ++ M.set q x := by
  rw [List.set_append_right _ _ (by omega), Nat.add_sub_cancel_left]
theorem app_get {α : Type} {P M : List α} {q : Nat} : (P ++ M)[P.length + q]? = M[q]? := by
  rw [List.getElem?_append_right (by omega), Nat.add_sub_cancel_left]
set_option maxHeartbeats 4000000 in
/-- a part of the places is sorted -/
theorem p128 (g g2 n c : Nat) (P M : List Nat) (rc : List Int) (hn : n = P.length + M.length) (hc : c ≤ M.length) (hn2 : n ≤ 1000) (hr : rc.length = n) (hb : ∀ k ∈ M, k < n) {Kk : AV → AHeap → Prop}
    (h : Kk (.tup []) (shH g g2 n (P ++ (sortV (keyR rc) (M.take c) ++ M.drop c)) rc)) :
    ACalls Try.prog 128 [.ms 1 0 g 0 n, I (iLen P.length), I (iLen (P.length + c)), .fn 117 [.mp 1 0 0]] (shH g g2 n (P ++ M) rc) Kk := by
  obtain ⟨ia, hia⟩ : ∃ q, q = iLen P.length := ⟨_, rfl⟩
  obtain ⟨ib, hib⟩ : ∃ q, q = iLen (P.length + c) := ⟨_, rfl⟩
  obtain ⟨lc, hlc⟩ : ∃ q, q = (P ++ M).map natI := ⟨_, rfl⟩
  obtain ⟨rr, hrr⟩ : ∃ q, q = rc.map I := ⟨_, rfl⟩
  obtain ⟨ky, hky⟩ : ∃ q, q = keyR rc := ⟨_, rfl⟩
  unfold shH at h ⊢
  rw [← hrr, ← hky] at h
  rw [← hlc, ← hrr, ← hia, ← hib]
  obtain ⟨A, hA⟩ : ∃ A, A = std := ⟨_, rfl⟩
  have hsg : ∀ g, A.sg g g := by subst hA; exact fun _ => rfl
  have hll : ∀ x y, A.lt x y = decide (x < y) := by subst hA; intro x y; rfl
  have h01 : A.add .i64 ia 1 = iLen (P.length + 0 + 1) := by subst hA; rw [hia]; show iAdd .i64 _ 1 = _; rw [iAdd_id (by unfold iLen; omega) (by unfold iLen; omega)]; unfold iLen; omega
  refine go128 rfl (SGo_run hA ⟨[0], [], [], []⟩ .nil .nil 200 fun T TD hT hTD => ?_)
  cbv
  rw [hT]
  have hst : ∀ j, j ≤ M.length → (sortV ky (M.take j) ++ M.drop j).length = M.length := fun j hj => by rw [List.length_append, sortV_len]; simp; omega
  have hs1 : sortV ky (M.take 1) ++ M.drop 1 = M := by
    cases M with
    | nil => rfl
    | cons x l => simp [sortV, insV]
  have hfin : ∀ j, c ≤ j + 1 → (j = 0 ∨ j + 1 ≤ c) → sortV ky (M.take (j + 1)) ++ M.drop (j + 1) = sortV ky (M.take c) ++ M.drop c := fun j h1 h2 => by
    rcases h2 with h2 | h2
    · subst h2
      by_cases hc0 : c = 0
      · subst hc0; rw [hs1]; simp [sortV]
      · have : c = 1 := by omega
        rw [this]
    · have : c = j + 1 := by omega
      rw [this]
  refine AGo_upE [0, 1, 2, 3] (c - 1) (fun _ (_ : Unit) => True) (fun j _ _ => [(8, I (iLen (P.length + j + 1)))]) (fun j _ => [.own g ((P ++ (sortV ky (M.take (j + 1)) ++ M.drop (j + 1))).map natI), .own 0 [.ms 1 2 g2 0 n], .own g2 rr]) () trivial ⟨congrArg I h01, trivial⟩ (.inl (by rw [hs1, hlc])) fun j _ i hi hj _ Bk hB => ?_
  clear hT hTD T TD
  obtain ⟨ij, hij⟩ : ∃ q, q = iLen (P.length + j + 1) := ⟨_, rfl⟩
  rw [← hij]
  have hlt : A.lt ij ib = decide (j < c - 1) := by rw [hll, hij, hib]; unfold iLen; apply decide_eq_decide.2; omega
  have hadd : A.add .i64 ij 1 = iLen (P.length + (j + 1) + 1) := by subst hA; rw [hij]; show iAdd .i64 _ 1 = _; rw [iAdd_id (by unfold iLen; omega) (by unfold iLen; omega)]; unfold iLen; omega
  obtain ⟨l1, hl1⟩ : ∃ r, r = sortV ky (M.take (j + 1)) ++ M.drop (j + 1) := ⟨_, rfl⟩
  obtain ⟨c1, hc1⟩ : ∃ r, r = (P ++ l1).map natI := ⟨_, rfl⟩
  rw [← hl1, ← hc1]
  refine SGo_run hA ⟨[0], [], [], []⟩ .nil .nil 200 fun T TD hT hTD => ?_
  cbv
  split <;> cbv
  · rename_i hk0
    have hk1 : j < (c - 1) := by have hz := hlt.symm.trans hk0; simpa using hz
    clear hk0
    have hstep := sort_step (key := ky) (d := 0) (l := M) (i := j + 1) (by omega)
    rw [← hl1] at hstep
    have hl1n : l1.length = M.length := by rw [hl1]; exact hst _ (by omega)
    have hl1b : ∀ k ∈ l1, k < n := fun o ho => by
      rw [hl1] at ho
      rcases List.mem_append.1 ho with h9 | h9
      · exact hb o (List.mem_of_mem_take (sortV_mem.1 h9))
      · exact hb o (List.mem_of_mem_drop h9)
    rw [hT]
    refine AGo_whileE [0, 1, 2, 3, 8] (fun (s : Nat × List Nat) => s.1) (fun s => s.1 ≤ j + 1 ∧ s.2.length = M.length ∧ (∀ o ∈ s.2, o < n) ∧ bubV ky 0 s.2 s.1 = sortV ky (M.take (j + 1 + 1)) ++ M.drop (j + 1 + 1)) (fun s => [(9, I (iLen (P.length + s.1)))]) (fun s => [.own g ((P ++ s.2).map natI), .own 0 [.ms 1 2 g2 0 n], .own g2 rr]) (j + 1, l1) ⟨Nat.le_refl _, hl1n, hl1b, hstep⟩ ⟨congrArg I hij, trivial⟩ (.inl (by rw [hc1])) fun s hP Bk2 hB2 => ?_
    clear hT hTD T TD
    obtain ⟨m, l2⟩ := s
    obtain ⟨hP1, hP2, hP3, hP4⟩ := hP
    dsimp only at hP1 hP2 hP3 hP4 hB2 ⊢
    obtain ⟨im, him⟩ : ∃ q, q = iLen (P.length + m) := ⟨_, rfl⟩
    obtain ⟨c2, hc2⟩ : ∃ r, r = (P ++ l2).map natI := ⟨_, rfl⟩
    rw [← him, ← hc2]
    have hz0 : A.lt ia im = decide (0 < m) := by rw [hll, hia, him]; unfold iLen; apply decide_eq_decide.2; omega
    refine SGo_run hA ⟨[0], [2000000], [], (117, eCmpR) :: []⟩ .nil (.cons eCmpR_ok .nil) 200 fun T TD hT hTD => ?_
    cbv
    split <;> cbv
    · rename_i hz
      have hz : 0 < m := of_decide_eq_true (hz0.symm.trans hz)
      obtain ⟨q, hq⟩ : ∃ q, m = q + 1 := ⟨m - 1, by omega⟩
      subst hq
      obtain ⟨x, hx⟩ : ∃ x, l2[q + 1]? = some x := ⟨_, List.getElem?_eq_getElem (by omega)⟩
      obtain ⟨y, hy⟩ : ∃ x, l2[q]? = some x := ⟨_, List.getElem?_eq_getElem (by omega)⟩
      have hbx := hP3 _ (List.mem_of_getElem? hx)
      have hby := hP3 _ (List.mem_of_getElem? hy)
      have hgx : l2.getD (q + 1) 0 = x := by rw [List.getD_eq_getElem?_getD, hx]; rfl
      have hgy : l2.getD q 0 = y := by rw [List.getD_eq_getElem?_getD, hy]; rfl
      simp only [bubV, hgx, hgy] at hP4
      obtain ⟨ix, hix⟩ : ∃ i, i = iLen x := ⟨_, rfl⟩
      obtain ⟨iy, hiy⟩ : ∃ i, i = iLen y := ⟨_, rfl⟩
      obtain ⟨o1, ho1⟩ : ∃ o, o = P.length + (q + 1) := ⟨_, rfl⟩
      obtain ⟨o2, ho2⟩ : ∃ o, o = P.length + q := ⟨_, rfl⟩
      have hsm : A.sub .i64 im 1 = iLen (P.length + q) := by subst hA; rw [him]; show iSub .i64 _ 1 = _; unfold iLen; rw [iSub_id (by omega) (by omega)]; omega
      have hx1 : A.ixm 1 1 0 n im o1 := by subst hA; rw [ho1]; exact ixm1 him (by omega)
      have hx2 : A.ixm 1 1 0 n (A.sub .i64 im 1) o2 := by rw [hsm, ho2]; subst hA; exact ixm1 rfl (by omega)
      have hg1 : A.get none c2 o1 (I ix) := by subst hA; rw [hc2, ho1, hix]; exact getS_map (by rw [app_get]; exact hx)
      have hg2 : A.get none c2 o2 (I iy) := by subst hA; rw [hc2, ho2, hiy]; exact getS_map (by rw [app_get]; exact hy)
      obtain ⟨c3, hc3⟩ : ∃ r, r = (P ++ l2.set (q + 1) y).map natI := ⟨_, rfl⟩
      obtain ⟨c4, hc4⟩ : ∃ r, r = (P ++ (l2.set (q + 1) y).set q x).map natI := ⟨_, rfl⟩
      have hu1 : A.upd 1 c2 o1 [I iy] c3 := by
        subst hA
        have := updS_map (p := P ++ l2) (i := P.length + (q + 1)) (x := y) (by rw [List.length_append]; omega)
        rw [app_set] at this
        rw [hc2, hc3, ho1, hiy]; exact this
      have hu2 : A.upd 1 c3 o2 [I ix] c4 := by
        subst hA
        have := updS_map (p := P ++ l2.set (q + 1) y) (i := P.length + q) (x := x) (by rw [List.length_append, List.length_set]; omega)
        rw [app_set] at this
        rw [hc3, hc4, ho2, hix]; exact this
      refine And.intro (hsg _) (Exists.intro _ (And.intro hx1 ?_)); cbv
      refine And.intro (hsg _) (Exists.intro _ (And.intro hg1 ?_)); cbv
      refine And.intro (hsg _) (Exists.intro _ (And.intro hx2 ?_)); cbv
      refine And.intro (hsg _) (Exists.intro _ (And.intro hg2 ?_)); cbv
      refine Exists.intro x (Exists.intro y (Exists.intro (P ++ l2) (Exists.intro rc (And.intro ⟨hix, hiy, hc2, hrr, rfl, hr, hbx, hby, hn2⟩ ?_))))
      intro cq hcq
      have hl0 := hll cq 0
      have hcmp : cq < 0 ↔ ky y < ky x := by
        rw [hcq, hky]; unfold cmpI
        split
        · rename_i h9; exact ⟨fun _ => h9, fun _ => by decide⟩
        · rename_i h9
          split
          · exact ⟨fun h8 => absurd h8 (by decide), fun h8 => absurd h8 h9⟩
          · exact ⟨fun h8 => absurd h8 (by decide), fun h8 => absurd h8 h9⟩
      clear hcq
      cbv
      refine And.intro (by subst hA; exact .inr ⟨⟨rfl, SubH.same (SubH.same trivial)⟩, by simp [ResK], .inr fun _ => SubH.same (SubH.same (SubH.same trivial))⟩) ?_
      cbv
      split <;> cbv
      · rename_i hz9
        have hz9 := hl0.symm.trans hz9
        rw [decide_eq_true_eq, hcmp] at hz9
        rw [if_pos hz9] at hP4
        have hset : ∀ z, z ∈ ((l2.set (q + 1) y).set q x) → z < n := fun z hz8 => by
          rcases List.mem_or_eq_of_mem_set hz8 with h8 | h8
          · rcases List.mem_or_eq_of_mem_set h8 with h7 | h7
            · exact hP3 z h7
            · rw [h7]; exact hby
          · rw [h8]; exact hbx
        refine And.intro (hsg _) (Exists.intro _ (And.intro hx2 ?_)); cbv
        refine And.intro (hsg _) (Exists.intro _ (And.intro hg2 ?_)); cbv
        refine And.intro (hsg _) (Exists.intro _ (And.intro hx1 ?_)); cbv
        refine And.intro (hsg _) (Exists.intro _ (And.intro hg1 ?_)); cbv
        refine And.intro (hsg _) (Exists.intro _ (And.intro hx1 ?_)); cbv
        refine And.intro (hsg _) (Exists.intro _ (And.intro hu1 ?_)); cbv
        refine And.intro (by subst hA; exact .inr ⟨⟨rfl, SubH.same (SubH.same trivial)⟩, trivial, .inl rfl⟩) ?_; cbv
        refine And.intro (hsg _) (Exists.intro _ (And.intro hx2 ?_)); cbv
        refine And.intro (hsg _) (Exists.intro _ (And.intro hu2 ?_)); cbv
        exact hB2 (q, (l2.set (q + 1) y).set q x) _ _ (by dsimp only; omega) ⟨by dsimp only; omega, by simp [hP2], hset, hP4⟩ ⟨congrArg I hsm, trivial⟩ ⟨rfl, rfl, rfl, rfl, rfl, trivial⟩ (.inl (by rw [hc4]))
      · rename_i hz9
        have hz9 := hl0.symm.trans hz9
        rw [decide_eq_false_iff_not, hcmp] at hz9
        rw [if_neg hz9] at hP4
        exact hB () _ _ hk1 trivial ⟨congrArg I hadd, trivial⟩ ⟨rfl, rfl, rfl, rfl, trivial⟩ (.inl (by rw [hc2, hP4]))
    · rename_i hz
      have hz : ¬ 0 < m := of_decide_eq_false (hz0.symm.trans hz)
      have hm0 : m = 0 := by omega
      subst hm0
      have hend : l2 = sortV ky (M.take (j + 1 + 1)) ++ M.drop (j + 1 + 1) := hP4
      exact hB () _ _ hk1 trivial ⟨congrArg I hadd, trivial⟩ ⟨rfl, rfl, rfl, rfl, trivial⟩ (.inl (by rw [hc2, hend]))
  · rename_i hk0
    have hk1 : ¬ j < (c - 1) := by have hz := hlt.symm.trans hk0; simpa using hz
    clear hk0
    have hend : c1 = (P ++ (sortV ky (M.take c) ++ M.drop c)).map natI := by
      rw [hc1, hl1, hfin j (by omega) (by omega)]
    rw [← hend] at h
    exact ite_both h
end Go.Sas
namespace Go.Sas
open Go.Proofs
set_option maxRecDepth 100000
/-- how many places the sort's contract covers -/
def SrtN (n : Nat) : Prop := 1 ≤ n ∧ n ≤ 19
def eInsR : List AV → AHeap → Option PT
  | [.ms 1 0 g 0 n, .lit (.int .i64 a), .lit (.int .i64 b), .fn 117 [.mp 1 0 0]], [.own g' lc, .own 0 [.ms 1 2 g2 0 n'], .own g2' rr] => some fun K => ∃ (P M : List Nat) (rc : List Int) (c : Nat), (g' = g ∧ n' = n ∧ g2' = g2 ∧ lc = (P ++ M).map natI ∧ rr = rc.map I ∧ a = iLen P.length ∧ b = iLen (P.length + c)) ∧ (n = P.length + M.length ∧ c ≤ M.length ∧ n ≤ 1000 ∧ rc.length = n ∧ ∀ k ∈ M, k < n) ∧
      ∀ c2, c2 = (P ++ (sortV (keyR rc) (M.take c) ++ M.drop c)).map natI → K (.tup []) [.own g c2, .own 0 [.ms 1 2 g2 0 n], .own g2 rr]
  | _, _ => none
theorem eInsR_ok : ∀ args H pt, eInsR args H = some pt → ∀ (Kk : AV → AHeap → Prop), pt Kk → ACalls Try.prog 128 args H Kk := by
  intro args H pt h Kk hk
  unfold eInsR at h
  split at h
  · cases h
    obtain ⟨P, M, rc, c, ⟨rfl, rfl, rfl, rfl, rfl, rfl, rfl⟩, ⟨h1, h2, h3, h4, h5⟩, h6⟩ := hk
    exact p128 _ _ _ c P M rc h1 h2 h3 h4 h5 (h6 _ rfl)
  · cases h
set_option maxHeartbeats 4000000 in
theorem p123 (g g2 n : Nat) (l : List Nat) (rc : List Int) (hn : n = l.length) (hs : SrtN n) (hr : rc.length = n) (hb : ∀ k ∈ l, k < n) {Kk : AV → AHeap → Prop} (h : ∀ c2, c2 = (sortV (keyR rc) l).map natI → Kk (.tup []) [.own g c2, .own 0 [.ms 1 2 g2 0 n], .own g2 (rc.map I)]) :
    ACalls Try.prog 123 [.ms 1 0 g 0 n, I (iLen n), .fn 117 [.mp 1 0 0]] (shH g g2 n l rc) Kk := by
  obtain ⟨iN, hiN⟩ : ∃ i : Int, i = iLen n := ⟨_, rfl⟩
  obtain ⟨lc, hlc⟩ : ∃ r, r = l.map natI := ⟨_, rfl⟩
  obtain ⟨rr, hrr⟩ : ∃ q, q = rc.map I := ⟨_, rfl⟩
  unfold shH
  rw [← hrr] at h
  rw [← hiN, ← hlc, ← hrr]
  obtain ⟨hs1, hs2⟩ := hs
  obtain ⟨A, hA⟩ : ∃ A, A = std := ⟨_, rfl⟩
  have hll : ∀ x y, A.lt x y = decide (x < y) := by subst hA; intro x y; rfl
  have hle : ∀ x y, A.le x y = decide (x ≤ y) := by subst hA; intro x y; rfl
  have h20 : A.le 20 iN = false := by rw [hle, hiN]; unfold iLen; simp; omega
  have h21 : A.lt 20 iN = false := by rw [hll, hiN]; unfold iLen; simp; omega
  refine go123 rfl (SGo_run hA ⟨[], [], [], (128, eInsR) :: []⟩ .nil (.cons eInsR_ok .nil) 200 fun T TD hT hTD => ?_)
  cbv
  rw [hT]
  refine AGo_whileE [0, 1, 2, 6] (fun (_ : Unit) => 0) (fun _ => True) (fun _ => [(7, I 0), (8, I 20)]) (fun _ => [.own g lc, .own 0 [.ms 1 2 g2 0 n], .own g2 rr]) () trivial ⟨rfl, rfl, trivial⟩ (.inl rfl) fun _ _ Bk hB => ?_
  clear hT hTD T TD hB
  refine SGo_run hA ⟨[], [], [], (128, eInsR) :: []⟩ .nil (.cons eInsR_ok .nil) 200 fun T TD hT hTD => ?_
  cbv
  split <;> cbv
  · rename_i hz; exact Bool.noConfusion (hz.symm.trans h20)
  refine Exists.intro [] (Exists.intro l (Exists.intro rc (Exists.intro n (And.intro ⟨rfl, rfl, rfl, hlc, hrr, rfl, by rw [hiN]; simp⟩ (And.intro ⟨by simpa using hn, by omega, by omega, hr, hb⟩ ?_)))))
  intro c2 hc2; cbv
  rw [hT]
  refine AGo_whileE [0, 1, 2] (fun (_ : Unit) => 0) (fun _ => True) (fun _ => [(6, I 20)]) (fun _ => [.own g c2, .own 0 [.ms 1 2 g2 0 n], .own g2 rr]) () trivial ⟨rfl, trivial⟩ (.inl rfl) fun _ _ Bk hB => ?_
  clear hT hTD T TD hB
  refine SGo_run hA ⟨[], [], [], []⟩ .nil .nil 200 fun T TD hT hTD => ?_
  cbv
  split <;> cbv
  · rename_i hz; exact Bool.noConfusion (hz.symm.trans h21)
  refine ite_both (h c2 ?_)
  rw [hc2, List.nil_append, hn, List.take_length, List.drop_length, List.append_nil]
def eStabR : List AV → AHeap → Option PT
  | [.ms 1 0 g 0 n, .lit (.int .i64 b), .fn 117 [.mp 1 0 0]], [.own g' lc, .own 0 [.ms 1 2 g2 0 n'], .own g2' rr] => some fun K => ∃ (l : List Nat) (rc : List Int), (g' = g ∧ n' = n ∧ g2' = g2 ∧ lc = l.map natI ∧ rr = rc.map I ∧ b = iLen n) ∧ (n = l.length ∧ SrtN n ∧ rc.length = n ∧ ∀ k ∈ l, k < n) ∧
      ∀ c2, c2 = (sortV (keyR rc) l).map natI → K (.tup []) [.own g c2, .own 0 [.ms 1 2 g2 0 n], .own g2 rr]
  | _, _ => none
theorem eStabR_ok : ∀ args H pt, eStabR args H = some pt → ∀ (Kk : AV → AHeap → Prop), pt Kk → ACalls Try.prog 123 args H Kk := by
  intro args H pt h Kk hk
  unfold eStabR at h
  split at h
  · cases h
    obtain ⟨l, rc, ⟨rfl, rfl, rfl, rfl, rfl, rfl⟩, ⟨h1, h2, h3, h4⟩, h6⟩ := hk
    exact p123 _ _ _ l rc h1 h2 h3 h4 h6
  · cases h
theorem p116l (g g2 n : Nat) (l : List Nat) (rc : List Int) (hn : n = l.length) (hs : SrtN n) (hr : rc.length = n) (hb : ∀ k ∈ l, k < n) {Kk : AV → AHeap → Prop} (h : ∀ c2, c2 = (sortV (keyR rc) l).map natI → Kk (.tup []) [.own g c2, .own 0 [.ms 1 2 g2 0 n], .own g2 (rc.map I)]) :
    ACalls Try.prog 116 [.ms 1 0 g 0 n, .fn 117 [.mp 1 0 0]] (shH g g2 n l rc) Kk := by
  obtain ⟨lc, hlc⟩ : ∃ r, r = l.map natI := ⟨_, rfl⟩
  obtain ⟨rr, hrr⟩ : ∃ q, q = rc.map I := ⟨_, rfl⟩
  unfold shH
  rw [← hrr] at h
  rw [← hlc, ← hrr]
  obtain ⟨A, hA⟩ : ∃ A, A = std := ⟨_, rfl⟩
  have hln : A.len n = iLen n := by subst hA; rfl
  have hsg : ∀ g, A.sg g g := by subst hA; exact fun _ => rfl
  refine go116 rfl (SGo_run hA ⟨[0], [], [], (123, eStabR) :: []⟩ .nil (.cons eStabR_ok .nil) 200 fun T TD hT hTD => ?_)
  cbv
  refine And.intro (hsg _) (Exists.intro l (Exists.intro rc (And.intro ⟨rfl, rfl, rfl, hlc, hrr, hln⟩ (And.intro ⟨hn, hs, hr, hb⟩ ?_))))
  intro c2 hc2; cbv
  exact ite_both (h c2 hc2)
theorem nidL_natI (l : List Nat) : AV.nidL (l.map natI) = true := nidL_map (g := natI) (fun _ => rfl) l
theorem nidL_I (l : List Int) : AV.nidL (l.map I) = true := nidL_map (g := I) (fun _ => rfl) l
theorem set_same {H : AHeap} {i : Nat} {X : AObj} (h : H[i]? = some X) : H.set i X = H := by
  apply List.ext_getElem?; intro j
  rw [List.getElem?_set]
  split
  · rename_i hj; subst hj
    rw [h, if_pos (List.getElem?_eq_some_iff.1 h).1]
  · rfl
theorem p116 (g g2 n : Nat) (l : List Nat) (rc : List Int) (hn : n = l.length) (hs : SrtN n) (hr : rc.length = n) (hb : ∀ k ∈ l, k < n) (H : AHeap) {id idc idr : Nat} (h1 : id ≠ idc) (h2 : id ≠ idr) (h3 : idc ≠ idr)
    (hX : H[id]? = some (.own g (l.map natI))) (hY : H[idc]? = some (.own 0 [.ms 1 idr g2 0 n])) (hZ : H[idr]? = some (.own g2 (rc.map I))) {Kk : AV → AHeap → Prop}
    (h : ∀ c2, c2 = (sortV (keyR rc) l).map natI → Kk (.tup []) (H.set id (.own g c2))) : ACalls Try.prog 116 [.ms 1 id g 0 n, .fn 117 [.mp idc 0 0]] H Kk := by
  have h4 := p116l g g2 n l rc hn hs hr hb (Kk := fun r H' => r = .tup [] ∧ H' = [.own g ((sortV (keyR rc) l).map natI), .own 0 [.ms 1 2 g2 0 n], .own g2 (rc.map I)]) (fun c2 hc2 => ⟨rfl, by rw [hc2]⟩)
  have h5 := ACalls.frame (H := H) [id, idc, idr] h4 (by simp [h1, h2, h3]) (by simp) (by simp [AV.ltL, AV.lt]) ⟨AV.ltL_nid (nidL_natI l), by simp [AObj.lt, AV.ltL, AV.lt], AV.ltL_nid (nidL_I rc), trivial⟩ (fun k X hk => by
    match k with
    | 0 => simp at hk; subst hk; simpa [at_, AObj.ren, AV.renL_nid (nidL_natI l)] using hX
    | 1 => simp at hk; subst hk; simpa [at_, AObj.ren, AV.renL, AV.ren] using hY
    | 2 => simp at hk; subst hk; simpa [at_, AObj.ren, AV.renL_nid (nidL_I rc)] using hZ
    | k + 3 => simp at hk)
  have e : AV.renL [id, idc, idr] [.ms 1 0 g 0 n, .fn 117 [.mp 1 0 0]] = [.ms 1 id g 0 n, .fn 117 [.mp idc 0 0]] := by simp [AV.renL, AV.ren, at_]
  rw [e] at h5
  refine h5.mono fun r H' hx => ?_
  obtain ⟨r0, H1, ⟨rfl, rfl⟩, _, rfl, rfl⟩ := hx
  have h6 := h _ rfl
  have s1 : (H.set id (.own g ((sortV (keyR rc) l).map natI))).set idc (.own 0 [.ms 1 idr g2 0 n]) = H.set id (.own g ((sortV (keyR rc) l).map natI)) := set_same (by rw [List.getElem?_set_ne h1]; exact hY)
  have s2 : (H.set id (.own g ((sortV (keyR rc) l).map natI))).set idr (.own g2 (rc.map I)) = H.set id (.own g ((sortV (keyR rc) l).map natI)) := set_same (by rw [List.getElem?_set_ne h2]; exact hZ)
  simpa [merge, updL, AObj.ren, AV.ren, AV.renL, at_, more, AV.renL_nid (nidL_natI _), AV.renL_nid (nidL_I _), s1, s2] using h6
def eSortR : List AV → AHeap → Option PT
  | [.ms 1 id g 0 n, .fn 117 [.mp idc 0 0]], H => match H[id]?, H[idc]? with
    | some (.own g' lc), some (.own 0 [.ms 1 idr g2 0 n']) => some fun K => ∃ (l : List Nat) (rc : List Int), (g' = g ∧ n' = n ∧ lc = l.map natI ∧ H[idr]? = some (.own g2 (rc.map I)) ∧ id ≠ idc ∧ id ≠ idr ∧ idc ≠ idr) ∧ (n = l.length ∧ SrtN n ∧ rc.length = n ∧ ∀ k ∈ l, k < n) ∧
      ∀ c2, c2 = (sortV (keyR rc) l).map natI → K (.tup []) (H.set id (.own g c2))
    | _, _ => none
  | _, _ => none
theorem eSortR_ok : ∀ args H pt, eSortR args H = some pt → ∀ (Kk : AV → AHeap → Prop), pt Kk → ACalls Try.prog 116 args H Kk := by
  intro args H pt h Kk hk
  unfold eSortR at h
  split at h
  · split at h
    · rename_i hX hY
      cases h
      obtain ⟨l, rc, ⟨rfl, rfl, rfl, hZ, h1, h2, h3⟩, ⟨h4, h5, h6, h7⟩, h8⟩ := hk
      exact p116 _ _ _ l rc h4 h5 h6 h7 _ h1 h2 h3 hX hY hZ h8
    · cases h
  · cases h
end Go.Sas
namespace Go.Sas
def rowA (D : Nat) (f : Nat → AV) : List AV := (List.range D).map f
theorem rowA_len {D : Nat} {f : Nat → AV} : (rowA D f).length = D := by simp [rowA]
theorem zeros_rowA {D : Nat} {z : Value} : List.flatten (List.replicate D ([z].map AV.lit)) = rowA D fun _ => .lit z := by
  induction D with
  | zero => rfl
  | succ D ih =>
    rw [List.replicate_succ', List.flatten_append, ih]
    simp [rowA, List.range_succ]
theorem mkS_rowA {D by_ : Nat} {z : Value} {ln : Int} (hl : ln = iLen D) (hb : D ≤ 1000000) (hy : by_ ≤ 1000) : mkS 1 by_ [z] ln ln (rowA D fun _ => .lit z) D := by
  subst hl
  have h1 : ((by_ : Int) * (D : Int)) ≤ 1000 * 1000000 := Int.mul_le_mul (by omega) (by omega) (by omega) (by omega)
  exact ⟨by unfold iLen; omega, Int.le_refl _, by unfold iLen; omega, by unfold iLen; omega, rfl, by unfold iLen; omega, by rw [← zeros_rowA]; rfl⟩
theorem nidL_rowA {D : Nat} {f : Nat → AV} (h : ∀ q, (f q).nid = true) : AV.nidL (rowA D f) = true := nidL_map h _
end Go.Sas
namespace Go.Sas
open Go.Proofs
set_option maxRecDepth 100000
theorem wrapU_id {n : Int} (h0 : 0 ≤ n) (h1 : n < 18446744073709551616) : IntKind.u64.wrap n = n := by
  simp [IntKind.wrap, IntKind.signed, IntKind.bits]; omega
theorem andLow {n : Int} (h0 : 0 ≤ n) (h1 : n ≤ 1000000) : iAnd .u64 n 4294967295 = n := by
  obtain ⟨k, rfl⟩ : ∃ k : Nat, n = k := ⟨n.toNat, by omega⟩
  unfold iAnd
  have h2 : (BitVec.ofInt 64 (k : Int) &&& BitVec.ofInt 64 4294967295).toNat = k := by
    rw [BitVec.toNat_and]
    have e1 : (BitVec.ofInt 64 (k : Int)).toNat = k := by simp; omega
    have e2 : (BitVec.ofInt 64 4294967295).toNat = 2 ^ 32 - 1 := by decide
    rw [e1, e2, Nat.and_two_pow_sub_one_eq_mod]; omega
  show IntKind.u64.wrap ((BitVec.ofInt 64 (k : Int) &&& BitVec.ofInt 64 4294967295).toNat : Int) = k
  rw [h2]; exact wrapU_id (by omega) (by omega)
theorem shr32 {n : Int} (h0 : 0 ≤ n) (h1 : n ≤ 1000000) : iShr .u64 n 32 = 0 := by
  simp only [iShr]
  rw [show (min (32 : Int).toNat IntKind.u64.bits) = 32 from rfl, Int.fdiv_eq_ediv_of_nonneg _ (by decide)]
  omega
theorem mulU1 {n : Int} (h0 : 0 ≤ n) (h1 : n ≤ 1000000) : iMul .u64 1 n = n := by unfold iMul; rw [Int.one_mul]; exact wrapU_id h0 (by omega)
theorem mulU0 {n : Int} : iMul .u64 0 n = 0 := by unfold iMul; rw [Int.zero_mul]; rfl
theorem p127 (n : Int) (h0 : 0 ≤ n) (h1 : n ≤ 1000000) (H : AHeap) {Kk : AV → AHeap → Prop} (h : Kk (.tup [U 0, U n]) H) : ACalls Try.prog 127 [U 1, U n] H Kk := by
  refine (fun q => pureC (by rfl) (by rfl) q H h) ?_
  clear h
  intro Kk h
  obtain ⟨A, hA⟩ : ∃ A, A = std := ⟨_, rfl⟩
  refine go127 rfl (SGo_run hA ⟨[], [], [], []⟩ .nil .nil 200 fun T TD hT hTD => ?_)
  cbv
  refine leaf h ?_ rfl
  subst hA
  have a1 : iAnd .u64 1 4294967295 = 1 := andLow (by omega) (by omega)
  have a2 : iAnd .u64 n 4294967295 = n := andLow h0 h1
  have a3 : iShr .u64 1 32 = 0 := shr32 (n := 1) (by omega) (by omega)
  have a4 : iShr .u64 n 32 = 0 := shr32 h0 h1
  have a7 : iAdd .u64 0 0 = 0 := by rfl
  have a8 : iAnd .u64 0 4294967295 = 0 := andLow (n := 0) (by omega) (by omega)
  have a9 : iShr .u64 0 32 = 0 := shr32 (n := 0) (by omega) (by omega)
  obtain ⟨g11, hg⟩ : ∃ g, g = iAdd .u64 (iMul .u64 (iShr .u64 1 32) (iAnd .u64 n 4294967295)) (iShr .u64 (iMul .u64 (iAnd .u64 1 4294967295) (iAnd .u64 n 4294967295)) 32) := ⟨_, rfl⟩
  have hg2 := hg
  rw [a3, a1, a2, mulU0, mulU1 h0 h1, a4, a7] at hg2
  have : AV.tup [U 0, U n] = AV.tup [U (iAdd .u64 (iAdd .u64 (iMul .u64 (iShr .u64 1 32) (iShr .u64 n 32)) (iShr .u64 g11 32)) (iShr .u64 (iAdd .u64 (iAnd .u64 g11 4294967295) (iMul .u64 (iAnd .u64 1 4294967295) (iShr .u64 n 32))) 32)), U (iMul .u64 1 n)] := by
    rw [hg2, a1, a3, a4, a8, a9, mulU0, mulU1 (by omega) (by omega), mulU1 h0 h1, a7, a9, a7]
  rw [hg] at this
  exact this
def eMul64 : List AV → Option ((AV → Prop) → Prop)
  | [.lit (.int .u64 a), .lit (.int .u64 n)] => some fun K => ∃ _u : Unit, (a = 1 ∧ 0 ≤ n ∧ n ≤ 1000000) ∧ K (.tup [U 0, U n])
  | _ => none
theorem eMul64_ok {f : Nat} (hf : ∀ (n : Int), 0 ≤ n → n ≤ 1000000 → ∀ (H : AHeap) {Kk : AV → AHeap → Prop}, Kk (.tup [U 0, U n]) H → ACalls Try.prog f [U 1, U n] H Kk) : ∀ args pt, eMul64 args = some pt → ∀ (H : AHeap) (Kk : AV → AHeap → Prop), pt (fun r => Kk r H) → ACalls Try.prog f args H Kk := by
  intro args pt h H Kk hk
  unfold eMul64 at h
  split at h
  · cases h
    obtain ⟨_, ⟨rfl, h1, h2⟩, h3⟩ := hk
    exact hf _ h1 h2 H h3
  · cases h
theorem p122 (n : Int) (h0 : 0 ≤ n) (h1 : n ≤ 1000000) (H : AHeap) {Kk : AV → AHeap → Prop} (h : Kk (.tup [U 0, U n]) H) : ACalls Try.prog 122 [U 1, U n] H Kk := by
  refine (fun q => pureC (by rfl) (by rfl) q H h) ?_
  clear h
  intro Kk h
  obtain ⟨A, hA⟩ : ∃ A, A = std := ⟨_, rfl⟩
  refine go122 rfl (SGo_run hA ⟨[], [], (127, eMul64) :: [], []⟩ (.cons (eMul64_ok p127) .nil) .nil 200 fun T TD hT hTD => ?_)
  cbv
  refine Exists.intro () (And.intro ⟨rfl, h0, h1⟩ ?_); cbv
  exact h
def repC (N k : Nat) (x : Int) : List AV := rowA N fun q => I (if q < k then x else 0)
theorem repC_eq {N k : Nat} {x : Int} (h : k ≤ N) : repC N k x = List.replicate k (I x) ++ List.replicate (N - k) (I 0) := by
  apply List.ext_getElem?
  intro i
  unfold repC rowA
  rw [List.getElem?_map]
  by_cases h1 : i < N
  · rw [List.getElem?_range h1]
    by_cases h2 : i < k
    · rw [List.getElem?_append_left (by simpa using h2), List.getElem?_replicate, if_pos h2]; simp [h2]
    · rw [List.getElem?_append_right (by simpa using h2), List.getElem?_replicate, if_pos (by simp; omega)]; simp [h2]
  · rw [List.getElem?_eq_none (by simpa using h1), List.getElem?_eq_none (by simp; omega)]; rfl
theorem repC_len {N k : Nat} {x : Int} : (repC N k x).length = N := rowA_len
theorem repC_cpy {N k r : Nat} {x : Int} (hk : k ≤ N) (hr : r = N - k) : repC N (k + min k r) x = (repC N k x).take k ++ ((repC N k x).take k).take (min k r * 1) ++ (repC N k x).drop (k + min k r * 1) := by
  rw [repC_eq hk, repC_eq (by omega), Nat.mul_one]
  have e1 : (List.replicate k (I x) ++ List.replicate (N - k) (I 0)).take k = List.replicate k (I x) := by rw [List.take_left' (by simp)]
  have e2 : (List.replicate k (I x) ++ List.replicate (N - k) (I 0)).drop (k + min k r) = List.replicate (N - (k + min k r)) (I 0) := by
    rw [List.drop_append, List.drop_eq_nil_of_le (by simp), List.nil_append, List.length_replicate, List.drop_replicate]; congr 1; omega
  rw [e1, e2, List.take_replicate, show min (min k r) k = min k r by omega, ← List.replicate_append_replicate]
theorem cpy_act {e : Env} {H : AHeap} {sz id g off len n : Nat} {d s : Od} {cs xs cs2 : List AV} (hd : ev e d = .ms sz id g off len) (hs : cellsOfSl H sz (ev e s) = some xs) (hn : lenOfSl (ev e s) = some n) (hX : H[id]? = some (.own g cs)) (hb : off + len * sz ≤ cs.length) {H2 : AHeap}
    (hc : cs2 = cs.take off ++ xs.take (min n len * sz) ++ cs.drop (off + min n len * sz)) (h2 : H.set id (.own g cs2) = H2) : opAct (ev e) H (.cpy sz d s) = some (I (iLen (min n len)), H2) := by
  subst h2 hc
  simp only [opAct, hs, hn, hd, hX]
  rw [if_pos ⟨trivial, trivial, hb⟩]; rfl
theorem p115 (N : Nat) (x : Int) (hN : N ≤ 1000) (h1 : 1 ≤ N) {Kk : AV → AHeap → Prop} (h : Kk (.ms 1 0 0 0 N) [.own 0 (repC N N x)]) : ACalls Try.prog 115 [.vs 1 [I x], I (iLen N)] [] Kk := by
  obtain ⟨n, hn⟩ : ∃ n, n = iLen N := ⟨_, rfl⟩
  rw [← hn]
  obtain ⟨A, hA⟩ : ∃ A, A = std := ⟨_, rfl⟩
  have hsg : ∀ g, A.sg g g := by subst hA; exact fun _ => rfl
  have hlt : A.lt n 0 = false := by subst hA; rw [hn]; simp only [std, iLt, decide_eq_false_iff_not]; unfold iLen; omega
  refine go115 rfl ?_
  refine AGo_opq fun RR hRR => ?_
  refine SGo_run hA ⟨[0], [], (122, eMul64) :: [], []⟩ (.cons (eMul64_ok p122) .nil) .nil 200 fun T TD hT hTD => ?_
  cbv
  split <;> cbv
  · rename_i hz; exact Bool.noConfusion (hz.symm.trans hlt)
  have hc1 : A.cv .u64 (A.vlen [I x]) = 1 := by subst hA; rfl
  have hc2 : A.cv .u64 n = n := by subst hA; rw [hn]; exact wrapU_id (by unfold iLen; omega) (by unfold iLen; omega)
  have hnb : 0 ≤ n ∧ n ≤ 1000 := by rw [hn]; unfold iLen; omega
  refine Exists.intro () (And.intro ⟨hc1, by show 0 ≤ A.cv .u64 n; rw [hc2]; omega, by show A.cv .u64 n ≤ _; rw [hc2]; omega⟩ ?_); cbv
  have hl0 : A.lt 0 0 = false := by subst hA; rfl
  have hl1 : A.lt 9223372036854775807 (A.cv .u64 n) = false := by rw [hc2]; subst hA; simp only [std, iLt, decide_eq_false_iff_not]; omega
  split <;> cbv
  · rename_i hz; exact Bool.noConfusion (hz.symm.trans hl0)
  split <;> cbv
  · rename_i hz; exact Bool.noConfusion (hz.symm.trans hl1)
  have hc3 : A.cv .i64 (A.cv .u64 n) = n := by rw [hc2]; subst hA; exact wrap_id (by omega) (by omega)
  have hmk : A.mkz 1 8 [.int .i64 0] (A.cv .i64 (A.cv .u64 n)) (A.cv .i64 (A.cv .u64 n)) (rowA N fun _ => I 0) N := by rw [hc3]; subst hA; exact mkS_rowA hn (by omega) (by omega)
  obtain ⟨z, hz⟩ : ∃ z, z = rowA N fun _ => I 0 := ⟨_, rfl⟩
  rw [← hz] at hmk
  have hzl : z.length = N := by rw [hz, rowA_len]
  refine Exists.intro z (Exists.intro N (And.intro hmk ?_)); cbv
  rw [hT]
  obtain ⟨RC, hRC⟩ : ∃ f : Nat → List AV, f = fun k => repC N k x := ⟨_, rfl⟩
  refine AGo_act (r := I 1) (H' := [.own 0 (RC 1)]) rfl ?_ ?_
  · have := cpy_act (e := ⟨[(32, .vs 1 [I x]), (31, .ms 1 0 0 0 N)], []⟩) (H := [.own 0 z]) (sz := 1) (d := .l 31) (s := .l 32) (xs := [I x]) (n := 1) (cs2 := RC 1) (H2 := [.own 0 (RC 1)]) rfl rfl rfl rfl (by omega) (by
      rw [hRC, hz]; dsimp only
      rw [repC_eq h1, show min 1 N * 1 = 1 by omega]
      have : (rowA N fun _ => I 0) = List.replicate N (I 0) := by
        have := repC_eq (N := N) (k := 0) (x := x) (Nat.zero_le _)
        simpa [repC] using this
      rw [this]; simp) rfl
    rw [show min 1 N = 1 by omega] at this
    exact this
  refine SGo_run hA ⟨[0], [], [], []⟩ .nil .nil 200 fun T TD hT hTD => ?_
  cbv
  rw [hT]
  refine AGo_whileE (σ := Nat) [7] (fun k => N - k) (fun k => 1 ≤ k ∧ k ≤ N) (fun k => [(8, I (iLen k))]) (fun k => [.own 0 (RC k)]) 1 ⟨Nat.le_refl _, h1⟩ ⟨rfl, trivial⟩ (.inl rfl) fun k hP Bk hB => ?_
  obtain ⟨hk1, hk2⟩ := hP
  obtain ⟨ik, hik⟩ : ∃ q, q = iLen k := ⟨_, rfl⟩
  rw [← hik]
  obtain ⟨cs, hcs⟩ : ∃ q, q = RC k := ⟨_, rfl⟩
  rw [← hcs]
  have hlt2 : A.lt ik (A.len N) = decide (k < N) := by subst hA; simp only [std, iLt]; rw [decide_eq_decide, hik]; unfold iLen; omega
  refine SGo_run hA ⟨[0], [0], [], []⟩ .nil .nil 200 fun T TD hT hTD => ?_
  cbv
  split <;> cbv
  · rename_i hz2
    have hkN : k < N := by have hz := hlt2.symm.trans hz2; simpa using hz
    obtain ⟨r, hr⟩ : ∃ r, r = N - k := ⟨_, rfl⟩
    have hs1 : A.slm 1 1 0 N (some ik) none k r := by
      rw [hr]
      subst hA; refine ⟨rfl, k, N, ?_, rfl, by omega, Nat.le_refl _, by omega, rfl⟩
      rw [hik]; simp only [bdI]; rw [if_pos (by unfold iLen; omega)]; rfl
    have hs2 : A.slm 1 1 0 N none (some ik) 0 k := by
      subst hA; refine ⟨rfl, 0, k, rfl, ?_, by omega, by omega, by omega, rfl⟩
      rw [hik]; simp only [bdI]; rw [if_pos (by unfold iLen; omega)]; rfl
    repeat refine And.intro (hsg _) ?_
    refine Exists.intro k (Exists.intro r (And.intro hs1 ?_)); cbv
    repeat refine And.intro (hsg _) ?_
    refine Exists.intro 0 (Exists.intro k (And.intro hs2 ?_)); cbv
    rw [hTD]
    obtain ⟨k2, hk3⟩ : ∃ k2, k2 = k + min k r := ⟨_, rfl⟩
    have hcl : cs.length = N := by rw [hcs, hRC]; exact repC_len
    refine DGo_act (r := I (iLen (min k r))) (H' := [.own 0 (RC k2)]) rfl rfl ?_ (by subst hA; simp [std, Keep, SubH, ResK]) ?_
    · refine cpy_act (sz := 1) (id := 0) (g := 0) (off := k) (len := r) (n := k) (cs := cs) (xs := cs.take k) rfl ?_ rfl rfl (by omega) ?_ rfl
      · show cellsOfSl [.own 0 cs] 1 (.ms 1 0 0 0 k) = _
        simp only [cellsOfSl, List.getElem?_cons_zero]
        rw [if_pos (by simp; omega)]; simp
      · rw [hcs, hRC]; dsimp only
        rw [hk3]; exact repC_cpy (by omega) hr
    have hn2 : A.add .i64 ik (iLen (min k r)) = iLen k2 := by
      subst hA; rw [hik, hk3]; show iAdd .i64 _ _ = _
      rw [iAdd_id (by unfold iLen; omega) (by unfold iLen; omega)]; unfold iLen; omega
    obtain ⟨ic, hic⟩ : ∃ q, q = iLen (min k r) := ⟨_, rfl⟩
    rw [← hic] at hn2 ⊢
    obtain ⟨cs2, hcs2⟩ : ∃ q, q = RC k2 := ⟨_, rfl⟩
    rw [← hcs2]
    refine SD_run hA ⟨[], [], [], []⟩ .nil .nil 200 200 ?_ fun T TD hT hTD => ?_
    · intro D' hD'; cases hD'; simp [SubH]
    cbv
    refine hB k2 _ _ (by omega) ⟨by omega, by omega⟩ ⟨congrArg I hn2, trivial⟩ ⟨rfl, trivial⟩ (.inl (by rw [hcs2]))
  · rename_i hz2
    have hkN : ¬ k < N := by have hz := hlt2.symm.trans hz2; simpa using hz
    refine And.intro (hsg _) (hRR _ _ ?_)
    cbv
    have hcs : cs = repC N N x := by rw [hcs, hRC, show k = N by omega]
    rw [hcs]
    exact h
def eRepeat : List AV → AHeap → Option PT
  | [.vs 1 [.lit (.int .i64 x)], .lit (.int .i64 n)], H => some fun K => ∃ N : Nat, n = iLen N ∧ 1 ≤ N ∧ N ≤ 1000 ∧ ∀ cs, cs = repC N N x → K (.ms 1 H.length 0 0 N) (H ++ [.own 0 cs])
  | _, _ => none
theorem eRepeat_ok : ∀ args H pt, eRepeat args H = some pt → ∀ (Kk : AV → AHeap → Prop), pt Kk → ACalls Try.prog 115 args H Kk := by
  intro args H pt h Kk hk
  unfold eRepeat at h
  split at h
  · rename_i x n
    cases h
    obtain ⟨N, rfl, h1, h2, hk⟩ := hk
    have hk := hk _ rfl
    have hcn : AV.nidL (repC N N x) = true := nidL_rowA (fun _ => rfl)
    have h3 := p115 N x h2 h1 (Kk := fun r H' => r = .ms 1 0 0 0 N ∧ H' = [.own 0 (repC N N x)]) ⟨rfl, rfl⟩
    have h4 := ACalls.frame (H := H) [] h3 List.nodup_nil rfl (AV.ltL_nid (by rfl)) (by simp [ltH]) (fun k X hk => by simp at hk)
    rw [AV.renL_nid (by rfl)] at h4
    refine h4.mono fun r H' hx => ?_
    obtain ⟨r0, H1, ⟨rfl, rfl⟩, _, rfl, rfl⟩ := hx
    have hre : ∀ m0, AV.renL m0 (repC N N x) = repC N N x := fun m0 => AV.renL_nid hcn
    simpa [merge, updL, more, AV.ren, AV.renL, at_, AObj.ren, List.range', hre] using hk
  · cases h
end Go.Sas
