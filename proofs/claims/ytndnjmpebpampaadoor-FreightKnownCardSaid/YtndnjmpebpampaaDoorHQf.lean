/-
Freight: places in the order of what is left over: contracts.
Freight: ranges of places exchanged, and rotated: contracts.
Freight: rows of places as functions; what the comparer says of them.
Freight: halves in order are merged in place: contract, first case (one element on the left).
Freight: halves in order are merged in place: contract, second case (one element on the right).
Conditions: none.
-/
import Derived.Test.YtndnjmpebpampaaDoorHYf
import Derived.Test.YtndnjmpebpampaaDoorQF4
import Derived.Test.YtndnjmpebpampaaDoorP8f
import Derived.Test.YtndnjmpebpampaaDoorI3f
set_option linter.unusedVariables false
set_option linter.unusedSimpArgs false
namespace Go.Sas
open Go.Proofs
set_option maxRecDepth 100000
/-- places, and the numbers that they are compared by -/
abbrev shH (g g2 n : Nat) (l : List Nat) (rc : List Int) : AHeap := [.own g (l.map natI), .own 0 [.ms 1 2 g2 0 n], .own g2 (rc.map I)]
abbrev keyR (rc : List Int) (k : Nat) : Int := rc.getD k 0
theorem getS_D {rc : List Int} {k : Nat} (h : k < rc.length) : getS none (rc.map I) k (I (keyR rc k)) := by
  unfold keyR
  rw [List.getD_eq_getElem?_getD, List.getElem?_eq_getElem h]
  exact getS_I (List.getElem?_eq_getElem h)
theorem p63 (g g2 n a b : Nat) (l : List Nat) (rc : List Int) (hr : rc.length = n) (ha : a < n) (hb : b < n) (hn : n ≤ 1000) {Kk : AV → AHeap → Prop} (h : Kk (I (cmpI (keyR rc b) (keyR rc a))) (shH g g2 n l rc)) :
    ACalls Tryd.prog 63 [natI a, natI b, .mp 1 0 0] (shH g g2 n l rc) Kk := by
  obtain ⟨ia, hia⟩ : ∃ q, q = iLen a := ⟨_, rfl⟩
  obtain ⟨ib, hib⟩ : ∃ q, q = iLen b := ⟨_, rfl⟩
  obtain ⟨lc, hlc⟩ : ∃ q, q = l.map natI := ⟨_, rfl⟩
  obtain ⟨rr, hrr⟩ : ∃ q, q = rc.map I := ⟨_, rfl⟩
  obtain ⟨W, hW⟩ : ∃ W, W = cmpI (keyR rc b) (keyR rc a) := ⟨_, rfl⟩
  unfold shH at h ⊢
  rw [← hW, ← hlc, ← hrr] at h
  rw [← hlc, ← hrr]
  show ACalls Tryd.prog 63 [I (iLen a), I (iLen b), .mp 1 0 0] _ Kk
  rw [← hia, ← hib]
  obtain ⟨A, hA⟩ : ∃ A, A = std := ⟨_, rfl⟩
  have hsg : ∀ g, A.sg g g := by subst hA; exact fun _ => rfl
  have hx1 : A.ixm 1 1 0 n ia a := by subst hA; exact ixm1 hia ha
  have hx2 : A.ixm 1 1 0 n ib b := by subst hA; exact ixm1 hib hb
  obtain ⟨ka, hka⟩ : ∃ q, q = keyR rc a := ⟨_, rfl⟩
  obtain ⟨kb, hkb⟩ : ∃ q, q = keyR rc b := ⟨_, rfl⟩
  have hg1 : A.get none rr a (I ka) := by subst hA; rw [hrr, hka]; exact getS_D (by omega)
  have hg2 : A.get none rr b (I kb) := by subst hA; rw [hrr, hkb]; exact getS_D (by omega)
  rw [← hka, ← hkb] at hW
  refine go63 rfl (SGo_run hA ⟨[2], [], (58, eCmp) :: [], []⟩ (.cons eCmp_ok .nil) .nil 200 fun T TD hT hTD => ?_)
  cbv
  refine And.intro (hsg _) (Exists.intro b (And.intro hx2 ?_)); cbv
  refine And.intro (hsg _) (Exists.intro _ (And.intro hg2 ?_)); cbv
  refine And.intro (hsg _) (Exists.intro a (And.intro hx1 ?_)); cbv
  refine And.intro (hsg _) (Exists.intro _ (And.intro hg1 ?_)); cbv
  intro q hq; cbv
  have e : q = W := by rw [hq, hW]
  rw [e]; exact ite_both h
def eCmpR : List AV → AHeap → Option PT
  | [.lit (.int .i64 x), .lit (.int .i64 y), .mp 1 0 0], [.own g lc, .own 0 [.ms 1 2 g2 0 n], .own g2' rr] => some fun K => ∃ (a b : Nat) (l : List Nat) (rc : List Int), (x = iLen a ∧ y = iLen b ∧ lc = l.map natI ∧ rr = rc.map I ∧ g2' = g2 ∧ rc.length = n ∧ a < n ∧ b < n ∧ n ≤ 1000) ∧ ∀ q, q = cmpI (keyR rc b) (keyR rc a) → K (I q) [.own g lc, .own 0 [.ms 1 2 g2 0 n], .own g2' rr]
  | _, _ => none
theorem eCmpR_ok : ∀ args H pt, eCmpR args H = some pt → ∀ (Kk : AV → AHeap → Prop), pt Kk → ACalls Tryd.prog 63 args H Kk := by
  intro args H pt h Kk hk
  unfold eCmpR at h
  split at h
  · cases h
    obtain ⟨a, b, l, rc, ⟨rfl, rfl, rfl, rfl, rfl, h1, h2, h3, h4⟩, h5⟩ := hk
    exact p63 _ _ _ a b l rc h1 h2 h3 h4 (h5 _ rfl)
  · cases h
theorem app_set {α : Type} {P M : List α} {q : Nat} {x : α} : (P ++ M).set (P.length + q) x = P ++ M.set q x := by
  rw [List.set_append_right _ _ (by omega), Nat.add_sub_cancel_left]
theorem app_get {α : Type} {P M : List α} {q : Nat} : (P ++ M)[P.length + q]? = M[q]? := by
  rw [List.getElem?_append_right (by omega), Nat.add_sub_cancel_left]
set_option maxHeartbeats 4000000 in
/-- a part of the places is sorted -/
theorem p77 (g g2 n c : Nat) (P M : List Nat) (rc : List Int) (hn : n = P.length + M.length) (hc : c ≤ M.length) (hn2 : n ≤ 1000) (hr : rc.length = n) (hb : ∀ k ∈ M, k < n) {Kk : AV → AHeap → Prop}
    (h : Kk (.tup []) (shH g g2 n (P ++ (sortV (keyR rc) (M.take c) ++ M.drop c)) rc)) :
    ACalls Tryd.prog 77 [.ms 1 0 g 0 n, I (iLen P.length), I (iLen (P.length + c)), .fn 63 [.mp 1 0 0]] (shH g g2 n (P ++ M) rc) Kk := by
  obtain ⟨ia, hia⟩ : ∃ q, q = iLen P.length := ⟨_, rfl⟩
  obtain ⟨ib, hib⟩ : ∃ q, q = iLen (P.length + c) := ⟨_, rfl⟩
  obtain ⟨lc, hlc⟩ : ∃ q, q = (P ++ M).map natI := ⟨_, rfl⟩
  obtain ⟨rr, hrr⟩ : ∃ q, q = rc.map I := ⟨_, rfl⟩
  obtain ⟨ky, hky⟩ : ∃ q, q = keyR rc := ⟨_, rfl⟩
  unfold shH at h ⊢
  rw [← hrr, ← hky] at h
  rw [← hlc, ← hrr, ← hia, ← hib]
  obtain ⟨A, hA⟩ : ∃ A, A = std := ⟨_, rfl⟩
  have hsg : ∀ g, A.sg g g := by subst hA; exact fun _ => rfl
  have hll : ∀ x y, A.lt x y = decide (x < y) := by subst hA; intro x y; rfl
  have h01 : A.add .i64 ia 1 = iLen (P.length + 0 + 1) := by subst hA; rw [hia]; show iAdd .i64 _ 1 = _; rw [iAdd_id (by unfold iLen; omega) (by unfold iLen; omega)]; unfold iLen; omega
  refine go77 rfl (SGo_run hA ⟨[0], [], [], []⟩ .nil .nil 200 fun T TD hT hTD => ?_)
  cbv
  rw [hT]
  have hst : ∀ j, j ≤ M.length → (sortV ky (M.take j) ++ M.drop j).length = M.length := fun j hj => by rw [List.length_append, sortV_len]; simp; omega
  have hs1 : sortV ky (M.take 1) ++ M.drop 1 = M := by
    cases M with
    | nil => rfl
    | cons x l => simp [sortV, insV]
  have hfin : ∀ j, c ≤ j + 1 → (j = 0 ∨ j + 1 ≤ c) → sortV ky (M.take (j + 1)) ++ M.drop (j + 1) = sortV ky (M.take c) ++ M.drop c := fun j h1 h2 => by
    rcases h2 with h2 | h2
    · subst h2
      by_cases hc0 : c = 0
      · subst hc0; rw [hs1]; simp [sortV]
      · have : c = 1 := by omega
        rw [this]
    · have : c = j + 1 := by omega
      rw [this]
  refine AGo_upE [0, 1, 2, 3] (c - 1) (fun _ (_ : Unit) => True) (fun j _ _ => [(8, I (iLen (P.length + j + 1)))]) (fun j _ => [.own g ((P ++ (sortV ky (M.take (j + 1)) ++ M.drop (j + 1))).map natI), .own 0 [.ms 1 2 g2 0 n], .own g2 rr]) () trivial ⟨congrArg I h01, trivial⟩ (.inl (by rw [hs1, hlc])) fun j _ i hi hj _ Bk hB => ?_
  clear hT hTD T TD
  obtain ⟨ij, hij⟩ : ∃ q, q = iLen (P.length + j + 1) := ⟨_, rfl⟩
  rw [← hij]
  have hlt : A.lt ij ib = decide (j < c - 1) := by rw [hll, hij, hib]; unfold iLen; apply decide_eq_decide.2; omega
  have hadd : A.add .i64 ij 1 = iLen (P.length + (j + 1) + 1) := by subst hA; rw [hij]; show iAdd .i64 _ 1 = _; rw [iAdd_id (by unfold iLen; omega) (by unfold iLen; omega)]; unfold iLen; omega
  obtain ⟨l1, hl1⟩ : ∃ r, r = sortV ky (M.take (j + 1)) ++ M.drop (j + 1) := ⟨_, rfl⟩
  obtain ⟨c1, hc1⟩ : ∃ r, r = (P ++ l1).map natI := ⟨_, rfl⟩
  rw [← hl1, ← hc1]
  refine SGo_run hA ⟨[0], [], [], []⟩ .nil .nil 200 fun T TD hT hTD => ?_
  cbv
  split <;> cbv
  · rename_i hk0
    have hk1 : j < (c - 1) := by have hz := hlt.symm.trans hk0; simpa using hz
    clear hk0
    have hstep := sort_step (key := ky) (d := 0) (l := M) (i := j + 1) (by omega)
    rw [← hl1] at hstep
    have hl1n : l1.length = M.length := by rw [hl1]; exact hst _ (by omega)
    have hl1b : ∀ k ∈ l1, k < n := fun o ho => by
      rw [hl1] at ho
      rcases List.mem_append.1 ho with h9 | h9
      · exact hb o (List.mem_of_mem_take (sortV_mem.1 h9))
      · exact hb o (List.mem_of_mem_drop h9)
    rw [hT]
    refine AGo_whileE [0, 1, 2, 3, 8] (fun (s : Nat × List Nat) => s.1) (fun s => s.1 ≤ j + 1 ∧ s.2.length = M.length ∧ (∀ o ∈ s.2, o < n) ∧ bubV ky 0 s.2 s.1 = sortV ky (M.take (j + 1 + 1)) ++ M.drop (j + 1 + 1)) (fun s => [(9, I (iLen (P.length + s.1)))]) (fun s => [.own g ((P ++ s.2).map natI), .own 0 [.ms 1 2 g2 0 n], .own g2 rr]) (j + 1, l1) ⟨Nat.le_refl _, hl1n, hl1b, hstep⟩ ⟨congrArg I hij, trivial⟩ (.inl (by rw [hc1])) fun s hP Bk2 hB2 => ?_
    clear hT hTD T TD
    obtain ⟨m, l2⟩ := s
    obtain ⟨hP1, hP2, hP3, hP4⟩ := hP
    dsimp only at hP1 hP2 hP3 hP4 hB2 ⊢
    obtain ⟨im, him⟩ : ∃ q, q = iLen (P.length + m) := ⟨_, rfl⟩
    obtain ⟨c2, hc2⟩ : ∃ r, r = (P ++ l2).map natI := ⟨_, rfl⟩
    rw [← him, ← hc2]
    have hz0 : A.lt ia im = decide (0 < m) := by rw [hll, hia, him]; unfold iLen; apply decide_eq_decide.2; omega
    refine SGo_run hA ⟨[0], [2000000], [], (63, eCmpR) :: []⟩ .nil (.cons eCmpR_ok .nil) 200 fun T TD hT hTD => ?_
    cbv
    split <;> cbv
    · rename_i hz
      have hz : 0 < m := of_decide_eq_true (hz0.symm.trans hz)
      obtain ⟨q, hq⟩ : ∃ q, m = q + 1 := ⟨m - 1, by omega⟩
      subst hq
      obtain ⟨x, hx⟩ : ∃ x, l2[q + 1]? = some x := ⟨_, List.getElem?_eq_getElem (by omega)⟩
      obtain ⟨y, hy⟩ : ∃ x, l2[q]? = some x := ⟨_, List.getElem?_eq_getElem (by omega)⟩
      have hbx := hP3 _ (List.mem_of_getElem? hx)
      have hby := hP3 _ (List.mem_of_getElem? hy)
      have hgx : l2.getD (q + 1) 0 = x := by rw [List.getD_eq_getElem?_getD, hx]; rfl
      have hgy : l2.getD q 0 = y := by rw [List.getD_eq_getElem?_getD, hy]; rfl
      simp only [bubV, hgx, hgy] at hP4
      obtain ⟨ix, hix⟩ : ∃ i, i = iLen x := ⟨_, rfl⟩
      obtain ⟨iy, hiy⟩ : ∃ i, i = iLen y := ⟨_, rfl⟩
      obtain ⟨o1, ho1⟩ : ∃ o, o = P.length + (q + 1) := ⟨_, rfl⟩
      obtain ⟨o2, ho2⟩ : ∃ o, o = P.length + q := ⟨_, rfl⟩
      have hsm : A.sub .i64 im 1 = iLen (P.length + q) := by subst hA; rw [him]; show iSub .i64 _ 1 = _; unfold iLen; rw [iSub_id (by omega) (by omega)]; omega
      have hx1 : A.ixm 1 1 0 n im o1 := by subst hA; rw [ho1]; exact ixm1 him (by omega)
      have hx2 : A.ixm 1 1 0 n (A.sub .i64 im 1) o2 := by rw [hsm, ho2]; subst hA; exact ixm1 rfl (by omega)
      have hg1 : A.get none c2 o1 (I ix) := by subst hA; rw [hc2, ho1, hix]; exact getS_map (by rw [app_get]; exact hx)
      have hg2 : A.get none c2 o2 (I iy) := by subst hA; rw [hc2, ho2, hiy]; exact getS_map (by rw [app_get]; exact hy)
      obtain ⟨c3, hc3⟩ : ∃ r, r = (P ++ l2.set (q + 1) y).map natI := ⟨_, rfl⟩
      obtain ⟨c4, hc4⟩ : ∃ r, r = (P ++ (l2.set (q + 1) y).set q x).map natI := ⟨_, rfl⟩
      have hu1 : A.upd 1 c2 o1 [I iy] c3 := by
        subst hA
        have := updS_map (p := P ++ l2) (i := P.length + (q + 1)) (x := y) (by rw [List.length_append]; omega)
        rw [app_set] at this
        rw [hc2, hc3, ho1, hiy]; exact this
      have hu2 : A.upd 1 c3 o2 [I ix] c4 := by
        subst hA
        have := updS_map (p := P ++ l2.set (q + 1) y) (i := P.length + q) (x := x) (by rw [List.length_append, List.length_set]; omega)
        rw [app_set] at this
        rw [hc3, hc4, ho2, hix]; exact this
      refine And.intro (hsg _) (Exists.intro _ (And.intro hx1 ?_)); cbv
      refine And.intro (hsg _) (Exists.intro _ (And.intro hg1 ?_)); cbv
      refine And.intro (hsg _) (Exists.intro _ (And.intro hx2 ?_)); cbv
      refine And.intro (hsg _) (Exists.intro _ (And.intro hg2 ?_)); cbv
      refine Exists.intro x (Exists.intro y (Exists.intro (P ++ l2) (Exists.intro rc (And.intro ⟨hix, hiy, hc2, hrr, rfl, hr, hbx, hby, hn2⟩ ?_))))
      intro cq hcq
      have hl0 := hll cq 0
      have hcmp : cq < 0 ↔ ky y < ky x := by
        rw [hcq, hky]; unfold cmpI
        split
        · rename_i h9; exact ⟨fun _ => h9, fun _ => by decide⟩
        · rename_i h9
          split
          · exact ⟨fun h8 => absurd h8 (by decide), fun h8 => absurd h8 h9⟩
          · exact ⟨fun h8 => absurd h8 (by decide), fun h8 => absurd h8 h9⟩
      clear hcq
      cbv
      refine And.intro (by subst hA; exact .inr ⟨⟨rfl, SubH.same (SubH.same trivial)⟩, by simp [ResK], .inr fun _ => SubH.same (SubH.same (SubH.same trivial))⟩) ?_
      cbv
      split <;> cbv
      · rename_i hz9
        have hz9 := hl0.symm.trans hz9
        rw [decide_eq_true_eq, hcmp] at hz9
        rw [if_pos hz9] at hP4
        have hset : ∀ z, z ∈ ((l2.set (q + 1) y).set q x) → z < n := fun z hz8 => by
          rcases List.mem_or_eq_of_mem_set hz8 with h8 | h8
          · rcases List.mem_or_eq_of_mem_set h8 with h7 | h7
            · exact hP3 z h7
            · rw [h7]; exact hby
          · rw [h8]; exact hbx
        refine And.intro (hsg _) (Exists.intro _ (And.intro hx2 ?_)); cbv
        refine And.intro (hsg _) (Exists.intro _ (And.intro hg2 ?_)); cbv
        refine And.intro (hsg _) (Exists.intro _ (And.intro hx1 ?_)); cbv
        refine And.intro (hsg _) (Exists.intro _ (And.intro hg1 ?_)); cbv
        refine And.intro (hsg _) (Exists.intro _ (And.intro hx1 ?_)); cbv
        refine And.intro (hsg _) (Exists.intro _ (And.intro hu1 ?_)); cbv
        refine And.intro (by subst hA; exact .inr ⟨⟨rfl, SubH.same (SubH.same trivial)⟩, trivial, .inl rfl⟩) ?_; cbv
        refine And.intro (hsg _) (Exists.intro _ (And.intro hx2 ?_)); cbv
        refine And.intro (hsg _) (Exists.intro _ (And.intro hu2 ?_)); cbv
        exact hB2 (q, (l2.set (q + 1) y).set q x) _ _ (by dsimp only; omega) ⟨by dsimp only; omega, by simp [hP2], hset, hP4⟩ ⟨congrArg I hsm, trivial⟩ ⟨rfl, rfl, rfl, rfl, rfl, trivial⟩ (.inl (by rw [hc4]))
      · rename_i hz9
        have hz9 := hl0.symm.trans hz9
        rw [decide_eq_false_iff_not, hcmp] at hz9
        rw [if_neg hz9] at hP4
        exact hB () _ _ hk1 trivial ⟨congrArg I hadd, trivial⟩ ⟨rfl, rfl, rfl, rfl, trivial⟩ (.inl (by rw [hc2, hP4]))
    · rename_i hz
      have hz : ¬ 0 < m := of_decide_eq_false (hz0.symm.trans hz)
      have hm0 : m = 0 := by omega
      subst hm0
      have hend : l2 = sortV ky (M.take (j + 1 + 1)) ++ M.drop (j + 1 + 1) := hP4
      exact hB () _ _ hk1 trivial ⟨congrArg I hadd, trivial⟩ ⟨rfl, rfl, rfl, rfl, trivial⟩ (.inl (by rw [hc2, hend]))
  · rename_i hk0
    have hk1 : ¬ j < (c - 1) := by have hz := hlt.symm.trans hk0; simpa using hz
    clear hk0
    have hend : c1 = (P ++ (sortV ky (M.take c) ++ M.drop c)).map natI := by
      rw [hc1, hl1, hfin j (by omega) (by omega)]
    rw [← hend] at h
    exact ite_both h
end Go.Sas
namespace Go.Sas
open Go.Proofs
set_option maxRecDepth 100000
set_option maxHeartbeats 4000000 in
theorem p91 (g g2 n a b c : Nat) (F : Nat → Int) (rr : List AV) (hab : a + c ≤ b) (hbn : b + c ≤ n) (hn2 : n ≤ 1000) {Kk : AV → AHeap → Prop}
    (h : Kk (.tup []) [.own g (rowF n (swR F a b c)), .own 0 [.ms 1 2 g2 0 n], .own g2 rr]) :
    ACalls Tryd.prog 91 [.ms 1 0 g 0 n, I (iLen a), I (iLen b), I (iLen c), .fn 63 [.mp 1 0 0]] [.own g (rowF n F), .own 0 [.ms 1 2 g2 0 n], .own g2 rr] Kk := by
  obtain ⟨ia, hia⟩ : ∃ q, q = iLen a := ⟨_, rfl⟩
  obtain ⟨ib, hib⟩ : ∃ q, q = iLen b := ⟨_, rfl⟩
  obtain ⟨ic, hic⟩ : ∃ q, q = iLen c := ⟨_, rfl⟩
  obtain ⟨lc, hlc⟩ : ∃ q, q = rowF n F := ⟨_, rfl⟩
  rw [← hlc, ← hia, ← hib, ← hic]
  obtain ⟨A, hA⟩ : ∃ A, A = std := ⟨_, rfl⟩
  have hsg : ∀ g, A.sg g g := by subst hA; exact fun _ => rfl
  have hll : ∀ x y, A.lt x y = decide (x < y) := by subst hA; intro x y; rfl
  refine go91 rfl (SGo_run hA ⟨[0], [], [], []⟩ .nil .nil 200 fun T TD hT hTD => ?_)
  cbv
  rw [hT]
  refine AGo_upE [0, 1, 2, 3] c (fun _ (_ : Unit) => True) (fun j _ i => [(10, I i)]) (fun j _ => [.own g (rowF n (swR F a b j)), .own 0 [.ms 1 2 g2 0 n], .own g2 rr]) () trivial ⟨rfl, trivial⟩ (.inl (by rw [swR_zero, hlc])) fun j _ i hi hj _ Bk hB => ?_
  clear hT hTD T TD
  have hlt : A.lt i ic = decide (j < c) := by rw [hll, hi, hic]; unfold iLen; apply decide_eq_decide.2; omega
  have hadd : ∀ N, j < N → N ≤ 9223372036854775807 → A.add .i64 i 1 = iLen (j + 1) := fun N hj hN => by subst hA; exact add_one hi hj hN
  obtain ⟨G, hG⟩ : ∃ r, r = swR F a b j := ⟨_, rfl⟩
  obtain ⟨c1, hc1⟩ : ∃ r, r = rowF n G := ⟨_, rfl⟩
  rw [← hG, ← hc1]
  refine SGo_run hA ⟨[0], [2000000], [], []⟩ .nil .nil 200 fun T TD hT hTD => ?_
  cbv
  split <;> cbv
  · rename_i hk0
    have hk1 : j < c := by have hz := hlt.symm.trans hk0; simpa using hz
    clear hk0
    have hsa : A.add .i64 ia i = iLen (a + j) := by subst hA; rw [hia, hi]; show iAdd .i64 _ _ = _; rw [iAdd_id (by unfold iLen; omega) (by unfold iLen; omega)]; unfold iLen; omega
    have hsb : A.add .i64 ib i = iLen (b + j) := by subst hA; rw [hib, hi]; show iAdd .i64 _ _ = _; rw [iAdd_id (by unfold iLen; omega) (by unfold iLen; omega)]; unfold iLen; omega
    obtain ⟨oa, hoa⟩ : ∃ o, o = a + j := ⟨_, rfl⟩
    obtain ⟨ob, hob⟩ : ∃ o, o = b + j := ⟨_, rfl⟩
    obtain ⟨va, hva⟩ : ∃ v, v = G oa := ⟨_, rfl⟩
    obtain ⟨vb, hvb⟩ : ∃ v, v = G ob := ⟨_, rfl⟩
    have hxa : A.ixm 1 1 0 n (A.add .i64 ia i) oa := by rw [hsa, hoa]; subst hA; exact ixm1 rfl (by omega)
    have hxb : A.ixm 1 1 0 n (A.add .i64 ib i) ob := by rw [hsb, hob]; subst hA; exact ixm1 rfl (by omega)
    have hga : A.get none c1 oa (I va) := by subst hA; rw [hc1, hva]; exact getS_row (by omega)
    have hgb : A.get none c1 ob (I vb) := by subst hA; rw [hc1, hvb]; exact getS_row (by omega)
    obtain ⟨c2, hc2⟩ : ∃ r, r = rowF n (updF G oa vb) := ⟨_, rfl⟩
    obtain ⟨c3, hc3⟩ : ∃ r, r = rowF n (updF (updF G oa vb) ob va) := ⟨_, rfl⟩
    have hu1 : A.upd 1 c1 oa [I vb] c2 := by subst hA; rw [hc1, hc2]; exact updS_row (by omega)
    have hu2 : A.upd 1 c2 ob [I va] c3 := by subst hA; rw [hc2, hc3]; exact updS_row (by omega)
    have hend : c3 = rowF n (swR F a b (j + 1)) := by rw [hc3, ← swR_succ (by omega), ← hG, hva, hvb, hoa, hob]
    refine And.intro (hsg _) (Exists.intro _ (And.intro hxb ?_)); cbv
    refine And.intro (hsg _) (Exists.intro _ (And.intro hgb ?_)); cbv
    refine And.intro (hsg _) (Exists.intro _ (And.intro hxa ?_)); cbv
    refine And.intro (hsg _) (Exists.intro _ (And.intro hga ?_)); cbv
    refine And.intro (hsg _) (Exists.intro _ (And.intro hxa ?_)); cbv
    refine And.intro (hsg _) (Exists.intro _ (And.intro hu1 ?_)); cbv
    refine And.intro (by subst hA; exact .inr ⟨⟨rfl, SubH.same (SubH.same trivial)⟩, trivial, .inl rfl⟩) ?_; cbv
    refine And.intro (hsg _) (Exists.intro _ (And.intro hxb ?_)); cbv
    refine And.intro (hsg _) (Exists.intro _ (And.intro hu2 ?_)); cbv
    exact hB () _ _ hk1 trivial ⟨congrArg I (hadd _ hk1 (by omega)), trivial⟩ ⟨rfl, rfl, rfl, rfl, trivial⟩ (.inl (by rw [hend]))
  · rename_i hk0
    have hk1 : ¬ j < c := by have hz := hlt.symm.trans hk0; simpa using hz
    clear hk0
    have hjc : j = c := by omega
    rw [hc1, hG, hjc]
    exact ite_both h
def eSwR : List AV → AHeap → Option PT
  | [.ms 1 0 g 0 n, .lit (.int .i64 a), .lit (.int .i64 b), .lit (.int .i64 c), .fn 63 [.mp 1 0 0]], [.own g' lc, .own 0 [.ms 1 2 g2 0 n'], .own g2' rr] => some fun K => ∃ (F : Nat → Int) (ka kb kc : Nat), (g' = g ∧ n' = n ∧ g2' = g2 ∧ lc = rowF n F ∧ a = iLen ka ∧ b = iLen kb ∧ c = iLen kc) ∧ (ka + kc ≤ kb ∧ kb + kc ≤ n ∧ n ≤ 1000) ∧
      ∀ c2, c2 = rowF n (swR F ka kb kc) → K (.tup []) [.own g c2, .own 0 [.ms 1 2 g2 0 n], .own g2 rr]
  | _, _ => none
theorem eSwR_ok : ∀ args H pt, eSwR args H = some pt → ∀ (Kk : AV → AHeap → Prop), pt Kk → ACalls Tryd.prog 91 args H Kk := by
  intro args H pt h Kk hk
  unfold eSwR at h
  split at h
  · cases h
    obtain ⟨F, ka, kb, kc, ⟨rfl, rfl, rfl, rfl, rfl, rfl, rfl⟩, ⟨h1, h2, h3⟩, h4⟩ := hk
    exact p91 _ _ _ ka kb kc F _ h1 h2 h3 (h4 _ rfl)
  · cases h
set_option maxHeartbeats 4000000 in
theorem p84 (g g2 n a m b : Nat) (F : Nat → Int) (rr : List AV) (ham : a < m) (hmb : m < b) (hbn : b ≤ n) (hn2 : n ≤ 1000) {Kk : AV → AHeap → Prop}
    (h : Kk (.tup []) [.own g (rowF n (rotR F a m b)), .own 0 [.ms 1 2 g2 0 n], .own g2 rr]) :
    ACalls Tryd.prog 84 [.ms 1 0 g 0 n, I (iLen a), I (iLen m), I (iLen b), .fn 63 [.mp 1 0 0]] [.own g (rowF n F), .own 0 [.ms 1 2 g2 0 n], .own g2 rr] Kk := by
  obtain ⟨ia, hia⟩ : ∃ q, q = iLen a := ⟨_, rfl⟩
  obtain ⟨im, him⟩ : ∃ q, q = iLen m := ⟨_, rfl⟩
  obtain ⟨ib, hib⟩ : ∃ q, q = iLen b := ⟨_, rfl⟩
  obtain ⟨lc, hlc⟩ : ∃ q, q = rowF n F := ⟨_, rfl⟩
  rw [← hlc, ← hia, ← him, ← hib]
  obtain ⟨A, hA⟩ : ∃ A, A = std := ⟨_, rfl⟩
  have hll : ∀ x y, A.lt x y = decide (x < y) := by subst hA; intro x y; rfl
  have hne : ∀ x y, A.ne x y = decide (x ≠ y) := by subst hA; intro x y; show (x != y) = _; rw [Bool.eq_iff_iff]; simp
  have hsub : ∀ x y : Nat, y ≤ x → x ≤ 1000 → A.sub .i64 (iLen x) (iLen y) = iLen (x - y) := by
    subst hA; intro x y h1 h2; show iSub .i64 _ _ = _; rw [iSub_id (by unfold iLen; omega) (by unfold iLen; omega)]; unfold iLen; omega
  have hadd : ∀ x y : Nat, x ≤ 1000 → y ≤ 1000 → A.add .i64 (iLen x) (iLen y) = iLen (x + y) := by
    subst hA; intro x y h1 h2; show iAdd .i64 _ _ = _; rw [iAdd_id (by unfold iLen; omega) (by unfold iLen; omega)]; unfold iLen; omega
  have h01 : A.sub .i64 im ia = iLen (m - a) := by rw [him, hia]; exact hsub _ _ (by omega) (by omega)
  have h02 : A.sub .i64 ib im = iLen (b - m) := by rw [him, hib]; exact hsub _ _ (by omega) (by omega)
  refine go84 rfl (SGo_run hA ⟨[], [], [], []⟩ .nil .nil 200 fun T TD hT hTD => ?_)
  cbv
  rw [hT]
  refine AGo_whileE (σ := Nat × Nat × (Nat → Int)) [0, 1, 2, 3, 4] (fun s => s.1 + s.2.1) (fun s => (1 ≤ s.1 ∧ s.1 ≤ m) ∧ (1 ≤ s.2.1 ∧ m + s.2.1 ≤ n) ∧ rotR s.2.2 (m - s.1) m (m + s.2.1) = rotR F a m b) (fun s => [(10, I (iLen s.1)), (11, I (iLen s.2.1))]) (fun s => [.own g (rowF n s.2.2), .own 0 [.ms 1 2 g2 0 n], .own g2 rr]) (m - a, b - m, F) ⟨⟨by dsimp only; omega, by dsimp only; omega⟩, ⟨by dsimp only; omega, by dsimp only; omega⟩, by dsimp only; rw [show m - (m - a) = a by omega, show m + (b - m) = b by omega]⟩ ⟨congrArg I h01, congrArg I h02, trivial⟩ (.inl (by rw [hlc])) fun s hP Bk hB => ?_
  obtain ⟨i, j, G⟩ := s
  obtain ⟨⟨hP1, hP2⟩, ⟨hP3, hP4⟩, hP5⟩ := hP
  dsimp only at hP1 hP2 hP3 hP4 hP5 ⊢
  obtain ⟨ii, hii⟩ : ∃ q, q = iLen i := ⟨_, rfl⟩
  obtain ⟨ij, hij⟩ : ∃ q, q = iLen j := ⟨_, rfl⟩
  obtain ⟨c1, hc1⟩ : ∃ q, q = rowF n G := ⟨_, rfl⟩
  rw [← hii, ← hij, ← hc1]
  have z1 : A.ne ii ij = decide (i ≠ j) := by rw [hne, hii, hij]; apply decide_eq_decide.2; unfold iLen; omega
  have z2 : A.lt ij ii = decide (j < i) := by rw [hll, hii, hij]; apply decide_eq_decide.2; unfold iLen; omega
  have hmi : A.sub .i64 im ii = iLen (m - i) := by rw [him, hii]; exact hsub _ _ hP2 (by omega)
  have hmj : A.add .i64 im ij = iLen (m + j) := by rw [him, hij]; exact hadd _ _ (by omega) (by omega)
  clear hT hTD T TD
  refine SGo_run hA ⟨[], [], [], (91, eSwR) :: []⟩ .nil (.cons eSwR_ok .nil) 200 fun T TD hT hTD => ?_
  cbv
  split <;> cbv
  · rename_i hz
    have hz : i ≠ j := of_decide_eq_true (z1.symm.trans hz)
    split <;> cbv
    · rename_i hz2
      have hz2 : j < i := of_decide_eq_true (z2.symm.trans hz2)
      have hnew : A.sub .i64 ii ij = iLen (i - j) := by rw [hii, hij]; exact hsub _ _ (by omega) (by omega)
      refine Exists.intro G (Exists.intro (m - i) (Exists.intro m (Exists.intro j (And.intro ⟨rfl, rfl, rfl, hc1, hmi, him, hij⟩ (And.intro ⟨by omega, by omega, hn2⟩ ?_)))))
      intro c2 hc2; cbv
      exact hB (i - j, j, swR G (m - i) m j) _ _ (by dsimp only; omega) ⟨⟨by dsimp only; omega, by dsimp only; omega⟩, ⟨hP3, hP4⟩, by dsimp only; rw [rot_gt hz2 hP2, hP5]⟩ ⟨congrArg I hnew, congrArg I hij, trivial⟩ ⟨rfl, rfl, rfl, rfl, rfl, trivial⟩ (.inl (by rw [hc2]))
    · rename_i hz2
      have hz2 : ¬ j < i := of_decide_eq_false (z2.symm.trans hz2)
      have hnew : A.sub .i64 ij ii = iLen (j - i) := by rw [hii, hij]; exact hsub _ _ (by omega) (by omega)
      have hmji : A.sub .i64 (A.add .i64 im ij) ii = iLen (m + j - i) := by rw [hmj, hii]; exact hsub _ _ (by omega) (by omega)
      refine Exists.intro G (Exists.intro (m - i) (Exists.intro (m + j - i) (Exists.intro i (And.intro ⟨rfl, rfl, rfl, hc1, hmi, hmji, hii⟩ (And.intro ⟨by omega, by omega, hn2⟩ ?_)))))
      intro c2 hc2; cbv
      exact hB (i, j - i, swR G (m - i) (m + j - i) i) _ _ (by dsimp only; omega) ⟨⟨hP1, hP2⟩, ⟨by dsimp only; omega, by dsimp only; omega⟩, by dsimp only; rw [rot_lt (by omega) hP2, hP5]⟩ ⟨congrArg I hii, congrArg I hnew, trivial⟩ ⟨rfl, rfl, rfl, rfl, rfl, trivial⟩ (.inl (by rw [hc2]))
  · rename_i hz
    have hz : ¬ i ≠ j := of_decide_eq_false (z1.symm.trans hz)
    have hz : i = j := by omega
    refine Exists.intro G (Exists.intro (m - i) (Exists.intro m (Exists.intro i (And.intro ⟨rfl, rfl, rfl, hc1, hmi, him, hii⟩ (And.intro ⟨by omega, by omega, hn2⟩ ?_)))))
    intro c2 hc2; cbv
    have e : c2 = rowF n (rotR F a m b) := by rw [hc2, rot_eq hP2, ← hP5, hz]
    rw [e]
    exact ite_both h
def eRotR : List AV → AHeap → Option PT
  | [.ms 1 0 g 0 n, .lit (.int .i64 a), .lit (.int .i64 b), .lit (.int .i64 c), .fn 63 [.mp 1 0 0]], [.own g' lc, .own 0 [.ms 1 2 g2 0 n'], .own g2' rr] => some fun K => ∃ (F : Nat → Int) (ka kb kc : Nat), (g' = g ∧ n' = n ∧ g2' = g2 ∧ lc = rowF n F ∧ a = iLen ka ∧ b = iLen kb ∧ c = iLen kc) ∧ (ka < kb ∧ kb < kc ∧ kc ≤ n ∧ n ≤ 1000) ∧
      ∀ c2, c2 = rowF n (rotR F ka kb kc) → K (.tup []) [.own g c2, .own 0 [.ms 1 2 g2 0 n], .own g2 rr]
  | _, _ => none
theorem eRotR_ok : ∀ args H pt, eRotR args H = some pt → ∀ (Kk : AV → AHeap → Prop), pt Kk → ACalls Tryd.prog 84 args H Kk := by
  intro args H pt h Kk hk
  unfold eRotR at h
  split at h
  · cases h
    obtain ⟨F, ka, kb, kc, ⟨rfl, rfl, rfl, rfl, rfl, rfl, rfl⟩, ⟨h1, h2, h3, h4⟩, h5⟩ := hk
    exact p84 _ _ _ ka kb kc F _ h1 h2 h3 h4 (h5 _ rfl)
  · cases h
end Go.Sas
namespace Go.Sas
open Go.Proofs
set_option maxRecDepth 100000
/-- the cells of a row of places -/
def rowN (n : Nat) (f : Nat → Nat) : List AV := rowF n fun k => iLen (f k)
theorem rowN_map {n : Nat} {f : Nat → Nat} : rowN n f = ((List.range n).map f).map natI := by
  unfold rowN rowF; rw [List.map_map]; rfl
theorem map_rowN {l : List Nat} : l.map natI = rowN l.length fun k => l.getD k 0 := by
  rw [rowN_map]
  congr 1
  apply List.ext_getElem?; intro i
  by_cases hi : i < l.length
  · rw [List.getElem?_map, List.getElem?_range hi, List.getElem?_eq_getElem hi]; simp [List.getD_eq_getElem?_getD, hi]
  · rw [List.getElem?_eq_none (by omega), List.getElem?_eq_none (by simpa using hi)]
theorem rotR_len {f : Nat → Nat} {a m b : Nat} : (rotR (fun k => iLen (f k)) a m b) = fun k => iLen (rotR f a m b k) := by
  funext k; unfold rotR; split
  · rfl
  · split <;> rfl
theorem updF_len {f : Nat → Nat} {i v : Nat} : updF (fun k => iLen (f k)) i (iLen v) = fun k => iLen (updF f i v k) := by
  funext k; unfold updF; split <;> rfl
theorem getS_rowN {n k : Nat} {f : Nat → Nat} (h : k < n) : getS none (rowN n f) k (I (iLen (f k))) := getS_row h
theorem updS_rowN {n k v : Nat} {f : Nat → Nat} (h : k < n) : updS 1 (rowN n f) k [I (iLen v)] (rowN n (updF f k v)) := by
  have := updS_row (f := fun k => iLen (f k)) (v := iLen v) h
  rw [updF_len] at this; exact this
theorem seg_row {n : Nat} {f : Nat → Nat} : seg f 0 n = (List.range n).map f := by
  unfold seg; simp
/-- the comparer of two places says whether the first comes strictly before by key -/
theorem cmp_neg {rc : List Int} {x y : Nat} {q : Int} (hq : q = cmpI (keyR rc y) (keyR rc x)) : q < 0 ↔ keyR rc y < keyR rc x := by
  rw [hq]; unfold cmpI
  split
  · rename_i h9; exact ⟨fun _ => h9, fun _ => by decide⟩
  · rename_i h9
    split
    · exact ⟨fun h8 => absurd h8 (by decide), fun h8 => absurd h8 h9⟩
    · exact ⟨fun h8 => absurd h8 (by decide), fun h8 => absurd h8 h9⟩
end Go.Sas
namespace Go.Sas
open Go.Proofs
set_option maxRecDepth 100000
theorem mid_eq {i j : Nat} (hj : j ≤ 1000000) (hi : i < j) : iCv .i64 (iShr .u64 (iCv .u64 (iAdd .i64 (iLen i) (iLen j))) 1) = iLen ((i + j) / 2) := by
  have h1 : iAdd .i64 (iLen i) (iLen j) = ((i + j : Nat) : Int) := by
    rw [iAdd_id] <;> (unfold iLen; omega)
  rw [h1]
  have h2 : iCv .u64 ((i + j : Nat) : Int) = ((i + j : Nat) : Int) := by
    simp [iCv, IntKind.wrap, IntKind.signed, IntKind.bits]; omega
  rw [h2]
  have h3 : iShr .u64 ((i + j : Nat) : Int) 1 = (((i + j) / 2 : Nat) : Int) := by
    simp only [iShr]
    rw [show (min (1 : Int).toNat IntKind.u64.bits) = 1 from rfl]
    rw [Int.fdiv_eq_ediv_of_nonneg _ (by decide)]
    omega
  rw [h3]
  exact wrap_id (by omega) (by omega)
/-- halves in order are merged in place -/
def SymC (d : Nat) (Q : Nat → Nat → Nat → Prop) : Prop := ∀ (g g2 n a m b : Nat) (f : Nat → Nat) (rc : List Int), b - a ≤ d → Q a m b → a < m → m < b → b ≤ n → n ≤ 1000 → rc.length = n → (∀ k, k < n → f k < n) → IncS (ltR (keyR rc)) f a m → IncS (ltR (keyR rc)) f m b → (∀ i j, a ≤ i → i < m → m ≤ j → j < b → f i < f j) → ∀ {Kk : AV → AHeap → Prop},
    (∀ h, OrdS (ltR (keyR rc)) f h a b → (∀ k, k < n → h k < n) → Kk (.tup []) [.own g (rowN n h), .own 0 [.ms 1 2 g2 0 n], .own g2 (rc.map I)]) →
    ACalls Tryd.prog 78 [.ms 1 0 g 0 n, I (iLen a), I (iLen m), I (iLen b), .fn 63 [.mp 1 0 0]] [.own g (rowN n f), .own 0 [.ms 1 2 g2 0 n], .own g2 (rc.map I)] Kk
set_option maxHeartbeats 4000000 in
theorem p78a (d : Nat) : SymC d (fun a m _ => m - a = 1) := by
  intro g g2 n a m b f rc hd hQ ham hmb hbn hn2 hr hfb hX hY hXY Kk h
  have hma : m = a + 1 := by omega
  obtain ⟨ky, hky⟩ : ∃ k, k = keyR rc := ⟨_, rfl⟩
  obtain ⟨ia, hia⟩ : ∃ q, q = iLen a := ⟨_, rfl⟩
  obtain ⟨im, him⟩ : ∃ q, q = iLen m := ⟨_, rfl⟩
  obtain ⟨ib, hib⟩ : ∃ q, q = iLen b := ⟨_, rfl⟩
  obtain ⟨lc, hlc⟩ : ∃ q, q = rowN n f := ⟨_, rfl⟩
  obtain ⟨rr, hrr⟩ : ∃ q, q = rc.map I := ⟨_, rfl⟩
  rw [← hrr] at h
  rw [← hlc, ← hia, ← him, ← hib, ← hrr]
  obtain ⟨A, hA⟩ : ∃ A, A = std := ⟨_, rfl⟩
  have hsg : ∀ g, A.sg g g := by subst hA; exact fun _ => rfl
  have hll : ∀ x y, A.lt x y = decide (x < y) := by subst hA; intro x y; rfl
  have hee : ∀ x y, A.eq x y = decide (x = y) := by subst hA; intro x y; show (x == y) = _; rw [Bool.eq_iff_iff]; simp
  have hsub : ∀ x y : Nat, y ≤ x → x ≤ 2000 → A.sub .i64 (iLen x) (iLen y) = iLen (x - y) := by
    subst hA; intro x y h1 h2; show iSub .i64 _ _ = _; rw [iSub_id (by unfold iLen; omega) (by unfold iLen; omega)]; unfold iLen; omega
  have hadd : ∀ x y : Nat, x ≤ 2000 → y ≤ 2000 → A.add .i64 (iLen x) (iLen y) = iLen (x + y) := by
    subst hA; intro x y h1 h2; show iAdd .i64 _ _ = _; rw [iAdd_id (by unfold iLen; omega) (by unfold iLen; omega)]; unfold iLen; omega
  have h01 : A.sub .i64 im ia = iLen (m - a) := by rw [him, hia]; exact hsub _ _ (by omega) (by omega)
  have h02 : A.sub .i64 ib im = iLen (b - m) := by rw [him, hib]; exact hsub _ _ (by omega) (by omega)
  have z1 : A.eq (A.sub .i64 im ia) 1 = decide (m - a = 1) := by rw [h01, hee]; apply decide_eq_decide.2; unfold iLen; omega
  have z1t : A.eq (A.sub .i64 im ia) 1 = true := by rw [z1]; exact decide_eq_true hQ
  refine go78 rfl (SGo_run hA ⟨[0], [2000000], [], (84, eRotR) :: (63, eCmpR) :: []⟩ .nil (.cons eRotR_ok (.cons eCmpR_ok .nil)) 200 fun T TD hT hTD => ?_)
  cbv
  split <;> first | (rename_i hz; exact Bool.noConfusion (hz.symm.trans z1t)) | cbv
  rw [hT]
  refine AGo_whileE (σ := Nat × Nat) [0, 1, 2, 3, 4] (fun s => s.2 - s.1) (fun s => (m ≤ s.1 ∧ s.1 ≤ s.2 ∧ s.2 ≤ b) ∧ (m < s.1 → ltR ky (f (s.1 - 1)) (f a)) ∧ (s.2 < b → ltR ky (f a) (f s.2))) (fun s => [(10, I (iLen s.1)), (11, I (iLen s.2))]) (fun _ => [.own g lc, .own 0 [.ms 1 2 g2 0 n], .own g2 rr]) (m, b) ⟨⟨by dsimp only; omega, by dsimp only; omega, by dsimp only; omega⟩, fun h9 => absurd h9 (by dsimp only; omega), fun h9 => absurd h9 (by dsimp only; omega)⟩ ⟨congrArg I him, congrArg I hib, trivial⟩ (.inl rfl) fun s hP Bk hB => ?_
  obtain ⟨i, j⟩ := s
  obtain ⟨⟨hP1, hP2, hP3⟩, hP4, hP5⟩ := hP
  dsimp only at hP1 hP2 hP3 hP4 hP5 ⊢
  obtain ⟨ii, hii⟩ : ∃ q, q = iLen i := ⟨_, rfl⟩
  obtain ⟨ij, hij⟩ : ∃ q, q = iLen j := ⟨_, rfl⟩
  rw [← hii, ← hij]
  have z3 : A.lt ii ij = decide (i < j) := by rw [hll, hii, hij]; apply decide_eq_decide.2; unfold iLen; omega
  clear hT hTD T TD
  refine SGo_run hA ⟨[0], [2000000], [], (63, eCmpR) :: []⟩ .nil (.cons eCmpR_ok .nil) 200 fun T TD hT hTD => ?_
  cbv
  split <;> cbv
  · rename_i hz3
    have hij2 : i < j := of_decide_eq_true (z3.symm.trans hz3)
    obtain ⟨c, hc⟩ : ∃ c, c = A.cv .i64 (A.shr .u64 (A.cv .u64 (A.add .i64 ii ij)) 1) := ⟨_, rfl⟩
    obtain ⟨k, hk⟩ : ∃ k, k = (i + j) / 2 := ⟨_, rfl⟩
    have hm : c = iLen k := by rw [hc, hk]; subst hA; rw [hii, hij]; exact mid_eq (by omega) hij2
    have hxk : A.ixm 1 1 0 n (A.cv .i64 (A.shr .u64 (A.cv .u64 (A.add .i64 ii ij)) 1)) k := by rw [← hc]; subst hA; exact ixm1 hm (by omega)
    have hxa : A.ixm 1 1 0 n ia a := by subst hA; exact ixm1 hia (by omega)
    obtain ⟨vk, hvk⟩ : ∃ v, v = iLen (f k) := ⟨_, rfl⟩
    obtain ⟨va, hva⟩ : ∃ v, v = iLen (f a) := ⟨_, rfl⟩
    have hgk : A.get none lc k (I vk) := by subst hA; rw [hlc, hvk]; exact getS_rowN (by omega)
    have hga : A.get none lc a (I va) := by subst hA; rw [hlc, hva]; exact getS_rowN (by omega)
    have hlt2 := hXY a k (by omega) ham (by omega) (by omega)
    refine And.intro (hsg _) (Exists.intro _ (And.intro hxk ?_)); cbv
    refine And.intro (hsg _) (Exists.intro _ (And.intro hgk ?_)); cbv
    refine And.intro (hsg _) (Exists.intro _ (And.intro hxa ?_)); cbv
    refine And.intro (hsg _) (Exists.intro _ (And.intro hga ?_)); cbv
    refine Exists.intro (f k) (Exists.intro (f a) (Exists.intro ((List.range n).map f) (Exists.intro rc (And.intro ⟨hvk, hva, by rw [hlc]; exact rowN_map, hrr, rfl, hr, hfb _ (by omega), hfb _ (by omega), hn2⟩ ?_))))
    intro cq hcq
    have hl0 := hll cq 0
    have hcmp : cq < 0 ↔ ky (f a) < ky (f k) := by rw [hky]; exact cmp_neg hcq
    clear hcq
    cbv
    refine And.intro (by subst hA; exact .inr ⟨⟨rfl, SubH.same (SubH.same trivial)⟩, by simp [ResK], .inr fun _ => SubH.same (SubH.same (SubH.same trivial))⟩) ?_
    cbv
    have hk1 : A.add .i64 c 1 = iLen (k + 1) := by rw [hm]; exact hadd k 1 (by omega) (by omega)
    split <;> cbv
    · rename_i hz9
      have hz9 := hl0.symm.trans hz9
      rw [decide_eq_true_eq, hcmp] at hz9
      exact hB (k + 1, j) _ _ (by dsimp only; omega) ⟨⟨by dsimp only; omega, by dsimp only; omega, hP3⟩, fun _ => by dsimp only; rw [Nat.add_sub_cancel]; exact ltR_yes hz9, hP5⟩ ⟨congrArg I ((congrArg (fun z => A.add .i64 z 1) hc.symm).trans hk1), congrArg I hij, trivial⟩ ⟨rfl, rfl, rfl, rfl, rfl, trivial⟩ (.inl rfl)
    · rename_i hz9
      have hz9 := hl0.symm.trans hz9
      rw [decide_eq_false_iff_not, hcmp] at hz9
      exact hB (i, k) _ _ (by dsimp only; omega) ⟨⟨hP1, by dsimp only; omega, by dsimp only; omega⟩, hP4, fun _ => ltR_no hlt2 hz9⟩ ⟨congrArg I hii, congrArg I (hc.symm.trans hm), trivial⟩ ⟨rfl, rfl, rfl, rfl, rfl, trivial⟩ (.inl rfl)
  · rename_i hz3
    have hij2 : ¬ i < j := of_decide_eq_false (z3.symm.trans hz3)
    have hieq : j = i := by omega
    rw [hieq] at hP5
    have hi1 : A.sub .i64 ii 1 = iLen (i - 1) := by rw [hii]; exact hsub i 1 (by omega) (by omega)
    rw [hT]
    clear hB
    refine AGo_whileE (σ := Nat) [0, 1, 2, 3, 4, 10] (fun s => i - s) (fun s => a ≤ s ∧ s ≤ i - 1) (fun s => [(13, I (iLen s))]) (fun s => [.own g (rowN n (rotR f a (a + 1) (s + 1))), .own 0 [.ms 1 2 g2 0 n], .own g2 rr]) a ⟨Nat.le_refl _, by omega⟩ ⟨congrArg I hia, trivial⟩ (.inl (by rw [rot_up0, hlc])) fun k hP Bk hB => ?_
    obtain ⟨hQ1, hQ2⟩ := hP
    obtain ⟨ik, hik⟩ : ∃ q, q = iLen k := ⟨_, rfl⟩
    obtain ⟨G, hG⟩ : ∃ G, G = rotR f a (a + 1) (k + 1) := ⟨_, rfl⟩
    obtain ⟨c1, hc1⟩ : ∃ c, c = rowN n G := ⟨_, rfl⟩
    rw [← hik, ← hG, ← hc1]
    have z4 : A.lt ik (A.sub .i64 ii 1) = decide (k < i - 1) := by rw [hll, hik, hi1]; apply decide_eq_decide.2; unfold iLen; omega
    have hk1 : A.add .i64 ik 1 = iLen (k + 1) := by rw [hik]; exact hadd k 1 (by omega) (by omega)
    clear hT hTD T TD
    refine SGo_run hA ⟨[0], [2000000], [], []⟩ .nil .nil 200 fun T TD hT hTD => ?_
    cbv
    split <;> cbv
    · rename_i hz4
      have hki : k < i - 1 := of_decide_eq_true (z4.symm.trans hz4)
      have hxa : A.ixm 1 1 0 n ik k := by subst hA; exact ixm1 hik (by omega)
      have hxb : A.ixm 1 1 0 n (A.add .i64 ik 1) (k + 1) := by rw [hk1]; subst hA; exact ixm1 rfl (by omega)
      obtain ⟨va, hva⟩ : ∃ v, v = iLen (G k) := ⟨_, rfl⟩
      obtain ⟨vb, hvb⟩ : ∃ v, v = iLen (G (k + 1)) := ⟨_, rfl⟩
      have hga : A.get none c1 k (I va) := by subst hA; rw [hc1, hva]; exact getS_rowN (by omega)
      have hgb : A.get none c1 (k + 1) (I vb) := by subst hA; rw [hc1, hvb]; exact getS_rowN (by omega)
      obtain ⟨c2, hc2⟩ : ∃ r, r = rowN n (updF G k (G (k + 1))) := ⟨_, rfl⟩
      obtain ⟨c3, hc3⟩ : ∃ r, r = rowN n (updF (updF G k (G (k + 1))) (k + 1) (G k)) := ⟨_, rfl⟩
      have hu1 : A.upd 1 c1 k [I vb] c2 := by subst hA; rw [hc1, hc2, hvb]; exact updS_rowN (by omega)
      have hu2 : A.upd 1 c2 (k + 1) [I va] c3 := by subst hA; rw [hc2, hc3, hva]; exact updS_rowN (by omega)
      have hend : c3 = rowN n (rotR f a (a + 1) (k + 1 + 1)) := by rw [hc3, hG, rot_up1 hQ1]
      obtain ⟨o1, ho1⟩ : ∃ o, o = k + 1 := ⟨_, rfl⟩
      rw [← ho1] at hxb hgb hu2
      refine And.intro (hsg _) (Exists.intro _ (And.intro hxb ?_)); cbv
      refine And.intro (hsg _) (Exists.intro _ (And.intro hgb ?_)); cbv
      refine And.intro (hsg _) (Exists.intro _ (And.intro hxa ?_)); cbv
      refine And.intro (hsg _) (Exists.intro _ (And.intro hga ?_)); cbv
      refine And.intro (hsg _) (Exists.intro _ (And.intro hxa ?_)); cbv
      refine And.intro (hsg _) (Exists.intro _ (And.intro hu1 ?_)); cbv
      refine And.intro (by subst hA; exact .inr ⟨⟨rfl, SubH.same (SubH.same trivial)⟩, trivial, .inl rfl⟩) ?_; cbv
      refine And.intro (hsg _) (Exists.intro _ (And.intro hxb ?_)); cbv
      refine And.intro (hsg _) (Exists.intro _ (And.intro hu2 ?_)); cbv
      exact hB (k + 1) _ _ (by omega) ⟨by omega, by omega⟩ ⟨congrArg I hk1, trivial⟩ ⟨rfl, rfl, rfl, rfl, rfl, rfl, trivial⟩ (.inl (by rw [hend]))
    · rename_i hz4
      have hki : ¬ k < i - 1 := of_decide_eq_false (z4.symm.trans hz4)
      have hkk : k + 1 = i := by omega
      have hR := one_up ltR_tr (f := f) (a := a) (i := i) (b := b) (by omega) (by omega) (by rw [← hma, hky]; exact hY) (fun h9 => hP4 (by omega)) hP5
      rw [hc1, hG, hkk]
      refine ite_both (h _ (by rw [hky] at hR; exact hR) fun x hx => ?_)
      unfold rotR
      split
      · exact hfb _ (by omega)
      · split
        · exact hfb _ (by omega)
        · exact hfb _ hx
end Go.Sas
namespace Go.Sas
open Go.Proofs
set_option maxRecDepth 100000
set_option maxHeartbeats 4000000 in
theorem p78b (d : Nat) : SymC d (fun a m b => m - a ≠ 1 ∧ b - m = 1) := by
  intro g g2 n a m b f rc hd hQ ham hmb hbn hn2 hr hfb hX hY hXY Kk h
  obtain ⟨hQa, hQb⟩ := hQ
  have hbm : b = m + 1 := by omega
  obtain ⟨ky, hky⟩ : ∃ k, k = keyR rc := ⟨_, rfl⟩
  obtain ⟨ia, hia⟩ : ∃ q, q = iLen a := ⟨_, rfl⟩
  obtain ⟨im, him⟩ : ∃ q, q = iLen m := ⟨_, rfl⟩
  obtain ⟨ib, hib⟩ : ∃ q, q = iLen b := ⟨_, rfl⟩
  obtain ⟨lc, hlc⟩ : ∃ q, q = rowN n f := ⟨_, rfl⟩
  obtain ⟨rr, hrr⟩ : ∃ q, q = rc.map I := ⟨_, rfl⟩
  rw [← hrr] at h
  rw [← hlc, ← hia, ← him, ← hib, ← hrr]
  obtain ⟨A, hA⟩ : ∃ A, A = std := ⟨_, rfl⟩
  have hsg : ∀ g, A.sg g g := by subst hA; exact fun _ => rfl
  have hll : ∀ x y, A.lt x y = decide (x < y) := by subst hA; intro x y; rfl
  have hee : ∀ x y, A.eq x y = decide (x = y) := by subst hA; intro x y; show (x == y) = _; rw [Bool.eq_iff_iff]; simp
  have hsub : ∀ x y : Nat, y ≤ x → x ≤ 2000 → A.sub .i64 (iLen x) (iLen y) = iLen (x - y) := by
    subst hA; intro x y h1 h2; show iSub .i64 _ _ = _; rw [iSub_id (by unfold iLen; omega) (by unfold iLen; omega)]; unfold iLen; omega
  have hadd : ∀ x y : Nat, x ≤ 2000 → y ≤ 2000 → A.add .i64 (iLen x) (iLen y) = iLen (x + y) := by
    subst hA; intro x y h1 h2; show iAdd .i64 _ _ = _; rw [iAdd_id (by unfold iLen; omega) (by unfold iLen; omega)]; unfold iLen; omega
  have h01 : A.sub .i64 im ia = iLen (m - a) := by rw [him, hia]; exact hsub _ _ (by omega) (by omega)
  have h02 : A.sub .i64 ib im = iLen (b - m) := by rw [him, hib]; exact hsub _ _ (by omega) (by omega)
  have z1 : A.eq (A.sub .i64 im ia) 1 = decide (m - a = 1) := by rw [h01, hee]; apply decide_eq_decide.2; unfold iLen; omega
  have z1f : A.eq (A.sub .i64 im ia) 1 = false := by rw [z1]; exact decide_eq_false hQa
  have z2 : A.eq (A.sub .i64 ib im) 1 = decide (b - m = 1) := by rw [h02, hee]; apply decide_eq_decide.2; unfold iLen; omega
  have z2t : A.eq (A.sub .i64 ib im) 1 = true := by rw [z2]; exact decide_eq_true hQb
  have hnb : ∀ x, A.bnot x = !x := by subst hA; intro x; rfl
  refine go78 rfl (SGo_run hA ⟨[0], [2000000], [], (84, eRotR) :: (63, eCmpR) :: []⟩ .nil (.cons eRotR_ok (.cons eCmpR_ok .nil)) 200 fun T TD hT hTD => ?_)
  cbv
  split <;> first | (rename_i hz; exact Bool.noConfusion (hz.symm.trans z1f)) | cbv
  split <;> first | (rename_i hz; exact Bool.noConfusion (hz.symm.trans z2t)) | cbv
  rw [hT]
  refine AGo_whileE (σ := Nat × Nat) [0, 1, 2, 3, 4] (fun s => s.2 - s.1) (fun s => (a ≤ s.1 ∧ s.1 ≤ s.2 ∧ s.2 ≤ m) ∧ (a < s.1 → ltR ky (f (s.1 - 1)) (f m)) ∧ (s.2 < m → ltR ky (f m) (f s.2))) (fun s => [(14, I (iLen s.1)), (15, I (iLen s.2))]) (fun _ => [.own g lc, .own 0 [.ms 1 2 g2 0 n], .own g2 rr]) (a, m) ⟨⟨by dsimp only; omega, by dsimp only; omega, by dsimp only; omega⟩, fun h9 => absurd h9 (by dsimp only; omega), fun h9 => absurd h9 (by dsimp only; omega)⟩ ⟨congrArg I hia, congrArg I him, trivial⟩ (.inl rfl) fun s hP Bk hB => ?_
  obtain ⟨i, j⟩ := s
  obtain ⟨⟨hP1, hP2, hP3⟩, hP4, hP5⟩ := hP
  dsimp only at hP1 hP2 hP3 hP4 hP5 ⊢
  obtain ⟨ii, hii⟩ : ∃ q, q = iLen i := ⟨_, rfl⟩
  obtain ⟨ij, hij⟩ : ∃ q, q = iLen j := ⟨_, rfl⟩
  rw [← hii, ← hij]
  have z3 : A.lt ii ij = decide (i < j) := by rw [hll, hii, hij]; apply decide_eq_decide.2; unfold iLen; omega
  clear hT hTD T TD
  refine SGo_run hA ⟨[0], [2000000], [], (63, eCmpR) :: []⟩ .nil (.cons eCmpR_ok .nil) 200 fun T TD hT hTD => ?_
  cbv
  split <;> cbv
  · rename_i hz3
    have hij2 : i < j := of_decide_eq_true (z3.symm.trans hz3)
    obtain ⟨c, hc⟩ : ∃ c, c = A.cv .i64 (A.shr .u64 (A.cv .u64 (A.add .i64 ii ij)) 1) := ⟨_, rfl⟩
    obtain ⟨k, hk⟩ : ∃ k, k = (i + j) / 2 := ⟨_, rfl⟩
    have hm : c = iLen k := by rw [hc, hk]; subst hA; rw [hii, hij]; exact mid_eq (by omega) hij2
    have hxk : A.ixm 1 1 0 n (A.cv .i64 (A.shr .u64 (A.cv .u64 (A.add .i64 ii ij)) 1)) k := by rw [← hc]; subst hA; exact ixm1 hm (by omega)
    have hxa : A.ixm 1 1 0 n im m := by subst hA; exact ixm1 him (by omega)
    obtain ⟨vk, hvk⟩ : ∃ v, v = iLen (f k) := ⟨_, rfl⟩
    obtain ⟨va, hva⟩ : ∃ v, v = iLen (f m) := ⟨_, rfl⟩
    have hgk : A.get none lc k (I vk) := by subst hA; rw [hlc, hvk]; exact getS_rowN (by omega)
    have hga : A.get none lc m (I va) := by subst hA; rw [hlc, hva]; exact getS_rowN (by omega)
    have hlt2 := hXY k m (by omega) (by omega) (by omega) (by omega)
    refine And.intro (hsg _) (Exists.intro _ (And.intro hxa ?_)); cbv
    refine And.intro (hsg _) (Exists.intro _ (And.intro hga ?_)); cbv
    refine And.intro (hsg _) (Exists.intro _ (And.intro hxk ?_)); cbv
    refine And.intro (hsg _) (Exists.intro _ (And.intro hgk ?_)); cbv
    refine Exists.intro (f m) (Exists.intro (f k) (Exists.intro ((List.range n).map f) (Exists.intro rc (And.intro ⟨hva, hvk, by rw [hlc]; exact rowN_map, hrr, rfl, hr, hfb _ (by omega), hfb _ (by omega), hn2⟩ ?_))))
    intro cq hcq
    have hl0 : A.bnot (A.lt cq 0) = !decide (cq < 0) := by rw [hnb, hll]
    have hcmp : cq < 0 ↔ ky (f k) < ky (f m) := by rw [hky]; exact cmp_neg hcq
    clear hcq
    cbv
    refine And.intro (by subst hA; exact .inr ⟨⟨rfl, SubH.same (SubH.same trivial)⟩, by simp [ResK], .inr fun _ => SubH.same (SubH.same (SubH.same trivial))⟩) ?_
    cbv
    have hk1 : A.add .i64 c 1 = iLen (k + 1) := by rw [hm]; exact hadd k 1 (by omega) (by omega)
    split <;> cbv
    · rename_i hz9
      have hz9 := hl0.symm.trans hz9
      rw [Bool.not_eq_true', decide_eq_false_iff_not, hcmp] at hz9
      exact hB (k + 1, j) _ _ (by dsimp only; omega) ⟨⟨by dsimp only; omega, by dsimp only; omega, hP3⟩, fun _ => by dsimp only; rw [Nat.add_sub_cancel]; exact ltR_no hlt2 hz9, hP5⟩ ⟨congrArg I ((congrArg (fun z => A.add .i64 z 1) hc.symm).trans hk1), congrArg I hij, trivial⟩ ⟨rfl, rfl, rfl, rfl, rfl, trivial⟩ (.inl rfl)
    · rename_i hz9
      have hz9 := hl0.symm.trans hz9
      rw [Bool.not_eq_false', decide_eq_true_eq, hcmp] at hz9
      exact hB (i, k) _ _ (by dsimp only; omega) ⟨⟨hP1, by dsimp only; omega, by dsimp only; omega⟩, hP4, fun _ => ltR_yes hz9⟩ ⟨congrArg I hii, congrArg I (hc.symm.trans hm), trivial⟩ ⟨rfl, rfl, rfl, rfl, rfl, trivial⟩ (.inl rfl)
  · rename_i hz3
    have hij2 : ¬ i < j := of_decide_eq_false (z3.symm.trans hz3)
    have hieq : j = i := by omega
    rw [hieq] at hP5
    rw [hT]
    clear hB
    refine AGo_whileE (σ := Nat) [0, 1, 2, 3, 4, 14] (fun s => s - i) (fun s => i ≤ s ∧ s ≤ m) (fun s => [(17, I (iLen s))]) (fun s => [.own g (rowN n (rotR f s m (m + 1))), .own 0 [.ms 1 2 g2 0 n], .own g2 rr]) m ⟨by omega, Nat.le_refl _⟩ ⟨congrArg I him, trivial⟩ (.inl (by rw [rot_dn0, hlc])) fun k hP Bk hB => ?_
    obtain ⟨hQ1, hQ2⟩ := hP
    obtain ⟨ik, hik⟩ : ∃ q, q = iLen k := ⟨_, rfl⟩
    obtain ⟨G, hG⟩ : ∃ G, G = rotR f k m (m + 1) := ⟨_, rfl⟩
    obtain ⟨c1, hc1⟩ : ∃ c, c = rowN n G := ⟨_, rfl⟩
    rw [← hik, ← hG, ← hc1]
    have z4 : A.lt ii ik = decide (i < k) := by rw [hll, hik, hii]; apply decide_eq_decide.2; unfold iLen; omega
    have hk1 : i < k → A.sub .i64 ik 1 = iLen (k - 1) := fun h0 => by
      subst hA; rw [hik]; show iSub .i64 (iLen k) 1 = _
      rw [iSub_id (by unfold iLen; omega) (by unfold iLen; omega)]; unfold iLen; omega
    clear hT hTD T TD
    refine SGo_run hA ⟨[0], [2000000], [], []⟩ .nil .nil 200 fun T TD hT hTD => ?_
    cbv
    split <;> cbv
    · rename_i hz4
      have hki : i < k := of_decide_eq_true (z4.symm.trans hz4)
      obtain ⟨q, hq⟩ : ∃ q, q = k - 1 := ⟨_, rfl⟩
      have hkq : k = q + 1 := by omega
      have hk1 := hk1 hki
      rw [← hq] at hk1
      have hxa : A.ixm 1 1 0 n ik k := by subst hA; exact ixm1 hik (by omega)
      have hxb : A.ixm 1 1 0 n (A.sub .i64 ik 1) q := by rw [hk1]; subst hA; exact ixm1 rfl (by omega)
      obtain ⟨va, hva⟩ : ∃ v, v = iLen (G k) := ⟨_, rfl⟩
      obtain ⟨vb, hvb⟩ : ∃ v, v = iLen (G q) := ⟨_, rfl⟩
      have hga : A.get none c1 k (I va) := by subst hA; rw [hc1, hva]; exact getS_rowN (by omega)
      have hgb : A.get none c1 q (I vb) := by subst hA; rw [hc1, hvb]; exact getS_rowN (by omega)
      obtain ⟨c2, hc2⟩ : ∃ r, r = rowN n (updF G k (G q)) := ⟨_, rfl⟩
      obtain ⟨c3, hc3⟩ : ∃ r, r = rowN n (updF (updF G k (G q)) q (G k)) := ⟨_, rfl⟩
      have hu1 : A.upd 1 c1 k [I vb] c2 := by subst hA; rw [hc1, hc2, hvb]; exact updS_rowN (by omega)
      have hu2 : A.upd 1 c2 q [I va] c3 := by subst hA; rw [hc2, hc3, hva]; exact updS_rowN (by omega)
      have hend : c3 = rowN n (rotR f q m (m + 1)) := by rw [hc3, hG, hkq, rot_dn1 (by omega)]
      refine And.intro (hsg _) (Exists.intro _ (And.intro hxb ?_)); cbv
      refine And.intro (hsg _) (Exists.intro _ (And.intro hgb ?_)); cbv
      refine And.intro (hsg _) (Exists.intro _ (And.intro hxa ?_)); cbv
      refine And.intro (hsg _) (Exists.intro _ (And.intro hga ?_)); cbv
      refine And.intro (hsg _) (Exists.intro _ (And.intro hxa ?_)); cbv
      refine And.intro (hsg _) (Exists.intro _ (And.intro hu1 ?_)); cbv
      refine And.intro (by subst hA; exact .inr ⟨⟨rfl, SubH.same (SubH.same trivial)⟩, trivial, .inl rfl⟩) ?_; cbv
      refine And.intro (hsg _) (Exists.intro _ (And.intro hxb ?_)); cbv
      refine And.intro (hsg _) (Exists.intro _ (And.intro hu2 ?_)); cbv
      exact hB q _ _ (by omega) ⟨by omega, by omega⟩ ⟨congrArg I hk1, trivial⟩ ⟨rfl, rfl, rfl, rfl, rfl, rfl, trivial⟩ (.inl (by rw [hend]))
    · rename_i hz4
      have hki : ¬ i < k := of_decide_eq_false (z4.symm.trans hz4)
      have hkk : k = i := by omega
      have hR := one_dn ltR_tr (f := f) (a := a) (i := i) (m := m) (by omega) (by omega) (by rw [hky]; exact hX) (fun h9 => hP4 (by omega)) hP5
      rw [hc1, hG, hkk]
      refine ite_both (h _ (by rw [hky] at hR; rw [hbm]; exact hR) (by exact rot_bnd (by omega) (by omega) (by omega) hfb))
end Go.Sas
