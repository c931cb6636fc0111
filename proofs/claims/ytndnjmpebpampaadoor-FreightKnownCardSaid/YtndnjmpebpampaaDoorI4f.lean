/-
Freight: halves in order are merged in place: contract.
Freight: places sorted by what is left over: contracts (up to 40 places).
Rows of values, one cell each (beside the freight texts).
Freight: a product of words, a slice of equal numbers: contracts.
Conditions: none.
-/
import Derived.Test.YtndnjmpebpampaaDoorHQf
import Derived.Test.YtndnjmpebpampaaDoorI3f
import Derived.Test.YtndnjmpebpampaaDoorHCf
import Derived.Test.YtndnjmpebpampaaDoorP7f
import Derived.Test.YtndnjmpebpampaaDoorP6f
import Derived.Test.YtndnjmpebpampaaDoorQF6
import Derived.Test.YtndnjmpebpampaaDoorQF4
set_option linter.unusedVariables false
set_option linter.unusedSimpArgs false
namespace Go.Sas
open Go.Proofs
set_option maxRecDepth 100000
def eSymD (d : Nat) : List AV → AHeap → Option PT
  | [.ms 1 0 g 0 n, .lit (.int .i64 ia), .lit (.int .i64 im), .lit (.int .i64 ib), .fn 63 [.mp 1 0 0]], [.own g' lc, .own 0 [.ms 1 2 g2 0 n'], .own g2' rr] => some fun K => ∃ (f : Nat → Nat) (rc : List Int) (a m b : Nat), (g' = g ∧ n' = n ∧ g2' = g2 ∧ lc = rowN n f ∧ rr = rc.map I ∧ ia = iLen a ∧ im = iLen m ∧ ib = iLen b) ∧ (b - a ≤ d ∧ a < m ∧ m < b ∧ b ≤ n ∧ n ≤ 1000 ∧ rc.length = n ∧ ∀ k, k < n → f k < n) ∧ (IncS (ltR (keyR rc)) f a m ∧ IncS (ltR (keyR rc)) f m b ∧ ∀ i j, a ≤ i → i < m → m ≤ j → j < b → f i < f j) ∧
      ∀ c2 h, c2 = rowN n h → OrdS (ltR (keyR rc)) f h a b → (∀ k, k < n → h k < n) → K (.tup []) [.own g c2, .own 0 [.ms 1 2 g2 0 n], .own g2 rr]
  | _, _ => none
theorem eSymD_ok {d : Nat} (ih : SymC d fun _ _ _ => True) : ∀ args H pt, eSymD d args H = some pt → ∀ (Kk : AV → AHeap → Prop), pt Kk → ACalls Tryd.prog 78 args H Kk := by
  intro args H pt h Kk hk
  unfold eSymD at h
  split at h
  · cases h
    obtain ⟨f, rc, a, m, b, ⟨rfl, rfl, rfl, rfl, rfl, rfl, rfl, rfl⟩, ⟨h1, h2, h3, h4, h5, h6, h7⟩, ⟨h8, h9, h10⟩, h11⟩ := hk
    exact ih _ _ _ a m b f rc h1 trivial h2 h3 h4 h5 h6 h7 h8 h9 h10 fun h q1 q2 => h11 _ h rfl q1 q2
  · cases h
set_option maxHeartbeats 4000000 in
theorem p78c (d : Nat) (ih : SymC d fun _ _ _ => True) : SymC (d + 1) (fun a m b => m - a ≠ 1 ∧ b - m ≠ 1) := by
  intro g g2 n a m b f rc hd hQ ham hmb hbn hn2 hr hfb hX hY hXY Kk h
  obtain ⟨hQa, hQb⟩ := hQ
  obtain ⟨ky, hky⟩ : ∃ k, k = keyR rc := ⟨_, rfl⟩
  obtain ⟨ia, hia⟩ : ∃ q, q = iLen a := ⟨_, rfl⟩
  obtain ⟨im, him⟩ : ∃ q, q = iLen m := ⟨_, rfl⟩
  obtain ⟨ib, hib⟩ : ∃ q, q = iLen b := ⟨_, rfl⟩
  obtain ⟨lc, hlc⟩ : ∃ q, q = rowN n f := ⟨_, rfl⟩
  obtain ⟨rr, hrr⟩ : ∃ q, q = rc.map I := ⟨_, rfl⟩
  rw [← hrr] at h
  rw [← hlc, ← hia, ← him, ← hib, ← hrr]
  obtain ⟨A, hA⟩ : ∃ A, A = std := ⟨_, rfl⟩
  have hsg : ∀ g, A.sg g g := by subst hA; exact fun _ => rfl
  have hll : ∀ x y, A.lt x y = decide (x < y) := by subst hA; intro x y; rfl
  have hee : ∀ x y, A.eq x y = decide (x = y) := by subst hA; intro x y; show (x == y) = _; rw [Bool.eq_iff_iff]; simp
  have hsub : ∀ x y : Nat, y ≤ x → x ≤ 2000 → A.sub .i64 (iLen x) (iLen y) = iLen (x - y) := by
    subst hA; intro x y h1 h2; show iSub .i64 _ _ = _; rw [iSub_id (by unfold iLen; omega) (by unfold iLen; omega)]; unfold iLen; omega
  have hadd : ∀ x y : Nat, x ≤ 2000 → y ≤ 2000 → A.add .i64 (iLen x) (iLen y) = iLen (x + y) := by
    subst hA; intro x y h1 h2; show iAdd .i64 _ _ = _; rw [iAdd_id (by unfold iLen; omega) (by unfold iLen; omega)]; unfold iLen; omega
  have h01 : A.sub .i64 im ia = iLen (m - a) := by rw [him, hia]; exact hsub _ _ (by omega) (by omega)
  have h02 : A.sub .i64 ib im = iLen (b - m) := by rw [him, hib]; exact hsub _ _ (by omega) (by omega)
  have z1 : A.eq (A.sub .i64 im ia) 1 = decide (m - a = 1) := by rw [h01, hee]; apply decide_eq_decide.2; unfold iLen; omega
  have z1f : A.eq (A.sub .i64 im ia) 1 = false := by rw [z1]; exact decide_eq_false hQa
  have z2 : A.eq (A.sub .i64 ib im) 1 = decide (b - m = 1) := by rw [h02, hee]; apply decide_eq_decide.2; unfold iLen; omega
  have z2t : A.eq (A.sub .i64 ib im) 1 = false := by rw [z2]; exact decide_eq_false hQb
  have hnb : ∀ x, A.bnot x = !x := by subst hA; intro x; rfl
  have z2f := z2t
  clear z2t
  obtain ⟨mid, hmid⟩ : ∃ x, x = (a + b) / 2 := ⟨_, rfl⟩
  obtain ⟨lo, hlo⟩ : ∃ x, x = if mid < m then mid + m - b else a := ⟨_, rfl⟩
  obtain ⟨hi, hhi⟩ : ∃ x, x = if mid < m then mid else m := ⟨_, rfl⟩
  obtain ⟨⟨hr1, hr2, hr3, hr4⟩, hrng⟩ := sym_rng ham hmb hmid hlo hhi
  have hmdn : mid < n := by omega
  have hmd0 : A.cv .i64 (A.shr .u64 (A.cv .u64 (A.add .i64 ia ib)) 1) = iLen mid := by subst hA; rw [hia, hib, hmid]; exact mid_eq (by omega) (by omega)
  obtain ⟨imd, himd⟩ : ∃ q, q = iLen mid := ⟨_, rfl⟩
  obtain ⟨iN, hiN⟩ : ∃ q, q = iLen (mid + m) := ⟨_, rfl⟩
  have hN0 : A.add .i64 (A.cv .i64 (A.shr .u64 (A.cv .u64 (A.add .i64 ia ib)) 1)) im = iN := by rw [hmd0, him, hiN]; exact hadd _ _ (by omega) (by omega)
  have hmd0 := hmd0.trans himd.symm
  have zg : A.lt (A.cv .i64 (A.shr .u64 (A.cv .u64 (A.add .i64 ia ib)) 1)) im = decide (mid < m) := by rw [hmd0, himd, hll, him]; apply decide_eq_decide.2; unfold iLen; omega
  have hNb : mid < m → A.sub .i64 iN ib = iLen (mid + m - b) := fun _ => by rw [hiN, hib]; exact hsub _ _ (by omega) (by omega)
  refine go78 rfl (SGo_run hA ⟨[], [2000000, 1000138], [], (84, eRotR) :: (63, eCmpR) :: []⟩ .nil (.cons eRotR_ok (.cons eCmpR_ok .nil)) 200 fun T TD hT hTD => ?_)
  cbv
  split <;> first | (rename_i hz; exact Bool.noConfusion (hz.symm.trans z1f)) | cbv
  split <;> first | (rename_i hz; exact Bool.noConfusion (hz.symm.trans z2f)) | cbv
  rw [hT]
  refine AGo_cut (k1 := [_, _]) (fun e H => ∃ _u : Unit, Fits e [(0, .ms 1 0 g 0 n), (1, I ia), (2, I im), (3, I ib), (4, .fn 63 [.mp 1 0 0]), (18, I imd), (19, I iN), (20, I (iLen lo)), (21, I (iLen hi))] ∧ H = [.own g lc, .own 0 [.ms 1 2 g2 0 n], .own g2 rr]) ?_ (fun e1 H1 hP1 => ?_)
  · clear hT hTD T TD
    refine SGo_run hA ⟨[], [2000000], [], []⟩ .nil .nil 200 fun T TD hT hTD => ?_
    cbv
    split <;> cbv
    · rename_i hz
      have hz : mid < m := of_decide_eq_true (zg.symm.trans hz)
      refine ⟨(), ⟨rfl, rfl, rfl, rfl, rfl, congrArg I hmd0, congrArg I hN0, congrArg I ?_, congrArg I (hmd0.trans ?_), trivial⟩, rfl⟩
      · rw [hlo, if_pos hz, ← hNb hz]; exact congrArg (fun z => A.sub .i64 z ib) hN0
      · rw [himd, hhi, if_pos hz]
    · rename_i hz
      have hz : ¬ mid < m := of_decide_eq_false (zg.symm.trans hz)
      refine ⟨(), ⟨rfl, rfl, rfl, rfl, rfl, congrArg I hmd0, congrArg I hN0, congrArg I ?_, congrArg I ?_, trivial⟩, rfl⟩
      · rw [hlo, if_neg hz, hia]
      · rw [hhi, if_neg hz, him]
  obtain ⟨_, hf1, rfl⟩ := hP1
  refine AGo_forget [(0, .ms 1 0 g 0 n), (1, I ia), (2, I im), (3, I ib), (4, .fn 63 [.mp 1 0 0]), (18, I imd), (19, I iN), (20, I (iLen lo)), (21, I (iLen hi))] _ hf1 (.inl rfl) ?_ (by simp)
  clear hf1 hT hTD T TD
  refine SGo_run hA ⟨[], [], [], []⟩ .nil .nil 200 fun T TD hT hTD => ?_
  cbv
  rw [hT]
  have hP0 : A.sub .i64 iN 1 = iLen (mid + m - 1) := by rw [hiN]; exact hsub _ 1 (by omega) (by omega)
  obtain ⟨ipp, hipp⟩ : ∃ q, q = iLen (mid + m - 1) := ⟨_, rfl⟩
  have hP0 := hP0.trans hipp.symm
  refine AGo_whileE (σ := Nat × Nat) [0, 1, 2, 3, 4, 18, 19, 22] (fun s => s.2 - s.1) (fun s => (lo ≤ s.1 ∧ s.1 ≤ s.2 ∧ s.2 ≤ hi) ∧ (lo < s.1 → ltR ky (f (s.1 - 1)) (f (mid + m - s.1))) ∧ (s.2 < hi → ltR ky (f (mid + m - 1 - s.2)) (f s.2))) (fun s => [(20, I (iLen s.1)), (21, I (iLen s.2))]) (fun _ => [.own g lc, .own 0 [.ms 1 2 g2 0 n], .own g2 rr]) (lo, hi) ⟨⟨by dsimp only; omega, by dsimp only; omega, by dsimp only; omega⟩, fun h9 => absurd h9 (by dsimp only; omega), fun h9 => absurd h9 (by dsimp only; omega)⟩ ⟨rfl, rfl, trivial⟩ (.inl rfl) fun s hP Bk hB => ?_
  obtain ⟨i, j⟩ := s
  obtain ⟨⟨hP1, hP2, hP3⟩, hP4, hP5⟩ := hP
  dsimp only at hP1 hP2 hP3 hP4 hP5 ⊢
  obtain ⟨ii, hii⟩ : ∃ q, q = iLen i := ⟨_, rfl⟩
  obtain ⟨ij, hij⟩ : ∃ q, q = iLen j := ⟨_, rfl⟩
  rw [← hii, ← hij]
  have z3 : A.lt ii ij = decide (i < j) := by rw [hll, hii, hij]; apply decide_eq_decide.2; unfold iLen; omega
  clear hT hTD T TD
  refine SGo_run hA ⟨[0], [2000000, 1000178], [], (63, eCmpR) :: []⟩ .nil (.cons eCmpR_ok .nil) 200 fun T TD hT hTD => ?_
  cbv
  split <;> cbv
  · rename_i hz3
    have hij2 : i < j := of_decide_eq_true (z3.symm.trans hz3)
    obtain ⟨c, hc⟩ : ∃ c, c = A.cv .i64 (A.shr .u64 (A.cv .u64 (A.add .i64 ii ij)) 1) := ⟨_, rfl⟩
    obtain ⟨k, hk⟩ : ∃ k, k = (i + j) / 2 := ⟨_, rfl⟩
    have hki : i ≤ k ∧ k < j := by omega
    obtain ⟨hk1, hk2, hk3, hk4⟩ := hrng k (by omega) (by omega)
    obtain ⟨q, hq⟩ : ∃ q, q = mid + m - 1 - k := ⟨_, rfl⟩
    rw [← hq] at hk3 hk4
    have hm : c = iLen k := by rw [hc, hk]; subst hA; rw [hii, hij]; exact mid_eq (by omega) hij2
    have hqi : A.sub .i64 (A.sub .i64 iN 1) (A.cv .i64 (A.shr .u64 (A.cv .u64 (A.add .i64 ii ij)) 1)) = iLen q := by rw [← hc, hm, hP0, hipp, hq]; exact hsub _ _ (by omega) (by omega)
    have hxk : A.ixm 1 1 0 n (A.cv .i64 (A.shr .u64 (A.cv .u64 (A.add .i64 ii ij)) 1)) k := by rw [← hc]; subst hA; exact ixm1 hm (by omega)
    have hxa : A.ixm 1 1 0 n (A.sub .i64 (A.sub .i64 iN 1) (A.cv .i64 (A.shr .u64 (A.cv .u64 (A.add .i64 ii ij)) 1))) q := by rw [hqi]; subst hA; exact ixm1 rfl (by omega)
    obtain ⟨vk, hvk⟩ : ∃ v, v = iLen (f k) := ⟨_, rfl⟩
    obtain ⟨va, hva⟩ : ∃ v, v = iLen (f q) := ⟨_, rfl⟩
    have hgk : A.get none lc k (I vk) := by subst hA; rw [hlc, hvk]; exact getS_rowN (by omega)
    have hga : A.get none lc q (I va) := by subst hA; rw [hlc, hva]; exact getS_rowN (by omega)
    have hlt2 := hXY k q (by omega) (by omega) (by omega) (by omega)
    refine And.intro (hsg _) (Exists.intro _ (And.intro hxa ?_)); cbv
    refine And.intro (hsg _) (Exists.intro _ (And.intro hga ?_)); cbv
    refine And.intro (hsg _) (Exists.intro _ (And.intro hxk ?_)); cbv
    refine And.intro (hsg _) (Exists.intro _ (And.intro hgk ?_)); cbv
    refine Exists.intro (f q) (Exists.intro (f k) (Exists.intro ((List.range n).map f) (Exists.intro rc (And.intro ⟨hva, hvk, by rw [hlc]; exact rowN_map, hrr, rfl, hr, hfb _ (by omega), hfb _ (by omega), hn2⟩ ?_))))
    intro cq hcq
    have hl0 : A.bnot (A.lt cq 0) = !decide (cq < 0) := by rw [hnb, hll]
    have hcmp : cq < 0 ↔ ky (f k) < ky (f q) := by rw [hky]; exact cmp_neg hcq
    clear hcq
    cbv
    refine And.intro (by subst hA; exact .inr ⟨⟨rfl, SubH.same (SubH.same trivial)⟩, by simp [ResK], .inr fun _ => SubH.same (SubH.same (SubH.same trivial))⟩) ?_
    cbv
    have hk9 : A.add .i64 c 1 = iLen (k + 1) := by rw [hm]; exact hadd k 1 (by omega) (by omega)
    split <;> cbv
    · rename_i hz9
      have hz9 := hl0.symm.trans hz9
      rw [Bool.not_eq_true', decide_eq_false_iff_not, hcmp] at hz9
      exact hB (k + 1, j) _ _ (by dsimp only; omega) ⟨⟨by dsimp only; omega, by dsimp only; omega, hP3⟩, fun _ => by dsimp only; rw [Nat.add_sub_cancel, show mid + m - (k + 1) = q by omega]; exact ltR_no hlt2 hz9, hP5⟩ ⟨congrArg I ((congrArg (fun z => A.add .i64 z 1) hc.symm).trans hk9), congrArg I hij, trivial⟩ ⟨rfl, rfl, rfl, rfl, rfl, rfl, rfl, rfl, trivial⟩ (.inl rfl)
    · rename_i hz9
      have hz9 := hl0.symm.trans hz9
      rw [Bool.not_eq_false', decide_eq_true_eq, hcmp] at hz9
      exact hB (i, k) _ _ (by dsimp only; omega) ⟨⟨hP1, by dsimp only; omega, by dsimp only; omega⟩, hP4, fun _ => by dsimp only; rw [← hq]; exact ltR_yes hz9⟩ ⟨congrArg I hii, congrArg I (hc.symm.trans hm), trivial⟩ ⟨rfl, rfl, rfl, rfl, rfl, rfl, rfl, rfl, trivial⟩ (.inl rfl)
  rename_i hz3
  have hij2 : ¬ i < j := of_decide_eq_false (z3.symm.trans hz3)
  have hieq : j = i := by omega
  rw [hieq] at hP3 hP5
  clear hij2 z3 hz3 hB hP2
  subst hieq
  obtain ⟨e, he⟩ : ∃ e, e = mid + m - j := ⟨_, rfl⟩
  obtain ⟨y1, y2, y3, y4, y5, y6, y7⟩ := sym_srch (lt := ltR ky) (f := f) ham hmb hmid hlo hhi hP1 hP3 hP4 hP5
  rw [← he] at y3 y4 y5 y6 y7
  have hie0 : A.sub .i64 iN ii = iLen e := by rw [hiN, hii, he]; exact hsub _ _ (by omega) (by omega)
  obtain ⟨ie, hie⟩ : ∃ q, q = iLen e := ⟨_, rfl⟩
  have hie0 := hie0.trans hie.symm
  obtain ⟨G, hG⟩ : ∃ G, G = rotR f j m e := ⟨_, rfl⟩
  obtain ⟨cg, hcg⟩ : ∃ c, c = rowN n G := ⟨_, rfl⟩
  have hGb : ∀ k, k < n → G k < n := by rw [hG]; exact rot_bnd y2 y3 (by omega) hfb
  obtain ⟨p1, p2, p3, p4⟩ := sym_parts y1 y2 y3 y4 y5 (by rw [← hky] at hX; exact hX) (by rw [← hky] at hY; exact hY)
  obtain ⟨pA, pB⟩ := sym_place y1 y2 y3 y4 y5 hXY
  rw [← hG] at p1 p2 p3 p4 pA pB
  have w1 : A.lt ii im = decide (j < m) := by rw [hll, hii, him]; apply decide_eq_decide.2; unfold iLen; omega
  have w2 : A.lt im (A.sub .i64 iN ii) = decide (m < e) := by rw [hie0, hll, hie, him]; apply decide_eq_decide.2; unfold iLen; omega
  have w3 : A.lt ia ii = decide (a < j) := by rw [hll, hii, hia]; apply decide_eq_decide.2; unfold iLen; omega
  have w4 : A.lt ii imd = decide (j < mid) := by rw [hll, hii, himd]; apply decide_eq_decide.2; unfold iLen; omega
  have w5 : A.lt imd ie = decide (mid < e) := by rw [hll, hie, himd]; apply decide_eq_decide.2; unfold iLen; omega
  have w6 : A.lt ie ib = decide (e < b) := by rw [hll, hie, hib]; apply decide_eq_decide.2; unfold iLen; omega
  rw [hT]
  refine AGo_cut (k1 := [_, _]) (fun e H => ∃ _u : Unit, Fits e [(0, .ms 1 0 g 0 n), (1, I ia), (3, I ib), (4, .fn 63 [.mp 1 0 0]), (18, I imd), (20, I ii), (24, I ie)] ∧ H = [.own g cg, .own 0 [.ms 1 2 g2 0 n], .own g2 rr]) ?_ (fun e1 H1 hP1 => ?_)
  · clear hT hTD T TD
    refine SGo_run hA ⟨[], [], [], (84, eRotR) :: []⟩ .nil (.cons eRotR_ok .nil) 200 fun T TD hT hTD => ?_
    cbv
    have hno : ¬ (j < m ∧ m < e) → cg = lc := fun h9 => by rw [hcg, hG, rot_triv y2 y3 h9, hlc]
    split <;> cbv
    · rename_i hz1
      have hz1 : j < m := of_decide_eq_true (w1.symm.trans hz1)
      split <;> cbv
      · rename_i hz2
        have hz2 : m < e := of_decide_eq_true (w2.symm.trans hz2)
        refine Exists.intro (fun k => iLen (f k)) (Exists.intro j (Exists.intro m (Exists.intro e (And.intro ⟨rfl, rfl, rfl, hlc, hii, him, hie0.trans hie⟩ (And.intro ⟨hz1, hz2, by omega, hn2⟩ ?_)))))
        intro c2 hc2; cbv
        exact ⟨(), ⟨rfl, rfl, rfl, rfl, rfl, rfl, congrArg I hie0, trivial⟩, by rw [hc2, hcg, hG, rotR_len]; rfl⟩
      · rename_i hz2
        have hz2 : ¬ m < e := of_decide_eq_false (w2.symm.trans hz2)
        exact ⟨(), ⟨rfl, rfl, rfl, rfl, rfl, rfl, congrArg I hie0, trivial⟩, by rw [hno (fun h9 => hz2 h9.2)]⟩
    · rename_i hz1
      have hz1 : ¬ j < m := of_decide_eq_false (w1.symm.trans hz1)
      exact ⟨(), ⟨rfl, rfl, rfl, rfl, rfl, rfl, congrArg I hie0, trivial⟩, by rw [hno (fun h9 => hz1 h9.1)]⟩
  obtain ⟨_, hf1, rfl⟩ := hP1
  refine AGo_forget [(0, .ms 1 0 g 0 n), (1, I ia), (3, I ib), (4, .fn 63 [.mp 1 0 0]), (18, I imd), (20, I ii), (24, I ie)] _ hf1 (.inl rfl) ?_ (by simp)
  clear hf1 hT hTD T TD
  refine SGo_run hA ⟨[], [1000192], [], []⟩ .nil .nil 200 fun T TD hT hTD => ?_
  cbv
  rw [hT]
  refine AGo_cut (k1 := [_, _]) (fun e H => ∃ h1 : Nat → Nat, (OrdS (ltR ky) G h1 a mid ∧ ∀ k, k < n → h1 k < n) ∧ Fits e [(0, .ms 1 0 g 0 n), (3, I ib), (4, .fn 63 [.mp 1 0 0]), (18, I imd), (24, I ie)] ∧ H = [.own g (rowN n h1), .own 0 [.ms 1 2 g2 0 n], .own g2 rr]) ?_ (fun e1 H1 hP1 => ?_)
  · clear hT hTD T TD
    have hno := fun h9 => sym_noA (lt := ltR ky) y1 y2 y3 y4 y5 (by rw [← hky] at hX; exact hX) (by rw [← hky] at hY; exact hY) h9
    rw [← hG] at hno
    refine SGo_run hA ⟨[], [], [], (78, eSymD d) :: []⟩ .nil (.cons (eSymD_ok ih) .nil) 200 fun T TD hT hTD => ?_
    cbv
    split <;> cbv
    · rename_i hz1
      have hz1 : a < j := of_decide_eq_true (w3.symm.trans hz1)
      split <;> cbv
      · rename_i hz2
        have hz2 : j < mid := of_decide_eq_true (w4.symm.trans hz2)
        refine Exists.intro G (Exists.intro rc (Exists.intro a (Exists.intro j (Exists.intro mid (And.intro ⟨rfl, rfl, rfl, hcg, hrr, hia, hii, himd⟩ (And.intro ⟨by omega, hz1, hz2, by omega, hn2, hr, hGb⟩ (And.intro ⟨by rw [hky] at p1; exact p1, by rw [hky] at p2; exact p2, pA⟩ ?_)))))))
        intro c2 h1 hc2 ho hbb; cbv
        exact ⟨h1, ⟨by rw [hky]; exact ho, hbb⟩, ⟨rfl, rfl, rfl, rfl, rfl, trivial⟩, by rw [hc2]⟩
      · rename_i hz2
        have hz2 : ¬ j < mid := of_decide_eq_false (w4.symm.trans hz2)
        exact ⟨G, ⟨hno fun h9 => hz2 h9.2, hGb⟩, ⟨rfl, rfl, rfl, rfl, rfl, trivial⟩, by rw [hcg]⟩
    · rename_i hz1
      have hz1 : ¬ a < j := of_decide_eq_false (w3.symm.trans hz1)
      exact ⟨G, ⟨hno fun h9 => hz1 h9.1, hGb⟩, ⟨rfl, rfl, rfl, rfl, rfl, trivial⟩, by rw [hcg]⟩
  obtain ⟨h1, ⟨hA1, hb1⟩, hf1, rfl⟩ := hP1
  have hsame : ∀ k, mid ≤ k → h1 k = G k := fun k hk => hA1.2 k (.inr hk)
  have q3 : IncS (ltR ky) h1 mid e := p3.congr fun k k1 k2 => hsame k k1
  have q4 : IncS (ltR ky) h1 e b := p4.congr fun k k1 k2 => hsame k (by omega)
  have qB : ∀ i j, mid ≤ i → i < e → e ≤ j → j < b → h1 i < h1 j := fun i j i1 i2 i3 i4 => by rw [hsame i i1, hsame j (by omega)]; exact pB i j i1 i2 i3 i4
  have hjoin : ∀ h2, OrdS (ltR ky) h1 h2 mid b → OrdS (ltR ky) f h2 a b := fun h2 hB2 => sym_join ltR_tr y1 y2 y3 y4 (by rw [← hky] at hX; exact hX) (by rw [← hky] at hY; exact hY) y6 y7 hG (by rw [y5]; exact hA1) (by rw [y5]; exact hB2)
  have hno := fun h9 => sym_noB (lt := ltR ky) (g := h1) y1 y2 y3 y4 y5 (by rw [← hky] at hX; exact hX) (by rw [← hky] at hY; exact hY) (fun k k1 _ => by rw [← hG]; exact hsame k k1) h9
  obtain ⟨ch, hch⟩ : ∃ c, c = rowN n h1 := ⟨_, rfl⟩
  rw [← hch]
  refine AGo_forget [(0, .ms 1 0 g 0 n), (3, I ib), (4, .fn 63 [.mp 1 0 0]), (18, I imd), (24, I ie)] _ hf1 (.inl rfl) ?_ (by simp)
  clear hf1 hT hTD T TD
  refine SGo_run hA ⟨[], [], [], (78, eSymD d) :: []⟩ .nil (.cons (eSymD_ok ih) .nil) 200 fun T TD hT hTD => ?_
  cbv
  split <;> cbv
  · rename_i hz1
    have hz1 : mid < e := of_decide_eq_true (w5.symm.trans hz1)
    split <;> cbv
    · rename_i hz2
      have hz2 : e < b := of_decide_eq_true (w6.symm.trans hz2)
      refine Exists.intro h1 (Exists.intro rc (Exists.intro mid (Exists.intro e (Exists.intro b (And.intro ⟨rfl, rfl, rfl, hch, hrr, himd, hie, hib⟩ (And.intro ⟨by omega, hz1, hz2, hbn, hn2, hr, hb1⟩ (And.intro ⟨by rw [hky] at q3; exact q3, by rw [hky] at q4; exact q4, qB⟩ ?_)))))))
      intro c2 h2 hc2 ho hbb; cbv
      rw [hc2]
      refine ite_both (h h2 (by have := hjoin h2 (by rw [hky]; exact ho); rw [hky] at this; exact this) hbb)
    · rename_i hz2
      have hz2 : ¬ e < b := of_decide_eq_false (w6.symm.trans hz2)
      rw [hch]
      refine ite_both (h h1 (by have := hjoin h1 (hno fun h9 => hz2 h9.2); rw [hky] at this; exact this) hb1)
  · rename_i hz1
    have hz1 : ¬ mid < e := of_decide_eq_false (w5.symm.trans hz1)
    rw [hch]
    refine ite_both (h h1 (by have := hjoin h1 (hno fun h9 => hz1 h9.1); rw [hky] at this; exact this) hb1)
theorem p78 : ∀ d, SymC d fun _ _ _ => True := by
  intro d
  induction d with
  | zero => intro g g2 n a m b f rc hd _ ham hmb; omega
  | succ d ih =>
    intro g g2 n a m b f rc hd _ ham hmb hbn hn2 hr hfb hX hY hXY Kk h
    by_cases q1 : m - a = 1
    · exact p78a (d + 1) g g2 n a m b f rc hd q1 ham hmb hbn hn2 hr hfb hX hY hXY h
    · by_cases q2 : b - m = 1
      · exact p78b (d + 1) g g2 n a m b f rc hd ⟨q1, q2⟩ ham hmb hbn hn2 hr hfb hX hY hXY h
      · exact p78c d ih g g2 n a m b f rc hd ⟨q1, q2⟩ ham hmb hbn hn2 hr hfb hX hY hXY h
end Go.Sas
namespace Go.Sas
open Go.Proofs
set_option maxRecDepth 100000
/-- how many places the sort's contract covers -/
def SrtN (n : Nat) : Prop := 1 ≤ n ∧ n ≤ 40
def eInsR : List AV → AHeap → Option PT
  | [.ms 1 0 g 0 n, .lit (.int .i64 a), .lit (.int .i64 b), .fn 63 [.mp 1 0 0]], [.own g' lc, .own 0 [.ms 1 2 g2 0 n'], .own g2' rr] => some fun K => ∃ (P M : List Nat) (rc : List Int) (c : Nat), (g' = g ∧ n' = n ∧ g2' = g2 ∧ lc = (P ++ M).map natI ∧ rr = rc.map I ∧ a = iLen P.length ∧ b = iLen (P.length + c)) ∧ (n = P.length + M.length ∧ c ≤ M.length ∧ n ≤ 1000 ∧ rc.length = n ∧ ∀ k ∈ M, k < n) ∧
      ∀ c2, c2 = (P ++ (sortV (keyR rc) (M.take c) ++ M.drop c)).map natI → K (.tup []) [.own g c2, .own 0 [.ms 1 2 g2 0 n], .own g2 rr]
  | _, _ => none
theorem eInsR_ok : ∀ args H pt, eInsR args H = some pt → ∀ (Kk : AV → AHeap → Prop), pt Kk → ACalls Tryd.prog 77 args H Kk := by
  intro args H pt h Kk hk
  unfold eInsR at h
  split at h
  · cases h
    obtain ⟨P, M, rc, c, ⟨rfl, rfl, rfl, rfl, rfl, rfl, rfl⟩, ⟨h1, h2, h3, h4, h5⟩, h6⟩ := hk
    exact p77 _ _ _ c P M rc h1 h2 h3 h4 h5 (h6 _ rfl)
  · cases h
theorem sortV_nil {α : Type} {key : α → Int} : sortV key [] = [] := rfl
def blkL (ky : Nat → Int) (l : List Nat) : Nat → List Nat
  | 0 => l
  | 1 => sortV ky (l.take 20) ++ l.drop 20
  | _ => sortV ky (l.take 20) ++ sortV ky (l.drop 20)
theorem blk_step {ky : Nat → Int} {l : List Nat} {k : Nat} (h : 20 * k + 20 ≤ l.length) (hn : l.length ≤ 40) : ∃ P M, blkL ky l k = P ++ M ∧ P.length = 20 * k ∧ 20 ≤ M.length ∧ P.length + M.length = l.length ∧ (∀ x ∈ M, x ∈ l) ∧ blkL ky l (k + 1) = P ++ (sortV ky (M.take 20) ++ M.drop 20) := by
  match k with
  | 0 => exact ⟨[], l, rfl, rfl, by omega, by simp, fun _ h => h, rfl⟩
  | 1 =>
    refine ⟨sortV ky (l.take 20), l.drop 20, rfl, by rw [sortV_len, List.length_take]; omega, by rw [List.length_drop]; omega, by rw [sortV_len, List.length_take, List.length_drop]; omega, fun _ h => List.mem_of_mem_drop h, ?_⟩
    have e1 : (l.drop 20).take 20 = l.drop 20 := List.take_of_length_le (by rw [List.length_drop]; omega)
    have e2 : (l.drop 20).drop 20 = [] := List.drop_eq_nil_of_le (by rw [List.length_drop]; omega)
    rw [e1, e2, List.append_nil]; rfl
  | k + 2 => omega
theorem blk_end {ky : Nat → Int} {l : List Nat} {k : Nat} (h1 : 20 * k ≤ l.length) (h2 : l.length < 20 * k + 20) (hn : l.length ≤ 40) : ∃ P M, blkL ky l k = P ++ M ∧ P.length = 20 * k ∧ P.length + M.length = l.length ∧ (∀ x ∈ M, x ∈ l) ∧ P ++ (sortV ky (M.take M.length) ++ M.drop M.length) = sortV ky (l.take 20) ++ sortV ky (l.drop 20) := by
  match k with
  | 0 =>
    refine ⟨[], l, rfl, rfl, by simp, fun _ h => h, ?_⟩
    rw [List.take_length, List.drop_length, List.take_of_length_le (by omega), List.drop_eq_nil_of_le (by omega), sortV_nil]; rfl
  | 1 =>
    refine ⟨sortV ky (l.take 20), l.drop 20, rfl, by rw [sortV_len, List.length_take]; omega, by rw [sortV_len, List.length_take, List.length_drop]; omega, fun _ h => List.mem_of_mem_drop h, ?_⟩
    rw [List.take_length, List.drop_length, List.append_nil]
  | 2 =>
    refine ⟨sortV ky (l.take 20) ++ sortV ky (l.drop 20), [], by rw [List.append_nil]; rfl, ?_, ?_, by simp, by simp [sortV_nil]⟩
    · rw [List.length_append, sortV_len, sortV_len, List.length_take, List.length_drop]; omega
    · rw [List.length_append, sortV_len, sortV_len, List.length_take, List.length_drop]; simp; omega
  | k + 3 => omega
def mrgL (ky : Nat → Int) (l : List Nat) : Nat → List Nat
  | 0 => sortV ky (l.take 20) ++ sortV ky (l.drop 20)
  | _ => sortV ky l
theorem mrg_len {ky : Nat → Int} {l : List Nat} {k : Nat} : (mrgL ky l k).length = l.length := by
  match k with
  | 0 => simp only [mrgL]; rw [List.length_append, sortV_len, sortV_len, List.length_take, List.length_drop]; omega
  | k + 1 => simp only [mrgL]; rw [sortV_len]
set_option maxHeartbeats 4000000 in
theorem p70 (g g2 n : Nat) (l : List Nat) (rc : List Int) (hn : n = l.length) (hs : SrtN n) (hinc : l.Pairwise (· < ·)) (hr : rc.length = n) (hb : ∀ k ∈ l, k < n) {Kk : AV → AHeap → Prop} (h : ∀ c2, c2 = (sortV (keyR rc) l).map natI → Kk (.tup []) [.own g c2, .own 0 [.ms 1 2 g2 0 n], .own g2 (rc.map I)]) :
    ACalls Tryd.prog 70 [.ms 1 0 g 0 n, I (iLen n), .fn 63 [.mp 1 0 0]] (shH g g2 n l rc) Kk := by
  obtain ⟨iN, hiN⟩ : ∃ i : Int, i = iLen n := ⟨_, rfl⟩
  obtain ⟨ky, hky⟩ : ∃ k, k = keyR rc := ⟨_, rfl⟩
  obtain ⟨lc, hlc⟩ : ∃ r, r = l.map natI := ⟨_, rfl⟩
  obtain ⟨rr, hrr⟩ : ∃ q, q = rc.map I := ⟨_, rfl⟩
  unfold shH
  rw [← hrr, ← hky] at h
  rw [← hiN, ← hlc, ← hrr]
  obtain ⟨hs1, hs2⟩ := hs
  obtain ⟨A, hA⟩ : ∃ A, A = std := ⟨_, rfl⟩
  have hll : ∀ x y, A.lt x y = decide (x < y) := by subst hA; intro x y; rfl
  have hle : ∀ x y, A.le x y = decide (x ≤ y) := by subst hA; intro x y; rfl
  have hadd : ∀ x y : Nat, x ≤ 2000 → y ≤ 2000 → A.add .i64 (iLen x) (iLen y) = iLen (x + y) := by
    subst hA; intro x y h1 h2; show iAdd .i64 _ _ = _; rw [iAdd_id (by unfold iLen; omega) (by unfold iLen; omega)]; unfold iLen; omega
  have h20 : (20 : Int) = iLen 20 := rfl
  have h00 : (0 : Int) = iLen 0 := rfl
  have h40 : A.mul .i64 2 20 = 40 := by subst hA; rfl
  have h41 : A.mul .i64 20 2 = 40 := by subst hA; rfl
  have hend : n ≤ 20 → (mrgL ky l 0).map natI = (sortV ky l).map natI := fun h9 => by
    simp only [mrgL]; rw [List.take_of_length_le (by omega), List.drop_eq_nil_of_le (by omega), sortV_nil, List.append_nil]
  have hmr : 20 ≤ n → ∃ f, (mrgL ky l 0).map natI = rowN n f ∧ IncS (ltR ky) f 0 20 ∧ IncS (ltR ky) f 20 n ∧ (∀ i j, 0 ≤ i → i < 20 → 20 ≤ j → j < n → f i < f j) ∧ (∀ k, k < n → f k < n) ∧ ∀ h, OrdS (ltR ky) f h 0 n → rowN n h = (sortV ky l).map natI := fun h9 => by
    obtain ⟨q1, q2, q3, q4, q5⟩ := halves (ky := ky) hinc (c := 20) (by omega) rfl
    rw [← hn] at q2 q3 q4 q5
    refine ⟨_, ?_, q1, q2, q3, q4 n hb, fun h hh => ?_⟩
    · rw [map_rowN, mrg_len, ← hn]; rfl
    · rw [rowN_map, ← seg_row, q5 h hh]
  refine go70 rfl (SGo_run hA ⟨[], [], [], (77, eInsR) :: []⟩ .nil (.cons eInsR_ok .nil) 200 fun T TD hT hTD => ?_)
  cbv
  rw [hT]
  refine AGo_whileE (σ := Nat) [0, 1, 2, 6] (fun k => 3 - k) (fun k => 20 * k ≤ n) (fun k => [(7, I (iLen (20 * k))), (8, I (iLen (20 * k + 20)))]) (fun k => [.own g ((blkL ky l k).map natI), .own 0 [.ms 1 2 g2 0 n], .own g2 rr]) 0 (Nat.zero_le _) ⟨rfl, rfl, trivial⟩ (.inl (by rw [hlc]; rfl)) fun k hP Bk hB => ?_
  obtain ⟨ix, hix⟩ : ∃ q, q = iLen (20 * k) := ⟨_, rfl⟩
  obtain ⟨iy, hiy⟩ : ∃ q, q = iLen (20 * k + 20) := ⟨_, rfl⟩
  obtain ⟨c1, hc1⟩ : ∃ c, c = (blkL ky l k).map natI := ⟨_, rfl⟩
  rw [← hix, ← hiy, ← hc1]
  have z1 : A.le iy iN = decide (20 * k + 20 ≤ n) := by rw [hle, hiy, hiN]; apply decide_eq_decide.2; unfold iLen; omega
  clear hT hTD T TD
  refine SGo_run hA ⟨[], [], [], (77, eInsR) :: []⟩ .nil (.cons eInsR_ok .nil) 200 fun T TD hT hTD => ?_
  cbv
  split <;> cbv
  · rename_i hz
    have hz : 20 * k + 20 ≤ n := of_decide_eq_true (z1.symm.trans hz)
    obtain ⟨P, M, e1, e2, e3, e4, e5, e6⟩ := blk_step (ky := ky) (l := l) (k := k) (by omega) (by omega)
    have hnx : A.add .i64 iy 20 = iLen (20 * (k + 1) + 20) := by rw [hiy, h20]; exact hadd _ _ (by omega) (by omega)
    refine Exists.intro P (Exists.intro M (Exists.intro rc (Exists.intro 20 (And.intro ⟨rfl, rfl, rfl, by rw [hc1, e1], hrr, by rw [hix, e2], by rw [hiy, e2]⟩ (And.intro ⟨by omega, e3, by omega, hr, fun x hx => hb x (e5 x hx)⟩ ?_)))))
    intro c2 hc2; cbv
    exact hB (k + 1) _ _ (by omega) (by omega) ⟨congrArg I (hiy.trans rfl), congrArg I hnx, trivial⟩ ⟨rfl, rfl, rfl, rfl, trivial⟩ (.inl (by rw [hc2, e6, hky]))
  rename_i hz
  have hz : ¬ 20 * k + 20 ≤ n := of_decide_eq_false (z1.symm.trans hz)
  obtain ⟨P, M, e1, e2, e4, e5, e6⟩ := blk_end (ky := ky) (l := l) (k := k) (by omega) (by omega) (by omega)
  refine Exists.intro P (Exists.intro M (Exists.intro rc (Exists.intro M.length (And.intro ⟨rfl, rfl, rfl, by rw [hc1, e1], hrr, by rw [hix, e2], by rw [hiN]; congr 1; omega⟩ (And.intro ⟨by omega, Nat.le_refl _, by omega, hr, fun x hx => hb x (e5 x hx)⟩ ?_)))))
  intro c2 hc2
  have hc2 : c2 = (mrgL ky l 0).map natI := by rw [hc2, ← hky, e6]; rfl
  clear hB e1 e2 e4 e5 e6 z1
  cbv
  rw [hT]
  refine AGo_whileE (σ := Nat) [0, 1, 2] (fun s => 1 - s) (fun s => s = 0 ∨ s = 1) (fun s => [(6, I (iLen (20 + 20 * s)))]) (fun s => [.own g ((mrgL ky l s).map natI), .own 0 [.ms 1 2 g2 0 n], .own g2 rr]) 0 (.inl rfl) ⟨rfl, trivial⟩ (.inl (by rw [hc2])) fun s hs Bk hB => ?_
  rcases hs with rfl | rfl
  · -- blocks of 20
    have z2 : A.lt 20 iN = decide (20 < n) := by rw [hll, hiN]; apply decide_eq_decide.2; unfold iLen; omega
    rw [← hc2]
    rw [show iLen (20 + 20 * 0) = 20 from rfl]
    clear hT hTD T TD
    refine SGo_run hA ⟨[], [], [], []⟩ .nil .nil 200 fun T TD hT hTD => ?_
    cbv
    split <;> cbv
    · rename_i hz2
      have hz2 : 20 < n := of_decide_eq_true (z2.symm.trans hz2)
      obtain ⟨f, f1, f2, f3, f4, f5, f6⟩ := hmr (by omega)
      rw [hT]
      refine AGo_whileE (σ := Nat) [0, 1, 2, 6] (fun s => 1 - s) (fun s => s = 0 ∨ (s = 1 ∧ n = 40)) (fun s => [(7, I (iLen (40 * s))), (8, I (iLen (40 * s + 40)))]) (fun s => [.own g ((mrgL ky l s).map natI), .own 0 [.ms 1 2 g2 0 n], .own g2 rr]) 0 (.inl rfl) ⟨rfl, congrArg I h40, trivial⟩ (.inl (by rw [hc2])) fun s hs Bk2 hB2 => ?_
      have hlast : ∀ e H, Fits e [(6, I 40)] → Fits e (keepS [0, 1, 2] [(6, I 20), (0, .ms 1 0 g 0 n), (1, I iN), (2, .fn 63 [.mp 1 0 0])]) → H = [.own g ((sortV ky l).map natI), .own 0 [.ms 1 2 g2 0 n], .own g2 rr] → Bk e H := fun e H q1 q2 q3 => hB 1 e H (by omega) (.inr rfl) q1 q2 (.inl q3)
      rcases hs with rfl | ⟨rfl, hn40⟩
      · rw [← hc2, show iLen (40 * 0) = 0 from rfl, show iLen (40 * 0 + 40) = 40 from rfl]
        have z3 : A.le 40 iN = decide (40 ≤ n) := by rw [hle, hiN]; apply decide_eq_decide.2; unfold iLen; omega
        have z4 : A.lt (A.add .i64 0 20) iN = true := by rw [show A.add .i64 0 20 = 20 by subst hA; rfl, z2]; exact decide_eq_true hz2
        clear hT hTD T TD
        refine SGo_run hA ⟨[], [], [], (78, eSymD 1000) :: []⟩ .nil (.cons (eSymD_ok (p78 1000)) .nil) 200 fun T TD hT hTD => ?_
        cbv
        split <;> cbv
        · rename_i hz3
          have hz3 : 40 ≤ n := of_decide_eq_true (z3.symm.trans hz3)
          have hn40 : n = 40 := by omega
          refine Exists.intro f (Exists.intro rc (Exists.intro 0 (Exists.intro 20 (Exists.intro 40 (And.intro ⟨rfl, rfl, rfl, by rw [hc2, f1], hrr, rfl, by subst hA; rfl, rfl⟩ (And.intro ⟨by omega, by omega, by omega, by omega, by omega, hr, f5⟩ (And.intro ⟨by rw [← hky]; exact f2, by rw [← hky, ← hn40]; exact f3, fun i j i1 i2 j1 j2 => f4 i j i1 i2 j1 (by omega)⟩ ?_)))))))
          intro c3 hh hc3 ho _; cbv
          rw [← hky, ← hn40] at ho
          have hc3 := hc3.trans (f6 hh ho)
          exact hB2 1 _ _ (by omega) (.inr ⟨rfl, hn40⟩) ⟨rfl, congrArg I (by subst hA; rfl), trivial⟩ ⟨rfl, rfl, rfl, rfl, trivial⟩ (.inl (by rw [hc3]; rfl))
        · rename_i hz3
          split <;> first | (rename_i hz; exact Bool.noConfusion (hz.symm.trans z4)) | cbv
          refine Exists.intro f (Exists.intro rc (Exists.intro 0 (Exists.intro 20 (Exists.intro n (And.intro ⟨rfl, rfl, rfl, by rw [hc2, f1], hrr, rfl, by subst hA; rfl, hiN⟩ (And.intro ⟨by omega, by omega, by omega, by omega, by omega, hr, f5⟩ (And.intro ⟨by rw [← hky]; exact f2, by rw [← hky]; exact f3, f4⟩ ?_)))))))
          intro c3 hh hc3 ho _; cbv
          rw [← hky] at ho
          have hc3 := hc3.trans (f6 hh ho)
          exact hlast _ _ ⟨congrArg I h41, trivial⟩ ⟨rfl, rfl, rfl, trivial⟩ (by rw [hc3])
      · rw [show iLen (40 * 1) = 40 from rfl, show iLen (40 * 1 + 40) = 80 from rfl]
        obtain ⟨c3, hc3⟩ : ∃ c, c = (sortV ky l).map natI := ⟨_, rfl⟩
        rw [show (mrgL ky l 1).map natI = c3 from hc3.symm]
        have z3 : A.le 80 iN = false := by rw [hle, hiN]; apply decide_eq_false; unfold iLen; omega
        have z4 : A.lt (A.add .i64 40 20) iN = false := by rw [show A.add .i64 40 20 = 60 by subst hA; rfl, hll, hiN]; apply decide_eq_false; unfold iLen; omega
        clear hT hTD T TD
        refine SGo_run hA ⟨[], [], [], (78, eSymD 1000) :: []⟩ .nil (.cons (eSymD_ok (p78 1000)) .nil) 200 fun T TD hT hTD => ?_
        cbv
        split <;> first | (rename_i hz; exact Bool.noConfusion (hz.symm.trans z3)) | cbv
        split <;> first | (rename_i hz; exact Bool.noConfusion (hz.symm.trans z4)) | cbv
        exact hlast _ _ ⟨congrArg I h41, trivial⟩ ⟨rfl, rfl, rfl, trivial⟩ (by rw [hc3])
    · rename_i hz2
      have hz2 : ¬ 20 < n := of_decide_eq_false (z2.symm.trans hz2)
      exact ite_both (h c2 (hc2.trans (hend (by omega))))
  · rw [show iLen (20 + 20 * 1) = 40 from rfl]
    obtain ⟨c3, hc3⟩ : ∃ c, c = (sortV ky l).map natI := ⟨_, rfl⟩
    rw [show (mrgL ky l 1).map natI = c3 from hc3.symm]
    have z2 : A.lt 40 iN = false := by rw [hll, hiN]; apply decide_eq_false; unfold iLen; omega
    clear hT hTD T TD hB
    refine SGo_run hA ⟨[], [], [], []⟩ .nil .nil 200 fun T TD hT hTD => ?_
    cbv
    split <;> first | (rename_i hz; exact Bool.noConfusion (hz.symm.trans z2)) | cbv
    exact ite_both (h c3 hc3)
def eStabR : List AV → AHeap → Option PT
  | [.ms 1 0 g 0 n, .lit (.int .i64 b), .fn 63 [.mp 1 0 0]], [.own g' lc, .own 0 [.ms 1 2 g2 0 n'], .own g2' rr] => some fun K => ∃ (l : List Nat) (rc : List Int), (g' = g ∧ n' = n ∧ g2' = g2 ∧ lc = l.map natI ∧ rr = rc.map I ∧ b = iLen n) ∧ (n = l.length ∧ SrtN n ∧ l.Pairwise (· < ·) ∧ rc.length = n ∧ ∀ k ∈ l, k < n) ∧
      ∀ c2, c2 = (sortV (keyR rc) l).map natI → K (.tup []) [.own g c2, .own 0 [.ms 1 2 g2 0 n], .own g2 rr]
  | _, _ => none
theorem eStabR_ok : ∀ args H pt, eStabR args H = some pt → ∀ (Kk : AV → AHeap → Prop), pt Kk → ACalls Tryd.prog 70 args H Kk := by
  intro args H pt h Kk hk
  unfold eStabR at h
  split at h
  · cases h
    obtain ⟨l, rc, ⟨rfl, rfl, rfl, rfl, rfl, rfl⟩, ⟨h1, h2, h0, h3, h4⟩, h6⟩ := hk
    exact p70 _ _ _ l rc h1 h2 h0 h3 h4 h6
  · cases h
theorem p62l (g g2 n : Nat) (l : List Nat) (rc : List Int) (hn : n = l.length) (hs : SrtN n) (hinc : l.Pairwise (· < ·)) (hr : rc.length = n) (hb : ∀ k ∈ l, k < n) {Kk : AV → AHeap → Prop} (h : ∀ c2, c2 = (sortV (keyR rc) l).map natI → Kk (.tup []) [.own g c2, .own 0 [.ms 1 2 g2 0 n], .own g2 (rc.map I)]) :
    ACalls Tryd.prog 62 [.ms 1 0 g 0 n, .fn 63 [.mp 1 0 0]] (shH g g2 n l rc) Kk := by
  obtain ⟨lc, hlc⟩ : ∃ r, r = l.map natI := ⟨_, rfl⟩
  obtain ⟨rr, hrr⟩ : ∃ q, q = rc.map I := ⟨_, rfl⟩
  unfold shH
  rw [← hrr] at h
  rw [← hlc, ← hrr]
  obtain ⟨A, hA⟩ : ∃ A, A = std := ⟨_, rfl⟩
  have hln : A.len n = iLen n := by subst hA; rfl
  have hsg : ∀ g, A.sg g g := by subst hA; exact fun _ => rfl
  refine go62 rfl (SGo_run hA ⟨[0], [], [], (70, eStabR) :: []⟩ .nil (.cons eStabR_ok .nil) 200 fun T TD hT hTD => ?_)
  cbv
  refine And.intro (hsg _) (Exists.intro l (Exists.intro rc (And.intro ⟨rfl, rfl, rfl, hlc, hrr, hln⟩ (And.intro ⟨hn, hs, hinc, hr, hb⟩ ?_))))
  intro c2 hc2; cbv
  exact ite_both (h c2 hc2)
theorem nidL_natI (l : List Nat) : AV.nidL (l.map natI) = true := nidL_map (g := natI) (fun _ => rfl) l
theorem nidL_I (l : List Int) : AV.nidL (l.map I) = true := nidL_map (g := I) (fun _ => rfl) l
theorem set_same {H : AHeap} {i : Nat} {X : AObj} (h : H[i]? = some X) : H.set i X = H := by
  apply List.ext_getElem?; intro j
  rw [List.getElem?_set]
  split
  · rename_i hj; subst hj
    rw [h, if_pos (List.getElem?_eq_some_iff.1 h).1]
  · rfl
theorem p62 (g g2 n : Nat) (l : List Nat) (rc : List Int) (hn : n = l.length) (hs : SrtN n) (hinc : l.Pairwise (· < ·)) (hr : rc.length = n) (hb : ∀ k ∈ l, k < n) (H : AHeap) {id idc idr : Nat} (h1 : id ≠ idc) (h2 : id ≠ idr) (h3 : idc ≠ idr)
    (hX : H[id]? = some (.own g (l.map natI))) (hY : H[idc]? = some (.own 0 [.ms 1 idr g2 0 n])) (hZ : H[idr]? = some (.own g2 (rc.map I))) {Kk : AV → AHeap → Prop}
    (h : ∀ c2, c2 = (sortV (keyR rc) l).map natI → Kk (.tup []) (H.set id (.own g c2))) : ACalls Tryd.prog 62 [.ms 1 id g 0 n, .fn 63 [.mp idc 0 0]] H Kk := by
  have h4 := p62l g g2 n l rc hn hs hinc hr hb (Kk := fun r H' => r = .tup [] ∧ H' = [.own g ((sortV (keyR rc) l).map natI), .own 0 [.ms 1 2 g2 0 n], .own g2 (rc.map I)]) (fun c2 hc2 => ⟨rfl, by rw [hc2]⟩)
  have h5 := ACalls.frame (H := H) [id, idc, idr] h4 (by simp [h1, h2, h3]) (by simp) (by simp [AV.ltL, AV.lt]) ⟨AV.ltL_nid (nidL_natI l), by simp [AObj.lt, AV.ltL, AV.lt], AV.ltL_nid (nidL_I rc), trivial⟩ (fun k X hk => by
    match k with
    | 0 => simp at hk; subst hk; simpa [at_, AObj.ren, AV.renL_nid (nidL_natI l)] using hX
    | 1 => simp at hk; subst hk; simpa [at_, AObj.ren, AV.renL, AV.ren] using hY
    | 2 => simp at hk; subst hk; simpa [at_, AObj.ren, AV.renL_nid (nidL_I rc)] using hZ
    | k + 3 => simp at hk)
  have e : AV.renL [id, idc, idr] [.ms 1 0 g 0 n, .fn 63 [.mp 1 0 0]] = [.ms 1 id g 0 n, .fn 63 [.mp idc 0 0]] := by simp [AV.renL, AV.ren, at_]
  rw [e] at h5
  refine h5.mono fun r H' hx => ?_
  obtain ⟨r0, H1, ⟨rfl, rfl⟩, _, rfl, rfl⟩ := hx
  have h6 := h _ rfl
  have s1 : (H.set id (.own g ((sortV (keyR rc) l).map natI))).set idc (.own 0 [.ms 1 idr g2 0 n]) = H.set id (.own g ((sortV (keyR rc) l).map natI)) := set_same (by rw [List.getElem?_set_ne h1]; exact hY)
  have s2 : (H.set id (.own g ((sortV (keyR rc) l).map natI))).set idr (.own g2 (rc.map I)) = H.set id (.own g ((sortV (keyR rc) l).map natI)) := set_same (by rw [List.getElem?_set_ne h2]; exact hZ)
  simpa [merge, updL, AObj.ren, AV.ren, AV.renL, at_, more, AV.renL_nid (nidL_natI _), AV.renL_nid (nidL_I _), s1, s2] using h6
def eSortR : List AV → AHeap → Option PT
  | [.ms 1 id g 0 n, .fn 63 [.mp idc 0 0]], H => match H[id]?, H[idc]? with
    | some (.own g' lc), some (.own 0 [.ms 1 idr g2 0 n']) => some fun K => ∃ (l : List Nat) (rc : List Int), (g' = g ∧ n' = n ∧ lc = l.map natI ∧ H[idr]? = some (.own g2 (rc.map I)) ∧ id ≠ idc ∧ id ≠ idr ∧ idc ≠ idr) ∧ (n = l.length ∧ SrtN n ∧ l.Pairwise (· < ·) ∧ rc.length = n ∧ ∀ k ∈ l, k < n) ∧
      ∀ c2, c2 = (sortV (keyR rc) l).map natI → K (.tup []) (H.set id (.own g c2))
    | _, _ => none
  | _, _ => none
theorem eSortR_ok : ∀ args H pt, eSortR args H = some pt → ∀ (Kk : AV → AHeap → Prop), pt Kk → ACalls Tryd.prog 62 args H Kk := by
  intro args H pt h Kk hk
  unfold eSortR at h
  split at h
  · split at h
    · rename_i hX hY
      cases h
      obtain ⟨l, rc, ⟨rfl, rfl, rfl, hZ, h1, h2, h3⟩, ⟨h4, h5, h0, h6, h7⟩, h8⟩ := hk
      exact p62 _ _ _ l rc h4 h5 h0 h6 h7 _ h1 h2 h3 hX hY hZ h8
    · cases h
  · cases h
end Go.Sas
namespace Go.Sas
def rowA (D : Nat) (f : Nat → AV) : List AV := (List.range D).map f
theorem rowA_len {D : Nat} {f : Nat → AV} : (rowA D f).length = D := by simp [rowA]
theorem zeros_rowA {D : Nat} {z : Value} : List.flatten (List.replicate D ([z].map AV.lit)) = rowA D fun _ => .lit z := by
  induction D with
  | zero => rfl
  | succ D ih =>
    rw [List.replicate_succ', List.flatten_append, ih]
    simp [rowA, List.range_succ]
theorem mkS_rowA {D by_ : Nat} {z : Value} {ln : Int} (hl : ln = iLen D) (hb : D ≤ 1000000) (hy : by_ ≤ 1000) : mkS 1 by_ [z] ln ln (rowA D fun _ => .lit z) D := by
  subst hl
  have h1 : ((by_ : Int) * (D : Int)) ≤ 1000 * 1000000 := Int.mul_le_mul (by omega) (by omega) (by omega) (by omega)
  exact ⟨by unfold iLen; omega, Int.le_refl _, by unfold iLen; omega, by unfold iLen; omega, rfl, by unfold iLen; omega, by rw [← zeros_rowA]; rfl⟩
theorem nidL_rowA {D : Nat} {f : Nat → AV} (h : ∀ q, (f q).nid = true) : AV.nidL (rowA D f) = true := nidL_map h _
end Go.Sas
namespace Go.Sas
open Go.Proofs
set_option maxRecDepth 100000
theorem wrapU_id {n : Int} (h0 : 0 ≤ n) (h1 : n < 18446744073709551616) : IntKind.u64.wrap n = n := by
  simp [IntKind.wrap, IntKind.signed, IntKind.bits]; omega
theorem andLow {n : Int} (h0 : 0 ≤ n) (h1 : n ≤ 1000000) : iAnd .u64 n 4294967295 = n := by
  obtain ⟨k, rfl⟩ : ∃ k : Nat, n = k := ⟨n.toNat, by omega⟩
  unfold iAnd
  have h2 : (BitVec.ofInt 64 (k : Int) &&& BitVec.ofInt 64 4294967295).toNat = k := by
    rw [BitVec.toNat_and]
    have e1 : (BitVec.ofInt 64 (k : Int)).toNat = k := by simp; omega
    have e2 : (BitVec.ofInt 64 4294967295).toNat = 2 ^ 32 - 1 := by decide
    rw [e1, e2, Nat.and_two_pow_sub_one_eq_mod]; omega
  show IntKind.u64.wrap ((BitVec.ofInt 64 (k : Int) &&& BitVec.ofInt 64 4294967295).toNat : Int) = k
  rw [h2]; exact wrapU_id (by omega) (by omega)
theorem shr32 {n : Int} (h0 : 0 ≤ n) (h1 : n ≤ 1000000) : iShr .u64 n 32 = 0 := by
  simp only [iShr]
  rw [show (min (32 : Int).toNat IntKind.u64.bits) = 32 from rfl, Int.fdiv_eq_ediv_of_nonneg _ (by decide)]
  omega
theorem mulU1 {n : Int} (h0 : 0 ≤ n) (h1 : n ≤ 1000000) : iMul .u64 1 n = n := by unfold iMul; rw [Int.one_mul]; exact wrapU_id h0 (by omega)
theorem mulU0 {n : Int} : iMul .u64 0 n = 0 := by unfold iMul; rw [Int.zero_mul]; rfl
theorem p76 (n : Int) (h0 : 0 ≤ n) (h1 : n ≤ 1000000) (H : AHeap) {Kk : AV → AHeap → Prop} (h : Kk (.tup [U 0, U n]) H) : ACalls Tryd.prog 76 [U 1, U n] H Kk := by
  refine (fun q => pureC (by rfl) (by rfl) q H h) ?_
  clear h
  intro Kk h
  obtain ⟨A, hA⟩ : ∃ A, A = std := ⟨_, rfl⟩
  refine go76 rfl (SGo_run hA ⟨[], [], [], []⟩ .nil .nil 200 fun T TD hT hTD => ?_)
  cbv
  refine leaf h ?_ rfl
  subst hA
  have a1 : iAnd .u64 1 4294967295 = 1 := andLow (by omega) (by omega)
  have a2 : iAnd .u64 n 4294967295 = n := andLow h0 h1
  have a3 : iShr .u64 1 32 = 0 := shr32 (n := 1) (by omega) (by omega)
  have a4 : iShr .u64 n 32 = 0 := shr32 h0 h1
  have a7 : iAdd .u64 0 0 = 0 := by rfl
  have a8 : iAnd .u64 0 4294967295 = 0 := andLow (n := 0) (by omega) (by omega)
  have a9 : iShr .u64 0 32 = 0 := shr32 (n := 0) (by omega) (by omega)
  obtain ⟨g11, hg⟩ : ∃ g, g = iAdd .u64 (iMul .u64 (iShr .u64 1 32) (iAnd .u64 n 4294967295)) (iShr .u64 (iMul .u64 (iAnd .u64 1 4294967295) (iAnd .u64 n 4294967295)) 32) := ⟨_, rfl⟩
  have hg2 := hg
  rw [a3, a1, a2, mulU0, mulU1 h0 h1, a4, a7] at hg2
  have : AV.tup [U 0, U n] = AV.tup [U (iAdd .u64 (iAdd .u64 (iMul .u64 (iShr .u64 1 32) (iShr .u64 n 32)) (iShr .u64 g11 32)) (iShr .u64 (iAdd .u64 (iAnd .u64 g11 4294967295) (iMul .u64 (iAnd .u64 1 4294967295) (iShr .u64 n 32))) 32)), U (iMul .u64 1 n)] := by
    rw [hg2, a1, a3, a4, a8, a9, mulU0, mulU1 (by omega) (by omega), mulU1 h0 h1, a7, a9, a7]
  rw [hg] at this
  exact this
def eMul64 : List AV → Option ((AV → Prop) → Prop)
  | [.lit (.int .u64 a), .lit (.int .u64 n)] => some fun K => ∃ _u : Unit, (a = 1 ∧ 0 ≤ n ∧ n ≤ 1000000) ∧ K (.tup [U 0, U n])
  | _ => none
theorem eMul64_ok {f : Nat} (hf : ∀ (n : Int), 0 ≤ n → n ≤ 1000000 → ∀ (H : AHeap) {Kk : AV → AHeap → Prop}, Kk (.tup [U 0, U n]) H → ACalls Tryd.prog f [U 1, U n] H Kk) : ∀ args pt, eMul64 args = some pt → ∀ (H : AHeap) (Kk : AV → AHeap → Prop), pt (fun r => Kk r H) → ACalls Tryd.prog f args H Kk := by
  intro args pt h H Kk hk
  unfold eMul64 at h
  split at h
  · cases h
    obtain ⟨_, ⟨rfl, h1, h2⟩, h3⟩ := hk
    exact hf _ h1 h2 H h3
  · cases h
theorem p69 (n : Int) (h0 : 0 ≤ n) (h1 : n ≤ 1000000) (H : AHeap) {Kk : AV → AHeap → Prop} (h : Kk (.tup [U 0, U n]) H) : ACalls Tryd.prog 69 [U 1, U n] H Kk := by
  refine (fun q => pureC (by rfl) (by rfl) q H h) ?_
  clear h
  intro Kk h
  obtain ⟨A, hA⟩ : ∃ A, A = std := ⟨_, rfl⟩
  refine go69 rfl (SGo_run hA ⟨[], [], (76, eMul64) :: [], []⟩ (.cons (eMul64_ok p76) .nil) .nil 200 fun T TD hT hTD => ?_)
  cbv
  refine Exists.intro () (And.intro ⟨rfl, h0, h1⟩ ?_); cbv
  exact h
def repC (N k : Nat) (x : Int) : List AV := rowA N fun q => I (if q < k then x else 0)
theorem repC_eq {N k : Nat} {x : Int} (h : k ≤ N) : repC N k x = List.replicate k (I x) ++ List.replicate (N - k) (I 0) := by
  apply List.ext_getElem?
  intro i
  unfold repC rowA
  rw [List.getElem?_map]
  by_cases h1 : i < N
  · rw [List.getElem?_range h1]
    by_cases h2 : i < k
    · rw [List.getElem?_append_left (by simpa using h2), List.getElem?_replicate, if_pos h2]; simp [h2]
    · rw [List.getElem?_append_right (by simpa using h2), List.getElem?_replicate, if_pos (by simp; omega)]; simp [h2]
  · rw [List.getElem?_eq_none (by simpa using h1), List.getElem?_eq_none (by simp; omega)]; rfl
theorem repC_len {N k : Nat} {x : Int} : (repC N k x).length = N := rowA_len
theorem repC_cpy {N k r : Nat} {x : Int} (hk : k ≤ N) (hr : r = N - k) : repC N (k + min k r) x = (repC N k x).take k ++ ((repC N k x).take k).take (min k r * 1) ++ (repC N k x).drop (k + min k r * 1) := by
  rw [repC_eq hk, repC_eq (by omega), Nat.mul_one]
  have e1 : (List.replicate k (I x) ++ List.replicate (N - k) (I 0)).take k = List.replicate k (I x) := by rw [List.take_left' (by simp)]
  have e2 : (List.replicate k (I x) ++ List.replicate (N - k) (I 0)).drop (k + min k r) = List.replicate (N - (k + min k r)) (I 0) := by
    rw [List.drop_append, List.drop_eq_nil_of_le (by simp), List.nil_append, List.length_replicate, List.drop_replicate]; congr 1; omega
  rw [e1, e2, List.take_replicate, show min (min k r) k = min k r by omega, ← List.replicate_append_replicate]
theorem cpy_act {e : Env} {H : AHeap} {sz id g off len n : Nat} {d s : Od} {cs xs cs2 : List AV} (hd : ev e d = .ms sz id g off len) (hs : cellsOfSl H sz (ev e s) = some xs) (hn : lenOfSl (ev e s) = some n) (hX : H[id]? = some (.own g cs)) (hb : off + len * sz ≤ cs.length) {H2 : AHeap}
    (hc : cs2 = cs.take off ++ xs.take (min n len * sz) ++ cs.drop (off + min n len * sz)) (h2 : H.set id (.own g cs2) = H2) : opAct (ev e) H (.cpy sz d s) = some (I (iLen (min n len)), H2) := by
  subst h2 hc
  simp only [opAct, hs, hn, hd, hX]
  rw [if_pos ⟨trivial, trivial, hb⟩]; rfl
theorem p61 (N : Nat) (x : Int) (hN : N ≤ 1000) (h1 : 1 ≤ N) {Kk : AV → AHeap → Prop} (h : Kk (.ms 1 0 0 0 N) [.own 0 (repC N N x)]) : ACalls Tryd.prog 61 [.vs 1 [I x], I (iLen N)] [] Kk := by
  obtain ⟨n, hn⟩ : ∃ n, n = iLen N := ⟨_, rfl⟩
  rw [← hn]
  obtain ⟨A, hA⟩ : ∃ A, A = std := ⟨_, rfl⟩
  have hsg : ∀ g, A.sg g g := by subst hA; exact fun _ => rfl
  have hlt : A.lt n 0 = false := by subst hA; rw [hn]; simp only [std, iLt, decide_eq_false_iff_not]; unfold iLen; omega
  refine go61 rfl ?_
  refine AGo_opq fun RR hRR => ?_
  refine SGo_run hA ⟨[0], [], (69, eMul64) :: [], []⟩ (.cons (eMul64_ok p69) .nil) .nil 200 fun T TD hT hTD => ?_
  cbv
  split <;> cbv
  · rename_i hz; exact Bool.noConfusion (hz.symm.trans hlt)
  have hc1 : A.cv .u64 (A.vlen [I x]) = 1 := by subst hA; rfl
  have hc2 : A.cv .u64 n = n := by subst hA; rw [hn]; exact wrapU_id (by unfold iLen; omega) (by unfold iLen; omega)
  have hnb : 0 ≤ n ∧ n ≤ 1000 := by rw [hn]; unfold iLen; omega
  refine Exists.intro () (And.intro ⟨hc1, by show 0 ≤ A.cv .u64 n; rw [hc2]; omega, by show A.cv .u64 n ≤ _; rw [hc2]; omega⟩ ?_); cbv
  have hl0 : A.lt 0 0 = false := by subst hA; rfl
  have hl1 : A.lt 9223372036854775807 (A.cv .u64 n) = false := by rw [hc2]; subst hA; simp only [std, iLt, decide_eq_false_iff_not]; omega
  split <;> cbv
  · rename_i hz; exact Bool.noConfusion (hz.symm.trans hl0)
  split <;> cbv
  · rename_i hz; exact Bool.noConfusion (hz.symm.trans hl1)
  have hc3 : A.cv .i64 (A.cv .u64 n) = n := by rw [hc2]; subst hA; exact wrap_id (by omega) (by omega)
  have hmk : A.mkz 1 8 [.int .i64 0] (A.cv .i64 (A.cv .u64 n)) (A.cv .i64 (A.cv .u64 n)) (rowA N fun _ => I 0) N := by rw [hc3]; subst hA; exact mkS_rowA hn (by omega) (by omega)
  obtain ⟨z, hz⟩ : ∃ z, z = rowA N fun _ => I 0 := ⟨_, rfl⟩
  rw [← hz] at hmk
  have hzl : z.length = N := by rw [hz, rowA_len]
  refine Exists.intro z (Exists.intro N (And.intro hmk ?_)); cbv
  rw [hT]
  obtain ⟨RC, hRC⟩ : ∃ f : Nat → List AV, f = fun k => repC N k x := ⟨_, rfl⟩
  refine AGo_act (r := I 1) (H' := [.own 0 (RC 1)]) rfl ?_ ?_
  · have := cpy_act (e := ⟨[(32, .vs 1 [I x]), (31, .ms 1 0 0 0 N)], []⟩) (H := [.own 0 z]) (sz := 1) (d := .l 31) (s := .l 32) (xs := [I x]) (n := 1) (cs2 := RC 1) (H2 := [.own 0 (RC 1)]) rfl rfl rfl rfl (by omega) (by
      rw [hRC, hz]; dsimp only
      rw [repC_eq h1, show min 1 N * 1 = 1 by omega]
      have : (rowA N fun _ => I 0) = List.replicate N (I 0) := by
        have := repC_eq (N := N) (k := 0) (x := x) (Nat.zero_le _)
        simpa [repC] using this
      rw [this]; simp) rfl
    rw [show min 1 N = 1 by omega] at this
    exact this
  refine SGo_run hA ⟨[0], [], [], []⟩ .nil .nil 200 fun T TD hT hTD => ?_
  cbv
  rw [hT]
  refine AGo_whileE (σ := Nat) [7] (fun k => N - k) (fun k => 1 ≤ k ∧ k ≤ N) (fun k => [(8, I (iLen k))]) (fun k => [.own 0 (RC k)]) 1 ⟨Nat.le_refl _, h1⟩ ⟨rfl, trivial⟩ (.inl rfl) fun k hP Bk hB => ?_
  obtain ⟨hk1, hk2⟩ := hP
  obtain ⟨ik, hik⟩ : ∃ q, q = iLen k := ⟨_, rfl⟩
  rw [← hik]
  obtain ⟨cs, hcs⟩ : ∃ q, q = RC k := ⟨_, rfl⟩
  rw [← hcs]
  have hlt2 : A.lt ik (A.len N) = decide (k < N) := by subst hA; simp only [std, iLt]; rw [decide_eq_decide, hik]; unfold iLen; omega
  refine SGo_run hA ⟨[0], [0], [], []⟩ .nil .nil 200 fun T TD hT hTD => ?_
  cbv
  split <;> cbv
  · rename_i hz2
    have hkN : k < N := by have hz := hlt2.symm.trans hz2; simpa using hz
    obtain ⟨r, hr⟩ : ∃ r, r = N - k := ⟨_, rfl⟩
    have hs1 : A.slm 1 1 0 N (some ik) none k r := by
      rw [hr]
      subst hA; refine ⟨rfl, k, N, ?_, rfl, by omega, Nat.le_refl _, by omega, rfl⟩
      rw [hik]; simp only [bdI]; rw [if_pos (by unfold iLen; omega)]; rfl
    have hs2 : A.slm 1 1 0 N none (some ik) 0 k := by
      subst hA; refine ⟨rfl, 0, k, rfl, ?_, by omega, by omega, by omega, rfl⟩
      rw [hik]; simp only [bdI]; rw [if_pos (by unfold iLen; omega)]; rfl
    repeat refine And.intro (hsg _) ?_
    refine Exists.intro k (Exists.intro r (And.intro hs1 ?_)); cbv
    repeat refine And.intro (hsg _) ?_
    refine Exists.intro 0 (Exists.intro k (And.intro hs2 ?_)); cbv
    rw [hTD]
    obtain ⟨k2, hk3⟩ : ∃ k2, k2 = k + min k r := ⟨_, rfl⟩
    have hcl : cs.length = N := by rw [hcs, hRC]; exact repC_len
    refine DGo_act (r := I (iLen (min k r))) (H' := [.own 0 (RC k2)]) rfl rfl ?_ (by subst hA; simp [std, Keep, SubH, ResK]) ?_
    · refine cpy_act (sz := 1) (id := 0) (g := 0) (off := k) (len := r) (n := k) (cs := cs) (xs := cs.take k) rfl ?_ rfl rfl (by omega) ?_ rfl
      · show cellsOfSl [.own 0 cs] 1 (.ms 1 0 0 0 k) = _
        simp only [cellsOfSl, List.getElem?_cons_zero]
        rw [if_pos (by simp; omega)]; simp
      · rw [hcs, hRC]; dsimp only
        rw [hk3]; exact repC_cpy (by omega) hr
    have hn2 : A.add .i64 ik (iLen (min k r)) = iLen k2 := by
      subst hA; rw [hik, hk3]; show iAdd .i64 _ _ = _
      rw [iAdd_id (by unfold iLen; omega) (by unfold iLen; omega)]; unfold iLen; omega
    obtain ⟨ic, hic⟩ : ∃ q, q = iLen (min k r) := ⟨_, rfl⟩
    rw [← hic] at hn2 ⊢
    obtain ⟨cs2, hcs2⟩ : ∃ q, q = RC k2 := ⟨_, rfl⟩
    rw [← hcs2]
    refine SD_run hA ⟨[], [], [], []⟩ .nil .nil 200 200 ?_ fun T TD hT hTD => ?_
    · intro D' hD'; cases hD'; simp [SubH, KcOk]
    cbv
    refine hB k2 _ _ (by omega) ⟨by omega, by omega⟩ ⟨congrArg I hn2, trivial⟩ ⟨rfl, trivial⟩ (.inl (by rw [hcs2]))
  · rename_i hz2
    have hkN : ¬ k < N := by have hz := hlt2.symm.trans hz2; simpa using hz
    refine And.intro (hsg _) (hRR _ _ ?_)
    cbv
    have hcs : cs = repC N N x := by rw [hcs, hRC, show k = N by omega]
    rw [hcs]
    exact h
def eRepeat : List AV → AHeap → Option PT
  | [.vs 1 [.lit (.int .i64 x)], .lit (.int .i64 n)], H => some fun K => ∃ N : Nat, n = iLen N ∧ 1 ≤ N ∧ N ≤ 1000 ∧ ∀ cs, cs = repC N N x → K (.ms 1 H.length 0 0 N) (H ++ [.own 0 cs])
  | _, _ => none
theorem eRepeat_ok : ∀ args H pt, eRepeat args H = some pt → ∀ (Kk : AV → AHeap → Prop), pt Kk → ACalls Tryd.prog 61 args H Kk := by
  intro args H pt h Kk hk
  unfold eRepeat at h
  split at h
  · rename_i x n
    cases h
    obtain ⟨N, rfl, h1, h2, hk⟩ := hk
    have hk := hk _ rfl
    have hcn : AV.nidL (repC N N x) = true := nidL_rowA (fun _ => rfl)
    have h3 := p61 N x h2 h1 (Kk := fun r H' => r = .ms 1 0 0 0 N ∧ H' = [.own 0 (repC N N x)]) ⟨rfl, rfl⟩
    have h4 := ACalls.frame (H := H) [] h3 List.nodup_nil rfl (AV.ltL_nid (by rfl)) (by simp [ltH]) (fun k X hk => by simp at hk)
    rw [AV.renL_nid (by rfl)] at h4
    refine h4.mono fun r H' hx => ?_
    obtain ⟨r0, H1, ⟨rfl, rfl⟩, _, rfl, rfl⟩ := hx
    have hre : ∀ m0, AV.renL m0 (repC N N x) = repC N N x := fun m0 => AV.renL_nid hcn
    simpa [merge, updL, more, AV.ren, AV.renL, at_, AObj.ren, List.range', hre] using hk
  · cases h
end Go.Sas
