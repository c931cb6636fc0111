/-
Probe: marks are put in the order of their hours: contracts.
Probe: the mends of a mark: contract.
Conditions: none.
-/
import Derived.Test.YtpokfjhlilbpfaaDoorPJd
import Derived.Test.YtpokfjhlilbpfaaDoorXEd
import Derived.Test.YtpokfjhlilbpfaaDoorPCd
set_option linter.unusedVariables false
set_option linter.unusedSimpArgs false
namespace Go.Sas
open Go.Proofs
set_option maxRecDepth 100000
theorem ite_bM {c : Prop} {i : Decidable c} {p : Prop} (h : p) : @ite _ c i p p := by split <;> exact h
theorem p83 (n : Int) (H : AHeap) {Kk : AV → AHeap → Prop} (h : Kk (B false) H) : ACalls Tryd.prog 83 [I n] H Kk := by
  refine (fun q => pureC (by rfl) (by rfl) q H h) ?_
  clear h
  intro Kk h
  obtain ⟨A, hA⟩ : ∃ A, A = std := ⟨_, rfl⟩
  have hnx : A.ne n n = false := by subst hA; simp [std, iNe]
  refine go83 rfl (SGo_run hA ⟨[], [], [], []⟩ .nil .nil 200 fun T TD hT hTD => ?_)
  cbv
  exact leaf h (congrArg B hnx.symm) rfl
def eIsNaN : List AV → Option ((AV → Prop) → Prop)
  | [.lit (.int .i64 _)] => some fun K => K (B false)
  | _ => none
theorem eIsNaN_ok : ∀ args pt, eIsNaN args = some pt → ∀ (H : AHeap) (Kk : AV → AHeap → Prop), pt (fun r => Kk r H) → ACalls Tryd.prog 83 args H Kk := by
  intro args pt h H Kk hk
  unfold eIsNaN at h
  split at h
  · cases h; exact p83 _ H hk
  · cases h
def cmpI (a b : Int) : Int := if a < b then -1 else if b < a then 1 else 0
theorem p77 (x y : Int) (H : AHeap) {Kk : AV → AHeap → Prop} (h : Kk (I (cmpI x y)) H) : ACalls Tryd.prog 77 [I x, I y] H Kk := by
  refine (fun q => pureC (by rfl) (by rfl) q H h) ?_
  clear h
  intro Kk h
  obtain ⟨W, hW⟩ : ∃ W, W = cmpI x y := ⟨_, rfl⟩
  rw [← hW] at h
  unfold cmpI at hW
  obtain ⟨A, hA⟩ : ∃ A, A = std := ⟨_, rfl⟩
  have hl1 : A.lt x y = decide (x < y) := by subst hA; rfl
  have hl2 : A.lt y x = decide (y < x) := by subst hA; rfl
  refine go77 rfl (SGo_run hA ⟨[], [], (83, eIsNaN) :: [], []⟩ (.cons eIsNaN_ok .nil) .nil 200 fun T TD hT hTD => ?_)
  cbv
  split <;> cbv
  · rename_i hz
    have hz := hl1.symm.trans hz
    exact leaf h (congrArg I (by rw [hW, if_pos (by simpa using hz)])) rfl
  rename_i hz
  have hz := hl1.symm.trans hz
  split <;> cbv
  · rename_i hz2
    have hz2 := hl2.symm.trans hz2
    exact leaf h (congrArg I (by rw [hW, if_neg (by simpa using hz), if_pos (by simpa using hz2)])) rfl
  · rename_i hz2
    have hz2 := hl2.symm.trans hz2
    exact leaf h (congrArg I (by rw [hW, if_neg (by simpa using hz), if_neg (by simpa using hz2)])) rfl
def eCmp : List AV → Option ((AV → Prop) → Prop)
  | [.lit (.int .i64 x), .lit (.int .i64 y)] => some fun K => ∀ q, q = cmpI x y → K (I q)
  | _ => none
theorem eCmp_ok : ∀ args pt, eCmp args = some pt → ∀ (H : AHeap) (Kk : AV → AHeap → Prop), pt (fun r => Kk r H) → ACalls Tryd.prog 77 args H Kk := by
  intro args pt h H Kk hk
  unfold eCmp at h
  split at h
  · cases h; exact p77 _ _ H (hk _ rfl)
  · cases h
theorem p76 (x y : Mrk) (H : AHeap) {Kk : AV → AHeap → Prop} (h : Kk (I (cmpI x.h y.h)) H) : ACalls Tryd.prog 76 [mkV x, mkV y] H Kk := by
  obtain ⟨xk, xf, xt, xh, xs⟩ := x
  obtain ⟨yk, yf, yt, yh, ys⟩ := y
  dsimp only at h
  refine (fun q => pureC (by rfl) (by rfl) q H h) ?_
  clear h
  intro Kk h
  obtain ⟨W, hW⟩ : ∃ W, W = cmpI xh yh := ⟨_, rfl⟩
  rw [← hW] at h
  obtain ⟨A, hA⟩ : ∃ A, A = std := ⟨_, rfl⟩
  refine go76 rfl (SGo_run hA ⟨[], [], (77, eCmp) :: [], []⟩ (.cons eCmp_ok .nil) .nil 200 fun T TD hT hTD => ?_)
  cbv
  intro q hq; cbv
  rw [hq.trans hW.symm]
  exact h
def eCmpM : List AV → Option ((AV → Prop) → Prop)
  | [.agg [.lit (.int .i64 k), .lit (.int .i64 f), .lit (.int .i64 t), .lit (.int .i64 h), .lit (.int .i64 s)], .agg [.lit (.int .i64 k'), .lit (.int .i64 f'), .lit (.int .i64 t'), .lit (.int .i64 h'), .lit (.int .i64 s')]] => some fun K => ∀ q, q = cmpI h h' → K (I q)
  | _ => none
theorem eCmpM_ok : ∀ args pt, eCmpM args = some pt → ∀ (H : AHeap) (Kk : AV → AHeap → Prop), pt (fun r => Kk r H) → ACalls Tryd.prog 76 args H Kk := by
  intro args pt h H Kk hk
  unfold eCmpM at h
  split at h
  · rename_i k f t h0 s k' f' t' h0' s'
    cases h
    exact p76 ⟨k, f, t, h0, s⟩ ⟨k', f', t', h0', s'⟩ H (hk _ rfl)
  · cases h
theorem ixm5M {len j o : Nat} {i : Int} (hi : i = iLen j) (h : j < len) (ho : o = j * 5) : ixmS 5 5 0 len i o := by
  subst hi ho; unfold ixmS iLen; refine ⟨rfl, by omega, by omega, by omega⟩
set_option maxHeartbeats 4000000 in
/-- marks are put in their places -/
theorem p89 (g : Nat) (l : List Mrk) (hl : l.length ≤ 1000) (Kk : AV → AHeap → Prop) (h : Kk (.tup []) [.own g ((sortV keyM l).flatMap mkC)]) :
    ACalls Tryd.prog 89 [.ms 5 0 g 0 l.length, I 0, I (iLen l.length), .fn 76 []] [.own g (l.flatMap mkC)] Kk := by
  obtain ⟨n, hn⟩ : ∃ n, n = l.length := ⟨_, rfl⟩
  obtain ⟨iN, hiN⟩ : ∃ i : Int, i = iLen n := ⟨_, rfl⟩
  obtain ⟨lc, hlc⟩ : ∃ r, r = l.flatMap mkC := ⟨_, rfl⟩
  rw [← hn, ← hiN, ← hlc]
  rw [← hn] at hl
  obtain ⟨A, hA⟩ : ∃ A, A = std := ⟨_, rfl⟩
  have hsg : ∀ g, A.sg g g := by subst hA; exact fun _ => rfl
  have hll : ∀ x y, A.lt x y = decide (x < y) := by subst hA; intro x y; rfl
  have h01 : A.add .i64 0 1 = iLen 1 := by subst hA; rfl
  refine go89 rfl (SGo_run hA ⟨[0], [], [], []⟩ .nil .nil 200 fun T TD hT hTD => ?_)
  cbv
  rw [hT]
  obtain ⟨d0, hd0⟩ : ∃ d : Mrk, d = mk0 := ⟨_, rfl⟩
  have hst : ∀ j, j ≤ n → (sortV keyM (l.take j) ++ l.drop j).length = n := fun j hj => by rw [List.length_append, sortV_len]; simp; omega
  have hs1 : sortV keyM (l.take 1) ++ l.drop 1 = l := by
    cases l with
    | nil => rfl
    | cons x l => simp [sortV, insV]
  refine AGo_upE [0, 1, 2, 3] (n - 1) (fun _ (_ : Unit) => True) (fun j _ _ => [(8, I (iLen (j + 1)))]) (fun j _ => [.own g ((sortV keyM (l.take (j + 1)) ++ l.drop (j + 1)).flatMap mkC)]) () trivial ⟨congrArg I h01, trivial⟩ (.inl (by rw [hs1, hlc])) fun j _ i hi hj _ Bk hB => ?_
  clear hT hTD T TD
  obtain ⟨ij, hij⟩ : ∃ q, q = iLen (j + 1) := ⟨_, rfl⟩
  rw [← hij]
  have hlt : A.lt ij iN = decide (j < n - 1) := by rw [hll, hij, hiN]; unfold iLen; apply decide_eq_decide.2; omega
  have hadd : j + 1 < n → A.add .i64 ij 1 = iLen (j + 1 + 1) := fun hj => by subst hA; exact add_one hij (N := n) hj (by omega)
  obtain ⟨l1, hl1⟩ : ∃ r, r = sortV keyM (l.take (j + 1)) ++ l.drop (j + 1) := ⟨_, rfl⟩
  obtain ⟨c1, hc1⟩ : ∃ r, r = l1.flatMap mkC := ⟨_, rfl⟩
  rw [← hl1, ← hc1]
  refine SGo_run hA ⟨[0], [], [], []⟩ .nil .nil 200 fun T TD hT hTD => ?_
  cbv
  split <;> cbv
  · rename_i hk0
    have hk1 : j < (n - 1) := by have hz := hlt.symm.trans hk0; simpa using hz
    clear hk0
    have hstep := sort_step (key := keyM) (d := d0) (l := l) (i := j + 1) (by omega)
    rw [← hl1] at hstep
    have hl1n : l1.length = n := by rw [hl1]; exact hst _ (by omega)
    rw [hT]
    refine AGo_whileE [0, 1, 2, 3, 8] (fun (s : Nat × List Mrk) => s.1) (fun s => s.1 ≤ j + 1 ∧ s.2.length = n ∧ bubV keyM d0 s.2 s.1 = sortV keyM (l.take (j + 1 + 1)) ++ l.drop (j + 1 + 1)) (fun s => [(9, I (iLen s.1))]) (fun s => [.own g (s.2.flatMap mkC)]) (j + 1, l1) ⟨Nat.le_refl _, hl1n, hstep⟩ ⟨congrArg I hij, trivial⟩ (.inl (by rw [hc1])) fun s hP Bk2 hB2 => ?_
    clear hT hTD T TD
    obtain ⟨m, l2⟩ := s
    obtain ⟨hP1, hP2, hP4⟩ := hP
    dsimp only at hP1 hP2 hP4 hB2 ⊢
    obtain ⟨im, him⟩ : ∃ q, q = iLen m := ⟨_, rfl⟩
    obtain ⟨c2, hc2⟩ : ∃ r, r = l2.flatMap mkC := ⟨_, rfl⟩
    rw [← him, ← hc2]
    have hz0 := hll 0 im
    refine SGo_run hA ⟨[0], [2000000], (76, eCmpM) :: [], []⟩ (.cons eCmpM_ok .nil) .nil 200 fun T TD hT hTD => ?_
    cbv
    split <;> cbv
    · rename_i hz
      have hz : 0 < im := by have hz := hz0.symm.trans hz; simpa using hz
      obtain ⟨q, hq⟩ : ∃ q, m = q + 1 := ⟨m - 1, by unfold iLen at him; omega⟩
      subst hq
      obtain ⟨⟨xk, xf, xt, xh, xs⟩, hx⟩ : ∃ x, l2[q + 1]? = some x := ⟨_, List.getElem?_eq_getElem (by omega)⟩
      obtain ⟨⟨yk, yf, yt, yh, ys⟩, hy⟩ : ∃ x, l2[q]? = some x := ⟨_, List.getElem?_eq_getElem (by omega)⟩
      have hgx : l2.getD (q + 1) d0 = ⟨xk, xf, xt, xh, xs⟩ := by rw [List.getD_eq_getElem?_getD, hx]; rfl
      have hgy : l2.getD q d0 = ⟨yk, yf, yt, yh, ys⟩ := by rw [List.getD_eq_getElem?_getD, hy]; rfl
      simp only [bubV, hgx, hgy] at hP4
      obtain ⟨o1, ho1⟩ : ∃ o, o = (q + 1) * 5 := ⟨_, rfl⟩
      obtain ⟨o2, ho2⟩ : ∃ o, o = q * 5 := ⟨_, rfl⟩
      have hsm : A.sub .i64 im 1 = iLen q := by subst hA; rw [him]; show iSub .i64 (iLen (q + 1)) 1 = _; unfold iLen; rw [iSub_id (by omega) (by omega)]; omega
      have hx1 : A.ixm 5 5 0 n im o1 := by subst hA; exact ixm5M him (by omega) ho1
      have hx2 : A.ixm 5 5 0 n (A.sub .i64 im 1) o2 := by rw [hsm]; subst hA; exact ixm5M rfl (by omega) ho2
      have hg1 : A.get (some 5) c2 o1 (.agg [I xk, I xf, I xt, I xh, I xs]) := by subst hA; rw [hc2]; exact flxGet (g := mkC) (fun _ => rfl) hx ho1
      have hg2 : A.get (some 5) c2 o2 (.agg [I yk, I yf, I yt, I yh, I ys]) := by subst hA; rw [hc2]; exact flxGet (g := mkC) (fun _ => rfl) hy ho2
      obtain ⟨c3, hc3⟩ : ∃ r, r = (l2.set (q + 1) ⟨yk, yf, yt, yh, ys⟩).flatMap mkC := ⟨_, rfl⟩
      obtain ⟨c4, hc4⟩ : ∃ r, r = ((l2.set (q + 1) ⟨yk, yf, yt, yh, ys⟩).set q ⟨xk, xf, xt, xh, xs⟩).flatMap mkC := ⟨_, rfl⟩
      have hu1 : A.upd 5 c2 o1 [I yk, I yf, I yt, I yh, I ys] c3 := by subst hA; rw [hc2, hc3]; exact flxSet (g := mkC) (fun _ => rfl) hx ho1
      have hu2 : A.upd 5 c3 o2 [I xk, I xf, I xt, I xh, I xs] c4 := by subst hA; rw [hc3, hc4]; exact flxSet (g := mkC) (fun _ => rfl) (by rw [List.getElem?_set_ne (by omega)]; exact hy) ho2
      refine And.intro (hsg _) (Exists.intro _ (And.intro hx1 ?_)); cbv
      refine And.intro (hsg _) (Exists.intro _ (And.intro hg1 ?_)); cbv
      refine And.intro (hsg _) (Exists.intro _ (And.intro hx2 ?_)); cbv
      refine And.intro (hsg _) (Exists.intro _ (And.intro hg2 ?_)); cbv
      intro cq hcq
      have hl0 := hll cq 0
      have hcmp : cq < 0 ↔ keyM ⟨yk, yf, yt, yh, ys⟩ < keyM ⟨xk, xf, xt, xh, xs⟩ := by
        rw [hcq]; unfold cmpI
        show _ ↔ -yh < -xh
        split
        · rename_i h9; exact ⟨fun _ => by omega, fun _ => by decide⟩
        · rename_i h9
          split
          · exact ⟨fun h8 => absurd h8 (by decide), fun h8 => by omega⟩
          · exact ⟨fun h8 => absurd h8 (by decide), fun h8 => by omega⟩
      clear hcq
      cbv
      split <;> cbv
      · rename_i hz9
        have hz9 := hl0.symm.trans hz9
        rw [decide_eq_true_eq, hcmp] at hz9
        rw [if_pos hz9] at hP4
        refine And.intro (hsg _) (Exists.intro _ (And.intro hx2 ?_)); cbv
        refine And.intro (hsg _) (Exists.intro _ (And.intro hg2 ?_)); cbv
        refine And.intro (hsg _) (Exists.intro _ (And.intro hx1 ?_)); cbv
        refine And.intro (hsg _) (Exists.intro _ (And.intro hg1 ?_)); cbv
        refine And.intro (hsg _) (Exists.intro _ (And.intro hx1 ?_)); cbv
        refine And.intro (hsg _) (Exists.intro _ (And.intro hu1 ?_)); cbv
        refine And.intro (by subst hA; exact .inr ⟨⟨rfl, trivial⟩, trivial, .inl rfl⟩) ?_; cbv
        refine And.intro (hsg _) (Exists.intro _ (And.intro hx2 ?_)); cbv
        refine And.intro (hsg _) (Exists.intro _ (And.intro hu2 ?_)); cbv
        exact hB2 (q, (l2.set (q + 1) ⟨yk, yf, yt, yh, ys⟩).set q ⟨xk, xf, xt, xh, xs⟩) _ _ (by dsimp only; omega) ⟨by dsimp only; omega, by simp [hP2], hP4⟩ ⟨congrArg I hsm, trivial⟩ ⟨rfl, rfl, rfl, rfl, rfl, trivial⟩ (.inl (by rw [hc4]))
      · rename_i hz9
        have hz9 := hl0.symm.trans hz9
        rw [decide_eq_false_iff_not, hcmp] at hz9
        rw [if_neg hz9] at hP4
        exact hB () _ _ hk1 trivial ⟨congrArg I (hadd (by omega)), trivial⟩ ⟨rfl, rfl, rfl, rfl, trivial⟩ (.inl (by rw [hc2, hP4]))
    · rename_i hz
      have hz : ¬ 0 < im := by have hz := hz0.symm.trans hz; simpa using hz
      have hm0 : m = 0 := by unfold iLen at him; omega
      subst hm0
      have hend : l2 = sortV keyM (l.take (j + 1 + 1)) ++ l.drop (j + 1 + 1) := hP4
      exact hB () _ _ hk1 trivial ⟨congrArg I (hadd (by omega)), trivial⟩ ⟨rfl, rfl, rfl, rfl, trivial⟩ (.inl (by rw [hc2, hend]))
  · rename_i hk0
    have hk1 : ¬ j < (n - 1) := by have hz := hlt.symm.trans hk0; simpa using hz
    clear hk0
    have hend : c1 = (sortV keyM l).flatMap mkC := by
      rw [hc1, hl1, List.take_of_length_le (by omega), List.drop_eq_nil_of_le (by omega), List.append_nil]
    rw [← hend] at h
    exact ite_bM h
def eIns : List AV → AHeap → Option PT
  | [.ms 5 0 g 0 n, .lit (.int .i64 a), .lit (.int .i64 i), .fn fid []], H => some fun K => ∃ l : List Mrk, (H = [.own g (l.flatMap mkC)] ∧ n = l.length ∧ a = 0 ∧ i = iLen n ∧ fid = 76 ∧ n ≤ 1000) ∧ ∀ cs, cs = (sortV keyM l).flatMap mkC → K (.tup []) [.own g cs]
  | _, _ => none
theorem eIns_ok : ∀ args H pt, eIns args H = some pt → ∀ (Kk : AV → AHeap → Prop), pt Kk → ACalls Tryd.prog 89 args H Kk := by
  intro args H pt h Kk hk
  unfold eIns at h
  split at h
  · cases h
    obtain ⟨l, ⟨rfl, rfl, rfl, rfl, rfl, h1⟩, h2⟩ := hk
    exact p89 _ _ h1 Kk (h2 _ rfl)
  · cases h
theorem p82 (g : Nat) (l : List Mrk) (hl : l.length ≤ 19) (Kk : AV → AHeap → Prop) (h : Kk (.tup []) [.own g ((sortV keyM l).flatMap mkC)]) :
    ACalls Tryd.prog 82 [.ms 5 0 g 0 l.length, I (iLen l.length), .fn 76 []] [.own g (l.flatMap mkC)] Kk := by
  obtain ⟨n, hn⟩ : ∃ n, n = l.length := ⟨_, rfl⟩
  obtain ⟨iN, hiN⟩ : ∃ i : Int, i = iLen n := ⟨_, rfl⟩
  obtain ⟨lc, hlc⟩ : ∃ r, r = l.flatMap mkC := ⟨_, rfl⟩
  rw [← hn, ← hiN, ← hlc]
  rw [← hn] at hl
  obtain ⟨A, hA⟩ : ∃ A, A = std := ⟨_, rfl⟩
  have hle : A.le 20 iN = false := by subst hA; simp only [std, iLe, decide_eq_false_iff_not]; rw [hiN]; unfold iLen; omega
  have hlt : A.lt 20 iN = false := by subst hA; simp only [std, iLt, decide_eq_false_iff_not]; rw [hiN]; unfold iLen; omega
  refine go82 rfl (SGo_run hA ⟨[], [], [], []⟩ .nil .nil 200 fun T TD hT hTD => ?_)
  cbv
  rw [hT]
  refine AGo_whileE (σ := Unit) [0, 1, 2] (fun _ => 0) (fun _ => True) (fun _ => [(6, I 20), (7, I 0), (8, I 20)]) (fun _ => [.own g lc]) () trivial ⟨rfl, rfl, rfl, trivial⟩ (.inl rfl) fun _ _ Bk hB => ?_
  refine SGo_run hA ⟨[0], [], [], (89, eIns) :: []⟩ .nil (.cons eIns_ok .nil) 200 fun T TD hT hTD => ?_
  cbv
  split <;> cbv
  · rename_i hz; exact Bool.noConfusion (hz.symm.trans hle)
  refine Exists.intro l (And.intro ⟨by rw [hlc], hn, rfl, hiN, rfl, by omega⟩ ?_)
  intro cs hcs; cbv
  rw [hT]
  refine AGo_whileE (σ := Unit) [0, 1, 2] (fun _ => 0) (fun _ => True) (fun _ => [(6, I 20)]) (fun _ => [.own g cs]) () trivial ⟨rfl, trivial⟩ (.inl rfl) fun _ _ Bk2 hB2 => ?_
  refine SGo_run hA ⟨[0], [], [], []⟩ .nil .nil 200 fun T TD hT hTD => ?_
  cbv
  split <;> cbv
  · rename_i hz; exact Bool.noConfusion (hz.symm.trans hlt)
  rw [hcs]
  exact ite_bM h
def eStab : List AV → AHeap → Option PT
  | [.ms 5 0 g 0 n, .lit (.int .i64 i), .fn fid []], H => some fun K => ∃ l : List Mrk, (H = [.own g (l.flatMap mkC)] ∧ n = l.length ∧ i = iLen n ∧ fid = 76 ∧ n ≤ 19) ∧ ∀ cs, cs = (sortV keyM l).flatMap mkC → K (.tup []) [.own g cs]
  | _, _ => none
theorem eStab_ok : ∀ args H pt, eStab args H = some pt → ∀ (Kk : AV → AHeap → Prop), pt Kk → ACalls Tryd.prog 82 args H Kk := by
  intro args H pt h Kk hk
  unfold eStab at h
  split at h
  · cases h
    obtain ⟨l, ⟨rfl, rfl, rfl, rfl, h1⟩, h2⟩ := hk
    exact p82 _ _ h1 Kk (h2 _ rfl)
  · cases h
theorem p75 (g : Nat) (l : List Mrk) (hl : l.length ≤ 19) (Kk : AV → AHeap → Prop) (h : Kk (.tup []) [.own g ((sortV keyM l).flatMap mkC)]) :
    ACalls Tryd.prog 75 [.ms 5 0 g 0 l.length, .fn 76 []] [.own g (l.flatMap mkC)] Kk := by
  obtain ⟨n, hn⟩ : ∃ n, n = l.length := ⟨_, rfl⟩
  obtain ⟨lc, hlc⟩ : ∃ r, r = l.flatMap mkC := ⟨_, rfl⟩
  rw [← hn, ← hlc]
  rw [← hn] at hl
  obtain ⟨A, hA⟩ : ∃ A, A = std := ⟨_, rfl⟩
  have hsg : ∀ g, A.sg g g := by subst hA; exact fun _ => rfl
  have hln : A.len n = iLen n := by subst hA; rfl
  refine go75 rfl (SGo_run hA ⟨[0], [], [], (82, eStab) :: []⟩ .nil (.cons eStab_ok .nil) 200 fun T TD hT hTD => ?_)
  cbv
  refine And.intro (hsg _) ?_; cbv
  refine Exists.intro l (And.intro ⟨by rw [hlc], hn, hln, rfl, by omega⟩ ?_)
  intro cs hcs; cbv
  rw [hcs]
  exact ite_bM h
theorem mkC_nid (l : List Mrk) : AV.nidL (l.flatMap mkC) = true := nidL_flat (fun _ => rfl) l
def eSortM : List AV → AHeap → Option PT
  | [.ms 5 id g 0 n, .fn fid []], H => match H[id]? with
    | some (.own g' cs) => some fun K => ∃ l : List Mrk, (g' = g ∧ cs = l.flatMap mkC ∧ n = l.length ∧ fid = 76 ∧ n ≤ 19) ∧ ∀ cs', cs' = (sortV keyM l).flatMap mkC → K (.tup []) (H.set id (.own g cs'))
    | _ => none
  | _, _ => none
theorem eSortM_ok : ∀ args H pt, eSortM args H = some pt → ∀ (Kk : AV → AHeap → Prop), pt Kk → ACalls Tryd.prog 75 args H Kk := by
  intro args H pt h Kk hk
  unfold eSortM at h
  split at h
  · rename_i id g n fid
    split at h
    · rename_i g' cs hX
      cases h
      obtain ⟨l, ⟨rfl, rfl, rfl, rfl, h1⟩, h2⟩ := hk
      have g1 := p75 g' l h1 (fun r H' => r = .tup [] ∧ H' = [.own g' ((sortV keyM l).flatMap mkC)]) ⟨rfl, rfl⟩
      have g2 := ACalls.frame (H := H) [id] g1 (by simp) (by simp) (by simp [AV.ltL, AV.lt]) (by simp [ltH, AObj.lt, AV.ltL_nid (mkC_nid l)]) (fun k X hk => by
        cases k with
        | zero => simp at hk; subst hk; simpa [at_, AObj.ren, AV.renL_nid (mkC_nid l)] using hX
        | succ k => simp at hk)
      have e : AV.renL [id] [.ms 5 0 g' 0 l.length, .fn 76 []] = [.ms 5 id g' 0 l.length, .fn 76 []] := by simp [AV.renL, AV.ren, at_]
      rw [e] at g2
      refine g2.mono fun r H' hx => ?_
      obtain ⟨r0, H1, ⟨rfl, rfl⟩, _, rfl, rfl⟩ := hx
      have := h2 _ rfl
      simpa [merge, updL, AObj.ren, AV.ren, AV.renL, AV.renL_nid (mkC_nid _)] using this
    · cases h
  · cases h
end Go.Sas
namespace Go.Sas
open Go.Proofs
set_option maxRecDepth 100000
theorem p69 (m : List Mrk) (k : Nat) (h0 : Int) (hm : m.length ≤ 19) (hk : k < m.length) (H : AHeap) {Kk : AV → AHeap → Prop} (h : Kk (.vs 5 ((mendS m k h0).map mkV)) H) : ACalls Tryd.prog 69 [.vs 5 (m.map mkV), I (iLen k), I h0] H Kk := by
  refine (fun q => pureF (by simp [AV.nidL, AV.nid, nidL_map (g := mkV) (fun _ => rfl) m]) (by simp [AV.nid]) q H h) ?_
  clear h
  intro Kk h
  obtain ⟨xs, hxs⟩ : ∃ xs, xs = m.map mkV := ⟨_, rfl⟩
  obtain ⟨ik, hik⟩ : ∃ i, i = iLen k := ⟨_, rfl⟩
  rw [← hxs, ← hik]
  obtain ⟨M, hM⟩ : ∃ M, M = m.length := ⟨_, rfl⟩
  obtain ⟨mk, hmk⟩ : ∃ x, x = m.getD k mk0 := ⟨_, rfl⟩
  have hmk' : m[k]? = some mk := by rw [hmk, List.getD_eq_getElem?_getD, List.getElem?_eq_getElem hk]; rfl
  obtain ⟨F, hF⟩ : ∃ F, F = Frees 0 Kk := ⟨_, rfl⟩
  rw [← hF]
  obtain ⟨A, hA⟩ : ∃ A, A = std := ⟨_, rfl⟩
  have hne : ∀ x y, A.ne x y = decide (x ≠ y) := by subst hA; intro x y; simp only [std, iNe]; rw [Bool.eq_iff_iff]; simp
  have hee : ∀ x y, A.eq x y = decide (x = y) := by subst hA; intro x y; exact iEq_dec _ _
  have hll : ∀ x y, A.lt x y = decide (x < y) := by subst hA; intro x y; rfl
  have hle : ∀ x y, A.le x y = decide (x ≤ y) := by subst hA; intro x y; rfl
  have hnb : ∀ b, A.bnot b = !b := by subst hA; intro b; rfl
  have hbd : ∀ x y, A.band x y = (x && y) := by subst hA; intro x y; rfl
  have hsg : ∀ g, A.sg g g := by subst hA; exact fun _ => rfl
  have hvv : A.vlen xs = iLen M := by subst hA; rw [hxs, hM]; simp [std]
  obtain ⟨ML, hML⟩ : ∃ f : Nat → List Mrk, f = fun j => ((m.zipIdx.take j).filter fun p => isMend m k h0 p.2 p.1).map (·.1) := ⟨_, rfl⟩
  have hMLs : ∀ j x, m[j]? = some x → ML (j + 1) = ML j ++ (if isMend m k h0 j x = true then [x] else []) := fun j x hx => by
    rw [hML]; dsimp only
    have hz : m.zipIdx[j]? = some (x, j) := by rw [List.getElem?_zipIdx, hx]; simp
    obtain ⟨h8, he⟩ := List.getElem?_eq_some_iff.1 hz
    rw [List.take_succ_eq_append_getElem h8, he, List.filter_append, List.map_append]
    congr 1
    by_cases hq : isMend m k h0 j x = true <;> simp [hq]
  have hMLl : ∀ j, (ML j).length ≤ j := fun j => by
    rw [hML]; simp only [List.length_map]
    refine Nat.le_trans (List.length_filter_le _ _) ?_
    rw [List.length_take]; omega
  have hMLe : ML M = mendL m k h0 := by rw [hML]; unfold mendL; dsimp only; rw [List.take_of_length_le (by simp; omega)]
  refine go69 rfl (SGo_run hA ⟨[], [], [], []⟩ .nil .nil 200 fun T TD hT hTD => ?_)
  cbv
  rw [hT]
  refine AGo_nilms 7 5 rfl ?_
  refine AGo_upE [0, 1, 2, 10, 11] M (fun _ (_ : Unit) => True) (fun j _ i => [(7, .ms 5 0 (ML j).length 0 (ML j).length), (12, I i)]) (fun j _ => [.own (ML j).length ((ML j).flatMap mkC)]) () trivial ⟨by rw [hML]; rfl, rfl, trivial⟩ (.inl (by rw [hML]; rfl)) fun j _ i hi hj _ Bk hB => ?_
  have hlt : A.lt i (A.vlen xs) = decide (j < M) := by rw [hvv, hll, hi, decide_eq_decide]; unfold iLen; omega
  have hadd : ∀ N, j < N → N ≤ 9223372036854775807 → A.add .i64 i 1 = iLen (j + 1) := fun N hj hN => by subst hA; exact add_one hi hj hN
  obtain ⟨n, hn⟩ : ∃ n, n = (ML j).length := ⟨_, rfl⟩
  obtain ⟨cc, hcc⟩ : ∃ c, c = (ML j).flatMap mkC := ⟨_, rfl⟩
  rw [← hn, ← hcc]
  have hcl : cc.length = n * 5 := by rw [hcc, hn, len_flat (k := 5) (fun _ => rfl)]
  have hn19 : n ≤ 19 := by have := hMLl j; omega
  refine SGo_run hA ⟨[0], [1000], [], (75, eSortM) :: []⟩ .nil (.cons eSortM_ok .nil) 200 fun T TD hT hTD => ?_
  cbv
  split <;> cbv
  · rename_i hk0
    have hk1 : j < M := by have hz := hlt.symm.trans hk0; simpa using hz
    clear hk0
    obtain ⟨x, hx⟩ : ∃ x, m[j]? = some x := ⟨_, List.getElem?_eq_getElem (by omega)⟩
    have hs := hMLs j x hx
    obtain ⟨xk, xf, xt, xh, xp⟩ := x
    obtain ⟨yk, yf, yt, yh, yp⟩ := mk
    have hix : A.ix 5 5 xs i (mkC ⟨xk, xf, xt, xh, xp⟩) := by subst hA; exact ix_map hxs hi hx rfl
    have hiy : A.ix 5 5 xs ik (mkC ⟨yk, yf, yt, yh, yp⟩) := by subst hA; exact ix_map hxs hik hmk' rfl
    have hIM : isMend m k h0 j ⟨xk, xf, xt, xh, xp⟩ = (decide (xk = 4) && (decide (xh ≤ h0) && (decide (yh < xh) || (decide (xh = yh) && decide (k < j))))) := by
      unfold isMend; rw [← hmk]; rw [Bool.eq_iff_iff]; simp
    refine Exists.intro _ (And.intro hix ?_); cbv
    have hq1 : A.eq xk 4 = decide (xk = 4) := hee _ _
    have hq2 : A.le xh h0 = decide (xh ≤ h0) := hle _ _
    have hq3 : A.lt yh xh = decide (yh < xh) := hll _ _
    have hq4 : A.eq xh yh = decide (xh = yh) := hee _ _
    have hq5 : A.lt ik i = decide (k < j) := by rw [hll, hik, hi, decide_eq_decide]; unfold iLen; omega
    have hadj := hadd _ hk1 (by omega)
    have hcn : ∀ q (l : List Mrk), AV.ltL q (l.flatMap mkC) := fun q l => AV.ltL_nid (mkC_nid l)
    split <;> cbv
    · rename_i z1
      have z1 := hq1.symm.trans z1
      split <;> cbv
      · rename_i z2
        have z2 := hq2.symm.trans z2
        refine Exists.intro _ (And.intro hiy ?_); cbv
        split <;> cbv
        · rename_i z3
          have z3 := hq3.symm.trans z3
          have hs' : ML (j + 1) = ML j ++ [⟨xk, xf, xt, xh, xp⟩] := by rw [hs, if_pos (by rw [hIM, z1, z2, z3]; rfl)]
          obtain ⟨c1, hc1⟩ : ∃ x, x = cc ++ mkC ⟨xk, xf, xt, xh, xp⟩ := ⟨_, rfl⟩
          refine And.intro (hsg _) (Exists.intro c1 (Exists.intro (n + 1) (And.intro (by subst hA; rw [hc1]; exact app_one hcl rfl (by omega)) (And.intro rfl ?_)))); cbv
          have hfin : c1 = (ML (j + 1)).flatMap mkC := by rw [hc1, hs', hcc]; simp
          have hlen : (ML (j + 1)).length = n + 1 := by rw [hs']; simp [hn]
          exact hB () _ _ hk1 trivial (by rw [hlen]; exact ⟨rfl, congrArg I hadj, trivial⟩) ⟨rfl, rfl, rfl, rfl, rfl, trivial⟩ (.inr ⟨⟨_, by rw [hlen, ← hfin]; rfl⟩, by simp, by simp [ltG, AV.lt, AV.ltL, keepS, look, gset], by simp [ltH, AObj.lt, AV.lt, AV.ltL, hcn, -List.flatMap_append]⟩)
        · rename_i z3
          have z3 := hq3.symm.trans z3
          refine Exists.intro _ (And.intro hiy ?_); cbv
          split <;> cbv
          · rename_i z4
            have z4 := hq4.symm.trans z4
            split <;> cbv
            · rename_i z5
              have z5 := hq5.symm.trans z5
              have hs' : ML (j + 1) = ML j ++ [⟨xk, xf, xt, xh, xp⟩] := by rw [hs, if_pos (by rw [hIM, z1, z2, z3, z4, z5]; rfl)]
              obtain ⟨c1, hc1⟩ : ∃ x, x = cc ++ mkC ⟨xk, xf, xt, xh, xp⟩ := ⟨_, rfl⟩
              refine And.intro (hsg _) (Exists.intro c1 (Exists.intro (n + 1) (And.intro (by subst hA; rw [hc1]; exact app_one hcl rfl (by omega)) (And.intro rfl ?_)))); cbv
              have hfin : c1 = (ML (j + 1)).flatMap mkC := by rw [hc1, hs', hcc]; simp
              have hlen : (ML (j + 1)).length = n + 1 := by rw [hs']; simp [hn]
              exact hB () _ _ hk1 trivial (by rw [hlen]; exact ⟨rfl, congrArg I hadj, trivial⟩) ⟨rfl, rfl, rfl, rfl, rfl, trivial⟩ (.inr ⟨⟨_, by rw [hlen, ← hfin]; rfl⟩, by simp, by simp [ltG, AV.lt, AV.ltL, keepS, look, gset], by simp [ltH, AObj.lt, AV.lt, AV.ltL, hcn, -List.flatMap_append]⟩)
            · rename_i z5
              have z5 := hq5.symm.trans z5
              have hs' : ML (j + 1) = ML j := by rw [hs, if_neg (by rw [hIM, z1, z2, z3, z4, z5]; simp), List.append_nil]
              have hfin : cc = (ML (j + 1)).flatMap mkC := by rw [hs', hcc]
              have hlen : (ML (j + 1)).length = n := by rw [hs', hn]
              exact hB () _ _ hk1 trivial (by rw [hlen]; exact ⟨rfl, congrArg I hadj, trivial⟩) ⟨rfl, rfl, rfl, rfl, rfl, trivial⟩ (.inr ⟨⟨_, by rw [hlen, ← hfin]; rfl⟩, by simp, by simp [ltG, AV.lt, AV.ltL, keepS, look, gset], by simp [ltH, AObj.lt, AV.lt, AV.ltL, hcn, -List.flatMap_append]⟩)
          · rename_i z4
            have z4 := hq4.symm.trans z4
            have hs' : ML (j + 1) = ML j := by rw [hs, if_neg (by rw [hIM, z1, z2, z3, z4]; simp), List.append_nil]
            have hfin : cc = (ML (j + 1)).flatMap mkC := by rw [hs', hcc]
            have hlen : (ML (j + 1)).length = n := by rw [hs', hn]
            exact hB () _ _ hk1 trivial (by rw [hlen]; exact ⟨rfl, congrArg I hadj, trivial⟩) ⟨rfl, rfl, rfl, rfl, rfl, trivial⟩ (.inr ⟨⟨_, by rw [hlen, ← hfin]; rfl⟩, by simp, by simp [ltG, AV.lt, AV.ltL, keepS, look, gset], by simp [ltH, AObj.lt, AV.lt, AV.ltL, hcn, -List.flatMap_append]⟩)
      · rename_i z2
        have z2 := hq2.symm.trans z2
        have hs' : ML (j + 1) = ML j := by rw [hs, if_neg (by rw [hIM, z1, z2]; simp), List.append_nil]
        have hfin : cc = (ML (j + 1)).flatMap mkC := by rw [hs', hcc]
        have hlen : (ML (j + 1)).length = n := by rw [hs', hn]
        exact hB () _ _ hk1 trivial (by rw [hlen]; exact ⟨rfl, congrArg I hadj, trivial⟩) ⟨rfl, rfl, rfl, rfl, rfl, trivial⟩ (.inr ⟨⟨_, by rw [hlen, ← hfin]; rfl⟩, by simp, by simp [ltG, AV.lt, AV.ltL, keepS, look, gset], by simp [ltH, AObj.lt, AV.lt, AV.ltL, hcn, -List.flatMap_append]⟩)
    · rename_i z1
      have z1 := hq1.symm.trans z1
      have hs' : ML (j + 1) = ML j := by rw [hs, if_neg (by rw [hIM, z1]; simp), List.append_nil]
      have hfin : cc = (ML (j + 1)).flatMap mkC := by rw [hs', hcc]
      have hlen : (ML (j + 1)).length = n := by rw [hs', hn]
      exact hB () _ _ hk1 trivial (by rw [hlen]; exact ⟨rfl, congrArg I hadj, trivial⟩) ⟨rfl, rfl, rfl, rfl, rfl, trivial⟩ (.inr ⟨⟨_, by rw [hlen, ← hfin]; rfl⟩, by simp, by simp [ltG, AV.lt, AV.ltL, keepS, look, gset], by simp [ltH, AObj.lt, AV.lt, AV.ltL, hcn, -List.flatMap_append]⟩)
  · rename_i hk0
    have hk1 : ¬ j < M := by have hz := hlt.symm.trans hk0; simpa using hz
    clear hk0
    have hjM : j = M := by omega
    refine Exists.intro (ML j) (And.intro ⟨rfl, hcc, hn, rfl, hn19⟩ ?_)
    intro cs hcs; cbv
    have hmv : sortV keyM (ML j) = mendS m k h0 := by rw [hjM, hMLe]; rfl
    rw [hmv] at hcs
    obtain ⟨zs, hzs⟩ : ∃ z, z = (mendS m k h0).map mkV := ⟨_, rfl⟩
    have hE : Elems 5 zs cs := by rw [hcs, hzs]; exact Elems_map (f := mkV) (g := mkC) (sz := 5) (fun _ => rfl) (fun _ => rfl) (fun _ => rfl) _
    have hzl : zs.length = n := by rw [hzs, hn, List.length_map, ← hmv, sortV_len]
    rw [← hzs] at h
    rw [hF]
    refine Frees.frz 0 n 5 zs rfl hE ?_
    have e1 : AV.frz 0 n 5 zs (aTup [.ms 5 0 n 0 n]) = .vs 5 zs := frz_self hzl
    rw [e1]
    exact Frees.drop0 h (by simp [AV.nid])
def eMends : List AV → Option ((AV → Prop) → Prop)
  | [.vs 5 xs, .lit (.int .i64 i), .lit (.int .i64 h)] => some fun K => ∃ (m : List Mrk) (k : Nat), (xs = m.map mkV ∧ i = iLen k ∧ m.length ≤ 19 ∧ k < m.length) ∧ ∀ ys, ys = (mendS m k h).map mkV → K (.vs 5 ys)
  | _ => none
theorem eMends_ok : ∀ args pt, eMends args = some pt → ∀ (H : AHeap) (Kk : AV → AHeap → Prop), pt (fun r => Kk r H) → ACalls Tryd.prog 69 args H Kk := by
  intro args pt h H Kk hk
  unfold eMends at h
  split at h
  · cases h
    obtain ⟨m, k, ⟨rfl, rfl, h1, h2⟩, h3⟩ := hk
    exact p69 m k _ h1 h2 H (h3 _ rfl)
  · cases h
end Go.Sas
