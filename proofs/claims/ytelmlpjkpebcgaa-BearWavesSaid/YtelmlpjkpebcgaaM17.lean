/-
Small helps for loops and branches.
The first number of which something holds; what ice bears, the least thickness, the longest standing.
What ice needs, how long loads may stand: contracts.
Conditions: none.
-/
import Derived.Test.YtelmlpjkpebcgaaM16
import Derived.Test.YtelmlpjkpebcgaaM10
import Derived.Test.YtelmlpjkpebcgaaM4
set_option linter.unusedVariables false
set_option linter.unusedSimpArgs false
namespace Go.Sas
def ltGB (n : Nat) : List (Nat × AV) → Bool
  | [] => true
  | x :: r => x.2.ltB n && ltGB n r
theorem ltGB_spec {n : Nat} : ∀ {S : List (Nat × AV)}, ltGB n S = true → ltG n S
  | [], _ => trivial
  | x :: r, h => by simp only [ltGB, Bool.and_eq_true] at h; exact ⟨AV.ltB_spec h.1, ltGB_spec h.2⟩
/-- what stands behind is dropped -/
theorem hf_drop {m : Nat} {S : List (Nat × AV)} {H0 H : AHeap} (T : AHeap) (hH : H = H0 ++ T) (hm : m ≤ H0.length) (h : (ltGB H0.length S && ltHB H0.length H0) = true) : HFits m S H0 H := by
  subst hH
  simp only [Bool.and_eq_true] at h
  exact .inr ⟨⟨T, rfl⟩, hm, ltGB_spec h.1, ltHB_spec h.2⟩
theorem cntV_bnd {v : Nat → Int} {c : Int} (n : Nat) : (cntV v c n : Int) ≤ n := by have := cntV_le (v := v) (c := c) n; omega
theorem cntV_apart {v : Nat → Int} {c d : Int} (hcd : c ≠ d) {n : Nat} (hn : 0 < n) (h : cntV v c n = n) : cntV v d n ≠ n := fun h2 => by
  have h3 := (cntV_all n).1 h 0 hn
  have h4 := (cntV_all n).1 h2 0 hn
  exact hcd (h3.symm.trans h4)
end Go.Sas
namespace Go.Sas
/-- the first number below n of which q holds; n if there is none -/
def firstN (q : Nat → Bool) : Nat → Nat
  | 0 => 0
  | n + 1 => if firstN q n < n then firstN q n else if q n then n else n + 1
theorem firstN_le {q : Nat → Bool} : ∀ n, firstN q n ≤ n
  | 0 => Nat.le_refl 0
  | n + 1 => by
    have := firstN_le (q := q) n
    simp only [firstN]; split
    · omega
    · split <;> omega
theorem firstN_lt {q : Nat → Bool} : ∀ {n i : Nat}, i < firstN q n → q i = false
  | 0, i, h => by simp [firstN] at h
  | n + 1, i, h => by
    have h1 := firstN_le (q := q) n
    simp only [firstN] at h
    split at h
    · exact firstN_lt h
    · rename_i h2
      split at h
      · exact firstN_lt (n := n) (by omega)
      · rename_i h3
        by_cases h4 : i < n
        · exact firstN_lt (n := n) (by omega)
        · rw [show i = n by omega]; simpa using h3
theorem firstN_at {q : Nat → Bool} : ∀ {n : Nat}, firstN q n < n → q (firstN q n) = true
  | 0, h => by simp [firstN] at h
  | n + 1, h => by
    simp only [firstN] at h ⊢
    split
    · rename_i h2; exact firstN_at h2
    · rename_i h2
      split
      · rename_i h3; exact h3
      · rename_i h3
        exfalso
        rw [if_neg h2, if_neg h3] at h; omega
theorem firstN_eq {q : Nat → Bool} {n r : Nat} (hr : r ≤ n) (h1 : ∀ i, i < r → q i = false) (h2 : r < n → q r = true) : r = firstN q n := by
  rcases Nat.lt_trichotomy r (firstN q n) with h | h | h
  · have h3 := firstN_lt h
    have h4 := h2 (by have := firstN_le (q := q) n; omega)
    rw [h3] at h4; cases h4
  · exact h
  · have h3 := firstN_at (q := q) (n := n) (by omega)
    rw [h1 _ h] at h3; cases h3
/-- where q, once true, stays true -/
theorem firstN_mono {q : Nat → Bool} {n r : Nat} (hm : ∀ i j, i ≤ j → q i = true → q j = true) (hr : r ≤ n) (h1 : ∀ i, r = i + 1 → q i = false) (h2 : r < n → q r = true) : r = firstN q n := by
  refine firstN_eq hr (fun i hi => ?_) h2
  cases hq : q i with
  | false => rfl
  | true =>
    obtain ⟨k, rfl⟩ : ∃ k, r = k + 1 := ⟨r - 1, by omega⟩
    have := hm i k (by omega) hq
    rw [h1 k rfl] at this; cases this
theorem firstN_step {q : Nat → Bool} (hm : ∀ i j, i ≤ j → q i = true → q j = true) (j : Nat) : firstN q (j + 1) = if q j then firstN q j else j + 1 := by
  by_cases hq : q j = true
  · rw [if_pos hq]
    simp only [firstN]
    have := firstN_le (q := q) j
    split
    · rfl
    · first | omega | (rw [if_pos hq]; omega)
  · rw [if_neg hq]
    refine (firstN_eq (Nat.le_refl _) (fun i hi => ?_) (fun h => absurd h (by omega))).symm
    cases h : q i with
    | false => rfl
    | true => exact absurd (hm i j (by omega) h) hq
/-! ### What ice bears -/
theorem alo_up {p : Plate} (hV : PlateV p) {t t' n : Int} (h0 : 0 ≤ t) (h : t ≤ t') : aloS p t n ≤ aloS p t' n := by
  have hq := hV.cr.part n
  have h1 := hV.s1
  unfold aloS
  refine Int.ediv_le_ediv (by omega) ?_
  refine Int.mul_le_mul_of_nonneg_right ?_ hq.1
  have e1 : p.str.1 * t ≤ p.str.1 * t' := Int.mul_le_mul_of_nonneg_left h (by omega)
  have e2 : 0 ≤ p.str.1 * t := Int.mul_nonneg (by omega) h0
  calc p.str.1 * t * t ≤ p.str.1 * t' * t := Int.mul_le_mul_of_nonneg_right e1 h0
    _ ≤ p.str.1 * t' * t' := Int.mul_le_mul_of_nonneg_left h (by omega)
theorem alo_down {p : Plate} (hV : PlateV p) {t n n' : Int} (h0 : 0 ≤ t) (h : n ≤ n') : aloS p t n' ≤ aloS p t n := by
  have h1 := hV.s1
  unfold aloS
  refine Int.ediv_le_ediv (by omega) ?_
  refine Int.mul_le_mul_of_nonneg_left (hV.cr.mono h) ?_
  exact Int.mul_nonneg (Int.mul_nonneg (by omega) h0) h0
theorem alo_nn {p : Plate} (hV : PlateV p) {t n : Int} (h0 : 0 ≤ t) : 0 ≤ aloS p t n := by
  have h1 := hV.s1
  have hq := hV.cr.part n
  unfold aloS
  refine Int.ediv_nonneg ?_ (by omega)
  exact Int.mul_nonneg (Int.mul_nonneg (Int.mul_nonneg (by omega) h0) h0) hq.1
/-- thick enough -/
def needQ (p : Plate) (w n : Int) (t : Nat) : Bool := decide (w ≤ aloS p t n)
/-- too long -/
def longQ (p : Plate) (t w : Int) (n : Nat) : Bool := decide (aloS p t n < w)
theorem needQ_mono {p : Plate} (hV : PlateV p) {w n : Int} : ∀ i j, i ≤ j → needQ p w n i = true → needQ p w n j = true := fun i j hij h => by
  unfold needQ at h ⊢
  have := alo_up hV (t := i) (t' := j) (n := n) (by omega) (by omega)
  simp only [decide_eq_true_eq] at h ⊢; omega
theorem longQ_mono {p : Plate} (hV : PlateV p) {t w : Int} (h0 : 0 ≤ t) : ∀ i j, i ≤ j → longQ p t w i = true → longQ p t w j = true := fun i j hij h => by
  unfold longQ at h ⊢
  have := alo_down hV (t := t) (n := i) (n' := j) h0 (by omega)
  simp only [decide_eq_true_eq] at h ⊢; omega
def needS (p : Plate) (w n : Int) : Int × Int := if checkS p ≠ 0 then (0, checkS p) else if w < 0 ∨ 200000 < w ∨ n < 0 ∨ 10000 < n then (0, 2) else
  if firstN (needQ p w n) 5001 < 5001 then (iLen (firstN (needQ p w n) 5001), 0) else (0, 14)
def standsS (p : Plate) (t w : Int) : Int × Int := if checkS p ≠ 0 then (0, checkS p) else if t < 0 ∨ 5000 < t ∨ w < 0 ∨ 200000 < w then (0, 2) else (iLen (firstN (longQ p t w) 10001) - 1, 0)
/-! ### Entries of tables -/
def eCheckA : List AV → Option ((AV → Prop) → Prop)
  | [pl] => match asPl pl with
    | some x => some fun K => ∃ p, PlIs p x ∧ Big p.shares ∧ Big p.creep ∧ ∀ e, e = checkS p → K (I e)
    | none => none
  | _ => none
def eWiA : List AV → Option ((AV → Prop) → Prop)
  | [.lit (.int .i64 a), .lit (.int .i64 b), .lit (.int .i64 c)] => some fun K => ∀ q, q = wiS a b c → K (B q)
  | _ => none
def eOuA : List AV → Option ((AV → Prop) → Prop)
  | [.lit (.int .i64 a), .lit (.int .i64 b), .lit (.int .i64 c)] => some fun K => ∀ q, q = ouS a b c → K (B q)
  | _ => none
def eAloA : List AV → Option ((AV → Prop) → Prop)
  | [pl, .lit (.int .i64 t), .lit (.int .i64 n)] => match asPl pl with
    | some x => some fun K => ∃ p, PlIs p x ∧ PlateV p ∧ (0 ≤ t ∧ t ≤ 5000) ∧ ∀ r, r = aloS p t n → K (I r)
    | none => none
  | _ => none
def eNeedA : List AV → Option ((AV → Prop) → Prop)
  | [pl, .lit (.int .i64 t), .lit (.int .i64 n)] => match asPl pl with
    | some x => some fun K => ∃ p, PlIs p x ∧ Big p.shares ∧ Big p.creep ∧ ∀ a e, (a, e) = needS p t n → K (.tup [I a, I e])
    | none => none
  | _ => none
def eStandsA : List AV → Option ((AV → Prop) → Prop)
  | [pl, .lit (.int .i64 t), .lit (.int .i64 n)] => match asPl pl with
    | some x => some fun K => ∃ p, PlIs p x ∧ Big p.shares ∧ Big p.creep ∧ ∀ a e, (a, e) = standsS p t n → K (.tup [I a, I e])
    | none => none
  | _ => none
end Go.Sas
namespace Go.Sas
open Go.Proofs
set_option maxRecDepth 100000
theorem mid_eq {i j : Nat} (hj : j ≤ 1000000) (hi : i < j) : iCv .i64 (iShr .u64 (iCv .u64 (iAdd .i64 (iLen i) (iLen j))) 1) = iLen ((i + j) / 2) := by
  have h1 : iAdd .i64 (iLen i) (iLen j) = ((i + j : Nat) : Int) := by
    rw [iAdd_id] <;> (unfold iLen; omega)
  rw [h1]
  have h2 : iCv .u64 ((i + j : Nat) : Int) = ((i + j : Nat) : Int) := by
    simp [iCv, IntKind.wrap, IntKind.signed, IntKind.bits]; omega
  rw [h2]
  have h3 : iShr .u64 ((i + j : Nat) : Int) 1 = (((i + j) / 2 : Nat) : Int) := by
    simp only [iShr]
    rw [show (min (1 : Int).toNat IntKind.u64.bits) = 1 from rfl]
    rw [Int.fdiv_eq_ediv_of_nonneg _ (by decide)]
    omega
  rw [h3]
  exact wrap_id (by omega) (by omega)
theorem p103 {f : Nat} {caps : List AV} (q : Nat → Bool) (N : Nat) (hN : N ≤ 1000000) (H : AHeap) (hcaps : ltGB H.length [(1, .fn f caps)] = true) (hH : ltHB H.length H = true) (hf : ∀ n, n < N → ∀ Kk : AV → AHeap → Prop, Kk (B (q n)) H → ACalls Try.prog f (I (iLen n) :: caps) H Kk) {Kk : AV → AHeap → Prop}
    (h : ∀ r : Nat, r ≤ N → (∀ i, r = i + 1 → q i = false) → (r < N → q r = true) → Kk (I (iLen r)) H) : ACalls Try.prog 103 [I (iLen N), .fn f caps] H Kk := by
  obtain ⟨A, hA⟩ : ∃ A, A = std := ⟨_, rfl⟩
  obtain ⟨L, hL⟩ : ∃ L, L = iLen N := ⟨_, rfl⟩
  rw [← hL]
  refine go103 rfl ?_
  obtain ⟨R, hR⟩ : ∃ R, R = RetP [ARes.t (Od.g 4)] H.length Kk := ⟨_, rfl⟩
  rw [← hR]
  refine SGo_run hA ⟨[], [], [], []⟩ .nil .nil 200 fun T TD hT hTD => ?_
  cbv
  rw [hT]
  refine AGo_while (σ := { x : Nat × Nat // x.1 ≤ x.2 ∧ x.2 ≤ N ∧ (∀ i, x.1 = i + 1 → q i = false) ∧ (x.2 < N → q x.2 = true) }) (fun x => x.1.2 - x.1.1) (fun x => [(1, .fn f caps), (5, I (iLen x.1.1)), (6, I (iLen x.1.2))]) (fun _ => H) ⟨(0, N), by omega, by omega, fun i hi => by omega, fun h => by omega⟩ ⟨rfl, rfl, congrArg I hL, trivial⟩ (.inl rfl) ?_
  rintro ⟨⟨i, j⟩, h1, h2, h3, h4⟩ Bk hB
  simp only at h1 h2 h3 h4
  obtain ⟨a, ha⟩ : ∃ a, a = iLen i := ⟨_, rfl⟩
  obtain ⟨b, hb⟩ : ∃ b, b = iLen j := ⟨_, rfl⟩
  have hlt : A.lt a b = decide (i < j) := by subst hA; simp only [std, iLt, ha, hb]; unfold iLen; rw [decide_eq_decide]; omega
  simp only
  rw [← ha, ← hb]
  refine SGo_run hA ⟨[], [], [], []⟩ .nil .nil 200 fun T TD hT hTD => ?_
  cbv
  split <;> cbv
  · rename_i hq
    have hij : i < j := by have := hlt.symm.trans hq; simpa using this
    rw [hT]
    obtain ⟨c, hc⟩ : ∃ c, c = A.cv .i64 (A.shr .u64 (A.cv .u64 (A.add .i64 a b)) 1) := ⟨_, rfl⟩
    have hm : c = iLen ((i + j) / 2) := by rw [hc]; subst hA; rw [ha, hb]; exact mid_eq (by omega) hij
    have hadd : A.add .i64 c 1 = iLen ((i + j) / 2 + 1) := by subst hA; exact add_one hm (N := 1000001) (by omega) (by omega)
    refine AGo_call rfl rfl (fid := f) (caps := caps) ?_
    show ACalls _ f (I (A.cv .i64 (A.shr .u64 (A.cv .u64 (A.add .i64 a b)) 1)) :: caps) H _
    rw [← hc, hm]
    refine hf _ (by omega) _ ?_
    obtain ⟨qb, hqb⟩ : ∃ b, b = q ((i + j) / 2) := ⟨_, rfl⟩
    rw [← hqb]
    have hnb : ∀ b, A.bnot b = !b := by subst hA; intro b; rfl
    refine SGo_run hA ⟨[], [], [], []⟩ .nil .nil 200 fun T TD hT hTD => ?_
    cbv
    split <;> cbv
    · rename_i hz
      have hz : qb = false := by have := (hnb qb).symm.trans hz; simpa using this
      refine hB ⟨((i + j) / 2 + 1, j), by simp only; omega, h2, fun k hk => ?_, h4⟩ _ _ (by simp only; omega) ⟨rfl, congrArg I (by rw [← hadd, hc]), congrArg I hb, trivial⟩ (.inl rfl)
      simp only at hk
      rw [show k = (i + j) / 2 by omega, ← hqb, hz]
    · rename_i hz
      have hz : qb = true := by have := (hnb qb).symm.trans hz; simpa using this
      refine hB ⟨(i, (i + j) / 2), by simp only; omega, by simp only; omega, h3, fun _ => by simp only; rw [← hqb, hz]⟩ _ _ (by simp only; omega) ⟨rfl, congrArg I ha, congrArg I (by rw [← hm, hc]), trivial⟩ (.inl rfl)
  · rename_i hq
    have hij : ¬ i < j := by have := hlt.symm.trans hq; simpa using this
    rw [hR]
    refine RetP.same rfl rfl ?_
    rw [ha]
    have hj : j = i := by omega
    subst hj
    exact h _ h2 h3 h4
theorem eCheckA_ok {f : Nat} (hf : ∀ (p : Plate) {a b : Int} {xs ec : List AV} {ne ed gr lo hi sh wi : Int}, PlateIs p a b xs ec ne ed gr lo hi sh wi → Big p.shares → Big p.creep → ∀ (H : AHeap) {Kk : AV → AHeap → Prop}, Kk (I (checkS p)) H →
    ACalls Try.prog f [plV a b (.vs 2 xs) (.vs 2 ec) ne ed gr lo hi sh wi] H Kk) : ∀ args pt, eCheckA args = some pt → ∀ (H : AHeap) (Kk : AV → AHeap → Prop), pt (fun r => Kk r H) → ACalls Try.prog f args H Kk := by
  intro args pt h H Kk hk
  unfold eCheckA at h
  split at h
  · split at h
    · rename_i x hy
      cases h
      obtain ⟨a, b, xs, ec, ne, ed, gr, lo, hi, sh, wi⟩ := x
      obtain ⟨p, g1, g2, g3, g4⟩ := hk
      exact (hf p g1 g2 g3 H (g4 _ rfl)).wk ⟨asPl_wk hy, trivial⟩
    · cases h
  · cases h
theorem eWiA_ok : ∀ args pt, eWiA args = some pt → ∀ (H : AHeap) (Kk : AV → AHeap → Prop), pt (fun r => Kk r H) → ACalls Try.prog 94 args H Kk := by
  intro args pt h H Kk hk
  unfold eWiA at h
  split at h
  · cases h; exact p94 _ _ _ H (hk _ rfl)
  · cases h
theorem eOuA_ok : ∀ args pt, eOuA args = some pt → ∀ (H : AHeap) (Kk : AV → AHeap → Prop), pt (fun r => Kk r H) → ACalls Try.prog 98 args H Kk := by
  intro args pt h H Kk hk
  unfold eOuA at h
  split at h
  · cases h; exact p98 _ _ _ H (hk _ rfl)
  · cases h
theorem eAloA_ok {f : Nat} (hf : ∀ (p : Plate) {a b : Int} {xs ec : List AV} {ne ed gr lo hi sh wi : Int}, PlateIs p a b xs ec ne ed gr lo hi sh wi → PlateV p → ∀ (t n : Int), 0 ≤ t ∧ t ≤ 5000 → ∀ (H : AHeap) {Kk : AV → AHeap → Prop}, Kk (I (aloS p t n)) H →
    ACalls Try.prog f [plV a b (.vs 2 xs) (.vs 2 ec) ne ed gr lo hi sh wi, I t, I n] H Kk) : ∀ args pt, eAloA args = some pt → ∀ (H : AHeap) (Kk : AV → AHeap → Prop), pt (fun r => Kk r H) → ACalls Try.prog f args H Kk := by
  intro args pt h H Kk hk
  unfold eAloA at h
  split at h
  · split at h
    · rename_i x hy
      cases h
      obtain ⟨a, b, xs, ec, ne, ed, gr, lo, hi, sh, wi⟩ := x
      obtain ⟨p, g1, g2, g3, g4⟩ := hk
      exact (hf p g1 g2 _ _ g3 H (g4 _ rfl)).wk ⟨asPl_wk hy, Wk.rfl, Wk.rfl, trivial⟩
    · cases h
  · cases h
theorem eNeedA_ok {f : Nat} (hf : ∀ (p : Plate) {a b : Int} {xs ec : List AV} {ne ed gr lo hi sh wi : Int}, PlateIs p a b xs ec ne ed gr lo hi sh wi → Big p.shares → Big p.creep → ∀ (t n : Int), ∀ (H : AHeap) {Kk : AV → AHeap → Prop}, Kk (.tup [I (needS p t n).1, I (needS p t n).2]) H →
    ACalls Try.prog f [plV a b (.vs 2 xs) (.vs 2 ec) ne ed gr lo hi sh wi, I t, I n] H Kk) : ∀ args pt, eNeedA args = some pt → ∀ (H : AHeap) (Kk : AV → AHeap → Prop), pt (fun r => Kk r H) → ACalls Try.prog f args H Kk := by
  intro args pt h H Kk hk
  unfold eNeedA at h
  split at h
  · split at h
    · rename_i x hy
      cases h
      obtain ⟨a, b, xs, ec, ne, ed, gr, lo, hi, sh, wi⟩ := x
      obtain ⟨p, g1, g2, g3, g4⟩ := hk
      exact (hf p g1 g2 g3 _ _ H (g4 _ _ rfl)).wk ⟨asPl_wk hy, Wk.rfl, Wk.rfl, trivial⟩
    · cases h
  · cases h
theorem eStandsA_ok {f : Nat} (hf : ∀ (p : Plate) {a b : Int} {xs ec : List AV} {ne ed gr lo hi sh wi : Int}, PlateIs p a b xs ec ne ed gr lo hi sh wi → Big p.shares → Big p.creep → ∀ (t n : Int), ∀ (H : AHeap) {Kk : AV → AHeap → Prop}, Kk (.tup [I (standsS p t n).1, I (standsS p t n).2]) H →
    ACalls Try.prog f [plV a b (.vs 2 xs) (.vs 2 ec) ne ed gr lo hi sh wi, I t, I n] H Kk) : ∀ args pt, eStandsA args = some pt → ∀ (H : AHeap) (Kk : AV → AHeap → Prop), pt (fun r => Kk r H) → ACalls Try.prog f args H Kk := by
  intro args pt h H Kk hk
  unfold eStandsA at h
  split at h
  · split at h
    · rename_i x hy
      cases h
      obtain ⟨a, b, xs, ec, ne, ed, gr, lo, hi, sh, wi⟩ := x
      obtain ⟨p, g1, g2, g3, g4⟩ := hk
      exact (hf p g1 g2 g3 _ _ H (g4 _ _ rfl)).wk ⟨asPl_wk hy, Wk.rfl, Wk.rfl, trivial⟩
    · cases h
  · cases h
abbrev plC (a b : Int) (xs ec : List AV) (ne ed gr lo hi sh wi : Int) : List AV := [I a, I b, .vs 2 xs, .vs 2 ec, I ne, I ed, I gr, I lo, I hi, I sh, I wi]
theorem p104 (p : Plate) {a b : Int} {xs ec : List AV} {ne ed gr lo hi sh wi : Int} (hp : PlateIs p a b xs ec ne ed gr lo hi sh wi) (hV : PlateV p) (w n : Int) (t : Nat) (ht : t ≤ 5000) {Kk : AV → AHeap → Prop} (h : Kk (B (needQ p w n t)) [.own 0 (plC a b xs ec ne ed gr lo hi sh wi), .own 0 [I w], .own 0 [I n]]) :
    ACalls Try.prog 104 [I (iLen t), .mp 0 0 0, .mp 2 0 0, .mp 1 0 0] [.own 0 (plC a b xs ec ne ed gr lo hi sh wi), .own 0 [I w], .own 0 [I n]] Kk := by
  obtain ⟨A, hA⟩ : ∃ A, A = std := ⟨_, rfl⟩
  obtain ⟨tv, htv⟩ : ∃ v, v = iLen t := ⟨_, rfl⟩
  have htb : 0 ≤ tv ∧ tv ≤ 5000 := by rw [htv]; unfold iLen; omega
  rw [← htv]
  refine go104 rfl (SGo_run hA ⟨[], [], [(102, eAloA)], []⟩ (.cons (eAloA_ok p102) .nil) .nil 200 fun T TD hT hTD => ?_)
  cbv
  refine Exists.intro p (And.intro hp (And.intro hV (And.intro htb ?_)))
  rintro r hr
  cbv
  refine leaf h (congrArg B ?_) rfl
  rw [hr, htv]; subst hA; rfl
theorem p105 (p : Plate) {a b : Int} {xs ec : List AV} {ne ed gr lo hi sh wi : Int} (hp : PlateIs p a b xs ec ne ed gr lo hi sh wi) (hV : PlateV p) (t w : Int) (ht : 0 ≤ t ∧ t ≤ 5000) (n : Nat) {Kk : AV → AHeap → Prop} (h : Kk (B (longQ p t w n)) [.own 0 (plC a b xs ec ne ed gr lo hi sh wi), .own 0 [I t], .own 0 [I w]]) :
    ACalls Try.prog 105 [I (iLen n), .mp 0 0 0, .mp 1 0 0, .mp 2 0 0] [.own 0 (plC a b xs ec ne ed gr lo hi sh wi), .own 0 [I t], .own 0 [I w]] Kk := by
  obtain ⟨A, hA⟩ : ∃ A, A = std := ⟨_, rfl⟩
  obtain ⟨tv, htv⟩ : ∃ v, v = iLen n := ⟨_, rfl⟩
  rw [← htv]
  refine go105 rfl (SGo_run hA ⟨[], [], [(102, eAloA)], []⟩ (.cons (eAloA_ok p102) .nil) .nil 200 fun T TD hT hTD => ?_)
  cbv
  refine Exists.intro p (And.intro hp (And.intro hV (And.intro ht ?_)))
  rintro r hr
  cbv
  refine leaf h (congrArg B ?_) rfl
  rw [hr, htv]; subst hA; rfl
theorem p55 (p : Plate) {a b : Int} {xs ec : List AV} {ne ed gr lo hi sh wi : Int} (hp : PlateIs p a b xs ec ne ed gr lo hi sh wi) (h1 : Big p.shares) (h2 : Big p.creep) (t n : Int) (H : AHeap) {Kk : AV → AHeap → Prop} (h : Kk (.tup [I (needS p t n).1, I (needS p t n).2]) H) :
    ACalls Try.prog 55 [plV a b (.vs 2 xs) (.vs 2 ec) ne ed gr lo hi sh wi, I t, I n] H Kk := by
  refine (fun q => pureC (by rfl) (by rfl) q H h) ?_
  clear h
  intro Kk h
  obtain ⟨A, hA⟩ : ∃ A, A = std := ⟨_, rfl⟩
  obtain ⟨W, hW⟩ : ∃ W, W = needS p t n := ⟨_, rfl⟩
  rw [← hW] at h
  have hnb : ∀ b, A.bnot b = !b := by subst hA; intro b; rfl
  refine go55 rfl (SGo_run hA ⟨[], [], (59, eCheckA) :: (94, eWiA) :: [], []⟩ (.cons (eCheckA_ok p59) (.cons eWiA_ok .nil)) .nil 200 fun T TD hT hTD => ?_)
  cbv
  refine Exists.intro p (And.intro hp (And.intro h1 (And.intro h2 ?_)))
  rintro e he
  cbv
  unfold needS at hW
  split <;> cbv
  · rename_i hq
    have hq : e ≠ 0 := by have hq : A.ne e 0 = true := hq; subst hA; simpa [std, iNe] using hq
    rw [if_pos (by rw [← he]; exact hq)] at hW
    refine leaf h ?_ rfl
    rw [hW, ← he]; try rfl
  rename_i hq
  have hq : checkS p = 0 := by have hq : A.ne e 0 = false := hq; rw [← he]; subst hA; simpa [std, iNe] using hq
  rw [if_neg (by simp [hq])] at hW
  have hV := checkS_ok hq
  clear he
  by_cases hc : t < 0 ∨ 200000 < t ∨ n < 0 ∨ 10000 < n
  · rw [if_pos hc] at hW
    rintro q1 hq1
    have hn1 : A.bnot q1 = !(wiS t 0 200000) := by rw [hq1]; exact hnb _
    cbv
    split <;> cbv
    · refine leaf h ?_ rfl; rw [hW]; try rfl
    rename_i z1
    rintro q2 hq2
    have hn2 : A.bnot q2 = !(wiS n 0 10000) := by rw [hq2]; exact hnb _
    cbv
    split <;> cbv
    · refine leaf h ?_ rfl; rw [hW]; try rfl
    rename_i z2
    exfalso
    have z1 := hn1.symm.trans z1
    have z2 := hn2.symm.trans z2
    simp [wiS] at z1 z2
    omega
  rw [if_neg hc] at hW
  rintro q1 hq1
  have hn1 : A.bnot q1 = !(wiS t 0 200000) := by rw [hq1]; exact hnb _
  cbv
  split <;> cbv
  · exfalso
    rename_i z1
    have z1 := hn1.symm.trans z1
    simp [wiS] at z1
    omega
  clear hn1
  rintro q2 hq2
  have hn2 : A.bnot q2 = !(wiS n 0 10000) := by rw [hq2]; exact hnb _
  cbv
  split <;> cbv
  · exfalso
    rename_i z2
    have z2 := hn2.symm.trans z2
    simp [wiS] at z2
    omega
  clear hn2
  rw [hT]
  refine AGo_call rfl rfl (fid := 103) (caps := []) ?_
  show ACalls _ 103 [I (iLen 5001), .fn 104 [.mp 0 0 0, .mp 2 0 0, .mp 1 0 0]] [.own 0 (plC a b xs ec ne ed gr lo hi sh wi), .own 0 [I t], .own 0 [I n]] _
  refine p103 (needQ p t n) 5001 (by omega) _ rfl rfl (fun t1 ht1 Kk hk => p104 p hp hV t n t1 (by omega) hk) ?_
  intro r hr1 hr2 hr3
  have hr := firstN_mono (needQ_mono hV) hr1 hr2 hr3
  rw [← hr] at hW
  obtain ⟨rv, hrv⟩ : ∃ v, v = iLen r := ⟨_, rfl⟩
  rw [← hrv] at hW ⊢
  have hgt : A.lt 5000 rv = decide (5000 < r) := by subst hA; rw [hrv]; simp only [std, iLt]; unfold iLen; rw [decide_eq_decide]; omega
  refine SGo_run hA ⟨[], [], [], []⟩ .nil .nil 200 fun T TD hT hTD => ?_
  cbv
  split <;> cbv
  · rename_i z
    have z := hgt.symm.trans z
    simp only [decide_eq_true_eq] at z
    rw [if_neg (by omega)] at hW
    refine leaf h ?_ rfl; rw [hW]; try rfl
  · rename_i z
    have z := hgt.symm.trans z
    simp only [decide_eq_false_iff_not] at z
    rw [if_pos (by omega)] at hW
    refine leaf h ?_ rfl; rw [hW]; try rfl
theorem p57 (p : Plate) {a b : Int} {xs ec : List AV} {ne ed gr lo hi sh wi : Int} (hp : PlateIs p a b xs ec ne ed gr lo hi sh wi) (h1 : Big p.shares) (h2 : Big p.creep) (t n : Int) (H : AHeap) {Kk : AV → AHeap → Prop} (h : Kk (.tup [I (standsS p t n).1, I (standsS p t n).2]) H) :
    ACalls Try.prog 57 [plV a b (.vs 2 xs) (.vs 2 ec) ne ed gr lo hi sh wi, I t, I n] H Kk := by
  refine (fun q => pureC (by rfl) (by rfl) q H h) ?_
  clear h
  intro Kk h
  obtain ⟨A, hA⟩ : ∃ A, A = std := ⟨_, rfl⟩
  obtain ⟨W, hW⟩ : ∃ W, W = standsS p t n := ⟨_, rfl⟩
  rw [← hW] at h
  have hnb : ∀ b, A.bnot b = !b := by subst hA; intro b; rfl
  refine go57 rfl (SGo_run hA ⟨[], [], (59, eCheckA) :: (94, eWiA) :: [], []⟩ (.cons (eCheckA_ok p59) (.cons eWiA_ok .nil)) .nil 200 fun T TD hT hTD => ?_)
  cbv
  refine Exists.intro p (And.intro hp (And.intro h1 (And.intro h2 ?_)))
  rintro e he
  cbv
  unfold standsS at hW
  split <;> cbv
  · rename_i hq
    have hq : e ≠ 0 := by have hq : A.ne e 0 = true := hq; subst hA; simpa [std, iNe] using hq
    rw [if_pos (by rw [← he]; exact hq)] at hW
    refine leaf h ?_ rfl
    rw [hW, ← he]; try rfl
  rename_i hq
  have hq : checkS p = 0 := by have hq : A.ne e 0 = false := hq; rw [← he]; subst hA; simpa [std, iNe] using hq
  rw [if_neg (by simp [hq])] at hW
  have hV := checkS_ok hq
  clear he
  by_cases hc : t < 0 ∨ 5000 < t ∨ n < 0 ∨ 200000 < n
  · rw [if_pos hc] at hW
    rintro q1 hq1
    have hn1 : A.bnot q1 = !(wiS t 0 5000) := by rw [hq1]; exact hnb _
    cbv
    split <;> cbv
    · refine leaf h ?_ rfl; rw [hW]; try rfl
    rename_i z1
    rintro q2 hq2
    have hn2 : A.bnot q2 = !(wiS n 0 200000) := by rw [hq2]; exact hnb _
    cbv
    split <;> cbv
    · refine leaf h ?_ rfl; rw [hW]; try rfl
    rename_i z2
    exfalso
    have z1 := hn1.symm.trans z1
    have z2 := hn2.symm.trans z2
    simp [wiS] at z1 z2
    omega
  rw [if_neg hc] at hW
  rintro q1 hq1
  have hn1 : A.bnot q1 = !(wiS t 0 5000) := by rw [hq1]; exact hnb _
  cbv
  split <;> cbv
  · exfalso
    rename_i z1
    have z1 := hn1.symm.trans z1
    simp [wiS] at z1
    omega
  clear hn1
  rintro q2 hq2
  have hn2 : A.bnot q2 = !(wiS n 0 200000) := by rw [hq2]; exact hnb _
  cbv
  split <;> cbv
  · exfalso
    rename_i z2
    have z2 := hn2.symm.trans z2
    simp [wiS] at z2
    omega
  clear hn2
  rw [hT]
  refine AGo_call rfl rfl (fid := 103) (caps := []) ?_
  show ACalls _ 103 [I (iLen 10001), .fn 105 [.mp 0 0 0, .mp 1 0 0, .mp 2 0 0]] [.own 0 (plC a b xs ec ne ed gr lo hi sh wi), .own 0 [I t], .own 0 [I n]] _
  refine p103 (longQ p t n) 10001 (by omega) _ rfl rfl (fun t1 ht1 Kk hk => p105 p hp hV t n (by omega) t1 hk) ?_
  intro r hr1 hr2 hr3
  have hr := firstN_mono (longQ_mono hV (by omega)) hr1 hr2 hr3
  rw [← hr] at hW
  obtain ⟨rv, hrv⟩ : ∃ v, v = iLen r := ⟨_, rfl⟩
  rw [← hrv] at hW ⊢
  have hgt : A.sub .i64 rv 1 = rv - 1 := by subst hA; rw [hrv]; exact iSub_id (by unfold iLen; omega) (by unfold iLen; omega)
  refine SGo_run hA ⟨[], [], [], []⟩ .nil .nil 200 fun T TD hT hTD => ?_
  cbv
  refine leaf h ?_ rfl
  rw [hW, ← hgt]
  rfl
theorem p56 (p : Plate) {a b : Int} {xs ec : List AV} {ne ed gr lo hi sh wi : Int} (hp : PlateIs p a b xs ec ne ed gr lo hi sh wi) (h1 : Big p.shares) (h2 : Big p.creep) (t n : Int) (H : AHeap) {Kk : AV → AHeap → Prop} (h : Kk (.tup [I (needS p t n).1, I (needS p t n).2]) H) :
    ACalls Try.prog 56 [plV a b (.vs 2 xs) (.vs 2 ec) ne ed gr lo hi sh wi, I t, I n] H Kk := by
  refine (fun q => pureC (by rfl) (by rfl) q H h) ?_
  clear h
  intro Kk h
  obtain ⟨A, hA⟩ : ∃ A, A = std := ⟨_, rfl⟩
  obtain ⟨W, hW⟩ : ∃ W, W = needS p t n := ⟨_, rfl⟩
  rw [← hW] at h
  have hnb : ∀ b, A.bnot b = !b := by subst hA; intro b; rfl
  refine go56 rfl (SGo_run hA ⟨[], [], (60, eCheckA) :: (98, eOuA) :: [], []⟩ (.cons (eCheckA_ok p60) (.cons eOuA_ok .nil)) .nil 200 fun T TD hT hTD => ?_)
  cbv
  refine Exists.intro p (And.intro hp (And.intro h1 (And.intro h2 ?_)))
  rintro e he
  cbv
  unfold needS at hW
  split <;> cbv
  · rename_i hq
    have hq : e ≠ 0 := by have hq : A.ne e 0 = true := hq; subst hA; simpa [std, iNe] using hq
    rw [if_pos (by rw [← he]; exact hq)] at hW
    refine leaf h ?_ rfl
    rw [hW, ← he]; try rfl
  rename_i hq
  have hq : checkS p = 0 := by have hq : A.ne e 0 = false := hq; rw [← he]; subst hA; simpa [std, iNe] using hq
  rw [if_neg (by simp [hq])] at hW
  have hV := checkS_ok hq
  clear he
  by_cases hc : t < 0 ∨ 200000 < t ∨ n < 0 ∨ 10000 < n
  · rw [if_pos hc] at hW
    rintro q1 hq1
    cases q1 <;> cbv
    · rintro q2 hq2
      cases q2 <;> cbv
      · exfalso
        have z1 := hq1.symm
        have z2 := hq2.symm
        simp [ouS] at z1 z2
        omega
      · refine leaf h ?_ rfl; rw [hW]; try rfl
    · refine leaf h ?_ rfl; rw [hW]; try rfl
  rw [if_neg hc] at hW
  rintro q1 hq1
  cases q1 <;> cbv
  case true =>
    exfalso
    have z1 := hq1.symm
    simp [ouS] at z1
    omega
  clear hq1
  rintro q2 hq2
  cases q2 <;> cbv
  case true =>
    exfalso
    have z2 := hq2.symm
    simp [ouS] at z2
    omega
  clear hq2
  rw [hT]
  refine AGo_up 5001 (fun j => ∀ i, i < j → needQ p t n i = false) (fun _ i => [(0, plV a b (.vs 2 xs) (.vs 2 ec) ne ed gr lo hi sh wi), (1, I t), (2, I n), (3, .mp 0 0 0), (6, I 0), (7, I 0), (9, I i)]) (fun _ => [.own 0 (plC a b xs ec ne ed gr lo hi sh wi)]) (fun i hi => absurd hi (by omega)) ⟨rfl, rfl, rfl, rfl, rfl, rfl, rfl, trivial⟩ (.inl rfl) fun j i hij hj hP Bk hB => ?_
  have hle : A.le i 5000 = decide (j < 5001) := by subst hA; rw [hij]; simp only [std, iLe]; unfold iLen; rw [decide_eq_decide]; omega
  have hadd : j < 5001 → A.add .i64 i 1 = iLen (j + 1) := fun hj => by subst hA; exact add_one hij hj (by omega)
  have hib : j < 5001 → 0 ≤ i ∧ i ≤ 5000 := fun h => by rw [hij]; unfold iLen; omega
  refine SGo_run hA ⟨[], [], [(101, eAloA)], []⟩ (.cons (eAloA_ok p101) .nil) .nil 200 fun T TD hT hTD => ?_
  cbv
  split <;> cbv
  · rename_i z
    have hj1 : j < 5001 := by have z := hle.symm.trans z; simpa using z
    refine Exists.intro p (And.intro hp (And.intro hV (And.intro (hib hj1) ?_)))
    rintro r hr
    have hqj : A.le t r = needQ p t n j := by rw [hr, hij]; subst hA; rfl
    cbv
    split <;> cbv
    · rename_i z
      have z := hqj.symm.trans z
      have hf := firstN_eq (n := 5001) (by omega) hP (fun _ => z)
      rw [← hf, if_pos (by omega)] at hW
      refine leaf h ?_ rfl; rw [hW, hij]; try rfl
    · rename_i z
      have z := hqj.symm.trans z
      refine hB _ _ hj1 (fun i hi => ?_) ⟨rfl, rfl, rfl, rfl, rfl, rfl, congrArg I (hadd hj1), trivial⟩ (.inl rfl)
      rcases Nat.lt_succ_iff_lt_or_eq.1 hi with h | h
      · exact hP i h
      · rw [h]; exact z
  · rename_i z
    have hj1 : ¬ j < 5001 := by have z := hle.symm.trans z; simpa using z
    have hf := firstN_eq (q := needQ p t n) (n := 5001) (r := 5001) (by omega) (fun i hi => hP i (by omega)) (fun h => absurd h (by omega))
    rw [← hf, if_neg (by omega)] at hW
    refine leaf h ?_ rfl; rw [hW]; try rfl
theorem p58 (p : Plate) {a b : Int} {xs ec : List AV} {ne ed gr lo hi sh wi : Int} (hp : PlateIs p a b xs ec ne ed gr lo hi sh wi) (h1 : Big p.shares) (h2 : Big p.creep) (t n : Int) (H : AHeap) {Kk : AV → AHeap → Prop} (h : Kk (.tup [I (standsS p t n).1, I (standsS p t n).2]) H) :
    ACalls Try.prog 58 [plV a b (.vs 2 xs) (.vs 2 ec) ne ed gr lo hi sh wi, I t, I n] H Kk := by
  refine (fun q => pureC (by rfl) (by rfl) q H h) ?_
  clear h
  intro Kk h
  obtain ⟨A, hA⟩ : ∃ A, A = std := ⟨_, rfl⟩
  obtain ⟨W, hW⟩ : ∃ W, W = standsS p t n := ⟨_, rfl⟩
  rw [← hW] at h
  have hnb : ∀ b, A.bnot b = !b := by subst hA; intro b; rfl
  refine go58 rfl (SGo_run hA ⟨[], [], (60, eCheckA) :: (98, eOuA) :: [], []⟩ (.cons (eCheckA_ok p60) (.cons eOuA_ok .nil)) .nil 200 fun T TD hT hTD => ?_)
  cbv
  refine Exists.intro p (And.intro hp (And.intro h1 (And.intro h2 ?_)))
  rintro e he
  cbv
  unfold standsS at hW
  split <;> cbv
  · rename_i hq
    have hq : e ≠ 0 := by have hq : A.ne e 0 = true := hq; subst hA; simpa [std, iNe] using hq
    rw [if_pos (by rw [← he]; exact hq)] at hW
    refine leaf h ?_ rfl
    rw [hW, ← he]; try rfl
  rename_i hq
  have hq : checkS p = 0 := by have hq : A.ne e 0 = false := hq; rw [← he]; subst hA; simpa [std, iNe] using hq
  rw [if_neg (by simp [hq])] at hW
  have hV := checkS_ok hq
  clear he
  by_cases hc : t < 0 ∨ 5000 < t ∨ n < 0 ∨ 200000 < n
  · rw [if_pos hc] at hW
    rintro q1 hq1
    cases q1 <;> cbv
    · rintro q2 hq2
      cases q2 <;> cbv
      · exfalso
        have z1 := hq1.symm
        have z2 := hq2.symm
        simp [ouS] at z1 z2
        omega
      · refine leaf h ?_ rfl; rw [hW]; try rfl
    · refine leaf h ?_ rfl; rw [hW]; try rfl
  rw [if_neg hc] at hW
  rintro q1 hq1
  cases q1 <;> cbv
  case true =>
    exfalso
    have z1 := hq1.symm
    simp [ouS] at z1
    omega
  clear hq1
  rintro q2 hq2
  cases q2 <;> cbv
  case true =>
    exfalso
    have z2 := hq2.symm
    simp [ouS] at z2
    omega
  clear hq2
  rw [hT]
  refine AGo_up 10001 (fun _ => True) (fun j i => [(0, plV a b (.vs 2 xs) (.vs 2 ec) ne ed gr lo hi sh wi), (1, I t), (2, I n), (3, .mp 0 0 0), (6, I 0), (7, I 0), (9, I (iLen (firstN (longQ p t n) j) - 1)), (10, I i)]) (fun _ => [.own 0 (plC a b xs ec ne ed gr lo hi sh wi)]) trivial ⟨rfl, rfl, rfl, rfl, rfl, rfl, rfl, rfl, trivial⟩ (.inl rfl) fun j i hij hj _ Bk hB => ?_
  have hle : A.le i 10000 = decide (j < 10001) := by subst hA; rw [hij]; simp only [std, iLe]; unfold iLen; rw [decide_eq_decide]; omega
  have hadd : j < 10001 → A.add .i64 i 1 = iLen (j + 1) := fun hj => by subst hA; exact add_one hij hj (by omega)
  have htb : 0 ≤ t ∧ t ≤ 5000 := by omega
  have hst := firstN_step (longQ_mono hV (w := n) htb.1) j
  have hii : iLen (j + 1) - 1 = i := by rw [hij]; unfold iLen; omega
  obtain ⟨fv, hfv⟩ : ∃ v, v = iLen (firstN (longQ p t n) j) - 1 := ⟨_, rfl⟩
  rw [← hfv]
  refine SGo_run hA ⟨[], [], [(101, eAloA)], []⟩ (.cons (eAloA_ok p101) .nil) .nil 200 fun T TD hT hTD => ?_
  cbv
  split <;> cbv
  · rename_i z
    have hj1 : j < 10001 := by have z := hle.symm.trans z; simpa using z
    refine Exists.intro p (And.intro hp (And.intro hV (And.intro htb ?_)))
    rintro r hr
    have hqj : A.le n r = !longQ p t n j := by
      rw [hr, hij]; subst hA
      show decide (n ≤ aloS p t (iLen j)) = !decide (aloS p t (iLen j) < n)
      by_cases hz : n ≤ aloS p t (iLen j)
      · rw [decide_eq_true hz, decide_eq_false (by omega)]; rfl
      · rw [decide_eq_false hz, decide_eq_true (by omega)]; rfl
    cbv
    split <;> cbv
    · rename_i z
      have z := hqj.symm.trans z
      have z : longQ p t n j = false := by simpa using z
      rw [z, if_neg (by simp)] at hst
      refine hB _ _ hj1 trivial ⟨rfl, rfl, rfl, rfl, rfl, rfl, congrArg I (by rw [hst, hii]), congrArg I (hadd hj1), trivial⟩ (.inl rfl)
    · rename_i z
      have z := hqj.symm.trans z
      have z : longQ p t n j = true := by simpa using z
      rw [z, if_pos rfl] at hst
      refine hB _ _ hj1 trivial ⟨rfl, rfl, rfl, rfl, rfl, rfl, congrArg I (by rw [hst, ← hfv]), congrArg I (hadd hj1), trivial⟩ (.inl rfl)
  · rename_i z
    have hj1 : j = 10001 := by have z := hle.symm.trans z; simp at z; omega
    rw [← hj1, ← hfv] at hW
    refine leaf h ?_ rfl; rw [hW]; try rfl
end Go.Sas
