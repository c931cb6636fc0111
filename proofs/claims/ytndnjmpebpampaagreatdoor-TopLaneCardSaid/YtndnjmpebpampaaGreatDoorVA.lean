/-
Frost: parts of numbers, roots: contracts.
Frost: laws, ice and days as values; what is valid: contracts.
Frost: what is valid, as a whole: contracts.
Conditions: none.
-/
import Derived.Test.YtndnjmpebpampaaGreatDoorQFM1
import Derived.Test.YtndnjmpebpampaaGreatDoorQFC1
import Derived.Test.YtndnjmpebpampaaGreatDoorJ2
set_option linter.unusedVariables false
set_option linter.unusedSimpArgs false
namespace Go.Sas
open Go.Proofs
set_option maxRecDepth 100000
def NB (n p : Int) : Prop := 0 ≤ n ∧ n ≤ 1000000000 ∧ 0 ≤ p ∧ p ≤ 10000000
theorem NB.mul {n p : Int} (h : NB n p) : iMul .i64 n p = n * p ∧ 0 ≤ n * p ∧ n * p ≤ 10000000000000000 := by
  obtain ⟨h1, h2, h3, h4⟩ := h
  obtain ⟨e, l, u⟩ := mulB (a := n) (b := p) (A := 1000000000) (B := 10000000) ⟨h1, h2⟩ ⟨h3, h4⟩ (by omega)
  exact ⟨e, l, by omega⟩
theorem dn_id {n p : Int} (h : NB n p) : iQuo .i64 (iMul .i64 n p) 1000000 = dnS n p := by
  obtain ⟨e, l, u⟩ := h.mul
  rw [e, iQuo_id l (by omega) (by omega)]; rfl
theorem up_id {n p : Int} (h : NB n p) : iQuo .i64 (iSub .i64 (iAdd .i64 (iMul .i64 n p) 1000000) 1) 1000000 = upS n p := by
  obtain ⟨e, l, u⟩ := h.mul
  rw [e, iAdd_id (by omega) (by omega), iSub_id (by omega) (by omega), iQuo_id (by omega) (by omega) (by omega)]
  unfold upS; congr 1; omega
def eDn : List AV → Option ((AV → Prop) → Prop)
  | [.lit (.int .i64 n), .lit (.int .i64 p)] => some fun K => ∃ _u : Unit, NB n p ∧ ∀ r, r = dnS n p → K (I r)
  | _ => none
def eUp : List AV → Option ((AV → Prop) → Prop)
  | [.lit (.int .i64 n), .lit (.int .i64 p)] => some fun K => ∃ _u : Unit, NB n p ∧ ∀ r, r = upS n p → K (I r)
  | _ => none
theorem eDn_ok {f : Nat} (hf : ∀ (n p : Int), NB n p → ∀ (H : AHeap) {Kk : AV → AHeap → Prop}, Kk (I (dnS n p)) H → ACalls Tryz.prog f [I n, I p] H Kk) : ∀ args pt, eDn args = some pt → ∀ (H : AHeap) (Kk : AV → AHeap → Prop), pt (fun r => Kk r H) → ACalls Tryz.prog f args H Kk := by
  intro args pt h H Kk hk
  unfold eDn at h
  split at h
  · cases h
    obtain ⟨_, h1, h2⟩ := hk
    exact hf _ _ h1 H (h2 _ rfl)
  · cases h
theorem eUp_ok {f : Nat} (hf : ∀ (n p : Int), NB n p → ∀ (H : AHeap) {Kk : AV → AHeap → Prop}, Kk (I (upS n p)) H → ACalls Tryz.prog f [I n, I p] H Kk) : ∀ args pt, eUp args = some pt → ∀ (H : AHeap) (Kk : AV → AHeap → Prop), pt (fun r => Kk r H) → ACalls Tryz.prog f args H Kk := by
  intro args pt h H Kk hk
  unfold eUp at h
  split at h
  · cases h
    obtain ⟨_, h1, h2⟩ := hk
    exact hf _ _ h1 H (h2 _ rfl)
  · cases h
theorem p101 (n p : Int) (h0 : NB n p) (H : AHeap) {Kk : AV → AHeap → Prop} (h : Kk (I (dnS n p)) H) : ACalls Tryz.prog 101 [I n, I p] H Kk := by
  refine (fun q => pureC (by rfl) (by rfl) q H h) ?_
  clear h
  intro Kk h
  obtain ⟨A, hA⟩ : ∃ A, A = std := ⟨_, rfl⟩
  refine go101 rfl (SGo_run hA ⟨[], [], [], []⟩ .nil .nil 200 fun T TD hT hTD => ?_)
  cbv
  refine leaf h (congrArg I ?_) rfl
  subst hA; exact (dn_id h0).symm
theorem p103 (n p : Int) (h0 : NB n p) (H : AHeap) {Kk : AV → AHeap → Prop} (h : Kk (I (upS n p)) H) : ACalls Tryz.prog 103 [I n, I p] H Kk := by
  refine (fun q => pureC (by rfl) (by rfl) q H h) ?_
  clear h
  intro Kk h
  obtain ⟨A, hA⟩ : ∃ A, A = std := ⟨_, rfl⟩
  refine go103 rfl (SGo_run hA ⟨[], [], [], []⟩ .nil .nil 200 fun T TD hT hTD => ?_)
  cbv
  refine leaf h (congrArg I ?_) rfl
  subst hA; exact (up_id h0).symm
/-! ### Roots -/
structure RootI (n top : Int) (x : Int × Int) : Prop where
  a : 1 ≤ x.1
  b : x.1 < x.2
  c : x.2 ≤ top
  d : x.1 * x.1 ≤ n
  e : n < x.2 * x.2
theorem RootI.lo {n top m : Int} {x : Int × Int} (h : RootI n top x) (h1 : x.1 < m) (h2 : m < x.2) (h3 : m * m ≤ n) : RootI n top (m, x.2) := ⟨by have := h.a; simp only; omega, h2, h.c, h3, h.e⟩
theorem RootI.hi {n top m : Int} {x : Int × Int} (h : RootI n top x) (h1 : x.1 < m) (h2 : m < x.2) (h3 : n < m * m) : RootI n top (x.1, m) := ⟨h.a, h1, by have := h.c; simp only; omega, h.d, h3⟩
theorem RootI.fin {n top : Int} {x : Int × Int} (h : RootI n top x) (h1 : x.2 - x.1 ≤ 1) : rootS n = x.1 := by
  have := h.a
  have := h.b
  have he := h.e
  refine root_uniq (by omega) h.d ?_
  rw [show x.1 + 1 = x.2 by omega]; exact he
theorem le_div_iff {m n : Int} (hm : 1 ≤ m) : (m ≤ n / m) ↔ m * m ≤ n := (Int.le_ediv_iff_mul_le (by omega))
theorem p76 (n : Int) (hn : n ≤ 9223372036854775807) (H : AHeap) {Kk : AV → AHeap → Prop} (h : Kk (I (rootS n)) H) : ACalls Tryz.prog 76 [I n] H Kk := by
  refine (fun q => pureC (by rfl) (by rfl) q H h) ?_
  clear h
  intro Kk h
  obtain ⟨A, hA⟩ : ∃ A, A = std := ⟨_, rfl⟩
  obtain ⟨W, hW⟩ : ∃ W, W = rootS n := ⟨_, rfl⟩
  rw [← hW] at h
  refine go76 rfl (SGo_run hA ⟨[], [], [], []⟩ .nil .nil 200 fun T TD hT hTD => ?_)
  cbv
  split <;> cbv
  · rename_i hq
    refine leaf h (congrArg I ?_) rfl
    have hq : A.le n 0 = true := hq
    subst hA
    have hq : n ≤ 0 := by simpa [std, iLe] using hq
    rw [hW, rootS_neg hq]
  rename_i hq
  have hq : A.le n 0 = false := hq
  have hn0 : 1 ≤ n := by subst hA; have hq : ¬ n ≤ 0 := by simpa [std, iLe] using hq
                         omega
  clear hq
  rw [hT]
  refine AGo_while (σ := { x : Int × Int // RootI n 4294967296 x }) (fun x => (x.1.2 - x.1.1).toNat) (fun x => [(0, I n), (2, I 0), (3, I x.1.1), (4, I x.1.2)]) (fun _ => []) ⟨(1, 4294967296), by simp, by simp, by simp, by simp only; omega, by simp only; omega⟩ ⟨rfl, rfl, rfl, rfl, trivial⟩ (.inl rfl) ?_
  rintro ⟨⟨a, b⟩, hR⟩ Bk hB
  simp only
  have h1 := hR.a
  have h2 := hR.b
  have h3 := hR.c
  simp only at h1 h2 h3
  have hsub : A.sub .i64 b a = b - a := by subst hA; exact iSub_id (by omega) (by omega)
  have hlt : A.lt 1 (A.sub .i64 b a) = decide (1 < b - a) := by rw [hsub]; subst hA; rfl
  have hmid : A.add .i64 a (A.quo .i64 (A.sub .i64 b a) 2) = a + (b - a) / 2 := by
    rw [hsub]; subst hA; simp only [std]; rw [iQuo_id (by omega) (by omega) (by omega), iAdd_id (by omega) (by omega)]
  obtain ⟨m, hm⟩ : ∃ m, m = a + (b - a) / 2 := ⟨_, rfl⟩
  rw [← hm] at hmid
  have hle : 1 ≤ m → A.le m (A.quo .i64 n m) = decide (m * m ≤ n) := fun h => by
    subst hA; simp only [std, iLe]; rw [iQuo_id (by omega) (by omega) (by omega), decide_eq_decide]; exact le_div_iff h
  have hnz : 1 ≤ m → A.nz m := fun h => by subst hA; simp only [std, nzS]; omega
  refine SGo_run hA ⟨[], [], [], []⟩ .nil .nil 200 fun T TD hT hTD => ?_
  cbv
  split <;> cbv
  · rename_i hq
    have hq := hlt.symm.trans hq
    simp only [decide_eq_true_eq] at hq
    have hm1 : 1 ≤ m := by omega
    refine And.intro (by show A.nz (A.add .i64 a (A.quo .i64 (A.sub .i64 b a) 2)); rw [hmid]; exact hnz hm1) ?_
    cbv
    split <;> cbv
    · rename_i hz
      have hz : A.le (A.add .i64 a (A.quo .i64 (A.sub .i64 b a) 2)) (A.quo .i64 n (A.add .i64 a (A.quo .i64 (A.sub .i64 b a) 2))) = true := hz
      rw [hmid, hle hm1, decide_eq_true_eq] at hz
      exact hB ⟨(m, b), hR.lo (by simp only; omega) (by simp only; omega) hz⟩ _ _ (by simp only; omega) ⟨rfl, rfl, congrArg I hmid, rfl, trivial⟩ (.inl rfl)
    · rename_i hz
      have hz : A.le (A.add .i64 a (A.quo .i64 (A.sub .i64 b a) 2)) (A.quo .i64 n (A.add .i64 a (A.quo .i64 (A.sub .i64 b a) 2))) = false := hz
      rw [hmid, hle hm1, decide_eq_false_iff_not] at hz
      exact hB ⟨(a, m), hR.hi (by simp only; omega) (by simp only; omega) (by omega)⟩ _ _ (by simp only; omega) ⟨rfl, rfl, rfl, congrArg I hmid, trivial⟩ (.inl rfl)
  · rename_i hq
    have hq := hlt.symm.trans hq
    simp only [decide_eq_false_iff_not] at hq
    refine leaf h (congrArg I ?_) rfl
    rw [hW]
    exact hR.fin (by simp only; omega)
def Rt (n : Int) : Prop := 0 ≤ n ∧ n ≤ 9000000000000000000
def eRoot : List AV → Option ((AV → Prop) → Prop)
  | [.lit (.int .i64 n)] => some fun K => ∃ _u : Unit, n ≤ 9223372036854775807 ∧ ∀ r, r = rootS n → K (I r)
  | _ => none
def eRoof : List AV → Option ((AV → Prop) → Prop)
  | [.lit (.int .i64 n)] => some fun K => ∃ _u : Unit, Rt n ∧ ∀ r, r = roofS n → K (I r)
  | _ => none
theorem eRoot_ok {f : Nat} (hf : ∀ (n : Int), n ≤ 9223372036854775807 → ∀ (H : AHeap) {Kk : AV → AHeap → Prop}, Kk (I (rootS n)) H → ACalls Tryz.prog f [I n] H Kk) : ∀ args pt, eRoot args = some pt → ∀ (H : AHeap) (Kk : AV → AHeap → Prop), pt (fun r => Kk r H) → ACalls Tryz.prog f args H Kk := by
  intro args pt h H Kk hk
  unfold eRoot at h
  split at h
  · cases h
    obtain ⟨_, h1, h2⟩ := hk
    exact hf _ h1 H (h2 _ rfl)
  · cases h
theorem eRoof_ok {f : Nat} (hf : ∀ (n : Int), Rt n → ∀ (H : AHeap) {Kk : AV → AHeap → Prop}, Kk (I (roofS n)) H → ACalls Tryz.prog f [I n] H Kk) : ∀ args pt, eRoof args = some pt → ∀ (H : AHeap) (Kk : AV → AHeap → Prop), pt (fun r => Kk r H) → ACalls Tryz.prog f args H Kk := by
  intro args pt h H Kk hk
  unfold eRoof at h
  split at h
  · cases h
    obtain ⟨_, h1, h2⟩ := hk
    exact hf _ h1 H (h2 _ rfl)
  · cases h
theorem root_sm {n : Int} (h : Rt n) : 0 ≤ rootS n ∧ rootS n ≤ 3000000000 ∧ rootS n * rootS n ≤ n := by
  have h1 := rootS_nn n
  have h2 := (rootS_sq h.1).1
  refine ⟨h1, ?_, h2⟩
  have := h.2
  rcases Int.lt_or_le 3000000000 (rootS n) with h3 | h3
  · have := sq_le (a := 3000000001) (b := rootS n) (by omega) (by omega)
    omega
  · exact h3
end Go.Sas
namespace Go.Sas
open Go.Proofs
set_option maxRecDepth 100000
def cvV (c : Int × Int × Int) : AV := .agg [I c.1, I c.2.1, I c.2.2]
def lwA (l : FrL) : AV := .agg [I l.g, I l.lat, .vs 3 (l.cov.map cvV), I l.melt.1, I l.melt.2, I l.soak, I l.white.1, I l.white.2]
def icA (x : IceK) : AV := .agg [I x.b.1, I x.b.2, I x.w.1, I x.w.2, I x.t.1, I x.t.2, I x.s.1, I x.s.2]
def dyA (d : DayK) : AV := .agg [I d.cold.1, I d.cold.2, I d.fall.1, I d.fall.2, I d.water, B d.clear]
abbrev LwX := Int × Int × List AV × Int × Int × Int × Int × Int
abbrev IcX := Int × Int × Int × Int × Int × Int × Int × Int
abbrev DyX := Int × Int × Int × Int × Int × Bool
def lwK (x : LwX) (cov : List (Int × Int × Int)) : FrL := ⟨x.1, x.2.1, cov, (x.2.2.2.1, x.2.2.2.2.1), x.2.2.2.2.2.1, (x.2.2.2.2.2.2.1, x.2.2.2.2.2.2.2)⟩
def icK (x : IcX) : IceK := ⟨(x.1, x.2.1), (x.2.2.1, x.2.2.2.1), (x.2.2.2.2.1, x.2.2.2.2.2.1), (x.2.2.2.2.2.2.1, x.2.2.2.2.2.2.2)⟩
def dyK (x : DyX) : DayK := ⟨(x.1, x.2.1), (x.2.2.1, x.2.2.2.1), x.2.2.2.2.1, x.2.2.2.2.2⟩
def asLw : AV → Option LwX
  | .agg [.lit (.int .i64 g), .lit (.int .i64 la), c, .lit (.int .i64 m1), .lit (.int .i64 m2), .lit (.int .i64 so), .lit (.int .i64 w1), .lit (.int .i64 w2)] => match asVs 3 c with
    | some xs => some (g, la, xs, m1, m2, so, w1, w2)
    | none => none
  | _ => none
def asIc : AV → Option IcX
  | .agg [.lit (.int .i64 a), .lit (.int .i64 b), .lit (.int .i64 c), .lit (.int .i64 d), .lit (.int .i64 e), .lit (.int .i64 f), .lit (.int .i64 g), .lit (.int .i64 h)] => some (a, b, c, d, e, f, g, h)
  | _ => none
def asDy : AV → Option DyX
  | .agg [.lit (.int .i64 a), .lit (.int .i64 b), .lit (.int .i64 c), .lit (.int .i64 d), .lit (.int .i64 e), .lit (.bool f)] => some (a, b, c, d, e, f)
  | _ => none
theorem asLw_wk {a : AV} {x : LwX} {cov : List (Int × Int × Int)} (h : asLw a = some x) (hc : x.2.2.1 = cov.map cvV) : Wk a (lwA (lwK x cov)) := by
  unfold asLw at h
  split at h
  · split at h
    · rename_i xs h1
      cases h
      simp only at hc
      subst hc
      exact Wk.agg ⟨Wk.rfl, Wk.rfl, asVs_wk h1, Wk.rfl, Wk.rfl, Wk.rfl, Wk.rfl, Wk.rfl, trivial⟩
    · cases h
  · cases h
theorem asIc_wk {a : AV} {x : IcX} (h : asIc a = some x) : Wk a (icA (icK x)) := by
  unfold asIc at h
  split at h
  · cases h; exact Wk.rfl
  · cases h
theorem asDy_wk {a : AV} {x : DyX} (h : asDy a = some x) : Wk a (dyA (dyK x)) := by
  unfold asDy at h
  split at h
  · cases h; exact Wk.rfl
  · cases h
/-! ### Spans -/
def eFlt : List AV → Option ((AV → Prop) → Prop)
  | [.agg [.lit (.int .i64 a), .lit (.int .i64 b)], .lit (.int .i64 c), .lit (.int .i64 d)] => some fun K => ∀ r, r = faultS a b c d → K (I r)
  | _ => none
theorem eFlt_ok {f : Nat} (hf : ∀ (a b c d : Int) (H : AHeap) {Kk : AV → AHeap → Prop}, Kk (I (faultS a b c d)) H → ACalls Tryz.prog f [.agg [I a, I b], I c, I d] H Kk) : ∀ args pt, eFlt args = some pt → ∀ (H : AHeap) (Kk : AV → AHeap → Prop), pt (fun r => Kk r H) → ACalls Tryz.prog f args H Kk := by
  intro args pt h H Kk hk
  unfold eFlt at h
  split at h
  · cases h; exact hf _ _ _ _ H (hk _ rfl)
  · cases h
theorem p100 (a b c d : Int) (H : AHeap) {Kk : AV → AHeap → Prop} (h : Kk (I (faultS a b c d)) H) : ACalls Tryz.prog 100 [.agg [I a, I b], I c, I d] H Kk := by
  refine (fun q => pureC (by rfl) (by rfl) q H h) ?_
  clear h
  intro Kk h
  obtain ⟨A, hA⟩ : ∃ A, A = std := ⟨_, rfl⟩
  obtain ⟨W, hW⟩ : ∃ W, W = faultS a b c d := ⟨_, rfl⟩
  rw [← hW] at h
  refine go100 rfl (SGo_run hA ⟨[], [], [], []⟩ .nil .nil 200 fun T TD hT hTD => ?_)
  clear hT hTD
  cbv
  repeat' (split <;> cbv)
  all_goals
    refine leaf h (congrArg I ?_) rfl
    clear h
    subst hA hW
    simp only [std, iLt, iLe, decide_eq_true_eq, decide_eq_false_iff_not] at *
    unfold faultS
    repeat' split
    all_goals omega
def iceE (x : IceK) : Int := if faultS x.b.1 x.b.2 0 5000 ≠ 0 then faultS x.b.1 x.b.2 0 5000 else if faultS x.w.1 x.w.2 0 5000 ≠ 0 then faultS x.w.1 x.w.2 0 5000 else if faultS x.t.1 x.t.2 0 5000 ≠ 0 then faultS x.t.1 x.t.2 0 5000 else faultS x.s.1 x.s.2 0 5000
theorem iceE_ok {x : IceK} (h : iceE x = 0) : IceB 20000 x := by
  unfold iceE at h
  split at h
  · rename_i h1; exact absurd h h1
  split at h
  · rename_i h1; exact absurd h h1
  split at h
  · rename_i h1; exact absurd h h1
  rename_i h1 h2 h3
  have e1 := faultS_ok (Decidable.not_not.1 h1)
  have e2 := faultS_ok (Decidable.not_not.1 h2)
  have e3 := faultS_ok (Decidable.not_not.1 h3)
  have e4 := faultS_ok h
  exact ⟨by omega, by omega, by omega, by omega, by omega, by omega, by omega, by omega, by omega⟩
end Go.Sas
namespace Go.Sas
open Go.Proofs
set_option maxRecDepth 100000
def eIc : List AV → Option ((AV → Prop) → Prop)
  | [x] => match asIc x with
    | some y => some fun K => K (icA (icK y))
    | none => none
  | _ => none
theorem eIc_ok {f : Nat} (hf : ∀ (x : IceK) (H : AHeap) {Kk : AV → AHeap → Prop}, Kk (icA x) H → ACalls Tryz.prog f [icA x] H Kk) : ∀ args pt, eIc args = some pt → ∀ (H : AHeap) (Kk : AV → AHeap → Prop), pt (fun r => Kk r H) → ACalls Tryz.prog f args H Kk := by
  intro args pt h H Kk hk
  unfold eIc at h
  split at h
  · split at h
    · rename_i y hy
      cases h
      exact (hf _ H hk).wk ⟨asIc_wk hy, trivial⟩
    · cases h
  · cases h
theorem p85 (x : IceK) (H : AHeap) {Kk : AV → AHeap → Prop} (h : Kk (icA x) H) : ACalls Tryz.prog 85 [icA x] H Kk := by
  obtain ⟨⟨a, b⟩, ⟨c, d⟩, ⟨e, f⟩, ⟨g, i⟩⟩ := x
  unfold icA at h ⊢
  refine (fun q => pureC (by rfl) (by rfl) q H h) ?_
  clear h
  intro Kk h
  obtain ⟨A, hA⟩ : ∃ A, A = std := ⟨_, rfl⟩
  refine go85 rfl (SGo_run hA ⟨[], [], [], []⟩ .nil .nil 200 fun T TD hT hTD => ?_)
  cbv
  exact h
theorem p86 (x : IceK) (H : AHeap) {Kk : AV → AHeap → Prop} (h : Kk (icA x) H) : ACalls Tryz.prog 86 [icA x] H Kk := by
  obtain ⟨⟨a, b⟩, ⟨c, d⟩, ⟨e, f⟩, ⟨g, i⟩⟩ := x
  unfold icA at h ⊢
  refine (fun q => pureC (by rfl) (by rfl) q H h) ?_
  clear h
  intro Kk h
  obtain ⟨A, hA⟩ : ∃ A, A = std := ⟨_, rfl⟩
  refine go86 rfl (SGo_run hA ⟨[], [], [], []⟩ .nil .nil 200 fun T TD hT hTD => ?_)
  cbv
  exact h
/-- a span of four -/
theorem aix4 {a b c d e f g h u v i : Int} {j : Nat} (hi : i = iLen j) (hx : [(a, b), (c, d), (e, f), (g, h)][j]? = some (u, v)) : aixS 4 2 (some 2) [I a, I b, I c, I d, I e, I f, I g, I h] i (.agg [I u, I v]) := by
  subst hi
  match j, hx with
  | 0, hx => simp at hx; obtain ⟨rfl, rfl⟩ := hx; exact ⟨by decide, by decide, rfl⟩
  | 1, hx => simp at hx; obtain ⟨rfl, rfl⟩ := hx; exact ⟨by decide, by decide, rfl⟩
  | 2, hx => simp at hx; obtain ⟨rfl, rfl⟩ := hx; exact ⟨by decide, by decide, rfl⟩
  | 3, hx => simp at hx; obtain ⟨rfl, rfl⟩ := hx; exact ⟨by decide, by decide, rfl⟩
def spE (y : Int × Int) : Int := faultS y.1 y.2 0 5000
theorem iceE_first (a b c d : Int × Int) : iceE ⟨a, b, c, d⟩ = firstE spE [a, b, c, d] := by
  unfold iceE
  simp only [firstE, spE]
  by_cases h1 : faultS a.1 a.2 0 5000 = 0 <;> by_cases h2 : faultS b.1 b.2 0 5000 = 0 <;> by_cases h3 : faultS c.1 c.2 0 5000 = 0 <;> by_cases h4 : faultS d.1 d.2 0 5000 = 0 <;> simp [h1, h2, h3, h4]
theorem p93 (x : IceK) (H : AHeap) {Kk : AV → AHeap → Prop} (h : Kk (I (iceE x)) H) : ACalls Tryz.prog 93 [icA x] H Kk := by
  obtain ⟨⟨a, b⟩, ⟨c, d⟩, ⟨e, f⟩, ⟨g, i⟩⟩ := x
  obtain ⟨W, hW⟩ : ∃ W, W = iceE ⟨(a, b), (c, d), (e, f), (g, i)⟩ := ⟨_, rfl⟩
  rw [← hW] at h
  rw [iceE_first] at hW
  unfold icA
  refine (fun q => pureC (by rfl) (by rfl) q H h) ?_
  clear h
  intro Kk h
  obtain ⟨A, hA⟩ : ∃ A, A = std := ⟨_, rfl⟩
  obtain ⟨l, hl⟩ : ∃ l, l = [(a, b), (c, d), (e, f), (g, i)] := ⟨_, rfl⟩
  rw [← hl] at hW
  have hll : l.length = 4 := by rw [hl]; rfl
  refine go93 rfl (SGo_run hA ⟨[], [], [(85, eIc), (100, eFlt)], []⟩ (.cons (eIc_ok p85) (.cons (eFlt_ok p100) .nil)) .nil 200 fun T TD hT hTD => ?_)
  cbv
  rw [hT]
  refine AGo_up 4 (fun j => W = firstE spE (l.drop j)) (fun _ i' => [(1, .mp 0 0 0), (2, I 0), (7, .agg [I a, I b, I c, I d, I e, I f, I g, I i]), (8, I i')]) (fun _ => [.own 0 [I a, I b, I c, I d, I e, I f, I g, I i]]) hW ⟨rfl, rfl, rfl, rfl, trivial⟩ (.inl rfl) fun j q hi hj hP Bk hB => ?_
  have hlt : A.lt q 4 = decide (j < 4) := by subst hA; simp only [std, iLt, hi]; unfold iLen; rw [decide_eq_decide]; omega
  have hadd : j < 4 → A.add .i64 q 1 = iLen (j + 1) := fun hj => by subst hA; exact add_one hi hj (by omega)
  refine SGo_run hA ⟨[], [], [(100, eFlt)], []⟩ (.cons (eFlt_ok p100) .nil) .nil 200 fun T TD hT hTD => ?_
  cbv
  split <;> cbv
  · rename_i hk1
    have hk1 : j < 4 := by have := hlt.symm.trans hk1; simpa using this
    obtain ⟨⟨u, v⟩, hx⟩ : ∃ x, l[j]? = some x := ⟨_, List.getElem?_eq_getElem (by omega)⟩
    have hix : A.aix 4 2 (some 2) [I a, I b, I c, I d, I e, I f, I g, I i] q (.agg [I u, I v]) := by subst hA; rw [hl] at hx; exact aix4 hi hx
    rw [drop_cons hx] at hP
    have hR : ∀ z, z ≠ 0 → spE (u, v) = z → W = z := fun z hz h => hP.trans (firstE_err h hz)
    have hN : spE (u, v) = 0 → W = firstE spE (l.drop (j + 1)) := fun h => hP.trans (firstE_ok h)
    refine Exists.intro _ (And.intro hix ?_); cbv
    rintro r hr; cbv
    have hr : spE (u, v) = r := hr.symm
    split <;> cbv
    · rename_i hq
      have hq : r ≠ 0 := by have hq : A.ne r 0 = true := hq; subst hA; simpa [std, iNe] using hq
      exact leaf h (congrArg I (hR _ hq hr)) rfl
    · rename_i hq
      have hq : r = 0 := by have hq : A.ne r 0 = false := hq; subst hA; simpa [std, iNe] using hq
      exact hB _ _ hk1 (hN (hr.trans hq)) ⟨rfl, rfl, rfl, congrArg I (hadd hk1), trivial⟩ (.inr ⟨⟨_, rfl⟩, by simp, by simp [ltG, AV.lt, AV.ltL], by simp [ltH, AObj.lt, AV.ltL, AV.lt]⟩)
  · rename_i hk1
    have hk1 : ¬ j < 4 := by have := hlt.symm.trans hk1; simpa using this
    refine leaf h (congrArg I ?_) rfl
    rw [hP, List.drop_eq_nil_of_le (by omega)]; rfl
end Go.Sas
