/-
Trucks of the program: how far along, where one stops, valid trucks, rides: contracts.
Valid trucks and convoys: contracts of the program's functions, on valid ones.
Conditions: none.
-/
import Derived.Test.YtndnjmpebpampaaGreatDoorWB
import Derived.Test.YtndnjmpebpampaaGreatDoorQLB
import Derived.Test.YtndnjmpebpampaaGreatDoorQLC
import Derived.Test.YtndnjmpebpampaaGreatDoorQLD
import Derived.Test.YtndnjmpebpampaaGreatDoorP8
set_option linter.unusedVariables false
set_option linter.unusedSimpArgs false
namespace Go.Sas
open Go.Proofs
set_option maxRecDepth 100000
abbrev rdV (w s l h : Int) (hv : AV) (L : Int) : AV := .agg [I w, I s, I l, I h, hv, I L]
theorem p48 (n a b : Int) (H : AHeap) {Kk : AV → AHeap → Prop} (h : Kk (B (decide (a ≤ n ∧ n ≤ b))) H) : ACalls Tryz.prog 48 [I n, I a, I b] H Kk := by
  refine (fun q => pureC (by rfl) (by rfl) q H h) ?_
  clear h
  intro Kk h
  obtain ⟨A, hA⟩ : ∃ A, A = std := ⟨_, rfl⟩
  refine go48 rfl (SGo_run hA ⟨[], [], [], []⟩ .nil .nil 200 fun T TD hT hTD => ?_)
  cbv
  split <;> cbv
  all_goals
    refine leaf h (congrArg B ?_) rfl
    subst hA
    simp only [std, iLe, decide_eq_true_eq, decide_eq_false_iff_not] at *
    simp [*]
theorem p67 (w s lo hi L a : Int) (ys : List AV) (hL : -1000000000 ≤ L ∧ L ≤ 1000000000) (ha : -1000000000 ≤ a ∧ a ≤ 1000000000) (H : AHeap) {Kk : AV → AHeap → Prop} (h : Kk (I (aloC L w a)) H) :
    ACalls Tryz.prog 67 [rdV w s lo hi (.vs 2 ys) L, I a] H Kk := by
  refine (fun q => pureC (by rfl) (by rfl) q H h) ?_
  clear h
  intro Kk h
  obtain ⟨W, hW⟩ : ∃ W, W = aloC L w a := ⟨_, rfl⟩
  rw [← hW] at h
  obtain ⟨A, hA⟩ : ∃ A, A = std := ⟨_, rfl⟩
  have hee : ∀ x y, A.eq x y = decide (x = y) := by subst hA; intro x y; exact iEqd _ _
  have hsb : A.sub .i64 L a = L - a := by subst hA; exact iSub_id (by omega) (by omega)
  refine go67 rfl (SGo_run hA ⟨[], [], [], []⟩ .nil .nil 200 fun T TD hT hTD => ?_)
  cbv
  split <;> cbv
  · rename_i hz
    have hz : w = 2 := by simpa using (hee _ _).symm.trans hz
    refine leaf h (congrArg I ?_) rfl
    rw [hW, aloC, if_pos hz]; exact hsb.symm
  · rename_i hz
    have hz : ¬ w = 2 := by simpa using (hee _ _).symm.trans hz
    refine leaf h (congrArg I ?_) rfl
    rw [hW, aloC, if_neg hz]
def eAloP : List AV → Option ((AV → Prop) → Prop)
  | [.agg [.lit (.int .i64 w), .lit (.int .i64 _), .lit (.int .i64 _), .lit (.int .i64 _), .vs 2 _, .lit (.int .i64 L)], .lit (.int .i64 a)] =>
    some fun K => ∃ _u : Unit, ((-1000000000 ≤ L ∧ L ≤ 1000000000) ∧ -1000000000 ≤ a ∧ a ≤ 1000000000) ∧ ∀ q, q = aloC L w a → K (I q)
  | _ => none
theorem eAloP_ok : ∀ args pt, eAloP args = some pt → ∀ (H : AHeap) (Kk : AV → AHeap → Prop), pt (fun r => Kk r H) → ACalls Tryz.prog 67 args H Kk := by
  intro args pt h H Kk hk
  unfold eAloP at h
  split at h
  · cases h
    obtain ⟨_, ⟨h1, h2⟩, h3⟩ := hk
    exact p67 _ _ _ _ _ _ _ h1 h2 H (h3 _ rfl)
  · cases h
theorem p89 (w s lo hi L m : Int) (hs : List Hld) (hL : -1000000000 ≤ L ∧ L ≤ 1000000000) (hS : HldS hs) (hl : hs.length ≤ 9223372036854775807) (H : AHeap) {Kk : AV → AHeap → Prop} (h : Kk (I (stopP L w m hs)) H) :
    ACalls Tryz.prog 89 [rdV w s lo hi (.vs 2 (hs.map hdV)) L, I m] H Kk := by
  refine (fun q => pureC (by rfl) (by rfl) q H h) ?_
  clear h
  intro Kk h
  obtain ⟨ys, hys⟩ : ∃ ys, ys = hs.map hdV := ⟨_, rfl⟩
  rw [← hys]
  obtain ⟨W, hW⟩ : ∃ W, W = stopP L w m hs := ⟨_, rfl⟩
  rw [← hW] at h
  obtain ⟨A, hA⟩ : ∃ A, A = std := ⟨_, rfl⟩
  have hll : ∀ x y, A.lt x y = decide (x < y) := by subst hA; intro x y; rfl
  refine go89 rfl (SGo_run hA ⟨[], [], [], []⟩ .nil .nil 200 fun T TD hT hTD => ?_)
  cbv
  rw [hT]
  refine AGo_upE [1, 2, 9, 10] hs.length (fun j (_ : Unit) => W = stopP L w m (hs.drop j)) (fun j _ i => [(11, I i)]) (fun _ _ => [.own 0 [I w, I s, I lo, I hi, .vs 2 ys, I L]]) () hW ⟨rfl, trivial⟩ (.inl rfl) fun j _ i hi2 hj hP Bk hB => ?_
  have hi := hi2
  have hlt : A.lt i (A.vlen ys) = decide (j < hs.length) := by subst hA; exact lt_len (by simp [hys]) hi
  have hadd : ∀ N, j < N → N ≤ 9223372036854775807 → A.add .i64 i 1 = iLen (j + 1) := fun N hj hN => by subst hA; exact add_one hi hj hN
  refine SGo_run hA ⟨[], [], (67, eAloP) :: [], []⟩ (.cons eAloP_ok .nil) .nil 200 fun T TD hT hTD => ?_
  cbv
  split <;> cbv
  · rename_i hk0
    have hk1 : j < hs.length := by have hz := hlt.symm.trans hk0; simpa using hz
    clear hk0
    obtain ⟨⟨a, u⟩, hx⟩ : ∃ x, hs[j]? = some x := ⟨_, List.getElem?_eq_getElem hk1⟩
    have hix : A.ix 2 2 ys i [I a, I u] := by subst hA; exact ix_map hys hi hx rfl
    have hb := hS _ (List.mem_of_getElem? hx)
    dsimp only at hb
    rw [drop_cons hx] at hP
    simp only [stopP] at hP
    refine Exists.intro _ (And.intro hix ?_); cbv
    split <;> cbv
    · rename_i hz2
      have hz2 : m < u := by simpa using (hll _ _).symm.trans hz2
      refine Exists.intro () (And.intro ⟨hL, hb⟩ ?_)
      intro q2 hq2; cbv
      refine leaf h (congrArg I ?_) rfl
      rw [hP, if_pos hz2, hq2]
    · rename_i hz2
      have hz2 : ¬ m < u := by simpa using (hll _ _).symm.trans hz2
      refine hB () _ _ hk1 (by rw [hP, if_neg hz2]) ⟨congrArg I (hadd _ hk1 hl), trivial⟩ ⟨rfl, rfl, rfl, rfl, trivial⟩ (.inr ⟨⟨_, rfl⟩, Nat.zero_le _, by simp [ltG, AV.lt, AV.ltL, keepS, look, gset], ⟨by simp [AObj.lt, AV.ltL, AV.lt], trivial⟩⟩)
  · rename_i hk0
    have hk1 : ¬ j < hs.length := by have hz := hlt.symm.trans hk0; simpa using hz
    clear hk0
    rw [List.drop_eq_nil_of_le (by omega)] at hP
    have hP : W = L := hP
    exact leaf h (congrArg I hP) rfl
def eStop : List AV → Option ((AV → Prop) → Prop)
  | [.agg [.lit (.int .i64 w), .lit (.int .i64 _), .lit (.int .i64 _), .lit (.int .i64 _), .vs 2 ys, .lit (.int .i64 L)], .lit (.int .i64 m)] =>
    some fun K => ∃ hs : List Hld, (ys = hs.map hdV ∧ (-1000000000 ≤ L ∧ L ≤ 1000000000) ∧ HldS hs ∧ hs.length ≤ 9223372036854775807) ∧ ∀ q, q = stopP L w m hs → K (I q)
  | _ => none
theorem eStop_ok : ∀ args pt, eStop args = some pt → ∀ (H : AHeap) (Kk : AV → AHeap → Prop), pt (fun r => Kk r H) → ACalls Tryz.prog 89 args H Kk := by
  intro args pt h H Kk hk
  unfold eStop at h
  split at h
  · cases h
    obtain ⟨hs, ⟨rfl, h1, h2, h4⟩, h3⟩ := hk
    exact p89 _ _ _ _ _ _ hs h1 h2 h4 H (h3 _ rfl)
  · cases h
/-- holds of one that fails, or not -/
def frH (f : Bool) (hs : List Hld) : List Hld := if f then [] else hs
theorem freeT_eq {f : Bool} {w s lo hi : Int} {hs : List Hld} : freeT f ⟨w, s, lo, hi, hs⟩ = ⟨w, s, lo, hi, frH f hs⟩ := by cases f <;> rfl
theorem p69 (L g fl : Int) (ts : List Tck) (i : Int) (j : Nat) (t : Tck) (f : Bool) (hi : i = iLen j) (hx : ts[j]? = some t) (hl : ts.length ≤ 1000) (H : AHeap) {Kk : AV → AHeap → Prop} (h : Kk (rdV t.way t.st t.lo t.hi (.vs 2 ((frH f t.hs).map hdV)) L) H) :
    ACalls Tryz.prog 69 [cvyV L g fl (.vs 5 (ts.map tkA)), I i, B f] H Kk := by
  refine (fun q => pureF (by rfl) (by rfl) q H h) ?_
  clear h
  intro Kk h
  obtain ⟨ys, hys⟩ : ∃ ys, ys = ts.map tkA := ⟨_, rfl⟩
  rw [← hys]
  obtain ⟨w, s, lo, hi', hs⟩ := t
  dsimp only at h
  obtain ⟨zs, hzs⟩ : ∃ z, z = hs.map hdV := ⟨_, rfl⟩
  have hzf : (frH f hs).map hdV = if f then [] else zs := by rw [hzs]; cases f <;> rfl
  rw [hzf] at h
  obtain ⟨A, hA⟩ : ∃ A, A = std := ⟨_, rfl⟩
  have hix : A.ix 5 5 ys i [I w, I s, I lo, I hi', .vs 2 zs] := by subst hA; rw [hzs]; exact ix_map hys hi hx rfl
  obtain ⟨F, hF⟩ : ∃ F, F = Frees 0 Kk := ⟨_, rfl⟩
  rw [← hF]
  cases f with
  | true =>
    refine go69 rfl (SGo_run hA ⟨[], [], [], []⟩ .nil .nil 200 fun T TD hT hTD => ?_)
    cbv
    refine Exists.intro _ (And.intro hix ?_); cbv
    rw [hF]
    exact Frees.wk (Wk.agg (bs := [I w, I s, I lo, I hi', .vs 2 [], I L]) ⟨Wk.rfl, Wk.rfl, Wk.rfl, Wk.rfl, Wk.nil, Wk.rfl, trivial⟩) (Frees.drop0 h rfl)
  | false =>
    refine go69 rfl (SGo_run hA ⟨[], [], [], []⟩ .nil .nil 200 fun T TD hT hTD => ?_)
    cbv
    refine Exists.intro _ (And.intro hix ?_); cbv
    rw [hF]
    exact Frees.drop0 h rfl
def eRideO : List AV → Option ((AV → Prop) → Prop)
  | [.agg [.lit (.int .i64 L), .lit (.int .i64 _), .lit (.int .i64 _), .vs 5 ys], .lit (.int .i64 i), .lit (.bool f)] =>
    some fun K => ∃ (ts : List Tck) (j : Nat) (t : Tck), (ys = ts.map tkA ∧ i = iLen j ∧ ts[j]? = some t ∧ ts.length ≤ 1000) ∧ ∀ zs, zs = (frH f t.hs).map hdV → K (rdV t.way t.st t.lo t.hi (.vs 2 zs) L)
  | _ => none
theorem eRideO_ok : ∀ args pt, eRideO args = some pt → ∀ (H : AHeap) (Kk : AV → AHeap → Prop), pt (fun r => Kk r H) → ACalls Tryz.prog 69 args H Kk := by
  intro args pt h H Kk hk
  unfold eRideO at h
  split at h
  · cases h
    obtain ⟨ts, j, t, ⟨rfl, h1, h2, h4⟩, h3⟩ := hk
    exact p69 _ _ _ ts _ j t _ h1 h2 h4 H (h3 _ rfl)
  · cases h
end Go.Sas
namespace Go.Sas
open Go.Proofs
set_option maxRecDepth 100000
set_option maxHeartbeats 4000000 in
theorem p49 (L gp f : Int) (ts : List AV) (t : Tck) (hV : TckV L gp t) (hL : 1 ≤ L ∧ L ≤ 100000) (hg : 1 ≤ gp ∧ gp ≤ 100000) (H : AHeap) {Kk : AV → AHeap → Prop} (h : Kk (I 0) H) :
    ACalls Tryz.prog 49 [cvyV L gp f (.vs 5 ts), tckV t.way t.st t.lo t.hi (.vs 2 (t.hs.map hdV))] H Kk := by
  refine (fun q => pureC (by rfl) (by rfl) q H h) ?_
  clear h
  intro Kk h
  have v1 := hV.way
  have v2 := hV.st
  have v3 := hV.lo
  have v4 := hV.hi
  have v5 := hV.len
  have v6 := hV.gap
  have v7 := hV.hs.n
  have v8 := hV.hs.all
  have v9 := hV.hs.ord
  obtain ⟨w, s, lo, hi, hs⟩ := t
  dsimp only at v1 v2 v3 v4 v5 v6 v7 v8 v9 ⊢
  obtain ⟨ys, hys⟩ : ∃ ys, ys = hs.map hdV := ⟨_, rfl⟩
  rw [← hys]
  obtain ⟨A, hA⟩ : ∃ A, A = std := ⟨_, rfl⟩
  have hll : ∀ x y, A.lt x y = decide (x < y) := by subst hA; intro x y; rfl
  have hle : ∀ x y, A.le x y = decide (x ≤ y) := by subst hA; intro x y; rfl
  have hnb : ∀ b, A.bnot b = !b := by subst hA; intro b; rfl
  obtain ⟨M1, hM1⟩ : ∃ M, M = A.mul .i64 1000 lo := ⟨_, rfl⟩
  obtain ⟨M2, hM2⟩ : ∃ M, M = A.mul .i64 2 hi := ⟨_, rfl⟩
  have e1 : M1 = 1000 * lo := by rw [hM1]; subst hA; exact iMul_id (by omega) (by omega)
  have e2 : M2 = 2 * hi := by rw [hM2]; subst hA; exact iMul_id (by omega) (by omega)
  have hsb : A.sub .i64 L 1 = L - 1 := by subst hA; exact iSub_id (by omega) (by omega)
  have hv8 : A.lt 8 (A.vlen ys) = decide (8 < hs.length) := by subst hA; simp only [std, iLt, hys, List.length_map, iLen]; rw [decide_eq_decide]; omega
  refine go49 rfl (SGo_run hA ⟨[], [], (48, eIn) :: [], []⟩ (.cons (eIn_ok p48) .nil) .nil 200 fun T TD hT hTD => ?_)
  cbv
  repeat' (first | (intro qq hfq; cbv) | (split <;> cbv))
  all_goals try
    exfalso
    clear hT hTD hA hys h hV v8 v9
    (simp only [hv8, hll, hnb, ← hM1, ← hM2] at *) <;> subst_vars <;> (try simp only [Bool.not_eq_true', Bool.not_eq_false', decide_eq_true_eq, decide_eq_false_iff_not, ne_eq, Decidable.not_not] at *) <;> omega
  all_goals
    rw [hT]
    refine AGo_upE [2, 3, 5, 66, 67] hs.length (fun j (_ : Unit) => True) (fun j _ i => [(68, I i)]) (fun _ _ => [.own 0 [I L, I gp, I f, .vs 5 ts], .own 0 [I w, I s, I lo, I hi, .vs 2 ys], .own 0 [I w, I s, I lo, I hi, .vs 2 ys, I L]]) () trivial ⟨rfl, trivial⟩ (.inl rfl) fun j _ i hi2 hj hP Bk hB => ?_
    have hlt : A.lt i (A.vlen ys) = decide (j < hs.length) := by subst hA; exact lt_len (by simp [hys]) hi2
    have hadd : ∀ N, j < N → N ≤ 9223372036854775807 → A.add .i64 i 1 = iLen (j + 1) := fun N hj hN => by subst hA; exact add_one hi2 hj hN
    refine SGo_run hA ⟨[6, 7], [], (48, eIn) :: (67, eAloP) :: [], []⟩ (.cons (eIn_ok p48) (.cons eAloP_ok .nil)) .nil 200 fun T TD hT hTD => ?_
    cbv
    split <;> cbv
    · rename_i hk0
      have hk1 : j < hs.length := by have hz := hlt.symm.trans hk0; simpa using hz
      clear hk0
      obtain ⟨⟨a, u⟩, hx⟩ : ∃ x, hs[j]? = some x := ⟨_, List.getElem?_eq_getElem hk1⟩
      have hix : A.ix 2 2 ys i [I a, I u] := by subst hA; exact ix_map hys hi2 hx rfl
      have hb := v8 _ (List.mem_of_getElem? hx)
      dsimp only at hb
      refine Exists.intro _ (And.intro hix ?_); cbv
      intro q1 hq1; cbv
      have hq1 : q1 = true := by rw [hq1]; show decide (1 ≤ a ∧ a ≤ A.sub .i64 L 1) = true; rw [hsb]; simp; omega
      split <;> cbv
      · rename_i hz
        have hz : q1 = false := by simpa using (hnb _).symm.trans hz
        rw [hz] at hq1; cases hq1
      intro q2 hq2; cbv
      have hq2 : q2 = true := by rw [hq2]; simp; omega
      split <;> cbv
      · rename_i hz
        have hz : q2 = false := by simpa using (hnb _).symm.trans hz
        rw [hz] at hq2; cases hq2
      split <;> cbv
      · rename_i hz
        have hz : A.lt 0 i = true := hz
        rw [hll, hi2] at hz
        have hj0 : 0 < j := by unfold iLen at hz; simp only [decide_eq_true_eq] at hz; omega
        have hsj : A.sub .i64 i 1 = iLen (j - 1) := by subst hA; rw [hi2]; show iSub .i64 _ _ = _; rw [iSub_id (by unfold iLen; omega) (by unfold iLen; omega)]; unfold iLen; omega
        obtain ⟨⟨a3, u3⟩, hx3⟩ : ∃ x, hs[j - 1]? = some x := ⟨_, List.getElem?_eq_getElem (by omega)⟩
        have hix3 : A.ix 2 2 ys (A.sub .i64 i 1) [I a3, I u3] := by rw [hsj]; subst hA; exact ix_map hys rfl hx3 rfl
        have hb3 := v8 _ (List.mem_of_getElem? hx3)
        dsimp only at hb3
        have hor : aloC L w a3 < aloC L w a := by
          obtain ⟨h1, g1⟩ := List.getElem?_eq_some_iff.1 hx
          obtain ⟨h3, g3⟩ := List.getElem?_eq_some_iff.1 hx3
          have := List.pairwise_iff_getElem.1 v9 (j - 1) j h3 h1 (by omega)
          rw [g1, g3] at this; exact this
        refine Exists.intro _ (And.intro hix3 ?_); cbv
        refine Exists.intro () (And.intro ⟨by omega, by omega⟩ ?_)
        intro q3 hq3; cbv
        refine Exists.intro () (And.intro ⟨by omega, by omega⟩ ?_)
        intro q4 hq4; cbv
        split <;> cbv
        · rename_i hz
          have hz : q3 ≤ q4 := by simpa using (hle _ _).symm.trans hz
          exfalso; rw [hq3, hq4] at hz; omega
        · refine hB () _ _ hk1 trivial ⟨congrArg I (hadd _ hk1 (by omega)), trivial⟩ ⟨rfl, rfl, rfl, rfl, rfl, trivial⟩ (.inr ⟨⟨_, rfl⟩, Nat.zero_le _, by simp [ltG, AV.lt, AV.ltL, keepS, look, gset], ⟨by simp [AObj.lt, AV.ltL, AV.lt], by simp [AObj.lt, AV.ltL, AV.lt], by simp [AObj.lt, AV.ltL, AV.lt], trivial⟩⟩)
      · refine hB () _ _ hk1 trivial ⟨congrArg I (hadd _ hk1 (by omega)), trivial⟩ ⟨rfl, rfl, rfl, rfl, rfl, trivial⟩ (.inr ⟨⟨_, rfl⟩, Nat.zero_le _, by simp [ltG, AV.lt, AV.ltL, keepS, look, gset], ⟨by simp [AObj.lt, AV.ltL, AV.lt], by simp [AObj.lt, AV.ltL, AV.lt], by simp [AObj.lt, AV.ltL, AV.lt], trivial⟩⟩)
    · rename_i hk0
      have hk1 : ¬ j < hs.length := by have hz := hlt.symm.trans hk0; simpa using hz
      clear hk0
      exact leaf h rfl rfl
def eCkT : List AV → Option ((AV → Prop) → Prop)
  | [.agg [.lit (.int .i64 L), .lit (.int .i64 gp), .lit (.int .i64 _), .vs 5 _], .agg [.lit (.int .i64 w), .lit (.int .i64 s), .lit (.int .i64 lo), .lit (.int .i64 hi), .vs 2 ys]] =>
    some fun K => ∃ (hs : List Hld), (ys = hs.map hdV ∧ TckV L gp ⟨w, s, lo, hi, hs⟩ ∧ (1 ≤ L ∧ L ≤ 100000) ∧ (1 ≤ gp ∧ gp ≤ 100000)) ∧ K (I 0)
  | _ => none
theorem eCkT_ok : ∀ args pt, eCkT args = some pt → ∀ (H : AHeap) (Kk : AV → AHeap → Prop), pt (fun r => Kk r H) → ACalls Tryz.prog 49 args H Kk := by
  intro args pt h H Kk hk
  unfold eCkT at h
  split at h
  · cases h
    obtain ⟨hs, ⟨rfl, h1, h2, h4⟩, h3⟩ := hk
    exact p49 _ _ _ _ ⟨_, _, _, _, hs⟩ h1 h2 h4 H h3
  · cases h
theorem p25 (c : Cvy) (hV : CvyV c) (H : AHeap) {Kk : AV → AHeap → Prop} (h : Kk (I 0) H) :
    ACalls Tryz.prog 25 [cvyV c.len c.gap c.fails (.vs 5 (c.trs.map tkA))] H Kk := by
  refine (fun q => pureC (by rfl) (by rfl) q H h) ?_
  clear h
  intro Kk h
  have v1 := hV.len
  have v2 := hV.gap
  have v3 := hV.fails
  have v4 := hV.n
  have v5 := hV.all
  obtain ⟨L, gp, f, trs⟩ := c
  dsimp only at v1 v2 v3 v4 v5 ⊢
  obtain ⟨ys, hys⟩ : ∃ ys, ys = trs.map tkA := ⟨_, rfl⟩
  rw [← hys]
  obtain ⟨A, hA⟩ : ∃ A, A = std := ⟨_, rfl⟩
  have hll : ∀ x y, A.lt x y = decide (x < y) := by subst hA; intro x y; rfl
  have hne : ∀ x y, A.ne x y = decide (x ≠ y) := by subst hA; intro x y; simp only [std, iNe]; rw [Bool.eq_iff_iff]; simp
  have hnb : ∀ b, A.bnot b = !b := by subst hA; intro b; rfl
  have hv8 : A.lt 20 (A.vlen ys) = decide (20 < trs.length) := by subst hA; simp only [std, iLt, hys, List.length_map, iLen]; rw [decide_eq_decide]; omega
  refine go25 rfl (SGo_run hA ⟨[], [], (48, eIn) :: [], []⟩ (.cons (eIn_ok p48) .nil) .nil 200 fun T TD hT hTD => ?_)
  cbv
  repeat' (first | (intro qq hfq; cbv) | (split <;> cbv))
  all_goals try
    exfalso
    clear hT hTD hA hys h v5 hV
    (simp only [hv8, hll, hnb] at *) <;> subst_vars <;> (try simp only [Bool.not_eq_true', Bool.not_eq_false', decide_eq_true_eq, decide_eq_false_iff_not, ne_eq, Decidable.not_not] at *) <;> omega
  all_goals
    rw [hT]
    refine AGo_upE [1, 29, 30] trs.length (fun j (_ : Unit) => True) (fun j _ i => [(31, I i)]) (fun _ _ => [.own 0 [I L, I gp, I f, .vs 5 ys]]) () trivial ⟨rfl, trivial⟩ (.inl rfl) fun j _ i hi2 hj hP Bk hB => ?_
    have hlt : A.lt i (A.vlen ys) = decide (j < trs.length) := by subst hA; exact lt_len (by simp [hys]) hi2
    have hadd : ∀ N, j < N → N ≤ 9223372036854775807 → A.add .i64 i 1 = iLen (j + 1) := fun N hj hN => by subst hA; exact add_one hi2 hj hN
    refine SGo_run hA ⟨[], [], (49, eCkT) :: [], []⟩ (.cons eCkT_ok .nil) .nil 200 fun T TD hT hTD => ?_
    cbv
    split <;> cbv
    · rename_i hk0
      have hk1 : j < trs.length := by have hz := hlt.symm.trans hk0; simpa using hz
      clear hk0
      obtain ⟨t, hx⟩ : ∃ x, trs[j]? = some x := ⟨_, List.getElem?_eq_getElem hk1⟩
      have hb := v5 _ (List.mem_of_getElem? hx)
      obtain ⟨w, s, lo, hi, hs⟩ := t
      obtain ⟨zs, hzs⟩ : ∃ z, z = hs.map hdV := ⟨_, rfl⟩
      have hix : A.ix 5 5 ys i [I w, I s, I lo, I hi, .vs 2 zs] := by subst hA; rw [hzs]; exact ix_map hys hi2 hx rfl
      refine Exists.intro _ (And.intro hix ?_); cbv
      refine Exists.intro hs (And.intro ⟨hzs, hb, v1, v2⟩ ?_); cbv
      split <;> cbv
      · rename_i hz
        exfalso
        have hz := (hne _ _).symm.trans hz
        simp at hz
      · refine hB () _ _ hk1 trivial ⟨congrArg I (hadd _ hk1 (by omega)), trivial⟩ ⟨rfl, rfl, rfl, trivial⟩ (.inr ⟨⟨_, rfl⟩, Nat.zero_le _, by simp [ltG, AV.lt, AV.ltL, keepS, look, gset], ⟨by simp [AObj.lt, AV.ltL, AV.lt], trivial⟩⟩)
    · rename_i hk0
      have hk1 : ¬ j < trs.length := by have hz := hlt.symm.trans hk0; simpa using hz
      clear hk0
      exact leaf h rfl rfl
def eCk : List AV → Option ((AV → Prop) → Prop)
  | [.agg [.lit (.int .i64 L), .lit (.int .i64 gp), .lit (.int .i64 f), .vs 5 ys]] =>
    some fun K => ∃ (trs : List Tck), (ys = trs.map tkA ∧ CvyV ⟨L, gp, f, trs⟩) ∧ K (I 0)
  | _ => none
theorem eCk_ok : ∀ args pt, eCk args = some pt → ∀ (H : AHeap) (Kk : AV → AHeap → Prop), pt (fun r => Kk r H) → ACalls Tryz.prog 25 args H Kk := by
  intro args pt h H Kk hk
  unfold eCk at h
  split at h
  · cases h
    obtain ⟨trs, ⟨rfl, h1⟩, h3⟩ := hk
    exact p25 ⟨_, _, _, trs⟩ h1 H h3
  · cases h
end Go.Sas
