/-
Trucks: where one stops, how far it is in the next minute, whether it is on the lane: contracts of the reference's functions.
Trucks: a truck that fails, on the lane, metres of the road, too near: contracts of the reference's functions.
Conditions: none.
-/
import Derived.Test.YtndnjmpebpampaaGreatDoorLM
import Derived.Test.YtndnjmpebpampaaGreatDoorQLA
import Derived.Test.YtndnjmpebpampaaGreatDoorP7
set_option linter.unusedVariables false
set_option linter.unusedSimpArgs false
namespace Go.Sas
open Go.Proofs
set_option maxRecDepth 100000
theorem iMinE (a b : Int) : iMin a b = min a b := by unfold iMin; omega
theorem iMaxE (a b : Int) : iMax a b = max a b := by unfold iMax; omega
theorem iEqd (x y : Int) : iEq x y = decide (x = y) := by simp only [iEq]; rw [Bool.eq_iff_iff]; simp
abbrev hdV (h : Hld) : AV := .agg [I h.a, I h.u]
abbrev tckV (w s l h : Int) (hv : AV) : AV := .agg [I w, I s, I l, I h, hv]
abbrev cvyV (L g f : Int) (tv : AV) : AV := .agg [I L, I g, I f, tv]
theorem p64 (n a b : Int) (H : AHeap) {Kk : AV → AHeap → Prop} (h : Kk (B (decide (a ≤ n ∧ n ≤ b))) H) : ACalls Tryz.prog 64 [I n, I a, I b] H Kk := by
  refine (fun q => pureC (by rfl) (by rfl) q H h) ?_
  clear h
  intro Kk h
  obtain ⟨A, hA⟩ : ∃ A, A = std := ⟨_, rfl⟩
  refine go64 rfl (SGo_run hA ⟨[], [], [], []⟩ .nil .nil 200 fun T TD hT hTD => ?_)
  cbv
  split <;> cbv
  all_goals
    refine leaf h (congrArg B ?_) rfl
    subst hA
    simp only [std, iLe, decide_eq_true_eq, decide_eq_false_iff_not] at *
    simp [*]
def eIn : List AV → Option ((AV → Prop) → Prop)
  | [.lit (.int .i64 n), .lit (.int .i64 a), .lit (.int .i64 b)] => some fun K => ∀ q, q = decide (a ≤ n ∧ n ≤ b) → K (B q)
  | _ => none
theorem eIn_ok {f : Nat} (hf : ∀ (n a b : Int) (H : AHeap) {Kk : AV → AHeap → Prop}, Kk (B (decide (a ≤ n ∧ n ≤ b))) H → ACalls Tryz.prog f [I n, I a, I b] H Kk) : ∀ args pt, eIn args = some pt → ∀ (H : AHeap) (Kk : AV → AHeap → Prop), pt (fun r => Kk r H) → ACalls Tryz.prog f args H Kk := by
  intro args pt h H Kk hk
  unfold eIn at h
  split at h
  · cases h; exact hf _ _ _ H (hk _ rfl)
  · cases h
theorem p62 (L g f w s lo hi a u : Int) (ts ys : List AV) (hL : -1000000000 ≤ L ∧ L ≤ 1000000000) (ha : -1000000000 ≤ a ∧ a ≤ 1000000000) (H : AHeap) {Kk : AV → AHeap → Prop} (h : Kk (I (aloC L w a)) H) :
    ACalls Tryz.prog 62 [cvyV L g f (.vs 5 ts), tckV w s lo hi (.vs 2 ys), .agg [I a, I u]] H Kk := by
  refine (fun q => pureC (by rfl) (by rfl) q H h) ?_
  clear h
  intro Kk h
  obtain ⟨W, hW⟩ : ∃ W, W = aloC L w a := ⟨_, rfl⟩
  rw [← hW] at h
  obtain ⟨A, hA⟩ : ∃ A, A = std := ⟨_, rfl⟩
  have hee : ∀ x y, A.eq x y = decide (x = y) := by subst hA; intro x y; exact iEqd _ _
  have hsb : A.sub .i64 L a = L - a := by subst hA; exact iSub_id (by omega) (by omega)
  refine go62 rfl (SGo_run hA ⟨[], [], [], []⟩ .nil .nil 200 fun T TD hT hTD => ?_)
  cbv
  split <;> cbv
  · rename_i hz
    have hz : w = 2 := by simpa using (hee _ _).symm.trans hz
    refine leaf h (congrArg I ?_) rfl
    rw [hW, aloC, if_pos hz]; exact hsb.symm
  · rename_i hz
    have hz : ¬ w = 2 := by simpa using (hee _ _).symm.trans hz
    refine leaf h (congrArg I ?_) rfl
    rw [hW, aloC, if_neg hz]
def eAloR : List AV → Option ((AV → Prop) → Prop)
  | [.agg [.lit (.int .i64 L), .lit (.int .i64 _), .lit (.int .i64 _), .vs 5 _], .agg [.lit (.int .i64 w), .lit (.int .i64 _), .lit (.int .i64 _), .lit (.int .i64 _), .vs 2 _], .agg [.lit (.int .i64 a), .lit (.int .i64 _)]] =>
    some fun K => ∃ _u : Unit, ((-1000000000 ≤ L ∧ L ≤ 1000000000) ∧ -1000000000 ≤ a ∧ a ≤ 1000000000) ∧ ∀ q, q = aloC L w a → K (I q)
  | _ => none
theorem eAloR_ok : ∀ args pt, eAloR args = some pt → ∀ (H : AHeap) (Kk : AV → AHeap → Prop), pt (fun r => Kk r H) → ACalls Tryz.prog 62 args H Kk := by
  intro args pt h H Kk hk
  unfold eAloR at h
  split at h
  · cases h
    obtain ⟨_, ⟨h1, h2⟩, h3⟩ := hk
    exact p62 _ _ _ _ _ _ _ _ _ _ _ h1 h2 H (h3 _ rfl)
  · cases h
/-- holds whose numbers are small -/
def HldS (l : List Hld) : Prop := ∀ h ∈ l, -1000000000 ≤ h.a ∧ h.a ≤ 1000000000
theorem p61 (L gp f w s lo hi g m : Int) (ts : List AV) (hs : List Hld) (hL : -1000000000 ≤ L ∧ L ≤ 1000000000) (hS : HldS hs) (hl : hs.length ≤ 9223372036854775807) (H : AHeap) {Kk : AV → AHeap → Prop} (h : Kk (I (stopG L w g m hs)) H) :
    ACalls Tryz.prog 61 [cvyV L gp f (.vs 5 ts), tckV w s lo hi (.vs 2 (hs.map hdV)), I g, I m] H Kk := by
  refine (fun q => pureC (by rfl) (by rfl) q H h) ?_
  clear h
  intro Kk h
  obtain ⟨ys, hys⟩ : ∃ ys, ys = hs.map hdV := ⟨_, rfl⟩
  rw [← hys]
  obtain ⟨W, hW⟩ : ∃ W, W = stopG L w g m hs := ⟨_, rfl⟩
  rw [← hW] at h
  obtain ⟨A, hA⟩ : ∃ A, A = std := ⟨_, rfl⟩
  have hll : ∀ x y, A.lt x y = decide (x < y) := by subst hA; intro x y; rfl
  have hle : ∀ x y, A.le x y = decide (x ≤ y) := by subst hA; intro x y; rfl
  refine go61 rfl (SGo_run hA ⟨[], [], [], []⟩ .nil .nil 200 fun T TD hT hTD => ?_)
  cbv
  rw [hT]
  refine AGo_upE [0, 1, 2, 3, 4, 5, 8] hs.length (fun j (_ : Unit) => W = stopG L w g m (hs.drop j)) (fun j _ i => [(9, I i)]) (fun _ _ => [.own 0 [I L, I gp, I f, .vs 5 ts], .own 0 [I w, I s, I lo, I hi, .vs 2 ys]]) () hW ⟨rfl, trivial⟩ (.inl rfl) fun j _ i hi2 hj hP Bk hB => ?_
  have hi := hi2
  have hlt : A.lt i (A.vlen ys) = decide (j < hs.length) := by subst hA; exact lt_len (by simp [hys]) hi
  have hadd : ∀ N, j < N → N ≤ 9223372036854775807 → A.add .i64 i 1 = iLen (j + 1) := fun N hj hN => by subst hA; exact add_one hi hj hN
  refine SGo_run hA ⟨[], [], (62, eAloR) :: [], []⟩ (.cons eAloR_ok .nil) .nil 200 fun T TD hT hTD => ?_
  cbv
  split <;> cbv
  · rename_i hk0
    have hk1 : j < hs.length := by have hz := hlt.symm.trans hk0; simpa using hz
    clear hk0
    obtain ⟨⟨a, u⟩, hx⟩ : ∃ x, hs[j]? = some x := ⟨_, List.getElem?_eq_getElem hk1⟩
    have hix : A.ix 2 2 ys i [I a, I u] := by subst hA; exact ix_map hys hi hx rfl
    have hb := hS _ (List.mem_of_getElem? hx)
    dsimp only at hb
    rw [drop_cons hx] at hP
    simp only [stopG] at hP
    refine Exists.intro _ (And.intro hix ?_); cbv
    refine Exists.intro () (And.intro ⟨hL, hb⟩ ?_)
    intro q hq; cbv
    split <;> cbv
    · rename_i hz1
      have hz1 : g ≤ q := by simpa using (hle _ _).symm.trans hz1
      refine Exists.intro _ (And.intro hix ?_); cbv
      split <;> cbv
      · rename_i hz2
        have hz2 : m < u := by simpa using (hll _ _).symm.trans hz2
        refine Exists.intro _ (And.intro hix ?_); cbv
        refine Exists.intro () (And.intro ⟨hL, hb⟩ ?_)
        intro q2 hq2; cbv
        refine leaf h (congrArg I ?_) rfl
        rw [hP, if_pos (by rw [← hq]; exact ⟨hz1, hz2⟩), hq2]
      · rename_i hz2
        have hz2 : ¬ m < u := by simpa using (hll _ _).symm.trans hz2
        refine hB () _ _ hk1 (by rw [hP, if_neg (fun h => hz2 h.2)]) ⟨congrArg I (hadd _ hk1 hl), trivial⟩ ⟨rfl, rfl, rfl, rfl, rfl, rfl, rfl, trivial⟩ (.inl rfl)
    · rename_i hz1
      have hz1 : ¬ g ≤ q := by simpa using (hle _ _).symm.trans hz1
      refine hB () _ _ hk1 (by rw [hP, if_neg (fun h => hz1 (by rw [hq]; exact h.1))]) ⟨congrArg I (hadd _ hk1 hl), trivial⟩ ⟨rfl, rfl, rfl, rfl, rfl, rfl, rfl, trivial⟩ (.inl rfl)
  · rename_i hk0
    have hk1 : ¬ j < hs.length := by have hz := hlt.symm.trans hk0; simpa using hz
    clear hk0
    rw [List.drop_eq_nil_of_le (by omega)] at hP
    have hP : W = L := hP
    exact leaf h (congrArg I hP) rfl
def eStopR : List AV → Option ((AV → Prop) → Prop)
  | [.agg [.lit (.int .i64 L), .lit (.int .i64 _), .lit (.int .i64 _), .vs 5 _], .agg [.lit (.int .i64 w), .lit (.int .i64 _), .lit (.int .i64 _), .lit (.int .i64 _), .vs 2 ys], .lit (.int .i64 g), .lit (.int .i64 m)] =>
    some fun K => ∃ hs : List Hld, (ys = hs.map hdV ∧ (-1000000000 ≤ L ∧ L ≤ 1000000000) ∧ HldS hs ∧ hs.length ≤ 9223372036854775807) ∧ ∀ q, q = stopG L w g m hs → K (I q)
  | _ => none
theorem eStopR_ok : ∀ args pt, eStopR args = some pt → ∀ (H : AHeap) (Kk : AV → AHeap → Prop), pt (fun r => Kk r H) → ACalls Tryz.prog 61 args H Kk := by
  intro args pt h H Kk hk
  unfold eStopR at h
  split at h
  · cases h
    obtain ⟨hs, ⟨rfl, h1, h2, h4⟩, h3⟩ := hk
    exact p61 _ _ _ _ _ _ _ _ _ _ hs h1 h2 h4 H (h3 _ rfl)
  · cases h
theorem p36 (L gp f w s lo hi g m d : Int) (ts : List AV) (hs : List Hld) (hL : -1000000000 ≤ L ∧ L ≤ 1000000000) (hS : HldS hs) (hl : hs.length ≤ 9223372036854775807) (hg : -1000000000 ≤ g ∧ g ≤ 1000000000) (hd : -1000000000 ≤ d ∧ d ≤ 1000000000) (H : AHeap) {Kk : AV → AHeap → Prop} (h : Kk (I (min (g + d) (stopG L w g m hs))) H) :
    ACalls Tryz.prog 36 [cvyV L gp f (.vs 5 ts), tckV w s lo hi (.vs 2 (hs.map hdV)), I g, I m, I d] H Kk := by
  refine (fun q => pureC (by rfl) (by rfl) q H h) ?_
  clear h
  intro Kk h
  obtain ⟨ys, hys⟩ : ∃ ys, ys = hs.map hdV := ⟨_, rfl⟩
  rw [← hys]
  obtain ⟨W, hW⟩ : ∃ W, W = min (g + d) (stopG L w g m hs) := ⟨_, rfl⟩
  rw [← hW] at h
  obtain ⟨A, hA⟩ : ∃ A, A = std := ⟨_, rfl⟩
  have had : A.add .i64 g d = g + d := by subst hA; exact iAdd_id (by omega) (by omega)
  have hmn : ∀ x y, A.min x y = min x y := by subst hA; intro x y; exact iMinE _ _
  refine go36 rfl (SGo_run hA ⟨[], [], (61, eStopR) :: [], []⟩ (.cons eStopR_ok .nil) .nil 200 fun T TD hT hTD => ?_)
  cbv
  refine Exists.intro hs (And.intro ⟨hys, hL, hS, hl⟩ ?_)
  intro q hq; cbv
  refine leaf h (congrArg I ?_) rfl
  rw [hW, ← hq, ← had]; exact (hmn _ _).symm
def eNextR : List AV → Option ((AV → Prop) → Prop)
  | [.agg [.lit (.int .i64 L), .lit (.int .i64 _), .lit (.int .i64 _), .vs 5 _], .agg [.lit (.int .i64 w), .lit (.int .i64 _), .lit (.int .i64 _), .lit (.int .i64 _), .vs 2 ys], .lit (.int .i64 g), .lit (.int .i64 m), .lit (.int .i64 d)] =>
    some fun K => ∃ hs : List Hld, (ys = hs.map hdV ∧ ((-1000000000 ≤ L ∧ L ≤ 1000000000) ∧ HldS hs ∧ hs.length ≤ 9223372036854775807) ∧ (-1000000000 ≤ g ∧ g ≤ 1000000000) ∧ -1000000000 ≤ d ∧ d ≤ 1000000000) ∧ ∀ q, q = min (g + d) (stopG L w g m hs) → K (I q)
  | _ => none
theorem eNextR_ok : ∀ args pt, eNextR args = some pt → ∀ (H : AHeap) (Kk : AV → AHeap → Prop), pt (fun r => Kk r H) → ACalls Tryz.prog 36 args H Kk := by
  intro args pt h H Kk hk
  unfold eNextR at h
  split at h
  · cases h
    obtain ⟨hs, ⟨rfl, ⟨h1, h2, h4⟩, h5, h6⟩, h3⟩ := hk
    exact p36 _ _ _ _ _ _ _ _ _ _ _ hs h1 h2 h4 h5 h6 H (h3 _ rfl)
  · cases h
/-- on the lane, as the reference says -/
def lanB (L w s g m : Int) (hs : List Hld) : Bool := !(decide (m < s) || decide (L ≤ g)) && hs.all fun h => !(decide (aloC L w h.a = g) && decide (m < h.u))
theorem p37 (L gp f w s lo hi g m : Int) (ts : List AV) (hs : List Hld) (hL : -1000000000 ≤ L ∧ L ≤ 1000000000) (hS : HldS hs) (hl : hs.length ≤ 9223372036854775807) (H : AHeap) {Kk : AV → AHeap → Prop} (h : Kk (B (lanB L w s g m hs)) H) :
    ACalls Tryz.prog 37 [cvyV L gp f (.vs 5 ts), tckV w s lo hi (.vs 2 (hs.map hdV)), I g, I m] H Kk := by
  refine (fun q => pureC (by rfl) (by rfl) q H h) ?_
  clear h
  intro Kk h
  obtain ⟨ys, hys⟩ : ∃ ys, ys = hs.map hdV := ⟨_, rfl⟩
  rw [← hys]
  obtain ⟨W, hW⟩ : ∃ W, W = lanB L w s g m hs := ⟨_, rfl⟩
  rw [← hW] at h
  unfold lanB at hW
  obtain ⟨A, hA⟩ : ∃ A, A = std := ⟨_, rfl⟩
  have hll : ∀ x y, A.lt x y = decide (x < y) := by subst hA; intro x y; rfl
  have hle : ∀ x y, A.le x y = decide (x ≤ y) := by subst hA; intro x y; rfl
  have hee : ∀ x y, A.eq x y = decide (x = y) := by subst hA; intro x y; exact iEqd _ _
  have h0 : m < s ∨ L ≤ g → W = false := fun hh => by rw [hW]; rcases hh with hh | hh <;> simp [hh]
  have h1 : ¬ m < s → ¬ L ≤ g → W = hs.all fun h => !(decide (aloC L w h.a = g) && decide (m < h.u)) := fun h2 h3 => by rw [hW]; simp [h2, h3]
  clear hW
  refine go37 rfl (SGo_run hA ⟨[], [], [], []⟩ .nil .nil 200 fun T TD hT hTD => ?_)
  cbv
  split <;> cbv
  · rename_i hz
    have hz : m < s := by simpa using (hll _ _).symm.trans hz
    exact leaf h (congrArg B (h0 (.inl hz))) rfl
  rename_i hz1
  have hz1 : ¬ m < s := by simpa using (hll _ _).symm.trans hz1
  split <;> cbv
  · rename_i hz
    have hz : L ≤ g := by simpa using (hle _ _).symm.trans hz
    exact leaf h (congrArg B (h0 (.inr hz))) rfl
  rename_i hz2
  have hz2 : ¬ L ≤ g := by simpa using (hle _ _).symm.trans hz2
  have hW := h1 hz1 hz2
  clear h0 h1
  rw [hT]
  refine AGo_upE [0, 1, 2, 3, 4, 5, 8] hs.length (fun j (_ : Unit) => W = (hs.drop j).all fun h => !(decide (aloC L w h.a = g) && decide (m < h.u))) (fun j _ i => [(9, I i)]) (fun _ _ => [.own 0 [I L, I gp, I f, .vs 5 ts], .own 0 [I w, I s, I lo, I hi, .vs 2 ys]]) () hW ⟨rfl, trivial⟩ (.inl rfl) fun j _ i hi2 hj hP Bk hB => ?_
  have hi := hi2
  have hlt : A.lt i (A.vlen ys) = decide (j < hs.length) := by subst hA; exact lt_len (by simp [hys]) hi
  have hadd : ∀ N, j < N → N ≤ 9223372036854775807 → A.add .i64 i 1 = iLen (j + 1) := fun N hj hN => by subst hA; exact add_one hi hj hN
  refine SGo_run hA ⟨[], [], (62, eAloR) :: [], []⟩ (.cons eAloR_ok .nil) .nil 200 fun T TD hT hTD => ?_
  cbv
  split <;> cbv
  · rename_i hk0
    have hk1 : j < hs.length := by have hz := hlt.symm.trans hk0; simpa using hz
    clear hk0
    obtain ⟨⟨a, u⟩, hx⟩ : ∃ x, hs[j]? = some x := ⟨_, List.getElem?_eq_getElem hk1⟩
    have hix : A.ix 2 2 ys i [I a, I u] := by subst hA; exact ix_map hys hi hx rfl
    have hb := hS _ (List.mem_of_getElem? hx)
    dsimp only at hb
    rw [drop_cons hx, List.all_cons] at hP
    dsimp only at hP
    refine Exists.intro _ (And.intro hix ?_); cbv
    refine Exists.intro () (And.intro ⟨hL, hb⟩ ?_)
    intro q hq; cbv
    split <;> cbv
    · rename_i hz1
      have hz1 : q = g := by simpa using (hee _ _).symm.trans hz1
      refine Exists.intro _ (And.intro hix ?_); cbv
      split <;> cbv
      · rename_i hz2
        have hz2 : m < u := by simpa using (hll _ _).symm.trans hz2
        refine leaf h (congrArg B ?_) rfl
        rw [hP]; simp [← hq, hz1, hz2]
      · rename_i hz2
        have hz2 : ¬ m < u := by simpa using (hll _ _).symm.trans hz2
        refine hB () _ _ hk1 (by rw [hP]; simp [hz2]) ⟨congrArg I (hadd _ hk1 hl), trivial⟩ ⟨rfl, rfl, rfl, rfl, rfl, rfl, rfl, trivial⟩ (.inl rfl)
    · rename_i hz1
      have hz1 : ¬ q = g := by simpa using (hee _ _).symm.trans hz1
      refine hB () _ _ hk1 (by rw [hP]; simp [← hq, hz1]) ⟨congrArg I (hadd _ hk1 hl), trivial⟩ ⟨rfl, rfl, rfl, rfl, rfl, rfl, rfl, trivial⟩ (.inl rfl)
  · rename_i hk0
    have hk1 : ¬ j < hs.length := by have hz := hlt.symm.trans hk0; simpa using hz
    clear hk0
    rw [List.drop_eq_nil_of_le (by omega)] at hP
    have hP : W = true := hP
    exact leaf h (congrArg B hP) rfl
def eLanR : List AV → Option ((AV → Prop) → Prop)
  | [.agg [.lit (.int .i64 L), .lit (.int .i64 _), .lit (.int .i64 _), .vs 5 _], .agg [.lit (.int .i64 w), .lit (.int .i64 s), .lit (.int .i64 _), .lit (.int .i64 _), .vs 2 ys], .lit (.int .i64 g), .lit (.int .i64 m)] =>
    some fun K => ∃ hs : List Hld, (ys = hs.map hdV ∧ (-1000000000 ≤ L ∧ L ≤ 1000000000) ∧ HldS hs ∧ hs.length ≤ 9223372036854775807) ∧ ∀ q, q = lanB L w s g m hs → K (B q)
  | _ => none
theorem eLanR_ok : ∀ args pt, eLanR args = some pt → ∀ (H : AHeap) (Kk : AV → AHeap → Prop), pt (fun r => Kk r H) → ACalls Tryz.prog 37 args H Kk := by
  intro args pt h H Kk hk
  unfold eLanR at h
  split at h
  · cases h
    obtain ⟨hs, ⟨rfl, h1, h2, h4⟩, h3⟩ := hk
    exact p37 _ _ _ _ _ _ _ _ _ _ hs h1 h2 h4 H (h3 _ rfl)
  · cases h
end Go.Sas
namespace Go.Sas
open Go.Proofs
set_option maxRecDepth 100000
def freeL (f : Bool) (ys : List AV) : List AV := if f then [] else ys
theorem p44 (w s lo hi : Int) (ys : List AV) (f : Bool) (H : AHeap) {Kk : AV → AHeap → Prop} (h : Kk (tckV w s lo hi (.vs 2 (freeL f ys))) H) : ACalls Tryz.prog 44 [tckV w s lo hi (.vs 2 ys), B f] H Kk := by
  refine (fun q => pureF (by rfl) (by rfl) q H h) ?_
  clear h
  intro Kk h
  obtain ⟨A, hA⟩ : ∃ A, A = std := ⟨_, rfl⟩
  obtain ⟨F, hF⟩ : ∃ F, F = Frees 0 Kk := ⟨_, rfl⟩
  rw [← hF]
  cases f with
  | true =>
    refine go44 rfl (SGo_run hA ⟨[], [], [], []⟩ .nil .nil 200 fun T TD hT hTD => ?_)
    cbv
    rw [hF]
    exact Frees.wk (Wk.agg (bs := [I w, I s, I lo, I hi, .vs 2 []]) ⟨Wk.rfl, Wk.rfl, Wk.rfl, Wk.rfl, Wk.nil, trivial⟩) (Frees.drop0 h rfl)
  | false =>
    refine go44 rfl (SGo_run hA ⟨[], [], [], []⟩ .nil .nil 200 fun T TD hT hTD => ?_)
    cbv
    rw [hF]
    exact Frees.drop0 h rfl
def eFreeR : List AV → Option ((AV → Prop) → Prop)
  | [.agg [.lit (.int .i64 w), .lit (.int .i64 s), .lit (.int .i64 lo), .lit (.int .i64 hi), .vs 2 ys], .lit (.bool f)] => some fun K => ∀ zs, zs = freeL f ys → K (.agg [I w, I s, I lo, I hi, .vs 2 zs])
  | _ => none
theorem eFreeR_ok : ∀ args pt, eFreeR args = some pt → ∀ (H : AHeap) (Kk : AV → AHeap → Prop), pt (fun r => Kk r H) → ACalls Tryz.prog 44 args H Kk := by
  intro args pt h H Kk hk
  unfold eFreeR at h
  split at h
  · cases h; exact p44 _ _ _ _ _ _ H (hk _ rfl)
  · cases h
def cutL (L w s m : Int) (hs : List Hld) (x : Int) : Int := if lanB L w s x m hs = true then x else x - 1
theorem p45 (L gp f w s lo hi x1 x2 m : Int) (ts : List AV) (hs : List Hld) (hL : -1000000000 ≤ L ∧ L ≤ 1000000000) (hS : HldS hs) (hl : hs.length ≤ 9223372036854775807) (hx : -1000000000 ≤ x2 ∧ x2 ≤ 1000000000) (H : AHeap) {Kk : AV → AHeap → Prop}
    (h : Kk (.tup [.agg [I x1, I (cutL L w s m hs x2)], B (decide (s ≤ m ∧ x1 ≤ cutL L w s m hs x2))]) H) :
    ACalls Tryz.prog 45 [cvyV L gp f (.vs 5 ts), tckV w s lo hi (.vs 2 (hs.map hdV)), .agg [I x1, I x2], I m] H Kk := by
  refine (fun q => pureC (by rfl) (by rfl) q H h) ?_
  clear h
  intro Kk h
  obtain ⟨ys, hys⟩ : ∃ ys, ys = hs.map hdV := ⟨_, rfl⟩
  rw [← hys]
  obtain ⟨W, hW⟩ : ∃ W, W = cutL L w s m hs x2 := ⟨_, rfl⟩
  rw [← hW] at h
  obtain ⟨V, hV⟩ : ∃ V, V = decide (s ≤ m ∧ x1 ≤ W) := ⟨_, rfl⟩
  rw [← hV] at h
  unfold cutL at hW
  obtain ⟨A, hA⟩ : ∃ A, A = std := ⟨_, rfl⟩
  have hle : ∀ x y, A.le x y = decide (x ≤ y) := by subst hA; intro x y; rfl
  have hnb : ∀ b, A.bnot b = !b := by subst hA; intro b; rfl
  have hsb : A.sub .i64 x2 1 = x2 - 1 := by subst hA; exact iSub_id (by omega) (by omega)
  refine go45 rfl (SGo_run hA ⟨[], [3], (37, eLanR) :: [], []⟩ (.cons eLanR_ok .nil) .nil 200 fun T TD hT hTD => ?_)
  cbv
  refine Exists.intro hs (And.intro ⟨hys, hL, hS, hl⟩ ?_)
  intro q hq; cbv
  rw [← hq] at hW
  split <;> cbv
  · rename_i hz
    have hz : q = false := by simpa using (hnb _).symm.trans hz
    rw [hz] at hW
    have hW : W = A.sub .i64 x2 1 := by rw [hsb, hW]; rfl
    split <;> cbv
    · rename_i hz2
      have hz2 : s ≤ m := by simpa using (hle _ _).symm.trans hz2
      repeat (refine And.intro (by subst hA; simp [std, Keep, SubH, ResK]) ?_; cbv)
      refine leaf h ?_ rfl
      show AV.tup [.agg [I x1, I W], B V] = AV.tup [.agg [I x1, I (A.sub .i64 x2 1)], B (A.le x1 (A.sub .i64 x2 1))]
      rw [← hW, hV, hle]; simp [hz2]
    · rename_i hz2
      have hz2 : ¬ s ≤ m := by simpa using (hle _ _).symm.trans hz2
      repeat (refine And.intro (by subst hA; simp [std, Keep, SubH, ResK]) ?_; cbv)
      refine leaf h ?_ rfl
      show AV.tup [.agg [I x1, I W], B V] = AV.tup [.agg [I x1, I (A.sub .i64 x2 1)], B false]
      rw [← hW, hV]; simp [hz2]
  · rename_i hz
    have hz : q = true := by simpa using (hnb _).symm.trans hz
    rw [hz] at hW
    have hW : W = x2 := hW
    rw [hW] at h hV
    split <;> cbv
    · rename_i hz2
      have hz2 : s ≤ m := by simpa using (hle _ _).symm.trans hz2
      repeat (refine And.intro (by subst hA; simp [std, Keep, SubH, ResK]) ?_; cbv)
      refine leaf h ?_ rfl
      show AV.tup [.agg [I x1, I x2], B V] = AV.tup [.agg [I x1, I x2], B (A.le x1 x2)]
      rw [hV, hle]; simp [hz2]
    · rename_i hz2
      have hz2 : ¬ s ≤ m := by simpa using (hle _ _).symm.trans hz2
      repeat (refine And.intro (by subst hA; simp [std, Keep, SubH, ResK]) ?_; cbv)
      refine leaf h ?_ rfl
      show AV.tup [.agg [I x1, I x2], B V] = AV.tup [.agg [I x1, I x2], B false]
      rw [hV]; simp [hz2]
def eOnR : List AV → Option ((AV → Prop) → Prop)
  | [.agg [.lit (.int .i64 L), .lit (.int .i64 _), .lit (.int .i64 _), .vs 5 _], .agg [.lit (.int .i64 w), .lit (.int .i64 s), .lit (.int .i64 _), .lit (.int .i64 _), .vs 2 ys], .agg [.lit (.int .i64 x1), .lit (.int .i64 x2)], .lit (.int .i64 m)] =>
    some fun K => ∃ hs : List Hld, (ys = hs.map hdV ∧ ((-1000000000 ≤ L ∧ L ≤ 1000000000) ∧ HldS hs ∧ hs.length ≤ 9223372036854775807) ∧ -1000000000 ≤ x2 ∧ x2 ≤ 1000000000) ∧ ∀ y b, (y = cutL L w s m hs x2 ∧ b = decide (s ≤ m ∧ x1 ≤ cutL L w s m hs x2)) → K (.tup [.agg [I x1, I y], B b])
  | _ => none
theorem eOnR_ok : ∀ args pt, eOnR args = some pt → ∀ (H : AHeap) (Kk : AV → AHeap → Prop), pt (fun r => Kk r H) → ACalls Tryz.prog 45 args H Kk := by
  intro args pt h H Kk hk
  unfold eOnR at h
  split at h
  · cases h
    obtain ⟨hs, ⟨rfl, ⟨h1, h2, h4⟩, h5⟩, h3⟩ := hk
    exact p45 _ _ _ _ _ _ _ _ _ _ _ hs h1 h2 h4 h5 H (h3 _ _ ⟨rfl, rfl⟩)
  · cases h
theorem p47 (L gp f w s lo hi x1 x2 : Int) (ts ys : List AV) (hL : -1000000000 ≤ L ∧ L ≤ 1000000000) (hx : (-1000000000 ≤ x1 ∧ x1 ≤ 1000000000) ∧ -1000000000 ≤ x2 ∧ x2 ≤ 1000000000) (H : AHeap) {Kk : AV → AHeap → Prop}
    (h : Kk (.agg [I (roadC L w (x1, x2)).1, I (roadC L w (x1, x2)).2]) H) : ACalls Tryz.prog 47 [cvyV L gp f (.vs 5 ts), tckV w s lo hi (.vs 2 ys), .agg [I x1, I x2]] H Kk := by
  refine (fun q => pureC (by rfl) (by rfl) q H h) ?_
  clear h
  intro Kk h
  obtain ⟨⟨W1, W2⟩, hW⟩ : ∃ W, W = roadC L w (x1, x2) := ⟨_, rfl⟩
  rw [← hW] at h
  dsimp only at h
  unfold roadC at hW
  obtain ⟨A, hA⟩ : ∃ A, A = std := ⟨_, rfl⟩
  have hee : ∀ x y, A.eq x y = decide (x = y) := by subst hA; intro x y; exact iEqd _ _
  have hs1 : A.sub .i64 L x1 = L - x1 := by subst hA; exact iSub_id (by omega) (by omega)
  have hs2 : A.sub .i64 L x2 = L - x2 := by subst hA; exact iSub_id (by omega) (by omega)
  refine go47 rfl (SGo_run hA ⟨[], [], [], []⟩ .nil .nil 200 fun T TD hT hTD => ?_)
  cbv
  split <;> cbv
  · rename_i hz
    have hz : w = 2 := by simpa using (hee _ _).symm.trans hz
    rw [if_pos hz] at hW
    cases hW
    refine leaf h ?_ rfl
    show AV.agg [I (L - x2), I (L - x1)] = AV.agg [I (A.sub .i64 L x2), I (A.sub .i64 L x1)]
    rw [hs1, hs2]
  · rename_i hz
    have hz : ¬ w = 2 := by simpa using (hee _ _).symm.trans hz
    rw [if_neg hz] at hW
    cases hW
    exact h
def eRoadR : List AV → Option ((AV → Prop) → Prop)
  | [.agg [.lit (.int .i64 L), .lit (.int .i64 _), .lit (.int .i64 _), .vs 5 _], .agg [.lit (.int .i64 w), .lit (.int .i64 _), .lit (.int .i64 _), .lit (.int .i64 _), .vs 2 _], .agg [.lit (.int .i64 x1), .lit (.int .i64 x2)]] =>
    some fun K => ∃ _u : Unit, ((-1000000000 ≤ L ∧ L ≤ 1000000000) ∧ (-1000000000 ≤ x1 ∧ x1 ≤ 1000000000) ∧ -1000000000 ≤ x2 ∧ x2 ≤ 1000000000) ∧ ∀ y z, (y, z) = roadC L w (x1, x2) → K (.agg [I y, I z])
  | _ => none
theorem eRoadR_ok : ∀ args pt, eRoadR args = some pt → ∀ (H : AHeap) (Kk : AV → AHeap → Prop), pt (fun r => Kk r H) → ACalls Tryz.prog 47 args H Kk := by
  intro args pt h H Kk hk
  unfold eRoadR at h
  split at h
  · cases h
    obtain ⟨_, ⟨h1, h2⟩, h3⟩ := hk
    exact p47 _ _ _ _ _ _ _ _ _ _ _ h1 h2 H (h3 _ _ rfl)
  · cases h
theorem p46 (a1 a2 b1 b2 g : Int) (hb : (-1000000000 ≤ a1 ∧ a1 ≤ 1000000000) ∧ (-1000000000 ≤ b1 ∧ b1 ≤ 1000000000) ∧ 1 ≤ g ∧ g ≤ 1000000000) (H : AHeap) {Kk : AV → AHeap → Prop}
    (h : ∀ p q, Kk (.tup [I p, I q, B (nearC (a1, a2) (b1, b2) g)]) H) : ACalls Tryz.prog 46 [.agg [I a1, I a2], .agg [I b1, I b2], I g] H Kk := by
  obtain ⟨W, hW⟩ : ∃ W, W = nearC (a1, a2) (b1, b2) g := ⟨_, rfl⟩
  rw [← hW] at h
  have h2 := h (max a1 (b1 - g + 1)) (max b1 (max a1 (b1 - g + 1) - g + 1))
  clear h
  have h := h2
  clear h2
  refine (fun q => pureC (by rfl) (by rfl) q H h) ?_
  clear h
  intro Kk h
  obtain ⟨A, hA⟩ : ∃ A, A = std := ⟨_, rfl⟩
  have hle : ∀ x y, A.le x y = decide (x ≤ y) := by subst hA; intro x y; rfl
  have hll : ∀ x y, A.lt x y = decide (x < y) := by subst hA; intro x y; rfl
  have hmx : ∀ x y, A.max x y = max x y := by subst hA; intro x y; exact iMaxE _ _
  obtain ⟨P, hP⟩ : ∃ P, P = max a1 (b1 - g + 1) := ⟨_, rfl⟩
  obtain ⟨Q, hQ⟩ : ∃ Q, Q = max b1 (P - g + 1) := ⟨_, rfl⟩
  have eP : A.max a1 (A.add .i64 (A.sub .i64 b1 g) 1) = P := by
    subst hA
    show iMax a1 (iAdd .i64 (iSub .i64 b1 g) 1) = P
    rw [iSub_id (by omega) (by omega), iAdd_id (by omega) (by omega), iMaxE, hP]
  have eQ : A.max b1 (A.add .i64 (A.sub .i64 P g) 1) = Q := by
    subst hA
    show iMax b1 (iAdd .i64 (iSub .i64 P g) 1) = Q
    rw [iSub_id (by omega) (by omega), iAdd_id (by omega) (by omega), iMaxE, hQ]
  have eD : A.sub .i64 Q P = Q - P := by subst hA; exact iSub_id (by omega) (by omega)
  have hW2 : W = decide (P ≤ a2 ∧ Q ≤ b2) := by rw [hW, nearC, hQ, hP]
  rw [← hP, ← hQ] at h
  have hd : Q - P < g := by omega
  clear hW
  refine go46 rfl (SGo_run hA ⟨[], [], [], []⟩ .nil .nil 200 fun T TD hT hTD => ?_)
  cbv
  split <;> cbv
  · rename_i hz
    have hz : A.le (A.max a1 (A.add .i64 (A.sub .i64 b1 g) 1)) a2 = true := hz
    rw [eP, hle] at hz
    have hz : P ≤ a2 := by simpa using hz
    split <;> cbv
    · rename_i hy
      have hy : A.le (A.max b1 (A.add .i64 (A.sub .i64 (A.max a1 (A.add .i64 (A.sub .i64 b1 g) 1)) g) 1)) b2 = true := hy
      rw [eP, eQ, hle] at hy
      have hy : Q ≤ b2 := by simpa using hy
      refine leaf h ?_ rfl
      show AV.tup [I P, I Q, B W] = AV.tup [I (A.max a1 (A.add .i64 (A.sub .i64 b1 g) 1)), I (A.max b1 (A.add .i64 (A.sub .i64 (A.max a1 (A.add .i64 (A.sub .i64 b1 g) 1)) g) 1)), B (A.lt (A.sub .i64 (A.max b1 (A.add .i64 (A.sub .i64 (A.max a1 (A.add .i64 (A.sub .i64 b1 g) 1)) g) 1)) (A.max a1 (A.add .i64 (A.sub .i64 b1 g) 1))) g)]
      rw [eP, eQ, eD, hll, hW2]; simp [hz, hy, hd]
    · rename_i hy
      have hy : A.le (A.max b1 (A.add .i64 (A.sub .i64 (A.max a1 (A.add .i64 (A.sub .i64 b1 g) 1)) g) 1)) b2 = false := hy
      rw [eP, eQ, hle] at hy
      have hy : ¬ Q ≤ b2 := by simpa using hy
      refine leaf h ?_ rfl
      show AV.tup [I P, I Q, B W] = AV.tup [I (A.max a1 (A.add .i64 (A.sub .i64 b1 g) 1)), I (A.max b1 (A.add .i64 (A.sub .i64 (A.max a1 (A.add .i64 (A.sub .i64 b1 g) 1)) g) 1)), B false]
      rw [eP, eQ, hW2]; simp [hy]
  · rename_i hz
    have hz : A.le (A.max a1 (A.add .i64 (A.sub .i64 b1 g) 1)) a2 = false := hz
    rw [eP, hle] at hz
    have hz : ¬ P ≤ a2 := by simpa using hz
    refine leaf h ?_ rfl
    show AV.tup [I P, I Q, B W] = AV.tup [I (A.max a1 (A.add .i64 (A.sub .i64 b1 g) 1)), I (A.max b1 (A.add .i64 (A.sub .i64 (A.max a1 (A.add .i64 (A.sub .i64 b1 g) 1)) g) 1)), B false]
    rw [eP, eQ, hW2]; simp [hz]
def eNearR : List AV → Option ((AV → Prop) → Prop)
  | [.agg [.lit (.int .i64 a1), .lit (.int .i64 a2)], .agg [.lit (.int .i64 b1), .lit (.int .i64 b2)], .lit (.int .i64 g)] =>
    some fun K => ∃ _u : Unit, ((-1000000000 ≤ a1 ∧ a1 ≤ 1000000000) ∧ (-1000000000 ≤ b1 ∧ b1 ≤ 1000000000) ∧ 1 ≤ g ∧ g ≤ 1000000000) ∧ ∀ p q z, z = nearC (a1, a2) (b1, b2) g → K (.tup [I p, I q, B z])
  | _ => none
theorem eNearR_ok : ∀ args pt, eNearR args = some pt → ∀ (H : AHeap) (Kk : AV → AHeap → Prop), pt (fun r => Kk r H) → ACalls Tryz.prog 46 args H Kk := by
  intro args pt h H Kk hk
  unfold eNearR at h
  split at h
  · cases h
    obtain ⟨_, h1, h3⟩ := hk
    exact p46 _ _ _ _ _ h1 H (fun p q => h3 p q _ rfl)
  · cases h
end Go.Sas
