/-
Probe: bounds, places, valid surveys.
Probe: Check.
Conditions: none.
-/
import Derived.Test.YtpokfjhlilbpfaaDoorPMd
import Derived.Test.YtpokfjhlilbpfaaDoorPAd
import Derived.Test.YtpokfjhlilbpfaaDoorPBd
set_option linter.unusedVariables false
set_option linter.unusedSimpArgs false
namespace Go.Sas
open Go.Proofs
set_option maxRecDepth 100000
theorem p16 (n a b : Int) (H : AHeap) {Kk : AV → AHeap → Prop} (h : Kk (B (decide (a ≤ n ∧ n ≤ b))) H) : ACalls Tryd.prog 16 [I n, I a, I b] H Kk := by
  refine (fun q => pureC (by rfl) (by rfl) q H h) ?_
  clear h
  intro Kk h
  obtain ⟨A, hA⟩ : ∃ A, A = std := ⟨_, rfl⟩
  refine go16 rfl (SGo_run hA ⟨[], [], [], []⟩ .nil .nil 200 fun T TD hT hTD => ?_)
  cbv
  split <;> cbv
  all_goals
    refine leaf h (congrArg B ?_) rfl
    subst hA
    simp only [std, iLe, decide_eq_true_eq, decide_eq_false_iff_not] at *
    simp [*]
def eIn : List AV → Option ((AV → Prop) → Prop)
  | [.lit (.int .i64 n), .lit (.int .i64 a), .lit (.int .i64 b)] => some fun K => ∀ q, q = decide (a ≤ n ∧ n ≤ b) → K (B q)
  | _ => none
theorem eIn_ok {f : Nat} (hf : ∀ (n a b : Int) (H : AHeap) {Kk : AV → AHeap → Prop}, Kk (B (decide (a ≤ n ∧ n ≤ b))) H → ACalls Tryd.prog f [I n, I a, I b] H Kk) : ∀ args pt, eIn args = some pt → ∀ (H : AHeap) (Kk : AV → AHeap → Prop), pt (fun r => Kk r H) → ACalls Tryd.prog f args H Kk := by
  intro args pt h H Kk hk
  unfold eIn at h
  split at h
  · cases h; exact hf _ _ _ H (hk _ rfl)
  · cases h
theorem sumLg_take {rs : List Rch} {j : Nat} {r : Rch} (h : rs[j]? = some r) : sumLg (rs.take (j + 1)) = sumLg (rs.take j) + r.lg := by
  obtain ⟨h1, rfl⟩ := List.getElem?_eq_some_iff.1 h
  rw [List.take_succ_eq_append_getElem h1, sumLg_append]; simp [sumLg]
theorem sumLg_bnd : ∀ {rs : List Rch}, (∀ r ∈ rs, RchOk r) → 0 ≤ sumLg rs ∧ sumLg rs ≤ 1000 * (rs.length : Int)
  | [], _ => by simp [sumLg]
  | r :: rs, h => by
    have := sumLg_bnd (rs := rs) fun x hx => h x (by simp [hx])
    have := (h r (by simp)).1
    simp only [sumLg, List.length_cons]; omega
theorem p38 (rs : List Rch) (a b c : Int) (hl : rs.length ≤ 1000000) (ho : ∀ r ∈ rs, RchOk r) (H : AHeap) {Kk : AV → AHeap → Prop} (h : Kk (I (sumLg rs)) H) : ACalls Tryd.prog 38 [svV (.vs 5 (rs.map rcV)) a b c] H Kk := by
  refine (fun q => pureC (by rfl) (by rfl) q H h) ?_
  clear h
  intro Kk h
  obtain ⟨xs, hxs⟩ : ∃ xs, xs = rs.map rcV := ⟨_, rfl⟩
  rw [← hxs]
  obtain ⟨A, hA⟩ : ∃ A, A = std := ⟨_, rfl⟩
  refine go38 rfl (SGo_run hA ⟨[], [], [], []⟩ .nil .nil 200 fun T TD hT hTD => ?_)
  cbv
  rw [hT]
  refine AGo_upE [2, 1, 7, 8] rs.length (fun j (s : Int) => s = sumLg (rs.take j)) (fun j s i => [(3, I s), (9, I i)]) (fun _ _ => [.own 0 [.vs 5 xs, I a, I b, I c]]) 0 rfl ⟨rfl, rfl, trivial⟩ (.inl rfl) fun j s i hi hj hP Bk hB => ?_
  have hlt : A.lt i (A.vlen xs) = decide (j < rs.length) := by subst hA; exact lt_len (by simp [hxs]) hi
  have hadd : ∀ N, j < N → N ≤ 9223372036854775807 → A.add .i64 i 1 = iLen (j + 1) := fun N hj hN => by subst hA; exact add_one hi hj hN
  have hsb := sumLg_bnd (rs := rs.take j) fun r hr => ho r (List.mem_of_mem_take hr)
  rw [← hP] at hsb
  have hlj : ((rs.take j).length : Int) ≤ 1000000 := by rw [List.length_take]; omega
  refine SGo_run hA ⟨[], [], [], []⟩ .nil .nil 200 fun T TD hT hTD => ?_
  cbv
  split <;> cbv
  · rename_i hk0
    have hk1 : j < rs.length := by have hz := hlt.symm.trans hk0; simpa using hz
    clear hk0
    obtain ⟨⟨lg, sl, th, gr, ev⟩, hx⟩ : ∃ x, rs[j]? = some x := ⟨_, List.getElem?_eq_getElem hk1⟩
    have hix : A.ix 5 5 xs i [I lg, I sl, I th, I gr, I ev] := by subst hA; exact ix_map hxs hi hx rfl
    have hb := (ho _ (List.mem_of_getElem? hx)).1
    dsimp only at hb
    have hs : A.add .i64 s lg = sumLg (rs.take (j + 1)) := by rw [sumLg_take hx, ← hP]; subst hA; exact iAdd_id (by omega) (by omega)
    refine Exists.intro _ (And.intro hix ?_); cbv
    exact hB _ _ _ hk1 hs ⟨rfl, congrArg I (hadd _ hk1 (by omega)), trivial⟩ ⟨rfl, rfl, rfl, rfl, trivial⟩ (.inr ⟨⟨_, rfl⟩, Nat.zero_le _, by simp [ltG, AV.lt, AV.ltL, keepS, look], by simp [ltH, AObj.lt, AV.lt, AV.ltL]⟩)
  · rename_i hk0
    have hk1 : ¬ j < rs.length := by have hz := hlt.symm.trans hk0; simpa using hz
    clear hk0
    rw [List.take_of_length_le (by omega)] at hP
    exact leaf h (congrArg I hP.symm) rfl
def ePlaces : List AV → Option ((AV → Prop) → Prop)
  | [.agg [.vs 5 xs, .lit (.int .i64 _), .lit (.int .i64 _), .lit (.int .i64 _)]] => some fun K => ∃ rs : List Rch, xs = rs.map rcV ∧ rs.length ≤ 1000000 ∧ (∀ r ∈ rs, RchOk r) ∧ ∀ q, q = sumLg rs → K (I q)
  | _ => none
theorem ePlaces_ok {f : Nat} (hf : ∀ (rs : List Rch) (a b c : Int), rs.length ≤ 1000000 → (∀ r ∈ rs, RchOk r) → ∀ (H : AHeap) {Kk : AV → AHeap → Prop}, Kk (I (sumLg rs)) H → ACalls Tryd.prog f [svV (.vs 5 (rs.map rcV)) a b c] H Kk) : ∀ args pt, ePlaces args = some pt → ∀ (H : AHeap) (Kk : AV → AHeap → Prop), pt (fun r => Kk r H) → ACalls Tryd.prog f args H Kk := by
  intro args pt h H Kk hk
  unfold ePlaces at h
  split at h
  · cases h
    obtain ⟨rs, rfl, h1, h2, h3⟩ := hk
    exact hf _ _ _ _ h1 h2 H (h3 _ rfl)
  · cases h
end Go.Sas
namespace Go.Sas
open Go.Proofs
set_option maxRecDepth 100000
theorem aix3 {A : Ar} (hA : A = std) {a b c : Int} {j : Nat} {i : Int} (hi : i = iLen j) (hj : j < 3) : ∃ x, A.aix 3 1 none [I a, I b, I c] i (I x) ∧ x = [a, b, c].getD j 0 := by
  have : j = 0 ∨ j = 1 ∨ j = 2 := by omega
  rcases this with rfl | rfl | rfl
  · exact ⟨a, by subst hA hi; exact ⟨by decide, by decide, rfl⟩, rfl⟩
  · exact ⟨b, by subst hA hi; exact ⟨by decide, by decide, rfl⟩, rfl⟩
  · exact ⟨c, by subst hA hi; exact ⟨by decide, by decide, rfl⟩, rfl⟩
/-- the error of the sights from one on -/
def sgtD (l : List Int) : Int := firstE (fun n => if 0 ≤ n ∧ n ≤ 50 then 0 else 2) l
theorem sgtE_D {a b c : Int} : sgtE a b c = sgtD [a, b, c] := by
  unfold sgtE sgtD
  simp only [firstE]
  by_cases h1 : 0 ≤ a ∧ a ≤ 50 <;> by_cases h2 : 0 ≤ b ∧ b ≤ 50 <;> by_cases h3 : 0 ≤ c ∧ c ≤ 50 <;> simp [h1, h2, h3]
theorem p30 (rs : List Rch) (a b c : Int) (hl : rs.length ≤ 9223372036854775807) (H : AHeap) {Kk : AV → AHeap → Prop} (h : Kk (I (checkV rs a b c)) H) : ACalls Tryd.prog 30 [svV (.vs 5 (rs.map rcV)) a b c] H Kk := by
  refine (fun q => pureC (by rfl) (by rfl) q H h) ?_
  clear h
  intro Kk h
  obtain ⟨xs, hxs⟩ : ∃ xs, xs = rs.map rcV := ⟨_, rfl⟩
  rw [← hxs]
  obtain ⟨A, hA⟩ : ∃ A, A = std := ⟨_, rfl⟩
  obtain ⟨W, hW⟩ : ∃ W, W = checkV rs a b c := ⟨_, rfl⟩
  rw [← hW] at h
  have hv : A.vlen xs = iLen rs.length := by subst hA; simp [std, hxs]
  refine go30 rfl (SGo_run hA ⟨[], [], (16, eIn) :: (38, ePlaces) :: [], []⟩ (.cons (eIn_ok p16) (.cons (ePlaces_ok p38) .nil)) .nil 200 fun T TD hT hTD => ?_)
  cbv
  split <;> cbv
  · refine leaf h (congrArg I ?_) rfl
    rename_i hq; have hq : A.eq (A.vlen xs) 0 = true := hq
    rw [hv] at hq
    subst hA hW
    simp only [std, iEq, iLen, beq_iff_eq] at hq
    simp only [checkV]; rw [if_pos (by omega)]
  rename_i hq; have hq : A.eq (A.vlen xs) 0 = false := hq
  split <;> cbv
  · refine leaf h (congrArg I ?_) rfl
    rename_i hr; have hr : A.lt 20 (A.vlen xs) = true := hr
    rw [hv] at hq hr
    subst hA hW
    simp only [std, iEq, iLt, iLen, beq_eq_false_iff_ne, ne_eq, decide_eq_true_eq] at hq hr
    simp only [checkV]; rw [if_neg (by omega), if_pos (by omega)]
  rename_i hr; have hr : A.lt 20 (A.vlen xs) = false := hr
  have hl20 : rs.length ≤ 20 := by
    rw [hv] at hr; subst hA
    simp only [std, iLt, iLen, decide_eq_false_iff_not] at hr; omega
  have hW : W = orElse (firstE rchE rs) (if 1000 < sumLg rs then 8 else sgtE a b c) := by
    rw [hv] at hq
    subst hA hW
    simp only [std, iEq, iLen, beq_eq_false_iff_ne, ne_eq] at hq
    simp only [checkV]; rw [if_neg (by omega), if_neg (by omega)]
  clear hq hr
  rw [hT]
  refine AGo_upE [2, 1, 18, 19] rs.length (fun j (_ : Unit) => firstE rchE rs = firstE rchE (rs.drop j)) (fun j _ i => [(20, I i)]) (fun _ _ => [.own 0 [.vs 5 xs, I a, I b, I c]]) () rfl ⟨rfl, trivial⟩ (.inl rfl) fun j _ i hi hj hP Bk hB => ?_
  have hlt : A.lt i (A.vlen xs) = decide (j < rs.length) := by subst hA; exact lt_len (by simp [hxs]) hi
  have hadd : ∀ N, j < N → N ≤ 9223372036854775807 → A.add .i64 i 1 = iLen (j + 1) := fun N hj hN => by subst hA; exact add_one hi hj hN
  refine SGo_run hA ⟨[], [], (16, eIn) :: (38, ePlaces) :: [], []⟩ (.cons (eIn_ok p16) (.cons (ePlaces_ok p38) .nil)) .nil 200 fun T TD hT hTD => ?_
  cbv
  split <;> cbv
  · rename_i hk0
    have hk1 : j < rs.length := by have hz := hlt.symm.trans hk0; simpa using hz
    clear hk0
    obtain ⟨⟨lg, sl, th, gr, ev⟩, hx⟩ : ∃ x, rs[j]? = some x := ⟨_, List.getElem?_eq_getElem hk1⟩
    have hix : A.ix 5 5 xs i [I lg, I sl, I th, I gr, I ev] := by subst hA; exact ix_map hxs hi hx rfl
    rw [firstE_drop hx] at hP
    have hR : rchE ⟨lg, sl, th, gr, ev⟩ = 2 → W = 2 := fun h => by rw [hW, hP, h]; rfl
    have hN : rchE ⟨lg, sl, th, gr, ev⟩ = 0 → firstE rchE rs = firstE rchE (rs.drop (j + 1)) := fun h => by rw [hP, if_pos h]
    refine Exists.intro _ (And.intro hix ?_); cbv
    repeat' (first | (intro q hfq; cbv) | (split <;> cbv))
    all_goals first
      | refine hB () _ _ hk1 (hN ?_) ⟨congrArg I (hadd _ hk1 (by omega)), trivial⟩ ⟨rfl, rfl, rfl, rfl, trivial⟩ (.inr ⟨⟨_, rfl⟩, Nat.zero_le _, by simp [ltG, AV.lt, AV.ltL, keepS, look], by simp [ltH, AObj.lt, AV.lt, AV.ltL]⟩)
      | refine leaf h (congrArg I (hR ?_)) rfl
    all_goals
      clear hR hN hP hix hv hW hlt hadd hB hx h hl hl20 hk1 hi hj hT hTD hxs
      subst hA
      simp only [std] at *
      try clear hT hTD
      try clear hq hr
      try clear hW
      subst_vars
      simp only [Bool.not_eq_true', Bool.not_eq_false', decide_eq_true_eq, decide_eq_false_iff_not] at *
      simp only [rchE]
      first | rw [if_pos (by omega)] | rw [if_neg (by omega)]
  · rename_i hk0
    have hk1 : ¬ j < rs.length := by have hz := hlt.symm.trans hk0; simpa using hz
    clear hk0
    have hf : firstE rchE rs = 0 := by rw [hP, List.drop_eq_nil_of_le (by omega)]; rfl
    have hall : ∀ r ∈ rs, RchOk r := fun r hr => rchE_ok.1 (firstE_zero hf r hr)
    have hW : W = if 1000 < sumLg rs then 8 else sgtE a b c := by rw [hW, hf]; rfl
    clear hP hB hlt hadd hf
    refine Exists.intro rs (And.intro hxs (And.intro (by omega) (And.intro hall ?_)))
    intro q hq; cbv
    split <;> cbv
    · rename_i hz; have hz : A.lt 1000 q = true := hz
      refine leaf h (congrArg I ?_) rfl
      subst hA
      simp only [std, iLt, decide_eq_true_eq] at hz
      rw [hW, if_pos (by omega)]
    rename_i hz; have hz : A.lt 1000 q = false := hz
    have hW : W = sgtD [a, b, c] := by
      subst hA
      simp only [std, iLt, decide_eq_false_iff_not] at hz
      rw [hW, if_neg (by omega), sgtE_D]
    clear hz hall
    rw [hT]
    refine AGo_upE [2, 1, 18, 19, 57] 3 (fun j (_ : Unit) => W = sgtD ([a, b, c].drop j)) (fun j _ i => [(58, I i)]) (fun _ _ => [.own 0 [.vs 5 xs, I a, I b, I c]]) () hW ⟨rfl, trivial⟩ (.inl rfl) fun j _ i hi hj hP Bk hB => ?_
    have hlt : A.lt i 3 = decide (j < 3) := by subst hA hi; simp only [std, iLt, iLen, decide_eq_decide]; omega
    have hadd : ∀ N, j < N → N ≤ 9223372036854775807 → A.add .i64 i 1 = iLen (j + 1) := fun N hj hN => by subst hA; exact add_one hi hj hN
    refine SGo_run hA ⟨[], [], (16, eIn) :: (38, ePlaces) :: [], []⟩ (.cons (eIn_ok p16) (.cons (ePlaces_ok p38) .nil)) .nil 200 fun T TD hT hTD => ?_
    cbv
    split <;> cbv
    · rename_i hk0
      have hk1 : j < 3 := by have hz := hlt.symm.trans hk0; simpa using hz
      clear hk0
      obtain ⟨x, hix, hx⟩ := aix3 hA (a := a) (b := b) (c := c) hi hk1
      have hP : W = if 0 ≤ x ∧ x ≤ 50 then sgtD ([a, b, c].drop (j + 1)) else 2 := by
        rw [hP]; unfold sgtD
        rw [firstE_drop (x := x) (by rw [hx, List.getD_eq_getElem?_getD, List.getElem?_eq_getElem (by simpa using hk1)]; rfl)]
        by_cases hx5 : 0 ≤ x ∧ x ≤ 50 <;> simp [hx5]
      refine Exists.intro _ (And.intro hix ?_); cbv
      intro q hq5; cbv
      split <;> cbv
      · rename_i hz
        refine leaf h (congrArg I ?_) rfl
        subst hA
        rw [hP, if_neg]
        intro hq2; rw [hq5, decide_eq_true hq2] at hz; exact Bool.noConfusion hz
      · rename_i hz
        refine hB () _ _ hk1 ?_ ⟨congrArg I (hadd _ hk1 (by omega)), trivial⟩ ⟨rfl, rfl, rfl, rfl, rfl, trivial⟩ (.inl rfl)
        rw [hP, if_pos]
        subst hA
        by_cases hq2 : 0 ≤ x ∧ x ≤ 50
        · exact hq2
        · rw [hq5, decide_eq_false hq2] at hz; exact Bool.noConfusion hz
    · rename_i hk0
      have hk1 : ¬ j < 3 := by have hz := hlt.symm.trans hk0; simpa using hz
      clear hk0
      refine leaf h (congrArg I ?_) rfl
      rw [hP, List.drop_eq_nil_of_le (by simp; omega)]; rfl
end Go.Sas
