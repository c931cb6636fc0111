/-
A load at all metres of places: verdicts.
What the functions that ice rests on yield: the verdicts on one load at all places.
What the reference yields: the verdicts on one load at all places.
The verdicts on one load at all places, as an entry of a table.
Conditions: none.
-/
import Derived.Test.YtelmlpjkpebcgaaM15
set_option linter.unusedVariables false
set_option linter.unusedSimpArgs false
namespace Go.Sas
/-- the verdict on a load alone -/
def vA (p : Plate) (ice cr : List (Int × Int)) (w : Int × Int) (m : Int) : Int := veS p ice cr [⟨m, w, 0⟩] ⟨m, w, 0⟩
/-- of a hundred verdicts -/
def placeN (v : Nat → Int) (n : Nat) : Int := if ∀ i, i < n → v i = 1 then 1 else if ∀ i, i < n → v i = 2 then 2 else 3
def placeV (v : Nat → Int) : Int := placeN v 100
def placeS (p : Plate) (ice cr : List (Int × Int)) (w : Int × Int) (k : Nat) : Int := placeV fun i => vA p ice cr w (100 * iLen k + iLen i)
def laneS (p : Plate) (ice cr : List (Int × Int)) (w : Int × Int) : List Int × Int :=
  if checkAllS p ice cr ≠ 0 then ([], checkAllS p ice cr) else if faultS w.1 w.2 0 200000 ≠ 0 then ([], faultS w.1 w.2 0 200000) else ((List.range ice.length).map (placeS p ice cr w), 0)
theorem vA_bnd {p : Plate} {ice cr : List (Int × Int)} {w : Int × Int} {m : Int} : vA p ice cr w m = 1 ∨ vA p ice cr w m = 2 ∨ vA p ice cr w m = 3 := veS_bnd
/-- one after the other, until they differ -/
def allV (v : Nat → Int) (n : Nat) : Int := if ∀ i, i < n → v i = v 0 then v 0 else 3
theorem allV_one {v : Nat → Int} : allV v 1 = v 0 := if_pos fun i hi => by rw [show i = 0 by omega]
theorem allV_step {v : Nat → Int} {n : Nat} (h : allV v n ≠ 3) : allV v (n + 1) = if v n ≠ allV v n then 3 else allV v n := by
  unfold allV at h ⊢
  by_cases h1 : ∀ i, i < n → v i = v 0
  · rw [if_pos h1] at h ⊢
    by_cases h2 : v n = v 0
    · rw [if_pos fun i hi => by rcases Nat.lt_succ_iff_lt_or_eq.1 hi with h3 | h3; exact h1 i h3; rw [h3]; exact h2, if_neg (by simp [h2])]
    · rw [if_neg fun h3 => h2 (h3 n (by omega)), if_pos h2]
  · rw [if_neg h1] at h; exact absurd rfl h
theorem allV_end {v : Nat → Int} {n : Nat} (h : allV v n = 3) (hn : 0 < n) (hn2 : n ≤ 100) (hb : ∀ i, v i = 1 ∨ v i = 2 ∨ v i = 3) : placeV v = 3 := by
  unfold allV at h
  unfold placeV placeN
  split at h
  · rename_i h1
    rw [if_neg fun h2 => by have := h2 0 (by omega); omega, if_neg fun h2 => by have := h2 0 (by omega); omega]
  · rename_i h1
    rw [if_neg fun h2 => h1 fun i hi => by rw [h2 i (by omega), h2 0 (by omega)], if_neg fun h2 => h1 fun i hi => by rw [h2 i (by omega), h2 0 (by omega)]]
theorem allV_all {v : Nat → Int} (hb : ∀ i, v i = 1 ∨ v i = 2 ∨ v i = 3) : allV v 100 = placeV v := by
  by_cases h3 : allV v 100 = 3
  · rw [h3, allV_end h3 (by omega) (by omega) hb]
  · unfold allV at h3 ⊢
    by_cases h1 : ∀ i, i < 100 → v i = v 0
    · rw [if_pos h1] at h3 ⊢
      unfold placeV placeN
      rcases hb 0 with h | h | h
      · rw [if_pos fun i hi => by rw [h1 i hi, h], h]
      · rw [if_neg fun h2 => by have := h2 0 (by omega); omega, if_pos fun i hi => by rw [h1 i hi, h], h]
      · exact absurd h h3
    · rw [if_neg h1] at h3; exact absurd rfl h3
/-- how many there are -/
def cntV (v : Nat → Int) (c : Int) : Nat → Nat
  | 0 => 0
  | n + 1 => cntV v c n + if v n = c then 1 else 0
theorem cntV_le {v : Nat → Int} {c : Int} : ∀ n, cntV v c n ≤ n
  | 0 => Nat.le_refl 0
  | n + 1 => by have := cntV_le (v := v) (c := c) n; simp only [cntV]; split <;> omega
theorem cntV_all {v : Nat → Int} {c : Int} : ∀ n, cntV v c n = n ↔ ∀ i, i < n → v i = c
  | 0 => by simp [cntV]
  | n + 1 => by
    have h1 := cntV_le (v := v) (c := c) n
    have ih := cntV_all (v := v) (c := c) n
    simp only [cntV]
    constructor
    · intro h i hi
      by_cases h2 : v n = c
      · rw [if_pos h2] at h
        rcases Nat.lt_succ_iff_lt_or_eq.1 hi with h3 | h3
        · exact ih.1 (by omega) i h3
        · rw [h3]; exact h2
      · rw [if_neg h2] at h; omega
    · intro h
      rw [if_pos (h n (by omega)), ih.2 fun i hi => h i (by omega)]
theorem placeV_cnt {v : Nat → Int} : placeV v = if cntV v 2 100 = 100 then 2 else if cntV v 1 100 = 100 then 1 else 3 := by
  unfold placeV placeN
  by_cases h1 : ∀ i, i < 100 → v i = 1
  · rw [if_pos h1, if_neg fun h => by have h2 := (cntV_all 100).1 h 0 (by omega); have h3 := h1 0 (by omega); omega, if_pos ((cntV_all 100).2 h1)]
  · rw [if_neg h1]
    by_cases h2 : ∀ i, i < 100 → v i = 2
    · rw [if_pos h2, if_pos ((cntV_all 100).2 h2)]
    · rw [if_neg h2, if_neg fun h => h2 ((cntV_all 100).1 h), if_neg fun h => h1 ((cntV_all 100).1 h)]
end Go.Sas
namespace Go.Sas
open Go.Proofs
set_option maxRecDepth 100000
theorem p42 (p : Plate) {a b : Int} {xs ec : List AV} {ne ed gr lo hi sh wi : Int} (hp : PlateIs p a b xs ec ne ed gr lo hi sh wi) (h1 : p.shares.length ≤ 9223372036854775807) (h2 : p.creep.length ≤ 9223372036854775807) (ice cr : List (Int × Int)) (w1 w2 : Int) (h3 : ice.length ≤ 9223372036854775807) (h4 : cr.length ≤ 9223372036854775807) (H : AHeap) {Kk : AV → AHeap → Prop} (h : Kk (.tup [.vs 1 ((laneS p ice cr (w1, w2)).1.map I), I (laneS p ice cr (w1, w2)).2]) H) :
    ACalls Try.prog 42 [plV a b (.vs 2 xs) (.vs 2 ec) ne ed gr lo hi sh wi, .vs 2 (ice.map sp), .vs 2 (cr.map sp), .agg [I w1, I w2]] H Kk := by
  refine (fun q => pureF (by rfl) (by rfl) q H h) ?_
  clear h
  intro Kk h
  obtain ⟨W, hW⟩ : ∃ W, W = laneS p ice cr (w1, w2) := ⟨_, rfl⟩
  rw [← hW] at h
  obtain ⟨xi, hxi⟩ : ∃ xi, xi = ice.map sp := ⟨_, rfl⟩
  obtain ⟨xc, hxc⟩ : ∃ xc, xc = cr.map sp := ⟨_, rfl⟩
  rw [← hxi, ← hxc]
  obtain ⟨A, hA⟩ : ∃ A, A = std := ⟨_, rfl⟩
  obtain ⟨S, hS⟩ : ∃ S, S = stS := ⟨_, rfl⟩
  obtain ⟨S2, hS2⟩ : ∃ S, S = st2 := ⟨_, rfl⟩
  have hv : A.vlen xi = iLen ice.length := by subst hA; simp [std, hxi]
  obtain ⟨F, hF⟩ : ∃ F, F = Frees 0 Kk := ⟨_, rfl⟩
  rw [← hF]
  refine go42 rfl (SGo_run hA ⟨[], [], (85, eCheckAll S) :: (87, eVe S2) :: tb5 S S2, []⟩ (.cons (eCheckAll_ok p85 hS) (.cons (eVe_ok p87 hS2) (tb5_ok hS hS2))) .nil 200 fun T TD hT hTD => ?_)
  cbv
  refine Exists.intro p (Exists.intro ice (Exists.intro cr (And.intro hp (And.intro h1 (And.intro h2 (And.intro hxi (And.intro hxc (And.intro (by omega) (And.intro h4 ?_)))))))))
  cbv
  split <;> cbv
  · rename_i hq
    have hq : checkAllS p ice cr ≠ 0 := by have hq : A.ne (S.checkAll p ice cr) 0 = true := hq; subst hA hS; simpa [std, stS, iNe] using hq
    have e1 : S.checkAll p ice cr = checkAllS p ice cr := by subst hS; rfl
    unfold laneS at hW
    rw [if_pos hq] at hW
    rw [hF]
    refine Frees.wk (r' := .tup [.vs 1 [], I (S.checkAll p ice cr)]) (Wk.tup ⟨Wk.nil, Wk.rfl, trivial⟩) (Frees.drop0 ?_ rfl)
    rw [hW] at h
    rw [e1]; exact h
  rename_i hq
  have hq : checkAllS p ice cr = 0 := by have hq : A.ne (S.checkAll p ice cr) 0 = false := hq; subst hA hS; simpa [std, stS, iNe] using hq
  unfold laneS at hW
  rw [if_neg (by simp [hq])] at hW
  have hV := checkAllS_ok hq
  have hil := hV.il
  have eF : S.fault w1 w2 0 200000 = faultS w1 w2 0 200000 := by subst hS; rfl
  split <;> cbv
  · rename_i hq2
    have hq2 : faultS w1 w2 0 200000 ≠ 0 := by have hq2 : A.ne (S.fault w1 w2 0 200000) 0 = true := hq2; rw [eF] at hq2; subst hA; simpa [std, iNe] using hq2
    rw [if_pos hq2] at hW
    rw [hF]
    refine Frees.wk (r' := .tup [.vs 1 [], I (S.fault w1 w2 0 200000)]) (Wk.tup ⟨Wk.nil, Wk.rfl, trivial⟩) (Frees.drop0 ?_ rfl)
    rw [hW] at h
    rw [eF]; exact h
  rename_i hq2
  have hq2 : faultS w1 w2 0 200000 = 0 := by have hq2 : A.ne (S.fault w1 w2 0 200000) 0 = false := hq2; rw [eF] at hq2; subst hA; simpa [std, iNe] using hq2
  rw [if_neg (by simp [hq2])] at hW
  have hw := faultS_ok hq2
  clear eF
  have hLV : ∀ m : Int, 0 ≤ m → m < 100 * iLen ice.length → LoadsV ice.length [⟨m, (w1, w2), 0⟩] := fun m hm1 hm2 => ⟨by simp, fun x hx => by
    simp at hx; subst hx
    unfold iLen at hm2
    exact ⟨hm1, by simp only; omega, hw.1, hw.2.1, hw.2.2, by simp, by simp⟩⟩
  have hve : ∀ m, S2.ve p ice cr [⟨m, (w1, w2), 0⟩] ⟨m, (w1, w2), 0⟩ = vA p ice cr (w1, w2) m := fun m => by subst hS2; rfl
  have hsg : ∀ g, A.sg g g := by subst hA; exact fun _ => rfl
  rw [hT]
  refine AGo_nilms 12 1 rfl ?_
  refine AGo_upS ice.length (fun j (s : List Int) => s = (List.range j).map (placeS p ice cr (w1, w2))) (fun j _ i => [(0, plV a b (.vs 2 xs) (.vs 2 ec) ne ed gr lo hi sh wi), (1, .vs 2 xi), (2, .vs 2 xc), (4, .mp 0 0 0), (7, .mp 1 0 0), (12, .ms 1 2 j 0 j), (30, I (A.vlen xi)), (31, I i)])
    (fun j s => [.own 0 [I a, I b, .vs 2 xs, .vs 2 ec, I ne, I ed, I gr, I lo, I hi, I sh, I wi], .own 0 [I w1, I w2], .own j (s.map I)]) [] rfl ⟨rfl, rfl, rfl, rfl, rfl, rfl, rfl, rfl, trivial⟩ (.inl rfl) fun j s i hij hj hP Bk hB => ?_
  have hlt : A.lt i (A.vlen xi) = decide (j < ice.length) := by subst hA; exact lt_len (by simp [hxi]) hij
  have hadd : ∀ N, j < N → N ≤ 9223372036854775807 → A.add .i64 i 1 = iLen (j + 1) := fun N hj hN => by subst hA; exact add_one hij hj hN
  have hmul : A.mul .i64 100 i = 100 * iLen j := by subst hA; rw [hij]; exact iMul_id (by unfold iLen; omega) (by unfold iLen; omega)
  have hmb : j < ice.length → 0 ≤ 100 * iLen j ∧ 100 * iLen j + 99 < 100 * iLen ice.length := fun h => by unfold iLen; omega
  have hsl : s.length = j := by rw [hP]; simp
  obtain ⟨cs, hcs⟩ : ∃ cs, cs = s.map I := ⟨_, rfl⟩
  rw [← hcs]
  refine SGo_run hA ⟨[2], [], (87, eVe S2) :: [], []⟩ (.cons (eVe_ok p87 hS2) .nil) .nil 200 fun T TD hT hTD => ?_
  cbv
  split <;> cbv
  · rename_i hk1
    have hk1 : j < ice.length := by have := hlt.symm.trans hk1; simpa using this
    have hjl : j < ice.length := hk1
    obtain ⟨hm1, hm2⟩ := hmb hjl
    have hload := hLV (A.mul .i64 100 i) (by rw [hmul]; exact hm1) (by rw [hmul]; exact Int.lt_of_le_of_lt (Int.le_add_of_nonneg_right (by decide)) hm2)
    refine Exists.intro p (Exists.intro ice (Exists.intro cr (Exists.intro [⟨A.mul .i64 100 i, (w1, w2), 0⟩] (Exists.intro 0 (Exists.intro ⟨A.mul .i64 100 i, (w1, w2), 0⟩ (And.intro hp (And.intro hxi (And.intro hxc (And.intro rfl (And.intro hV (And.intro hload (And.intro rfl (And.intro rfl ?_)))))))))))))
    cbv
    rw [hT]
    obtain ⟨v, hv2⟩ : ∃ v : Nat → Int, v = fun i => vA p ice cr (w1, w2) (100 * iLen j + iLen i) := ⟨_, rfl⟩
    have hvb : ∀ i, v i = 1 ∨ v i = 2 ∨ v i = 3 := fun i => by rw [hv2]; exact vA_bnd
    have hpl : placeV v = placeS p ice cr (w1, w2) j := by rw [hv2]; rfl
    have hfin : ∀ pv, pv = placeV v → (s ++ [pv]).map I = cs ++ [I pv] := fun pv _ => by rw [hcs]; simp
    have hPn : ∀ pv, pv = placeV v → s ++ [pv] = (List.range (j + 1)).map (placeS p ice cr (w1, w2)) := fun pv h => by rw [h, hpl, hP, List.range_succ]; simp
    have happ : ∀ pv, A.app 1 1 8 cs 0 j [I pv] (cs ++ [I pv]) (j + 1) := fun pv => by subst hA; exact app_one (by rw [hcs]; simp [hsl]) rfl (by omega)
    have hfirst : S2.ve p ice cr [⟨A.mul .i64 100 i, (w1, w2), 0⟩] ⟨A.mul .i64 100 i, (w1, w2), 0⟩ = allV v 1 := by
      rw [hve, hmul, allV_one, hv2]; simp [iLen]
    have hadq : ∀ q, q < 99 → A.add .i64 (A.mul .i64 100 i) (iLen (q + 1)) = 100 * iLen j + iLen (q + 1) := fun q hq => by
      rw [hmul]; subst hA; exact iAdd_id (by unfold iLen at *; omega) (by unfold iLen at *; omega)
    have hLq : ∀ q, q < 99 → LoadsV ice.length [⟨A.add .i64 (A.mul .i64 100 i) (iLen (q + 1)), (w1, w2), 0⟩] := fun q hq => by
      rw [hadq q hq]; exact hLV _ (by unfold iLen at *; omega) (by unfold iLen at *; omega)
    have hvq : ∀ q, q < 99 → S2.ve p ice cr [⟨A.add .i64 (A.mul .i64 100 i) (iLen (q + 1)), (w1, w2), 0⟩] ⟨A.add .i64 (A.mul .i64 100 i) (iLen (q + 1)), (w1, w2), 0⟩ = v (q + 1) := fun q hq => by
      rw [hve, hadq q hq, hv2]
    have hin : ∀ q, A.add .i64 (iLen (q + 1)) 1 = iLen (q + 1 + 1) ∨ 99 < q := fun q => by
      by_cases hq : 99 < q
      · exact .inr hq
      · exact .inl (by subst hA; exact add_one rfl (N := 1000) (by omega) (by omega))
    refine AGo_upS 99 (fun _ (_ : Unit) => True) (fun q _ _ => [(0, plV a b (.vs 2 xs) (.vs 2 ec) ne ed gr lo hi sh wi), (1, .vs 2 xi), (2, .vs 2 xc), (4, .mp 0 0 0), (7, .mp 1 0 0), (12, .ms 1 2 j 0 j), (30, I (A.vlen xi)), (31, I i), (13, I i), (14, I (allV v (q + 1))), (15, I (iLen (q + 1)))])
      (fun _ _ => [.own 0 [I a, I b, .vs 2 xs, .vs 2 ec, I ne, I ed, I gr, I lo, I hi, I sh, I wi], .own 0 [I w1, I w2], .own j cs]) () trivial ⟨rfl, rfl, rfl, rfl, rfl, rfl, rfl, rfl, rfl, congrArg I hfirst, rfl, trivial⟩ (.inl rfl) fun q _ i2 hiq hq _ Bk2 hB2 => ?_
    obtain ⟨av, hav⟩ : ∃ z, z = allV v (q + 1) := ⟨_, rfl⟩
    obtain ⟨mq, hmq⟩ : ∃ z, z = iLen (q + 1) := ⟨_, rfl⟩
    have hlt2 : A.lt mq 100 = decide (q < 99) := by subst hA; simp only [std, iLt, hmq]; unfold iLen; simp; omega
    rw [← hav, ← hmq]
    refine SGo_run hA ⟨[2], [], (87, eVe S2) :: [], []⟩ (.cons (eVe_ok p87 hS2) .nil) .nil 200 fun T TD hT hTD => ?_
    have hend : ∀ pv, pv = placeV v → ∀ cs2, cs2 = cs ++ [I pv] → ∀ e', Fits e' [(0, plV a b (.vs 2 xs) (.vs 2 ec) ne ed gr lo hi sh wi), (1, .vs 2 xi), (2, .vs 2 xc), (4, .mp 0 0 0), (7, .mp 1 0 0), (12, .ms 1 2 (j + 1) 0 (j + 1)), (30, I (A.vlen xi)), (31, I (A.add .i64 i 1))] → Bk e' [.own 0 [I a, I b, .vs 2 xs, .vs 2 ec, I ne, I ed, I gr, I lo, I hi, I sh, I wi], .own 0 [I w1, I w2], .own (j + 1) cs2] := fun pv hpv cs2 hc e' hf => by
      rw [hadd _ hjl (by omega)] at hf
      refine hB (s ++ [pv]) _ _ hjl (hPn _ hpv) hf (.inl ?_)
      rw [hc, hfin _ hpv]
    have hav3 : A.ne av 3 = true → av ≠ 3 := fun h => by subst hA; simpa [std, iNe] using h
    have hav4 : A.ne av 3 = false → av = 3 := fun h => by subst hA; simpa [std, iNe] using h
    have hpv3 : av = 3 → av = placeV v := fun h => by
      rw [h]; exact (allV_end (v := v) (n := q + 1) (by rw [← hav]; exact h) (by omega) (by omega) hvb).symm
    have hpv9 : ¬ q < 99 → av = placeV v := fun h => by
      rw [hav, show q + 1 = 100 by omega]; exact allV_all hvb
    cbv
    split <;> cbv
    · rename_i hq1
      have hq9 : q < 99 := by have := hlt2.symm.trans hq1; simpa using this
      have hloadq := hLq q hq9
      have hvqq := hvq q hq9
      rw [← hmq] at hloadq hvqq
      have haddq : A.add .i64 mq 1 = iLen (q + 1 + 1) := by
        rcases hin q with h | h
        · rw [hmq]; exact h
        · omega
      split <;> cbv
      · rename_i hq2
        have hstep := allV_step (v := v) (n := q + 1) (by rw [← hav]; exact hav3 hq2)
        rw [← hav] at hstep
        refine Exists.intro p (Exists.intro ice (Exists.intro cr (Exists.intro [⟨A.add .i64 (A.mul .i64 100 i) mq, (w1, w2), 0⟩] (Exists.intro 0 (Exists.intro ⟨A.add .i64 (A.mul .i64 100 i) mq, (w1, w2), 0⟩ (And.intro hp (And.intro hxi (And.intro hxc (And.intro rfl (And.intro hV (And.intro hloadq (And.intro rfl (And.intro rfl ?_)))))))))))))
        cbv
        split <;> cbv
        · rename_i hq3
          have hd : v (q + 1) ≠ av := by rw [← hvqq]; have hq3 : A.ne (S2.ve p ice cr [⟨A.add .i64 (A.mul .i64 100 i) mq, (w1, w2), 0⟩] ⟨A.add .i64 (A.mul .i64 100 i) mq, (w1, w2), 0⟩) av = true := hq3; clear hB hB2 hend; subst hA; simpa [std, iNe] using hq3
          rw [if_pos hd] at hstep
          exact hB2 () _ _ hq9 trivial ⟨rfl, rfl, rfl, rfl, rfl, rfl, rfl, rfl, rfl, congrArg I hstep.symm, congrArg I haddq, trivial⟩ (.inl rfl)
        · rename_i hq3
          have hd : ¬ v (q + 1) ≠ av := by rw [← hvqq]; have hq3 : A.ne (S2.ve p ice cr [⟨A.add .i64 (A.mul .i64 100 i) mq, (w1, w2), 0⟩] ⟨A.add .i64 (A.mul .i64 100 i) mq, (w1, w2), 0⟩) av = false := hq3; clear hB hB2 hend; subst hA; simpa [std, iNe] using hq3
          rw [if_neg hd] at hstep
          exact hB2 () _ _ hq9 trivial ⟨rfl, rfl, rfl, rfl, rfl, rfl, rfl, rfl, rfl, congrArg I hstep.symm, congrArg I haddq, trivial⟩ (.inl rfl)
      · rename_i hq2
        obtain ⟨cs2, hcs2⟩ : ∃ c, c = cs ++ [I av] := ⟨_, rfl⟩
        have happ1 := happ av
        rw [← hcs2] at happ1
        refine And.intro (hsg _) (Exists.intro cs2 (Exists.intro (j + 1) (And.intro happ1 (And.intro rfl ?_))))
        cbv
        exact hend av (hpv3 (hav4 hq2)) cs2 hcs2 _ ⟨rfl, rfl, rfl, rfl, rfl, rfl, rfl, rfl, trivial⟩
    · rename_i hq1
      have hq9 : ¬ q < 99 := by have := hlt2.symm.trans hq1; simpa using this
      obtain ⟨cs2, hcs2⟩ : ∃ c, c = cs ++ [I av] := ⟨_, rfl⟩
      have happ1 := happ av
      rw [← hcs2] at happ1
      refine And.intro (hsg _) (Exists.intro cs2 (Exists.intro (j + 1) (And.intro happ1 (And.intro rfl ?_))))
      cbv
      exact hend av (hpv9 hq9) cs2 hcs2 _ ⟨rfl, rfl, rfl, rfl, rfl, rfl, rfl, rfl, trivial⟩
  · rename_i hk1
    have hk1 : ¬ j < ice.length := by have := hlt.symm.trans hk1; simpa using this
    rw [hF]
    subst hcs
    refine Frees.frz 2 j 1 (s.map I) rfl (Elems_I s) (Frees.drop0 ?_ ?_)
    · rw [hW] at h
      have hP : s = (List.range ice.length).map (placeS p ice cr (w1, w2)) := by rw [hP, show j = ice.length by omega]
      rw [← hP] at h
      have : AV.frz 2 j 1 (s.map I) (.ms 1 2 j 0 j) = .vs 1 (s.map I) := by
        rw [← hsl]; exact frz_self (by simp)
      simp only [aTup, AV.frz, AV.frzL] at this ⊢
      rw [this]; exact h
    · simp only [aTup, AV.frz, AV.frzL, AV.nid, AV.nidL, if_true]
      split <;> rfl
end Go.Sas
namespace Go.Sas
open Go.Proofs
set_option maxRecDepth 100000
theorem p43 (p : Plate) {a b : Int} {xs ec : List AV} {ne ed gr lo hi sh wi : Int} (hp : PlateIs p a b xs ec ne ed gr lo hi sh wi) (h1 : p.shares.length ≤ 9223372036854775807) (h2 : p.creep.length ≤ 9223372036854775807) (ice cr : List (Int × Int)) (w1 w2 : Int) (h3 : ice.length ≤ 9223372036854775807) (h4 : cr.length ≤ 9223372036854775807) (H : AHeap) {Kk : AV → AHeap → Prop} (h : Kk (.tup [.vs 1 ((laneS p ice cr (w1, w2)).1.map I), I (laneS p ice cr (w1, w2)).2]) H) :
    ACalls Try.prog 43 [plV a b (.vs 2 xs) (.vs 2 ec) ne ed gr lo hi sh wi, .vs 2 (ice.map sp), .vs 2 (cr.map sp), .agg [I w1, I w2]] H Kk := by
  refine (fun q => pureF (by rfl) (by rfl) q H h) ?_
  clear h
  intro Kk h
  obtain ⟨W, hW⟩ : ∃ W, W = laneS p ice cr (w1, w2) := ⟨_, rfl⟩
  rw [← hW] at h
  obtain ⟨xi, hxi⟩ : ∃ xi, xi = ice.map sp := ⟨_, rfl⟩
  obtain ⟨xc, hxc⟩ : ∃ xc, xc = cr.map sp := ⟨_, rfl⟩
  rw [← hxi, ← hxc]
  obtain ⟨A, hA⟩ : ∃ A, A = std := ⟨_, rfl⟩
  obtain ⟨S, hS⟩ : ∃ S, S = stS := ⟨_, rfl⟩
  obtain ⟨S2, hS2⟩ : ∃ S, S = st2 := ⟨_, rfl⟩
  have hv : A.vlen xi = iLen ice.length := by subst hA; simp [std, hxi]
  obtain ⟨F, hF⟩ : ∃ F, F = Frees 0 Kk := ⟨_, rfl⟩
  rw [← hF]
  refine go43 rfl (SGo_run hA ⟨[], [], (88, eCheckAll S) :: (90, eVe S2) :: tb5 S S2, []⟩ (.cons (eCheckAll_ok p88 hS) (.cons (eVe_ok p90 hS2) (tb5_ok hS hS2))) .nil 200 fun T TD hT hTD => ?_)
  cbv
  refine Exists.intro p (Exists.intro ice (Exists.intro cr (And.intro hp (And.intro h1 (And.intro h2 (And.intro hxi (And.intro hxc (And.intro (by omega) (And.intro h4 ?_)))))))))
  cbv
  split <;> cbv
  · rename_i hq
    have hq : checkAllS p ice cr ≠ 0 := by have hq : A.ne (S.checkAll p ice cr) 0 = true := hq; subst hA hS; simpa [std, stS, iNe] using hq
    have e1 : S.checkAll p ice cr = checkAllS p ice cr := by subst hS; rfl
    unfold laneS at hW
    rw [if_pos hq] at hW
    rw [hF]
    refine Frees.wk (r' := .tup [.vs 1 [], I (S.checkAll p ice cr)]) (Wk.tup ⟨Wk.nil, Wk.rfl, trivial⟩) (Frees.drop0 ?_ rfl)
    rw [hW] at h
    rw [e1]; exact h
  rename_i hq
  have hq : checkAllS p ice cr = 0 := by have hq : A.ne (S.checkAll p ice cr) 0 = false := hq; subst hA hS; simpa [std, stS, iNe] using hq
  unfold laneS at hW
  rw [if_neg (by simp [hq])] at hW
  have hV := checkAllS_ok hq
  have hil := hV.il
  have eF : S.fault w1 w2 0 200000 = faultS w1 w2 0 200000 := by subst hS; rfl
  split <;> cbv
  · rename_i hq2
    have hq2 : faultS w1 w2 0 200000 ≠ 0 := by have hq2 : A.ne (S.fault w1 w2 0 200000) 0 = true := hq2; rw [eF] at hq2; subst hA; simpa [std, iNe] using hq2
    rw [if_pos hq2] at hW
    rw [hF]
    refine Frees.wk (r' := .tup [.vs 1 [], I (S.fault w1 w2 0 200000)]) (Wk.tup ⟨Wk.nil, Wk.rfl, trivial⟩) (Frees.drop0 ?_ rfl)
    rw [hW] at h
    rw [eF]; exact h
  rename_i hq2
  have hq2 : faultS w1 w2 0 200000 = 0 := by have hq2 : A.ne (S.fault w1 w2 0 200000) 0 = false := hq2; rw [eF] at hq2; subst hA; simpa [std, iNe] using hq2
  rw [if_neg (by simp [hq2])] at hW
  have hw := faultS_ok hq2
  clear eF
  have hLV : ∀ m : Int, 0 ≤ m → m < 100 * iLen ice.length → LoadsV ice.length [⟨m, (w1, w2), 0⟩] := fun m hm1 hm2 => ⟨by simp, fun x hx => by
    simp at hx; subst hx
    unfold iLen at hm2
    exact ⟨hm1, by simp only; omega, hw.1, hw.2.1, hw.2.2, by simp, by simp⟩⟩
  have hve : ∀ m, S2.ve p ice cr [⟨m, (w1, w2), 0⟩] ⟨m, (w1, w2), 0⟩ = vA p ice cr (w1, w2) m := fun m => by subst hS2; rfl
  have hsg : ∀ g, A.sg g g := by subst hA; exact fun _ => rfl
  rw [hT]
  refine AGo_nilms 12 1 rfl ?_
  refine AGo_upS ice.length (fun j (s : List Int) => s = (List.range j).map (placeS p ice cr (w1, w2))) (fun j _ i => [(0, plV a b (.vs 2 xs) (.vs 2 ec) ne ed gr lo hi sh wi), (1, .vs 2 xi), (2, .vs 2 xc), (4, .mp 0 0 0), (7, .mp 1 0 0), (12, .ms 1 2 j 0 j), (13, I i)])
    (fun j s => [.own 0 [I a, I b, .vs 2 xs, .vs 2 ec, I ne, I ed, I gr, I lo, I hi, I sh, I wi], .own 0 [I w1, I w2], .own j (s.map I)]) [] rfl ⟨rfl, rfl, rfl, rfl, rfl, rfl, rfl, trivial⟩ (.inl rfl) fun j s i hij hj hP Bk hB => ?_
  have hlt : A.lt i (A.vlen xi) = decide (j < ice.length) := by subst hA; exact lt_len (by simp [hxi]) hij
  have hadd : ∀ N, j < N → N ≤ 9223372036854775807 → A.add .i64 i 1 = iLen (j + 1) := fun N hj hN => by subst hA; exact add_one hij hj hN
  have hmul : A.mul .i64 100 i = 100 * iLen j := by subst hA; rw [hij]; exact iMul_id (by unfold iLen; omega) (by unfold iLen; omega)
  have hmb : j < ice.length → 0 ≤ 100 * iLen j ∧ 100 * iLen j + 99 < 100 * iLen ice.length := fun h => by unfold iLen; omega
  have hsl : s.length = j := by rw [hP]; simp
  obtain ⟨cs, hcs⟩ : ∃ cs, cs = s.map I := ⟨_, rfl⟩
  rw [← hcs]
  refine SGo_run hA ⟨[2], [], (90, eVe S2) :: [], []⟩ (.cons (eVe_ok p90 hS2) .nil) .nil 200 fun T TD hT hTD => ?_
  cbv
  split <;> cbv
  · rename_i hk1
    have hk1 : j < ice.length := by have := hlt.symm.trans hk1; simpa using this
    have hjl : j < ice.length := hk1
    obtain ⟨hm1, hm2⟩ := hmb hjl
    obtain ⟨v, hv2⟩ : ∃ v : Nat → Int, v = fun i => vA p ice cr (w1, w2) (100 * iLen j + iLen i) := ⟨_, rfl⟩
    have hpl : placeV v = placeS p ice cr (w1, w2) j := by rw [hv2]; rfl
    have hfin : ∀ pv, pv = placeV v → (s ++ [pv]).map I = cs ++ [I pv] := fun pv _ => by rw [hcs]; simp
    have hPn : ∀ pv, pv = placeV v → s ++ [pv] = (List.range (j + 1)).map (placeS p ice cr (w1, w2)) := fun pv h => by rw [h, hpl, hP, List.range_succ]; simp
    have happ : ∀ pv, A.app 1 1 8 cs 0 j [I pv] (cs ++ [I pv]) (j + 1) := fun pv => by subst hA; exact app_one (by rw [hcs]; simp [hsl]) rfl (by omega)
    have hfirst : A.mul .i64 100 i = 100 * iLen j + iLen 0 := by rw [hmul]; simp [iLen]
    have hadq : ∀ q, q < 100 → A.add .i64 (100 * iLen j + iLen q) 1 = 100 * iLen j + iLen (q + 1) := fun q hq => by
      subst hA; exact (iAdd_id (by unfold iLen at *; omega) (by unfold iLen at *; omega)).trans (by unfold iLen; omega)
    have hlim : A.add .i64 (A.mul .i64 100 i) 100 = 100 * iLen j + 100 := by
      rw [hmul]; subst hA; exact iAdd_id (by unfold iLen at *; omega) (by unfold iLen at *; omega)
    have hLq : ∀ q, q < 100 → LoadsV ice.length [⟨100 * iLen j + iLen q, (w1, w2), 0⟩] := fun q hq => hLV _ (by unfold iLen at *; omega) (by unfold iLen at *; omega)
    have hvq : ∀ q, S2.ve p ice cr [⟨100 * iLen j + iLen q, (w1, w2), 0⟩] ⟨100 * iLen j + iLen q, (w1, w2), 0⟩ = v q := fun q => by
      rw [hve, hv2]
    have hcn : ∀ c q, q ≤ 100 → A.add .i64 (iLen (cntV v c q)) 1 = iLen (cntV v c q + 1) := fun c q hq => by
      have := cntV_le (v := v) (c := c) q
      subst hA; exact add_one rfl (N := 1000) (by omega) (by omega)
    rw [hT]
    refine AGo_upS 100 (fun _ (_ : Unit) => True) (fun q _ _ => [(0, plV a b (.vs 2 xs) (.vs 2 ec) ne ed gr lo hi sh wi), (1, .vs 2 xi), (2, .vs 2 xc), (4, .mp 0 0 0), (7, .mp 1 0 0), (12, .ms 1 2 j 0 j), (13, I i), (14, I (iLen (cntV v 1 q))), (15, I (iLen (cntV v 2 q))), (16, I (100 * iLen j + iLen q))])
      (fun _ _ => [.own 0 [I a, I b, .vs 2 xs, .vs 2 ec, I ne, I ed, I gr, I lo, I hi, I sh, I wi], .own 0 [I w1, I w2], .own j cs]) () trivial ⟨rfl, rfl, rfl, rfl, rfl, rfl, rfl, rfl, rfl, congrArg I hfirst, trivial⟩ (.inl rfl) fun q _ i2 hiq hq _ Bk2 hB2 => ?_
    obtain ⟨c1, hc1⟩ : ∃ z, z = iLen (cntV v 1 q) := ⟨_, rfl⟩
    obtain ⟨c2, hc2⟩ : ∃ z, z = iLen (cntV v 2 q) := ⟨_, rfl⟩
    obtain ⟨mq, hmq⟩ : ∃ z, z = 100 * iLen j + iLen q := ⟨_, rfl⟩
    have hlt2 : A.lt mq (A.add .i64 (A.mul .i64 100 i) 100) = decide (q < 100) := by rw [hlim]; subst hA; simp only [std, iLt, hmq]; unfold iLen; simp; omega
    have hs1 : A.add .i64 c1 1 = iLen (cntV v 1 q + 1) := by rw [hc1]; exact hcn 1 q hq
    have hs2 : A.add .i64 c2 1 = iLen (cntV v 2 q + 1) := by rw [hc2]; exact hcn 2 q hq
    have hq1 : ∀ c, A.eq c 100 = decide (c = 100) := fun c => by subst hA; rfl
    have hqv : ∀ c k, A.eq c k = decide (c = k) := fun c k => by subst hA; rfl
    rw [← hc1, ← hc2, ← hmq]
    have hend : ∀ pv, pv = placeV v → ∀ cs2, cs2 = cs ++ [I pv] → ∀ e', Fits e' [(0, plV a b (.vs 2 xs) (.vs 2 ec) ne ed gr lo hi sh wi), (1, .vs 2 xi), (2, .vs 2 xc), (4, .mp 0 0 0), (7, .mp 1 0 0), (12, .ms 1 2 (j + 1) 0 (j + 1)), (13, I (A.add .i64 i 1))] → Bk e' [.own 0 [I a, I b, .vs 2 xs, .vs 2 ec, I ne, I ed, I gr, I lo, I hi, I sh, I wi], .own 0 [I w1, I w2], .own (j + 1) cs2] := fun pv hpv cs2 hc e' hf => by
      rw [hadd _ hjl (by omega)] at hf
      refine hB (s ++ [pv]) _ _ hjl (hPn _ hpv) hf (.inl ?_)
      rw [hc, hfin _ hpv]
    have hone : ∀ w1', w1' = v q → (w1' = 1 → cntV v 1 (q + 1) = cntV v 1 q + 1 ∧ cntV v 2 (q + 1) = cntV v 2 q) ∧ (w1' = 2 → cntV v 1 (q + 1) = cntV v 1 q ∧ cntV v 2 (q + 1) = cntV v 2 q + 1) ∧ (w1' ≠ 1 → w1' ≠ 2 → cntV v 1 (q + 1) = cntV v 1 q ∧ cntV v 2 (q + 1) = cntV v 2 q) := fun z hz => by
      subst hz; simp only [cntV]
      refine ⟨fun h => ?_, fun h => ?_, fun h h' => ?_⟩
      · rw [if_pos h, if_neg (by omega)]; exact ⟨rfl, rfl⟩
      · rw [if_neg (by omega), if_pos h]; exact ⟨rfl, rfl⟩
      · rw [if_neg h, if_neg h']; exact ⟨rfl, rfl⟩
    have hvqq := hvq q
    rw [← hmq] at hvqq
    have hon := hone _ hvqq
    have hre : ¬ q < 100 → (c2 = 100 → (2 : Int) = placeV v) ∧ (c2 ≠ 100 → c1 = 100 → (1 : Int) = placeV v) ∧ (c2 ≠ 100 → c1 ≠ 100 → (3 : Int) = placeV v) := fun h => by
      have : q = 100 := by omega
      subst this
      rw [placeV_cnt, hc1, hc2]; unfold iLen
      refine ⟨fun h => ?_, fun h h' => ?_, fun h h' => ?_⟩
      · rw [if_pos (by omega)]
      · rw [if_neg (by omega), if_pos (by omega)]
      · rw [if_neg (by omega), if_neg (by omega)]
    have hmadd : q < 100 → A.add .i64 mq 1 = 100 * iLen j + iLen (q + 1) := fun h => by rw [hmq]; exact hadq q h
    have hloadq := hLq q
    rw [← hmq] at hloadq
    clear hLq hvq hadq hcn hlim hfirst hone
    refine SGo_run hA ⟨[2], [], (90, eVe S2) :: [], []⟩ (.cons (eVe_ok p90 hS2) .nil) .nil 200 fun T TD hT hTD => ?_
    cbv
    split <;> cbv
    · rename_i hq2
      have hq9 : q < 100 := by have := hlt2.symm.trans hq2; simpa using this
      refine Exists.intro p (Exists.intro ice (Exists.intro cr (Exists.intro [⟨mq, (w1, w2), 0⟩] (Exists.intro 0 (Exists.intro ⟨mq, (w1, w2), 0⟩ (And.intro hp (And.intro hxi (And.intro hxc (And.intro rfl (And.intro hV (And.intro (hloadq hq9) (And.intro rfl (And.intro rfl ?_)))))))))))))
      cbv
      obtain ⟨z, hz⟩ : ∃ z, z = S2.ve p ice cr [⟨mq, (w1, w2), 0⟩] ⟨mq, (w1, w2), 0⟩ := ⟨_, rfl⟩
      have hz1 : A.eq (S2.ve p ice cr [⟨mq, (w1, w2), 0⟩] ⟨mq, (w1, w2), 0⟩) 1 = decide (z = 1) := by rw [← hz]; exact hqv z 1
      have hz2 : A.eq (S2.ve p ice cr [⟨mq, (w1, w2), 0⟩] ⟨mq, (w1, w2), 0⟩) 2 = decide (z = 2) := by rw [← hz]; exact hqv z 2
      rw [← hz] at hon
      have hm9 := hmadd hq9
      split <;> cbv
      · rename_i hy
        have hy : z = 1 := by have := hz1.symm.trans hy; simpa using this
        obtain ⟨g1, g2⟩ := hon.1 hy
        exact hB2 () _ _ hq9 trivial ⟨rfl, rfl, rfl, rfl, rfl, rfl, rfl, congrArg I (by rw [g1]; exact hs1), congrArg I (by rw [g2]; exact hc2), congrArg I hm9, trivial⟩ (.inl rfl)
      · rename_i hy
        have hy : z ≠ 1 := by have := hz1.symm.trans hy; simpa using this
        split <;> cbv
        · rename_i hy2
          have hy2 : z = 2 := by have := hz2.symm.trans hy2; simpa using this
          obtain ⟨g1, g2⟩ := hon.2.1 hy2
          exact hB2 () _ _ hq9 trivial ⟨rfl, rfl, rfl, rfl, rfl, rfl, rfl, congrArg I (by rw [g1]; exact hc1), congrArg I (by rw [g2]; exact hs2), congrArg I hm9, trivial⟩ (.inl rfl)
        · rename_i hy2
          have hy2 : z ≠ 2 := by have := hz2.symm.trans hy2; simpa using this
          obtain ⟨g1, g2⟩ := hon.2.2 hy hy2
          exact hB2 () _ _ hq9 trivial ⟨rfl, rfl, rfl, rfl, rfl, rfl, rfl, congrArg I (by rw [g1]; exact hc1), congrArg I (by rw [g2]; exact hc2), congrArg I hm9, trivial⟩ (.inl rfl)
    · rename_i hq2
      have hq9 : ¬ q < 100 := by have := hlt2.symm.trans hq2; simpa using this
      obtain ⟨r1, r2, r3⟩ := hre hq9
      have hd1 : A.eq c1 100 = decide (c1 = 100) := hq1 c1
      have hd2 : A.eq c2 100 = decide (c2 = 100) := hq1 c2
      split <;> cbv
      all_goals
        rename_i hy1
        have hy1 := hd1.symm.trans hy1
        split <;> cbv
      all_goals
        rename_i hy2
        have hy2 := hd2.symm.trans hy2
        simp only [decide_eq_true_eq, decide_eq_false_iff_not] at hy1 hy2
      all_goals
        refine And.intro (hsg _) (Exists.intro _ (Exists.intro (j + 1) (And.intro (happ _) (And.intro rfl ?_))))
        generalize hcs2 : cs ++ _ = cs2
        cbv
      · exact hend 2 (r1 hy2) cs2 hcs2.symm _ ⟨rfl, rfl, rfl, rfl, rfl, rfl, rfl, trivial⟩
      · exact hend 1 (r2 hy2 hy1) cs2 hcs2.symm _ ⟨rfl, rfl, rfl, rfl, rfl, rfl, rfl, trivial⟩
      · exact hend 2 (r1 hy2) cs2 hcs2.symm _ ⟨rfl, rfl, rfl, rfl, rfl, rfl, rfl, trivial⟩
      · exact hend 3 (r3 hy2 hy1) cs2 hcs2.symm _ ⟨rfl, rfl, rfl, rfl, rfl, rfl, rfl, trivial⟩
  · rename_i hk1
    have hk1 : ¬ j < ice.length := by have := hlt.symm.trans hk1; simpa using this
    rw [hF]
    subst hcs
    refine Frees.frz 2 j 1 (s.map I) rfl (Elems_I s) (Frees.drop0 ?_ ?_)
    · rw [hW] at h
      have hP : s = (List.range ice.length).map (placeS p ice cr (w1, w2)) := by rw [hP, show j = ice.length by omega]
      rw [← hP] at h
      have : AV.frz 2 j 1 (s.map I) (.ms 1 2 j 0 j) = .vs 1 (s.map I) := by
        rw [← hsl]; exact frz_self (by simp)
      simp only [aTup, AV.frz, AV.frzL] at this ⊢
      rw [this]; exact h
    · simp only [aTup, AV.frz, AV.frzL, AV.nid, AV.nidL, if_true]
      split <;> rfl
end Go.Sas
namespace Go.Sas
open Go.Proofs
set_option maxRecDepth 100000
def eLane : List AV → Option ((AV → Prop) → Prop)
  | [pl, ic, cc, .agg [.lit (.int .i64 w1), .lit (.int .i64 w2)]] => match asPl pl, asVs 2 ic, asVs 2 cc with
    | some x, some xi, some xc => some fun K => ∃ p ice cr, PlIs p x ∧ Big p.shares ∧ Big p.creep ∧ (xi = ice.map sp ∧ BigL ice) ∧ (xc = cr.map sp ∧ BigL cr) ∧
        ∀ r e ys, (r, e) = laneS p ice cr (w1, w2) → ys = r.map I → K (.tup [.vs 1 ys, I e])
    | _, _, _ => none
  | _ => none
theorem eLane_ok {f : Nat} (hf : ∀ (p : Plate) {a b : Int} {xs ec : List AV} {ne ed gr lo hi sh wi : Int}, PlateIs p a b xs ec ne ed gr lo hi sh wi → p.shares.length ≤ 9223372036854775807 → p.creep.length ≤ 9223372036854775807 → ∀ (ice cr : List (Int × Int)) (w1 w2 : Int), ice.length ≤ 9223372036854775807 → cr.length ≤ 9223372036854775807 → ∀ (H : AHeap) {Kk : AV → AHeap → Prop}, Kk (.tup [.vs 1 ((laneS p ice cr (w1, w2)).1.map I), I (laneS p ice cr (w1, w2)).2]) H →
    ACalls Try.prog f [plV a b (.vs 2 xs) (.vs 2 ec) ne ed gr lo hi sh wi, .vs 2 (ice.map sp), .vs 2 (cr.map sp), .agg [I w1, I w2]] H Kk) : ∀ args pt, eLane args = some pt → ∀ (H : AHeap) (Kk : AV → AHeap → Prop), pt (fun r => Kk r H) → ACalls Try.prog f args H Kk := by
  intro args pt h H Kk hk
  unfold eLane at h
  split at h
  · split at h
    · rename_i x xi xc hy h3 h4
      cases h
      obtain ⟨p, ice, cr, h1, b1, b2, ⟨rfl, b3⟩, ⟨rfl, b4⟩, h6⟩ := hk
      obtain ⟨a, b, xs, ec, ne, ed, gr, lo, hi, sh, wi⟩ := x
      unfold BigL at b3 b4
      exact (hf p h1 b1 b2 ice cr _ _ (by omega) (by omega) H (h6 _ _ _ rfl rfl)).wk ⟨asPl_wk hy, asVs_wk h3, asVs_wk h4, Wk.rfl, trivial⟩
    · cases h
  · cases h
end Go.Sas
