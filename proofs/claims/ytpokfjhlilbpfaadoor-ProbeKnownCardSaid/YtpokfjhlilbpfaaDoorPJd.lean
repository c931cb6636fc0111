/-
Probe: marks that may be: contracts.
Probe: what Close and Lasts are asked: contracts.
Conditions: none.
-/
import Derived.Test.YtpokfjhlilbpfaaDoorPId
import Derived.Test.YtpokfjhlilbpfaaDoorPBd
set_option linter.unusedVariables false
set_option linter.unusedSimpArgs false
namespace Go.Sas
open Go.Proofs
set_option maxRecDepth 100000
theorem p58 (n : Int) (m : List Mrk) (hn : 0 ≤ n ∧ n ≤ 1000000) (hl : m.length ≤ 9223372036854775807) (H : AHeap) {Kk : AV → AHeap → Prop} (h : Kk (I (marksE n m)) H) : ACalls Tryd.prog 58 [I n, .vs 5 (m.map mkV)] H Kk := by
  refine (fun q => pureC (by rfl) (by rfl) q H h) ?_
  clear h
  intro Kk h
  obtain ⟨ys, hys⟩ : ∃ ys, ys = m.map mkV := ⟨_, rfl⟩
  rw [← hys]
  obtain ⟨W, hW⟩ : ∃ W, W = marksE n m := ⟨_, rfl⟩
  rw [← hW] at h
  obtain ⟨A, hA⟩ : ∃ A, A = std := ⟨_, rfl⟩
  have hv : A.lt 100 (A.vlen ys) = decide (100 < m.length) := by subst hA; simp only [std, iLt, hys, List.length_map, iLen]; rw [decide_eq_decide]; omega
  have hn1 : A.sub .i64 n 1 = n - 1 := by subst hA; exact iSub_id (by omega) (by omega)
  refine go58 rfl (SGo_run hA ⟨[], [], [], []⟩ .nil .nil 200 fun T TD hT hTD => ?_)
  cbv
  split <;> cbv
  · rename_i hz
    have hz : 100 < m.length := by have hz := hv.symm.trans hz; simpa using hz
    refine leaf h (congrArg I ?_) rfl
    rw [hW]; unfold marksE; rw [if_pos hz]
  rename_i hz
  have hz : ¬ 100 < m.length := by have hz := hv.symm.trans hz; simpa using hz
  have hW : W = firstE (markE n) m := by rw [hW]; unfold marksE; rw [if_neg hz]
  have hl2 : m.length ≤ 100 := by omega
  clear hz
  rw [hT]
  refine AGo_upE [0, 10, 11] m.length (fun j (_ : Unit) => firstE (markE n) m = firstE (markE n) (m.drop j)) (fun j _ i => [(12, I i)]) (fun _ _ => []) () rfl ⟨rfl, trivial⟩ (.inl rfl) fun j _ i hi hj hP Bk hB => ?_
  have hlt : A.lt i (A.vlen ys) = decide (j < m.length) := by subst hA; exact lt_len (by simp [hys]) hi
  have hadd : ∀ N, j < N → N ≤ 9223372036854775807 → A.add .i64 i 1 = iLen (j + 1) := fun N hj hN => by subst hA; exact add_one hi hj hN
  refine SGo_run hA ⟨[], [], (16, eIn) :: [], []⟩ (.cons (eIn_ok p16) .nil) .nil 200 fun T TD hT hTD => ?_
  cbv
  split <;> cbv
  · rename_i hk0
    have hk1 : j < m.length := by have hz := hlt.symm.trans hk0; simpa using hz
    clear hk0
    obtain ⟨⟨k, f, t, g, s⟩, hx⟩ : ∃ x, m[j]? = some x := ⟨_, List.getElem?_eq_getElem hk1⟩
    have hix : A.ix 5 5 ys i [I k, I f, I t, I g, I s] := by subst hA; exact ix_map hys hi hx rfl
    rw [firstE_drop hx] at hP
    have hR : ∀ e, e ≠ 0 → markE n ⟨k, f, t, g, s⟩ = e → W = e := fun e h0 h => by rw [hW, hP, h, if_neg h0]
    have hN : markE n ⟨k, f, t, g, s⟩ = 0 → firstE (markE n) m = firstE (markE n) (m.drop (j + 1)) := fun h => by rw [hP, if_pos h]
    have hlt2 : A.lt t f = decide (t < f) := by subst hA; rfl
    repeat' (first | (refine Exists.intro _ (And.intro hix ?_); cbv) | (intro qq hfq; cbv) | (split <;> cbv))
    all_goals first
      | refine hB () _ _ hk1 (hN ?_) ⟨congrArg I (hadd _ hk1 (by omega)), trivial⟩ ⟨rfl, rfl, rfl, trivial⟩ (.inr ⟨⟨_, rfl⟩, Nat.zero_le _, by simp [ltG, AV.lt, AV.ltL, keepS, look], by simp [ltH, AObj.lt, AV.lt, AV.ltL]⟩)
      | refine leaf h (congrArg I (hR _ (by decide) ?_)) rfl
    all_goals
      clear hR hN hP hix hv hW hlt hadd hB hx h hl hl2 hk1 hi hj hT hTD hys
      simp only [hn1] at *
      clear hn1
      subst hA
      simp only [std, iLt] at *
      try clear hT hTD
      try clear hxs
      subst_vars
      simp only [Bool.not_eq_true', Bool.not_eq_false', decide_eq_true_eq, decide_eq_false_iff_not] at *
      simp only [markE]
      first | rw [if_pos (by omega)] | rw [if_neg (by omega), if_pos (by omega)] | rw [if_neg (by omega), if_neg (by omega), if_pos (by omega)] | rw [if_neg (by omega), if_neg (by omega), if_neg (by omega), if_pos (by omega)] | rw [if_neg (by omega), if_neg (by omega), if_neg (by omega), if_neg (by omega)]
  · rename_i hk0
    have hk1 : ¬ j < m.length := by have hz := hlt.symm.trans hk0; simpa using hz
    clear hk0
    refine leaf h (congrArg I ?_) rfl
    rw [hW, hP, List.drop_eq_nil_of_le (by omega)]; rfl
def eMarksN : List AV → Option ((AV → Prop) → Prop)
  | [.lit (.int .i64 n), .vs 5 ys] => some fun K => ∃ (m : List Mrk), ys = m.map mkV ∧ (0 ≤ n ∧ n ≤ 1000000) ∧ m.length ≤ 9223372036854775807 ∧ ∀ q, q = marksE n m → K (I q)
  | _ => none
theorem eMarksN_ok : ∀ args pt, eMarksN args = some pt → ∀ (H : AHeap) (Kk : AV → AHeap → Prop), pt (fun r => Kk r H) → ACalls Tryd.prog 58 args H Kk := by
  intro args pt h H Kk hk
  unfold eMarksN at h
  split at h
  · cases h
    obtain ⟨m, rfl, h1, h2, h3⟩ := hk
    exact p58 _ _ h1 h2 H (h3 _ rfl)
  · cases h
end Go.Sas
namespace Go.Sas
open Go.Proofs
set_option maxRecDepth 100000
/-- of a function that names no object, with more than one answer -/
theorem pureQ {P : Program} {f : Nat} {args : List AV} {Q : AV → Prop} (ha : AV.nidL args = true) (hr : ∀ r, Q r → r.nid = true) (h : ∀ Kk : AV → AHeap → Prop, (∀ r, Q r → Kk r []) → ACalls P f args [] (Frees 0 Kk)) (H : AHeap) {Kk : AV → AHeap → Prop} (hk : ∀ r, Q r → Kk r H) : ACalls P f args H Kk := by
  have h1 := ACalls.frees (h (fun r H' => Q r ∧ H' = []) fun r hq => ⟨hq, rfl⟩)
  have := ACalls.frame (H := H) [] h1 List.nodup_nil rfl (AV.ltL_nid ha) (by simp [ltH]) (fun k X hk => by simp at hk)
  rw [AV.renL_nid ha] at this
  refine this.mono fun r H' hx => ?_
  obtain ⟨r0, H1, ⟨hq, rfl⟩, _, rfl, rfl⟩ := hx
  rw [AV.ren_nid (hr _ hq)]
  simpa [merge, updL] using hk _ hq
theorem ite_both {c p q : Prop} {inst : Decidable c} (h1 : p) (h2 : q) : if c then p else q := by split <;> assumption
def marksS (rs : List Rch) (a b c : Int) (m : List Mrk) : Int := orElse (checkV rs a b c) (marksE (sumLg rs) m)
theorem p35 (rs : List Rch) (a b c : Int) (m : List Mrk) (h1 : rs.length ≤ 9223372036854775807) (h2 : m.length ≤ 9223372036854775807) (H : AHeap) {Kk : AV → AHeap → Prop}
    (h : Kk (I (marksS rs a b c m)) H) : ACalls Tryd.prog 35 [svV (.vs 5 (rs.map rcV)) a b c, .vs 5 (m.map mkV)] H Kk := by
  refine (fun q => pureC (by rfl) (by rfl) q H h) ?_
  clear h
  intro Kk h
  obtain ⟨xs, hxs⟩ : ∃ xs, xs = rs.map rcV := ⟨_, rfl⟩
  rw [← hxs]
  obtain ⟨ys, hys⟩ : ∃ ys, ys = m.map mkV := ⟨_, rfl⟩
  rw [← hys]
  obtain ⟨A, hA⟩ : ∃ A, A = std := ⟨_, rfl⟩
  have hne : ∀ x, A.ne x 0 = decide (x ≠ 0) := by subst hA; intro x; simp only [std, iNe]; rw [Bool.eq_iff_iff]; simp
  unfold marksS orElse at h
  refine go35 rfl (SGo_run hA ⟨[], [], (30, eCheckV) :: (38, ePlaces) :: (58, eMarksN) :: [], []⟩ (.cons (eCheckV_ok p30) (.cons (ePlaces_ok p38) (.cons eMarksN_ok .nil))) .nil 200 fun T TD hT hTD => ?_)
  cbv
  refine Exists.intro rs (And.intro hxs (And.intro h1 ?_))
  intro q hq; cbv
  rw [← hq] at h
  split <;> cbv
  · rename_i hz
    have hz : q ≠ 0 := by have hz := (hne q).symm.trans hz; simpa using hz
    rw [if_neg hz] at h
    exact h
  rename_i hz
  have hz : q = 0 := by have hz := (hne q).symm.trans hz; simpa using hz
  rw [if_pos hz] at h
  have ho := (checkV_ok.1 (hq.symm.trans hz)).1
  have hsb := sumLg_bnd' ho
  refine Exists.intro rs (And.intro hxs (And.intro (by have := ho.n2; omega) (And.intro ho.all ?_)))
  intro n hn; cbv
  refine Exists.intro m (And.intro hys (And.intro (by omega) (And.intro h2 ?_)))
  intro q2 hq2; cbv
  rw [hn] at hq2
  rw [← hq2] at h
  exact h
/-- valid marks: of a survey -/
def eMarksS : List AV → Option ((AV → Prop) → Prop)
  | [.agg [.vs 5 xs, .lit (.int .i64 a), .lit (.int .i64 b), .lit (.int .i64 c)], .vs 5 ys] => some fun K => ∃ (rs : List Rch) (m : List Mrk), xs = rs.map rcV ∧ ys = m.map mkV ∧ rs.length ≤ 9223372036854775807 ∧ m.length ≤ 9223372036854775807 ∧ ∀ q, q = marksS rs a b c m → K (I q)
  | _ => none
theorem eMarksS_ok {f : Nat} (hf : ∀ (rs : List Rch) (a b c : Int) (m : List Mrk), rs.length ≤ 9223372036854775807 → m.length ≤ 9223372036854775807 → ∀ (H : AHeap) {Kk : AV → AHeap → Prop}, Kk (I (marksS rs a b c m)) H → ACalls Tryd.prog f [svV (.vs 5 (rs.map rcV)) a b c, .vs 5 (m.map mkV)] H Kk) :
    ∀ args pt, eMarksS args = some pt → ∀ (H : AHeap) (Kk : AV → AHeap → Prop), pt (fun r => Kk r H) → ACalls Tryd.prog f args H Kk := by
  intro args pt h H Kk hk
  unfold eMarksS at h
  split at h
  · cases h
    obtain ⟨rs, m, rfl, rfl, h1, h2, h3⟩ := hk
    exact hf _ _ _ _ _ h1 h2 H (h3 _ rfl)
  · cases h
/-- the answer of asked -/
def AskedK (rs : List Rch) (a b c : Int) (l : List Lk) (m : List Mrk) (need h : Int) (xs : List AV) (K : AV → Prop) : Prop :=
  (∀ e g x y, e = askE rs a b c l m need h → e ≠ 0 → g.nid = true → (∃ a1 a2 a3 a4 a5 a6, g = .agg [a1, a2, a3, a4, a5, a6]) → x = NS → y = NS → K (.tup [g, x, y, I e])) ∧
  (askE rs a b c l m need h = 0 → ∀ ys zs ls ms, GrIs rs xs ys zs → ls = (pastL l h).map lkV → ms = (pastM m h).map mkV → K (.tup [grV (.vs 5 xs) a b c (.vs 1 ys) (.vs 5 zs), .vs 5 ls, .vs 5 ms, I 0]))
abbrev lkC (x : Lk) : List AV := [I x.k, I x.p, I x.h, I x.lo, I x.hi]
abbrev mkC (x : Mrk) : List AV := [I x.k, I x.f, I x.t, I x.h, I x.s]
theorem p43 (rs : List Rch) (a b c : Int) (l : List Lk) (m : List Mrk) (need h0 : Int) (h1 : rs.length ≤ 9223372036854775807) (h2 : l.length ≤ 9223372036854775807) (h3 : m.length ≤ 9223372036854775807) (H : AHeap) {Kk : AV → AHeap → Prop}
    (h : AskedK rs a b c l m need h0 (rs.map rcV) fun r => Kk r H) : ACalls Tryd.prog 43 [svV (.vs 5 (rs.map rcV)) a b c, .vs 5 (l.map lkV), .vs 5 (m.map mkV), I need, I h0] H Kk := by
  have hnr := nidL_rc rs
  refine (fun q => pureQ (Q := fun r => ∀ K, AskedK rs a b c l m need h0 (rs.map rcV) K → K r) (by simp [AV.nidL, AV.nid, hnr]) (fun r hr => hr (fun r => r.nid = true) ⟨fun e g x y _ _ h1 _ h2 h3 => by simp [AV.nid, AV.nidL, h1, h2, h3], fun _ ys zs ls ms h1 h2 h3 => by
    rw [h1.2.1, h1.2.2, h2, h3]; simp [AV.nid, AV.nidL, hnr, nidL_map (g := I) (fun _ => rfl), nidL_rc, nidL_map (g := lkV) (fun _ => rfl), nidL_map (g := mkV) (fun _ => rfl)]⟩) q H (fun r hr => hr (fun r => Kk r H) h)) ?_
  clear h
  intro Kk hh
  have h : AskedK rs a b c l m need h0 (rs.map rcV) fun r => Kk r [] := ⟨fun e g x y h1 h2 h3 h4 h5 h6 => hh _ fun K hK => hK.1 e g x y h1 h2 h3 h4 h5 h6, fun h1 ys zs ls ms h2 h3 h4 => hh _ fun K hK => hK.2 h1 ys zs ls ms h2 h3 h4⟩
  clear hh
  obtain ⟨xs, hxs⟩ : ∃ xs, xs = rs.map rcV := ⟨_, rfl⟩
  rw [← hxs] at h ⊢
  obtain ⟨ls, hls⟩ : ∃ ys, ys = l.map lkV := ⟨_, rfl⟩
  rw [← hls]
  obtain ⟨ms, hms⟩ : ∃ ys, ys = m.map mkV := ⟨_, rfl⟩
  rw [← hms]
  obtain ⟨A, hA⟩ : ∃ A, A = std := ⟨_, rfl⟩
  obtain ⟨F, hF⟩ : ∃ F, F = Frees 0 Kk := ⟨_, rfl⟩
  rw [← hF]
  have hsg : ∀ g, A.sg g g := by subst hA; exact fun _ => rfl
  have hne : ∀ x, A.ne x 0 = decide (x ≠ 0) := by subst hA; intro x; simp only [std, iNe]; rw [Bool.eq_iff_iff]; simp
  have hnb : ∀ b, A.bnot b = !b := by subst hA; intro b; rfl
  obtain ⟨E1, hE1⟩ : ∃ E, E = surE rs a b c l := ⟨_, rfl⟩
  obtain ⟨E2, hE2⟩ : ∃ E, E = marksE (sumLg rs) m := ⟨_, rfl⟩
  have hK : askE rs a b c l m need h0 = orElse E1 (orElse E2 (if ¬(0 ≤ need ∧ need ≤ 3000) ∨ ¬(0 ≤ h0 ∧ h0 ≤ 10000) then 2 else 0)) := by rw [hE1, hE2]; rfl
  obtain ⟨hw, hg⟩ := h
  have hw : ∀ a1 a2 a3 a4 a5 a6 e H1, AV.nid (.agg [a1, a2, a3, a4, a5, a6]) = true → askE rs a b c l m need h0 = e → e ≠ 0 → F (.tup [.agg [a1, a2, a3, a4, a5, a6], NS, NS, I e]) H1 := fun a1 a2 a3 a4 a5 a6 e H1 hn h1 h2 => by
    rw [hF]; exact Frees.drop0 (hw e _ _ _ h1.symm h2 hn ⟨_, _, _, _, _, _, rfl⟩ rfl rfl) (by simp only [AV.nid, AV.nidL] at hn ⊢; rw [hn]; rfl)
  refine go43 rfl (SGo_run hA ⟨[], [], (15, eLooked) :: (16, eIn) :: (58, eMarksN) :: [], []⟩ (.cons eLooked_ok (.cons (eIn_ok p16) (.cons eMarksN_ok .nil))) .nil 200 fun T TD hT hTD => ?_)
  cbv
  refine Exists.intro rs (Exists.intro l (And.intro hxs (And.intro hls (And.intro h1 (And.intro h2 (And.intro ?_ ?_))))))
  · intro e w a' b' c' y z he h5 hn1 hn2 hn3; cbv
    split <;> cbv
    · have hee : askE rs a b c l m need h0 = e := by rw [hK, hE1, ← he]; unfold orElse; rw [if_neg h5]
      have hw2 := fun H1 => hw w (I a') (I b') (I c') y z e H1 (by simp [AV.nid, AV.nidL, hn1, hn2, hn3]) hee h5
      exact @ite_both _ _ _ _ (hw2 _) (hw2 _)
    · rename_i hz; exact absurd (of_decide_eq_false ((hne e).symm.trans hz)) (fun h => h h5)
  intro ho hs2 hlo sl zs hgr; cbv
  split <;> cbv
  · rename_i hz; exact absurd rfl (of_decide_eq_true ((hne 0).symm.trans hz))
  have hE10 : E1 = 0 := by rw [hE1]; exact surE_ok.2 ⟨ho, hs2, hlo⟩
  have hsb := sumLg_bnd' ho
  have hvz : A.vlen zs = sumLg rs := by rw [← ho.ilen, hgr.2.2]; subst hA; simp [std]
  have hnx : AV.nidL xs = true := by rw [hxs]; exact hnr
  have hnsl : AV.nidL sl = true := by rw [hgr.2.1]; exact nidL_map (g := I) (fun _ => rfl) _
  have hnzs : AV.nidL zs = true := by rw [hgr.2.2]; exact nidL_rc _
  have hng : AV.nid (.agg [.vs 5 xs, I a, I b, I c, .vs 1 sl, .vs 5 zs]) = true := by simp [AV.nid, AV.nidL, hnx, hnsl, hnzs]
  refine Exists.intro m (And.intro hms (And.intro (by show 0 ≤ A.vlen zs ∧ A.vlen zs ≤ _; rw [hvz]; omega) (And.intro h3 ?_)))
  intro q1 hq1; cbv
  have hq1 : q1 = E2 := by rw [hE2, ← hvz]; exact hq1
  split <;> cbv
  · rename_i hz
    have hz := of_decide_eq_true ((hne q1).symm.trans hz)
    exact hw _ _ _ _ _ _ _ _ hng (by rw [hK, hE10, ← hq1]; unfold orElse; rw [if_pos rfl, if_neg hz]) hz
  rename_i hz
  have hz : q1 = 0 := by have := of_decide_eq_false ((hne q1).symm.trans hz); omega
  have hE20 : E2 = 0 := by rw [← hq1]; exact hz
  rw [hE20] at hE2
  have hE2 := hE2.symm
  clear hz hq1 hE1
  have hK : askE rs a b c l m need h0 = if ¬(0 ≤ need ∧ need ≤ 3000) ∨ ¬(0 ≤ h0 ∧ h0 ≤ 10000) then 2 else 0 := by rw [hK, hE10, hE20]; unfold orElse; rw [if_pos rfl, if_pos rfl]
  intro q2 hq2; cbv
  have hEr : ¬(0 ≤ need ∧ need ≤ 3000) ∨ ¬(0 ≤ h0 ∧ h0 ≤ 10000) → askE rs a b c l m need h0 = 2 := fun h => by rw [hK, if_pos h]
  split <;> cbv
  · rename_i hz
    have hz : q2 = false := by have hz := (hnb q2).symm.trans hz; simpa using hz
    rw [hq2, decide_eq_false_iff_not] at hz
    exact hw _ _ _ _ _ _ _ _ hng (hEr (.inl hz)) (by decide)
  rename_i hz
  have hz : q2 = true := by have hz := (hnb q2).symm.trans hz; simpa using hz
  rw [hq2, decide_eq_true_eq] at hz
  intro q3 hq3; cbv
  split <;> cbv
  · rename_i hz3
    have hz3 : q3 = false := by have hz := (hnb q3).symm.trans hz3; simpa using hz
    rw [hq3, decide_eq_false_iff_not] at hz3
    exact hw _ _ _ _ _ _ _ _ hng (hEr (.inr hz3)) (by decide)
  rename_i hz3
  have hz3 : q3 = true := by have hz := (hnb q3).symm.trans hz3; simpa using hz
  rw [hq3, decide_eq_true_eq] at hz3
  have hg := hg (by rw [hK, if_neg (by rintro (h | h) <;> exact h (by assumption))])
  clear hK hEr hw
  have hl1 : l.length ≤ 200 := hlo.le
  have hm1 : m.length ≤ 100 := (marksE_ok.1 hE2).1
  rw [hT]
  refine AGo_nilms 11 5 rfl ?_
  refine AGo_nilms 12 5 rfl ?_
  obtain ⟨G, hG⟩ : ∃ G : List Lk → List Mrk → AHeap, G = fun la ma => [.own 0 [.vs 5 xs, I a, I b, I c], .own 0 [.vs 5 xs, I a, I b, I c, .vs 1 sl, .vs 5 zs], .own la.length (la.flatMap lkC), .own ma.length (ma.flatMap mkC)] := ⟨_, rfl⟩
  have hxl : ∀ n, AV.ltL n xs := fun n => AV.ltL_nid hnx
  have hsl : ∀ n, AV.ltL n sl := fun n => AV.ltL_nid hnsl
  have hzl : ∀ n, AV.ltL n zs := fun n => AV.ltL_nid hnzs
  have hcl2 : ∀ n (l : List Lk), AV.ltL n (l.flatMap lkC) := fun n l => AV.ltL_nid (nidL_flat (fun _ => rfl) l)
  have hml2 : ∀ n (l : List Mrk), AV.ltL n (l.flatMap mkC) := fun n l => AV.ltL_nid (nidL_flat (fun _ => rfl) l)
  refine AGo_upE [2, 4, 10, 12, 47, 48] l.length (fun j (_ : Unit) => True) (fun j _ i => [(11, .ms 5 2 (pastL (l.take j) h0).length 0 (pastL (l.take j) h0).length), (49, I i)]) (fun j _ => G (pastL (l.take j) h0) []) () trivial ⟨rfl, rfl, trivial⟩ (.inl (by rw [hG]; rfl)) fun j _ i hi hj hP Bk hB => ?_
  have hlt : A.lt i (A.vlen ls) = decide (j < l.length) := by subst hA; exact lt_len (by simp [hls]) hi
  have hadd : ∀ N, j < N → N ≤ 9223372036854775807 → A.add .i64 i 1 = iLen (j + 1) := fun N hj hN => by subst hA; exact add_one hi hj hN
  obtain ⟨L, hL⟩ : ∃ L, L = pastL (l.take j) h0 := ⟨_, rfl⟩
  have hLl : L.length ≤ 1000000 := by rw [hL]; have := List.length_filter_le (fun x : Lk => decide (x.h ≤ h0)) (l.take j); rw [List.length_take] at this; unfold pastL; omega
  rw [← hL]
  have hGL : G L [] = [.own 0 [.vs 5 xs, I a, I b, I c], .own 0 [.vs 5 xs, I a, I b, I c, .vs 1 sl, .vs 5 zs], .own L.length (L.flatMap lkC), .own 0 []] := by rw [hG]; rfl
  rw [hGL]
  obtain ⟨n, hn⟩ : ∃ n, n = L.length := ⟨_, rfl⟩
  obtain ⟨cs, hcs⟩ : ∃ x, x = L.flatMap lkC := ⟨_, rfl⟩
  have hcl : cs.length = n * 5 := by rw [hcs, hn, len_flat (k := 5) (fun _ => rfl)]
  rw [← hn, ← hcs]
  rw [← hn] at hLl
  refine SGo_run hA ⟨[2], [], [], []⟩ .nil .nil 200 fun T TD hT hTD => ?_
  cbv
  split <;> cbv
  · rename_i hk0
    have hk1 : j < l.length := by have hz := hlt.symm.trans hk0; simpa using hz
    clear hk0
    obtain ⟨⟨k', q', g', u', v'⟩, hx⟩ : ∃ x, l[j]? = some x := ⟨_, List.getElem?_eq_getElem hk1⟩
    have hix : A.ix 5 5 ls i (lkC ⟨k', q', g', u', v'⟩) := by subst hA; exact ix_map hls hi hx rfl
    have hle : A.le g' h0 = decide (g' ≤ h0) := by subst hA; rfl
    have htk : pastL (l.take (j + 1)) h0 = if g' ≤ h0 then L ++ [⟨k', q', g', u', v'⟩] else L := by
      obtain ⟨h8, he⟩ := List.getElem?_eq_some_iff.1 hx
      rw [hL, List.take_succ_eq_append_getElem h8, he]
      unfold pastL
      rw [List.filter_append]
      split
      · rename_i h9; congr 1; simp only [List.filter_cons, List.filter_nil]; rw [if_pos (by simpa using h9)]
      · rename_i h9; simp only [List.filter_cons, List.filter_nil]; rw [if_neg (by simpa using h9), List.append_nil]
    refine Exists.intro _ (And.intro hix ?_); cbv
    split <;> cbv
    · rename_i hz
      have hz := of_decide_eq_true (hle.symm.trans hz)
      rw [if_pos hz] at htk
      obtain ⟨cs2, hcs2⟩ : ∃ x, x = cs ++ lkC ⟨k', q', g', u', v'⟩ := ⟨_, rfl⟩
      have happ : A.app 5 5 40 cs 0 n [.agg (lkC ⟨k', q', g', u', v'⟩)] cs2 (n + 1) := by subst hA; rw [hcs2]; exact app_one hcl rfl (by omega)
      refine And.intro (hsg _) (Exists.intro cs2 (Exists.intro (n + 1) (And.intro happ (And.intro rfl ?_))))
      cbv
      have hLn : ∀ x, (L ++ [x]).length = n + 1 := fun x => by rw [List.length_append, ← hn]; rfl
      refine hB () _ _ hk1 trivial ?_ ⟨rfl, rfl, rfl, rfl, rfl, rfl, trivial⟩ (.inr ⟨⟨[.own 0 (lkC ⟨k', q', g', u', v'⟩)], ?_⟩, by rw [hG]; simp, by simp [ltG, AV.lt, AV.ltL, keepS, look, gset, hG], ?_⟩)
      · rw [htk, hLn]; exact And.intro rfl (And.intro (congrArg I (hadd _ hk1 (by omega))) trivial)
      · rw [htk, hG]; dsimp only; rw [hLn, List.flatMap_append, ← hcs, hcs2]; rfl
      · rw [hG]; simp [ltH, AObj.lt, AV.lt, AV.ltL, hxl, hsl, hzl, hcl2]
    · rename_i hz
      have hz := of_decide_eq_false (hle.symm.trans hz)
      rw [if_neg hz] at htk
      refine hB () _ _ hk1 trivial ?_ ⟨rfl, rfl, rfl, rfl, rfl, rfl, trivial⟩ (.inr ⟨⟨[.own 0 (lkC ⟨k', q', g', u', v'⟩)], ?_⟩, by rw [hG]; simp, by simp [ltG, AV.lt, AV.ltL, keepS, look, gset, hG], ?_⟩)
      · rw [htk, ← hn]; exact ⟨rfl, congrArg I (hadd _ hk1 (by omega)), trivial⟩
      · rw [htk, hG]; dsimp only; rw [← hn, ← hcs]; rfl
      · rw [hG]; simp [ltH, AObj.lt, AV.lt, AV.ltL, hxl, hsl, hzl, hcl2]
  · rename_i hk0
    have hk1 : ¬ j < l.length := by have hz := hlt.symm.trans hk0; simpa using hz
    clear hk0
    have hLL : L = pastL l h0 := by rw [hL, List.take_of_length_le (by omega)]
    clear hL hGL
    obtain ⟨n2, hn2⟩ : ∃ n2, n2 = n := ⟨_, rfl⟩
    obtain ⟨cs0, hcs0⟩ : ∃ x, x = cs := ⟨_, rfl⟩
    rw [← hn2, ← hcs0]
    clear hG
    obtain ⟨G, hG⟩ : ∃ G : List Mrk → AHeap, G = fun ma => [.own 0 [.vs 5 xs, I a, I b, I c], .own 0 [.vs 5 xs, I a, I b, I c, .vs 1 sl, .vs 5 zs], .own n2 cs0, .own ma.length (ma.flatMap mkC)] := ⟨_, rfl⟩
    have hcl0 : ∀ n, AV.ltL n cs0 := fun n => by rw [hcs0, hcs]; exact hcl2 _ _
    rw [hcs] at hcs0
    rw [hn] at hn2
    rw [hLL] at hn2 hcs0
    clear hcs hn hcl hLl hlt hadd hB hj hi hk1 hP
    rw [hT]
    refine AGo_upE [4, 10, 11, 62, 63] m.length (fun j (_ : Unit) => True) (fun j _ i => [(12, .ms 5 3 (pastM (m.take j) h0).length 0 (pastM (m.take j) h0).length), (64, I i)]) (fun j _ => G (pastM (m.take j) h0)) () trivial ⟨rfl, rfl, trivial⟩ (.inl (by rw [hG]; rfl)) fun j _ i hi hj hP Bk hB => ?_
    have hlt : A.lt i (A.vlen ms) = decide (j < m.length) := by subst hA; exact lt_len (by simp [hms]) hi
    have hadd : ∀ N, j < N → N ≤ 9223372036854775807 → A.add .i64 i 1 = iLen (j + 1) := fun N hj hN => by subst hA; exact add_one hi hj hN
    obtain ⟨L, hL⟩ : ∃ L, L = pastM (m.take j) h0 := ⟨_, rfl⟩
    have hLl : L.length ≤ 1000000 := by rw [hL]; have := List.length_filter_le (fun x : Mrk => decide (x.h ≤ h0)) (m.take j); rw [List.length_take] at this; unfold pastM; omega
    rw [← hL]
    have hGL : G L = [.own 0 [.vs 5 xs, I a, I b, I c], .own 0 [.vs 5 xs, I a, I b, I c, .vs 1 sl, .vs 5 zs], .own n2 cs0, .own L.length (L.flatMap mkC)] := by rw [hG]
    rw [hGL]
    obtain ⟨n, hn⟩ : ∃ n, n = L.length := ⟨_, rfl⟩
    obtain ⟨cs, hcs⟩ : ∃ x, x = L.flatMap mkC := ⟨_, rfl⟩
    have hcl : cs.length = n * 5 := by rw [hcs, hn, len_flat (k := 5) (fun _ => rfl)]
    rw [← hn, ← hcs]
    rw [← hn] at hLl
    refine SGo_run hA ⟨[3], [], [], []⟩ .nil .nil 200 fun T TD hT hTD => ?_
    cbv
    split <;> cbv
    · rename_i hk0
      have hk1 : j < m.length := by have hz := hlt.symm.trans hk0; simpa using hz
      clear hk0
      obtain ⟨⟨k', q', g', u', v'⟩, hx⟩ : ∃ x, m[j]? = some x := ⟨_, List.getElem?_eq_getElem hk1⟩
      have hix : A.ix 5 5 ms i (mkC ⟨k', q', g', u', v'⟩) := by subst hA; exact ix_map hms hi hx rfl
      have hle : A.le u' h0 = decide (u' ≤ h0) := by subst hA; rfl
      have htk : pastM (m.take (j + 1)) h0 = if u' ≤ h0 then L ++ [⟨k', q', g', u', v'⟩] else L := by
        obtain ⟨h8, he⟩ := List.getElem?_eq_some_iff.1 hx
        rw [hL, List.take_succ_eq_append_getElem h8, he]
        unfold pastM
        rw [List.filter_append]
        split
        · rename_i h9; congr 1; simp only [List.filter_cons, List.filter_nil]; rw [if_pos (by simpa using h9)]
        · rename_i h9; simp only [List.filter_cons, List.filter_nil]; rw [if_neg (by simpa using h9), List.append_nil]
      refine Exists.intro _ (And.intro hix ?_); cbv
      split <;> cbv
      · rename_i hz
        have hz := of_decide_eq_true (hle.symm.trans hz)
        rw [if_pos hz] at htk
        obtain ⟨cs2, hcs2⟩ : ∃ x, x = cs ++ mkC ⟨k', q', g', u', v'⟩ := ⟨_, rfl⟩
        have happ : A.app 5 5 40 cs 0 n [.agg (mkC ⟨k', q', g', u', v'⟩)] cs2 (n + 1) := by subst hA; rw [hcs2]; exact app_one hcl rfl (by omega)
        refine And.intro (hsg _) (Exists.intro cs2 (Exists.intro (n + 1) (And.intro happ (And.intro rfl ?_))))
        cbv
        have hLn : ∀ x, (L ++ [x]).length = n + 1 := fun x => by rw [List.length_append, ← hn]; rfl
        refine hB () _ _ hk1 trivial ?_ ⟨rfl, rfl, rfl, rfl, rfl, trivial⟩ (.inr ⟨⟨[.own 0 (mkC ⟨k', q', g', u', v'⟩)], ?_⟩, by rw [hG]; simp, by simp [ltG, AV.lt, AV.ltL, keepS, look, gset, hG], ?_⟩)
        · rw [htk, hLn]; exact And.intro rfl (And.intro (congrArg I (hadd _ hk1 (by omega))) trivial)
        · rw [htk, hG]; dsimp only; rw [hLn, List.flatMap_append, ← hcs, hcs2]; rfl
        · rw [hG]; simp [ltH, AObj.lt, AV.lt, AV.ltL, hxl, hsl, hzl, hml2, hcl0]
      · rename_i hz
        have hz := of_decide_eq_false (hle.symm.trans hz)
        rw [if_neg hz] at htk
        refine hB () _ _ hk1 trivial ?_ ⟨rfl, rfl, rfl, rfl, rfl, trivial⟩ (.inr ⟨⟨[.own 0 (mkC ⟨k', q', g', u', v'⟩)], ?_⟩, by rw [hG]; simp, by simp [ltG, AV.lt, AV.ltL, keepS, look, gset, hG], ?_⟩)
        · rw [htk, ← hn]; exact ⟨rfl, congrArg I (hadd _ hk1 (by omega)), trivial⟩
        · rw [htk, hG]; dsimp only; rw [← hn, ← hcs]; rfl
        · rw [hG]; simp [ltH, AObj.lt, AV.lt, AV.ltL, hxl, hsl, hzl, hml2, hcl0]
    · rename_i hk0
      have hk1 : ¬ j < m.length := by have hz := hlt.symm.trans hk0; simpa using hz
      clear hk0
      have hLM : L = pastM m h0 := by rw [hL, List.take_of_length_le (by omega)]
      rw [hF]
      rw [hLM] at hn hcs
      have hE1 : Elems 5 ((pastL l h0).map lkV) cs0 := by rw [hcs0]; exact Elems_map (f := lkV) (g := lkC) (sz := 5) (fun _ => rfl) (fun _ => rfl) (fun _ => rfl) _
      have hE2 : Elems 5 ((pastM m h0).map mkV) cs := by rw [hcs]; exact Elems_map (f := mkV) (g := mkC) (sz := 5) (fun _ => rfl) (fun _ => rfl) (fun _ => rfl) _
      refine Frees.frz 2 n2 5 ((pastL l h0).map lkV) rfl hE1 ?_
      refine Frees.frz 3 n 5 ((pastM m h0).map mkV) (cs := cs) ?_ hE2 ?_
      · have : AV.frzL 2 n2 5 ((pastL l h0).map lkV) cs = cs := AV.frzL_nid (by rw [hcs]; exact nidL_flat (fun _ => rfl) _)
        simp [frzH, AObj.frz, this]
      have e1 : AV.frz 2 n2 5 ((pastL l h0).map lkV) (.ms 5 2 n2 0 n2) = .vs 5 ((pastL l h0).map lkV) := frz_self (by simp [hn2])
      have e2 : AV.frz 3 n 5 ((pastM m h0).map mkV) (.ms 5 3 n 0 n) = .vs 5 ((pastM m h0).map mkV) := frz_self (by simp [hn])
      have e3 : AV.frz 2 n2 5 ((pastL l h0).map lkV) (.ms 5 3 n 0 n) = .ms 5 3 n 0 n := by simp [AV.frz]
      have e6 : ∀ i g s l x, AV.nidL x = true → AV.frz i g s l (.vs 5 x) = .vs 5 x := fun i g s l x h => AV.frz_nid (by simp only [AV.nid])
      have e5 : ∀ i g s l, AV.frz i g s l (.agg [.vs 5 xs, I a, I b, I c, .vs 1 sl, .vs 5 zs]) = .agg [.vs 5 xs, I a, I b, I c, .vs 1 sl, .vs 5 zs] := fun i g s l => AV.frz_nid hng
      have e4 : AV.frz 3 n 5 ((pastM m h0).map mkV) (AV.frz 2 n2 5 ((pastL l h0).map lkV) (aTup [.agg [.vs 5 xs, I a, I b, I c, .vs 1 sl, .vs 5 zs], .ms 5 2 n2 0 n2, .ms 5 3 n 0 n, I 0])) = .tup [.agg [.vs 5 xs, I a, I b, I c, .vs 1 sl, .vs 5 zs], .vs 5 ((pastL l h0).map lkV), .vs 5 ((pastM m h0).map mkV), I 0] := by
        show AV.tup [AV.frz 3 n 5 ((pastM m h0).map mkV) (AV.frz 2 n2 5 ((pastL l h0).map lkV) (.agg [.vs 5 xs, I a, I b, I c, .vs 1 sl, .vs 5 zs])), AV.frz 3 n 5 ((pastM m h0).map mkV) (AV.frz 2 n2 5 ((pastL l h0).map lkV) (.ms 5 2 n2 0 n2)), AV.frz 3 n 5 ((pastM m h0).map mkV) (AV.frz 2 n2 5 ((pastL l h0).map lkV) (.ms 5 3 n 0 n)), I 0] = _
        rw [e5, e5, e1, e3, e2, e6 _ _ _ _ _ (nidL_map (g := lkV) (fun _ => rfl) _)]
      rw [e4]
      exact Frees.drop0 (hg _ _ _ _ hgr rfl rfl) (by
        have h7 := nidL_map (g := lkV) (fun _ => rfl) (pastL l h0)
        have h8 := nidL_map (g := mkV) (fun _ => rfl) (pastM m h0)
        simp [AV.nid, AV.nidL, hnx, hnsl, hnzs, h7, h8])
def eAsked : List AV → Option ((AV → Prop) → Prop)
  | [.agg [.vs 5 xs, .lit (.int .i64 a), .lit (.int .i64 b), .lit (.int .i64 c)], .vs 5 ls, .vs 5 ms, .lit (.int .i64 need), .lit (.int .i64 h)] =>
    some fun K => ∃ (rs : List Rch) (l : List Lk) (m : List Mrk), xs = rs.map rcV ∧ ls = l.map lkV ∧ ms = m.map mkV ∧ rs.length ≤ 9223372036854775807 ∧ l.length ≤ 9223372036854775807 ∧ m.length ≤ 9223372036854775807 ∧
      (∀ e a1 a2 a3 a4 a5 a6 x y, e = askE rs a b c l m need h → e ≠ 0 → AV.nid (.agg [a1, a2, a3, a4, a5, a6]) = true → x = NS → y = NS → K (.tup [.agg [a1, a2, a3, a4, a5, a6], x, y, I e])) ∧
      (askE rs a b c l m need h = 0 → ∀ ys zs ls ms, GrIs rs xs ys zs → ls = (pastL l h).map lkV → ms = (pastM m h).map mkV → K (.tup [.agg [.vs 5 xs, I a, I b, I c, .vs 1 ys, .vs 5 zs], .vs 5 ls, .vs 5 ms, I 0]))
  | _ => none
theorem eAsked_ok : ∀ args pt, eAsked args = some pt → ∀ (H : AHeap) (Kk : AV → AHeap → Prop), pt (fun r => Kk r H) → ACalls Tryd.prog 43 args H Kk := by
  intro args pt h H Kk hk
  unfold eAsked at h
  split at h
  · cases h
    obtain ⟨rs, l, m, rfl, rfl, rfl, h1, h2, h3, h4, h5⟩ := hk
    refine p43 _ _ _ _ _ _ _ _ h1 h2 h3 H ⟨?_, h5⟩
    rintro e g x y h6 h7 h8 ⟨a1, a2, a3, a4, a5, a6, rfl⟩ h9 h10
    exact h4 _ _ _ _ _ _ _ _ _ h6 h7 h8 h9 h10
  · cases h
theorem askE_ok {rs : List Rch} {a b c : Int} {l : List Lk} {m : List Mrk} {need h : Int} : askE rs a b c l m need h = 0 ↔ RoadOk rs ∧ SgtOk a b c ∧ LksOk (plc rs) l ∧ m.length ≤ 100 ∧ (∀ x ∈ m, MkOk (sumLg rs) x) ∧ (0 ≤ need ∧ need ≤ 3000) ∧ 0 ≤ h ∧ h ≤ 10000 := by
  unfold askE
  constructor
  · intro h1
    unfold orElse at h1
    by_cases h2 : surE rs a b c l = 0
    · rw [if_pos h2] at h1
      by_cases h3 : marksE (sumLg rs) m = 0
      · rw [if_pos h3] at h1
        obtain ⟨q1, q2, q3⟩ := surE_ok.1 h2
        obtain ⟨q4, q5⟩ := marksE_ok.1 h3
        by_cases h4 : ¬(0 ≤ need ∧ need ≤ 3000) ∨ ¬(0 ≤ h ∧ h ≤ 10000)
        · rw [if_pos h4] at h1; omega
        · exact ⟨q1, q2, q3, q4, q5, by omega, by omega⟩
      · rw [if_neg h3] at h1; exact absurd h1 h3
    · rw [if_neg h2] at h1; exact absurd h1 h2
  · rintro ⟨q1, q2, q3, q4, q5, q6, q7⟩
    rw [surE_ok.2 ⟨q1, q2, q3⟩, marksE_ok.2 ⟨q4, q5⟩]
    unfold orElse; rw [if_pos rfl, if_pos rfl, if_neg (by omega)]
theorem pastL_mem {l : List Lk} {h : Int} {x : Lk} (hx : x ∈ pastL l h) : x ∈ l := (List.mem_filter.1 hx).1
theorem pastL_len {l : List Lk} {h : Int} : (pastL l h).length ≤ l.length := List.length_filter_le _ _
theorem pastM_mem {l : List Mrk} {h : Int} {x : Mrk} (hx : x ∈ pastM l h) : x ∈ l := (List.mem_filter.1 hx).1
theorem pastM_len {l : List Mrk} {h : Int} : (pastM l h).length ≤ l.length := List.length_filter_le _ _
end Go.Sas
