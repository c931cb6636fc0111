/-
Frost: checks as a whole; bearing thickness: contracts.
Frost: ice after each of some days: contract.
Frost: ice after each of some days, as a list: contract.
Conditions: none.
-/
import Derived.Test.YtelmlpjkpebcgaaVF
import Derived.Test.YtelmlpjkpebcgaaH6
set_option linter.unusedVariables false
set_option linter.unusedSimpArgs false
namespace Go.Sas
open Go.Proofs
set_option maxRecDepth 100000
theorem nid_dyA : ∀ l : List DayK, AV.nidL (l.map dyA) = true
  | [] => rfl
  | x :: l => by simp only [List.map_cons, AV.nidL, nid_dyA l, dyA]; rfl
set_option maxHeartbeats 4000000 in
theorem p145 (ds : List DayK) (hd : ∀ d ∈ ds, DayV d) (hlen : ds.length ≤ 400) (H : AHeap) {Kk : AV → AHeap → Prop} (h : Kk (I 0) H) : ACalls Try.prog 145 [.vs 6 (ds.map dyA)] H Kk := by
  obtain ⟨xs, hxs⟩ : ∃ xs, xs = ds.map dyA := ⟨_, rfl⟩
  have hxn : AV.nidL xs = true := by rw [hxs]; exact nid_dyA ds
  have hxl : ∀ n, AV.ltL n xs := fun n => AV.ltL_nid hxn
  rw [← hxs]
  refine (fun q => pureC (by simp [AV.nidL, AV.nid, hxn]) (by rfl) q H h) ?_
  clear h
  intro Kk h
  obtain ⟨A, hA⟩ : ∃ A, A = std := ⟨_, rfl⟩
  have hll : ∀ x y, A.lt x y = decide (x < y) := by subst hA; intro x y; rfl
  have hv : A.vlen xs = iLen ds.length := by subst hA; simp [std, hxs]
  have k2 : A.lt 400 (A.vlen xs) = false := by rw [hv, hll, decide_eq_false_iff_not]; unfold iLen; omega
  have hN0 : A.ne 0 0 = false := by subst hA; rfl
  refine go145 rfl (SGo_run hA ⟨[], [], [(159, eFlt)], []⟩ (.cons (eFlt_ok p159) .nil) .nil 200 fun T TD hT hTD => ?_)
  cbv
  split <;> first | (rename_i hz; exact Bool.noConfusion (hz.symm.trans k2)) | cbv
  rw [hT]
  refine AGo_up ds.length (fun _ => True) (fun _ i => [(0, .vs 6 xs), (2, I 0), (10, .vs 6 xs), (11, I (A.vlen xs)), (12, I i)]) (fun _ => []) trivial ⟨rfl, rfl, rfl, rfl, rfl, trivial⟩ (.inl rfl) fun j i hi hj _ Bk hB => ?_
  have hlt : A.lt i (A.vlen xs) = decide (j < ds.length) := by subst hA; exact lt_len (by simp [hxs]) hi
  have hadd : ∀ N, j < N → N ≤ 9223372036854775807 → A.add .i64 i 1 = iLen (j + 1) := fun N hj hN => by subst hA; exact add_one hi hj hN
  refine SGo_run hA ⟨[], [], [(159, eFlt)], []⟩ (.cons (eFlt_ok p159) .nil) .nil 200 fun T TD hT hTD => ?_
  cbv
  split <;> cbv
  · rename_i hk1
    have hk1 : j < ds.length := by have := hlt.symm.trans hk1; simpa using this
    obtain ⟨d, hx⟩ : ∃ x, ds[j]? = some x := ⟨_, List.getElem?_eq_getElem hk1⟩
    have hdv := hd _ (List.mem_of_getElem? hx)
    obtain ⟨⟨c1, c2⟩, ⟨f1, f2⟩, wa, cl⟩ := d
    have hix : A.ix 6 6 xs i [I c1, I c2, I f1, I f2, I wa, B cl] := by subst hA; exact ix_map hxs hi hx rfl
    have a1 := hdv.c0
    have a2 := hdv.c1
    have a3 := hdv.c2
    have a4 := hdv.f0
    have a5 := hdv.f1
    have a6 := hdv.f2
    have a7 := hdv.w0
    have a8 := hdv.w1
    dsimp only at a1 a2 a3 a4 a5 a6 a7 a8
    have q1 : A.lt wa 0 = false := by rw [hll]; exact decide_eq_false (by omega)
    have q2 : A.lt 200 wa = false := by rw [hll]; exact decide_eq_false (by omega)
    have q3 : faultS c1 c2 (-1000) 1000 = 0 := by unfold faultS; rw [if_neg (by omega), if_neg (by omega)]
    have q4 : faultS f1 f2 0 1000 = 0 := by unfold faultS; rw [if_neg (by omega), if_neg (by omega)]
    refine Exists.intro _ (And.intro hix ?_); cbv
    intro r hr
    have hr : r = 0 := hr.trans q3
    subst hr
    cbv
    split <;> first | (rename_i hz; exact Bool.noConfusion (hz.symm.trans hN0)) | cbv
    intro r2 hr2
    have hr2 : r2 = 0 := hr2.trans q4
    subst hr2
    cbv
    split <;> first | (rename_i hz; exact Bool.noConfusion (hz.symm.trans hN0)) | cbv
    split <;> first | (rename_i hz; exact Bool.noConfusion (hz.symm.trans q1)) | cbv
    split <;> first | (rename_i hz; exact Bool.noConfusion (hz.symm.trans q2)) | cbv
    exact hB _ _ hk1 trivial ⟨rfl, rfl, rfl, rfl, congrArg I (hadd _ hk1 (by omega)), trivial⟩ (.inr ⟨⟨_, rfl⟩, by simp, by simp [ltG, AV.lt, AV.ltL, hxl], by simp [ltH]⟩)
  · exact leaf h rfl rfl
theorem p72 (x : IceK) (H : AHeap) {Kk : AV → AHeap → Prop} (h : Kk (I (iceE x)) H) : ACalls Try.prog 72 [icA x] H Kk := by
  obtain ⟨⟨a, b⟩, ⟨c, d⟩, ⟨e, f⟩, ⟨g, i⟩⟩ := x
  obtain ⟨W, hW⟩ : ∃ W, W = iceE ⟨(a, b), (c, d), (e, f), (g, i)⟩ := ⟨_, rfl⟩
  rw [← hW] at h
  rw [iceE_first] at hW
  unfold icA
  refine (fun q => pureC (by rfl) (by rfl) q H h) ?_
  clear h
  intro Kk h
  obtain ⟨A, hA⟩ : ∃ A, A = std := ⟨_, rfl⟩
  obtain ⟨l, hl⟩ : ∃ l, l = [(a, b), (c, d), (e, f), (g, i)] := ⟨_, rfl⟩
  rw [← hl] at hW
  have hll : l.length = 4 := by rw [hl]; rfl
  have hxs : [sp (a, b), sp (c, d), sp (e, f), sp (g, i)] = l.map sp := by rw [hl]; rfl
  refine go72 rfl (SGo_run hA ⟨[], [], [(123, eFlt)], []⟩ (.cons (eFlt_ok p123) .nil) .nil 200 fun T TD hT hTD => ?_)
  cbv
  rw [hT]
  refine AGo_up 4 (fun j => W = firstE spE (l.drop j)) (fun _ i' => [(1, .mp 0 0 0), (2, I 0), (3, .vs 2 [sp (a, b), sp (c, d), sp (e, f), sp (g, i)]), (4, I i')]) (fun _ => [.own 0 [I a, I b, I c, I d, I e, I f, I g, I i]]) hW ⟨rfl, rfl, rfl, rfl, trivial⟩ (.inl rfl) fun j q hi hj hP Bk hB => ?_
  rw [hxs]
  obtain ⟨xs, hxs2⟩ : ∃ xs, xs = l.map sp := ⟨_, rfl⟩
  rw [← hxs2]
  have hlt : A.lt q (A.vlen xs) = decide (j < 4) := by subst hA; exact lt_len (by simp [hxs2, hll]) hi
  have hadd : j < 4 → A.add .i64 q 1 = iLen (j + 1) := fun hj => by subst hA; exact add_one hi hj (by omega)
  refine SGo_run hA ⟨[], [], [(123, eFlt)], []⟩ (.cons (eFlt_ok p123) .nil) .nil 200 fun T TD hT hTD => ?_
  cbv
  split <;> cbv
  · rename_i hk1
    have hk1 : j < 4 := by have := hlt.symm.trans hk1; simpa using this
    obtain ⟨⟨u, v⟩, hx⟩ : ∃ x, l[j]? = some x := ⟨_, List.getElem?_eq_getElem (by omega)⟩
    have hix : A.ix 2 2 xs q [I u, I v] := by subst hA; exact ix_map hxs2 hi hx rfl
    rw [drop_cons hx] at hP
    have hR : ∀ z, z ≠ 0 → spE (u, v) = z → W = z := fun z hz h => hP.trans (firstE_err h hz)
    have hN : spE (u, v) = 0 → W = firstE spE (l.drop (j + 1)) := fun h => hP.trans (firstE_ok h)
    refine Exists.intro _ (And.intro hix ?_); cbv
    rintro r hr; cbv
    have hr : spE (u, v) = r := hr.symm
    split <;> cbv
    · rename_i hq
      have hq : r ≠ 0 := by have hq : A.ne r 0 = true := hq; subst hA; simpa [std, iNe] using hq
      exact leaf h (congrArg I (hR _ hq hr)) rfl
    · rename_i hq
      have hq : r = 0 := by have hq : A.ne r 0 = false := hq; subst hA; simpa [std, iNe] using hq
      exact hB _ _ hk1 (hN (hr.trans hq)) ⟨rfl, rfl, by rw [hxs, hxs2]; rfl, congrArg I (hadd hk1), trivial⟩ (.inl rfl)
  · rename_i hk1
    have hk1 : ¬ j < 4 := by have := hlt.symm.trans hk1; simpa using this
    refine leaf h (congrArg I ?_) rfl
    rw [hP, List.drop_eq_nil_of_le (by omega)]; rfl
def eIceE : List AV → Option ((AV → Prop) → Prop)
  | [x] => match asIc x with
    | some y => some fun K => ∀ r, r = iceE (icK y) → K (I r)
    | none => none
  | _ => none
theorem eIceE_ok {f : Nat} (hf : ∀ (x : IceK) (H : AHeap) {Kk : AV → AHeap → Prop}, Kk (I (iceE x)) H → ACalls Try.prog f [icA x] H Kk) : ∀ args pt, eIceE args = some pt → ∀ (H : AHeap) (Kk : AV → AHeap → Prop), pt (fun r => Kk r H) → ACalls Try.prog f args H Kk := by
  intro args pt h H Kk hk
  unfold eIceE at h
  split at h
  · split at h
    · rename_i y hy
      cases h
      exact (hf _ H (hk _ rfl)).wk ⟨asIc_wk hy, trivial⟩
    · cases h
  · cases h
def eChkL : List AV → Option ((AV → Prop) → Prop)
  | [x] => match asLw x with
    | some y => some fun K => ∃ cov, y.2.2.1 = cov.map cvV ∧ FrV (lwK y cov) ∧ K (I 0)
    | none => none
  | _ => none
theorem eChkL_ok : ∀ args pt, eChkL args = some pt → ∀ (H : AHeap) (Kk : AV → AHeap → Prop), pt (fun r => Kk r H) → ACalls Try.prog 143 args H Kk := by
  intro args pt h H Kk hk
  unfold eChkL at h
  split at h
  · split at h
    · rename_i y hy
      cases h
      obtain ⟨cov, h1, h2, h3⟩ := hk
      exact (p143 _ h2 H h3).wk ⟨asLw_wk hy h1, trivial⟩
    · cases h
  · cases h
structure DsOk (ds : List DayK) : Prop where
  v : ∀ d ∈ ds, DayV d
  n : ds.length ≤ 400
def eChkD : List AV → Option ((AV → Prop) → Prop)
  | [x] => match asVs 6 x with
    | some xs => some fun K => ∃ ds : List DayK, xs = ds.map dyA ∧ DsOk ds ∧ K (I 0)
    | none => none
  | _ => none
theorem eChkD_ok : ∀ args pt, eChkD args = some pt → ∀ (H : AHeap) (Kk : AV → AHeap → Prop), pt (fun r => Kk r H) → ACalls Try.prog 145 args H Kk := by
  intro args pt h H Kk hk
  unfold eChkD at h
  split at h
  · split at h
    · rename_i xs h1
      cases h
      obtain ⟨ds, h2, h3, h4⟩ := hk
      rw [h2] at h1
      exact (p145 _ h3.v h3.n H h4).wk ⟨asVs_wk h1, trivial⟩
    · cases h
  · cases h
theorem p114 (l : FrL) (hl : FrV l) (x : IceK) (ds : List DayK) (hd : DsOk ds) (H : AHeap) {Kk : AV → AHeap → Prop} (h : Kk (I (iceE x)) H) : ACalls Try.prog 114 [lwA l, icA x, .vs 6 (ds.map dyA)] H Kk := by
  obtain ⟨W, hW⟩ : ∃ W, W = iceE x := ⟨_, rfl⟩
  rw [← hW] at h
  obtain ⟨X, hX⟩ : ∃ X : IceK, X = x := ⟨_, rfl⟩
  rw [← hX] at hW
  obtain ⟨⟨xb1, xb2⟩, ⟨xw1, xw2⟩, ⟨xt1, xt2⟩, ⟨xs1, xs2⟩⟩ := x
  obtain ⟨g, la, cov, ⟨m1, m2⟩, so, ⟨v1, v2⟩⟩ := l
  unfold lwA icA at *
  dsimp only at *
  obtain ⟨xs, hxs⟩ : ∃ xs, xs = cov.map cvV := ⟨_, rfl⟩
  have hxn : AV.nidL xs = true := by rw [hxs]; exact nid_cv cov
  obtain ⟨xd, hxd⟩ : ∃ xs, xs = ds.map dyA := ⟨_, rfl⟩
  have hxn2 : AV.nidL xd = true := by rw [hxd]; exact nid_dyA ds
  rw [← hxs, ← hxd]
  refine (fun q => pureC (by simp [AV.nidL, AV.nid, hxn, hxn2]) (by rfl) q H h) ?_
  clear h
  intro Kk h
  obtain ⟨A, hA⟩ : ∃ A, A = std := ⟨_, rfl⟩
  have hN0 : A.ne 0 0 = false := by subst hA; rfl
  refine go114 rfl (SGo_run hA ⟨[], [], [(143, eChkL), (144, eIceE), (145, eChkD)], []⟩ (.cons eChkL_ok (.cons (eIceE_ok p144) (.cons eChkD_ok .nil))) .nil 200 fun T TD hT hTD => ?_)
  cbv
  refine Exists.intro cov (And.intro hxs (And.intro hl ?_))
  cbv
  split <;> first | (rename_i hz; exact Bool.noConfusion (hz.symm.trans hN0)) | cbv
  intro r hr
  have hr : r = W := by rw [hW, hX]; exact hr
  cbv
  split <;> cbv
  · exact leaf h (congrArg I hr.symm) rfl
  · rename_i hq
    have hq : r = 0 := by have hq : A.ne r 0 = false := hq; subst hA; simpa [std, iNe] using hq
    refine Exists.intro ds (And.intro hxd (And.intro hd ?_))
    cbv
    exact leaf h (congrArg I (hr.symm.trans hq)) rfl
def eChkA : List AV → Option ((AV → Prop) → Prop)
  | [x, y, z] => match asLw x, asIc y, asVs 6 z with
    | some u, some v, some xd => some fun K => ∃ cov ds, u.2.2.1 = cov.map cvV ∧ xd = ds.map dyA ∧ FrV (lwK u cov) ∧ DsOk ds ∧ ∀ r, r = iceE (icK v) → K (I r)
    | _, _, _ => none
  | _ => none
theorem eChkA_ok : ∀ args pt, eChkA args = some pt → ∀ (H : AHeap) (Kk : AV → AHeap → Prop), pt (fun r => Kk r H) → ACalls Try.prog 114 args H Kk := by
  intro args pt h H Kk hk
  unfold eChkA at h
  split at h
  · split at h
    · rename_i u v xd h1 h2 h3
      cases h
      obtain ⟨cov, ds, h4, h5, h6, h7, h8⟩ := hk
      rw [h5] at h3
      exact (p114 _ h6 _ _ h7 H (h8 _ rfl)).wk ⟨asLw_wk h1 h4, asIc_wk h2, asVs_wk h3, trivial⟩
    · cases h
  · cases h
end Go.Sas
namespace Go.Sas
open Go.Proofs
set_option maxRecDepth 100000
abbrev lwC (g la : Int) (xs : List AV) (m1 m2 so v1 v2 : Int) : List AV := [I g, I la, .vs 3 xs, I m1, I m2, I so, I v1, I v2]
abbrev icC (x : IceK) : List AV := [I x.b.1, I x.b.2, I x.w.1, I x.w.2, I x.t.1, I x.t.2, I x.s.1, I x.s.2]
theorem Elems_ic (l : List IceK) : Elems 8 (l.map icA) (l.flatMap icC) := Elems_map (f := icA) (g := icC) (sz := 8) (fun _ => rfl) (fun _ => rfl) (fun _ => rfl) l
theorem p115 (g la : Int) (xs : List AV) (hxn : AV.nidL xs = true) (m1 m2 so v1 v2 a b c d e f i j : Int) (xd : List AV) (hxd : AV.nidL xd = true) (H : AHeap) {Kk : AV → AHeap → Prop}
    (h : Kk (.fn 146 [.mp (H.length + 1) 0 0, .mp (H.length + 2) 0 0, .mp H.length 0 0]) (H ++ [.own 0 (lwC g la xs m1 m2 so v1 v2), .own 0 [I a, I b, I c, I d, I e, I f, I i, I j], .own 0 [.vs 6 xd]])) :
    ACalls Try.prog 115 [.agg (lwC g la xs m1 m2 so v1 v2), .agg [I a, I b, I c, I d, I e, I f, I i, I j], .vs 6 xd] H Kk := by
  have h1 : ACalls Try.prog 115 [.agg (lwC g la xs m1 m2 so v1 v2), .agg [I a, I b, I c, I d, I e, I f, I i, I j], .vs 6 xd] [] fun r H' => r = .fn 146 [.mp 1 0 0, .mp 2 0 0, .mp 0 0 0] ∧ H' = [.own 0 (lwC g la xs m1 m2 so v1 v2), .own 0 [I a, I b, I c, I d, I e, I f, I i, I j], .own 0 [.vs 6 xd]] := by
    clear h Kk
    obtain ⟨Kk, hKk⟩ : ∃ K : AV → AHeap → Prop, K = fun r H' => r = .fn 146 [.mp 1 0 0, .mp 2 0 0, .mp 0 0 0] ∧ H' = [.own 0 (lwC g la xs m1 m2 so v1 v2), .own 0 [I a, I b, I c, I d, I e, I f, I i, I j], .own 0 [.vs 6 xd]] := ⟨_, rfl⟩
    rw [← hKk]
    obtain ⟨A, hA⟩ : ∃ A, A = std := ⟨_, rfl⟩
    refine go115 rfl (SGo_run hA ⟨[], [], [], []⟩ .nil .nil 200 fun T TD hT hTD => ?_)
    cbv
    rw [hKk]; exact ⟨rfl, rfl⟩
  have hn : AV.nidL [.agg (lwC g la xs m1 m2 so v1 v2), .agg [I a, I b, I c, I d, I e, I f, I i, I j], .vs 6 xd] = true := by simp [AV.nidL, AV.nid, hxn, hxd]
  have h2 := ACalls.frame (H := H) [] h1 List.nodup_nil rfl (AV.ltL_nid hn) (by simp [ltH]) (fun k X hk => by simp at hk)
  rw [AV.renL_nid hn] at h2
  refine h2.mono fun r H' hx => ?_
  obtain ⟨r0, H1, ⟨rfl, rfl⟩, _, rfl, rfl⟩ := hx
  have e1 : ∀ ι, AV.renL ι xs = xs := fun ι => AV.renL_nid hxn
  have e2 : ∀ ι, AV.renL ι xd = xd := fun ι => AV.renL_nid hxd
  simpa [merge, updL, more, AV.ren, AV.renL, at_, AObj.ren, List.range', e1, e2] using h
theorem asLw_wk' {a : AV} {x : LwX} (h : asLw a = some x) : Wk a (.agg (lwC x.1 x.2.1 x.2.2.1 x.2.2.2.1 x.2.2.2.2.1 x.2.2.2.2.2.1 x.2.2.2.2.2.2.1 x.2.2.2.2.2.2.2)) := by
  unfold asLw at h
  split at h
  · split at h
    · rename_i xs h1
      cases h
      exact Wk.agg ⟨Wk.rfl, Wk.rfl, asVs_wk h1, Wk.rfl, Wk.rfl, Wk.rfl, Wk.rfl, Wk.rfl, trivial⟩
    · cases h
  · cases h
def eCourse : List AV → AHeap → Option PT
  | [x, y, z], H => match asLw x, asIc y, asVs 6 z with
    | some u, some v, some xd => some fun K => ∃ _u : Unit, (AV.nidL u.2.2.1 = true ∧ AV.nidL xd = true) ∧ K (.fn 146 [.mp (H.length + 1) 0 0, .mp (H.length + 2) 0 0, .mp H.length 0 0])
        (H ++ [.own 0 (lwC u.1 u.2.1 u.2.2.1 u.2.2.2.1 u.2.2.2.2.1 u.2.2.2.2.2.1 u.2.2.2.2.2.2.1 u.2.2.2.2.2.2.2), .own 0 [I v.1, I v.2.1, I v.2.2.1, I v.2.2.2.1, I v.2.2.2.2.1, I v.2.2.2.2.2.1, I v.2.2.2.2.2.2.1, I v.2.2.2.2.2.2.2], .own 0 [.vs 6 xd]])
    | _, _, _ => none
  | _, _ => none
theorem eCourse_ok : ∀ args H pt, eCourse args H = some pt → ∀ (Kk : AV → AHeap → Prop), pt Kk → ACalls Try.prog 115 args H Kk := by
  intro args H pt h Kk hk
  unfold eCourse at h
  split at h
  · split at h
    · rename_i u v xd h1 h2 h3
      cases h
      obtain ⟨_, ⟨h4, h5⟩, h6⟩ := hk
      exact (p115 _ _ _ h4 _ _ _ _ _ _ _ _ _ _ _ _ _ _ h5 H h6).wk ⟨asLw_wk' h1, asIc_wk h2, asVs_wk h3, trivial⟩
    · cases h
  · cases h
def eAft : List AV → Option ((AV → Prop) → Prop)
  | [x, y, z] => match asLw x, asIc y, asDy z with
    | some u, some v, some w => some fun K => ∃ cov, u.2.2.1 = cov.map cvV ∧ CvOk (lwK u cov) (icK v) (dyK w) ∧ ∀ a b c d e f g h, (⟨(a, b), (c, d), (e, f), (g, h)⟩ : IceK) = afterS (lwK u cov) (icK v) (dyK w) → K (.agg [I a, I b, I c, I d, I e, I f, I g, I h])
    | _, _, _ => none
  | _ => none
theorem eAft_ok : ∀ args pt, eAft args = some pt → ∀ (H : AHeap) (Kk : AV → AHeap → Prop), pt (fun r => Kk r H) → ACalls Try.prog 147 args H Kk := by
  intro args pt h H Kk hk
  unfold eAft at h
  split at h
  · split at h
    · rename_i u v w h1 h2 h3
      cases h
      obtain ⟨cov, h4, h5, h6⟩ := hk
      exact (p147 _ _ _ h5 H (h6 _ _ _ _ _ _ _ _ rfl)).wk ⟨asLw_wk h1 h4, asIc_wk h2, asDy_wk h3, trivial⟩
    · cases h
  · cases h
/-- ice after so many days -/
def iceAt (l : FrL) (x : IceK) (ds : List DayK) (j : Nat) : IceK := (ds.take j).foldl (afterS l) x
theorem iceAt_step {l : FrL} {x : IceK} {ds : List DayK} {j : Nat} {d : DayK} (h : ds[j]? = some d) : iceAt l x ds (j + 1) = afterS l (iceAt l x ds j) d := by
  unfold iceAt; rw [List.take_add_one, h]; simp
def runT (l : FrL) (x : IceK) (ds : List DayK) (j : Nat) : List IceK := (List.range j).map fun i => iceAt l x ds (i + 1)
theorem runT_step {l : FrL} {x : IceK} {ds : List DayK} {j : Nat} : runT l x ds (j + 1) = runT l x ds j ++ [iceAt l x ds (j + 1)] := by
  unfold runT; rw [List.range_succ, List.map_append]; rfl
theorem runT_len {l : FrL} {x : IceK} {ds : List DayK} {j : Nat} : (runT l x ds j).length = j := by simp [runT]
theorem iceAt_b {l : FrL} (hl : FrV l) {x : IceK} (hx : IceB 20000 x) {ds : List DayK} (hd : ∀ d ∈ ds, DayV d) : ∀ j, j ≤ ds.length → IceB (26000 * 2 ^ j - 6000) (iceAt l x ds j)
  | 0, _ => hx.le (by simp)
  | j + 1, hj => by
    obtain ⟨d, h⟩ : ∃ d, ds[j]? = some d := ⟨_, List.getElem?_eq_getElem (by omega)⟩
    rw [iceAt_step h]
    refine (after_b hl (iceAt_b hl hx hd j (by omega)) (hd _ (List.mem_of_getElem? h))).le ?_
    rw [Int.pow_succ]; omega
theorem pow8 : ∀ j, j ≤ 8 → (26000 * 2 ^ j - 6000 : Int) ≤ 10000000 := by decide
end Go.Sas
namespace Go.Sas
open Go.Proofs
set_option maxRecDepth 100000
theorem nid_ic : ∀ l : List IceK, AV.nidL (l.flatMap icC) = true
  | [] => rfl
  | d :: l => by simp only [List.flatMap_cons, List.cons_append, List.nil_append, AV.nidL, AV.nid, nid_ic l]; rfl
theorem nid_icA : ∀ l : List IceK, AV.nidL (l.map icA) = true
  | [] => rfl
  | d :: l => by simp only [List.map_cons, AV.nidL, AV.nid, icA, nid_icA l]; rfl
abbrev runH (g la : Int) (xs : List AV) (m1 m2 so v1 v2 a b c d e f i j : Int) (xd : List AV) (n : Nat) (cs : List AV) : AHeap :=
  [.own 0 (lwC g la xs m1 m2 so v1 v2), .own 0 [I a, I b, I c, I d, I e, I f, I i, I j], .own 0 [.ms 8 6 n 0 n], .own 0 (lwC g la xs m1 m2 so v1 v2), .own 0 [I a, I b, I c, I d, I e, I f, I i, I j], .own 0 [.vs 6 xd], .own n cs]
set_option maxHeartbeats 8000000 in
theorem p69 (l : FrL) (hl : FrV l) (x : IceK) (hx : iceE x = 0) (ds : List DayK) (hd : ∀ d ∈ ds, DayV d) (hn : ds.length ≤ 8) (H : AHeap) {Kk : AV → AHeap → Prop} (h : Kk (.tup [.vs 8 ((runT l x ds ds.length).map icA), I 0]) H) : ACalls Try.prog 69 [lwA l, icA x, .vs 6 (ds.map dyA)] H Kk := by
  have hx2 := iceE_ok hx
  have hat : ∀ j, j ≤ ds.length → IceB 100000000 (iceAt l x ds j) := fun j hj => (iceAt_b hl hx2 hd j hj).le (by have := pow8 j (by omega); omega)
  obtain ⟨X, hX⟩ : ∃ X : IceK, X = x := ⟨_, rfl⟩
  obtain ⟨L, hL⟩ : ∃ L : FrL, L = l := ⟨_, rfl⟩
  rw [← hX, ← hL] at h hat
  rw [← hX] at hx
  obtain ⟨⟨a, b⟩, ⟨c, d⟩, ⟨e, f⟩, ⟨p, q⟩⟩ := x
  obtain ⟨g, la, cov, ⟨m1, m2⟩, so, ⟨v1, v2⟩⟩ := l
  unfold lwA icA at *
  dsimp only at *
  have hds : DsOk ds := ⟨hd, by omega⟩
  obtain ⟨xs, hxs⟩ : ∃ xs, xs = cov.map cvV := ⟨_, rfl⟩
  have hxn : AV.nidL xs = true := by rw [hxs]; exact nid_cv cov
  obtain ⟨xd, hxd⟩ : ∃ xs, xs = ds.map dyA := ⟨_, rfl⟩
  have hxn2 : AV.nidL xd = true := by rw [hxd]; exact nid_dyA ds
  rw [← hxs, ← hxd]
  refine (fun q => pureF (by simp [AV.nidL, AV.nid, hxn, hxn2]) (by simp [AV.nidL, AV.nid, nid_icA]) q H h) ?_
  clear h
  intro Kk h
  obtain ⟨A, hA⟩ : ∃ A, A = std := ⟨_, rfl⟩
  have hN0 : A.ne 0 0 = false := by subst hA; rfl
  obtain ⟨F, hF⟩ : ∃ F, F = Frees 0 Kk := ⟨_, rfl⟩
  rw [← hF]
  have hsg : ∀ g, A.sg g g := by subst hA; exact fun _ => rfl
  have hnb : ∀ b, A.bnot b = !b := by subst hA; intro b; rfl
  refine go69 rfl (SGo_run hA ⟨[], [], (114, eChkA) :: (116, eIc) :: [], (115, eCourse) :: []⟩ (.cons eChkA_ok (.cons (eIc_ok p116) .nil)) (.cons eCourse_ok .nil) 200 fun T TD hT hTD => ?_)
  cbv
  refine Exists.intro cov (Exists.intro ds (And.intro hxs (And.intro hxd (And.intro hl (And.intro hds ?_)))))
  intro r hr
  have hr : r = 0 := by rw [← hx, hX]; exact hr
  subst hr
  cbv
  split <;> first | (rename_i hz; exact Bool.noConfusion (hz.symm.trans hN0)) | cbv
  refine Exists.intro () (And.intro ⟨hxn, hxn2⟩ ?_)
  cbv
  rw [hT]
  refine AGo_nilcell 2 0 8 (g := 0) (cs := [.lit (.slice none 0 0)]) rfl rfl ?_
  refine AGo_range (fid := 146) (caps := [.mp 4 0 0, .mp 5 0 0, .mp 3 0 0]) rfl rfl [(9, .mp 2 0 0)] ⟨rfl, trivial⟩ rfl ?_
  intro lp lb us hY
  show ACalls Try.prog 146 [.yl 7 0, .mp 4 0 0, .mp 5 0 0, .mp 3 0 0] (runH g la xs m1 m2 so v1 v2 a b c d e f p q xd 0 [] ++ [.raw 0 lp [.mp 2 0 0] us]) _
  refine go146 rfl ?_
  refine AGo_opq fun R hR => ?_
  refine SGo_run hA ⟨[], [], [], []⟩ .nil .nil 200 fun T TD hT hTD => ?_
  cbv
  rw [hT]
  have hX0 : iceAt L X ds 0 = X := rfl
  refine AGo_upE [0, 1, 2, 3, 5, 9, 10] ds.length (fun _ (_ : Unit) => True) (fun _ _ i => [(11, I i)]) (fun j _ => runH g la xs m1 m2 so v1 v2 a b c d e f p q xd j ((runT L X ds j).flatMap icC) ++ [.raw 0 lp [.mp 2 0 0] us, .own 0 (icC (iceAt L X ds j))]) () trivial ⟨rfl, trivial⟩ (.inl (by rw [hX0, hX]; rfl)) fun j _ i hi hj _ Bk hB => ?_
  have hlt : A.lt i (A.vlen xd) = decide (j < ds.length) := by subst hA; exact lt_len (by simp [hxd]) hi
  have hadd : j < ds.length → A.add .i64 i 1 = iLen (j + 1) := fun hj => by subst hA; exact add_one hi hj (by omega)
  obtain ⟨l, hl2⟩ : ∃ l, l = runT L X ds j := ⟨_, rfl⟩
  have hstep : runT L X ds (j + 1) = l ++ [iceAt L X ds (j + 1)] := by rw [hl2]; exact runT_step
  have hll : l.length = j := by rw [hl2]; exact runT_len
  have hfin : ¬ j < ds.length → runT L X ds ds.length = l := fun h => by rw [hl2, show ds.length = j by omega]
  rw [← hl2]
  have hB' : ∀ (l2 : List IceK) (y2 : IceK) e' H', j < ds.length → runT L X ds (j + 1) = l2 → iceAt L X ds (j + 1) = y2 → Fits e' [(11, I (A.add .i64 i 1))] → Fits e' [(0, .yl 7 0), (1, .mp 4 0 0), (2, .mp 5 0 0), (3, .mp 3 0 0), (5, .mp 8 0 0), (9, .vs 6 xd), (10, I (A.vlen xd))] →
      (∃ T, H' = (runH g la xs m1 m2 so v1 v2 a b c d e f p q xd (j + 1) (l2.flatMap icC) ++ [.raw 0 lp [.mp 2 0 0] us, .own 0 (icC y2)]) ++ T) → Bk e' H' := fun l2 y2 e' H' hj h2 h3 hf hf2 hH => by
    rw [hadd hj] at hf
    subst h2 h3
    have hnl : AV.ltL 9 ((runT L X ds (j + 1)).flatMap icC) := AV.ltL_nid (nid_ic _)
    have hnx : AV.ltL 9 xs := AV.ltL_nid hxn
    have hnd : AV.ltL 9 xd := AV.ltL_nid hxn2
    exact hB () _ _ hj trivial hf hf2 (.inr ⟨hH, by simp, by simp [ltG, AV.lt, AV.ltL, keepS, look, hnd], by simp [ltH, AObj.lt, AV.lt, AV.ltL, hnl, hnx, hnd]⟩)
  clear hB hl2
  obtain ⟨cs, hcs⟩ : ∃ cs, cs = l.flatMap icC := ⟨_, rfl⟩
  obtain ⟨y, hy⟩ : ∃ y, y = iceAt L X ds j := ⟨_, rfl⟩
  have hyb := hat j hj
  rw [← hy] at hyb
  rw [← hcs, ← hy]
  obtain ⟨⟨y1, y2⟩, ⟨y3, y4⟩, ⟨y5, y6⟩, ⟨y7, y8⟩⟩ := y
  refine SGo_run hA ⟨[], [], (147, eAft) :: [], []⟩ (.cons eAft_ok .nil) .nil 200 fun T TD hT hTD => ?_
  cbv
  split <;> cbv
  · rename_i z
    have hj1 : j < ds.length := by have z := hlt.symm.trans z; simpa using z
    obtain ⟨dd, hdd⟩ : ∃ x, ds[j]? = some x := ⟨_, List.getElem?_eq_getElem hj1⟩
    have hst := iceAt_step (l := L) (x := X) hdd
    rw [← hy] at hst
    have hdv := hd _ (List.mem_of_getElem? hdd)
    obtain ⟨⟨c1, c2⟩, ⟨f1, f2⟩, wa, cl⟩ := dd
    have hix : A.ix 6 6 xd i [I c1, I c2, I f1, I f2, I wa, B cl] := by subst hA; exact ix_map hxd hi hdd rfl
    have hlL : FrV ⟨g, la, cov, (m1, m2), so, (v1, v2)⟩ := hl
    refine Exists.intro _ (And.intro hix ?_); cbv
    refine Exists.intro cov (And.intro hxs (And.intro ⟨hlL, hyb, hdv⟩ ?_))
    intro z1 z2 z3 z4 z5 z6 z7 z8 hz
    have hz : (⟨(z1, z2), (z3, z4), (z5, z6), (z7, z8)⟩ : IceK) = iceAt L X ds (j + 1) := by rw [hst, hL]; exact hz
    rw [← hz] at hstep hB'
    cbv
    rw [hT]
    refine AGo_yield (id := 7) (gg := 0) rfl rfl rfl rfl ?_
    show AYields Try.prog 7 [I i, .agg [I z1, I z2, I z3, I z4, I z5, I z6, I z7, I z8]] (runH g la xs m1 m2 so v1 v2 a b c d e f p q xd j cs ++ [.raw 0 lp [.mp 2 0 0] us, .own 0 [I z1, I z2, I z3, I z4, I z5, I z6, I z7, I z8], .own 0 [I c1, I c2, I f1, I f2, I wa, B cl]]) _
    obtain ⟨HX, hHX⟩ : ∃ HX, HX = runH g la xs m1 m2 so v1 v2 a b c d e f p q xd j cs ++ [.raw 0 lp [.mp 2 0 0] us, .own 0 [I z1, I z2, I z3, I z4, I z5, I z6, I z7, I z8], .own 0 [I c1, I c2, I f1, I f2, I wa, B cl]] := ⟨_, rfl⟩
    obtain ⟨R1, hR1⟩ : ∃ R1 : Env → AHeap → Prop, R1 = fun e1 H2 => Fits e1 [(9, .mp 2 0 0), (11, .mp 10 0 0)] ∧ H2 = HX ++ [.own 0 [I z1, I z2, I z3, I z4, I z5, I z6, I z7, I z8]] := ⟨_, rfl⟩
    refine hY [I i, .agg [I z1, I z2, I z3, I z4, I z5, I z6, I z7, I z8]] _ _ R1 rfl rfl (fun ro => ?_) (fun ro e1 H2 hr1 => ?_)
    · refine SGo_run hA ⟨[], [], [], []⟩ .nil .nil 200 fun T TD hT hTD => ?_
      cbv
      rw [hR1]
      exact ⟨⟨rfl, rfl, trivial⟩, by rw [hHX]; rfl⟩
    · rw [hR1] at hr1
      obtain ⟨hf1, rfl⟩ := hr1
      rw [hHX]
      refine ⟨rfl, ?_⟩
      refine AGo_forget [(9, .mp 2 0 0), (11, .mp 10 0 0)] _ hf1 (.inl rfl) ?_ (by simp)
      refine AGo_opq fun R2 hR2 => ?_
      obtain ⟨cs2, hcs2⟩ : ∃ c, c = cs ++ [I z1, I z2, I z3, I z4, I z5, I z6, I z7, I z8] := ⟨_, rfl⟩
      have happ : A.app 8 8 64 cs 0 j [.agg [I z1, I z2, I z3, I z4, I z5, I z6, I z7, I z8]] cs2 (j + 1) := by
        rw [hcs2]; subst hA; exact app_one (by rw [hcs, len_flat (k := 8) (fun _ => rfl), hll]) rfl (by omega)
      have hgo : ∀ e2, R2 e2 (runH g la xs m1 m2 so v1 v2 a b c d e f p q xd (j + 1) cs2 ++ [.raw 0 lb [.mp 2 0 0] us, .own 0 [I z1, I z2, I z3, I z4, I z5, I z6, I z7, I z8], .own 0 [I c1, I c2, I f1, I f2, I wa, B cl], .own 0 [I z1, I z2, I z3, I z4, I z5, I z6, I z7, I z8]]) := fun e2 => by
        refine hR2 _ _ ⟨rfl, ?_⟩
        have hb : A.bnot true = false := hnb true
        refine SGo_run hA ⟨[], [], [], []⟩ .nil .nil 200 fun T TD hT hTD => ?_
        cbv
        split <;> cbv
        · rename_i hq; exact Bool.noConfusion (hq.symm.trans hb)
        · exact hB' _ _ _ _ hj1 hstep rfl ⟨rfl, trivial⟩ ⟨rfl, rfl, rfl, rfl, rfl, rfl, rfl, trivial⟩ ⟨[.own 0 [I c1, I c2, I f1, I f2, I wa, B cl], .own 0 [I z1, I z2, I z3, I z4, I z5, I z6, I z7, I z8]], by rw [hcs2, hcs]; simp⟩
      clear hR2
      refine SGo_run hA ⟨[6], [], (117, eIc) :: [], []⟩ (.cons (eIc_ok p117) .nil) .nil 200 fun T TD hT hTD => ?_
      cbv
      refine And.intro (hsg _) (Exists.intro cs2 (Exists.intro (j + 1) (And.intro happ (And.intro rfl ?_))))
      cbv
      exact hgo _
  · rename_i z
    have hj1 : ¬ j < ds.length := by have z := hlt.symm.trans z; simpa using z
    have hw := hfin hj1
    rw [hw] at h
    refine hR _ _ ?_
    unfold RetP
    split
    · rename_i hq; cases hq
    rename_i vs hq
    cases hq
    split
    all_goals
      refine ⟨rfl, ?_⟩
      refine SGo_run hA ⟨[], [], [], []⟩ .nil .nil 200 fun T TD hT hTD => ?_
      cbv
      rw [hF]
      refine Frees.frz 6 j 8 (l.map icA) rfl (by rw [hcs]; exact Elems_ic _) (Frees.drop0 ?_ ?_)
      · have : AV.frz 6 j 8 (l.map icA) (.ms 8 6 j 0 j) = .vs 8 (l.map icA) := frz_self (by simp [hll])
        simp only [aTup, AV.frz, AV.frzL] at this ⊢
        rw [this]; exact h
      · have : AV.frz 6 j 8 (l.map icA) (.ms 8 6 j 0 j) = .vs 8 (l.map icA) := frz_self (by simp [hll])
        simp only [aTup, AV.frz, AV.frzL, AV.nid, AV.nidL] at this ⊢
        rw [this]; simp [AV.nidL, AV.nid, nid_icA]
end Go.Sas
