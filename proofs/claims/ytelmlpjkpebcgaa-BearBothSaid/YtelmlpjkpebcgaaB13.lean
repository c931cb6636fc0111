/-
What the functions that ice rests on yield, part 13: the examples that each law looks at.
Conditions: none.
-/
import Derived.Test.YtelmlpjkpebcgaaB12
import Derived.Test.YtelmlpjkpebcgaaS5
set_option linter.unusedVariables false
set_option linter.unusedSimpArgs false
namespace Go.Sas
open Go.Proofs
set_option maxRecDepth 100000
theorem p44 (u v : Int) (l : List Int) (hl : l.length < 1000000) (H : AHeap) {Kk : AV → AHeap → Prop} (h : Kk (.vs 4 ((l.map fun n => (⟨n, (u, v), 0⟩ : Load)).map ldV)) H) : ACalls Try.prog 44 [.agg [I u, I v], .vs 1 (l.map I)] H Kk := by
  refine (fun q => pureF (by rfl) (by rfl) q H h) ?_
  clear h
  intro Kk h
  obtain ⟨A, hA⟩ : ∃ A, A = std := ⟨_, rfl⟩
  obtain ⟨xs, hxs⟩ : ∃ xs, xs = l.map I := ⟨_, rfl⟩
  rw [← hxs]
  have hsg : ∀ g, A.sg g g := by subst hA; exact fun _ => rfl
  obtain ⟨F, hF⟩ : ∃ F, F = Frees 0 Kk := ⟨_, rfl⟩
  rw [← hF]
  refine go44 rfl (SGo_run hA ⟨[], [], [], []⟩ .nil .nil 200 fun T TD hT hTD => ?_)
  cbv
  rw [hT]
  refine AGo_nilms 5 4 rfl ?_
  refine AGo_up l.length (fun _ => True) (fun j i => [(0, .agg [I u, I v]), (1, .vs 1 xs), (2, .mp 0 0 0), (5, .ms 4 1 j 0 j), (6, I i)]) (fun j => [.own 0 [I u, I v], .own j ((l.take j).flatMap fun n => [I n, I u, I v, I 0])]) trivial ⟨rfl, rfl, rfl, rfl, rfl, trivial⟩ (.inl rfl) fun j i hi hj hP Bk hB => ?_
  have hlt : A.lt i (A.vlen xs) = decide (j < l.length) := by subst hA; exact lt_len (by simp [hxs]) hi
  have hadd : ∀ N, j < N → N ≤ 9223372036854775807 → A.add .i64 i 1 = iLen (j + 1) := fun N hj hN => by subst hA; exact add_one hi hj hN
  have hcl : ((l.take j).flatMap fun n => [I n, I u, I v, I 0]).length = j * 4 := by rw [len_flat (k := 4) (fun _ => rfl)]; simp; omega
  obtain ⟨cs, hcs⟩ : ∃ cs, cs = (l.take j).flatMap fun n => [I n, I u, I v, I 0] := ⟨_, rfl⟩
  rw [← hcs] at hcl
  rw [← hcs]
  refine SGo_run hA ⟨[1], [1001], [], []⟩ .nil .nil 200 fun T TD hT hTD => ?_
  cbv
  split <;> cbv
  · rename_i hk1
    have hk1 : j < l.length := by have := hlt.symm.trans hk1; simpa using this
    obtain ⟨x, hx⟩ : ∃ x, l[j]? = some x := ⟨_, List.getElem?_eq_getElem hk1⟩
    have hix : A.ix 1 1 xs i [I x] := by subst hA; exact ix_map hxs hi hx rfl
    refine Exists.intro _ (And.intro hix ?_)
    cbv
    refine And.intro (hsg _) (Exists.intro (cs ++ [I x, I u, I v, I 0]) (Exists.intro (j + 1) (And.intro ?_ (And.intro rfl ?_))))
    · subst hA
      exact app_one hcl rfl (by omega)
    generalize hcs2 : cs ++ [I x, I u, I v, I 0] = cs2
    cbv
    try refine And.intro (by subst hA; simp [std, Keep, SubH, ResK]) ?_
    refine hB _ _ hk1 trivial ⟨rfl, rfl, rfl, rfl, congrArg I (hadd _ hk1 (by omega)), trivial⟩ (.inl ?_)
    rw [← hcs2, hcs, List.take_add_one, hx]; simp
  · rename_i hk1
    have hk1 : ¬ j < l.length := by have := hlt.symm.trans hk1; simpa using this
    rw [hF]
    rw [List.take_of_length_le (by omega)] at hcs
    have hj2 : j = l.length := by omega
    subst hcs
    refine Frees.frz 1 j 4 ((l.map fun n => (⟨n, (u, v), 0⟩ : Load)).map ldV) rfl ?_ (Frees.drop0 ?_ ?_)
    · have := Elems_map (f := ldV) (g := fun x : Load => [I x.at_, I x.w.1, I x.w.2, I x.st]) (sz := 4) (fun _ => rfl) (fun _ => rfl) (fun _ => rfl) (l.map fun n => (⟨n, (u, v), 0⟩ : Load))
      rw [List.flatMap_map] at this
      exact this
    · simp only [aTup]
      rw [frz_self (by simp [hj2])]; exact h
    · simp only [aTup]
      rw [frz_self (by simp [hj2])]; rfl
def exP : Plate := ⟨(40000, 50000), [(0, 1000000), (20, 500000), (100, 0)], [(0, 1000000), (60, 640000), (600, 250000)], 5, 500000, 98, 640000, 1440000, 50, 250000⟩
abbrev exV : AV := plV 40000 50000 (.vs 2 [.agg [I 0, I 1000000], .agg [I 20, I 500000], .agg [I 100, I 0]]) (.vs 2 [.agg [I 0, I 1000000], .agg [I 60, I 640000], .agg [I 600, I 250000]]) 5 500000 98 640000 1440000 50 250000
theorem exP_is : PlIs exP (40000, 50000, [.agg [I 0, I 1000000], .agg [I 20, I 500000], .agg [I 100, I 0]], [.agg [I 0, I 1000000], .agg [I 60, I 640000], .agg [I 600, I 250000]], 5, 500000, 98, 640000, 1440000, 50, 250000) := ⟨rfl, rfl, rfl, rfl, rfl, rfl, rfl, rfl, rfl, rfl⟩
theorem p51 (a b : Int) (H : AHeap) {Kk : AV → AHeap → Prop} (h : Kk (.agg [I a, I b]) H) : ACalls Try.prog 51 [I a, I b] H Kk := by
  refine (fun q => pureC (by rfl) (by rfl) q H h) ?_
  clear h
  intro Kk h
  obtain ⟨A, hA⟩ : ∃ A, A = std := ⟨_, rfl⟩
  refine go51 rfl (SGo_run hA ⟨[], [], [], []⟩ .nil .nil 200 fun T TD hT hTD => ?_)
  cbv
  exact h
def eSpan : List AV → Option ((AV → Prop) → Prop)
  | [.lit (.int .i64 a), .lit (.int .i64 b)] => some fun K => K (.agg [I a, I b])
  | _ => none
def eOne : List AV → Option ((AV → Prop) → Prop)
  | [.lit (.int .i64 a)] => some fun K => K (.agg [I a, I a])
  | _ => none
theorem eSpan_ok : ∀ args pt, eSpan args = some pt → ∀ (H : AHeap) (Kk : AV → AHeap → Prop), pt (fun r => Kk r H) → ACalls Try.prog 51 args H Kk := by
  intro args pt h H Kk hk
  unfold eSpan at h
  split at h
  · cases h; exact p51 _ _ H hk
  · cases h
theorem eOne_ok : ∀ args pt, eOne args = some pt → ∀ (H : AHeap) (Kk : AV → AHeap → Prop), pt (fun r => Kk r H) → ACalls Try.prog 61 args H Kk := by
  intro args pt h H Kk hk
  unfold eOne at h
  split at h
  · cases h; exact p61 _ H hk
  · cases h
theorem p79 (H : AHeap) {Kk : AV → AHeap → Prop} (h : Kk exV H) : ACalls Try.prog 79 [] H Kk := by
  refine (fun q => pureC (by rfl) (by rfl) q H h) ?_
  clear h
  intro Kk h
  obtain ⟨A, hA⟩ : ∃ A, A = std := ⟨_, rfl⟩
  refine go79 rfl (SGo_run hA ⟨[], [], [(51, eSpan)], []⟩ (.cons eSpan_ok .nil) .nil 200 fun T TD hT hTD => ?_)
  cbv
  exact h
def ePlate : List AV → Option ((AV → Prop) → Prop)
  | [] => some fun K => K exV
  | _ => none
theorem ePlate_ok : ∀ args pt, ePlate args = some pt → ∀ (H : AHeap) (Kk : AV → AHeap → Prop), pt (fun r => Kk r H) → ACalls Try.prog 79 args H Kk := by
  intro args pt h H Kk hk
  unfold ePlate at h
  split at h
  · cases h; exact p79 H hk
  · cases h
theorem eHolds_ok {f : Nat} (hf : ∀ (p : Plate) {a b : Int} {xs ec : List AV} {ne ed gr lo hi sh wi : Int}, PlateIs p a b xs ec ne ed gr lo hi sh wi → p.shares.length ≤ 9223372036854775807 → p.creep.length ≤ 9223372036854775807 → ∀ (ice cr : List (Int × Int)) (l : List Load), ice.length ≤ 9223372036854775807 → cr.length ≤ 9223372036854775807 → l.length ≤ 9223372036854775807 → ∀ (H : AHeap) {Kk : AV → AHeap → Prop}, Kk (.tup [.vs 1 ((holdsS p ice cr l).1.map I), I (holdsS p ice cr l).2]) H →
    ACalls Try.prog f [plV a b (.vs 2 xs) (.vs 2 ec) ne ed gr lo hi sh wi, .vs 2 (ice.map sp), .vs 2 (cr.map sp), .vs 4 (l.map ldV)] H Kk) : ∀ args pt, eHolds args = some pt → ∀ (H : AHeap) (Kk : AV → AHeap → Prop), pt (fun r => Kk r H) → ACalls Try.prog f args H Kk := by
  intro args pt h H Kk hk
  unfold eHolds at h
  split at h
  · split at h
    · rename_i x xi xc xl hy h3 h4 h5
      cases h
      obtain ⟨p, ice, cr, l, h1, b1, b2, ⟨rfl, b3⟩, ⟨rfl, b4⟩, ⟨rfl, b5⟩, h6⟩ := hk
      obtain ⟨a, b, xs, ec, ne, ed, gr, lo, hi, sh, wi⟩ := x
      unfold BigL at b3 b4 b5
      exact (hf p h1 b1 b2 ice cr l (by omega) (by omega) (by omega) H (h6 _ _ _ rfl rfl)).wk ⟨asPl_wk hy, asVs_wk h3, asVs_wk h4, asVs_wk h5, trivial⟩
    · cases h
  · cases h
theorem eSame_ok : ∀ args pt, eSame args = some pt → ∀ (H : AHeap) (Kk : AV → AHeap → Prop), pt (fun r => Kk r H) → ACalls Try.prog 27 args H Kk := by
  intro args pt h H Kk hk
  unfold eSame at h
  split at h
  · split at h
    · rename_i xs ys hx hy
      cases h
      obtain ⟨l, l', ⟨rfl, b1⟩, ⟨rfl, b2⟩, h1⟩ := hk
      unfold BigL at b1 b2
      exact (p27 l l' (by omega) (by omega) H (h1 _ rfl)).wk ⟨asVs_wk hx, asVs_wk hy, trivial⟩
    · cases h
  · cases h
theorem eSameSp_ok : ∀ args pt, eSameSp args = some pt → ∀ (H : AHeap) (Kk : AV → AHeap → Prop), pt (fun r => Kk r H) → ACalls Try.prog 50 args H Kk := by
  intro args pt h H Kk hk
  unfold eSameSp at h
  split at h
  · split at h
    · rename_i xs ys hx hy
      cases h
      obtain ⟨l, l', ⟨rfl, b1⟩, ⟨rfl, b2⟩, h1⟩ := hk
      unfold BigL at b1 b2
      exact (p50 l l' (by omega) (by omega) H (h1 _ rfl)).wk ⟨asVs_wk hx, asVs_wk hy, trivial⟩
    · cases h
  · cases h
theorem eBearsA_ok {f : Nat} (hf : ∀ (p : Plate) {a b : Int} {xs ec : List AV} {ne ed gr lo hi sh wi : Int}, PlateIs p a b xs ec ne ed gr lo hi sh wi → Big p.shares → Big p.creep → ∀ (t n : Int) (H : AHeap) {Kk : AV → AHeap → Prop}, Kk (.tup [I (bearsS p t n).1, I (bearsS p t n).2]) H →
    ACalls Try.prog f [plV a b (.vs 2 xs) (.vs 2 ec) ne ed gr lo hi sh wi, I t, I n] H Kk) : ∀ args pt, eBearsA args = some pt → ∀ (H : AHeap) (Kk : AV → AHeap → Prop), pt (fun r => Kk r H) → ACalls Try.prog f args H Kk := by
  intro args pt h H Kk hk
  unfold eBearsA at h
  split at h
  · split at h
    · rename_i x hy
      cases h
      obtain ⟨p, h1, h2, h3, h4⟩ := hk
      obtain ⟨a, b, xs, ec, ne, ed, gr, lo, hi, sh, wi⟩ := x
      exact (hf p h1 h2 h3 _ _ H (h4 _ _ rfl)).wk ⟨asPl_wk hy, Wk.rfl, Wk.rfl, trivial⟩
    · cases h
  · cases h
theorem eSpeedA_ok {f : Nat} (hf : ∀ (p : Plate) {a b : Int} {xs ec : List AV} {ne ed gr lo hi sh wi : Int}, PlateIs p a b xs ec ne ed gr lo hi sh wi → Big p.shares → Big p.creep → ∀ (u v n w : Int) (H : AHeap) {Kk : AV → AHeap → Prop}, Kk (.tup [I (speedS p u v n w).1, I (speedS p u v n w).2]) H →
    ACalls Try.prog f [plV a b (.vs 2 xs) (.vs 2 ec) ne ed gr lo hi sh wi, .agg [I u, I v], I n, I w] H Kk) : ∀ args pt, eSpeedA args = some pt → ∀ (H : AHeap) (Kk : AV → AHeap → Prop), pt (fun r => Kk r H) → ACalls Try.prog f args H Kk := by
  intro args pt h H Kk hk
  unfold eSpeedA at h
  split at h
  · split at h
    · rename_i x hy
      cases h
      obtain ⟨p, h1, h2, h3, h4⟩ := hk
      obtain ⟨a, b, xs, ec, ne, ed, gr, lo, hi, sh, wi⟩ := x
      exact (hf p h1 h2 h3 _ _ _ _ H (h4 _ _ rfl)).wk ⟨asPl_wk hy, Wk.rfl, Wk.rfl, Wk.rfl, trivial⟩
    · cases h
  · cases h
theorem eMkLoads_ok : ∀ args pt, eMkLoads args = some pt → ∀ (H : AHeap) (Kk : AV → AHeap → Prop), pt (fun r => Kk r H) → ACalls Try.prog 44 args H Kk := by
  intro args pt h H Kk hk
  unfold eMkLoads at h
  split at h
  · split at h
    · rename_i xs hx
      cases h
      obtain ⟨l, ⟨rfl, b1⟩, h1⟩ := hk
      exact (p44 _ _ l b1 H (h1 _ rfl)).wk ⟨Wk.rfl, asVs_wk hx, trivial⟩
    · cases h
  · cases h
theorem exB : bearsS exP 500 60 = (6400, 0) := by decide +kernel
theorem exH : holdsS exP [(500, 500)] [] [⟨10, (8000, 8000), 0⟩, ⟨29, (8000, 8000), 0⟩] = ([2, 2], 0) := by decide +kernel
theorem exS : speedS exP 50 50 100 70 = (2, 0) := by decide +kernel
def tbw : PTab := [(79, ePlate), (54, eBearsA), (61, eOne), (44, eMkLoads), (25, eHolds), (46, eSpeedA), (27, eSame)]
theorem tbw_ok : PTabOk Try.prog tbw := .cons ePlate_ok (.cons (eBearsA_ok p54) (.cons eOne_ok (.cons eMkLoads_ok (.cons (eHolds_ok p25) (.cons (eSpeedA_ok p46) (.cons eSame_ok .nil))))))
theorem p19 (H : AHeap) {Kk : AV → AHeap → Prop} (h : Kk (B true) H) : ACalls Try.prog 19 [] H Kk := by
  refine (fun q => pureC (by rfl) (by rfl) q H h) ?_
  clear h
  intro Kk h
  obtain ⟨A, hA⟩ : ∃ A, A = std := ⟨_, rfl⟩
  refine go19 rfl (SGo_run hA ⟨[], [], tbw, []⟩ tbw_ok .nil 200 fun T TD hT hTD => ?_)
  clear hT hTD
  cbv
  refine Exists.intro exP (And.intro exP_is (And.intro (by decide) (And.intro (by decide) ?_)))
  rintro a e hae
  obtain ⟨rfl, rfl⟩ := Prod.mk.inj (hae.trans exB)
  cbv
  refine Exists.intro [10, 29] (And.intro ⟨rfl, by decide⟩ ?_)
  rintro ys hys
  cbv
  refine Exists.intro exP (Exists.intro [(500, 500)] (Exists.intro [] (Exists.intro [⟨10, (8000, 8000), 0⟩, ⟨29, (8000, 8000), 0⟩] (And.intro exP_is (And.intro (by decide) (And.intro (by decide) (And.intro ⟨rfl, by decide⟩ (And.intro ⟨rfl, by decide⟩ (And.intro ⟨hys, by decide⟩ ?_)))))))))
  rintro r e zs hre hzs
  obtain ⟨rfl, rfl⟩ := Prod.mk.inj (hre.trans exH)
  cbv
  refine Exists.intro exP (And.intro exP_is (And.intro (by decide) (And.intro (by decide) ?_)))
  rintro q e hqe
  obtain ⟨rfl, rfl⟩ := Prod.mk.inj (hqe.trans exS)
  cbv
  have he : ∀ n, A.eq n n = true := by subst hA; intro n; simp [std, iEq]
  repeat' (first | (split <;> first | (rename_i hq; exact Bool.noConfusion (hq.symm.trans (he _))) | cbv) | (refine Exists.intro [2, 2] (Exists.intro [2, 2] (And.intro ⟨hzs, by decide⟩ (And.intro ⟨rfl, by decide⟩ ?_))); rintro b rfl; cbv))
  all_goals first | exact h | exact leaf h (congrArg B (he _).symm) rfl
theorem eTrue_ok : ∀ args pt, eTrue args = some pt → ∀ (H : AHeap) (Kk : AV → AHeap → Prop), pt (fun r => Kk r H) → ACalls Try.prog 19 args H Kk := by
  intro args pt h H Kk hk
  unfold eTrue at h
  split at h
  · cases h; exact p19 H hk
  · cases h
end Go.Sas
