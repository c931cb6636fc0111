/-
Probe: copies of surveys, and whether two are alike: contracts.
Conditions: none.
-/
import Derived.Test.YtajegdbljldakaaPH
import Derived.Test.YtajegdbljldakaaPA
set_option linter.unusedVariables false
set_option linter.unusedSimpArgs false
namespace Go.Sas
open Go.Proofs
set_option maxRecDepth 100000
theorem p32 (rs : List Rch) (a b c : Int) (hl : rs.length ≤ 1000000) (H : AHeap) {Kk : AV → AHeap → Prop} (h : Kk (svV (.vs 5 (rs.map rcV)) a b c) H) : ACalls Try.prog 32 [svV (.vs 5 (rs.map rcV)) a b c] H Kk := by
  have hnr := nidL_rc rs
  refine (fun q => pureF (by simp [AV.nidL, AV.nid, hnr]) (by simp [AV.nid, AV.nidL]) q H h) ?_
  clear h
  intro Kk h
  have hfz : fzS 5 5 40 (rs.map rcV) := ⟨rfl, by simp; omega, (Elems_map (f := rcV) (g := fun r => [I r.lg, I r.sl, I r.th, I r.gr, I r.ev]) (fun _ => rfl) (fun _ => rfl) (fun _ => rfl) rs).2⟩
  obtain ⟨xs, hxs⟩ : ∃ xs, xs = rs.map rcV := ⟨_, rfl⟩
  rw [← hxs] at hfz h ⊢
  obtain ⟨F, hF⟩ : ∃ F, F = Frees 0 Kk := ⟨_, rfl⟩
  rw [← hF]
  obtain ⟨A, hA⟩ : ∃ A, A = std := ⟨_, rfl⟩
  have hfz : A.fz 5 5 40 xs := by subst hA; exact hfz
  refine go32 rfl (SGo_run hA ⟨[], [], [], []⟩ .nil .nil 200 fun T TD hT hTD => ?_)
  cbv
  refine And.intro hfz ?_; cbv
  rw [hF]
  exact Frees.drop0 h rfl
def eOwnSv : List AV → Option ((AV → Prop) → Prop)
  | [.agg [.vs 5 xs, .lit (.int .i64 a), .lit (.int .i64 b), .lit (.int .i64 c)]] => some fun K => ∃ rs : List Rch, xs = rs.map rcV ∧ rs.length ≤ 1000000 ∧ K (svV (.vs 5 xs) a b c)
  | _ => none
theorem eOwnSv_ok : ∀ args pt, eOwnSv args = some pt → ∀ (H : AHeap) (Kk : AV → AHeap → Prop), pt (fun r => Kk r H) → ACalls Try.prog 32 args H Kk := by
  intro args pt h H Kk hk
  unfold eOwnSv at h
  split at h
  · cases h
    obtain ⟨rs, rfl, h1, h2⟩ := hk
    exact p32 _ _ _ _ h1 H h2
  · cases h
theorem p39 (rs : List Rch) (a b c : Int) (hl : rs.length ≤ 1000000) (H : AHeap) {Kk : AV → AHeap → Prop} (h : Kk (B true) H) : ACalls Try.prog 39 [svV (.vs 5 (rs.map rcV)) a b c, svV (.vs 5 (rs.map rcV)) a b c] H Kk := by
  have hnr := nidL_rc rs
  refine (fun q => pureC (by simp [AV.nidL, AV.nid, hnr]) (by rfl) q H h) ?_
  clear h
  intro Kk h
  obtain ⟨xs, hxs⟩ : ∃ xs, xs = rs.map rcV := ⟨_, rfl⟩
  rw [← hxs]
  obtain ⟨M, hM⟩ : ∃ M, M = rs.length := ⟨_, rfl⟩
  obtain ⟨A, hA⟩ : ∃ A, A = std := ⟨_, rfl⟩
  have hne : ∀ x y, A.ne x y = decide (x ≠ y) := by subst hA; intro x y; simp only [std, iNe]; rw [Bool.eq_iff_iff]; simp
  have hee : ∀ x y, A.eq x y = decide (x = y) := by subst hA; intro x y; exact iEq_dec _ _
  have hll : ∀ x y, A.lt x y = decide (x < y) := by subst hA; intro x y; rfl
  have hle : ∀ x y, A.le x y = decide (x ≤ y) := by subst hA; intro x y; rfl
  have hnb : ∀ b, A.bnot b = !b := by subst hA; intro b; rfl
  have hbd : ∀ x y, A.band x y = (x && y) := by subst hA; intro x y; rfl
  have hsg : ∀ g, A.sg g g := by subst hA; exact fun _ => rfl
  have hvv : A.vlen xs = iLen M := by subst hA; rw [hxs, hM]; simp [std]
  have hnn : A.ne (A.vlen xs) (A.vlen xs) = false := by rw [hne]; simp
  refine go39 rfl (SGo_run hA ⟨[], [], [], []⟩ .nil .nil 200 fun T TD hT hTD => ?_)
  cbv
  have hq0 : A.bnot (A.band (A.eq a a) (A.band (A.eq b b) (A.band (A.eq c c) true))) = false := by simp only [hee, hbd, hnb]; simp
  split
  · rename_i hz; exact Bool.noConfusion (hz.symm.trans hq0)
  cbv
  split <;> first | (rename_i hz; exact Bool.noConfusion (hz.symm.trans hnn)) | cbv
  rw [hT]
  refine AGo_upE [2, 3] M (fun _ (_ : Unit) => True) (fun j _ i => [(5, I i)]) (fun j _ => [.own 0 [.vs 5 xs, I a, I b, I c], .own 0 [.vs 5 xs, I a, I b, I c]]) () trivial ⟨rfl, trivial⟩ (.inl rfl) fun j _ i hi hj _ Bk hB => ?_
  have hlt : A.lt i (A.vlen xs) = decide (j < M) := by rw [hvv, hll, hi, decide_eq_decide]; unfold iLen; omega
  have hadd : ∀ N, j < N → N ≤ 9223372036854775807 → A.add .i64 i 1 = iLen (j + 1) := fun N hj hN => by subst hA; exact add_one hi hj hN
  refine SGo_run hA ⟨[], [], [], []⟩ .nil .nil 200 fun T TD hT hTD => ?_
  cbv
  split <;> cbv
  · rename_i hk0
    have hk1 : j < M := by have hz := hlt.symm.trans hk0; simpa using hz
    clear hk0
    obtain ⟨⟨u1, u2, u3, u4, u5⟩, hx⟩ : ∃ x, rs[j]? = some x := ⟨_, List.getElem?_eq_getElem (by omega)⟩
    have hix : A.ix 5 5 xs i [I u1, I u2, I u3, I u4, I u5] := by subst hA; exact ix_map hxs hi hx rfl
    refine Exists.intro _ (And.intro hix ?_); cbv
    refine Exists.intro _ (And.intro hix ?_); cbv
    have hq1 : A.bnot (A.band (A.eq u1 u1) (A.band (A.eq u2 u2) (A.band (A.eq u3 u3) (A.band (A.eq u4 u4) (A.band (A.eq u5 u5) true))))) = false := by simp only [hee, hbd, hnb]; simp
    split
    · rename_i hz; exact Bool.noConfusion (hz.symm.trans hq1)
    cbv
    exact hB () _ _ hk1 trivial ⟨congrArg I (hadd _ hk1 (by omega)), trivial⟩ ⟨rfl, rfl, trivial⟩ (.inl rfl)
  · exact h
def eAlike : List AV → Option ((AV → Prop) → Prop)
  | [.agg [.vs 5 xs, .lit (.int .i64 a), .lit (.int .i64 b), .lit (.int .i64 c)], .agg [.vs 5 ys, .lit (.int .i64 a'), .lit (.int .i64 b'), .lit (.int .i64 c')]] => some fun K => ∃ rs : List Rch, (xs = rs.map rcV ∧ ys = xs ∧ a' = a ∧ b' = b ∧ c' = c ∧ rs.length ≤ 1000000) ∧ K (B true)
  | _ => none
theorem eAlike_ok : ∀ args pt, eAlike args = some pt → ∀ (H : AHeap) (Kk : AV → AHeap → Prop), pt (fun r => Kk r H) → ACalls Try.prog 39 args H Kk := by
  intro args pt h H Kk hk
  unfold eAlike at h
  split at h
  · cases h
    obtain ⟨rs, ⟨rfl, rfl, rfl, rfl, rfl, h1⟩, h2⟩ := hk
    exact p39 _ _ _ _ h1 H h2
  · cases h
end Go.Sas
