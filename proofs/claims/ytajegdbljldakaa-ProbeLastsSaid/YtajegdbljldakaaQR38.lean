/-
Probe: the reference's stale; SameSpans.
Conditions: none.
-/
import Derived.Test.YtajegdbljldakaaPS
import Derived.Test.YtajegdbljldakaaPL
set_option linter.unusedVariables false
set_option linter.unusedSimpArgs false
namespace Go.Sas
open Go.Proofs
set_option maxRecDepth 100000
theorem p95 (rs : List Rch) (a b c p t : Int) (l : List Lk) (ho : RoadOk rs) (hs : SgtOk a b c) (hl : l.length ≤ 1000000) (hL : ∀ x ∈ l, LkOk (sumLg rs) x) (hp : 0 ≤ p ∧ p < sumLg rs) (ht : 0 ≤ t ∧ t ≤ 10000) (H : AHeap) {Kk : AV → AHeap → Prop}
    (h : Kk (B (staleS (plc rs) a b c l t p.toNat)) H) : ACalls Try.prog 95 [svV (.vs 5 (rs.map rcV)) a b c, .vs 5 (l.map lkV), I p, I t] H Kk := by
  refine (fun q => pureC (by rfl) (by rfl) q H h) ?_
  clear h
  intro Kk h
  obtain ⟨xs, hxs⟩ : ∃ xs, xs = rs.map rcV := ⟨_, rfl⟩
  obtain ⟨ls, hls⟩ : ∃ ys, ys = l.map lkV := ⟨_, rfl⟩
  rw [← hxs, ← hls]
  have hRl := ho.ilen
  obtain ⟨ev, hev⟩ : ∃ e, e = ((plc rs).getD p.toNat rc0).ev := ⟨_, rfl⟩
  obtain ⟨W, hW⟩ : ∃ W, W = staleS (plc rs) a b c l t p.toNat := ⟨_, rfl⟩
  rw [← hW] at h
  have hWe : W = !l.any (seenS a b c ev p.toNat t) := by rw [hW, hev]; rfl
  obtain ⟨k, hk⟩ : ∃ k, k = p.toNat := ⟨_, rfl⟩
  have hpk : p = (k : Int) := by omega
  rw [← hk] at hWe hev
  have hrok : RchOk ((plc rs).getD k rc0) := by
    have h1 : k < (plc rs).length := by unfold iLen at hRl; omega
    rw [List.getD_eq_getElem?_getD, List.getElem?_eq_getElem h1]
    exact ho.plc.all _ (List.getElem_mem h1)
  have hevb : 0 ≤ ev ∧ ev ≤ 10000 := by rw [hev]; obtain ⟨_, _, _, _, h9⟩ := hrok; omega
  clear hrok
  obtain ⟨A, hA⟩ : ∃ A, A = std := ⟨_, rfl⟩
  have hne : ∀ x y, A.ne x y = decide (x ≠ y) := by subst hA; intro x y; simp only [std, iNe]; rw [Bool.eq_iff_iff]; simp
  have hee : ∀ x y, A.eq x y = decide (x = y) := by subst hA; intro x y; exact iEq_dec _ _
  have hll : ∀ x y, A.lt x y = decide (x < y) := by subst hA; intro x y; rfl
  have hle : ∀ x y, A.le x y = decide (x ≤ y) := by subst hA; intro x y; rfl
  have hnb : ∀ b, A.bnot b = !b := by subst hA; intro b; rfl
  have hbd : ∀ x y, A.band x y = (x && y) := by subst hA; intro x y; rfl
  have hsg : ∀ g, A.sg g g := by subst hA; exact fun _ => rfl
  refine go95 rfl (SGo_run hA ⟨[], [], (112, eReach) :: [], []⟩ (.cons eReach_ok .nil) .nil 200 fun T TD hT hTD => ?_)
  cbv
  refine Exists.intro rs (And.intro hxs (And.intro (by have := ho.n2; omega) (And.intro ho.all (And.intro hp.1 (And.intro hp.2 ?_)))))
  intro r hr; cbv
  have hre : r.ev = ev := by rw [hev, hr, hk]
  obtain ⟨r1, r2, r3, r4, rev⟩ := r
  dsimp only at hre
  subst hre
  rw [hT]
  refine AGo_upE [1, 2, 3, 4, 8, 9] l.length (fun j (_ : Unit) => (l.take j).any (seenS a b c rev k t) = false) (fun j _ i => [(10, I i)]) (fun j _ => [.own 0 [.vs 5 xs, I a, I b, I c]]) () (by simp) ⟨rfl, trivial⟩ (.inl rfl) fun j _ i hi hj hP Bk hB => ?_
  have hlt : A.lt i (A.vlen ls) = decide (j < l.length) := by subst hA; exact lt_len (by simp [hls]) hi
  have hadd : ∀ N, j < N → N ≤ 9223372036854775807 → A.add .i64 i 1 = iLen (j + 1) := fun N hj hN => by subst hA; exact add_one hi hj hN
  refine SGo_run hA ⟨[0], [], (80, eIn) :: [], []⟩ (.cons (eIn_ok p80) .nil) .nil 200 fun T TD hT hTD => ?_
  cbv
  split <;> cbv
  · rename_i hk0
    have hk1 : j < l.length := by have hz := hlt.symm.trans hk0; simpa using hz
    clear hk0
    obtain ⟨⟨k', q', g', u', v'⟩, hx⟩ : ∃ x, l[j]? = some x := ⟨_, List.getElem?_eq_getElem hk1⟩
    have hiy : A.ix 5 5 ls i [I k', I q', I g', I u', I v'] := by subst hA; exact ix_map hls hi hx rfl
    obtain ⟨d0, d1, d2, d3, d4, d5⟩ := hL _ (List.mem_of_getElem? hx)
    dsimp only at d0 d1 d2 d3 d4 d5
    have hkk : A.sub .i64 k' 1 = iLen (k' - 1).toNat := by subst hA; show iSub .i64 k' 1 = _; rw [iSub_id (by omega) (by omega)]; unfold iLen; omega
    obtain ⟨o, ho3⟩ : ∃ o, o = 1 + (k' - 1).toNat := ⟨_, rfl⟩
    have hixo : A.ixm 1 1 1 3 (A.sub .i64 k' 1) o := by rw [hkk]; subst hA ho3; exact ⟨rfl, by unfold iLen; omega, by unfold iLen; omega, by unfold iLen; simp⟩
    obtain ⟨sx, hsx⟩ : ∃ x, x = sgtS a b c k' := ⟨_, rfl⟩
    have hsb := sgtS_bnd hs (k := k')
    rw [← hsx] at hsb
    have hge : A.get none [.vs 5 xs, I a, I b, I c] o (I sx) := by
      subst hA
      have : k' = 1 ∨ k' = 2 ∨ k' = 3 := by omega
      rcases this with rfl | rfl | rfl <;> subst ho3 hsx <;> rfl
    have hlg : sumLg rs ≤ 1000 := ho.le
    have hsb1 : A.sub .i64 q' sx = q' - sx := by subst hA; exact iSub_id (by omega) (by omega)
    have hsb2 : A.add .i64 q' sx = q' + sx := by subst hA; exact iAdd_id (by omega) (by omega)
    have hsb3 : A.sub .i64 t rev = t - rev := by subst hA; exact iSub_id (by omega) (by omega)
    have hsn : seenS a b c rev k t ⟨k', q', g', u', v'⟩ = (decide (q' - sx ≤ p ∧ p ≤ q' + sx) && decide (t - rev ≤ g' ∧ g' ≤ t)) := by rw [hsx, hpk]; rfl
    have htk : ∀ q, ((l.take (j + 1)).any q) = ((l.take j).any q || q ⟨k', q', g', u', v'⟩) := fun q => by
      obtain ⟨h1, he⟩ := List.getElem?_eq_some_iff.1 hx
      rw [List.take_succ_eq_append_getElem h1, he, List.any_append]; simp
    have hyes : seenS a b c rev k t ⟨k', q', g', u', v'⟩ = true → W = false := fun h1 => by
      rw [hWe, List.any_eq_true.2 ⟨_, List.mem_of_getElem? hx, h1⟩]; rfl
    have hno : seenS a b c rev k t ⟨k', q', g', u', v'⟩ = false → (l.take (j + 1)).any (seenS a b c rev k t) = false := fun h1 => by
      rw [htk, hP, h1]; rfl
    clear hWe htk
    refine Exists.intro _ (And.intro hiy ?_); cbv
    refine And.intro (hsg _) (Exists.intro 1 (And.intro (by subst hA; rfl) ?_)); cbv
    refine And.intro (hsg _) (Exists.intro o (And.intro hixo ?_)); cbv
    refine And.intro (hsg _) (Exists.intro _ (And.intro hge ?_)); cbv
    refine Exists.intro _ (And.intro hiy ?_); cbv
    intro b1 hb1; cbv
    have hb1 : b1 = decide (t - rev ≤ g' ∧ g' ≤ t) := by rw [← hsb3]; exact hb1
    rw [← hb1] at hsn
    clear hb1
    cases b1 with
    | false =>
      cbv
      rw [Bool.and_false] at hsn
      exact hB () _ _ hk1 (hno hsn) ⟨congrArg I (hadd _ hk1 (by omega)), trivial⟩ ⟨rfl, rfl, rfl, rfl, rfl, rfl, trivial⟩ (.inl rfl)
    | true =>
      cbv
      refine Exists.intro _ (And.intro hiy ?_); cbv
      refine Exists.intro _ (And.intro hiy ?_); cbv
      intro b2 hb2; cbv
      have hb2 : b2 = decide (q' - sx ≤ p ∧ p ≤ q' + sx) := by rw [← hsb1, ← hsb2]; exact hb2
      rw [← hb2, Bool.and_true] at hsn
      clear hb2
      cases b2 with
      | false =>
        cbv
        exact hB () _ _ hk1 (hno hsn) ⟨congrArg I (hadd _ hk1 (by omega)), trivial⟩ ⟨rfl, rfl, rfl, rfl, rfl, rfl, trivial⟩ (.inl rfl)
      | true =>
        cbv
        rw [hyes hsn] at h
        exact leaf h rfl rfl
  · rename_i hk0
    have hk1 : ¬ j < l.length := by have hz := hlt.symm.trans hk0; simpa using hz
    clear hk0
    have hT1 : W = true := by rw [hWe, ← List.take_of_length_le (Nat.le_of_not_lt hk1), hP]; rfl
    rw [hT1] at h
    exact leaf h rfl rfl
def eStale1 : List AV → Option ((AV → Prop) → Prop)
  | [.agg [.vs 5 xs, .lit (.int .i64 a), .lit (.int .i64 b), .lit (.int .i64 c)], .vs 5 ls, .lit (.int .i64 p), .lit (.int .i64 t)] =>
    some fun K => ∃ (rs : List Rch) (l : List Lk), xs = rs.map rcV ∧ ls = l.map lkV ∧ RoadOk rs ∧ SgtOk a b c ∧ l.length ≤ 1000000 ∧ (∀ x ∈ l, LkOk (sumLg rs) x) ∧ (0 ≤ p ∧ p < sumLg rs) ∧ (0 ≤ t ∧ t ≤ 10000) ∧ ∀ r, r = staleS (plc rs) a b c l t p.toNat → K (B r)
  | _ => none
theorem eStale1_ok : ∀ args pt, eStale1 args = some pt → ∀ (H : AHeap) (Kk : AV → AHeap → Prop), pt (fun r => Kk r H) → ACalls Try.prog 95 args H Kk := by
  intro args pt h H Kk hk
  unfold eStale1 at h
  split at h
  · cases h
    obtain ⟨rs, l, rfl, rfl, h1, h2, h3, h4, h5, h6, h7⟩ := hk
    exact p95 _ _ _ _ _ _ _ h1 h2 h3 h4 h5 h6 H (h7 _ rfl)
  · cases h
end Go.Sas
