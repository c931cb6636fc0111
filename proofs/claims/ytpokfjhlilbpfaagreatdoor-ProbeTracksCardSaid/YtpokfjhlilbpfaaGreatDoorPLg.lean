/-
Probe: functions that draw numbers, comparisons of lists.
Conditions: none.
-/
import Derived.Test.YtpokfjhlilbpfaaGreatDoorP7g
import Derived.Test.YtpokfjhlilbpfaaGreatDoorPAg
set_option linter.unusedVariables false
set_option linter.unusedSimpArgs false
namespace Go.Sas
open Go.Proofs
set_option maxRecDepth 100000
theorem wrapU_bnd (n : Int) : 0 ≤ IntKind.u64.wrap n ∧ IntKind.u64.wrap n < 18446744073709551616 := by
  simp [IntKind.wrap, IntKind.signed, IntKind.bits]
  omega
theorem iXorU_bnd (a b : Int) : 0 ≤ iXor .u64 a b ∧ iXor .u64 a b < 18446744073709551616 := wrapU_bnd _
theorem shr1 {a : Int} : iShr .u64 a 1 = a / 2 := by
  simp [iShr, IntKind.bits]
  exact Int.fdiv_eq_ediv_of_nonneg _ (by omega)
theorem d26 : Draws Tryz.prog 26 [] fun r => ∃ n, r = U n ∧ 0 ≤ n ∧ n < 18446744073709551616 := by
  refine .of rfl (by rintro r ⟨n, rfl, _⟩; rfl) fun w Kk h => ?_
  obtain ⟨A, hA⟩ : ∃ A, A = std := ⟨_, rfl⟩
  obtain ⟨F, hF⟩ : ∃ F : AV → AHeap → Prop, F = Kk := ⟨_, rfl⟩
  rw [← hF]
  refine go26 rfl (SGo_run hA ⟨[], [], [], []⟩ .nil .nil 200 fun T TD hT hTD => ?_)
  clear hT hTD
  cbv
  subst hF
  refine h _ _ ⟨_, rfl, ?_⟩
  subst hA
  exact iXorU_bnd _ _
theorem sNext_ok : ∀ rest pre Q, sNext rest = some (pre, Q) → pre () → Draws Tryz.prog 26 rest Q := by
  intro rest pre Q h hp
  unfold sNext at h
  split at h
  · cases h; exact d26
  · cases h
/-- below a number -/
theorem d24 (n : Int) (hn : n ≤ 9223372036854775807) : Draws Tryz.prog 24 [I n] fun r => ∃ k, r = I k ∧ 0 ≤ k ∧ (k < n ∨ k = 0) := by
  refine .of rfl (by rintro r ⟨n, rfl, _⟩; rfl) fun w Kk h => ?_
  obtain ⟨A, hA⟩ : ∃ A, A = std := ⟨_, rfl⟩
  refine go24 rfl (SGo_run hA ⟨[], [], [], [(26, eDraw sNext)]⟩ .nil (.cons (eDraw_ok sNext_ok) .nil) 200 fun T TD hT hTD => ?_)
  clear hT hTD
  cbv
  split <;> cbv
  · exact h _ _ ⟨0, rfl, by omega, .inr rfl⟩
  · rename_i hq
    have hq : ¬ n < 2 := by have hq : A.lt n 2 = false := hq; subst hA; simpa [std, iLt] using hq
    refine Exists.intro () (And.intro trivial ?_)
    rintro w' _ ⟨k, rfl, hk1, hk2⟩
    cbv
    have hcv : A.cv .u64 n = n := by
      subst hA
      show IntKind.u64.wrap n = n
      simp [IntKind.wrap, IntKind.signed, IntKind.bits]; omega
    refine And.intro (by show A.nz (A.cv .u64 n); rw [hcv]; subst hA; show n ≠ 0; omega) ?_
    refine h _ _ ⟨_, rfl, ?_⟩
    have hr : A.rem .u64 (A.shr .u64 k 1) (A.cv .u64 n) = (k / 2) % n := by
      rw [hcv]; subst hA
      simp only [std, shr1, iRem]
      rw [Int.tmod_eq_emod_of_nonneg (by omega)]
    show 0 ≤ A.cv .i64 (A.rem .u64 (A.shr .u64 k 1) (A.cv .u64 n)) ∧ (A.cv .i64 (A.rem .u64 (A.shr .u64 k 1) (A.cv .u64 n)) < n ∨ A.cv .i64 (A.rem .u64 (A.shr .u64 k 1) (A.cv .u64 n)) = 0)
    rw [hr]
    have h1 : 0 ≤ (k / 2) % n := Int.emod_nonneg _ (by omega)
    have h2 : (k / 2) % n < n := Int.emod_lt_of_pos _ (by omega)
    have h3 : A.cv .i64 ((k / 2) % n) = (k / 2) % n := by subst hA; exact wrap_id (by omega) (by omega)
    rw [h3]
    exact ⟨h1, .inl h2⟩
theorem sBelow_ok : ∀ rest pre Q, sBelow rest = some (pre, Q) → pre () → Draws Tryz.prog 24 rest Q := by
  intro rest pre Q h hp
  unfold sBelow at h
  split at h
  · cases h; exact d24 _ hp
  · cases h
def ed1 : ETab := [(24, eDraw sBelow)]
theorem ed1_ok : ETabOk Tryz.prog ed1 := .cons (eDraw_ok sBelow_ok) .nil
theorem d48 (a b : Int) (ha : -1000000000000 ≤ a ∧ a ≤ 1000000000000) (hb : -1000000000000 ≤ b ∧ b ≤ 1000000000000) : Draws Tryz.prog 48 [I a, I b] fun r => ∃ k, r = I k ∧ a ≤ k ∧ (k ≤ b ∨ k = a) := by
  refine .of rfl (by rintro r ⟨n, rfl, _⟩; rfl) fun w Kk h => ?_
  obtain ⟨A, hA⟩ : ∃ A, A = std := ⟨_, rfl⟩
  refine go48 rfl (SGo_run hA ⟨[], [], [], ed1⟩ .nil ed1_ok 200 fun T TD hT hTD => ?_)
  clear hT hTD
  have hd : A.add .i64 (A.sub .i64 b a) 1 = b - a + 1 := by subst hA; simp only [std]; rw [iSub_id (by omega) (by omega), iAdd_id (by omega) (by omega)]
  cbv
  refine Exists.intro () (And.intro (by show A.add .i64 (A.sub .i64 b a) 1 ≤ _; rw [hd]; omega) ?_)
  rintro w' _ ⟨k, rfl, hk1, hk2⟩
  have hk2 : k < A.add .i64 (A.sub .i64 b a) 1 ∨ k = 0 := hk2
  rw [hd] at hk2
  cbv
  have hr : A.add .i64 a k = a + k := by subst hA; exact iAdd_id (by omega) (by omega)
  refine h _ _ ⟨_, rfl, ?_⟩
  show a ≤ A.add .i64 a k ∧ (A.add .i64 a k ≤ b ∨ A.add .i64 a k = a)
  rw [hr]; omega
theorem sFrom_ok : ∀ rest pre Q, sFrom rest = some (pre, Q) → pre () → Draws Tryz.prog 48 rest Q := by
  intro rest pre Q h hp
  unfold sFrom at h
  split at h
  · cases h; exact d48 _ _ hp.1 hp.2
  · cases h
theorem d25 (xs : List AV) (h0 : xs ≠ []) (hl : xs.length < 1000000) (hI : AllI xs) : Draws Tryz.prog 25 [.vs 1 xs] fun r => ∃ k, r = I k ∧ I k ∈ xs := by
  refine .of rfl (by rintro r ⟨n, rfl, _⟩; rfl) fun w Kk h => ?_
  obtain ⟨A, hA⟩ : ∃ A, A = std := ⟨_, rfl⟩
  have hv : A.vlen xs = iLen xs.length := by subst hA; rfl
  refine go25 rfl (SGo_run hA ⟨[], [], [], ed1⟩ .nil ed1_ok 200 fun T TD hT hTD => ?_)
  clear hT hTD
  cbv
  have hpos : 0 < xs.length := List.length_pos_iff.2 h0
  split <;> cbv
  · rename_i hq
    exfalso
    have hq : A.eq (A.vlen xs) 0 = true := hq
    rw [hv] at hq
    subst hA
    simp only [std, iEq, beq_iff_eq, iLen] at hq
    omega
  · refine Exists.intro () (And.intro (by show A.vlen xs ≤ _; rw [hv]; unfold iLen; omega) ?_)
    rintro w' _ ⟨k, rfl, hk1, hk2⟩
    have hk2 : k < A.vlen xs ∨ k = 0 := hk2
    rw [hv] at hk2
    have hk3 : k.toNat < xs.length := by unfold iLen at hk2; omega
    obtain ⟨x, hx⟩ : ∃ x, xs[k.toNat]? = some x := ⟨_, List.getElem?_eq_getElem hk3⟩
    have hm := List.mem_of_getElem? hx
    obtain ⟨n, rfl⟩ := hI x hm
    cbv
    refine Exists.intro [I n] (And.intro (by subst hA; exact ⟨rfl, hk1, _, hx, rfl⟩) ?_)
    cbv
    exact h _ _ ⟨_, rfl, hm⟩
theorem sOf_ok : ∀ rest pre Q, sOf rest = some (pre, Q) → pre () → Draws Tryz.prog 25 rest Q := by
  intro rest pre Q h hp
  unfold sOf at h
  split at h
  · split at h
    · rename_i xs hx
      cases h
      intro w id H hH Kk hk
      exact (d25 xs hp.1 hp.2.1 hp.2.2 w id H hH Kk hk).wk ⟨Wk.rfl, asVs_wk hx, trivial⟩
    · cases h
  · cases h
def ed2 : ETab := [(24, eDraw sBelow), (48, eDraw sFrom), (25, eDraw sOf)]
theorem ed2_ok : ETabOk Tryz.prog ed2 := .cons (eDraw_ok sBelow_ok) (.cons (eDraw_ok sFrom_ok) (.cons (eDraw_ok sOf_ok) (.nil)))
theorem AllI_lits {l : List Int} : AllI (l.map I) := by
  intro x hx
  obtain ⟨n, _, rfl⟩ := List.mem_map.1 hx
  exact ⟨n, rfl⟩
theorem p7 (l : List Int) (hl : l.length ≤ 9223372036854775807) (H : AHeap) {Kk : AV → AHeap → Prop} (h : ∀ w, Kk (.mp H.length 0 0) (H ++ [.own 0 [U w]])) : ACalls Tryz.prog 7 [.vs 1 (l.map I)] H Kk := by
  have h1 : ACalls Tryz.prog 7 [.vs 1 (l.map I)] [] fun r H' => ∃ w, r = .mp 0 0 0 ∧ H' = [.own 0 [U w]] := by
    clear h Kk
    obtain ⟨Kk, hKk⟩ : ∃ K : AV → AHeap → Prop, K = fun r H' => ∃ w, r = .mp 0 0 0 ∧ H' = [.own 0 [U w]] := ⟨_, rfl⟩
    rw [← hKk]
    have hk : ∀ w, Kk (.mp 0 0 0) [.own 0 [U w]] := fun w => by rw [hKk]; exact ⟨w, rfl, rfl⟩
    clear hKk
    obtain ⟨xs, hxs⟩ : ∃ xs, xs = l.map I := ⟨_, rfl⟩
    rw [← hxs]
    obtain ⟨A, hA⟩ : ∃ A, A = std := ⟨_, rfl⟩
    refine go7 rfl (SGo_run hA ⟨[], [], [], [(26, eDraw sNext)]⟩ .nil (.cons (eDraw_ok sNext_ok) .nil) 200 fun T TD hT hTD => ?_)
    cbv
    rw [hT]
    refine AGo_upS l.length (fun _ (_ : Int) => True) (fun _ _ i => [(0, .vs 1 xs), (3, .mp 0 0 0), (4, I i)]) (fun _ w => [.own 0 [U w]]) 1 trivial ⟨rfl, rfl, rfl, trivial⟩ (.inl rfl) fun j w i hi hj _ Bk hB => ?_
    have hlt : A.lt i (A.vlen xs) = decide (j < l.length) := by subst hA; exact lt_len (by simp [hxs]) hi
    have hadd : ∀ N, j < N → N ≤ 9223372036854775807 → A.add .i64 i 1 = iLen (j + 1) := fun N hj hN => by subst hA; exact add_one hi hj hN
    refine SGo_run hA ⟨[], [], [], [(26, eDraw sNext)]⟩ .nil (.cons (eDraw_ok sNext_ok) .nil) 200 fun T TD hT hTD => ?_
    cbv
    split <;> cbv
    · rename_i hk1
      have hk1 : j < l.length := by have := hlt.symm.trans hk1; simpa using this
      obtain ⟨x, hx⟩ : ∃ x, l[j]? = some x := ⟨_, List.getElem?_eq_getElem hk1⟩
      have hix : A.ix 1 1 xs i [I x] := by subst hA; exact ix_map hxs hi hx rfl
      refine Exists.intro _ (And.intro hix ?_)
      cbv
      refine Exists.intro () (And.intro trivial ?_)
      rintro w2 _ ⟨q, rfl, _, _⟩
      cbv
      exact hB w2 _ _ hk1 trivial ⟨rfl, rfl, congrArg I (hadd _ hk1 (by omega)), trivial⟩ (.inl rfl)
    · exact hk w
  have h2 := ACalls.frame (H := H) [] h1 List.nodup_nil rfl (AV.ltL_nid (by rfl)) (by simp [ltH]) (fun k X hk => by simp at hk)
  rw [AV.renL_nid (by rfl)] at h2
  refine h2.mono fun r H' hx => ?_
  obtain ⟨r0, H1, ⟨w, rfl, rfl⟩, _, rfl, rfl⟩ := hx
  simpa [merge, updL, AObj.ren, AV.renL, AV.ren, more, at_] using h w
end Go.Sas
