/-
Probe: functions that draw numbers, comparisons of lists.
Probe: surveys made of numbers: contract.
Conditions: none.
-/
import Derived.Test.YtafplipkiaolmaaP7
import Derived.Test.YtafplipkiaolmaaPA
import Derived.Test.YtafplipkiaolmaaPK
set_option linter.unusedVariables false
set_option linter.unusedSimpArgs false
namespace Go.Sas
open Go.Proofs
set_option maxRecDepth 100000
theorem wrapU_bnd (n : Int) : 0 ≤ IntKind.u64.wrap n ∧ IntKind.u64.wrap n < 18446744073709551616 := by
  simp [IntKind.wrap, IntKind.signed, IntKind.bits]
  omega
theorem iXorU_bnd (a b : Int) : 0 ≤ iXor .u64 a b ∧ iXor .u64 a b < 18446744073709551616 := wrapU_bnd _
theorem shr1 {a : Int} : iShr .u64 a 1 = a / 2 := by
  simp [iShr, IntKind.bits]
  exact Int.fdiv_eq_ediv_of_nonneg _ (by omega)
theorem d18 : Draws Try.prog 18 [] fun r => ∃ n, r = U n ∧ 0 ≤ n ∧ n < 18446744073709551616 := by
  refine .of rfl (by rintro r ⟨n, rfl, _⟩; rfl) fun w Kk h => ?_
  obtain ⟨A, hA⟩ : ∃ A, A = std := ⟨_, rfl⟩
  obtain ⟨F, hF⟩ : ∃ F : AV → AHeap → Prop, F = Kk := ⟨_, rfl⟩
  rw [← hF]
  refine go18 rfl (SGo_run hA ⟨[], [], [], []⟩ .nil .nil 200 fun T TD hT hTD => ?_)
  clear hT hTD
  cbv
  subst hF
  refine h _ _ ⟨_, rfl, ?_⟩
  subst hA
  exact iXorU_bnd _ _
theorem sNext_ok : ∀ rest pre Q, sNext rest = some (pre, Q) → pre () → Draws Try.prog 18 rest Q := by
  intro rest pre Q h hp
  unfold sNext at h
  split at h
  · cases h; exact d18
  · cases h
/-- below a number -/
theorem d11 (n : Int) (hn : n ≤ 9223372036854775807) : Draws Try.prog 11 [I n] fun r => ∃ k, r = I k ∧ 0 ≤ k ∧ (k < n ∨ k = 0) := by
  refine .of rfl (by rintro r ⟨n, rfl, _⟩; rfl) fun w Kk h => ?_
  obtain ⟨A, hA⟩ : ∃ A, A = std := ⟨_, rfl⟩
  refine go11 rfl (SGo_run hA ⟨[], [], [], [(18, eDraw sNext)]⟩ .nil (.cons (eDraw_ok sNext_ok) .nil) 200 fun T TD hT hTD => ?_)
  clear hT hTD
  cbv
  split <;> cbv
  · exact h _ _ ⟨0, rfl, by omega, .inr rfl⟩
  · rename_i hq
    have hq : ¬ n < 2 := by have hq : A.lt n 2 = false := hq; subst hA; simpa [std, iLt] using hq
    refine Exists.intro () (And.intro trivial ?_)
    rintro w' _ ⟨k, rfl, hk1, hk2⟩
    cbv
    have hcv : A.cv .u64 n = n := by
      subst hA
      show IntKind.u64.wrap n = n
      simp [IntKind.wrap, IntKind.signed, IntKind.bits]; omega
    refine And.intro (by show A.nz (A.cv .u64 n); rw [hcv]; subst hA; show n ≠ 0; omega) ?_
    refine h _ _ ⟨_, rfl, ?_⟩
    have hr : A.rem .u64 (A.shr .u64 k 1) (A.cv .u64 n) = (k / 2) % n := by
      rw [hcv]; subst hA
      simp only [std, shr1, iRem]
      rw [Int.tmod_eq_emod_of_nonneg (by omega)]
    show 0 ≤ A.cv .i64 (A.rem .u64 (A.shr .u64 k 1) (A.cv .u64 n)) ∧ (A.cv .i64 (A.rem .u64 (A.shr .u64 k 1) (A.cv .u64 n)) < n ∨ A.cv .i64 (A.rem .u64 (A.shr .u64 k 1) (A.cv .u64 n)) = 0)
    rw [hr]
    have h1 : 0 ≤ (k / 2) % n := Int.emod_nonneg _ (by omega)
    have h2 : (k / 2) % n < n := Int.emod_lt_of_pos _ (by omega)
    have h3 : A.cv .i64 ((k / 2) % n) = (k / 2) % n := by subst hA; exact wrap_id (by omega) (by omega)
    rw [h3]
    exact ⟨h1, .inl h2⟩
theorem sBelow_ok : ∀ rest pre Q, sBelow rest = some (pre, Q) → pre () → Draws Try.prog 11 rest Q := by
  intro rest pre Q h hp
  unfold sBelow at h
  split at h
  · cases h; exact d11 _ hp
  · cases h
def ed1 : ETab := [(11, eDraw sBelow)]
theorem ed1_ok : ETabOk Try.prog ed1 := .cons (eDraw_ok sBelow_ok) .nil
theorem d10 (a b : Int) (ha : -1000000000000 ≤ a ∧ a ≤ 1000000000000) (hb : -1000000000000 ≤ b ∧ b ≤ 1000000000000) : Draws Try.prog 10 [I a, I b] fun r => ∃ k, r = I k ∧ a ≤ k ∧ (k ≤ b ∨ k = a) := by
  refine .of rfl (by rintro r ⟨n, rfl, _⟩; rfl) fun w Kk h => ?_
  obtain ⟨A, hA⟩ : ∃ A, A = std := ⟨_, rfl⟩
  refine go10 rfl (SGo_run hA ⟨[], [], [], ed1⟩ .nil ed1_ok 200 fun T TD hT hTD => ?_)
  clear hT hTD
  have hd : A.add .i64 (A.sub .i64 b a) 1 = b - a + 1 := by subst hA; simp only [std]; rw [iSub_id (by omega) (by omega), iAdd_id (by omega) (by omega)]
  cbv
  refine Exists.intro () (And.intro (by show A.add .i64 (A.sub .i64 b a) 1 ≤ _; rw [hd]; omega) ?_)
  rintro w' _ ⟨k, rfl, hk1, hk2⟩
  have hk2 : k < A.add .i64 (A.sub .i64 b a) 1 ∨ k = 0 := hk2
  rw [hd] at hk2
  cbv
  have hr : A.add .i64 a k = a + k := by subst hA; exact iAdd_id (by omega) (by omega)
  refine h _ _ ⟨_, rfl, ?_⟩
  show a ≤ A.add .i64 a k ∧ (A.add .i64 a k ≤ b ∨ A.add .i64 a k = a)
  rw [hr]; omega
theorem sFrom_ok : ∀ rest pre Q, sFrom rest = some (pre, Q) → pre () → Draws Try.prog 10 rest Q := by
  intro rest pre Q h hp
  unfold sFrom at h
  split at h
  · cases h; exact d10 _ _ hp.1 hp.2
  · cases h
theorem d23 (n : Int) (hn : n ≤ 9223372036854775807) : Draws Try.prog 23 [I n] fun r => ∃ b, r = B b := by
  refine .of rfl (by rintro r ⟨n, rfl⟩; rfl) fun w Kk h => ?_
  obtain ⟨A, hA⟩ : ∃ A, A = std := ⟨_, rfl⟩
  refine go23 rfl (SGo_run hA ⟨[], [], [], ed1⟩ .nil ed1_ok 200 fun T TD hT hTD => ?_)
  clear hT hTD
  cbv
  refine Exists.intro () (And.intro hn ?_)
  rintro w' _ ⟨k, rfl, hk1, hk2⟩
  cbv
  exact h _ _ ⟨_, rfl⟩
theorem sYes_ok : ∀ rest pre Q, sYes rest = some (pre, Q) → pre () → Draws Try.prog 23 rest Q := by
  intro rest pre Q h hp
  unfold sYes at h
  split at h
  · cases h; exact d23 _ hp
  · cases h
theorem d19 (xs : List AV) (h0 : xs ≠ []) (hl : xs.length < 1000000) (hI : AllI xs) : Draws Try.prog 19 [.vs 1 xs] fun r => ∃ k, r = I k ∧ I k ∈ xs := by
  refine .of rfl (by rintro r ⟨n, rfl, _⟩; rfl) fun w Kk h => ?_
  obtain ⟨A, hA⟩ : ∃ A, A = std := ⟨_, rfl⟩
  have hv : A.vlen xs = iLen xs.length := by subst hA; rfl
  refine go19 rfl (SGo_run hA ⟨[], [], [], ed1⟩ .nil ed1_ok 200 fun T TD hT hTD => ?_)
  clear hT hTD
  cbv
  have hpos : 0 < xs.length := List.length_pos_iff.2 h0
  split <;> cbv
  · rename_i hq
    exfalso
    have hq : A.eq (A.vlen xs) 0 = true := hq
    rw [hv] at hq
    subst hA
    simp only [std, iEq, beq_iff_eq, iLen] at hq
    omega
  · refine Exists.intro () (And.intro (by show A.vlen xs ≤ _; rw [hv]; unfold iLen; omega) ?_)
    rintro w' _ ⟨k, rfl, hk1, hk2⟩
    have hk2 : k < A.vlen xs ∨ k = 0 := hk2
    rw [hv] at hk2
    have hk3 : k.toNat < xs.length := by unfold iLen at hk2; omega
    obtain ⟨x, hx⟩ : ∃ x, xs[k.toNat]? = some x := ⟨_, List.getElem?_eq_getElem hk3⟩
    have hm := List.mem_of_getElem? hx
    obtain ⟨n, rfl⟩ := hI x hm
    cbv
    refine Exists.intro [I n] (And.intro (by subst hA; exact ⟨rfl, hk1, _, hx, rfl⟩) ?_)
    cbv
    exact h _ _ ⟨_, rfl, hm⟩
theorem sOf_ok : ∀ rest pre Q, sOf rest = some (pre, Q) → pre () → Draws Try.prog 19 rest Q := by
  intro rest pre Q h hp
  unfold sOf at h
  split at h
  · split at h
    · rename_i xs hx
      cases h
      intro w id H hH Kk hk
      exact (d19 xs hp.1 hp.2.1 hp.2.2 w id H hH Kk hk).wk ⟨Wk.rfl, asVs_wk hx, trivial⟩
    · cases h
  · cases h
def ed2 : ETab := [(11, eDraw sBelow), (10, eDraw sFrom), (19, eDraw sOf), (23, eDraw sYes)]
theorem ed2_ok : ETabOk Try.prog ed2 := .cons (eDraw_ok sBelow_ok) (.cons (eDraw_ok sFrom_ok) (.cons (eDraw_ok sOf_ok) (.cons (eDraw_ok sYes_ok) .nil)))
theorem AllI_lits {l : List Int} : AllI (l.map I) := by
  intro x hx
  obtain ⟨n, _, rfl⟩ := List.mem_map.1 hx
  exact ⟨n, rfl⟩
def ed3 : ETab := ed2
theorem ed3_ok : ETabOk Try.prog ed3 := ed2_ok
theorem p4 (l : List Int) (hl : l.length ≤ 9223372036854775807) (H : AHeap) {Kk : AV → AHeap → Prop} (h : ∀ w, Kk (.mp H.length 0 0) (H ++ [.own 0 [U w]])) : ACalls Try.prog 4 [.vs 1 (l.map I)] H Kk := by
  have h1 : ACalls Try.prog 4 [.vs 1 (l.map I)] [] fun r H' => ∃ w, r = .mp 0 0 0 ∧ H' = [.own 0 [U w]] := by
    clear h Kk
    obtain ⟨Kk, hKk⟩ : ∃ K : AV → AHeap → Prop, K = fun r H' => ∃ w, r = .mp 0 0 0 ∧ H' = [.own 0 [U w]] := ⟨_, rfl⟩
    rw [← hKk]
    have hk : ∀ w, Kk (.mp 0 0 0) [.own 0 [U w]] := fun w => by rw [hKk]; exact ⟨w, rfl, rfl⟩
    clear hKk
    obtain ⟨xs, hxs⟩ : ∃ xs, xs = l.map I := ⟨_, rfl⟩
    rw [← hxs]
    obtain ⟨A, hA⟩ : ∃ A, A = std := ⟨_, rfl⟩
    refine go4 rfl (SGo_run hA ⟨[], [], [], [(18, eDraw sNext)]⟩ .nil (.cons (eDraw_ok sNext_ok) .nil) 200 fun T TD hT hTD => ?_)
    cbv
    rw [hT]
    refine AGo_upS l.length (fun _ (_ : Int) => True) (fun _ _ i => [(0, .vs 1 xs), (3, .mp 0 0 0), (4, I i)]) (fun _ w => [.own 0 [U w]]) 1 trivial ⟨rfl, rfl, rfl, trivial⟩ (.inl rfl) fun j w i hi hj _ Bk hB => ?_
    have hlt : A.lt i (A.vlen xs) = decide (j < l.length) := by subst hA; exact lt_len (by simp [hxs]) hi
    have hadd : ∀ N, j < N → N ≤ 9223372036854775807 → A.add .i64 i 1 = iLen (j + 1) := fun N hj hN => by subst hA; exact add_one hi hj hN
    refine SGo_run hA ⟨[], [], [], [(18, eDraw sNext)]⟩ .nil (.cons (eDraw_ok sNext_ok) .nil) 200 fun T TD hT hTD => ?_
    cbv
    split <;> cbv
    · rename_i hk1
      have hk1 : j < l.length := by have := hlt.symm.trans hk1; simpa using this
      obtain ⟨x, hx⟩ : ∃ x, l[j]? = some x := ⟨_, List.getElem?_eq_getElem hk1⟩
      have hix : A.ix 1 1 xs i [I x] := by subst hA; exact ix_map hxs hi hx rfl
      refine Exists.intro _ (And.intro hix ?_)
      cbv
      refine Exists.intro () (And.intro trivial ?_)
      rintro w2 _ ⟨q, rfl, _, _⟩
      cbv
      exact hB w2 _ _ hk1 trivial ⟨rfl, rfl, congrArg I (hadd _ hk1 (by omega)), trivial⟩ (.inl rfl)
    · exact hk w
  have h2 := ACalls.frame (H := H) [] h1 List.nodup_nil rfl (AV.ltL_nid (by rfl)) (by simp [ltH]) (fun k X hk => by simp at hk)
  rw [AV.renL_nid (by rfl)] at h2
  refine h2.mono fun r H' hx => ?_
  obtain ⟨r0, H1, ⟨w, rfl, rfl⟩, _, rfl, rfl⟩ := hx
  simpa [merge, updL, AObj.ren, AV.renL, AV.ren, more, at_] using h w
end Go.Sas
namespace Go.Sas
open Go.Proofs
set_option maxRecDepth 100000
/-- a reach made of numbers -/
def RchD (r : Rch) : Prop := 1 ≤ r.lg ∧ (0 ≤ r.sl ∧ r.sl ≤ 300) ∧ (0 ≤ r.th ∧ r.th ≤ 20) ∧ (0 ≤ r.gr ∧ r.gr ≤ 10) ∧ (0 ≤ r.ev ∧ r.ev ≤ 14)
structure SvD (most : Int) (rs : List Rch) (a b c : Int) : Prop where
  all : ∀ r ∈ rs, RchD r
  n1 : 1 ≤ rs.length
  n2 : rs.length ≤ 5
  le : sumLg rs ≤ most
  a : 0 ≤ a ∧ a ≤ 2
  b : 0 ≤ b ∧ b ≤ 2
  c : 0 ≤ c ∧ c ≤ 3
def SvQ (most : Int) (r : AV) : Prop := ∃ (rs : List Rch) (a b c : Int) (xs : List AV), r = svV (.vs 5 xs) a b c ∧ xs = rs.map rcV ∧ SvD most rs a b c
set_option maxHeartbeats 2000000 in
theorem d5 (most : Int) (hm : 1 ≤ most ∧ most ≤ 1000) : Draws Try.prog 5 [I most] (SvQ most) := by
  refine .of rfl (by rintro r ⟨rs, _, _, _, _, rfl, rfl, _⟩; simp [AV.nid, AV.nidL, nidL_rc rs]) fun w Kk h => ACalls.frees ?_
  obtain ⟨A, hA⟩ : ∃ A, A = std := ⟨_, rfl⟩
  have hsg : ∀ g, A.sg g g := by subst hA; exact fun _ => rfl
  obtain ⟨F, hF⟩ : ∃ F, F = Frees 1 Kk := ⟨_, rfl⟩
  rw [show Frees [AObj.own 0 [U w]].length Kk = F from hF.symm]
  refine go5 rfl (SGo_run hA ⟨[], [], [], ed2⟩ .nil ed2_ok 200 fun T TD hT hTD => ?_)
  cbv
  refine Exists.intro () (And.intro (by omega) ?_)
  rintro w1 _ ⟨a, rfl, ha1, ha2⟩
  cbv
  refine Exists.intro () (And.intro (by omega) ?_)
  rintro w2 _ ⟨b, rfl, hb1, hb2⟩
  cbv
  refine Exists.intro () (And.intro (by omega) ?_)
  rintro w3 _ ⟨c, rfl, hc1, hc2⟩
  cbv
  refine Exists.intro () (And.intro (by omega) ?_)
  rintro w4 _ ⟨left, rfl, hl1, hl2⟩
  cbv
  have hl2 : left ≤ most := by omega
  rw [hT]
  refine AGo_nilcell 2 0 5 rfl rfl ?_
  refine AGo_whileE (σ := Int × Int × List Rch) [0, 4, 5] (fun s => s.2.1.toNat) (fun s => 0 ≤ s.2.1 ∧ s.2.1 + sumLg s.2.2 ≤ most ∧ s.2.2.length ≤ 5 ∧ (s.2.2.length = 5 → s.2.1 = 0) ∧ (s.2.2.length = 0 → 1 ≤ s.2.1) ∧ ∀ r ∈ s.2.2, RchD r) (fun s => [(6, I s.2.1)])
    (fun s => [.own 0 [U s.1], .own 0 [NS, I 0, I 0, I 0], .own 0 [.ms 5 3 s.2.2.length 0 s.2.2.length, I a, I b, I c], .own s.2.2.length (s.2.2.flatMap rcC)]) (w4, left, []) ⟨by dsimp only; omega, by simp [sumLg]; omega, by simp, by simp, fun _ => hl1, by simp⟩ ⟨rfl, trivial⟩ (.inl rfl) fun s hP Bk hB => ?_
  obtain ⟨w5, le, rs⟩ := s
  obtain ⟨hP1, hP2, hP3, hP4, hP5, hP6⟩ := hP
  dsimp only at hP1 hP2 hP3 hP4 hP5 hP6 ⊢
  have hsl : 0 ≤ sumLg rs := sumLg_nonneg fun r hr => by have := (hP6 r hr).1; omega
  obtain ⟨n, hn⟩ : ∃ n, n = rs.length := ⟨_, rfl⟩
  obtain ⟨cc, hcc⟩ : ∃ c, c = rs.flatMap rcC := ⟨_, rfl⟩
  rw [← hn, ← hcc]
  rw [← hn] at hP3 hP4 hP5
  have hcl : cc.length = n * 5 := by rw [hcc, hn, len_flat (k := 5) (fun _ => rfl)]
  have hgt : A.lt 0 le = decide (0 < le) := by subst hA; rfl
  have heq : A.eq (A.len n) 4 = decide (n = 4) := by subst hA; show (iLen n == 4) = _; rw [Bool.eq_iff_iff]; unfold iLen; simp; omega
  refine SGo_run hA ⟨[3], [0, 1003], [], ed2⟩ .nil ed2_ok 200 fun T TD hT hTD => ?_
  cbv
  split <;> cbv
  · rename_i hz
    have hz : 0 < le := by have hz := hgt.symm.trans hz; simpa using hz
    refine Exists.intro () (And.intro (by omega) ?_)
    rintro w6 _ ⟨m0, rfl, hm1, hm2⟩
    cbv
    refine And.intro (hsg _) ?_
    cbv
    have hm2 : m0 ≤ le := by omega
    split <;> cbv
    · rename_i hz4
      have hn4 : n = 4 := of_decide_eq_true (heq.symm.trans hz4)
      refine Exists.intro () (And.intro (by omega) ?_)
      rintro w7 _ ⟨q1, rfl, hq1⟩
      cbv
      refine And.intro (by subst hA; first | (simp [std, Keep, SubH, ResK]; done) | exact .inr ⟨⟨rfl, SubH.self _⟩, trivial, .inr fun _ => ⟨rfl, SubH.self _⟩⟩ | exact .inr ⟨SubH.self _, trivial, .inr fun _ => SubH.self _⟩ | exact .inr ⟨by simp [SubH], trivial, .inl rfl⟩ | exact .inr ⟨by simp [SubH], trivial, .inr fun _ => by simp [SubH]⟩) ?_
      cbv
      refine Exists.intro () (And.intro (by omega) ?_)
      rintro w8 _ ⟨q2, rfl, hq2⟩
      cbv
      refine And.intro (by subst hA; first | (simp [std, Keep, SubH, ResK]; done) | exact .inr ⟨⟨rfl, SubH.self _⟩, trivial, .inr fun _ => ⟨rfl, SubH.self _⟩⟩ | exact .inr ⟨SubH.self _, trivial, .inr fun _ => SubH.self _⟩ | exact .inr ⟨by simp [SubH], trivial, .inl rfl⟩ | exact .inr ⟨by simp [SubH], trivial, .inr fun _ => by simp [SubH]⟩) ?_
      cbv
      refine Exists.intro () (And.intro ⟨by simp, by simp, by exact AllI_lits (l := [0, q1, q2])⟩ ?_)
      rintro w9 _ ⟨sl, rfl, hsl2⟩
      simp at hsl2
      cbv
      refine And.intro (by subst hA; first | (simp [std, Keep, SubH, ResK]; done) | exact .inr ⟨⟨rfl, SubH.self _⟩, trivial, .inr fun _ => ⟨rfl, SubH.self _⟩⟩ | exact .inr ⟨SubH.self _, trivial, .inr fun _ => SubH.self _⟩ | exact .inr ⟨by simp [SubH], trivial, .inl rfl⟩ | exact .inr ⟨by simp [SubH], trivial, .inr fun _ => by simp [SubH]⟩) ?_
      cbv
      refine Exists.intro () (And.intro (by omega) ?_)
      rintro w10 _ ⟨q3, rfl, hq3⟩
      cbv
      refine And.intro (by subst hA; first | (simp [std, Keep, SubH, ResK]; done) | exact .inr ⟨⟨rfl, SubH.self _⟩, trivial, .inr fun _ => ⟨rfl, SubH.self _⟩⟩ | exact .inr ⟨SubH.self _, trivial, .inr fun _ => SubH.self _⟩ | exact .inr ⟨by simp [SubH], trivial, .inl rfl⟩ | exact .inr ⟨by simp [SubH], trivial, .inr fun _ => by simp [SubH]⟩) ?_
      cbv
      refine Exists.intro () (And.intro ⟨by simp, by simp, by exact AllI_lits (l := [0, 1, q3])⟩ ?_)
      rintro w11 _ ⟨th, rfl, hth⟩
      simp at hth
      cbv
      refine And.intro (by subst hA; first | (simp [std, Keep, SubH, ResK]; done) | exact .inr ⟨⟨rfl, SubH.self _⟩, trivial, .inr fun _ => ⟨rfl, SubH.self _⟩⟩ | exact .inr ⟨SubH.self _, trivial, .inr fun _ => SubH.self _⟩ | exact .inr ⟨by simp [SubH], trivial, .inl rfl⟩ | exact .inr ⟨by simp [SubH], trivial, .inr fun _ => by simp [SubH]⟩) ?_
      cbv
      refine Exists.intro () (And.intro (by omega) ?_)
      rintro w12 _ ⟨q4, rfl, hq4⟩
      cbv
      refine And.intro (by subst hA; first | (simp [std, Keep, SubH, ResK]; done) | exact .inr ⟨⟨rfl, SubH.self _⟩, trivial, .inr fun _ => ⟨rfl, SubH.self _⟩⟩ | exact .inr ⟨SubH.self _, trivial, .inr fun _ => SubH.self _⟩ | exact .inr ⟨by simp [SubH], trivial, .inl rfl⟩ | exact .inr ⟨by simp [SubH], trivial, .inr fun _ => by simp [SubH]⟩) ?_
      cbv
      refine Exists.intro () (And.intro ⟨by simp, by simp, by exact AllI_lits (l := [0, 1, q4])⟩ ?_)
      rintro w13 _ ⟨gr, rfl, hgr⟩
      simp at hgr
      cbv
      refine And.intro (by subst hA; first | (simp [std, Keep, SubH, ResK]; done) | exact .inr ⟨⟨rfl, SubH.self _⟩, trivial, .inr fun _ => ⟨rfl, SubH.self _⟩⟩ | exact .inr ⟨SubH.self _, trivial, .inr fun _ => SubH.self _⟩ | exact .inr ⟨by simp [SubH], trivial, .inl rfl⟩ | exact .inr ⟨by simp [SubH], trivial, .inr fun _ => by simp [SubH]⟩) ?_
      cbv
      refine Exists.intro () (And.intro (by omega) ?_)
      rintro w14 _ ⟨ev, rfl, hev⟩
      cbv
      refine And.intro (by subst hA; first | (simp [std, Keep, SubH, ResK]; done) | exact .inr ⟨⟨rfl, SubH.self _⟩, trivial, .inr fun _ => ⟨rfl, SubH.self _⟩⟩ | exact .inr ⟨SubH.self _, trivial, .inr fun _ => SubH.self _⟩ | exact .inr ⟨by simp [SubH], trivial, .inl rfl⟩ | exact .inr ⟨by simp [SubH], trivial, .inr fun _ => by simp [SubH]⟩) ?_
      cbv
      obtain ⟨cc2, hcc2⟩ : ∃ x, x = cc ++ rcC ⟨le, sl, th, gr, ev⟩ := ⟨_, rfl⟩
      refine And.intro (hsg _) (Exists.intro cc2 (Exists.intro (n + 1) (And.intro (by subst hA; rw [hcc2]; exact app_one hcl rfl (by omega)) (And.intro rfl ?_))))
      cbv
      refine And.intro (by subst hA; first | (simp [std, Keep, SubH, ResK]; done) | exact .inr ⟨⟨rfl, SubH.self _⟩, trivial, .inr fun _ => ⟨rfl, SubH.self _⟩⟩ | exact .inr ⟨SubH.self _, trivial, .inr fun _ => SubH.self _⟩ | exact .inr ⟨by simp [SubH], trivial, .inl rfl⟩ | exact .inr ⟨by simp [SubH], trivial, .inr fun _ => by simp [SubH]⟩) ?_
      cbv
      have hsub : A.sub .i64 le le = le - le := by subst hA; exact iSub_id (by omega) (by omega)
      have hle : sumLg (rs ++ [⟨le, sl, th, gr, ev⟩]) = sumLg rs + le := by rw [sumLg_append]; simp [sumLg]
      have hlen : (rs ++ [(⟨le, sl, th, gr, ev⟩ : Rch)]).length = n + 1 := by rw [List.length_append, ← hn]; rfl
      refine hB (w14, le - le, rs ++ [⟨le, sl, th, gr, ev⟩]) _ _ (by dsimp only; omega) ⟨by dsimp only; omega, by dsimp only; omega, by dsimp only; omega, by dsimp only; omega, by dsimp only; omega, ?_⟩ ⟨congrArg I hsub, trivial⟩ ⟨rfl, rfl, rfl, trivial⟩ (.inl (by dsimp only; rw [hcc2, hcc, List.flatMap_append, List.length_append, ← hn]; rfl))
      intro r hr
      rcases List.mem_append.1 hr with hr | hr
      · exact hP6 r hr
      · simp only [List.mem_singleton] at hr; subst hr; exact ⟨by dsimp only; omega, by dsimp only; omega, by dsimp only; omega, by dsimp only; omega, by dsimp only; omega⟩
    · rename_i hz4
      have hn4 : ¬ n = 4 := of_decide_eq_false (heq.symm.trans hz4)
      refine Exists.intro () (And.intro (by omega) ?_)
      rintro w7 _ ⟨q1, rfl, hq1⟩
      cbv
      refine And.intro (by subst hA; first | (simp [std, Keep, SubH, ResK]; done) | exact .inr ⟨⟨rfl, SubH.self _⟩, trivial, .inr fun _ => ⟨rfl, SubH.self _⟩⟩ | exact .inr ⟨SubH.self _, trivial, .inr fun _ => SubH.self _⟩ | exact .inr ⟨by simp [SubH], trivial, .inl rfl⟩ | exact .inr ⟨by simp [SubH], trivial, .inr fun _ => by simp [SubH]⟩) ?_
      cbv
      refine Exists.intro () (And.intro (by omega) ?_)
      rintro w8 _ ⟨q2, rfl, hq2⟩
      cbv
      refine And.intro (by subst hA; first | (simp [std, Keep, SubH, ResK]; done) | exact .inr ⟨⟨rfl, SubH.self _⟩, trivial, .inr fun _ => ⟨rfl, SubH.self _⟩⟩ | exact .inr ⟨SubH.self _, trivial, .inr fun _ => SubH.self _⟩ | exact .inr ⟨by simp [SubH], trivial, .inl rfl⟩ | exact .inr ⟨by simp [SubH], trivial, .inr fun _ => by simp [SubH]⟩) ?_
      cbv
      refine Exists.intro () (And.intro ⟨by simp, by simp, by exact AllI_lits (l := [0, q1, q2])⟩ ?_)
      rintro w9 _ ⟨sl, rfl, hsl2⟩
      simp at hsl2
      cbv
      refine And.intro (by subst hA; first | (simp [std, Keep, SubH, ResK]; done) | exact .inr ⟨⟨rfl, SubH.self _⟩, trivial, .inr fun _ => ⟨rfl, SubH.self _⟩⟩ | exact .inr ⟨SubH.self _, trivial, .inr fun _ => SubH.self _⟩ | exact .inr ⟨by simp [SubH], trivial, .inl rfl⟩ | exact .inr ⟨by simp [SubH], trivial, .inr fun _ => by simp [SubH]⟩) ?_
      cbv
      refine Exists.intro () (And.intro (by omega) ?_)
      rintro w10 _ ⟨q3, rfl, hq3⟩
      cbv
      refine And.intro (by subst hA; first | (simp [std, Keep, SubH, ResK]; done) | exact .inr ⟨⟨rfl, SubH.self _⟩, trivial, .inr fun _ => ⟨rfl, SubH.self _⟩⟩ | exact .inr ⟨SubH.self _, trivial, .inr fun _ => SubH.self _⟩ | exact .inr ⟨by simp [SubH], trivial, .inl rfl⟩ | exact .inr ⟨by simp [SubH], trivial, .inr fun _ => by simp [SubH]⟩) ?_
      cbv
      refine Exists.intro () (And.intro ⟨by simp, by simp, by exact AllI_lits (l := [0, 1, q3])⟩ ?_)
      rintro w11 _ ⟨th, rfl, hth⟩
      simp at hth
      cbv
      refine And.intro (by subst hA; first | (simp [std, Keep, SubH, ResK]; done) | exact .inr ⟨⟨rfl, SubH.self _⟩, trivial, .inr fun _ => ⟨rfl, SubH.self _⟩⟩ | exact .inr ⟨SubH.self _, trivial, .inr fun _ => SubH.self _⟩ | exact .inr ⟨by simp [SubH], trivial, .inl rfl⟩ | exact .inr ⟨by simp [SubH], trivial, .inr fun _ => by simp [SubH]⟩) ?_
      cbv
      refine Exists.intro () (And.intro (by omega) ?_)
      rintro w12 _ ⟨q4, rfl, hq4⟩
      cbv
      refine And.intro (by subst hA; first | (simp [std, Keep, SubH, ResK]; done) | exact .inr ⟨⟨rfl, SubH.self _⟩, trivial, .inr fun _ => ⟨rfl, SubH.self _⟩⟩ | exact .inr ⟨SubH.self _, trivial, .inr fun _ => SubH.self _⟩ | exact .inr ⟨by simp [SubH], trivial, .inl rfl⟩ | exact .inr ⟨by simp [SubH], trivial, .inr fun _ => by simp [SubH]⟩) ?_
      cbv
      refine Exists.intro () (And.intro ⟨by simp, by simp, by exact AllI_lits (l := [0, 1, q4])⟩ ?_)
      rintro w13 _ ⟨gr, rfl, hgr⟩
      simp at hgr
      cbv
      refine And.intro (by subst hA; first | (simp [std, Keep, SubH, ResK]; done) | exact .inr ⟨⟨rfl, SubH.self _⟩, trivial, .inr fun _ => ⟨rfl, SubH.self _⟩⟩ | exact .inr ⟨SubH.self _, trivial, .inr fun _ => SubH.self _⟩ | exact .inr ⟨by simp [SubH], trivial, .inl rfl⟩ | exact .inr ⟨by simp [SubH], trivial, .inr fun _ => by simp [SubH]⟩) ?_
      cbv
      refine Exists.intro () (And.intro (by omega) ?_)
      rintro w14 _ ⟨ev, rfl, hev⟩
      cbv
      refine And.intro (by subst hA; first | (simp [std, Keep, SubH, ResK]; done) | exact .inr ⟨⟨rfl, SubH.self _⟩, trivial, .inr fun _ => ⟨rfl, SubH.self _⟩⟩ | exact .inr ⟨SubH.self _, trivial, .inr fun _ => SubH.self _⟩ | exact .inr ⟨by simp [SubH], trivial, .inl rfl⟩ | exact .inr ⟨by simp [SubH], trivial, .inr fun _ => by simp [SubH]⟩) ?_
      cbv
      obtain ⟨cc2, hcc2⟩ : ∃ x, x = cc ++ rcC ⟨m0, sl, th, gr, ev⟩ := ⟨_, rfl⟩
      refine And.intro (hsg _) (Exists.intro cc2 (Exists.intro (n + 1) (And.intro (by subst hA; rw [hcc2]; exact app_one hcl rfl (by omega)) (And.intro rfl ?_))))
      cbv
      refine And.intro (by subst hA; first | (simp [std, Keep, SubH, ResK]; done) | exact .inr ⟨⟨rfl, SubH.self _⟩, trivial, .inr fun _ => ⟨rfl, SubH.self _⟩⟩ | exact .inr ⟨SubH.self _, trivial, .inr fun _ => SubH.self _⟩ | exact .inr ⟨by simp [SubH], trivial, .inl rfl⟩ | exact .inr ⟨by simp [SubH], trivial, .inr fun _ => by simp [SubH]⟩) ?_
      cbv
      have hsub : A.sub .i64 le m0 = le - m0 := by subst hA; exact iSub_id (by omega) (by omega)
      have hle : sumLg (rs ++ [⟨m0, sl, th, gr, ev⟩]) = sumLg rs + m0 := by rw [sumLg_append]; simp [sumLg]
      have hlen : (rs ++ [(⟨m0, sl, th, gr, ev⟩ : Rch)]).length = n + 1 := by rw [List.length_append, ← hn]; rfl
      refine hB (w14, le - m0, rs ++ [⟨m0, sl, th, gr, ev⟩]) _ _ (by dsimp only; omega) ⟨by dsimp only; omega, by dsimp only; omega, by dsimp only; omega, by dsimp only; omega, by dsimp only; omega, ?_⟩ ⟨congrArg I hsub, trivial⟩ ⟨rfl, rfl, rfl, trivial⟩ (.inl (by dsimp only; rw [hcc2, hcc, List.flatMap_append, List.length_append, ← hn]; rfl))
      intro r hr
      rcases List.mem_append.1 hr with hr | hr
      · exact hP6 r hr
      · simp only [List.mem_singleton] at hr; subst hr; exact ⟨by dsimp only; omega, by dsimp only; omega, by dsimp only; omega, by dsimp only; omega, by dsimp only; omega⟩
  · rename_i hz
    have hz : ¬ 0 < le := by have hz := hgt.symm.trans hz; simpa using hz
    have hnn : 1 ≤ rs.length := by rw [← hn]; omega
    have hE : Elems 5 (rs.map rcV) cc := by rw [hcc]; exact Elems_map (f := rcV) (g := rcC) (sz := 5) (fun _ => rfl) (fun _ => rfl) (fun _ => rfl) rs
    rw [hF]
    have hnr := nidL_rc rs
    refine Frees.frz 3 n 5 (rs.map rcV) rfl hE ?_
    have e1 : AV.frz 3 n 5 (rs.map rcV) (.ms 5 3 n 0 n) = .vs 5 (rs.map rcV) := frz_self (by simp [hn])
    have e2 : AV.frz 3 n 5 (rs.map rcV) (aTup [.agg [.ms 5 3 n 0 n, I a, I b, I c]]) = svV (.vs 5 (rs.map rcV)) a b c := by
      show AV.agg [AV.frz 3 n 5 (rs.map rcV) (.ms 5 3 n 0 n), I a, I b, I c] = _
      rw [e1]
    rw [e2]
    refine Frees.drop1 (w := w5) (by simp [AV.nid, AV.nidL, hnr]) (h w5 _ ⟨rs, a, b, c, _, rfl, rfl, ?_⟩)
    exact ⟨hP6, hnn, by rw [← hn]; exact hP3, by omega, by omega, by omega, by omega⟩
end Go.Sas
