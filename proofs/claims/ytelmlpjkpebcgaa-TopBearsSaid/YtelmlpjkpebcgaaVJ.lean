/-
Frost: true thickness, laws made of numbers: contracts.
The examples of chapters 1 and 3 hold: contracts.
Conditions: none.
-/
import Derived.Test.YtelmlpjkpebcgaaVI
import Derived.Test.YtelmlpjkpebcgaaVG
import Derived.Test.YtelmlpjkpebcgaaVH
import Derived.Test.YtelmlpjkpebcgaaJ6
set_option linter.unusedVariables false
set_option linter.unusedSimpArgs false
namespace Go.Sas
open Go.Proofs
set_option maxRecDepth 100000
structure TkOk (l : FrL) (t : IceT) : Prop where
  v : FrV l
  t : 0 ≤ t.b ∧ 0 ≤ t.w ∧ t.b + t.w ≤ 100000000
def TkQ (l : FrL) (t : IceT) (r : AV) : Prop := ∃ n, r = I (t.b + n) ∧ inS (dnS t.w l.white.1, upS t.w l.white.2) n
theorem d76 (l : FrL) (t : IceT) (ho : TkOk l t) : Draws Try.prog 76 [lwA l, trA t] (TkQ l t) := by
  obtain ⟨hl, ht⟩ := ho
  have l1 := hl.w0
  have l2 := hl.w1
  have l3 := hl.w2
  clear hl
  obtain ⟨tb, tw, tt, ts⟩ := t
  obtain ⟨g, la, cov, ⟨m1, m2⟩, so, ⟨v1, v2⟩⟩ := l
  unfold trA lwA
  unfold TkQ
  dsimp only at *
  obtain ⟨xs, hxs⟩ : ∃ xs, xs = cov.map cvV := ⟨_, rfl⟩
  have hxn : AV.nidL xs = true := by rw [hxs]; exact nid_cv cov
  rw [← hxs]
  refine .of (by simp [AV.nidL, AV.nid, hxn]) (by rintro r ⟨t', rfl, _⟩; rfl) fun w Kk h => ?_
  obtain ⟨A, hA⟩ : ∃ A, A = std := ⟨_, rfl⟩
  refine go76 rfl (SGo_run hA ⟨[], [0], [(126, eDn), (127, eUp)], [(45, eDraw sFrom)]⟩ (.cons (eDn_ok p126) (.cons (eUp_ok p127) .nil)) (.cons (eDraw_ok sFrom_ok) .nil) 200 fun T TD hT hTD => ?_)
  cbv
  refine Exists.intro () (And.intro ⟨by omega, by omega, by omega, by omega⟩ ?_)
  intro r1 hr1
  cbv
  repeat (refine And.intro (by subst hA; simp [std, Keep, SubH, ResK, isStB]) ?_; cbv)
  refine Exists.intro () (And.intro ⟨by omega, by omega, by omega, by omega⟩ ?_)
  intro r2 hr2
  have e1 := dn_le (a := tw) (p := v1) (by omega) (by omega)
  have e2 := dn_nn (a := tw) (p := v1) (by omega) (by omega)
  have e3 := up_le (a := tw) (p := v2) (by omega) (by omega)
  have e4 : r1 ≤ r2 := by rw [hr1, hr2]; exact Int.le_trans (dn_le_up _ _) (up_mono (by omega) (by omega) (by omega) (by omega))
  rw [← hr1] at e1 e2
  rw [← hr2] at e3
  cbv
  repeat (refine And.intro (by subst hA; simp [std, Keep, SubH, ResK, isStB]) ?_; cbv)
  refine Exists.intro () (And.intro (by omega) ?_)
  rintro w1' _ ⟨k, rfl, hk1, hk2⟩
  cbv
  repeat (refine And.intro (by subst hA; simp [std, Keep, SubH, ResK, isStB]) ?_; cbv)
  have hadd : A.add .i64 tb k = tb + k := by subst hA; exact iAdd_id (by omega) (by omega)
  refine h _ _ ⟨k, congrArg I hadd, ?_, ?_⟩
  · rw [← hr1]; exact hk1
  · show k ≤ upS tw v2
    rw [← hr2]; omega
/-! ### Laws -/
abbrev cvC (x : Int × Int × Int) : List AV := [I x.1, I x.2.1, I x.2.2]
theorem Elems_cv (l : List (Int × Int × Int)) : Elems 3 (l.map cvV) (l.flatMap cvC) := Elems_map (f := cvV) (g := cvC) (sz := 3) (fun _ => rfl) (fun _ => rfl) (fun _ => rfl) l
/-- covers, as they are laid one behind the other -/
structure CovG (l : List (Int × Int × Int)) (depth lo hi : Int) : Prop where
  srt : l.Pairwise fun x y => x.1 < y.1 ∧ y.2.1 ≤ x.2.1 ∧ y.2.2 ≤ x.2.2
  bnd : ∀ x ∈ l, 0 ≤ x.1 ∧ x.1 ≤ 1000 ∧ 0 ≤ x.2.1 ∧ x.2.1 ≤ x.2.2 ∧ x.2.2 ≤ 1000000
  nxt : ∀ x ∈ l, x.1 < depth ∧ lo ≤ x.2.1 ∧ hi ≤ x.2.2
  d0 : 0 ≤ depth
  d1 : depth ≤ 120 * (l.length : Int)
  e : l = [] → depth = 0
  hd : (l.headD (0, 0, 0)).1 = 0
  lo0 : 0 ≤ lo
  loh : lo ≤ hi
  hi1 : hi ≤ 1000000
theorem CovG.app {l : List (Int × Int × Int)} {depth lo hi d' lo' hi' : Int} (h : CovG l depth lo hi) (hl : l.length ≤ 5) (h1 : depth + 1 ≤ d' ∧ d' ≤ depth + 120) (h2 : 0 ≤ lo' ∧ lo' ≤ lo) (h3 : lo' ≤ hi' ∧ hi' ≤ hi) : CovG (l ++ [(depth, lo, hi)]) d' lo' hi' := by
  obtain ⟨a1, a2, a3, a4, a5, a6, a7, a8, a9, a10⟩ := h
  refine ⟨?_, ?_, ?_, by omega, by simp; omega, by simp, ?_, h2.1, h3.1, by omega⟩
  · rw [List.pairwise_append]
    refine ⟨a1, by simp, fun x hx y hy => ?_⟩
    simp at hy; subst hy
    have := a3 x hx
    simp only; omega
  · intro x hx
    rcases List.mem_append.1 hx with hx | hx
    · exact a2 x hx
    · simp at hx; subst hx; simp only; omega
  · intro x hx
    rcases List.mem_append.1 hx with hx | hx
    · have := a3 x hx; omega
    · simp at hx; subst hx; simp only; omega
  · cases l with
    | nil => simpa using a6 rfl
    | cons y r => simpa using a7
def FrQ (r : AV) : Prop := ∃ l : FrL, r = lwA l ∧ FrV l
set_option maxHeartbeats 4000000 in
theorem d65 : Draws Try.prog 65 [] FrQ := by
  refine .of rfl (by rintro r ⟨l, rfl, _⟩; simp [lwA, AV.nid, AV.nidL, nid_cv]) fun w Kk h => ACalls.frees ?_
  obtain ⟨A, hA⟩ : ∃ A, A = std := ⟨_, rfl⟩
  have hsg : ∀ g, A.sg g g := by subst hA; exact fun _ => rfl
  obtain ⟨F, hF⟩ : ∃ F, F = Frees 1 Kk := ⟨_, rfl⟩
  rw [show Frees [AObj.own 0 [U w]].length Kk = F from hF.symm]
  refine go65 rfl (SGo_run hA ⟨[], [], [], ed3⟩ .nil ed3_ok 200 fun T TD hT hTD => ?_)
  cbv
  refine Exists.intro () (And.intro (by omega) ?_)
  rintro w1 _ ⟨a1, rfl, ha1, ha1'⟩
  cbv
  refine Exists.intro () (And.intro (by omega) ?_)
  rintro w2 _ ⟨a2, rfl, ha2, ha2'⟩
  cbv
  refine Exists.intro () (And.intro ⟨by simp, by simp, by exact AllI_lits (l := [0, a1, a2])⟩ ?_)
  rintro w3 _ ⟨g, rfl, hg⟩
  have hg : g = 0 ∨ g = a1 ∨ g = a2 := by simpa using hg
  cbv
  refine Exists.intro () (And.intro (by omega) ?_)
  rintro w4 _ ⟨a3, rfl, ha3, ha3'⟩
  cbv
  refine Exists.intro () (And.intro ⟨by simp, by simp, by exact AllI_lits (l := [1, a3])⟩ ?_)
  rintro w5 _ ⟨la, rfl, hla⟩
  have hla : la = 1 ∨ la = a3 := by simpa using hla
  cbv
  refine Exists.intro () (And.intro ⟨by simp, by simp, by exact AllI_lits (l := [300000, 3000000])⟩ ?_)
  rintro w6 _ ⟨a4, rfl, ha4⟩
  have ha4 : a4 = 300000 ∨ a4 = 3000000 := by simpa using ha4
  cbv
  refine Exists.intro () (And.intro (by omega) ?_)
  rintro w7 _ ⟨m1, m2, rfl, hm1, hm2, hm3⟩
  cbv
  refine Exists.intro () (And.intro (by omega) ?_)
  rintro w8 _ ⟨so, rfl, hso, hso'⟩
  cbv
  refine Exists.intro () (And.intro (by omega) ?_)
  rintro w9 _ ⟨v1, v2, rfl, hv1, hv2, hv3⟩
  cbv
  refine Exists.intro () (And.intro (by omega) ?_)
  rintro w10 _ ⟨p1, rfl, hp1, hp1'⟩
  cbv
  refine Exists.intro () (And.intro (by omega) ?_)
  rintro w11 _ ⟨n, rfl, hn1, hn2⟩
  cbv
  rw [hT]
  refine AGo_nilcell 2 2 3 rfl rfl ?_
  refine AGo_whileE (σ := Int × Int × List (Int × Int × Int) × Int × Int × Int) [0, 2, 3, 4] (fun x => x.2.1.toNat) (fun x => CovG x.2.2.1 x.2.2.2.1 x.2.2.2.2.1 x.2.2.2.2.2 ∧ 0 ≤ x.2.1 ∧ x.2.1 + (x.2.2.1.length : Int) = n)
    (fun x => [(5, I x.2.2.2.1), (6, I x.2.1)])
    (fun x => [.own 0 [U x.1], .own 0 [I 0, I 0, .lit (.slice none 0 0), I 0, I 0, I 0, I 0, I 0], .own 0 [I g, I la, .ms 3 4 x.2.2.1.length 0 x.2.2.1.length, I m1, I m2, I so, I v1, I v2], .own 0 [I x.2.2.2.2.1, I x.2.2.2.2.2], .own x.2.2.1.length (x.2.2.1.flatMap cvC)])
    (w11, n, [], 0, p1, 1000000) ⟨⟨by simp, by simp, by simp, by simp, by simp, by simp, rfl, by simp only; omega, by simp only; omega, by simp⟩, by simp only; omega, by simp⟩ ⟨rfl, rfl, trivial⟩ (.inl rfl) ?_
  rintro ⟨w12, d, l, dep, lo, hi⟩ ⟨hC, hd0, hdl⟩ Bk hB
  dsimp only at hC hd0 hdl hB ⊢
  obtain ⟨k, hk⟩ : ∃ k, k = l.length := ⟨_, rfl⟩
  obtain ⟨cs, hcs⟩ : ∃ cs, cs = l.flatMap cvC := ⟨_, rfl⟩
  have hlen : (l.length : Int) ≤ 4 := by omega
  have hgt : A.lt 0 d = decide (0 < d) := by subst hA; rfl
  have c1 := hC.lo0
  have c2 := hC.loh
  have c3 := hC.hi1
  have c4 := hC.d0
  have c5 := hC.d1
  have hsub : A.sub .i64 d 1 = d - 1 := by subst hA; exact iSub_id (by omega) (by omega)
  have happ : A.app 3 3 24 cs 0 k [.agg [I dep, I lo, I hi]] (cs ++ [I dep, I lo, I hi]) (k + 1) := by
    subst hA; exact app_one (by rw [hcs, hk, len_flat (k := 3) (fun _ => rfl)]) rfl (by omega)
  obtain ⟨cs2, hcs2⟩ : ∃ c, c = cs ++ [I dep, I lo, I hi] := ⟨_, rfl⟩
  rw [← hcs2] at happ
  have hcs3 : cs2 = (l ++ [(dep, lo, hi)]).flatMap cvC := by rw [hcs2, hcs]; simp
  rw [← hk, ← hcs]
  have hkN : l.length ≤ 4 := by omega
  have happC : ∀ d' lo' hi', (dep + 1 ≤ d' ∧ d' ≤ dep + 120) → (0 ≤ lo' ∧ lo' ≤ lo) → (lo' ≤ hi' ∧ hi' ≤ hi) → CovG (l ++ [(dep, lo, hi)]) d' lo' hi' := fun d' lo' hi' h1 h2 h3 => hC.app (by omega) h1 h2 h3
  have hdl2 : d - 1 + (((l ++ [(dep, lo, hi)]).length : Nat) : Int) = n := by simp; omega
  have hmu : 0 < d → (d - 1).toNat < d.toNat := fun h => by omega
  have hV : ¬ 0 < d → FrV ⟨g, la, l, (m1, m2), so, (v1, v2)⟩ := fun h => by
    have hne : l ≠ [] := fun h => by subst h; simp at hdl; omega
    exact ⟨by simp only; omega, by simp only; omega, by simp only; omega, by simp only; omega, hne, by simp only; omega, hC.hd, hC.srt, fun x hx => by have := hC.bnd x hx; omega, by simp only; omega, by simp only; omega, by simp only; omega, by simp only; omega, by simp only; omega, by simp only; omega, by simp only; omega, by simp only; omega⟩
  refine SGo_run hA ⟨[4], [0, 1004], [], ed3⟩ .nil ed3_ok 200 fun T TD hT hTD => ?_
  cbv
  by_cases h0 : 0 < d
  · have hgt := hgt.trans (decide_eq_true h0)
    split <;> first | (rename_i hz; exact Bool.noConfusion (hz.symm.trans hgt)) | cbv
    refine And.intro (hsg _) (Exists.intro cs2 (Exists.intro (k + 1) (And.intro happ (And.intro rfl ?_))))
    cbv
    refine Exists.intro () (And.intro (by omega) ?_)
    rintro w13 _ ⟨e, rfl, he1, he2⟩
    have hadd : A.add .i64 dep e = dep + e := by subst hA; exact iAdd_id (by omega) (by omega)
    cbv
    refine Exists.intro () (And.intro (by omega) ?_)
    rintro w14 _ ⟨lo', rfl, hlo1, hlo2⟩
    cbv
    repeat (refine And.intro (by subst hA; simp [std, Keep, SubH, ResK, isStB]) ?_; cbv)
    refine Exists.intro () (And.intro (by omega) ?_)
    rintro w15 _ ⟨hi', rfl, hhi1, hhi2⟩
    cbv
    repeat (refine And.intro (by subst hA; simp [std, Keep, SubH, ResK, isStB]) ?_; cbv)
    have hC2 := happC (dep + e) lo' hi' (by omega) (by omega) (by omega)
    exact hB (w15, d - 1, l ++ [(dep, lo, hi)], dep + e, lo', hi') _ _ (hmu h0) ⟨hC2, by simp only; omega, hdl2⟩ ⟨congrArg I hadd, congrArg I hsub, trivial⟩ ⟨rfl, rfl, rfl, rfl, trivial⟩ (.inl (by rw [hcs3, hk]; simp))
  · have hgt := hgt.trans (decide_eq_false h0)
    split <;> first | (rename_i hz; exact Bool.noConfusion (hz.symm.trans hgt)) | cbv
    rw [hF]
    have hfin : Kk (lwA ⟨g, la, l, (m1, m2), so, (v1, v2)⟩) [.own 0 [U w12]] := h _ _ ⟨_, rfl, hV h0⟩
    refine Frees.frz 4 k 3 (l.map cvV) rfl (by rw [hcs]; exact Elems_cv l) ?_
    have e1 : AV.frz 4 k 3 (l.map cvV) (.ms 3 4 k 0 k) = .vs 3 (l.map cvV) := frz_self (by simp [hk])
    have e6 : ∀ T, Frees 1 Kk (AV.frz 4 k 3 (l.map cvV) (.agg [I g, I la, .ms 3 4 k 0 k, I m1, I m2, I so, I v1, I v2])) (.own 0 [U w12] :: T) := fun T => by
      simp only [AV.frz, AV.frzL] at e1 ⊢
      rw [e1]
      exact Frees.drop1 (by simp [AV.nid, AV.nidL, nid_cv]) hfin
    exact e6 _
end Go.Sas
namespace Go.Sas
open Go.Proofs
set_option maxRecDepth 100000
theorem p151 (l : FrL) (x : IceK) (d : DayK) (hl : FrV l) (hx : iceE x = 0) (hd : DayV d) (H : AHeap) {Kk : AV → AHeap → Prop} (h : Kk (.tup [icA (afterS l x d), I 0]) H) : ACalls Try.prog 151 [lwA l, icA x, dyA d] H Kk := by
  obtain ⟨W, hW⟩ : ∃ W, W = afterS l x d := ⟨_, rfl⟩
  rw [← hW] at h
  have hxb := (iceE_ok hx).le (k' := 100000000) (by omega)
  obtain ⟨X, hX⟩ : ∃ X : IceK, X = x := ⟨_, rfl⟩
  obtain ⟨L, hL⟩ : ∃ L : FrL, L = l := ⟨_, rfl⟩
  obtain ⟨D, hD⟩ : ∃ D : DayK, D = d := ⟨_, rfl⟩
  rw [← hX, ← hL, ← hD] at hW
  rw [← hX] at hx
  have hcv : CvOk l x d := ⟨hl, hxb, hd⟩
  obtain ⟨⟨xb1, xb2⟩, ⟨xw1, xw2⟩, ⟨xt1, xt2⟩, ⟨xs1, xs2⟩⟩ := x
  obtain ⟨g, la, cov, ⟨m1, m2⟩, so, ⟨v1, v2⟩⟩ := l
  obtain ⟨⟨d1, d2⟩, ⟨d3, d4⟩, d5, d6⟩ := d
  obtain ⟨⟨y1, y2⟩, ⟨y3, y4⟩, ⟨y5, y6⟩, ⟨y7, y8⟩⟩ := W
  unfold lwA icA dyA at *
  dsimp only at *
  obtain ⟨xs, hxs⟩ : ∃ xs, xs = cov.map cvV := ⟨_, rfl⟩
  have hxn : AV.nidL xs = true := by rw [hxs]; exact nid_cv cov
  rw [← hxs]
  refine (fun q => pureC (by simp [AV.nidL, AV.nid, hxn]) (by rfl) q H h) ?_
  clear h
  intro Kk h
  obtain ⟨A, hA⟩ : ∃ A, A = std := ⟨_, rfl⟩
  have hN0 : A.ne 0 0 = false := by subst hA; rfl
  refine go151 rfl (SGo_run hA ⟨[], [3], [(114, eChkA), (116, eIc), (117, eIc), (147, eAft)], []⟩ (.cons eChkA_ok (.cons (eIc_ok p116) (.cons (eIc_ok p117) (.cons eAft_ok .nil)))) .nil 200 fun T TD hT hTD => ?_)
  cbv
  refine Exists.intro cov (Exists.intro [⟨(d1, d2), (d3, d4), d5, d6⟩] (And.intro hxs (And.intro rfl (And.intro hl (And.intro ⟨by simp; exact hd, by simp⟩ ?_)))))
  intro r hr
  have hr : r = 0 := by rw [← hx, hX]; exact hr
  subst hr
  cbv
  split <;> first | (rename_i hz; exact Bool.noConfusion (hz.symm.trans hN0)) | cbv
  refine Exists.intro cov (And.intro hxs (And.intro hcv ?_))
  intro z1 z2 z3 z4 z5 z6 z7 z8 hz
  have hz : (⟨(z1, z2), (z3, z4), (z5, z6), (z7, z8)⟩ : IceK) = ⟨(y1, y2), (y3, y4), (y5, y6), (y7, y8)⟩ := by rw [hW, hL, hX, hD]; exact hz
  cases hz
  cbv
  repeat (refine And.intro (by subst hA; simp [std, Keep, SubH, ResK, isStB]) ?_; cbv)
  exact h
def eStep : List AV → Option ((AV → Prop) → Prop)
  | [x, y, z] => match asLw x, asIc y, asDy z with
    | some u, some v, some w => some fun K => ∃ cov, u.2.2.1 = cov.map cvV ∧ FrV (lwK u cov) ∧ iceE (icK v) = 0 ∧ DayV (dyK w) ∧ ∀ a b c d e f g h, (⟨(a, b), (c, d), (e, f), (g, h)⟩ : IceK) = afterS (lwK u cov) (icK v) (dyK w) → K (.tup [.agg [I a, I b, I c, I d, I e, I f, I g, I h], I 0])
    | _, _, _ => none
  | _ => none
theorem eStep_ok : ∀ args pt, eStep args = some pt → ∀ (H : AHeap) (Kk : AV → AHeap → Prop), pt (fun r => Kk r H) → ACalls Try.prog 151 args H Kk := by
  intro args pt h H Kk hk
  unfold eStep at h
  split at h
  · split at h
    · rename_i u v w h1 h2 h3
      cases h
      obtain ⟨cov, h4, h5, h6, h7, h8⟩ := hk
      exact (p151 _ _ _ h5 h6 h7 H (h8 _ _ _ _ _ _ _ _ rfl)).wk ⟨asLw_wk h1 h4, asIc_wk h2, asDy_wk h3, trivial⟩
    · cases h
  · cases h
def eOneT : List AV → Option ((AV → Prop) → Prop)
  | [.lit (.int .i64 n)] => some fun K => K (.agg [I n, I n])
  | _ => none
theorem p75 (n : Int) (H : AHeap) {Kk : AV → AHeap → Prop} (h : Kk (.agg [I n, I n]) H) : ACalls Try.prog 75 [I n] H Kk := by
  refine (fun q => pureC (by rfl) (by rfl) q H h) ?_
  clear h
  intro Kk h
  obtain ⟨A, hA⟩ : ∃ A, A = std := ⟨_, rfl⟩
  refine go75 rfl (SGo_run hA ⟨[], [], [], []⟩ .nil .nil 200 fun T TD hT hTD => ?_)
  cbv
  exact h
theorem eOneT_ok : ∀ args pt, eOneT args = some pt → ∀ (H : AHeap) (Kk : AV → AHeap → Prop), pt (fun r => Kk r H) → ACalls Try.prog 75 args H Kk := by
  intro args pt h H Kk hk
  unfold eOneT at h
  split at h
  · cases h; exact p75 _ H hk
  · cases h
def exL : FrL := ⟨100, 10, [(0, 1000000, 1000000)], (0, 0), 0, (0, 0)⟩
def exX : IceK := ⟨(300, 300), (0, 0), (0, 0), (0, 0)⟩
def exD : DayK := ⟨(160, 160), (0, 0), 0, false⟩
theorem exL_v : FrV exL := by
  unfold exL
  constructor <;> simp
theorem exD_v : DayV exD := by
  unfold exD
  constructor <;> simp
theorem ex_after : afterS exL exX exD = ⟨(325, 326), (0, 0), (0, 0), (0, 0)⟩ := by
  have r1 : rootS 106000 = 325 := root_uniq (by omega) (by omega) (by omega)
  have r2 : roofS 106000 = 326 := by unfold roofS; rw [r1]; simp
  simp [afterS, covdS, frozS, exL, exX, exD, thrS, thrF, dnS, upS, sqS, r1, r2]
  omega
theorem p124 (H : AHeap) {Kk : AV → AHeap → Prop} (h : Kk (B true) H) : ACalls Try.prog 124 [] H Kk := by
  refine (fun q => pureC (by rfl) (by rfl) q H h) ?_
  clear h
  intro Kk h
  obtain ⟨A, hA⟩ : ∃ A, A = std := ⟨_, rfl⟩
  have he : ∀ n, A.eq n n = true := by subst hA; intro n; simp [std, iEq]
  refine go124 rfl (SGo_run hA ⟨[], [], [(75, eOneT), (151, eStep), (152, eRoot)], []⟩ (.cons eOneT_ok (.cons eStep_ok (.cons (eRoot_ok p152) .nil))) .nil 200 fun T TD hT hTD => ?_)
  cbv
  have e0 : A.eq 0 0 = true := he 0
  refine Exists.intro [(0, 1000000, 1000000)] (And.intro rfl (And.intro exL_v (And.intro (by decide) (And.intro exD_v ?_))))
  intro a b c d e f g i hz
  have hz : (⟨(a, b), (c, d), (e, f), (g, i)⟩ : IceK) = ⟨(325, 326), (0, 0), (0, 0), (0, 0)⟩ := by rw [← ex_after]; exact hz
  cases hz
  cbv
  repeat (refine And.intro (by subst hA; simp [std, Keep, SubH, ResK, isStB]) ?_; cbv)
  split <;> first | (rename_i hz; exact Bool.noConfusion (hz.symm.trans e0)) | cbv
  have hbb : A.band (A.band (A.eq 325 325) (A.band (A.eq 326 326) true)) (A.band (A.band (A.eq 0 0) (A.band (A.eq 0 0) true)) (A.band (A.band (A.eq 0 0) (A.band (A.eq 0 0) true)) (A.band (A.band (A.eq 0 0) (A.band (A.eq 0 0) true)) true))) = true := by subst hA; rfl
  split <;> first | (rename_i hz; exact Bool.noConfusion (hz.symm.trans hbb)) | cbv
  refine Exists.intro () (And.intro (by omega) ?_)
  intro r hr
  have h9 : rootS 99 = 9 := root_uniq (by omega) (by omega) (by omega)
  have hr : r = 9 := hr.trans h9
  subst hr
  cbv
  exact leaf h (congrArg B (he 9).symm) rfl
def ex3 : Plate := ⟨(40000, 50000), [(0, 1000000)], [(0, 1000000)], 0, 0, 98, 640000, 1440000, 0, 0⟩
theorem ex3_is : PlIs ex3 (40000, 50000, [sp (0, 1000000)], [sp (0, 1000000)], 0, 0, 98, 640000, 1440000, 0, 0) := ⟨rfl, rfl, rfl, rfl, rfl, rfl, rfl, rfl, rfl, rfl⟩
theorem ex3_b : bearsS ex3 500 0 = (10000, 0) := by decide
def eT3 : List AV → Option ((AV → Prop) → Prop)
  | [] => some fun K => K (B true)
  | _ => none
theorem e124_ok : ∀ args pt, eT3 args = some pt → ∀ (H : AHeap) (Kk : AV → AHeap → Prop), pt (fun r => Kk r H) → ACalls Try.prog 124 args H Kk := by
  intro args pt h H Kk hk
  unfold eT3 at h
  split at h
  · cases h; exact p124 H hk
  · cases h
theorem p73 (H : AHeap) {Kk : AV → AHeap → Prop} (h : Kk (B true) H) : ACalls Try.prog 73 [] H Kk := by
  refine (fun q => pureC (by rfl) (by rfl) q H h) ?_
  clear h
  intro Kk h
  obtain ⟨A, hA⟩ : ∃ A, A = std := ⟨_, rfl⟩
  have he : ∀ n, A.eq n n = true := by subst hA; intro n; simp [std, iEq]
  have e0 : A.eq 0 0 = true := he 0
  refine go73 rfl (SGo_run hA ⟨[], [], [(124, eT3), (54, eBearsA)], []⟩ (.cons e124_ok (.cons (eBearsA_ok p54) .nil)) .nil 200 fun T TD hT hTD => ?_)
  cbv
  refine Exists.intro ex3 (And.intro ex3_is (And.intro (by decide) (And.intro (by decide) ?_)))
  rintro a e hae
  obtain ⟨rfl, rfl⟩ := Prod.mk.inj (hae.trans ex3_b)
  cbv
  split <;> first | (rename_i hz; exact Bool.noConfusion (hz.symm.trans e0)) | cbv
  split <;> first | (rename_i hz; exact Bool.noConfusion (hz.symm.trans (he 10000))) | cbv
  exact h
end Go.Sas
