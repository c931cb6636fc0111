/-
An abstract machine over values, part 24: loops that name only what changes; steps at objects whose number is not written out.
Frost: what melts, what is joined, what is known after a day: contracts.
Conditions: none.
-/
import Derived.Test.YtelmlpjkpebcgaaJ1
import Derived.Test.YtelmlpjkpebcgaaVD
set_option linter.unusedVariables false
set_option linter.unusedSimpArgs false
namespace Go.Sas
variable {cx : Cx} {m : Nat} {k : List AItm} {R : Env → AHeap → Prop} {e : Env} {H H' : AHeap}
/-- what some temporaries hold -/
def keepS (ks : List Nat) (G : List (Nat × AV)) : List (Nat × AV) := ks.map fun t => (t, look G t)
theorem fits_app {e : Env} : ∀ {a b : List (Nat × AV)}, Fits e a → Fits e b → Fits e (a ++ b)
  | [], _, _, h => h
  | _ :: _, _, h1, h2 => ⟨h1.1, fits_app h1.2 h2⟩
theorem fits_keep {e : Env} : ∀ (ks : List Nat), Fits e (keepS ks e.g)
  | [] => trivial
  | _ :: ks => ⟨rfl, fits_keep ks⟩
/-- a loop that counts up: what changes, and what is kept -/
theorem AGo_upE {c : ACode} {σ : Type} (ks : List Nat) (N : Nat) (Pr : Nat → σ → Prop) (S : Nat → σ → Int → List (Nat × AV)) (HS : Nat → σ → AHeap) (s0 : σ) (h0 : Pr 0 s0) (hf0 : Fits e (S 0 s0 (iLen 0))) (hH0 : HFits m (S 0 s0 (iLen 0) ++ keepS ks e.g) (HS 0 s0) H)
    (hround : ∀ (j : Nat) (s : σ) (i : Int), i = iLen j → j ≤ N → Pr j s → ∀ Bk : Env → AHeap → Prop, (∀ s' e' H', j < N → Pr (j + 1) s' → Fits e' (S (j + 1) s' (iLen (j + 1))) → Fits e' (keepS ks e.g) → HFits m (S (j + 1) s' (iLen (j + 1)) ++ keepS ks e.g) (HS (j + 1) s') H' → Bk e' H') →
      AGo cx m (.code c :: .bk Bk :: k) R ⟨[], S j s i ++ keepS ks e.g⟩ (HS j s)) : AGo cx m (.code (.loop c) :: k) R e H :=
  AGo_upS N Pr (fun j s i => S j s i ++ keepS ks e.g) HS s0 h0 (fits_app hf0 (fits_keep ks)) hH0 fun j s i hi hj hP Bk hB =>
    hround j s i hi hj hP Bk fun s' e' H' h1 h2 h3 h4 h5 => hB s' e' H' h1 h2 (fits_app h3 h4) h5
/-- a loop, by a measure: what changes, and what is kept -/
theorem AGo_whileE {c : ACode} {σ : Type} (ks : List Nat) (μ : σ → Nat) (Pr : σ → Prop) (S : σ → List (Nat × AV)) (HS : σ → AHeap) (x0 : σ) (h0 : Pr x0) (hf0 : Fits e (S x0)) (hH0 : HFits m (S x0 ++ keepS ks e.g) (HS x0) H)
    (hround : ∀ (x : σ), Pr x → ∀ Bk : Env → AHeap → Prop, (∀ y e' H', μ y < μ x → Pr y → Fits e' (S y) → Fits e' (keepS ks e.g) → HFits m (S y ++ keepS ks e.g) (HS y) H' → Bk e' H') → AGo cx m (.code c :: .bk Bk :: k) R ⟨[], S x ++ keepS ks e.g⟩ (HS x)) : AGo cx m (.code (.loop c) :: k) R e H :=
  AGo_while (σ := { x : σ // Pr x }) (fun x => μ x.1) (fun x => S x.1 ++ keepS ks e.g) (fun x => HS x.1) ⟨x0, h0⟩ (fits_app hf0 (fits_keep ks)) hH0 fun x Bk hB =>
    hround x.1 x.2 Bk fun y e' H' h1 h2 h3 h4 h5 => hB ⟨y, h2⟩ e' H' h1 (fits_app h3 h4) h5
section
variable {d : Option (Bool × Nat)} {op : AOp} {g : Option (Od × Bool)} {rest : List AOper}
end
/-- of an object nothing is said any more -/
theorem RelH.weak {st : St} {w : World} {q gg : Nat} {cs : List AV} (hH : RelH st w H) (hX : H[q]? = some (.own gg cs)) : RelH st w (H.set q (.own gg [])) := by
  refine ⟨by simp [hH.len], hH.rd, fun id l X hl hXX => ?_, hH.inj⟩
  rw [List.getElem?_set] at hXX
  split at hXX
  · rename_i he; subst he
    split at hXX
    · cases hXX
      have h := hH.obj q l _ hl hX
      simp only [ObjOk] at h ⊢
      refine ⟨h.1, fun b o r hb => ?_⟩
      obtain ⟨arr, T, us, f1, f2, _, _, _, _⟩ := h.2 b o r hb
      exact ⟨arr, T, [], f1, f2, Nat.zero_le _, RelL.nil, by simp, by simp⟩
    · cases hXX
  · exact hH.obj id l X hl hXX
theorem RelL.setAt {st : St} {a : AV} : ∀ {cs : List AV} {us : List Value} {i : Nat}, RelL st cs us → (∀ u, us[i]? = some u → RelV st a u) → RelL st (cs.set i a) us
  | [], us, i, h, _ => by simpa using h
  | c :: cs, us, 0, h, ha => by
    obtain ⟨u, us', rfl, h2, h3⟩ := h.uncons
    exact RelL.cons (ha u (by simp)) h3
  | c :: cs, us, i + 1, h, ha => by
    obtain ⟨u, us', rfl, h2, h3⟩ := h.uncons
    exact RelL.cons h2 (RelL.setAt h3 fun v hv => ha v (by simpa using hv))
theorem AGo_nilcell {cx : Cx} {m : Nat} {k : List AItm} {R : Env → AHeap → Prop} {e : Env} {H : AHeap} (id i sz : Nat) {g : Nat} {cs : List AV} (hX : H[id]? = some (.own g cs)) (hi : cs[i]? = some (.lit (.slice none 0 0)))
    (h : AGo cx m k R e (H.set id (.own g (cs.set i (.ms sz H.length 0 0 0))) ++ [.own 0 []])) : AGo cx m k R e H := by
  refine AGo_turn (fun st w hH => ?_) (h := h)
  obtain ⟨g1, g2, g3⟩ := push_none hH []
  have hid := (List.getElem?_eq_some_iff.1 hX).1
  refine ⟨_, g1, ⟨by rw [g2.len]; simp, g2.rd, fun j l X hl hY => ?_, g2.inj⟩, fun t v hv => hv.mono g1.le, fun t v hv => hv.mono g1.le, fun _ h => h, fun _ h => h⟩
  rcases Nat.lt_trichotomy j H.length with hj | hj | hj
  · rw [List.getElem?_append_left (by simpa using hj)] at hY
    by_cases he : j = id
    · subst he
      rw [List.getElem?_set_self hid] at hY; cases hY
      have h4 := g2.obj j l _ hl (by rw [List.getElem?_append_left hj]; exact hX)
      simp only [ObjOk] at h4 ⊢
      refine ⟨h4.1, fun b o r hb => ?_⟩
      obtain ⟨arr, T, us, f1, f2, f3, f4, f5, f6⟩ := h4.2 b o r hb
      refine ⟨arr, T, us, f1, f2, by simpa using f3, RelL.setAt f4 fun u hu => ?_, f5, f6⟩
      obtain ⟨u2, e1, e2⟩ := f4.get hi
      rw [hu] at e1; cases e1
      simp only [RelV] at e2 ⊢
      exact ⟨_, g3, Nat.le_refl _, fun h => absurd h (Nat.lt_irrefl _), fun _ => ⟨none, 0, e2, Nat.le_refl _, fun h => absurd h (Nat.lt_irrefl _)⟩⟩
    · rw [List.getElem?_set_ne (Ne.symm he)] at hY
      exact g2.obj j l X hl (by rw [List.getElem?_append_left hj]; exact hY)
  · subst hj
    rw [List.getElem?_append_right (by simp)] at hY
    refine g2.obj _ l X hl ?_
    rw [List.getElem?_append_right (Nat.le_refl _)]
    simpa using hY
  · rw [List.getElem?_eq_none (by simp; omega)] at hY; cases hY
end Go.Sas
namespace Go.Sas
open Go.Proofs
set_option maxRecDepth 100000
structure FzOk (l : FrL) (x : IceK) (c1 c2 : Int) : Prop where
  v : FrV l
  b : IceB 200000000 x
  c : 0 ≤ c1 ∧ c1 ≤ c2 ∧ c2 ≤ 1000
structure MlOk (l : FrL) (x : IceK) (c1 c2 : Int) : Prop where
  v : FrV l
  b : IceB 200000000 x
  c : -1000 ≤ c1 ∧ c1 ≤ c2 ∧ c2 < 0
def eFroz : List AV → Option ((AV → Prop) → Prop)
  | [x, y, .agg [.lit (.int .i64 c1), .lit (.int .i64 c2)]] => match asLw x, asIc y with
    | some u, some v => some fun K => ∃ cov, u.2.2.1 = cov.map cvV ∧ FzOk (lwK u cov) (icK v) c1 c2 ∧ ∀ a b c d e f g h, (⟨(a, b), (c, d), (e, f), (g, h)⟩ : IceK) = frozS (lwK u cov) (icK v) (c1, c2) → K (.agg [I a, I b, I c, I d, I e, I f, I g, I h])
    | _, _ => none
  | _ => none
theorem eFroz_ok : ∀ args pt, eFroz args = some pt → ∀ (H : AHeap) (Kk : AV → AHeap → Prop), pt (fun r => Kk r H) → ACalls Try.prog 161 args H Kk := by
  intro args pt h H Kk hk
  unfold eFroz at h
  split at h
  · split at h
    · rename_i u v h1 h2
      cases h
      obtain ⟨cov, h3, h4, h5⟩ := hk
      exact (p161 _ h4.v _ _ h4.b (by omega) _ _ h4.c H (h5 _ _ _ _ _ _ _ _ rfl)).wk ⟨asLw_wk h1 h3, asIc_wk h2, Wk.rfl, trivial⟩
    · cases h
  · cases h
set_option maxHeartbeats 8000000 in
theorem p162 (l : FrL) (x : IceK) (c1 c2 : Int) (hm : MlOk l x c1 c2) (H : AHeap) {Kk : AV → AHeap → Prop} (h : Kk (icA (meltS l x (c1, c2))) H) : ACalls Try.prog 162 [lwA l, icA x, .agg [I c1, I c2]] H Kk := by
  obtain ⟨W, hW⟩ : ∃ W, W = meltS l x (c1, c2) := ⟨_, rfl⟩
  rw [← hW] at h
  obtain ⟨hl, hx, hc⟩ := hm
  have b0 := hx.b0
  have b1 := hx.b1
  have w0 := hx.w0
  have w1 := hx.w1
  have t0 := hx.t0
  have t1 := hx.t1
  have s0 := hx.s0
  have s1 := hx.s1
  have hkk := hx.k
  have hm0 := hl.m0
  have hm1 := hl.m1
  have hm2 := hl.m2
  clear hx hl
  obtain ⟨⟨xb1, xb2⟩, ⟨xw1, xw2⟩, ⟨xt1, xt2⟩, ⟨xs1, xs2⟩⟩ := x
  obtain ⟨g, la, cov, ⟨m1, m2⟩, so, ⟨v1, v2⟩⟩ := l
  unfold lwA icA at *
  unfold meltS at hW
  dsimp only at *
  obtain ⟨xs, hxs⟩ : ∃ xs, xs = cov.map cvV := ⟨_, rfl⟩
  have hxn : AV.nidL xs = true := by rw [hxs]; exact nid_cv cov
  have hxl : ∀ n, AV.ltL n xs := fun n => AV.ltL_nid hxn
  rw [← hxs]
  refine (fun q => pureC (by simp [AV.nidL, AV.nid, hxn]) (by rfl) q H h) ?_
  clear h
  intro Kk h
  obtain ⟨A, hA⟩ : ∃ A, A = std := ⟨_, rfl⟩
  have hn1 : A.neg .i64 c2 = -c2 := by subst hA; exact (wrap_id (n := 0 - c2) (by omega) (by omega)).trans (by omega)
  have hn2 : A.neg .i64 c1 = -c1 := by subst hA; exact (wrap_id (n := 0 - c1) (by omega) (by omega)).trans (by omega)
  refine go162 rfl (SGo_run hA ⟨[], [], [(153, eDn), (154, eUp)], []⟩ (.cons (eDn_ok p153) (.cons (eUp_ok p154) .nil)) .nil 200 fun T TD hT hTD => ?_)
  cbv
  refine Exists.intro () (And.intro (by show NB (A.neg .i64 c2) m1; rw [hn1]; exact ⟨by omega, by omega, by omega, by omega⟩) ?_)
  intro lo hlo
  have hlo2 : lo = dnS (A.neg .i64 c2) m1 := hlo
  rw [hn1] at hlo2
  clear hlo
  cbv
  refine Exists.intro () (And.intro (by show NB (A.neg .i64 c1) m2; rw [hn2]; exact ⟨by omega, by omega, by omega, by omega⟩) ?_)
  intro hi hhi
  have hhi2 : hi = upS (A.neg .i64 c1) m2 := hhi
  rw [hn2] at hhi2
  clear hhi
  rw [← hlo2, ← hhi2] at hW
  cbv
  have e0 : 0 ≤ lo ∧ lo ≤ 1000000000000 := by
    rw [hlo2]; have := dn_nn (a := -c2) (p := m1) (by omega) (by omega)
    obtain ⟨_, l1, u1⟩ := mulB (a := -c2) (b := m1) (A := 1000) (B := 10000000) (by omega) (by omega) (by omega)
    unfold dnS at *; omega
  have e1 : 0 ≤ hi ∧ hi ≤ 1000000000000 := by
    rw [hhi2]; have := up_nn (a := -c1) (p := m2) (by omega) (by omega)
    obtain ⟨_, l1, u1⟩ := mulB (a := -c1) (b := m2) (A := 1000) (B := 10000000) (by omega) (by omega) (by omega)
    unfold upS at *; omega
  have hms : ∀ a b : Int, (0 ≤ a ∧ a ≤ 1000000000000) → (0 ≤ b ∧ b ≤ 1000000000000) → A.max 0 (A.sub .i64 a b) = max 0 (a - b) := fun a b h1 h2 => by subst hA; simp only [std, iMax_eq]; rw [iSub_id (by omega) (by omega)]
  obtain ⟨lo1, hlo1⟩ : ∃ v, v = max 0 (lo - xs2) := ⟨_, rfl⟩
  obtain ⟨hi1, hhi1⟩ : ∃ v, v = max 0 (hi - xs1) := ⟨_, rfl⟩
  obtain ⟨lo2, hlo2⟩ : ∃ v, v = max 0 (lo1 - xw2) := ⟨_, rfl⟩
  obtain ⟨hi2, hhi2⟩ : ∃ v, v = max 0 (hi1 - xw1) := ⟨_, rfl⟩
  obtain ⟨lo3, hlo3⟩ : ∃ v, v = max 0 (lo2 - xb2) := ⟨_, rfl⟩
  obtain ⟨hi3, hhi3⟩ : ∃ v, v = max 0 (hi2 - xb1) := ⟨_, rfl⟩
  obtain ⟨s1', hs1'⟩ : ∃ v, v = max 0 (xs1 - hi) := ⟨_, rfl⟩
  obtain ⟨s2', hs2'⟩ : ∃ v, v = max 0 (xs2 - lo) := ⟨_, rfl⟩
  obtain ⟨w1', hw1'⟩ : ∃ v, v = max 0 (xw1 - hi1) := ⟨_, rfl⟩
  obtain ⟨w2', hw2'⟩ : ∃ v, v = max 0 (xw2 - lo1) := ⟨_, rfl⟩
  obtain ⟨b1', hb1'⟩ : ∃ v, v = max 0 (xb1 - hi2) := ⟨_, rfl⟩
  obtain ⟨b2', hb2'⟩ : ∃ v, v = max 0 (xb2 - lo2) := ⟨_, rfl⟩
  unfold mltS at hW
  dsimp only at hW
  rw [← hs1', ← hs2', ← hlo1, ← hhi1, ← hw1', ← hw2', ← hlo2, ← hhi2, ← hb1', ← hb2'] at hW
  have E1 : A.max 0 (A.sub .i64 xs1 hi) = s1' := by rw [hms _ _ (by omega) (by omega), hs1']
  have E2 : A.max 0 (A.sub .i64 xs2 lo) = s2' := by rw [hms _ _ (by omega) (by omega), hs2']
  have E3 : A.max 0 (A.sub .i64 xw1 hi1) = w1' := by rw [hms _ _ (by omega) (by omega), hw1']
  have E4 : A.max 0 (A.sub .i64 xw2 lo1) = w2' := by rw [hms _ _ (by omega) (by omega), hw2']
  have E5 : A.max 0 (A.sub .i64 xb1 hi2) = b1' := by rw [hms _ _ (by omega) (by omega), hb1']
  have E6 : A.max 0 (A.sub .i64 xb2 lo2) = b2' := by rw [hms _ _ (by omega) (by omega), hb2']
  have L1 : A.max 0 (A.sub .i64 lo xs2) = lo1 := by rw [hms _ _ (by omega) (by omega), hlo1]
  have L2 : A.max 0 (A.sub .i64 hi xs1) = hi1 := by rw [hms _ _ (by omega) (by omega), hhi1]
  have L3 : A.max 0 (A.sub .i64 lo1 xw2) = lo2 := by rw [hms _ _ (by omega) (by omega), hlo2]
  have L4 : A.max 0 (A.sub .i64 hi1 xw1) = hi2 := by rw [hms _ _ (by omega) (by omega), hhi2]
  have L5 : A.max 0 (A.sub .i64 lo2 xb2) = lo3 := by rw [hms _ _ (by omega) (by omega), hlo3]
  have L6 : A.max 0 (A.sub .i64 hi2 xb1) = hi3 := by rw [hms _ _ (by omega) (by omega), hhi3]
  have hv : A.vlen [I 3, I 1, I 0] = 3 := by subst hA; rfl
  obtain ⟨vl, hvl⟩ : ∃ v, v = A.vlen [I 3, I 1, I 0] := ⟨_, rfl⟩
  rw [hT]
  refine AGo_upE [3, 4, 6, 9, 29, 30] 3 (fun _ (_ : Unit) => True)
    (fun j _ i => match j with | 0 => [(7, I lo), (8, I hi), (31, I i)] | 1 => [(7, I lo1), (8, I hi1), (31, I i)] | 2 => [(7, I lo2), (8, I hi2), (31, I i)] | _ => [(7, I lo3), (8, I hi3), (31, I i)])
    (fun j _ => match j with
      | 0 => [.own 0 [I g, I la, .vs 3 xs, I m1, I m2, I so, I v1, I v2], .own 0 [I xb1, I xb2, I xw1, I xw2, I xt1, I xt2, I xs1, I xs2], .own 0 [I c1, I c2], .own 0 [I 0, I 0, I 0, I 0, I 0, I 0, I 0, I 0], .own 0 [I xb1, I xb2, I xw1, I xw2, I xt1, I xt2, I xs1, I xs2]]
      | 1 => [.own 0 [I g, I la, .vs 3 xs, I m1, I m2, I so, I v1, I v2], .own 0 [I xb1, I xb2, I xw1, I xw2, I xt1, I xt2, I xs1, I xs2], .own 0 [I c1, I c2], .own 0 [I 0, I 0, I 0, I 0, I 0, I 0, I 0, I 0], .own 0 [I xb1, I xb2, I xw1, I xw2, I xt1, I xt2, I s1', I s2']]
      | 2 => [.own 0 [I g, I la, .vs 3 xs, I m1, I m2, I so, I v1, I v2], .own 0 [I xb1, I xb2, I xw1, I xw2, I xt1, I xt2, I xs1, I xs2], .own 0 [I c1, I c2], .own 0 [I 0, I 0, I 0, I 0, I 0, I 0, I 0, I 0], .own 0 [I xb1, I xb2, I w1', I w2', I xt1, I xt2, I s1', I s2']]
      | _ => [.own 0 [I g, I la, .vs 3 xs, I m1, I m2, I so, I v1, I v2], .own 0 [I xb1, I xb2, I xw1, I xw2, I xt1, I xt2, I xs1, I xs2], .own 0 [I c1, I c2], .own 0 [I 0, I 0, I 0, I 0, I 0, I 0, I 0, I 0], .own 0 [I b1', I b2', I w1', I w2', I xt1, I xt2, I s1', I s2']])
    () trivial ⟨rfl, rfl, rfl, trivial⟩ (.inl rfl) fun j _ i hi' hj _ Bk hB => ?_
  have hadd : j < 3 → A.add .i64 i 1 = iLen (j + 1) := fun hj => by subst hA; exact add_one hi' hj (by omega)
  have hlt : A.lt i (A.vlen [I 3, I 1, I 0]) = decide (j < 3) := by rw [hv]; subst hA; simp only [std, iLt, hi']; unfold iLen; rw [decide_eq_decide]; omega
  obtain rfl | rfl | rfl | rfl : j = 0 ∨ j = 1 ∨ j = 2 ∨ j = 3 := by omega
  · have hlt : A.lt i (A.vlen [I 3, I 1, I 0]) = true := hlt
    have hix : A.ix 1 1 [I 3, I 1, I 0] i [I 3] := by subst hA hi'; exact ⟨rfl, by decide, _, rfl, rfl⟩
    dsimp only
    refine SGo_run hA ⟨[], [], [], []⟩ .nil .nil 200 fun T TD hT hTD => ?_
    cbv
    split <;> first | (rename_i hz; exact Bool.noConfusion (hz.symm.trans hlt)) | cbv
    refine Exists.intro _ (And.intro hix ?_); cbv
    exact hB () _ _ (by omega) trivial ⟨congrArg I L1, congrArg I L2, congrArg I (hadd (by omega)), trivial⟩ ⟨rfl, rfl, rfl, rfl, rfl, rfl, trivial⟩ (.inl (by rw [← E1, ← E2]; try rfl))
  · have hlt : A.lt i (A.vlen [I 3, I 1, I 0]) = true := hlt
    have hix : A.ix 1 1 [I 3, I 1, I 0] i [I 1] := by subst hA hi'; exact ⟨rfl, by decide, _, rfl, rfl⟩
    dsimp only
    refine SGo_run hA ⟨[], [], [], []⟩ .nil .nil 200 fun T TD hT hTD => ?_
    cbv
    split <;> first | (rename_i hz; exact Bool.noConfusion (hz.symm.trans hlt)) | cbv
    refine Exists.intro _ (And.intro hix ?_); cbv
    exact hB () _ _ (by omega) trivial ⟨congrArg I L3, congrArg I L4, congrArg I (hadd (by omega)), trivial⟩ ⟨rfl, rfl, rfl, rfl, rfl, rfl, trivial⟩ (.inl (by rw [← E3, ← E4]; try rfl))
  · have hlt : A.lt i (A.vlen [I 3, I 1, I 0]) = true := hlt
    have hix : A.ix 1 1 [I 3, I 1, I 0] i [I 0] := by subst hA hi'; exact ⟨rfl, by decide, _, rfl, rfl⟩
    dsimp only
    refine SGo_run hA ⟨[], [], [], []⟩ .nil .nil 200 fun T TD hT hTD => ?_
    cbv
    split <;> first | (rename_i hz; exact Bool.noConfusion (hz.symm.trans hlt)) | cbv
    refine Exists.intro _ (And.intro hix ?_); cbv
    exact hB () _ _ (by omega) trivial ⟨congrArg I L5, congrArg I L6, congrArg I (hadd (by omega)), trivial⟩ ⟨rfl, rfl, rfl, rfl, rfl, rfl, trivial⟩ (.inl (by rw [← E5, ← E6]; try rfl))
  · have hlt : A.lt i (A.vlen [I 3, I 1, I 0]) = false := hlt
    dsimp only
    refine SGo_run hA ⟨[], [], [], []⟩ .nil .nil 200 fun T TD hT hTD => ?_
    cbv
    split <;> first | (rename_i hz; exact Bool.noConfusion (hz.symm.trans hlt)) | cbv
    rw [hW] at h
    exact h
end Go.Sas
