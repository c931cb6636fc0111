/-
What truly is borne, as the laws ask it.
Conditions: none.
-/
import Derived.Test.YtelmlpjkpebcgaaB20
import Derived.Test.YtelmlpjkpebcgaaS6
set_option linter.unusedVariables false
set_option linter.unusedSimpArgs false
namespace Go.Sas
open Go.Proofs
set_option maxRecDepth 100000
theorem p40 (a b : Int) (hs : Sm a ∧ Sm b) (H : AHeap) {Kk : AV → AHeap → Prop} (h : Kk (I (farS a b)) H) : ACalls Try.prog 40 [I a, I b] H Kk := by
  refine (fun q => pureC (by rfl) (by rfl) q H h) ?_
  clear h
  intro Kk h
  obtain ⟨A, hA⟩ : ∃ A, A = std := ⟨_, rfl⟩
  obtain ⟨W, hW⟩ : ∃ W, W = farS a b := ⟨_, rfl⟩
  rw [← hW] at h
  refine go40 rfl (SGo_run hA ⟨[], [], [], []⟩ .nil .nil 200 fun T TD hT hTD => ?_)
  clear hT hTD
  cbv
  refine leaf h (congrArg I ?_) rfl
  subst hA hW
  unfold Sm at hs
  simp (disch := omega) only [std, iSub_id, farS]
def eFarL : List AV → Option ((AV → Prop) → Prop)
  | [.lit (.int .i64 a), .lit (.int .i64 b)] => some fun K => ∃ _u : Unit, (Sm a ∧ Sm b) ∧ ∀ f, f = farS a b → K (I f)
  | _ => none
theorem eFarL_ok : ∀ args pt, eFarL args = some pt → ∀ (H : AHeap) (Kk : AV → AHeap → Prop), pt (fun r => Kk r H) → ACalls Try.prog 40 args H Kk := by
  intro args pt h H Kk hk
  unfold eFarL at h
  split at h
  · cases h; obtain ⟨_, h1, h2⟩ := hk; exact p40 _ _ h1 H (h2 _ rfl)
  · cases h
theorem p39 (l : List (Int × Int)) (n : Int) (hl : l.length ≤ 9223372036854775807) (H : AHeap) {Kk : AV → AHeap → Prop} (h : Kk (I (tab0 l n)) H) : ACalls Try.prog 39 [.vs 2 (l.map sp), I n] H Kk := by
  refine (fun q => pureC (by rfl) (by rfl) q H h) ?_
  clear h
  intro Kk h
  obtain ⟨xs, hxs⟩ : ∃ xs, xs = l.map sp := ⟨_, rfl⟩
  rw [← hxs]
  obtain ⟨A, hA⟩ : ∃ A, A = std := ⟨_, rfl⟩
  obtain ⟨W, hW⟩ : ∃ W, W = tab0 l n := ⟨_, rfl⟩
  rw [← hW] at h
  refine go39 rfl (SGo_run hA ⟨[], [], [], []⟩ .nil .nil 200 fun T TD hT hTD => ?_)
  cbv
  rw [hT]
  refine AGo_upS l.length (fun j (o : Int) => o = ((l.take j).foldl (lastF n) (0, 0)).2) (fun _ o i => [(0, .vs 2 xs), (1, I n), (4, I 0), (5, I o), (6, I i)]) (fun _ _ => []) 0 rfl ⟨rfl, rfl, rfl, rfl, rfl, trivial⟩ (.inl rfl) fun j o i hi hj hP Bk hB => ?_
  have hlt : A.lt i (A.vlen xs) = decide (j < l.length) := by subst hA; exact lt_len (by simp [hxs]) hi
  have hadd : ∀ N, j < N → N ≤ 9223372036854775807 → A.add .i64 i 1 = iLen (j + 1) := fun N hj hN => by subst hA; exact add_one hi hj hN
  refine SGo_run hA ⟨[], [], [], []⟩ .nil .nil 200 fun T TD hT hTD => ?_
  cbv
  split <;> cbv
  · rename_i hk1
    have hk1 : j < l.length := by have := hlt.symm.trans hk1; simpa using this
    obtain ⟨⟨x, y⟩, hx⟩ : ∃ x, l[j]? = some x := ⟨_, List.getElem?_eq_getElem hk1⟩
    have hix : A.ix 2 2 xs i [I x, I y] := by subst hA; exact ix_map hxs hi hx rfl
    repeat' (first | (refine Exists.intro _ (And.intro hix ?_); cbv) | (split <;> cbv))
    · rename_i hq
      have hq : x ≤ n := by have hq : A.le x n = true := hq; subst hA; simpa [std, iLe] using hq
      exact hB y _ _ hk1 (by rw [lastF_take hx]; simp [lastF, hq]) ⟨rfl, rfl, rfl, rfl, congrArg I (hadd _ hk1 (by omega)), trivial⟩ (.inl rfl)
    · rename_i hq
      have hq : ¬ x ≤ n := by have hq : A.le x n = false := hq; subst hA; simpa [std, iLe] using hq
      exact hB o _ _ hk1 (by rw [lastF_take hx]; simp only [lastF]; rw [if_neg (by simpa using hq)]; exact hP) ⟨rfl, rfl, rfl, rfl, congrArg I (hadd _ hk1 (by omega)), trivial⟩ (.inl rfl)
  · rename_i hk1
    have hk1 : ¬ j < l.length := by have := hlt.symm.trans hk1; simpa using this
    refine leaf h (congrArg I ?_) rfl
    rw [hP, hW, tab0, List.take_of_length_le (by omega)]
def eTab0 : List AV → Option ((AV → Prop) → Prop)
  | [x, .lit (.int .i64 n)] => match asVs 2 x with
    | some xs => some fun K => ∃ l, xs = l.map sp ∧ l.length ≤ 9223372036854775807 ∧ ∀ f, f = tab0 l n → K (I f)
    | none => none
  | _ => none
theorem eTab0_ok : ∀ args pt, eTab0 args = some pt → ∀ (H : AHeap) (Kk : AV → AHeap → Prop), pt (fun r => Kk r H) → ACalls Try.prog 39 args H Kk := by
  intro args pt h H Kk hk
  unfold eTab0 at h
  split at h
  · split at h
    · rename_i xs hx
      cases h
      obtain ⟨l, rfl, h1, h2⟩ := hk
      exact (p39 l _ h1 H (h2 _ rfl)).wk ⟨asVs_wk hx, Wk.rfl, trivial⟩
    · cases h
  · cases h
/-- a truth that may be -/
structure TruB (p : Plate) (places : Nat) (l : List Load) (t : Tru) : Prop where
  st : 0 ≤ t.st ∧ t.st ≤ 100000
  il : t.ice.length = places
  ib : ∀ n ∈ t.ice, 0 ≤ n ∧ n ≤ 5000
  cl : t.cr.length ≤ 50
  cb : ∀ n ∈ t.cr, 0 ≤ n ∧ n ≤ 100000
  wl : t.ws.length = l.length
  wb : ∀ n ∈ t.ws, 0 ≤ n ∧ n ≤ 200000
theorem sumT_bnd {p : Plate} (hp : PlateV p) {m : Int} : ∀ {ws : List Int} {l : List Load}, (∀ n ∈ ws, 0 ≤ n ∧ n ≤ 200000) → 0 ≤ sumT p m ws l ∧ sumT p m ws l ≤ l.length * 200000000000
  | [], l, _ => by simp [sumT]; omega
  | _ :: _, [], _ => by simp [sumT]
  | w :: ws, o :: l, h => by
    have ih := sumT_bnd hp (m := m) (ws := ws) (l := l) fun n hn => h n (by simp [hn])
    have h1 := h w (by simp)
    have hq := hp.sh.part (farS o.at_ m)
    rw [← tab0_part hp.sh (farS_nn o.at_ m)] at hq
    obtain ⟨-, a1, a2⟩ := mulB h1 hq (by omega)
    simp only [sumT, List.length_cons]
    omega
theorem sumT_take {p : Plate} {m : Int} : ∀ {ws : List Int} {l : List Load} {j : Nat} {w : Int} {o : Load}, ws[j]? = some w → l[j]? = some o → sumT p m (ws.take (j + 1)) (l.take (j + 1)) = sumT p m (ws.take j) (l.take j) + w * tab0 p.shares (farS o.at_ m)
  | [], _, j, _, _, h, _ => by simp at h
  | _ :: _, [], j, _, _, _, h => by simp at h
  | a :: ws, b :: l, 0, w, o, h, h' => by
    simp at h h'; subst h h'; simp [sumT]
  | a :: ws, b :: l, j + 1, w, o, h, h' => by
    have := sumT_take (p := p) (m := m) (ws := ws) (l := l) (j := j) (by simpa using h) (by simpa using h')
    simp only [List.take_succ_cons, sumT] at this ⊢
    omega
theorem p32 (p : Plate) {a b : Int} {xs ec : List AV} {ne ed gr lo hi sh wi : Int} (hp : PlateIs p a b xs ec ne ed gr lo hi sh wi) (hV : PlateV p) (places : Nat) (hpl : places ≤ 1000) (l : List Load) (hl : LoadsV places l) (t : Tru) (ht : TruB p places l t) (k : Nat) (x0 : Load) (hx0 : l[k]? = some x0) (H : AHeap) {Kk : AV → AHeap → Prop} (h : Kk (B (bornS p l t x0)) H) :
    ACalls Try.prog 32 [plV a b (.vs 2 xs) (.vs 2 ec) ne ed gr lo hi sh wi, .vs 4 (l.map ldV), .agg [I t.st, .vs 1 (t.ice.map I), .vs 1 (t.cr.map I), .vs 1 (t.ws.map I)], I (iLen k)] H Kk := by
  have hall := hl.up (by omega)
  have hm0 := hall _ (List.mem_of_getElem? hx0)
  have hme := (hl.all _ (List.mem_of_getElem? hx0)).at2
  have hm1 := hm0.at1
  have hm2 := hm0.at2
  have hlt0 : (x0.at_ / 100).toNat < t.ice.length := by rw [ht.il]; omega
  obtain ⟨h0, hh⟩ : ∃ x, t.ice[(x0.at_ / 100).toNat]? = some x := ⟨_, List.getElem?_eq_getElem hlt0⟩
  have hhb := ht.ib _ (List.mem_of_getElem? hh)
  have hW : bornS p l t x0 = decide (sumT p x0.at_ t.ws l * 1000000 ≤ t.st * cutS p h0 (nearT p t.cr x0.at_) * cutS p h0 (nearT p t.cr x0.at_) * tab0 p.creep x0.st) := by
    unfold bornS; rw [List.getD_eq_getElem?_getD, hh]; rfl
  have hcr := hV.cr.part x0.st
  rw [← tab0_part hV.cr hm0.s1] at hcr
  have hn : 0 ≤ ne ∧ ne ≤ 10000 := by have h1 := hV.n1; have h2 := hV.n2; rw [hp.ne] at h1 h2; exact ⟨h1, h2⟩
  have he : 0 ≤ ed ∧ ed ≤ 1000000 := by have h1 := hV.e1; have h2 := hV.e2; rw [hp.ed] at h1 h2; exact ⟨h1, h2⟩
  have hpn := hp.ne
  have hpe := hp.ed
  have hsb : ∀ j, 0 ≤ sumT p x0.at_ (t.ws.take j) (l.take j) ∧ sumT p x0.at_ (t.ws.take j) (l.take j) ≤ 6000000000000 := by
    intro j
    have h1 := sumT_bnd hV (m := x0.at_) (ws := t.ws.take j) (l := l.take j) fun n hn => ht.wb n (List.mem_of_mem_take hn)
    have h2 := hl.len
    have h3 : (l.take j).length ≤ l.length := by simp; omega
    omega
  have hst := ht.st
  have hcl := ht.cl
  have hcb := ht.cb
  have hwl := ht.wl
  have hwb := ht.wb
  have hll := hl.len
  refine (fun q => pureC (by rfl) (by rfl) q H h) ?_
  clear h
  intro Kk h
  generalize bornS p l t x0 = W at h hW
  obtain ⟨m, ⟨v1, v2⟩, st0⟩ := x0
  obtain ⟨ts, tice, tcr, tws⟩ := t
  simp only at *
  obtain ⟨ys, hys⟩ : ∃ ys, ys = l.map ldV := ⟨_, rfl⟩
  obtain ⟨ti, hti⟩ : ∃ ys, ys = tice.map I := ⟨_, rfl⟩
  obtain ⟨tc, htc⟩ : ∃ ys, ys = tcr.map I := ⟨_, rfl⟩
  obtain ⟨tw, htw⟩ : ∃ ys, ys = tws.map I := ⟨_, rfl⟩
  obtain ⟨q, hq⟩ : ∃ q : Int, q = iLen k := ⟨_, rfl⟩
  rw [← hys, ← hq, ← hti, ← htc, ← htw]
  obtain ⟨A, hA⟩ : ∃ A, A = std := ⟨_, rfl⟩
  obtain ⟨sl, hsl⟩ : ∃ sl, sl = p.shares := ⟨_, rfl⟩
  have hs : xs = sl.map sp := by rw [hsl]; exact hp.hs
  have hsl2 : sl.length ≤ 9223372036854775807 := by rw [hsl]; have := hV.sh.len; omega
  obtain ⟨cl, hcc⟩ : ∃ cl, cl = p.creep := ⟨_, rfl⟩
  have hc : ec = cl.map sp := by rw [hcc]; exact hp.hc
  have hcl2 : cl.length ≤ 9223372036854775807 := by rw [hcc]; have := hV.cr.len; omega
  have hiy : A.ix 4 4 ys q [I m, I v1, I v2, I st0] := by subst hA; exact ix_map hys hq hx0 rfl
  have hqq : A.quo .i64 m 100 = iLen (m / 100).toNat := by
    subst hA; simp only [std]; rw [iQuo_id (by omega) (by omega) (by omega)]; unfold iLen; omega
  have hii : A.ix 1 1 ti (A.quo .i64 m 100) [I h0] := by subst hA; exact ix_map hti hqq hh rfl
  refine go32 rfl (SGo_run hA ⟨[], [], [(40, eFarL), (39, eTab0)], []⟩ (.cons eFarL_ok (.cons eTab0_ok .nil)) .nil 200 fun T TD hT hTD => ?_)
  cbv
  refine Exists.intro _ (And.intro hiy ?_)
  cbv
  refine Exists.intro _ (And.intro hii ?_)
  cbv
  rw [hT]
  have hcutb : ∀ b, 0 ≤ cutS p h0 b ∧ cutS p h0 b ≤ 5000 := by
    intro b
    have h1 := cut_mono hV (a := h0) (b := 5000) (u := b) (v := false) hhb.1 hhb.2 (by simp)
    have h2 : cutS p 5000 false = 5000 := rfl
    omega
  refine AGo_upS tcr.length (fun j (s : Bool) => s = nearT p (tcr.take j) m) (fun _ s i => [(0, plV a b (.vs 2 xs) (.vs 2 ec) ne ed gr lo hi sh wi), (1, .vs 4 ys), (2, .agg [I ts, .vs 1 ti, .vs 1 tc, .vs 1 tw]), (3, I q), (4, .mp 0 0 0), (6, .mp 1 0 0), (8, B false), (9, .mp 2 0 0), (10, I h0), (11, B s), (12, I i)])
    (fun _ _ => [.own 0 [I a, I b, .vs 2 xs, .vs 2 ec, I ne, I ed, I gr, I lo, I hi, I sh, I wi], .own 0 [I ts, .vs 1 ti, .vs 1 tc, .vs 1 tw], .own 0 [I m, I v1, I v2, I st0]]) false rfl ⟨rfl, rfl, rfl, rfl, rfl, rfl, rfl, rfl, rfl, rfl, rfl, trivial⟩ (.inl rfl) fun j s i hij hj hP Bk hB => ?_
  have hlt : A.lt i (A.vlen tc) = decide (j < tcr.length) := by subst hA; exact lt_len (by simp [htc]) hij
  have hadd : ∀ N, j < N → N ≤ 9223372036854775807 → A.add .i64 i 1 = iLen (j + 1) := fun N hj hN => by subst hA; exact add_one hij hj hN
  refine SGo_run hA ⟨[], [], [(40, eFarL), (39, eTab0)], []⟩ (.cons eFarL_ok (.cons eTab0_ok .nil)) .nil 200 fun T TD hT hTD => ?_
  cbv
  split <;> cbv
  · rename_i hk1
    have hk1 : j < tcr.length := by have := hlt.symm.trans hk1; simpa using this
    obtain ⟨x, hx⟩ : ∃ x, tcr[j]? = some x := ⟨_, List.getElem?_eq_getElem hk1⟩
    have hxb := hcb x (List.mem_of_getElem? hx)
    have hix : A.ix 1 1 tc i [I x] := by subst hA; exact ix_map htc hij hx rfl
    have hnx : nearT p (tcr.take (j + 1)) m = (nearT p (tcr.take j) m || decide (farS x m ≤ ne)) := by
      unfold nearT; rw [List.take_add_one, hx, List.any_append, ← hpn]; simp
    split <;> cbv
    · rename_i hs1
      exact hB true _ _ hk1 (by rw [hnx, ← hP]; rfl) ⟨rfl, rfl, rfl, rfl, rfl, rfl, rfl, rfl, rfl, rfl, congrArg I (hadd _ hk1 (by omega)), trivial⟩ (.inl rfl)
    · refine Exists.intro _ (And.intro hix ?_)
      cbv
      refine Exists.intro () (And.intro (by unfold Sm; omega) ?_)
      rintro f hf
      cbv
      refine hB _ _ _ hk1 ?_ ⟨rfl, rfl, rfl, rfl, rfl, rfl, rfl, rfl, rfl, rfl, congrArg I (hadd _ hk1 (by omega)), trivial⟩ (.inl rfl)
      rw [hnx, ← hP, hf]
      subst hA; rfl
  · rename_i hk1
    have hk1 : ¬ j < tcr.length := by have := hlt.symm.trans hk1; simpa using this
    rw [List.take_of_length_le (by omega)] at hP
    split <;> cbv
    · rw [hT]
      have hcut : A.quo .i64 (A.mul .i64 h0 ed) 1000000 = cutS p h0 (nearT p tcr m) := by
        obtain ⟨e1, l1, u1⟩ := mulB hhb he (by omega)
        rw [← hP, cutS, hpe]
        subst hA; simp only [std, e1]; exact iQuo_id l1 (by omega) (by omega)
      obtain ⟨hh2, hhh⟩ : ∃ z, z = (A.quo .i64 (A.mul .i64 h0 ed) 1000000) := ⟨_, rfl⟩
      replace hcut := hhh.trans hcut
      refine AGo_upS l.length (fun j (s : Int) => s = sumT p m (tws.take j) (l.take j)) (fun _ s i => [(0, plV a b (.vs 2 xs) (.vs 2 ec) ne ed gr lo hi sh wi), (1, .vs 4 ys), (2, .agg [I ts, .vs 1 ti, .vs 1 tc, .vs 1 tw]), (3, I q), (4, .mp 0 0 0), (6, .mp 1 0 0), (8, B false), (9, .mp 2 0 0), (10, I hh2), (13, I s), (14, I i)])
        (fun _ _ => [.own 0 [I a, I b, .vs 2 xs, .vs 2 ec, I ne, I ed, I gr, I lo, I hi, I sh, I wi], .own 0 [I ts, .vs 1 ti, .vs 1 tc, .vs 1 tw], .own 0 [I m, I v1, I v2, I st0]]) 0 (by simp [sumT]) ⟨rfl, rfl, rfl, rfl, rfl, rfl, rfl, rfl, congrArg I hhh.symm, rfl, rfl, trivial⟩ (.inl rfl) fun j2 s2 i2 hij2 hj2 hP2 Bk2 hB2 => ?_
      have hlt2 : A.lt i2 (A.vlen ys) = decide (j2 < l.length) := by subst hA; exact lt_len (by simp [hys]) hij2
      have hadd2 : j2 < l.length → A.add .i64 i2 1 = iLen (j2 + 1) := fun hj => by subst hA; exact add_one hij2 hj (by omega)
      have hsj := hsb j2
      rw [← hP2] at hsj
      refine SGo_run hA ⟨[], [], [(40, eFarL), (39, eTab0)], []⟩ (.cons eFarL_ok (.cons eTab0_ok .nil)) .nil 200 fun T TD hT hTD => ?_
      cbv
      split <;> cbv
      · rename_i hk2
        have hk2 : j2 < l.length := by have := hlt2.symm.trans hk2; simpa using this
        obtain ⟨w, hw⟩ : ∃ x, tws[j2]? = some x := ⟨_, List.getElem?_eq_getElem (by omega)⟩
        obtain ⟨⟨x1, ⟨x2, x3⟩, x4⟩, hx⟩ : ∃ x, l[j2]? = some x := ⟨_, List.getElem?_eq_getElem hk2⟩
        have hwbb := hwb w (List.mem_of_getElem? hw)
        have hxv := hall _ (List.mem_of_getElem? hx)
        have k1 := hxv.at1
        have k2 := hxv.at2
        simp only at k1 k2
        have hixw : A.ix 1 1 tw i2 [I w] := by subst hA; exact ix_map htw hij2 hw rfl
        have hixx : A.ix 4 4 ys i2 [I x1, I x2, I x3, I x4] := by subst hA; exact ix_map hys hij2 hx rfl
        refine Exists.intro _ (And.intro hixw ?_)
        cbv
        refine Exists.intro _ (And.intro hixx ?_)
        cbv
        refine Exists.intro () (And.intro (by unfold Sm; omega) ?_)
        rintro f hf
        cbv
        refine Exists.intro sl (And.intro hs (And.intro hsl2 ?_))
        rintro g hg
        cbv
        have hst2 := sumT_take (p := p) (m := m) hw hx
        have hpb := hV.sh.part (farS x1 m)
        rw [← tab0_part hV.sh (farS_nn x1 m), ← hsl, ← hf, ← hg] at hpb
        simp only at hst2
        rw [← hsl, ← hf, ← hg, ← hP2] at hst2
        obtain ⟨m1, m2, m3⟩ := mulB hwbb hpb (by omega)
        have hval : A.add .i64 s2 (A.mul .i64 w g) = sumT p m (tws.take (j2 + 1)) (l.take (j2 + 1)) := by
          subst hA; simp only [std, m1]; rw [hst2]; exact iAdd_id (by omega) (by omega)
        exact hB2 _ _ _ hk2 hval ⟨rfl, rfl, rfl, rfl, rfl, rfl, rfl, rfl, rfl, rfl, congrArg I (hadd2 hk2), trivial⟩ (.inl rfl)
      · rename_i hk2
        have hk2 : ¬ j2 < l.length := by have := hlt2.symm.trans hk2; simpa using this
        rw [List.take_of_length_le (by omega), List.take_of_length_le (by omega)] at hP2
        refine Exists.intro cl (And.intro hc (And.intro hcl2 ?_))
        rintro g hg
        cbv
        refine leaf h (congrArg B ?_) rfl
        rw [← hcc, ← hg] at hcr hW
        rw [← hP2, ← hcut] at hW
        have hcb2 := hcutb (nearT p tcr m)
        rw [← hcut] at hcb2
        obtain ⟨e1, l1, u1⟩ := mulB hst hcb2 (by omega)
        obtain ⟨e2, l2, u2⟩ := mulB ⟨l1, u1⟩ hcb2 (by omega)
        obtain ⟨e3, l3, u3⟩ := mulB ⟨l2, u2⟩ hcr (by omega)
        have e4 : iMul .i64 s2 1000000 = s2 * 1000000 := iMul_id (by omega) (by omega)
        rw [hW]
        subst hA
        simp only [std, e1, e2, e3, e4, iLe]
    · rw [hT]
      have hcut : h0 = cutS p h0 (nearT p tcr m) := by rw [← hP]; rfl
      obtain ⟨hh2, hhh⟩ : ∃ z, z = h0 := ⟨_, rfl⟩
      replace hcut := hhh.trans hcut
      refine AGo_upS l.length (fun j (s : Int) => s = sumT p m (tws.take j) (l.take j)) (fun _ s i => [(0, plV a b (.vs 2 xs) (.vs 2 ec) ne ed gr lo hi sh wi), (1, .vs 4 ys), (2, .agg [I ts, .vs 1 ti, .vs 1 tc, .vs 1 tw]), (3, I q), (4, .mp 0 0 0), (6, .mp 1 0 0), (8, B false), (9, .mp 2 0 0), (10, I hh2), (13, I s), (14, I i)])
        (fun _ _ => [.own 0 [I a, I b, .vs 2 xs, .vs 2 ec, I ne, I ed, I gr, I lo, I hi, I sh, I wi], .own 0 [I ts, .vs 1 ti, .vs 1 tc, .vs 1 tw], .own 0 [I m, I v1, I v2, I st0]]) 0 (by simp [sumT]) ⟨rfl, rfl, rfl, rfl, rfl, rfl, rfl, rfl, congrArg I hhh.symm, rfl, rfl, trivial⟩ (.inl rfl) fun j2 s2 i2 hij2 hj2 hP2 Bk2 hB2 => ?_
      have hlt2 : A.lt i2 (A.vlen ys) = decide (j2 < l.length) := by subst hA; exact lt_len (by simp [hys]) hij2
      have hadd2 : j2 < l.length → A.add .i64 i2 1 = iLen (j2 + 1) := fun hj => by subst hA; exact add_one hij2 hj (by omega)
      have hsj := hsb j2
      rw [← hP2] at hsj
      refine SGo_run hA ⟨[], [], [(40, eFarL), (39, eTab0)], []⟩ (.cons eFarL_ok (.cons eTab0_ok .nil)) .nil 200 fun T TD hT hTD => ?_
      cbv
      split <;> cbv
      · rename_i hk2
        have hk2 : j2 < l.length := by have := hlt2.symm.trans hk2; simpa using this
        obtain ⟨w, hw⟩ : ∃ x, tws[j2]? = some x := ⟨_, List.getElem?_eq_getElem (by omega)⟩
        obtain ⟨⟨x1, ⟨x2, x3⟩, x4⟩, hx⟩ : ∃ x, l[j2]? = some x := ⟨_, List.getElem?_eq_getElem hk2⟩
        have hwbb := hwb w (List.mem_of_getElem? hw)
        have hxv := hall _ (List.mem_of_getElem? hx)
        have k1 := hxv.at1
        have k2 := hxv.at2
        simp only at k1 k2
        have hixw : A.ix 1 1 tw i2 [I w] := by subst hA; exact ix_map htw hij2 hw rfl
        have hixx : A.ix 4 4 ys i2 [I x1, I x2, I x3, I x4] := by subst hA; exact ix_map hys hij2 hx rfl
        refine Exists.intro _ (And.intro hixw ?_)
        cbv
        refine Exists.intro _ (And.intro hixx ?_)
        cbv
        refine Exists.intro () (And.intro (by unfold Sm; omega) ?_)
        rintro f hf
        cbv
        refine Exists.intro sl (And.intro hs (And.intro hsl2 ?_))
        rintro g hg
        cbv
        have hst2 := sumT_take (p := p) (m := m) hw hx
        have hpb := hV.sh.part (farS x1 m)
        rw [← tab0_part hV.sh (farS_nn x1 m), ← hsl, ← hf, ← hg] at hpb
        simp only at hst2
        rw [← hsl, ← hf, ← hg, ← hP2] at hst2
        obtain ⟨m1, m2, m3⟩ := mulB hwbb hpb (by omega)
        have hval : A.add .i64 s2 (A.mul .i64 w g) = sumT p m (tws.take (j2 + 1)) (l.take (j2 + 1)) := by
          subst hA; simp only [std, m1]; rw [hst2]; exact iAdd_id (by omega) (by omega)
        exact hB2 _ _ _ hk2 hval ⟨rfl, rfl, rfl, rfl, rfl, rfl, rfl, rfl, rfl, rfl, congrArg I (hadd2 hk2), trivial⟩ (.inl rfl)
      · rename_i hk2
        have hk2 : ¬ j2 < l.length := by have := hlt2.symm.trans hk2; simpa using this
        rw [List.take_of_length_le (by omega), List.take_of_length_le (by omega)] at hP2
        refine Exists.intro cl (And.intro hc (And.intro hcl2 ?_))
        rintro g hg
        cbv
        refine leaf h (congrArg B ?_) rfl
        rw [← hcc, ← hg] at hcr hW
        rw [← hP2, ← hcut] at hW
        have hcb2 := hcutb (nearT p tcr m)
        rw [← hcut] at hcb2
        obtain ⟨e1, l1, u1⟩ := mulB hst hcb2 (by omega)
        obtain ⟨e2, l2, u2⟩ := mulB ⟨l1, u1⟩ hcb2 (by omega)
        obtain ⟨e3, l3, u3⟩ := mulB ⟨l2, u2⟩ hcr (by omega)
        have e4 : iMul .i64 s2 1000000 = s2 * 1000000 := iMul_id (by omega) (by omega)
        rw [hW]
        subst hA
        simp only [std, e1, e2, e3, e4, iLe]
end Go.Sas
