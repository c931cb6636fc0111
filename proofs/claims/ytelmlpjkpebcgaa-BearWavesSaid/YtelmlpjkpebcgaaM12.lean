/-
The law of the verdicts on loads answers true.
What truly is borne, as the laws ask it.
Roads that are drawn whole, and truths of them.
The law of what truly is answers true.
Conditions: none.
-/
import Derived.Test.YtelmlpjkpebcgaaM10
import Derived.Test.YtelmlpjkpebcgaaM11
import Derived.Test.YtelmlpjkpebcgaaNT5
import Derived.Test.YtelmlpjkpebcgaaM6
set_option linter.unusedVariables false
set_option linter.unusedSimpArgs false
namespace Go.Sas
open Go.Proofs
set_option maxRecDepth 100000
theorem p18 (a b : Int) (xs ec : List AV) (ne ed gr lo hi sh wi : Int) (H : AHeap) {Kk : AV → AHeap → Prop} (h : ∀ q, Kk (B q) H) : ACalls Try.prog 18 [plV a b (.vs 2 xs) (.vs 2 ec) ne ed gr lo hi sh wi] H Kk := by
  have h1 : ACalls Try.prog 18 [plV a b (.vs 2 xs) (.vs 2 ec) ne ed gr lo hi sh wi] [] fun r H' => H' = [] ∧ ∃ q, r = B q := by
    clear h Kk
    obtain ⟨Kk, hKk⟩ : ∃ K : AV → AHeap → Prop, K = fun r H' => H' = [] ∧ ∃ q, r = B q := ⟨_, rfl⟩
    rw [← hKk]
    obtain ⟨A, hA⟩ : ∃ A, A = std := ⟨_, rfl⟩
    refine go18 rfl (SGo_run hA ⟨[], [], [], []⟩ .nil .nil 200 fun T TD hT hTD => ?_)
    clear hT hTD
    cbv
    split <;> cbv
    all_goals (rw [hKk]; exact ⟨rfl, _, rfl⟩)
  have h2 := ACalls.frame (H := H) [] h1 List.nodup_nil rfl (AV.ltL_nid (by rfl)) (by simp [ltH]) (fun k X hk => by simp at hk)
  rw [AV.renL_nid (by rfl)] at h2
  refine h2.mono fun r H' hx => ?_
  obtain ⟨r0, H1, ⟨rfl, q, rfl⟩, _, rfl, rfl⟩ := hx
  simpa [merge, updL, AV.ren] using h q
def eBig : List AV → Option ((AV → Prop) → Prop)
  | [pl] => match asPl pl with
    | some _ => some fun K => ∀ q, K (B q)
    | none => none
  | _ => none
theorem eBig_ok : ∀ args pt, eBig args = some pt → ∀ (H : AHeap) (Kk : AV → AHeap → Prop), pt (fun r => Kk r H) → ACalls Try.prog 18 args H Kk := by
  intro args pt h H Kk hk
  unfold eBig at h
  split at h
  · split at h
    · rename_i x hy
      cases h
      obtain ⟨a, b, xs, ec, ne, ed, gr, lo, hi, sh, wi⟩ := x
      exact (p18 a b xs ec ne ed gr lo hi sh wi H hk).wk ⟨asPl_wk hy, trivial⟩
    · cases h
  · cases h
def eSeed : List AV → AHeap → Option PT
  | [x], H => match asVs 1 x with
    | some xs => some fun K => ∃ l : List Int, (xs = l.map I ∧ l.length ≤ 9223372036854775807) ∧ ∀ w, K (.mp H.length 0 0) (H ++ [.own 0 [U w]])
    | none => none
  | _, _ => none
theorem eSeed_ok : ∀ args H pt, eSeed args H = some pt → ∀ (Kk : AV → AHeap → Prop), pt Kk → ACalls Try.prog 20 args H Kk := by
  intro args H pt h Kk hk
  unfold eSeed at h
  split at h
  · split at h
    · rename_i xs hx
      cases h
      obtain ⟨l, ⟨rfl, b⟩, h1⟩ := hk
      exact (p20 l b H h1).wk ⟨asVs_wk hx, trivial⟩
    · cases h
  · cases h
def sBeds : List AV → Option ((Unit → Prop) × (AV → Prop))
  | [.lit (.int .i64 n)] => some (fun _ => 1 ≤ n ∧ n ≤ 1000, LsQ 2 sp fun l => (1 ≤ iLen l.length ∧ iLen l.length ≤ n) ∧ ∀ x ∈ l, 0 ≤ x.1 ∧ x.1 ≤ x.2 ∧ x.2 ≤ 1500)
  | _ => none
def sCracks : List AV → Option ((Unit → Prop) × (AV → Prop))
  | [.lit (.int .i64 q), .lit (.int .i64 n)] => some (fun _ => (1 ≤ q ∧ q ≤ 1000) ∧ 0 ≤ n ∧ n ≤ 1000, LsQ 2 sp fun l => iLen l.length ≤ n ∧ ∀ x ∈ l, 0 ≤ x.1 ∧ x.1 ≤ 100 * q - 1 ∧ x.1 ≤ x.2 ∧ x.2 ≤ x.1 + 30)
  | _ => none
def sLoads : List AV → Option ((Unit → Prop) × (AV → Prop))
  | [.lit (.int .i64 q), .lit (.int .i64 n)] => some (fun _ => (1 ≤ q ∧ q ≤ 1000) ∧ 0 ≤ n ∧ n ≤ 1000, LsQ 4 ldV fun l => iLen l.length ≤ n ∧ ∀ x ∈ l, LoadV q x)
  | _ => none
theorem sBeds_ok : ∀ rest pre Q, sBeds rest = some (pre, Q) → pre () → Draws Try.prog 22 rest Q := by
  intro rest pre Q h hp
  unfold sBeds at h
  split at h
  · cases h; exact d22 _ hp
  · cases h
theorem sCracks_ok : ∀ rest pre Q, sCracks rest = some (pre, Q) → pre () → Draws Try.prog 23 rest Q := by
  intro rest pre Q h hp
  unfold sCracks at h
  split at h
  · cases h; exact d23 _ _ hp.1 hp.2
  · cases h
theorem sLoads_ok : ∀ rest pre Q, sLoads rest = some (pre, Q) → pre () → Draws Try.prog 24 rest Q := by
  intro rest pre Q h hp
  unfold sLoads at h
  split at h
  · cases h; exact d24 _ _ hp.1 hp.2
  · cases h
def edl : ETab := (20, eSeed) :: (21, eDraw sPlate) :: (22, eDraw sBeds) :: (23, eDraw sCracks) :: (24, eDraw sLoads) :: ed3
theorem edl_ok : ETabOk Try.prog edl := .cons eSeed_ok (.cons (eDraw_ok sPlate_ok) (.cons (eDraw_ok sBeds_ok) (.cons (eDraw_ok sCracks_ok) (.cons (eDraw_ok sLoads_ok) ed3_ok))))
end Go.Sas
namespace Go.Sas
open Go.Proofs
set_option maxRecDepth 100000
theorem p40 (a b : Int) (hs : Sm a ∧ Sm b) (H : AHeap) {Kk : AV → AHeap → Prop} (h : Kk (I (farS a b)) H) : ACalls Try.prog 40 [I a, I b] H Kk := by
  refine (fun q => pureC (by rfl) (by rfl) q H h) ?_
  clear h
  intro Kk h
  obtain ⟨A, hA⟩ : ∃ A, A = std := ⟨_, rfl⟩
  obtain ⟨W, hW⟩ : ∃ W, W = farS a b := ⟨_, rfl⟩
  rw [← hW] at h
  refine go40 rfl (SGo_run hA ⟨[], [], [], []⟩ .nil .nil 200 fun T TD hT hTD => ?_)
  clear hT hTD
  cbv
  refine leaf h (congrArg I ?_) rfl
  subst hA hW
  unfold Sm at hs
  simp (disch := omega) only [std, iSub_id, farS]
def eFarL : List AV → Option ((AV → Prop) → Prop)
  | [.lit (.int .i64 a), .lit (.int .i64 b)] => some fun K => ∃ _u : Unit, (Sm a ∧ Sm b) ∧ ∀ f, f = farS a b → K (I f)
  | _ => none
theorem eFarL_ok : ∀ args pt, eFarL args = some pt → ∀ (H : AHeap) (Kk : AV → AHeap → Prop), pt (fun r => Kk r H) → ACalls Try.prog 40 args H Kk := by
  intro args pt h H Kk hk
  unfold eFarL at h
  split at h
  · cases h; obtain ⟨_, h1, h2⟩ := hk; exact p40 _ _ h1 H (h2 _ rfl)
  · cases h
theorem p39 (l : List (Int × Int)) (n : Int) (hl : l.length ≤ 9223372036854775807) (H : AHeap) {Kk : AV → AHeap → Prop} (h : Kk (I (tab0 l n)) H) : ACalls Try.prog 39 [.vs 2 (l.map sp), I n] H Kk := by
  refine (fun q => pureC (by rfl) (by rfl) q H h) ?_
  clear h
  intro Kk h
  obtain ⟨xs, hxs⟩ : ∃ xs, xs = l.map sp := ⟨_, rfl⟩
  rw [← hxs]
  obtain ⟨A, hA⟩ : ∃ A, A = std := ⟨_, rfl⟩
  obtain ⟨W, hW⟩ : ∃ W, W = tab0 l n := ⟨_, rfl⟩
  rw [← hW] at h
  refine go39 rfl (SGo_run hA ⟨[], [], [], []⟩ .nil .nil 200 fun T TD hT hTD => ?_)
  cbv
  rw [hT]
  refine AGo_upS l.length (fun j (o : Int) => o = ((l.take j).foldl (lastF n) (0, 0)).2) (fun _ o i => [(0, .vs 2 xs), (1, I n), (4, I 0), (5, I o), (6, I i)]) (fun _ _ => []) 0 rfl ⟨rfl, rfl, rfl, rfl, rfl, trivial⟩ (.inl rfl) fun j o i hi hj hP Bk hB => ?_
  have hlt : A.lt i (A.vlen xs) = decide (j < l.length) := by subst hA; exact lt_len (by simp [hxs]) hi
  have hadd : ∀ N, j < N → N ≤ 9223372036854775807 → A.add .i64 i 1 = iLen (j + 1) := fun N hj hN => by subst hA; exact add_one hi hj hN
  refine SGo_run hA ⟨[], [], [], []⟩ .nil .nil 200 fun T TD hT hTD => ?_
  cbv
  split <;> cbv
  · rename_i hk1
    have hk1 : j < l.length := by have := hlt.symm.trans hk1; simpa using this
    obtain ⟨⟨x, y⟩, hx⟩ : ∃ x, l[j]? = some x := ⟨_, List.getElem?_eq_getElem hk1⟩
    have hix : A.ix 2 2 xs i [I x, I y] := by subst hA; exact ix_map hxs hi hx rfl
    repeat' (first | (refine Exists.intro _ (And.intro hix ?_); cbv) | (split <;> cbv))
    · rename_i hq
      have hq : x ≤ n := by have hq : A.le x n = true := hq; subst hA; simpa [std, iLe] using hq
      exact hB y _ _ hk1 (by rw [lastF_take hx]; simp [lastF, hq]) ⟨rfl, rfl, rfl, rfl, congrArg I (hadd _ hk1 (by omega)), trivial⟩ (.inl rfl)
    · rename_i hq
      have hq : ¬ x ≤ n := by have hq : A.le x n = false := hq; subst hA; simpa [std, iLe] using hq
      exact hB o _ _ hk1 (by rw [lastF_take hx]; simp only [lastF]; rw [if_neg (by simpa using hq)]; exact hP) ⟨rfl, rfl, rfl, rfl, congrArg I (hadd _ hk1 (by omega)), trivial⟩ (.inl rfl)
  · rename_i hk1
    have hk1 : ¬ j < l.length := by have := hlt.symm.trans hk1; simpa using this
    refine leaf h (congrArg I ?_) rfl
    rw [hP, hW, tab0, List.take_of_length_le (by omega)]
def eTab0 : List AV → Option ((AV → Prop) → Prop)
  | [x, .lit (.int .i64 n)] => match asVs 2 x with
    | some xs => some fun K => ∃ l, xs = l.map sp ∧ l.length ≤ 9223372036854775807 ∧ ∀ f, f = tab0 l n → K (I f)
    | none => none
  | _ => none
theorem eTab0_ok : ∀ args pt, eTab0 args = some pt → ∀ (H : AHeap) (Kk : AV → AHeap → Prop), pt (fun r => Kk r H) → ACalls Try.prog 39 args H Kk := by
  intro args pt h H Kk hk
  unfold eTab0 at h
  split at h
  · split at h
    · rename_i xs hx
      cases h
      obtain ⟨l, rfl, h1, h2⟩ := hk
      exact (p39 l _ h1 H (h2 _ rfl)).wk ⟨asVs_wk hx, Wk.rfl, trivial⟩
    · cases h
  · cases h
/-- a truth that may be -/
structure TruB (p : Plate) (places : Nat) (l : List Load) (t : Tru) : Prop where
  st : 0 ≤ t.st ∧ t.st ≤ 100000
  il : t.ice.length = places
  ib : ∀ n ∈ t.ice, 0 ≤ n ∧ n ≤ 5000
  cl : t.cr.length ≤ 50
  cb : ∀ n ∈ t.cr, 0 ≤ n ∧ n ≤ 100000
  wl : t.ws.length = l.length
  wb : ∀ n ∈ t.ws, 0 ≤ n ∧ n ≤ 200000
theorem sumT_bnd {p : Plate} (hp : PlateV p) {m : Int} : ∀ {ws : List Int} {l : List Load}, (∀ n ∈ ws, 0 ≤ n ∧ n ≤ 200000) → 0 ≤ sumT p m ws l ∧ sumT p m ws l ≤ l.length * 200000000000
  | [], l, _ => by simp [sumT]; omega
  | _ :: _, [], _ => by simp [sumT]
  | w :: ws, o :: l, h => by
    have ih := sumT_bnd hp (m := m) (ws := ws) (l := l) fun n hn => h n (by simp [hn])
    have h1 := h w (by simp)
    have hq := hp.sh.part (farS o.at_ m)
    rw [← tab0_part hp.sh (farS_nn o.at_ m)] at hq
    obtain ⟨-, a1, a2⟩ := mulB h1 hq (by omega)
    simp only [sumT, List.length_cons]
    omega
theorem sumT_take {p : Plate} {m : Int} : ∀ {ws : List Int} {l : List Load} {j : Nat} {w : Int} {o : Load}, ws[j]? = some w → l[j]? = some o → sumT p m (ws.take (j + 1)) (l.take (j + 1)) = sumT p m (ws.take j) (l.take j) + w * tab0 p.shares (farS o.at_ m)
  | [], _, j, _, _, h, _ => by simp at h
  | _ :: _, [], j, _, _, _, h => by simp at h
  | a :: ws, b :: l, 0, w, o, h, h' => by
    simp at h h'; subst h h'; simp [sumT]
  | a :: ws, b :: l, j + 1, w, o, h, h' => by
    have := sumT_take (p := p) (m := m) (ws := ws) (l := l) (j := j) (by simpa using h) (by simpa using h')
    simp only [List.take_succ_cons, sumT] at this ⊢
    omega
theorem p32 (p : Plate) {a b : Int} {xs ec : List AV} {ne ed gr lo hi sh wi : Int} (hp : PlateIs p a b xs ec ne ed gr lo hi sh wi) (hV : PlateV p) (places : Nat) (hpl : places ≤ 1000) (l : List Load) (hl : LoadsV places l) (t : Tru) (ht : TruB p places l t) (k : Nat) (x0 : Load) (hx0 : l[k]? = some x0) (H : AHeap) {Kk : AV → AHeap → Prop} (h : Kk (B (bornS p l t x0)) H) :
    ACalls Try.prog 32 [plV a b (.vs 2 xs) (.vs 2 ec) ne ed gr lo hi sh wi, .vs 4 (l.map ldV), .agg [I t.st, .vs 1 (t.ice.map I), .vs 1 (t.cr.map I), .vs 1 (t.ws.map I)], I (iLen k)] H Kk := by
  have hall := hl.up (by omega)
  have hm0 := hall _ (List.mem_of_getElem? hx0)
  have hme := (hl.all _ (List.mem_of_getElem? hx0)).at2
  have hm1 := hm0.at1
  have hm2 := hm0.at2
  have hlt0 : (x0.at_ / 100).toNat < t.ice.length := by rw [ht.il]; omega
  obtain ⟨h0, hh⟩ : ∃ x, t.ice[(x0.at_ / 100).toNat]? = some x := ⟨_, List.getElem?_eq_getElem hlt0⟩
  have hhb := ht.ib _ (List.mem_of_getElem? hh)
  have hW : bornS p l t x0 = decide (sumT p x0.at_ t.ws l * 1000000 ≤ t.st * cutS p h0 (nearT p t.cr x0.at_) * cutS p h0 (nearT p t.cr x0.at_) * tab0 p.creep x0.st) := by
    unfold bornS; rw [List.getD_eq_getElem?_getD, hh]; rfl
  have hcr := hV.cr.part x0.st
  rw [← tab0_part hV.cr hm0.s1] at hcr
  have hn : 0 ≤ ne ∧ ne ≤ 10000 := by have h1 := hV.n1; have h2 := hV.n2; rw [hp.ne] at h1 h2; exact ⟨h1, h2⟩
  have he : 0 ≤ ed ∧ ed ≤ 1000000 := by have h1 := hV.e1; have h2 := hV.e2; rw [hp.ed] at h1 h2; exact ⟨h1, h2⟩
  have hpn := hp.ne
  have hpe := hp.ed
  have hsb : ∀ j, 0 ≤ sumT p x0.at_ (t.ws.take j) (l.take j) ∧ sumT p x0.at_ (t.ws.take j) (l.take j) ≤ 6000000000000 := by
    intro j
    have h1 := sumT_bnd hV (m := x0.at_) (ws := t.ws.take j) (l := l.take j) fun n hn => ht.wb n (List.mem_of_mem_take hn)
    have h2 := hl.len
    have h3 : (l.take j).length ≤ l.length := by simp; omega
    omega
  have hst := ht.st
  have hcl := ht.cl
  have hcb := ht.cb
  have hwl := ht.wl
  have hwb := ht.wb
  have hll := hl.len
  refine (fun q => pureC (by rfl) (by rfl) q H h) ?_
  clear h
  intro Kk h
  generalize bornS p l t x0 = W at h hW
  obtain ⟨m, ⟨v1, v2⟩, st0⟩ := x0
  obtain ⟨ts, tice, tcr, tws⟩ := t
  simp only at *
  obtain ⟨ys, hys⟩ : ∃ ys, ys = l.map ldV := ⟨_, rfl⟩
  obtain ⟨ti, hti⟩ : ∃ ys, ys = tice.map I := ⟨_, rfl⟩
  obtain ⟨tc, htc⟩ : ∃ ys, ys = tcr.map I := ⟨_, rfl⟩
  obtain ⟨tw, htw⟩ : ∃ ys, ys = tws.map I := ⟨_, rfl⟩
  obtain ⟨q, hq⟩ : ∃ q : Int, q = iLen k := ⟨_, rfl⟩
  rw [← hys, ← hq, ← hti, ← htc, ← htw]
  obtain ⟨A, hA⟩ : ∃ A, A = std := ⟨_, rfl⟩
  obtain ⟨sl, hsl⟩ : ∃ sl, sl = p.shares := ⟨_, rfl⟩
  have hs : xs = sl.map sp := by rw [hsl]; exact hp.hs
  have hsl2 : sl.length ≤ 9223372036854775807 := by rw [hsl]; have := hV.sh.len; omega
  obtain ⟨cl, hcc⟩ : ∃ cl, cl = p.creep := ⟨_, rfl⟩
  have hc : ec = cl.map sp := by rw [hcc]; exact hp.hc
  have hcl2 : cl.length ≤ 9223372036854775807 := by rw [hcc]; have := hV.cr.len; omega
  have hiy : A.ix 4 4 ys q [I m, I v1, I v2, I st0] := by subst hA; exact ix_map hys hq hx0 rfl
  have hqq : A.quo .i64 m 100 = iLen (m / 100).toNat := by
    subst hA; simp only [std]; rw [iQuo_id (by omega) (by omega) (by omega)]; unfold iLen; omega
  have hii : A.ix 1 1 ti (A.quo .i64 m 100) [I h0] := by subst hA; exact ix_map hti hqq hh rfl
  refine go32 rfl (SGo_run hA ⟨[], [], [(40, eFarL), (39, eTab0)], []⟩ (.cons eFarL_ok (.cons eTab0_ok .nil)) .nil 200 fun T TD hT hTD => ?_)
  cbv
  refine Exists.intro _ (And.intro hiy ?_)
  cbv
  refine Exists.intro _ (And.intro hii ?_)
  cbv
  rw [hT]
  have hcutb : ∀ b, 0 ≤ cutS p h0 b ∧ cutS p h0 b ≤ 5000 := by
    intro b
    have h1 := cut_mono hV (a := h0) (b := 5000) (u := b) (v := false) hhb.1 hhb.2 (by simp)
    have h2 : cutS p 5000 false = 5000 := rfl
    omega
  refine AGo_upS tcr.length (fun j (s : Bool) => s = nearT p (tcr.take j) m) (fun _ s i => [(0, plV a b (.vs 2 xs) (.vs 2 ec) ne ed gr lo hi sh wi), (1, .vs 4 ys), (2, .agg [I ts, .vs 1 ti, .vs 1 tc, .vs 1 tw]), (3, I q), (4, .mp 0 0 0), (6, .mp 1 0 0), (8, B false), (9, .mp 2 0 0), (10, I h0), (11, B s), (12, I i)])
    (fun _ _ => [.own 0 [I a, I b, .vs 2 xs, .vs 2 ec, I ne, I ed, I gr, I lo, I hi, I sh, I wi], .own 0 [I ts, .vs 1 ti, .vs 1 tc, .vs 1 tw], .own 0 [I m, I v1, I v2, I st0]]) false rfl ⟨rfl, rfl, rfl, rfl, rfl, rfl, rfl, rfl, rfl, rfl, rfl, trivial⟩ (.inl rfl) fun j s i hij hj hP Bk hB => ?_
  have hlt : A.lt i (A.vlen tc) = decide (j < tcr.length) := by subst hA; exact lt_len (by simp [htc]) hij
  have hadd : ∀ N, j < N → N ≤ 9223372036854775807 → A.add .i64 i 1 = iLen (j + 1) := fun N hj hN => by subst hA; exact add_one hij hj hN
  refine SGo_run hA ⟨[], [], [(40, eFarL), (39, eTab0)], []⟩ (.cons eFarL_ok (.cons eTab0_ok .nil)) .nil 200 fun T TD hT hTD => ?_
  cbv
  split <;> cbv
  · rename_i hk1
    have hk1 : j < tcr.length := by have := hlt.symm.trans hk1; simpa using this
    obtain ⟨x, hx⟩ : ∃ x, tcr[j]? = some x := ⟨_, List.getElem?_eq_getElem hk1⟩
    have hxb := hcb x (List.mem_of_getElem? hx)
    have hix : A.ix 1 1 tc i [I x] := by subst hA; exact ix_map htc hij hx rfl
    have hnx : nearT p (tcr.take (j + 1)) m = (nearT p (tcr.take j) m || decide (farS x m ≤ ne)) := by
      unfold nearT; rw [List.take_add_one, hx, List.any_append, ← hpn]; simp
    split <;> cbv
    · rename_i hs1
      exact hB true _ _ hk1 (by rw [hnx, ← hP]; rfl) ⟨rfl, rfl, rfl, rfl, rfl, rfl, rfl, rfl, rfl, rfl, congrArg I (hadd _ hk1 (by omega)), trivial⟩ (.inl rfl)
    · refine Exists.intro _ (And.intro hix ?_)
      cbv
      refine Exists.intro () (And.intro (by unfold Sm; omega) ?_)
      rintro f hf
      cbv
      refine hB _ _ _ hk1 ?_ ⟨rfl, rfl, rfl, rfl, rfl, rfl, rfl, rfl, rfl, rfl, congrArg I (hadd _ hk1 (by omega)), trivial⟩ (.inl rfl)
      rw [hnx, ← hP, hf]
      subst hA; rfl
  · rename_i hk1
    have hk1 : ¬ j < tcr.length := by have := hlt.symm.trans hk1; simpa using this
    rw [List.take_of_length_le (by omega)] at hP
    split <;> cbv
    · rw [hT]
      have hcut : A.quo .i64 (A.mul .i64 h0 ed) 1000000 = cutS p h0 (nearT p tcr m) := by
        obtain ⟨e1, l1, u1⟩ := mulB hhb he (by omega)
        rw [← hP, cutS, hpe]
        subst hA; simp only [std, e1]; exact iQuo_id l1 (by omega) (by omega)
      obtain ⟨hh2, hhh⟩ : ∃ z, z = (A.quo .i64 (A.mul .i64 h0 ed) 1000000) := ⟨_, rfl⟩
      replace hcut := hhh.trans hcut
      refine AGo_upS l.length (fun j (s : Int) => s = sumT p m (tws.take j) (l.take j)) (fun _ s i => [(0, plV a b (.vs 2 xs) (.vs 2 ec) ne ed gr lo hi sh wi), (1, .vs 4 ys), (2, .agg [I ts, .vs 1 ti, .vs 1 tc, .vs 1 tw]), (3, I q), (4, .mp 0 0 0), (6, .mp 1 0 0), (8, B false), (9, .mp 2 0 0), (10, I hh2), (13, I s), (14, I i)])
        (fun _ _ => [.own 0 [I a, I b, .vs 2 xs, .vs 2 ec, I ne, I ed, I gr, I lo, I hi, I sh, I wi], .own 0 [I ts, .vs 1 ti, .vs 1 tc, .vs 1 tw], .own 0 [I m, I v1, I v2, I st0]]) 0 (by simp [sumT]) ⟨rfl, rfl, rfl, rfl, rfl, rfl, rfl, rfl, congrArg I hhh.symm, rfl, rfl, trivial⟩ (.inl rfl) fun j2 s2 i2 hij2 hj2 hP2 Bk2 hB2 => ?_
      have hlt2 : A.lt i2 (A.vlen ys) = decide (j2 < l.length) := by subst hA; exact lt_len (by simp [hys]) hij2
      have hadd2 : j2 < l.length → A.add .i64 i2 1 = iLen (j2 + 1) := fun hj => by subst hA; exact add_one hij2 hj (by omega)
      have hsj := hsb j2
      rw [← hP2] at hsj
      refine SGo_run hA ⟨[], [], [(40, eFarL), (39, eTab0)], []⟩ (.cons eFarL_ok (.cons eTab0_ok .nil)) .nil 200 fun T TD hT hTD => ?_
      cbv
      split <;> cbv
      · rename_i hk2
        have hk2 : j2 < l.length := by have := hlt2.symm.trans hk2; simpa using this
        obtain ⟨w, hw⟩ : ∃ x, tws[j2]? = some x := ⟨_, List.getElem?_eq_getElem (by omega)⟩
        obtain ⟨⟨x1, ⟨x2, x3⟩, x4⟩, hx⟩ : ∃ x, l[j2]? = some x := ⟨_, List.getElem?_eq_getElem hk2⟩
        have hwbb := hwb w (List.mem_of_getElem? hw)
        have hxv := hall _ (List.mem_of_getElem? hx)
        have k1 := hxv.at1
        have k2 := hxv.at2
        simp only at k1 k2
        have hixw : A.ix 1 1 tw i2 [I w] := by subst hA; exact ix_map htw hij2 hw rfl
        have hixx : A.ix 4 4 ys i2 [I x1, I x2, I x3, I x4] := by subst hA; exact ix_map hys hij2 hx rfl
        refine Exists.intro _ (And.intro hixw ?_)
        cbv
        refine Exists.intro _ (And.intro hixx ?_)
        cbv
        refine Exists.intro () (And.intro (by unfold Sm; omega) ?_)
        rintro f hf
        cbv
        refine Exists.intro sl (And.intro hs (And.intro hsl2 ?_))
        rintro g hg
        cbv
        have hst2 := sumT_take (p := p) (m := m) hw hx
        have hpb := hV.sh.part (farS x1 m)
        rw [← tab0_part hV.sh (farS_nn x1 m), ← hsl, ← hf, ← hg] at hpb
        simp only at hst2
        rw [← hsl, ← hf, ← hg, ← hP2] at hst2
        obtain ⟨m1, m2, m3⟩ := mulB hwbb hpb (by omega)
        have hval : A.add .i64 s2 (A.mul .i64 w g) = sumT p m (tws.take (j2 + 1)) (l.take (j2 + 1)) := by
          subst hA; simp only [std, m1]; rw [hst2]; exact iAdd_id (by omega) (by omega)
        exact hB2 _ _ _ hk2 hval ⟨rfl, rfl, rfl, rfl, rfl, rfl, rfl, rfl, rfl, rfl, congrArg I (hadd2 hk2), trivial⟩ (.inl rfl)
      · rename_i hk2
        have hk2 : ¬ j2 < l.length := by have := hlt2.symm.trans hk2; simpa using this
        rw [List.take_of_length_le (by omega), List.take_of_length_le (by omega)] at hP2
        refine Exists.intro cl (And.intro hc (And.intro hcl2 ?_))
        rintro g hg
        cbv
        refine leaf h (congrArg B ?_) rfl
        rw [← hcc, ← hg] at hcr hW
        rw [← hP2, ← hcut] at hW
        have hcb2 := hcutb (nearT p tcr m)
        rw [← hcut] at hcb2
        obtain ⟨e1, l1, u1⟩ := mulB hst hcb2 (by omega)
        obtain ⟨e2, l2, u2⟩ := mulB ⟨l1, u1⟩ hcb2 (by omega)
        obtain ⟨e3, l3, u3⟩ := mulB ⟨l2, u2⟩ hcr (by omega)
        have e4 : iMul .i64 s2 1000000 = s2 * 1000000 := iMul_id (by omega) (by omega)
        rw [hW]
        subst hA
        simp only [std, e1, e2, e3, e4, iLe]
    · rw [hT]
      have hcut : h0 = cutS p h0 (nearT p tcr m) := by rw [← hP]; rfl
      obtain ⟨hh2, hhh⟩ : ∃ z, z = h0 := ⟨_, rfl⟩
      replace hcut := hhh.trans hcut
      refine AGo_upS l.length (fun j (s : Int) => s = sumT p m (tws.take j) (l.take j)) (fun _ s i => [(0, plV a b (.vs 2 xs) (.vs 2 ec) ne ed gr lo hi sh wi), (1, .vs 4 ys), (2, .agg [I ts, .vs 1 ti, .vs 1 tc, .vs 1 tw]), (3, I q), (4, .mp 0 0 0), (6, .mp 1 0 0), (8, B false), (9, .mp 2 0 0), (10, I hh2), (13, I s), (14, I i)])
        (fun _ _ => [.own 0 [I a, I b, .vs 2 xs, .vs 2 ec, I ne, I ed, I gr, I lo, I hi, I sh, I wi], .own 0 [I ts, .vs 1 ti, .vs 1 tc, .vs 1 tw], .own 0 [I m, I v1, I v2, I st0]]) 0 (by simp [sumT]) ⟨rfl, rfl, rfl, rfl, rfl, rfl, rfl, rfl, congrArg I hhh.symm, rfl, rfl, trivial⟩ (.inl rfl) fun j2 s2 i2 hij2 hj2 hP2 Bk2 hB2 => ?_
      have hlt2 : A.lt i2 (A.vlen ys) = decide (j2 < l.length) := by subst hA; exact lt_len (by simp [hys]) hij2
      have hadd2 : j2 < l.length → A.add .i64 i2 1 = iLen (j2 + 1) := fun hj => by subst hA; exact add_one hij2 hj (by omega)
      have hsj := hsb j2
      rw [← hP2] at hsj
      refine SGo_run hA ⟨[], [], [(40, eFarL), (39, eTab0)], []⟩ (.cons eFarL_ok (.cons eTab0_ok .nil)) .nil 200 fun T TD hT hTD => ?_
      cbv
      split <;> cbv
      · rename_i hk2
        have hk2 : j2 < l.length := by have := hlt2.symm.trans hk2; simpa using this
        obtain ⟨w, hw⟩ : ∃ x, tws[j2]? = some x := ⟨_, List.getElem?_eq_getElem (by omega)⟩
        obtain ⟨⟨x1, ⟨x2, x3⟩, x4⟩, hx⟩ : ∃ x, l[j2]? = some x := ⟨_, List.getElem?_eq_getElem hk2⟩
        have hwbb := hwb w (List.mem_of_getElem? hw)
        have hxv := hall _ (List.mem_of_getElem? hx)
        have k1 := hxv.at1
        have k2 := hxv.at2
        simp only at k1 k2
        have hixw : A.ix 1 1 tw i2 [I w] := by subst hA; exact ix_map htw hij2 hw rfl
        have hixx : A.ix 4 4 ys i2 [I x1, I x2, I x3, I x4] := by subst hA; exact ix_map hys hij2 hx rfl
        refine Exists.intro _ (And.intro hixw ?_)
        cbv
        refine Exists.intro _ (And.intro hixx ?_)
        cbv
        refine Exists.intro () (And.intro (by unfold Sm; omega) ?_)
        rintro f hf
        cbv
        refine Exists.intro sl (And.intro hs (And.intro hsl2 ?_))
        rintro g hg
        cbv
        have hst2 := sumT_take (p := p) (m := m) hw hx
        have hpb := hV.sh.part (farS x1 m)
        rw [← tab0_part hV.sh (farS_nn x1 m), ← hsl, ← hf, ← hg] at hpb
        simp only at hst2
        rw [← hsl, ← hf, ← hg, ← hP2] at hst2
        obtain ⟨m1, m2, m3⟩ := mulB hwbb hpb (by omega)
        have hval : A.add .i64 s2 (A.mul .i64 w g) = sumT p m (tws.take (j2 + 1)) (l.take (j2 + 1)) := by
          subst hA; simp only [std, m1]; rw [hst2]; exact iAdd_id (by omega) (by omega)
        exact hB2 _ _ _ hk2 hval ⟨rfl, rfl, rfl, rfl, rfl, rfl, rfl, rfl, rfl, rfl, congrArg I (hadd2 hk2), trivial⟩ (.inl rfl)
      · rename_i hk2
        have hk2 : ¬ j2 < l.length := by have := hlt2.symm.trans hk2; simpa using this
        rw [List.take_of_length_le (by omega), List.take_of_length_le (by omega)] at hP2
        refine Exists.intro cl (And.intro hc (And.intro hcl2 ?_))
        rintro g hg
        cbv
        refine leaf h (congrArg B ?_) rfl
        rw [← hcc, ← hg] at hcr hW
        rw [← hP2, ← hcut] at hW
        have hcb2 := hcutb (nearT p tcr m)
        rw [← hcut] at hcb2
        obtain ⟨e1, l1, u1⟩ := mulB hst hcb2 (by omega)
        obtain ⟨e2, l2, u2⟩ := mulB ⟨l1, u1⟩ hcb2 (by omega)
        obtain ⟨e3, l3, u3⟩ := mulB ⟨l2, u2⟩ hcr (by omega)
        have e4 : iMul .i64 s2 1000000 = s2 * 1000000 := iMul_id (by omega) (by omega)
        rw [hW]
        subst hA
        simp only [std, e1, e2, e3, e4, iLe]
end Go.Sas
namespace Go.Sas
open Go.Proofs
set_option maxRecDepth 100000
theorem firstE_of {α : Type} {f : α → Int} : ∀ {l : List α}, (∀ x ∈ l, f x = 0) → firstE f l = 0
  | [], _ => rfl
  | x :: l, h => by simp only [firstE, h x (by simp)]; simp; exact firstE_of fun y hy => h y (by simp [hy])
theorem faultS_of {a b lo hi : Int} (h : lo ≤ a ∧ a ≤ b ∧ b ≤ hi) : faultS a b lo hi = 0 := by unfold faultS; rw [if_neg (by omega), if_neg (by omega)]
theorem faultsS_of {l : List (Int × Int)} {most high : Int} (hl : (l.length : Int) ≤ most) (h : ∀ x ∈ l, 0 ≤ x.1 ∧ x.1 ≤ x.2 ∧ x.2 ≤ high) : faultsS l most high = 0 := by
  unfold faultsS
  rw [if_neg (by omega)]
  exact firstE_of fun x hx => faultS_of (h x hx)
theorem loadsS_of {l : List Load} {places : Int} (hl : l.length ≤ 30) (h : ∀ x ∈ l, LoadV places x) : loadsS places l = 0 := by
  unfold loadsS
  rw [if_neg (by omega)]
  refine firstE_of fun x hx => ?_
  obtain ⟨h1, h2, h3, h4, h5, h6, h7⟩ := h x hx
  unfold loadE
  rw [if_neg (by omega), if_neg (by simp [faultS_of ⟨h3, h4, h5⟩]), if_neg (by omega)]
theorem roadS_of {p : Plate} {ice cr : List (Int × Int)} (hp : checkS p = 0) (h1 : ice.length ≤ 1000) (h2 : ∀ x ∈ ice, 0 ≤ x.1 ∧ x.1 ≤ x.2 ∧ x.2 ≤ 5000) (h3 : cr.length ≤ 50) (h4 : ∀ x ∈ cr, 0 ≤ x.1 ∧ x.1 ≤ x.2 ∧ x.2 ≤ 100000) : checkAllS p ice cr = 0 := by
  unfold checkAllS
  rw [if_neg (by simp [hp]), faultsS_of (by omega) h2]
  simp
  exact faultsS_of (by omega) h4
/-- a plate with ice, cracks and loads that fit -/
structure MadeV (p : Plate) (ice cr : List (Int × Int)) (l : List Load) : Prop where
  pl : checkS p = 0
  il : 1 ≤ ice.length ∧ ice.length ≤ 4
  ib : ∀ x ∈ ice, 0 ≤ x.1 ∧ x.1 ≤ x.2 ∧ x.2 ≤ 1500
  cl : cr.length ≤ 3
  cb : ∀ x ∈ cr, 0 ≤ x.1 ∧ x.1 ≤ 100 * iLen ice.length - 1 ∧ x.1 ≤ x.2 ∧ x.2 ≤ x.1 + 30
  ll : l.length ≤ 5
  lb : ∀ x ∈ l, LoadV ice.length x
theorem MadeV.all {p : Plate} {ice cr : List (Int × Int)} {l : List Load} (h : MadeV p ice cr l) : checkAllS p ice cr = 0 := by
  obtain ⟨h1, h2, h3, h4, h5, h6, h7⟩ := h
  unfold iLen at h5
  exact roadS_of h1 (by omega) (fun x hx => by have := h3 x hx; omega) (by omega) fun x hx => by have := h5 x hx; omega
theorem MadeV.road {p : Plate} {ice cr : List (Int × Int)} {l : List Load} (h : MadeV p ice cr l) : RoadV p ice cr := checkAllS_ok h.all
theorem MadeV.holds {p : Plate} {ice cr : List (Int × Int)} {l : List Load} (h : MadeV p ice cr l) : holdsS p ice cr l = (l.map (veS p ice cr l), 0) := by
  unfold holdsS
  rw [if_neg (by simp [h.all]), if_neg (by simp [loadsS_of (by have := h.ll; omega) h.lb])]
def MdQ (r : AV) : Prop := ∃ (p : Plate) (a b : Int) (xs ec : List AV) (ne ed gr lo hi sh wi : Int) (ice cr : List (Int × Int)) (l : List Load) (xi xc xl : List AV),
  r = .agg [I a, I b, .vs 2 xs, .vs 2 ec, I ne, I ed, I gr, I lo, I hi, I sh, I wi, .vs 2 xi, .vs 2 xc, .vs 4 xl] ∧ PlateIs p a b xs ec ne ed gr lo hi sh wi ∧ xi = ice.map sp ∧ xc = cr.map sp ∧ xl = l.map ldV ∧ MadeV p ice cr l
theorem d28 : Draws Try.prog 28 [] MdQ := by
  refine .of rfl (by rintro r ⟨p, a, b, xs, ec, ne, ed, gr, lo, hi, sh, wi, ice, cr, l, xi, xc, xl, rfl, _⟩; rfl) fun w Kk h => ?_
  obtain ⟨A, hA⟩ : ∃ A, A = std := ⟨_, rfl⟩
  refine go28 rfl (SGo_run hA ⟨[], [], [], edl⟩ .nil edl_ok 200 fun T TD hT hTD => ?_)
  cbv
  refine Exists.intro () (And.intro trivial ?_)
  rintro w2 _ ⟨p2, a2, b2, xs2, ec2, ne2, ed2, gr2, lo2, hi2, sh2, wi2, rfl, hp2, hv2⟩
  cbv
  refine Exists.intro () (And.intro (by omega) ?_)
  rintro w3 _ ⟨beds, xb, rfl, hxb, hbl, hbd⟩
  have hvb : A.vlen xb = iLen beds.length := by subst hA; simp [std, hxb]
  have hb4 : 1 ≤ A.vlen xb ∧ A.vlen xb ≤ 1000 := by rw [hvb]; omega
  cbv
  refine Exists.intro () (And.intro (And.intro (by exact hb4) (by omega)) ?_)
  rintro w4 _ ⟨cr2, xc2, rfl, hxc2, hcl2, hcd2⟩
  cbv
  refine Exists.intro () (And.intro (And.intro (by exact hb4) (by omega)) ?_)
  rintro w5 _ ⟨l2, xl2, rfl, hxl2, hll2, hld2⟩
  cbv
  refine h _ _ ?_
  refine Exists.intro p2 (Exists.intro a2 (Exists.intro b2 (Exists.intro xs2 (Exists.intro ec2 (Exists.intro ne2 (Exists.intro ed2 (Exists.intro gr2 (Exists.intro lo2 (Exists.intro hi2 (Exists.intro sh2 (Exists.intro wi2 (Exists.intro beds (Exists.intro cr2 (Exists.intro l2 (Exists.intro xb (Exists.intro xc2 (Exists.intro xl2 (And.intro rfl (And.intro hp2 (And.intro hxb (And.intro hxc2 (And.intro hxl2 ?_))))))))))))))))))))))
  have hcd2 : ∀ x ∈ cr2, 0 ≤ x.1 ∧ x.1 ≤ 100 * A.vlen xb - 1 ∧ x.1 ≤ x.2 ∧ x.2 ≤ x.1 + 30 := hcd2
  have hld2 : ∀ x ∈ l2, LoadV (A.vlen xb) x := hld2
  rw [hvb] at hcd2 hld2
  unfold iLen at hbl hcl2 hll2
  exact ⟨hv2, by omega, hbd, by omega, hcd2, by omega, hld2⟩
theorem d30 (l : List (Int × Int)) (hl : l.length < 1000000) (hb : ∀ x ∈ l, -1000000000 ≤ x.1 ∧ x.1 ≤ x.2 ∧ x.2 ≤ 1000000000) : Draws Try.prog 30 [.vs 2 (l.map sp)] (LsQ 1 I fun r => Ins r l) := by
  refine .of rfl (by rintro r ⟨l, xs, rfl, _⟩; rfl) fun w Kk h => ACalls.frees ?_
  obtain ⟨A, hA⟩ : ∃ A, A = std := ⟨_, rfl⟩
  have hsg : ∀ g, A.sg g g := by subst hA; exact fun _ => rfl
  obtain ⟨F, hF⟩ : ∃ F, F = Frees 1 Kk := ⟨_, rfl⟩
  rw [show Frees [AObj.own 0 [U w]].length Kk = F from hF.symm]
  obtain ⟨ys, hys⟩ : ∃ ys, ys = l.map sp := ⟨_, rfl⟩
  rw [← hys]
  refine go30 rfl (SGo_run hA ⟨[], [], [], ed3⟩ .nil ed3_ok 200 fun T TD hT hTD => ?_)
  cbv
  rw [hT]
  refine AGo_nilms 5 1 rfl ?_
  refine AGo_upS l.length (fun j (s : Int × List Int) => s.2.length = j ∧ Ins s.2 (l.take j)) (fun j _ i => [(0, .mp 0 0 0), (1, .vs 2 ys), (5, .ms 1 1 j 0 j), (6, I i)]) (fun j s => [.own 0 [U s.1], .own j (s.2.map I)]) (_, []) ⟨rfl, trivial⟩ ⟨rfl, rfl, rfl, rfl, trivial⟩ (.inl rfl) ?_
  rintro j ⟨w1, s⟩ i hi hj ⟨hsl, hP⟩ Bk hB
  simp only at hsl hP
  have hlt : A.lt i (A.vlen ys) = decide (j < l.length) := by subst hA; exact lt_len (by simp [hys]) hi
  have hadd : j < l.length → A.add .i64 i 1 = iLen (j + 1) := fun hj => by subst hA; exact add_one hi hj (by omega)
  obtain ⟨cs, hcs⟩ : ∃ cs, cs = s.map I := ⟨_, rfl⟩
  have hcl : cs.length = j * 1 := by rw [hcs]; simp [hsl]
  simp only
  rw [← hcs]
  refine SGo_run hA ⟨[1], [], [], ed3⟩ .nil ed3_ok 200 fun T TD hT hTD => ?_
  cbv
  split <;> cbv
  · rename_i hk1
    have hk1 : j < l.length := by have := hlt.symm.trans hk1; simpa using this
    obtain ⟨⟨x, y⟩, hx⟩ : ∃ x, l[j]? = some x := ⟨_, List.getElem?_eq_getElem hk1⟩
    have hxb := hb (x, y) (List.mem_of_getElem? hx)
    have hix : A.ix 2 2 ys i [I x, I y] := by subst hA; exact ix_map hys hi hx rfl
    refine Exists.intro _ (And.intro hix ?_)
    cbv
    refine Exists.intro () (And.intro (by exact hxb) ?_)
    rintro w2 _ ⟨u, rfl, hu1, hu2⟩
    cbv
    refine And.intro (hsg _) (Exists.intro (cs ++ [I u]) (Exists.intro (j + 1) (And.intro (by subst hA; exact app_one hcl rfl (by omega)) (And.intro rfl ?_))))
    generalize hc2 : cs ++ [I u] = cs2
    cbv
    refine hB (w2, s ++ [u]) _ _ hk1 ⟨by simp [hsl], ?_⟩ ⟨rfl, rfl, rfl, congrArg I (hadd hk1), trivial⟩ (.inl ?_)
    · rw [List.take_add_one, hx]
      exact Ins.app hP ⟨hu1, hu2⟩
    · rw [← hc2, hcs]; simp
  · rename_i hk1
    have hk1 : ¬ j < l.length := by have := hlt.symm.trans hk1; simpa using this
    rw [hF]
    rw [List.take_of_length_le (by omega)] at hP
    refine Frees.row (xs := s.map I) (by rw [hcs]; exact Elems_I s) (frz_self (by simp [hsl])) rfl (h _ _ ⟨s, _, rfl, rfl, hP⟩)
theorem p31 (l : List Load) (hl : l.length < 1000000) (H : AHeap) {Kk : AV → AHeap → Prop} (h : Kk (.vs 2 ((l.map (·.w)).map sp)) H) : ACalls Try.prog 31 [.vs 4 (l.map ldV)] H Kk := by
  refine (fun q => pureF (by rfl) (by rfl) q H h) ?_
  clear h
  intro Kk h
  obtain ⟨A, hA⟩ : ∃ A, A = std := ⟨_, rfl⟩
  obtain ⟨xs, hxs⟩ : ∃ xs, xs = l.map ldV := ⟨_, rfl⟩
  rw [← hxs]
  have hsg : ∀ g, A.sg g g := by subst hA; exact fun _ => rfl
  obtain ⟨F, hF⟩ : ∃ F, F = Frees 0 Kk := ⟨_, rfl⟩
  rw [← hF]
  refine go31 rfl (SGo_run hA ⟨[], [], [], []⟩ .nil .nil 200 fun T TD hT hTD => ?_)
  cbv
  rw [hT]
  refine AGo_nilms 3 2 rfl ?_
  refine AGo_up l.length (fun _ => True) (fun j i => [(0, .vs 4 xs), (3, .ms 2 0 j 0 j), (4, I i)]) (fun j => [.own j ((l.take j).flatMap fun x => [I x.w.1, I x.w.2])]) trivial ⟨rfl, rfl, rfl, trivial⟩ (.inl rfl) fun j i hi hj hP Bk hB => ?_
  have hlt : A.lt i (A.vlen xs) = decide (j < l.length) := by subst hA; exact lt_len (by simp [hxs]) hi
  have hadd : ∀ N, j < N → N ≤ 9223372036854775807 → A.add .i64 i 1 = iLen (j + 1) := fun N hj hN => by subst hA; exact add_one hi hj hN
  have hcl : ((l.take j).flatMap fun x => [I x.w.1, I x.w.2]).length = j * 2 := by rw [len_flat (k := 2) (fun _ => rfl)]; simp; omega
  obtain ⟨cs, hcs⟩ : ∃ cs, cs = (l.take j).flatMap fun x => [I x.w.1, I x.w.2] := ⟨_, rfl⟩
  rw [← hcs] at hcl
  rw [← hcs]
  refine SGo_run hA ⟨[0], [], [], []⟩ .nil .nil 200 fun T TD hT hTD => ?_
  cbv
  split <;> cbv
  · rename_i hk1
    have hk1 : j < l.length := by have := hlt.symm.trans hk1; simpa using this
    obtain ⟨⟨x1, ⟨x2, x3⟩, x4⟩, hx⟩ : ∃ x, l[j]? = some x := ⟨_, List.getElem?_eq_getElem hk1⟩
    have hix : A.ix 4 4 xs i [I x1, I x2, I x3, I x4] := by subst hA; exact ix_map hxs hi hx rfl
    refine Exists.intro _ (And.intro hix ?_)
    cbv
    refine And.intro (hsg _) (Exists.intro (cs ++ [I x2, I x3]) (Exists.intro (j + 1) (And.intro (by subst hA; exact app_one hcl rfl (by omega)) (And.intro rfl ?_))))
    generalize hcs2 : cs ++ [I x2, I x3] = cs2
    cbv
    refine hB _ _ hk1 trivial ⟨rfl, rfl, congrArg I (hadd _ hk1 (by omega)), trivial⟩ (.inl ?_)
    rw [← hcs2, hcs, List.take_add_one, hx]; simp
  · rename_i hk1
    have hk1 : ¬ j < l.length := by have := hlt.symm.trans hk1; simpa using this
    rw [hF]
    rw [List.take_of_length_le (by omega)] at hcs
    have hj2 : j = l.length := by omega
    subst hcs
    refine Frees.frz 0 j 2 ((l.map (·.w)).map sp) rfl ?_ (Frees.drop0 ?_ ?_)
    · have := Elems_sp (l.map (·.w))
      rw [List.flatMap_map] at this
      exact this
    · simp only [aTup]
      rw [frz_self (by simp [hj2])]; exact h
    · simp only [aTup]
      rw [frz_self (by simp [hj2])]; rfl
end Go.Sas
namespace Go.Sas
open Go.Proofs
set_option maxRecDepth 100000
def sMade : List AV → Option ((Unit → Prop) × (AV → Prop))
  | [] => some (fun _ => True, MdQ)
  | _ => none
def sInsideL : List AV → Option ((Unit → Prop) × (AV → Prop))
  | [x] => match asVs 2 x with
    | some xs => some (fun _ => ∃ l : List (Int × Int), xs = l.map sp ∧ l.length < 1000000 ∧ ∀ x ∈ l, -1000000000 ≤ x.1 ∧ x.1 ≤ x.2 ∧ x.2 ≤ 1000000000, fun r => ∀ l : List (Int × Int), xs = l.map sp → LsQ 1 I (fun r => Ins r l) r)
    | none => none
  | _ => none
theorem sMade_ok : ∀ rest pre Q, sMade rest = some (pre, Q) → pre () → Draws Try.prog 28 rest Q := by
  intro rest pre Q h hp
  unfold sMade at h
  split at h
  · cases h; exact d28
  · cases h
theorem sp_inj {l l' : List (Int × Int)} (h : l.map sp = l'.map sp) : l = l' := by
  refine List.map_inj_right (fun x y hxy => ?_) |>.1 h
  obtain ⟨a, b⟩ := x
  obtain ⟨c, d⟩ := y
  simpa using hxy
theorem sInsideL_ok : ∀ rest pre Q, sInsideL rest = some (pre, Q) → pre () → Draws Try.prog 30 rest Q := by
  intro rest pre Q h hp
  unfold sInsideL at h
  split at h
  · split at h
    · rename_i xs hx
      cases h
      obtain ⟨l, rfl, h1, h2⟩ := hp
      intro w id H hH Kk hk
      refine (d30 l h1 h2 w id H hH Kk fun w' r hr => hk w' r fun l' hl => ?_).wk ⟨Wk.rfl, asVs_wk hx, trivial⟩
      rw [← sp_inj hl]; exact hr
    · cases h
  · cases h
def eWeights : List AV → Option ((AV → Prop) → Prop)
  | [x] => match asVs 4 x with
    | some xs => some fun K => ∃ l : List Load, (xs = l.map ldV ∧ l.length < 1000000) ∧ ∀ ys, ys = (l.map (·.w)).map sp → K (.vs 2 ys)
    | none => none
  | _ => none
theorem eWeights_ok : ∀ args pt, eWeights args = some pt → ∀ (H : AHeap) (Kk : AV → AHeap → Prop), pt (fun r => Kk r H) → ACalls Try.prog 31 args H Kk := by
  intro args pt h H Kk hk
  unfold eWeights at h
  split at h
  · split at h
    · rename_i xs hx
      cases h
      obtain ⟨l, ⟨rfl, h1⟩, h2⟩ := hk
      exact (p31 l h1 H (h2 _ rfl)).wk ⟨asVs_wk hx, trivial⟩
    · cases h
  · cases h
def eBorne : List AV → Option ((AV → Prop) → Prop)
  | [pl, ls, .agg [.lit (.int .i64 ts), ti, tc, tw], .lit (.int .i64 i)] => match asPl pl, asVs 4 ls, asVs 1 ti, asVs 1 tc, asVs 1 tw with
    | some x, some xl, some xi, some xc, some xw => some fun K => ∃ (p : Plate) (l : List Load) (t : Tru) (places k : Nat) (x0 : Load), PlIs p x ∧ xl = l.map ldV ∧ (ts = t.st ∧ xi = t.ice.map I ∧ xc = t.cr.map I ∧ xw = t.ws.map I) ∧ PlateV p ∧ places ≤ 1000 ∧ LoadsV places l ∧ TruB p places l t ∧ i = iLen k ∧ l[k]? = some x0 ∧ ∀ b, b = bornS p l t x0 → K (B b)
    | _, _, _, _, _ => none
  | _ => none
theorem eBorne_ok : ∀ args pt, eBorne args = some pt → ∀ (H : AHeap) (Kk : AV → AHeap → Prop), pt (fun r => Kk r H) → ACalls Try.prog 32 args H Kk := by
  intro args pt h H Kk hk
  unfold eBorne at h
  split at h
  · split at h
    · rename_i x xl xi xc xw hy h1 h2 h3 h4
      cases h
      obtain ⟨p, l, t, places, k, x0, g1, rfl, ⟨rfl, rfl, rfl, rfl⟩, g2, g3, g4, g5, rfl, g6, g7⟩ := hk
      obtain ⟨a, b, xs, ec, ne, ed, gr, lo, hi, sh, wi⟩ := x
      exact (p32 p g1 g2 places g3 l g4 t g5 k x0 g6 H (g7 _ rfl)).wk ⟨asPl_wk hy, asVs_wk h1, Wk.agg ⟨Wk.rfl, asVs_wk h2, asVs_wk h3, asVs_wk h4, trivial⟩, Wk.rfl, trivial⟩
    · cases h
  · cases h
theorem Ins.mem : ∀ {ns : List Int} {l : List (Int × Int)}, Ins ns l → ∀ n ∈ ns, ∃ x ∈ l, x.1 ≤ n ∧ n ≤ x.2
  | [], [], _, n, hn => by cases hn
  | m :: ns, x :: l, h, n, hn => by
    rcases List.mem_cons.1 hn with rfl | hn
    · exact ⟨x, by simp, h.1⟩
    · obtain ⟨y, hy, h2⟩ := Ins.mem h.2 n hn
      exact ⟨y, by simp [hy], h2⟩
  | [], _ :: _, h, _, _ => h.elim
  | _ :: _, [], h, _, _ => h.elim
theorem TruV.b {p : Plate} {ice cr : List (Int × Int)} {l : List Load} {t : Tru} (hM : MadeV p ice cr l) (h : TruV p ice cr l t) : TruB p ice.length l t := by
  have hV := hM.road
  have h1 := h.st
  have h2 := hV.p.s1
  have h3 := hV.p.s3
  refine ⟨by omega, h.ice.len, fun n hn => ?_, by rw [h.cr.len]; exact hV.cl, fun n hn => ?_, by rw [h.ws.len]; simp, fun n hn => ?_⟩
  · obtain ⟨x, hx, h4⟩ := h.ice.mem n hn
    have := hV.ib x hx; omega
  · obtain ⟨x, hx, h4⟩ := h.cr.mem n hn
    have := hV.cb x hx; omega
  · obtain ⟨x, hx, h4⟩ := h.ws.mem n hn
    obtain ⟨y, hy, rfl⟩ := List.mem_map.1 hx
    have := hM.lb y hy
    have h5 := this.w1
    have h6 := this.w3
    omega
theorem veS_bnd {p : Plate} {ice cr : List (Int × Int)} {l : List Load} {x : Load} : veS p ice cr l x = 1 ∨ veS p ice cr l x = 2 ∨ veS p ice cr l x = 3 := by
  unfold veS; split
  · exact .inl rfl
  · split
    · exact .inr (.inl rfl)
    · exact .inr (.inr rfl)
set_option maxHeartbeats 4000000 in
theorem core4 (nums : List Int) (hn1 : BigL nums) : ACalls Try.prog 4 [.vs 1 (nums.map I)] [] fun r _ => r = B true := by
  obtain ⟨Kk, hKk⟩ : ∃ K : AV → AHeap → Prop, K = fun r _ => r = B true := ⟨_, rfl⟩
  rw [← hKk]
  have hk : ∀ H, Kk (B true) H := fun H => by rw [hKk]
  clear hKk
  obtain ⟨xn, hxn⟩ : ∃ ys, ys = nums.map I := ⟨_, rfl⟩
  rw [← hxn]
  obtain ⟨A, hA⟩ : ∃ A, A = std := ⟨_, rfl⟩
  have hne0 : A.ne 0 0 = false := by subst hA; rfl
  refine go4 rfl (SGo_run hA ⟨[], [0], (19, eTrue) :: (25, eHolds) :: (31, eWeights) :: (32, eBorne) :: [], (20, eSeed) :: (28, eDraw sMade) :: (29, eDraw sInside) :: (30, eDraw sInsideL) :: []⟩ (.cons eTrue_ok (.cons (eHolds_ok p25) (.cons eWeights_ok (.cons eBorne_ok .nil)))) (.cons eSeed_ok (.cons (eDraw_ok sMade_ok) (.cons (eDraw_ok sInside_ok) (.cons (eDraw_ok sInsideL_ok) .nil)))) 200 fun T TD hT hTD => ?_)
  cbv
  refine Exists.intro nums (And.intro ⟨hxn, hn1⟩ ?_)
  intro w1
  cbv
  refine Exists.intro () (And.intro trivial ?_)
  rintro w2 _ ⟨p, a, b, xs, ec, ne, ed, gr, lo, hi, sh, wi, ice, cr, l, xi, xc, xl, rfl, hp, hxi, hxc, hxl, hM⟩
  have hV := hM.road
  have hil := hM.il
  have hcl := hM.cl
  have hll := hM.ll
  have hib := hM.ib
  have hlb := hM.lb
  have hcb := hV.cb
  have hst : -1000000000 ≤ a ∧ a ≤ b ∧ b ≤ 1000000000 := by
    have h1 := hV.p.s1; have h2 := hV.p.s2; have h3 := hV.p.s3; rw [hp.str] at h1 h2 h3; simp only at h1 h2 h3; omega
  have hb1 : Big p.shares := by have := hV.p.sh.len; unfold Big; omega
  have hb2 : Big p.creep := by have := hV.p.cr.len; unfold Big; omega
  have hb3 : BigL ice := by unfold BigL; omega
  have hb4 : BigL cr := by unfold BigL; omega
  have hb5 : BigL l := by unfold BigL; omega
  have hH := hM.holds
  have hpre1 : ∃ q : List (Int × Int), xi = q.map sp ∧ q.length < 1000000 ∧ ∀ x ∈ q, -1000000000 ≤ x.1 ∧ x.1 ≤ x.2 ∧ x.2 ≤ 1000000000 := ⟨ice, hxi, by omega, fun x hx => by have := hib x hx; omega⟩
  have hpre2 : ∃ q : List (Int × Int), xc = q.map sp ∧ q.length < 1000000 ∧ ∀ x ∈ q, -1000000000 ≤ x.1 ∧ x.1 ≤ x.2 ∧ x.2 ≤ 1000000000 := ⟨cr, hxc, by omega, fun x hx => by have := hcb x hx; omega⟩
  have hpre3 : ∀ zs, zs = (l.map (·.w)).map sp → ∃ q : List (Int × Int), zs = q.map sp ∧ q.length < 1000000 ∧ ∀ x ∈ q, -1000000000 ≤ x.1 ∧ x.1 ≤ x.2 ∧ x.2 ≤ 1000000000 := fun zs hzs => ⟨l.map (·.w), hzs, by simp; omega, fun x hx => by
    obtain ⟨y, hy, rfl⟩ := List.mem_map.1 hx
    have h1 := (hlb y hy).w1; have h2 := (hlb y hy).w2; have h3 := (hlb y hy).w3; omega⟩
  have hl6 : l.length < 1000000 := by omega
  cbv
  refine Exists.intro p (Exists.intro ice (Exists.intro cr (Exists.intro l (And.intro hp (And.intro hb1 (And.intro hb2 (And.intro ⟨hxi, hb3⟩ (And.intro ⟨hxc, hb4⟩ (And.intro ⟨hxl, hb5⟩ ?_)))))))))
  rintro r e zs hre hzs
  rw [hH] at hre
  obtain ⟨rfl, rfl⟩ := Prod.mk.inj hre
  cbv
  split <;> cbv
  · rename_i hq; exact Bool.noConfusion (hq.symm.trans hne0)
  have hzl : A.ne (A.vlen zs) (A.vlen xl) = false := by subst hA hzs hxl; simp [std, iNe]
  split <;> cbv
  · rename_i hq; exact Bool.noConfusion (hq.symm.trans hzl)
  refine Exists.intro () (And.intro hst ?_)
  rintro w3 _ ⟨ts, rfl, hts1, hts2⟩
  cbv
  try refine And.intro (by subst hA; simp [std, Keep, SubH, ResK]) ?_
  refine Exists.intro () (And.intro hpre1 ?_)
  rintro w4 r4 hr4
  obtain ⟨ti, xti, rfl, hxti, hti⟩ := hr4 ice hxi
  cbv
  try refine And.intro (by subst hA; simp [std, Keep, SubH, ResK]) ?_
  refine Exists.intro () (And.intro hpre2 ?_)
  rintro w5 r5 hr5
  obtain ⟨tc, xtc, rfl, hxtc, htc⟩ := hr5 cr hxc
  cbv
  try refine And.intro (by subst hA; simp [std, Keep, SubH, ResK]) ?_
  refine Exists.intro l (And.intro ⟨hxl, hl6⟩ ?_)
  rintro ws hws
  cbv
  refine Exists.intro () (And.intro (hpre3 ws hws) ?_)
  rintro w6 r6 hr6
  obtain ⟨tw, xtw, rfl, hxtw, htw⟩ := hr6 _ hws
  cbv
  try refine And.intro (by subst hA; simp [std, Keep, SubH, ResK]) ?_
  rw [hT]
  have htv : TruV p ice cr l ⟨ts, ti, tc, tw⟩ := ⟨by rw [hp.str]; exact ⟨hts1, hts2⟩, hti, htc, htw⟩
  have htb := htv.b hM
  refine AGo_up l.length (fun _ => True) (fun _ i => [(2, B false), (4, .mp 1 0 0), (5, .vs 1 zs), (7, .mp 2 0 0), (8, I i)])
    (fun _ => [.own 0 [U w6], .own 0 [I a, I b, .vs 2 xs, .vs 2 ec, I ne, I ed, I gr, I lo, I hi, I sh, I wi, .vs 2 xi, .vs 2 xc, .vs 4 xl], .own 0 [I ts, .vs 1 xti, .vs 1 xtc, .vs 1 xtw]]) trivial ⟨rfl, rfl, rfl, rfl, rfl, trivial⟩ (.inl rfl) fun j i hij hj _ Bk hB => ?_
  have hlt : A.lt i (A.vlen zs) = decide (j < l.length) := by subst hA; exact lt_len (by simp [hzs]) hij
  have hadd : j < l.length → A.add .i64 i 1 = iLen (j + 1) := fun hj => by subst hA; exact add_one hij hj (by omega)
  refine SGo_run hA ⟨[], [], (19, eTrue) :: (32, eBorne) :: [], []⟩ (.cons eTrue_ok (.cons eBorne_ok .nil)) .nil 200 fun T TD hT hTD => ?_
  cbv
  split <;> cbv
  · rename_i hk1
    have hk1 : j < l.length := by have := hlt.symm.trans hk1; simpa using this
    obtain ⟨x0, hx⟩ : ∃ x, l[j]? = some x := ⟨_, List.getElem?_eq_getElem hk1⟩
    have hx0 := hlb x0 (List.mem_of_getElem? hx)
    have hbes := bes hV htv hx0
    obtain ⟨vv, hvv⟩ : ∃ vv, vv = veS p ice cr l x0 := ⟨_, rfl⟩
    rw [← hvv] at hbes
    have hixz : A.ix 1 1 zs i [I vv] := by subst hA; exact ix_map hzs hij (by rw [List.getElem?_map, hx]; rfl) (by rw [hvv]; rfl)
    have hload : LoadsV ice.length l := ⟨by omega, hlb⟩
    refine Exists.intro p (Exists.intro l (Exists.intro ⟨ts, ti, tc, tw⟩ (Exists.intro ice.length (Exists.intro j (Exists.intro x0 (And.intro hp (And.intro hxl (And.intro ⟨rfl, hxti, hxtc, hxtw⟩ (And.intro hV.p (And.intro hV.il (And.intro hload (And.intro htb (And.intro hij (And.intro hx ?_))))))))))))))
    rintro bb hbb
    rw [← hbb] at hbes
    cbv
    repeat' (first | (refine Exists.intro _ (And.intro hixz ?_); cbv) | (split <;> cbv))
    all_goals first
      | exact hB _ _ hk1 trivial ⟨rfl, rfl, rfl, rfl, congrArg I (hadd hk1), trivial⟩ (.inl rfl)
      | skip
    all_goals
      exfalso
      clear hB hadd hlt hixz hpre1 hpre2 hpre3 hzl hne0 htb htv hbb hvv
      subst hA
      simp only [std, iEq, beq_iff_eq, beq_eq_false_iff_ne, ne_eq, Bool.not_eq_true', Bool.not_eq_false'] at *
      simp_all
  · exact hk _
end Go.Sas
