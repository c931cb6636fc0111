/-
sort.Search: contract.
Probe: Lasts: contract.
Conditions: none.
-/
import Derived.Test.YtpokfjhlilbpfaaDoorPKd
import Derived.Test.YtpokfjhlilbpfaaDoorQRFg
import Derived.Test.YtpokfjhlilbpfaaDoorPCd
import Derived.Test.YtpokfjhlilbpfaaDoorPVd
import Derived.Test.YtpokfjhlilbpfaaDoorQR38
import Derived.Test.YtpokfjhlilbpfaaDoorXFd
import Derived.Test.YtpokfjhlilbpfaaDoorPUd
set_option linter.unusedVariables false
set_option linter.unusedSimpArgs false
namespace Go.Sas
open Go.Proofs
set_option maxRecDepth 100000
theorem mid_eq {i j : Nat} (hj : j ≤ 1000000) (hi : i < j) : iCv .i64 (iShr .u64 (iCv .u64 (iAdd .i64 (iLen i) (iLen j))) 1) = iLen ((i + j) / 2) := by
  have h1 : iAdd .i64 (iLen i) (iLen j) = ((i + j : Nat) : Int) := by
    rw [iAdd_id] <;> (unfold iLen; omega)
  rw [h1]
  have h2 : iCv .u64 ((i + j : Nat) : Int) = ((i + j : Nat) : Int) := by
    simp [iCv, IntKind.wrap, IntKind.signed, IntKind.bits]; omega
  rw [h2]
  have h3 : iShr .u64 ((i + j : Nat) : Int) 1 = (((i + j) / 2 : Nat) : Int) := by
    simp only [iShr]
    rw [show (min (1 : Int).toNat IntKind.u64.bits) = 1 from rfl]
    rw [Int.fdiv_eq_ediv_of_nonneg _ (by decide)]
    omega
  rw [h3]
  exact wrap_id (by omega) (by omega)
theorem p46 {f : Nat} {caps : List AV} (q : Nat → Bool) (N : Nat) (hN : N ≤ 1000000) (H : AHeap) (hf : ∀ n, n < N → ∀ Kk : AV → AHeap → Prop, Kk (B (q n)) H → ACalls Tryd.prog f (I (iLen n) :: caps) H Kk) {Kk : AV → AHeap → Prop}
    (h : ∀ r : Nat, r ≤ N → (∀ i, r = i + 1 → q i = false) → (r < N → q r = true) → Kk (I (iLen r)) H) : ACalls Tryd.prog 46 [I (iLen N), .fn f caps] H Kk := by
  obtain ⟨A, hA⟩ : ∃ A, A = std := ⟨_, rfl⟩
  obtain ⟨L, hL⟩ : ∃ L, L = iLen N := ⟨_, rfl⟩
  rw [← hL]
  refine go46 rfl ?_
  obtain ⟨R, hR⟩ : ∃ R, R = RetP [ARes.t (Od.g 4)] H.length Kk := ⟨_, rfl⟩
  rw [← hR]
  refine SGo_run hA ⟨[], [], [], []⟩ .nil .nil 200 fun T TD hT hTD => ?_
  cbv
  rw [hT]
  refine AGo_while (σ := { x : Nat × Nat // x.1 ≤ x.2 ∧ x.2 ≤ N ∧ (∀ i, x.1 = i + 1 → q i = false) ∧ (x.2 < N → q x.2 = true) }) (fun x => x.1.2 - x.1.1) (fun x => [(1, .fn f caps), (5, I (iLen x.1.1)), (6, I (iLen x.1.2))]) (fun _ => H) ⟨(0, N), by omega, by omega, fun i hi => by omega, fun h => by omega⟩ ⟨rfl, rfl, congrArg I hL, trivial⟩ (.inl rfl) ?_
  rintro ⟨⟨i, j⟩, h1, h2, h3, h4⟩ Bk hB
  simp only at h1 h2 h3 h4
  obtain ⟨a, ha⟩ : ∃ a, a = iLen i := ⟨_, rfl⟩
  obtain ⟨b, hb⟩ : ∃ b, b = iLen j := ⟨_, rfl⟩
  have hlt : A.lt a b = decide (i < j) := by subst hA; simp only [std, iLt, ha, hb]; unfold iLen; rw [decide_eq_decide]; omega
  simp only
  rw [← ha, ← hb]
  refine SGo_run hA ⟨[], [], [], []⟩ .nil .nil 200 fun T TD hT hTD => ?_
  cbv
  split <;> cbv
  · rename_i hq
    have hij : i < j := by have := hlt.symm.trans hq; simpa using this
    rw [hT]
    obtain ⟨c, hc⟩ : ∃ c, c = A.cv .i64 (A.shr .u64 (A.cv .u64 (A.add .i64 a b)) 1) := ⟨_, rfl⟩
    have hm : c = iLen ((i + j) / 2) := by rw [hc]; subst hA; rw [ha, hb]; exact mid_eq (by omega) hij
    have hadd : A.add .i64 c 1 = iLen ((i + j) / 2 + 1) := by subst hA; exact add_one hm (N := 1000001) (by omega) (by omega)
    refine AGo_call rfl rfl (fid := f) (caps := caps) ?_
    show ACalls _ f (I (A.cv .i64 (A.shr .u64 (A.cv .u64 (A.add .i64 a b)) 1)) :: caps) H _
    rw [← hc, hm]
    refine hf _ (by omega) _ ?_
    obtain ⟨qb, hqb⟩ : ∃ b, b = q ((i + j) / 2) := ⟨_, rfl⟩
    rw [← hqb]
    have hnb : ∀ b, A.bnot b = !b := by subst hA; intro b; rfl
    refine SGo_run hA ⟨[], [], [], []⟩ .nil .nil 200 fun T TD hT hTD => ?_
    cbv
    split <;> cbv
    · rename_i hz
      have hz : qb = false := by have := (hnb qb).symm.trans hz; simpa using this
      refine hB ⟨((i + j) / 2 + 1, j), by simp only; omega, h2, fun k hk => ?_, h4⟩ _ _ (by simp only; omega) ⟨rfl, congrArg I (by rw [← hadd, hc]), congrArg I hb, trivial⟩ (.inl rfl)
      simp only at hk
      rw [show k = (i + j) / 2 by omega, ← hqb, hz]
    · rename_i hz
      have hz : qb = true := by have := (hnb qb).symm.trans hz; simpa using this
      refine hB ⟨(i, (i + j) / 2), by simp only; omega, by simp only; omega, h3, fun _ => by simp only; rw [← hqb, hz]⟩ _ _ (by simp only; omega) ⟨rfl, congrArg I ha, congrArg I (by rw [← hm, hc]), trivial⟩ (.inl rfl)
  · rename_i hq
    have hij : ¬ i < j := by have := hlt.symm.trans hq; simpa using this
    rw [hR]
    refine RetP.same rfl rfl ?_
    rw [ha]
    have hj : j = i := by omega
    subst hj
    exact h _ h2 h3 h4
end Go.Sas
namespace Go.Sas
open Go.Proofs
set_option maxRecDepth 100000
abbrev lasH (a b c need h0 pl : Int) (xs ws zs la ma : List AV) : AHeap :=
  [.own 0 [.vs 5 xs, I a, I b, I c], .own 0 [I need], .own 0 [I h0], .own 0 [I pl], .own 0 [.vs 5 xs, I a, I b, I c, .vs 1 ws, .vs 5 zs], .own 0 [.vs 5 la], .own 0 [.vs 5 ma]]
theorem p47 (rs : List Rch) (a b c need h0 pl : Int) (l : List Lk) (m : List Mrk) (xs ws zs la ma : List AV) (n : Nat) (hgr : GrIs rs xs ws zs) (hla : la = l.map lkV) (hma : ma = m.map mkV) (ho : RoadOk rs) (hs : SgtOk a b c) (hl : l.length ≤ 1000000) (hL : ∀ x ∈ l, LkOk (sumLg rs) x) (hml : m.length ≤ 19) (hm : ∀ x ∈ m, MkOk (sumLg rs) x)
    (hh : 0 ≤ h0 ∧ h0 + iLen n ≤ 10000) (hp : 0 ≤ pl ∧ pl ≤ iLen (plc rs).length - 1) {Kk : AV → AHeap → Prop} (h : Kk (B (decide (whyS (plc rs) a b c l m need (h0 + iLen n) pl.toNat ≠ 0))) (lasH a b c need h0 pl xs ws zs la ma)) :
    ACalls Tryd.prog 47 [I (iLen n), .mp 4 0 0, .mp 5 0 0, .mp 6 0 0, .mp 1 0 0, .mp 2 0 0, .mp 3 0 0] (lasH a b c need h0 pl xs ws zs la ma) Kk := by
  obtain ⟨A, hA⟩ : ∃ A, A = std := ⟨_, rfl⟩
  have hne : ∀ x y, A.ne x y = decide (x ≠ y) := by subst hA; intro x y; simp only [std, iNe]; rw [Bool.eq_iff_iff]; simp
  have hee : ∀ x y, A.eq x y = decide (x = y) := by subst hA; intro x y; exact iEq_dec _ _
  have hll : ∀ x y, A.lt x y = decide (x < y) := by subst hA; intro x y; rfl
  have hle : ∀ x y, A.le x y = decide (x ≤ y) := by subst hA; intro x y; rfl
  have hnb : ∀ b, A.bnot b = !b := by subst hA; intro b; rfl
  have hbd : ∀ x y, A.band x y = (x && y) := by subst hA; intro x y; rfl
  have hsg : ∀ g, A.sg g g := by subst hA; exact fun _ => rfl
  have hsb := sumLg_bnd' ho
  obtain ⟨i, hi⟩ : ∃ i, i = iLen n := ⟨_, rfl⟩
  rw [← hi] at hh h ⊢
  have hi0 : 0 ≤ i := by rw [hi]; unfold iLen; omega
  have hadd : A.add .i64 h0 i = h0 + i := by subst hA; exact iAdd_id (by omega) (by omega)
  refine go47 rfl (SGo_run hA ⟨[], [], (44, eReasons CovM) :: [], []⟩ (.cons (eReasons_ok CovM.ok) .nil) .nil 200 fun T TD hT hTD => ?_)
  cbv
  refine Exists.intro rs (Exists.intro l (Exists.intro m (And.intro hgr (And.intro hla (And.intro hma (And.intro ho (And.intro hs (And.intro hl (And.intro hL (And.intro (by omega) (And.intro ?_ (And.intro ?_ ?_))))))))))))
  · show CovM m (A.add .i64 h0 i) (sumLg rs)
    rw [hadd]; exact ⟨hml, hm, by omega, by omega, by omega⟩
  · show 0 ≤ A.add .i64 h0 i ∧ A.add .i64 h0 i ≤ 10000
    rw [hadd]; omega
  intro N V vs hN hV hvs; cbv
  have hV : V = whyS (plc rs) a b c l m need (h0 + i) := by rw [← hadd]; exact hV
  obtain ⟨p, hpp⟩ : ∃ p : Nat, pl = iLen p := ⟨pl.toNat, by unfold iLen; omega⟩
  have hpn : pl.toNat = p := by rw [hpp]; unfold iLen; omega
  have hpN : p < N := by rw [hN]; unfold iLen at hpp hp; omega
  have hix : A.ix 1 1 vs pl [I (V p)] := by
    subst hA; refine ix_map (l := (List.range N).map V) (f := I) hvs hpp (x := V p) ?_ rfl
    rw [List.getElem?_map, List.getElem?_range hpN]; rfl
  refine Exists.intro _ (And.intro hix ?_); cbv
  refine leaf h (congrArg B ?_) rfl
  rw [hpn, ← hV]; exact (hne _ _).symm
set_option maxHeartbeats 1000000 in
theorem p23 (rs : List Rch) (a b c : Int) (l : List Lk) (m : List Mrk) (need h0 pl : Int) (h1 : rs.length ≤ 9223372036854775807) (h2 : l.length ≤ 9223372036854775807) (h3 : m.length ≤ 9223372036854775807) (hCm : m.length ≤ 19 ∨ 100 < m.length) (H : AHeap) {Kk : AV → AHeap → Prop}
    (h : ∀ v e, LastQ rs a b c l m need h0 pl v e → Kk (.tup [I v, I e]) H) : ACalls Tryd.prog 23 [svV (.vs 5 (rs.map rcV)) a b c, .vs 5 (l.map lkV), .vs 5 (m.map mkV), I need, I h0, I pl] H Kk := by
  have hnr := nidL_rc rs
  refine (fun q => pureQ (Q := fun r => ∃ v e, r = .tup [I v, I e] ∧ LastQ rs a b c l m need h0 pl v e) (by simp [AV.nidL, AV.nid, hnr, nidL_map (g := lkV) (fun _ => rfl) l, nidL_map (g := mkV) (fun _ => rfl) m]) (by rintro r ⟨v, e, rfl, _⟩; rfl) q H (by rintro r ⟨v, e, rfl, hq⟩; exact h v e hq)) ?_
  clear h
  intro Kk h
  have h : ∀ v e H, LastQ rs a b c l m need h0 pl v e → Frees 0 Kk (.tup [I v, I e]) H := fun v e H hq => Frees.drop0 (h _ ⟨v, e, rfl, hq⟩) rfl
  obtain ⟨F, hF⟩ : ∃ F, F = Frees 0 Kk := ⟨_, rfl⟩
  rw [← hF] at h ⊢
  obtain ⟨xs, hxs⟩ : ∃ xs, xs = rs.map rcV := ⟨_, rfl⟩
  obtain ⟨ls, hls⟩ : ∃ ys, ys = l.map lkV := ⟨_, rfl⟩
  obtain ⟨ms, hms⟩ : ∃ ys, ys = m.map mkV := ⟨_, rfl⟩
  rw [← hxs, ← hls, ← hms]
  obtain ⟨E, hE⟩ : ∃ E, E = askE rs a b c l m need h0 := ⟨_, rfl⟩
  have hw1 : ∀ e H, e = askE rs a b c l m need h0 → e ≠ 0 → F (.tup [I 0, I e]) H := fun e H he h0 => h _ _ H ⟨fun _ => ⟨rfl, he⟩, fun hq => absurd (he.trans hq) h0, fun hq => absurd (he.trans hq) h0⟩
  have hw2 : askE rs a b c l m need h0 = 0 → ∀ H, ¬ (0 ≤ pl ∧ pl ≤ iLen (plc rs).length - 1) → F (.tup [I 0, I 7]) H := fun h0 H hq => h _ _ H ⟨fun h => absurd h0 h, fun _ _ => ⟨rfl, rfl⟩, fun _ h => absurd h hq⟩
  have hw3 : askE rs a b c l m need h0 = 0 → 0 ≤ pl ∧ pl ≤ iLen (plc rs).length - 1 → ∀ r v H, FstR (shutQ (plc rs) a b c l m need h0 pl.toNat) (10001 - h0).toNat r → v = (if r = 0 then -1 else h0 + iLen r - 1) → F (.tup [I v, I 0]) H := fun h0 hp r v H hr hv => h _ _ H ⟨fun h => absurd h0 h, fun _ h => absurd hp h, fun _ _ => ⟨rfl, r, hr, hv⟩⟩
  clear h
  obtain ⟨A, hA⟩ : ∃ A, A = std := ⟨_, rfl⟩
  have hne : ∀ x y, A.ne x y = decide (x ≠ y) := by subst hA; intro x y; simp only [std, iNe]; rw [Bool.eq_iff_iff]; simp
  have hee : ∀ x y, A.eq x y = decide (x = y) := by subst hA; intro x y; exact iEq_dec _ _
  have hll : ∀ x y, A.lt x y = decide (x < y) := by subst hA; intro x y; rfl
  have hle : ∀ x y, A.le x y = decide (x ≤ y) := by subst hA; intro x y; rfl
  have hnb : ∀ b, A.bnot b = !b := by subst hA; intro b; rfl
  have hbd : ∀ x y, A.band x y = (x && y) := by subst hA; intro x y; rfl
  have hsg : ∀ g, A.sg g g := by subst hA; exact fun _ => rfl
  refine go23 rfl (SGo_run hA ⟨[], [], (43, eAsked) :: (16, eIn) :: [], []⟩ (.cons eAsked_ok (.cons (eIn_ok p16) .nil)) .nil 200 fun T TD hT hTD => ?_)
  cbv
  refine Exists.intro rs (Exists.intro l (Exists.intro m (And.intro hxs (And.intro hls (And.intro hms (And.intro h1 (And.intro h2 (And.intro h3 (And.intro ?_ ?_)))))))))
  · intro e a1 a2 a3 a4 a5 a6 x y he h0 _ hx hy; subst hx hy; cbv
    split <;> cbv
    · exact hw1 e _ he h0
    · rename_i hz; exact absurd (of_decide_eq_false ((hne e 0).symm.trans hz)) (fun h => h h0)
  intro hE0 ws zs la ma hgr hla hma; cbv
  split <;> cbv
  · rename_i hz; exact absurd rfl (of_decide_eq_true ((hne 0 0).symm.trans hz))
  obtain ⟨ho, hs, hlo, hm1, hm2, _, hh⟩ := askE_ok.1 hE0
  have hw2 := hw2 hE0
  have hw3 := hw3 hE0
  clear hw1
  have hll1 := hlo.le
  have hpn := ho.le'
  have hp1 : 1 ≤ (plc rs).length := ho.plc.pos
  have hzl : A.vlen zs = iLen (plc rs).length := by subst hA; rw [hgr.2.2]; simp [std]
  have hz1 : A.sub .i64 (A.vlen zs) 1 = iLen (plc rs).length - 1 := by rw [hzl]; subst hA; exact iSub_id (by unfold iLen; omega) (by unfold iLen; omega)
  intro b1 hb1; cbv
  have hb1 : b1 = decide (0 ≤ pl ∧ pl ≤ iLen (plc rs).length - 1) := by rw [← hz1]; exact hb1
  split <;> cbv
  · rename_i hz
    have hz : b1 = false := by have hz := (hnb b1).symm.trans hz; simpa using hz
    rw [hb1, decide_eq_false_iff_not] at hz
    exact hw2 _ hz
  rename_i hz
  have hz : b1 = true := by have hz := (hnb b1).symm.trans hz; simpa using hz
  rw [hb1, decide_eq_true_eq] at hz
  have hw3 := hw3 hz
  clear hw2
  rw [hT]
  refine AGo_call rfl rfl (fid := 46) (caps := []) ?_
  show ACalls _ 46 [I (A.add .i64 (A.sub .i64 10000 h0) 1), .fn 47 [.mp 4 0 0, .mp 5 0 0, .mp 6 0 0, .mp 1 0 0, .mp 2 0 0, .mp 3 0 0]] (lasH a b c need h0 pl xs ws zs la ma) _
  obtain ⟨N1, hN1⟩ : ∃ N1 : Nat, N1 = (10001 - h0).toNat := ⟨_, rfl⟩
  have hN1e : A.add .i64 (A.sub .i64 10000 h0) 1 = iLen N1 := by
    subst hA; show iAdd .i64 (iSub .i64 10000 h0) 1 = _
    rw [iSub_id (by omega) (by omega), iAdd_id (by omega) (by omega), hN1]; unfold iLen; omega
  rw [hN1e]
  obtain ⟨Q, hQ⟩ : ∃ Q, Q = shutQ (plc rs) a b c l m need h0 pl.toNat := ⟨_, rfl⟩
  rw [← hQ, ← hN1] at hw3
  refine p46 Q N1 (by omega) _ (fun n hn Kk hk => p47 rs a b c need h0 pl (pastL l h0) (pastM m h0) xs ws zs la ma n hgr hla hma ho hs ?_ (fun x hx => hlo.all' ho x (pastL_mem hx)) ?_ (fun x hx => hm2 x (pastM_mem hx)) ⟨hh.1, by unfold iLen; omega⟩ hz (by rw [hQ] at hk; exact hk)) ?_
  · have := pastL_len (l := l) (h := h0); omega
  · have := pastM_len (l := m) (h := h0); omega
  intro r hr1 hr2 hr3
  have hfr : FstR Q N1 r := FstR.of_mono (fun i hi => by rw [hQ] at hi ⊢; exact shutQ_mono ho.plc (by unfold iLen at hz; omega) (fun x hx => (hm2 x hx).2.2.2.2.2.1) i hi) hr1 hr2 hr3
  obtain ⟨rv, hrv⟩ : ∃ v, v = iLen r := ⟨_, rfl⟩
  rw [← hrv]
  have hr0 : A.eq rv 0 = decide (r = 0) := by rw [hee, decide_eq_decide, hrv]; unfold iLen; omega
  refine SGo_run hA ⟨[], [], [], []⟩ .nil .nil 200 fun T TD hT hTD => ?_
  cbv
  split <;> cbv
  · rename_i hz2
    have hz2 := of_decide_eq_true (hr0.symm.trans hz2)
    exact hw3 r _ _ hfr (by rw [if_pos hz2])
  · rename_i hz2
    have hz2 := of_decide_eq_false (hr0.symm.trans hz2)
    refine hw3 r _ _ hfr ?_
    rw [if_neg hz2]
    show A.sub .i64 (A.add .i64 h0 rv) 1 = _
    subst hA; show iSub .i64 (iAdd .i64 h0 rv) 1 = _
    rw [iAdd_id (by unfold iLen at hrv; omega) (by unfold iLen at hrv; omega), iSub_id (by unfold iLen at hrv; omega) (by unfold iLen at hrv; omega), hrv]
end Go.Sas
