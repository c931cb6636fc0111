/-
The law of what truly is answers true.
Conditions: none.
-/
import Derived.Test.YtelmlpjkpebcgaaB23
set_option linter.unusedVariables false
set_option linter.unusedSimpArgs false
namespace Go.Sas
open Go.Proofs
set_option maxRecDepth 100000
def sMade : List AV → Option ((Unit → Prop) × (AV → Prop))
  | [] => some (fun _ => True, MdQ)
  | _ => none
def sInsideL : List AV → Option ((Unit → Prop) × (AV → Prop))
  | [x] => match asVs 2 x with
    | some xs => some (fun _ => ∃ l : List (Int × Int), xs = l.map sp ∧ l.length < 1000000 ∧ ∀ x ∈ l, -1000000000 ≤ x.1 ∧ x.1 ≤ x.2 ∧ x.2 ≤ 1000000000, fun r => ∀ l : List (Int × Int), xs = l.map sp → LsQ 1 I (fun r => Ins r l) r)
    | none => none
  | _ => none
theorem sMade_ok : ∀ rest pre Q, sMade rest = some (pre, Q) → pre () → Draws Try.prog 28 rest Q := by
  intro rest pre Q h hp
  unfold sMade at h
  split at h
  · cases h; exact d28
  · cases h
theorem sp_inj {l l' : List (Int × Int)} (h : l.map sp = l'.map sp) : l = l' := by
  refine List.map_inj_right (fun x y hxy => ?_) |>.1 h
  obtain ⟨a, b⟩ := x
  obtain ⟨c, d⟩ := y
  simpa using hxy
theorem sInsideL_ok : ∀ rest pre Q, sInsideL rest = some (pre, Q) → pre () → Draws Try.prog 30 rest Q := by
  intro rest pre Q h hp
  unfold sInsideL at h
  split at h
  · split at h
    · rename_i xs hx
      cases h
      obtain ⟨l, rfl, h1, h2⟩ := hp
      intro w id H hH Kk hk
      refine (d30 l h1 h2 w id H hH Kk fun w' r hr => hk w' r fun l' hl => ?_).wk ⟨Wk.rfl, asVs_wk hx, trivial⟩
      rw [← sp_inj hl]; exact hr
    · cases h
  · cases h
def eWeights : List AV → Option ((AV → Prop) → Prop)
  | [x] => match asVs 4 x with
    | some xs => some fun K => ∃ l : List Load, (xs = l.map ldV ∧ l.length < 1000000) ∧ ∀ ys, ys = (l.map (·.w)).map sp → K (.vs 2 ys)
    | none => none
  | _ => none
theorem eWeights_ok : ∀ args pt, eWeights args = some pt → ∀ (H : AHeap) (Kk : AV → AHeap → Prop), pt (fun r => Kk r H) → ACalls Try.prog 31 args H Kk := by
  intro args pt h H Kk hk
  unfold eWeights at h
  split at h
  · split at h
    · rename_i xs hx
      cases h
      obtain ⟨l, ⟨rfl, h1⟩, h2⟩ := hk
      exact (p31 l h1 H (h2 _ rfl)).wk ⟨asVs_wk hx, trivial⟩
    · cases h
  · cases h
def eBorne : List AV → Option ((AV → Prop) → Prop)
  | [pl, ls, .agg [.lit (.int .i64 ts), ti, tc, tw], .lit (.int .i64 i)] => match asPl pl, asVs 4 ls, asVs 1 ti, asVs 1 tc, asVs 1 tw with
    | some x, some xl, some xi, some xc, some xw => some fun K => ∃ (p : Plate) (l : List Load) (t : Tru) (places k : Nat) (x0 : Load), PlIs p x ∧ xl = l.map ldV ∧ (ts = t.st ∧ xi = t.ice.map I ∧ xc = t.cr.map I ∧ xw = t.ws.map I) ∧ PlateV p ∧ places ≤ 1000 ∧ LoadsV places l ∧ TruB p places l t ∧ i = iLen k ∧ l[k]? = some x0 ∧ ∀ b, b = bornS p l t x0 → K (B b)
    | _, _, _, _, _ => none
  | _ => none
theorem eBorne_ok : ∀ args pt, eBorne args = some pt → ∀ (H : AHeap) (Kk : AV → AHeap → Prop), pt (fun r => Kk r H) → ACalls Try.prog 32 args H Kk := by
  intro args pt h H Kk hk
  unfold eBorne at h
  split at h
  · split at h
    · rename_i x xl xi xc xw hy h1 h2 h3 h4
      cases h
      obtain ⟨p, l, t, places, k, x0, g1, rfl, ⟨rfl, rfl, rfl, rfl⟩, g2, g3, g4, g5, rfl, g6, g7⟩ := hk
      obtain ⟨a, b, xs, ec, ne, ed, gr, lo, hi, sh, wi⟩ := x
      exact (p32 p g1 g2 places g3 l g4 t g5 k x0 g6 H (g7 _ rfl)).wk ⟨asPl_wk hy, asVs_wk h1, Wk.agg ⟨Wk.rfl, asVs_wk h2, asVs_wk h3, asVs_wk h4, trivial⟩, Wk.rfl, trivial⟩
    · cases h
  · cases h
theorem Ins.mem : ∀ {ns : List Int} {l : List (Int × Int)}, Ins ns l → ∀ n ∈ ns, ∃ x ∈ l, x.1 ≤ n ∧ n ≤ x.2
  | [], [], _, n, hn => by cases hn
  | m :: ns, x :: l, h, n, hn => by
    rcases List.mem_cons.1 hn with rfl | hn
    · exact ⟨x, by simp, h.1⟩
    · obtain ⟨y, hy, h2⟩ := Ins.mem h.2 n hn
      exact ⟨y, by simp [hy], h2⟩
  | [], _ :: _, h, _, _ => h.elim
  | _ :: _, [], h, _, _ => h.elim
theorem TruV.b {p : Plate} {ice cr : List (Int × Int)} {l : List Load} {t : Tru} (hM : MadeV p ice cr l) (h : TruV p ice cr l t) : TruB p ice.length l t := by
  have hV := hM.road
  have h1 := h.st
  have h2 := hV.p.s1
  have h3 := hV.p.s3
  refine ⟨by omega, h.ice.len, fun n hn => ?_, by rw [h.cr.len]; exact hV.cl, fun n hn => ?_, by rw [h.ws.len]; simp, fun n hn => ?_⟩
  · obtain ⟨x, hx, h4⟩ := h.ice.mem n hn
    have := hV.ib x hx; omega
  · obtain ⟨x, hx, h4⟩ := h.cr.mem n hn
    have := hV.cb x hx; omega
  · obtain ⟨x, hx, h4⟩ := h.ws.mem n hn
    obtain ⟨y, hy, rfl⟩ := List.mem_map.1 hx
    have := hM.lb y hy
    have h5 := this.w1
    have h6 := this.w3
    omega
theorem veS_bnd {p : Plate} {ice cr : List (Int × Int)} {l : List Load} {x : Load} : veS p ice cr l x = 1 ∨ veS p ice cr l x = 2 ∨ veS p ice cr l x = 3 := by
  unfold veS; split
  · exact .inl rfl
  · split
    · exact .inr (.inl rfl)
    · exact .inr (.inr rfl)
set_option maxHeartbeats 4000000 in
theorem core4 (nums : List Int) (hn1 : BigL nums) : ACalls Try.prog 4 [.vs 1 (nums.map I)] [] fun r _ => r = B true := by
  obtain ⟨Kk, hKk⟩ : ∃ K : AV → AHeap → Prop, K = fun r _ => r = B true := ⟨_, rfl⟩
  rw [← hKk]
  have hk : ∀ H, Kk (B true) H := fun H => by rw [hKk]
  clear hKk
  obtain ⟨xn, hxn⟩ : ∃ ys, ys = nums.map I := ⟨_, rfl⟩
  rw [← hxn]
  obtain ⟨A, hA⟩ : ∃ A, A = std := ⟨_, rfl⟩
  have hne0 : A.ne 0 0 = false := by subst hA; rfl
  refine go4 rfl (SGo_run hA ⟨[], [0], (19, eTrue) :: (25, eHolds) :: (31, eWeights) :: (32, eBorne) :: [], (20, eSeed) :: (28, eDraw sMade) :: (29, eDraw sInside) :: (30, eDraw sInsideL) :: []⟩ (.cons eTrue_ok (.cons (eHolds_ok p25) (.cons eWeights_ok (.cons eBorne_ok .nil)))) (.cons eSeed_ok (.cons (eDraw_ok sMade_ok) (.cons (eDraw_ok sInside_ok) (.cons (eDraw_ok sInsideL_ok) .nil)))) 200 fun T TD hT hTD => ?_)
  cbv
  refine Exists.intro nums (And.intro ⟨hxn, hn1⟩ ?_)
  intro w1
  cbv
  refine Exists.intro () (And.intro trivial ?_)
  rintro w2 _ ⟨p, a, b, xs, ec, ne, ed, gr, lo, hi, sh, wi, ice, cr, l, xi, xc, xl, rfl, hp, hxi, hxc, hxl, hM⟩
  have hV := hM.road
  have hil := hM.il
  have hcl := hM.cl
  have hll := hM.ll
  have hib := hM.ib
  have hlb := hM.lb
  have hcb := hV.cb
  have hst : -1000000000 ≤ a ∧ a ≤ b ∧ b ≤ 1000000000 := by
    have h1 := hV.p.s1; have h2 := hV.p.s2; have h3 := hV.p.s3; rw [hp.str] at h1 h2 h3; simp only at h1 h2 h3; omega
  have hb1 : Big p.shares := by have := hV.p.sh.len; unfold Big; omega
  have hb2 : Big p.creep := by have := hV.p.cr.len; unfold Big; omega
  have hb3 : BigL ice := by unfold BigL; omega
  have hb4 : BigL cr := by unfold BigL; omega
  have hb5 : BigL l := by unfold BigL; omega
  have hH := hM.holds
  have hpre1 : ∃ q : List (Int × Int), xi = q.map sp ∧ q.length < 1000000 ∧ ∀ x ∈ q, -1000000000 ≤ x.1 ∧ x.1 ≤ x.2 ∧ x.2 ≤ 1000000000 := ⟨ice, hxi, by omega, fun x hx => by have := hib x hx; omega⟩
  have hpre2 : ∃ q : List (Int × Int), xc = q.map sp ∧ q.length < 1000000 ∧ ∀ x ∈ q, -1000000000 ≤ x.1 ∧ x.1 ≤ x.2 ∧ x.2 ≤ 1000000000 := ⟨cr, hxc, by omega, fun x hx => by have := hcb x hx; omega⟩
  have hpre3 : ∀ zs, zs = (l.map (·.w)).map sp → ∃ q : List (Int × Int), zs = q.map sp ∧ q.length < 1000000 ∧ ∀ x ∈ q, -1000000000 ≤ x.1 ∧ x.1 ≤ x.2 ∧ x.2 ≤ 1000000000 := fun zs hzs => ⟨l.map (·.w), hzs, by simp; omega, fun x hx => by
    obtain ⟨y, hy, rfl⟩ := List.mem_map.1 hx
    have h1 := (hlb y hy).w1; have h2 := (hlb y hy).w2; have h3 := (hlb y hy).w3; omega⟩
  have hl6 : l.length < 1000000 := by omega
  cbv
  refine Exists.intro p (Exists.intro ice (Exists.intro cr (Exists.intro l (And.intro hp (And.intro hb1 (And.intro hb2 (And.intro ⟨hxi, hb3⟩ (And.intro ⟨hxc, hb4⟩ (And.intro ⟨hxl, hb5⟩ ?_)))))))))
  rintro r e zs hre hzs
  rw [hH] at hre
  obtain ⟨rfl, rfl⟩ := Prod.mk.inj hre
  cbv
  split <;> cbv
  · rename_i hq; exact Bool.noConfusion (hq.symm.trans hne0)
  have hzl : A.ne (A.vlen zs) (A.vlen xl) = false := by subst hA hzs hxl; simp [std, iNe]
  split <;> cbv
  · rename_i hq; exact Bool.noConfusion (hq.symm.trans hzl)
  refine Exists.intro () (And.intro hst ?_)
  rintro w3 _ ⟨ts, rfl, hts1, hts2⟩
  cbv
  try refine And.intro (by subst hA; simp [std, Keep, SubH, ResK]) ?_
  refine Exists.intro () (And.intro hpre1 ?_)
  rintro w4 r4 hr4
  obtain ⟨ti, xti, rfl, hxti, hti⟩ := hr4 ice hxi
  cbv
  try refine And.intro (by subst hA; simp [std, Keep, SubH, ResK]) ?_
  refine Exists.intro () (And.intro hpre2 ?_)
  rintro w5 r5 hr5
  obtain ⟨tc, xtc, rfl, hxtc, htc⟩ := hr5 cr hxc
  cbv
  try refine And.intro (by subst hA; simp [std, Keep, SubH, ResK]) ?_
  refine Exists.intro l (And.intro ⟨hxl, hl6⟩ ?_)
  rintro ws hws
  cbv
  refine Exists.intro () (And.intro (hpre3 ws hws) ?_)
  rintro w6 r6 hr6
  obtain ⟨tw, xtw, rfl, hxtw, htw⟩ := hr6 _ hws
  cbv
  try refine And.intro (by subst hA; simp [std, Keep, SubH, ResK]) ?_
  rw [hT]
  have htv : TruV p ice cr l ⟨ts, ti, tc, tw⟩ := ⟨by rw [hp.str]; exact ⟨hts1, hts2⟩, hti, htc, htw⟩
  have htb := htv.b hM
  refine AGo_up l.length (fun _ => True) (fun _ i => [(2, B false), (4, .mp 1 0 0), (5, .vs 1 zs), (7, .mp 2 0 0), (8, I i)])
    (fun _ => [.own 0 [U w6], .own 0 [I a, I b, .vs 2 xs, .vs 2 ec, I ne, I ed, I gr, I lo, I hi, I sh, I wi, .vs 2 xi, .vs 2 xc, .vs 4 xl], .own 0 [I ts, .vs 1 xti, .vs 1 xtc, .vs 1 xtw]]) trivial ⟨rfl, rfl, rfl, rfl, rfl, trivial⟩ (.inl rfl) fun j i hij hj _ Bk hB => ?_
  have hlt : A.lt i (A.vlen zs) = decide (j < l.length) := by subst hA; exact lt_len (by simp [hzs]) hij
  have hadd : j < l.length → A.add .i64 i 1 = iLen (j + 1) := fun hj => by subst hA; exact add_one hij hj (by omega)
  refine SGo_run hA ⟨[], [], (19, eTrue) :: (32, eBorne) :: [], []⟩ (.cons eTrue_ok (.cons eBorne_ok .nil)) .nil 200 fun T TD hT hTD => ?_
  cbv
  split <;> cbv
  · rename_i hk1
    have hk1 : j < l.length := by have := hlt.symm.trans hk1; simpa using this
    obtain ⟨x0, hx⟩ : ∃ x, l[j]? = some x := ⟨_, List.getElem?_eq_getElem hk1⟩
    have hx0 := hlb x0 (List.mem_of_getElem? hx)
    have hbes := bes hV htv hx0
    obtain ⟨vv, hvv⟩ : ∃ vv, vv = veS p ice cr l x0 := ⟨_, rfl⟩
    rw [← hvv] at hbes
    have hixz : A.ix 1 1 zs i [I vv] := by subst hA; exact ix_map hzs hij (by rw [List.getElem?_map, hx]; rfl) (by rw [hvv]; rfl)
    have hload : LoadsV ice.length l := ⟨by omega, hlb⟩
    refine Exists.intro p (Exists.intro l (Exists.intro ⟨ts, ti, tc, tw⟩ (Exists.intro ice.length (Exists.intro j (Exists.intro x0 (And.intro hp (And.intro hxl (And.intro ⟨rfl, hxti, hxtc, hxtw⟩ (And.intro hV.p (And.intro hV.il (And.intro hload (And.intro htb (And.intro hij (And.intro hx ?_))))))))))))))
    rintro bb hbb
    rw [← hbb] at hbes
    cbv
    repeat' (first | (refine Exists.intro _ (And.intro hixz ?_); cbv) | (split <;> cbv))
    all_goals first
      | exact hB _ _ hk1 trivial ⟨rfl, rfl, rfl, rfl, congrArg I (hadd hk1), trivial⟩ (.inl rfl)
      | skip
    all_goals
      exfalso
      clear hB hadd hlt hixz hpre1 hpre2 hpre3 hzl hne0 htb htv hbb hvv
      subst hA
      simp only [std, iEq, beq_iff_eq, beq_eq_false_iff_ne, ne_eq, Bool.not_eq_true', Bool.not_eq_false'] at *
      simp_all
  · exact hk _
end Go.Sas
