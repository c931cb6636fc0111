/-
Freight: the law FreightSpreads: its core.
Conditions: none.
-/
import Derived.Test.YthpjckoklnhbcaaZS
import Derived.Test.YthpjckoklnhbcaaNFL7
set_option linter.unusedVariables false
set_option linter.unusedSimpArgs false
namespace Go.Sas
open Go.Proofs
set_option maxRecDepth 100000
/-- a freight, and a winter, as values -/
def frA (f : Frt) : AV := frV f.fi.1 f.fi.2 f.la.1 f.la.2 (.vs 2 (f.caps.map sp)) (.vs 4 (f.ords.map orV))
def wiA (w : Win) : AV := winV w.fi w.la (.vs 1 (w.caps.map I))
def eSpreadG : List AV → Option ((AV → Prop) → Prop)
  | [.agg [.lit (.int .i64 a), .lit (.int .i64 b), .lit (.int .i64 c), .lit (.int .i64 d), .vs 2 xs, .vs 4 ys], .agg [.lit (.int .i64 u), .lit (.int .i64 v), .vs 1 zs], .vs 1 ps] =>
    some fun K => ∃ (cs : List (Int × Int)) (os : List Ord) (ws plan : List Int), (xs = cs.map sp ∧ ys = os.map orV ∧ zs = ws.map I ∧ ps = plan.map I ∧ cs.length ≤ 9223372036854775807 ∧ os.length ≤ 9223372036854775807 ∧ ws.length ≤ 9223372036854775807 ∧ plan.length ≤ 9223372036854775807) ∧
      ∀ rs q, (rs = (spreadR ⟨(a, b), (c, d), cs, os⟩ ⟨u, v, ws⟩ plan).map fun r => .vs 1 (r.map I)) → q = spreadC ⟨(a, b), (c, d), cs, os⟩ ⟨u, v, ws⟩ plan → K (.tup [.vs 1 rs, I q])
  | _ => none
theorem eSpreadG_ok {f : Nat} (hf : ∀ (a b c d u v : Int) (cs : List (Int × Int)) (os : List Ord) (ws plan : List Int) (_ : cs.length ≤ 9223372036854775807) (_ : os.length ≤ 9223372036854775807) (_ : ws.length ≤ 9223372036854775807) (_ : plan.length ≤ 9223372036854775807) (H : AHeap) {Kk : AV → AHeap → Prop},
      Kk (.tup [.vs 1 ((spreadR ⟨(a, b), (c, d), cs, os⟩ ⟨u, v, ws⟩ plan).map fun r => .vs 1 (r.map I)), I (spreadC ⟨(a, b), (c, d), cs, os⟩ ⟨u, v, ws⟩ plan)]) H → ACalls Try.prog f [frV a b c d (.vs 2 (cs.map sp)) (.vs 4 (os.map orV)), winV u v (.vs 1 (ws.map I)), .vs 1 (plan.map I)] H Kk) :
    ∀ args pt, eSpreadG args = some pt → ∀ (H : AHeap) (Kk : AV → AHeap → Prop), pt (fun r => Kk r H) → ACalls Try.prog f args H Kk := by
  intro args pt h H Kk hk
  unfold eSpreadG at h
  split at h
  · cases h
    obtain ⟨cs, os, ws, plan, ⟨rfl, rfl, rfl, rfl, h1, h2, h3, h4⟩, h5⟩ := hk
    exact hf _ _ _ _ _ _ _ _ _ _ h1 h2 h3 h4 H (h5 _ _ rfl rfl)
  · cases h
theorem spread_len {f : Frt} {w : Win} {l : List Int} : (spreadR f w l).length ≤ 1000000 ∧ ∀ r ∈ spreadR f w l, r.length ≤ 1000000 := by
  unfold spreadR
  split
  · simp
  · rename_i hz
    have hz : spreadC f w l = 0 := by simpa using hz
    have hcw : checkWinterS f w = 0 := by
      unfold spreadC at hz; split at hz
      · rename_i h; exact absurd hz h
      · rename_i h; simpa using h
    have hV := (checkWinterS_ok hcw).1
    have := hV.o2; have := hV.c2
    refine ⟨by simp [rowsF]; omega, fun r hr => ?_⟩
    obtain ⟨k, _, rfl⟩ := List.mem_map.1 hr
    simp; omega
set_option maxHeartbeats 4000000 in
theorem core7 (a b c d : Int) (cs : List (Int × Int)) (os : List Ord) (u v : Int) (ws plan nums : List Int) (hc : cs.length ≤ 9223372036854775807) (ho : os.length ≤ 9223372036854775807) (hw : ws.length ≤ 9223372036854775807) (hpl : plan.length ≤ 9223372036854775807) (hn1 : nums.length ≤ 9223372036854775807) :
    ACalls Try.prog 7 [frV a b c d (.vs 2 (cs.map sp)) (.vs 4 (os.map orV)), winV u v (.vs 1 (ws.map I)), .vs 1 (plan.map I), .vs 1 (nums.map I)] [] fun r _ => r = .lit (.bool true) := by
  obtain ⟨Kk, hKk⟩ : ∃ K : AV → AHeap → Prop, K = fun r _ => r = .lit (.bool true) := ⟨_, rfl⟩
  rw [← hKk]
  have h : ∀ H, Kk (B true) H := fun H => by rw [hKk]
  clear hKk
  obtain ⟨xs, hxs⟩ : ∃ xs, xs = cs.map sp := ⟨_, rfl⟩
  obtain ⟨ys, hys⟩ : ∃ ys, ys = os.map orV := ⟨_, rfl⟩
  obtain ⟨zs, hzs⟩ : ∃ ys, ys = ws.map I := ⟨_, rfl⟩
  obtain ⟨ps, hps⟩ : ∃ ys, ys = plan.map I := ⟨_, rfl⟩
  obtain ⟨xn, hxn⟩ : ∃ ys, ys = nums.map I := ⟨_, rfl⟩
  rw [← hxs, ← hys, ← hzs, ← hps, ← hxn]
  obtain ⟨A, hA⟩ : ∃ A, A = std := ⟨_, rfl⟩
  have hnx : ∀ x, A.ne x x = false := by subst hA; intro x; simp [std, iNe]
  have hnb : ∀ b, A.bnot b = !b := by subst hA; intro b; rfl
  have hll : ∀ x y, A.lt x y = decide (x < y) := by subst hA; intro x y; rfl
  have hv1 : A.vlen zs = iLen ws.length := by subst hA; simp [std, hzs]
  have hv2 : A.vlen ps = iLen plan.length := by subst hA; simp [std, hps]
  have hl1 : A.lt 250 (A.vlen zs) = decide (250 < iLen ws.length) := by rw [hv1]; exact hll _ _
  have hl2 : A.lt 20 (A.vlen ps) = decide (20 < iLen plan.length) := by rw [hv2]; exact hll _ _
  refine go7 rfl (SGo_run hA ⟨[], [2], (16, eBigF) :: (17, eAwake) :: [], edF⟩ (.cons eBigF_ok (.cons eAwake_ok .nil)) edF_ok 200 fun T TD hT hTD => ?_)
  cbv
  refine Exists.intro cs (Exists.intro os (And.intro hxs (And.intro hys ?_)))
  intro q hq; cbv
  split <;> cbv
  · exact h _
  obtain ⟨hb1, hb2⟩ := bigF_no hq.symm
  split <;> cbv
  · exact h _
  rename_i hz
  have hwl : ws.length ≤ 250 := by have hz := hl1.symm.trans hz; rw [decide_eq_false_iff_not] at hz; unfold iLen at hz; omega
  split <;> cbv
  · exact h _
  rename_i hz
  have hpl2 : plan.length ≤ 20 := by have hz := hl2.symm.trans hz; rw [decide_eq_false_iff_not] at hz; unfold iLen at hz; omega
  refine Exists.intro nums (And.intro ⟨hxn, hn1⟩ ?_)
  intro w1
  cbv
  refine Exists.intro () (And.intro (by omega) ?_)
  rintro w2 _ ⟨a2, b2, c2, d2, xs2, ys2, cs2, os2, rfl, hxs2, hys2, hf2, _⟩
  have hV := checkF_ok hf2
  have ho2 := hV.o2
  have hc2 := hV.c2
  dsimp only at ho2 hc2
  have hvl : A.vlen ys2 = iLen os2.length := by subst hA; simp [std, hys2]
  cbv
  refine Exists.intro cs2 (Exists.intro os2 (And.intro ⟨hxs2, hys2, hf2⟩ ?_))
  rintro w4 _ ⟨u2, v2, zs2, ws2, rfl, hzs2, hwv⟩
  have hwl2 : ws2.length = cs2.length := hwv.len
  cbv
  refine Exists.intro os2.length (And.intro ⟨hvl, by omega⟩ ?_)
  rintro w3 _ ⟨ps2, p2, rfl, hps2, hp2⟩
  obtain ⟨hP, hpn, hpm⟩ := perm_plan hp2
  rw [hpm] at hps2
  cbv
  refine And.intro (by subst hA; first | (simp [std, Keep, SubH, ResK]; done) | exact .inr ⟨⟨rfl, SubH.self _⟩, trivial, .inr fun _ => ⟨rfl, SubH.self _⟩⟩ | exact .inr ⟨SubH.self _, trivial, .inr fun _ => SubH.self _⟩ | exact .inr ⟨by simp [SubH], trivial, .inl rfl⟩ | exact .inr ⟨by simp [SubH], trivial, .inr fun _ => by simp [SubH]⟩) ?_
  cbv
  rw [hT]
  obtain ⟨L, hL⟩ : ∃ L : List Frt, L = [⟨(a, b), (c, d), cs, os⟩, ⟨(a2, b2), (c2, d2), cs2, os2⟩, ⟨(a2, b2), (c2, d2), cs2, os2⟩] := ⟨_, rfl⟩
  obtain ⟨M, hM⟩ : ∃ M : List Win, M = [⟨u, v, ws⟩, ⟨u2, v2, ws2⟩, ⟨u2, v2, ws2⟩] := ⟨_, rfl⟩
  obtain ⟨P, hPP⟩ : ∃ P : List (List Int), P = [plan, p2.map iLen, plan] := ⟨_, rfl⟩
  have hLb : ∀ f ∈ L, f.caps.length ≤ 1000000 ∧ f.ords.length ≤ 1000000 := by
    intro f hf; rw [hL] at hf; simp only [List.mem_cons, List.not_mem_nil, or_false] at hf
    rcases hf with hf | hf | hf
    · rw [hf]; exact ⟨hb1, hb2⟩
    · rw [hf]; exact ⟨by dsimp only; omega, by dsimp only; omega⟩
    · rw [hf]; exact ⟨by dsimp only; omega, by dsimp only; omega⟩
  have hMb : ∀ f ∈ M, f.caps.length ≤ 1000000 := by
    intro f hf; rw [hM] at hf; simp only [List.mem_cons, List.not_mem_nil, or_false] at hf
    rcases hf with hf | hf | hf
    · rw [hf]; dsimp only; omega
    · rw [hf]; dsimp only; omega
    · rw [hf]; dsimp only; omega
  have hPb : ∀ p ∈ P, p.length ≤ 1000000 := by
    intro p hp; rw [hPP] at hp; simp only [List.mem_cons, List.not_mem_nil, or_false] at hp
    rcases hp with hp | hp | hp
    · rw [hp]; omega
    · have := hP.1; rw [hp]; omega
    · rw [hp]; omega
  obtain ⟨fvs, hfvs⟩ : ∃ l : List AV, l = [.agg [I a, I b, I c, I d, .vs 2 xs, .vs 4 ys], .agg [I a2, I b2, I c2, I d2, .vs 2 xs2, .vs 4 ys2], .agg [I a2, I b2, I c2, I d2, .vs 2 xs2, .vs 4 ys2]] := ⟨_, rfl⟩
  obtain ⟨wvs, hwvs⟩ : ∃ l : List AV, l = [.agg [I u, I v, .vs 1 zs], .agg [I u2, I v2, .vs 1 zs2], .agg [I u2, I v2, .vs 1 zs2]] := ⟨_, rfl⟩
  obtain ⟨pvs, hpvs⟩ : ∃ l : List AV, l = [.vs 1 ps, .vs 1 ps2, .vs 1 ps] := ⟨_, rfl⟩
  rw [← hfvs, ← hpvs, ← hwvs]
  have hfm : fvs = L.map frA := by rw [hfvs, hL, hxs, hys, hxs2, hys2]; rfl
  have hwm : wvs = M.map wiA := by rw [hwvs, hM, hzs, hzs2]; rfl
  have hpm2 : pvs = P.map fun l => .vs 1 (l.map I) := by rw [hpvs, hPP, hps, hps2]; rfl
  have hLl : L.length = 3 := by rw [hL]; rfl
  have hMl : M.length = 3 := by rw [hM]; rfl
  have hPl : P.length = 3 := by rw [hPP]; rfl
  refine AGo_upE [12, 13, 14] 3 (fun _ (_ : Unit) => True) (fun _ _ i => [(15, I i)]) (fun _ _ => []) () trivial ⟨rfl, trivial⟩ (.inr ⟨⟨_, rfl⟩, Nat.zero_le _, by simp [ltG, AV.lt, AV.ltL, keepS, look], trivial⟩) fun j _ i hi hj _ Bk hB => ?_
  clear hT hTD T TD hfvs hpvs hwvs hL hPP hM
  have hlt : A.lt i (A.vlen fvs) = decide (j < 3) := by subst hA; exact lt_len (by simp [hfm, hLl]) hi
  have hadd : ∀ N, j < N → N ≤ 9223372036854775807 → A.add .i64 i 1 = iLen (j + 1) := fun N hj hN => by subst hA; exact add_one hi hj hN
  refine SGo_run hA ⟨[], [], (17, eAwake) :: (18, eOwnFr) :: (21, eSameFr) :: (28, eSameI2) :: (36, eOwnWin) :: (37, eOwnI) :: (38, eSpreadG) :: (39, eSpreadG) :: (40, eSameW) :: [], []⟩ (.cons eAwake_ok (.cons eOwnFr_ok (.cons eSameFr_ok (.cons eSameI2_ok (.cons eOwnWin_ok (.cons eOwnI_ok (.cons (eSpreadG_ok p38) (.cons (eSpreadG_ok p39) (.cons eSameW_ok .nil))))))))) .nil 200 fun T TD hT hTD => ?_
  cbv
  split <;> cbv
  · rename_i hk0
    have hk1 : j < 3 := by have hz := hlt.symm.trans hk0; simpa using hz
    clear hk0
    obtain ⟨⟨⟨fa, fb⟩, ⟨fc, fd⟩, fcs, fos⟩, hf⟩ : ∃ f, L[j]? = some f := ⟨_, List.getElem?_eq_getElem (by omega)⟩
    obtain ⟨⟨wu, wv, wws⟩, hmw⟩ : ∃ f, M[j]? = some f := ⟨_, List.getElem?_eq_getElem (by omega)⟩
    obtain ⟨p, hp⟩ : ∃ p, P[j]? = some p := ⟨_, List.getElem?_eq_getElem (by omega)⟩
    obtain ⟨hb3, hb4⟩ := hLb _ (List.mem_of_getElem? hf)
    have hb5 := hPb _ (List.mem_of_getElem? hp)
    have hb6 := hMb _ (List.mem_of_getElem? hmw)
    dsimp only at hb3 hb4 hb6
    obtain ⟨xf, hxf⟩ : ∃ x, x = fcs.map sp := ⟨_, rfl⟩
    obtain ⟨yf, hyf⟩ : ∃ x, x = fos.map orV := ⟨_, rfl⟩
    obtain ⟨zf, hzf⟩ : ∃ x, x = wws.map I := ⟨_, rfl⟩
    obtain ⟨pf, hpf⟩ : ∃ x, x = p.map I := ⟨_, rfl⟩
    have hix : A.ix 6 6 fvs i [I fa, I fb, I fc, I fd, .vs 2 xf, .vs 4 yf] := by subst hA; rw [hxf, hyf]; exact ix_map hfm hi hf rfl
    have hiw : A.ix 3 3 wvs i [I wu, I wv, .vs 1 zf] := by subst hA; rw [hzf]; exact ix_map hwm hi hmw rfl
    have hip : A.ix 1 1 pvs i [.vs 1 pf] := by subst hA; rw [hpf]; exact ix_map hpm2 hi hp rfl
    have hbt : A.bnot true = false := by rw [hnb]; rfl
    refine Exists.intro _ (And.intro hix ?_); cbv
    refine Exists.intro _ (And.intro hiw ?_); cbv
    refine Exists.intro _ (And.intro hip ?_); cbv
    refine Exists.intro fcs (Exists.intro fos (And.intro hxf (And.intro hyf (And.intro hb3 (And.intro hb4 ?_))))); cbv
    refine Exists.intro wws (And.intro ⟨hzf, hb6⟩ ?_); cbv
    refine Exists.intro p (And.intro ⟨hpf, hb5⟩ ?_); cbv
    refine And.intro (by subst hA; first | (simp [std, Keep, SubH, ResK]; done) | exact .inr ⟨⟨rfl, SubH.self _⟩, trivial, .inr fun _ => ⟨rfl, SubH.self _⟩⟩ | exact .inr ⟨SubH.self _, trivial, .inr fun _ => SubH.self _⟩ | exact .inr ⟨by simp [SubH], trivial, .inl rfl⟩ | exact .inr ⟨by simp [SubH], trivial, .inr fun _ => by simp [SubH]⟩) ?_
    cbv
    refine And.intro (by subst hA; first | (simp [std, Keep, SubH, ResK]; done) | exact .inr ⟨⟨rfl, SubH.self _⟩, trivial, .inr fun _ => ⟨rfl, SubH.self _⟩⟩ | exact .inr ⟨SubH.self _, trivial, .inr fun _ => SubH.self _⟩ | exact .inr ⟨by simp [SubH], trivial, .inl rfl⟩ | exact .inr ⟨by simp [SubH], trivial, .inr fun _ => by simp [SubH]⟩) ?_
    cbv
    refine Exists.intro fcs (Exists.intro fos (Exists.intro wws (Exists.intro p (And.intro ⟨hxf, hyf, hzf, hpf, by omega, by omega, by omega, by omega⟩ ?_))))
    intro rs q hrs hq; cbv
    refine Exists.intro _ (And.intro hix ?_); cbv
    refine Exists.intro _ (And.intro hiw ?_); cbv
    refine Exists.intro _ (And.intro hip ?_); cbv
    refine Exists.intro fcs (Exists.intro fos (Exists.intro wws (Exists.intro p (And.intro ⟨hxf, hyf, hzf, hpf, by omega, by omega, by omega, by omega⟩ ?_))))
    intro rs' q' hrs' hq'; cbv
    rw [← hrs] at hrs'; rw [← hq] at hq'
    subst hrs' hq'
    have hsl := spread_len (f := ⟨(fa, fb), (fc, fd), fcs, fos⟩) (w := ⟨wu, wv, wws⟩) (l := p)
    split <;> cbv
    · rename_i hz; exact Bool.noConfusion (hz.symm.trans (hnx _))
    refine Exists.intro _ (And.intro ⟨hrs, rfl, hsl.1, hsl.2⟩ ?_); cbv
    split <;> cbv
    · rename_i hz; exact Bool.noConfusion (hz.symm.trans hbt)
    refine Exists.intro _ (And.intro hix ?_); cbv
    refine Exists.intro fcs (Exists.intro fos (And.intro rfl (And.intro rfl (And.intro rfl (And.intro rfl (And.intro rfl (And.intro rfl (And.intro hxf (And.intro hyf (And.intro hb3 (And.intro hb4 ?_))))))))))); cbv
    split <;> cbv
    · rename_i hz; exact Bool.noConfusion (hz.symm.trans hbt)
    refine Exists.intro _ (And.intro hiw ?_); cbv
    refine Exists.intro wws (And.intro ⟨hzf, hzf, by omega⟩ ?_); cbv
    split <;> cbv
    · rename_i hz; exact Bool.noConfusion (hz.symm.trans hbt)
    refine Exists.intro _ (And.intro hip ?_); cbv
    refine Exists.intro p (And.intro ⟨hpf, hpf, by omega⟩ ?_); cbv
    split <;> cbv
    · rename_i hz; exact Bool.noConfusion (hz.symm.trans hbt)
    exact hB () _ _ hk1 trivial ⟨congrArg I (hadd _ hk1 (by omega)), trivial⟩ ⟨rfl, rfl, rfl, trivial⟩ (.inr ⟨⟨_, rfl⟩, Nat.zero_le _, by simp [ltG, AV.lt, AV.ltL, keepS, look], trivial⟩)
  · exact h _
end Go.Sas
