/-
Freight: the law FreightRanges: its core.
Conditions: none.
-/
import Derived.Test.YthpjckoklnhbcaaZR
import Derived.Test.YthpjckoklnhbcaaNFL6
set_option linter.unusedVariables false
set_option linter.unusedSimpArgs false
namespace Go.Sas
open Go.Proofs
set_option maxRecDepth 100000
/-- a freight, as a value -/
def frA (f : Frt) : AV := frV f.fi.1 f.fi.2 f.la.1 f.la.2 (.vs 2 (f.caps.map sp)) (.vs 4 (f.ords.map orV))
def eRangeG : List AV → Option ((AV → Prop) → Prop)
  | [.agg [.lit (.int .i64 a), .lit (.int .i64 b), .lit (.int .i64 c), .lit (.int .i64 d), .vs 2 xs, .vs 4 ys], .vs 1 ps] =>
    some fun K => ∃ (cs : List (Int × Int)) (os : List Ord) (plan : List Int), (xs = cs.map sp ∧ ys = os.map orV ∧ ps = plan.map I ∧ cs.length ≤ 9223372036854775807 ∧ os.length ≤ 9223372036854775807 ∧ plan.length ≤ 9223372036854775807) ∧
      ∀ lo hi e, lo = (rangeS ⟨(a, b), (c, d), cs, os⟩ plan).1.1 → hi = (rangeS ⟨(a, b), (c, d), cs, os⟩ plan).1.2 → e = (rangeS ⟨(a, b), (c, d), cs, os⟩ plan).2 → K (.tup [.agg [I lo, I hi], I e])
  | _ => none
theorem eRangeG_ok {f : Nat} (hf : ∀ (a b c d : Int) (cs : List (Int × Int)) (os : List Ord) (plan : List Int) (_ : cs.length ≤ 9223372036854775807) (_ : os.length ≤ 9223372036854775807) (_ : plan.length ≤ 9223372036854775807) (H : AHeap) {Kk : AV → AHeap → Prop},
      Kk (.tup [.agg [I (rangeS ⟨(a, b), (c, d), cs, os⟩ plan).1.1, I (rangeS ⟨(a, b), (c, d), cs, os⟩ plan).1.2], I (rangeS ⟨(a, b), (c, d), cs, os⟩ plan).2]) H → ACalls Try.prog f [frV a b c d (.vs 2 (cs.map sp)) (.vs 4 (os.map orV)), .vs 1 (plan.map I)] H Kk) :
    ∀ args pt, eRangeG args = some pt → ∀ (H : AHeap) (Kk : AV → AHeap → Prop), pt (fun r => Kk r H) → ACalls Try.prog f args H Kk := by
  intro args pt h H Kk hk
  unfold eRangeG at h
  split at h
  · cases h
    obtain ⟨cs, os, plan, ⟨rfl, rfl, rfl, h1, h2, h3⟩, h4⟩ := hk
    exact hf _ _ _ _ _ _ _ h1 h2 h3 H (h4 _ _ _ rfl rfl rfl)
  · cases h
def ePromG : List AV → Option ((AV → Prop) → Prop)
  | [.agg [.lit (.int .i64 a), .lit (.int .i64 b), .lit (.int .i64 c), .lit (.int .i64 d), .vs 2 xs, .vs 4 ys], .vs 1 ps] =>
    some fun K => ∃ (cs : List (Int × Int)) (os : List Ord) (plan : List Int), (xs = cs.map sp ∧ ys = os.map orV ∧ ps = plan.map I ∧ cs.length ≤ 9223372036854775807 ∧ os.length ≤ 9223372036854775807 ∧ plan.length ≤ 9223372036854775807) ∧
      ∀ ms e, ms = (promiseS ⟨(a, b), (c, d), cs, os⟩ plan).1.map I → e = (promiseS ⟨(a, b), (c, d), cs, os⟩ plan).2 → K (.tup [.vs 1 ms, I e])
  | _ => none
theorem ePromG_ok {f : Nat} (hf : ∀ (a b c d : Int) (cs : List (Int × Int)) (os : List Ord) (plan : List Int) (_ : cs.length ≤ 9223372036854775807) (_ : os.length ≤ 9223372036854775807) (_ : plan.length ≤ 9223372036854775807) (H : AHeap) {Kk : AV → AHeap → Prop},
      Kk (.tup [.vs 1 ((promiseS ⟨(a, b), (c, d), cs, os⟩ plan).1.map I), I (promiseS ⟨(a, b), (c, d), cs, os⟩ plan).2]) H → ACalls Try.prog f [frV a b c d (.vs 2 (cs.map sp)) (.vs 4 (os.map orV)), .vs 1 (plan.map I)] H Kk) :
    ∀ args pt, ePromG args = some pt → ∀ (H : AHeap) (Kk : AV → AHeap → Prop), pt (fun r => Kk r H) → ACalls Try.prog f args H Kk := by
  intro args pt h H Kk hk
  unfold ePromG at h
  split at h
  · cases h
    obtain ⟨cs, os, plan, ⟨rfl, rfl, rfl, h1, h2, h3⟩, h4⟩ := hk
    exact hf _ _ _ _ _ _ _ h1 h2 h3 H (h4 _ _ rfl rfl)
  · cases h
def eSameI : List AV → Option ((AV → Prop) → Prop)
  | [.vs 1 xs, .vs 1 ys] => some fun K => ∃ l l' : List Int, (xs = l.map I ∧ ys = l'.map I ∧ l.length ≤ 9223372036854775807 ∧ l'.length ≤ 9223372036854775807) ∧ ∀ q, q = decide (l = l') → K (B q)
  | _ => none
theorem eSameI_ok : ∀ args pt, eSameI args = some pt → ∀ (H : AHeap) (Kk : AV → AHeap → Prop), pt (fun r => Kk r H) → ACalls Try.prog 28 args H Kk := by
  intro args pt h H Kk hk
  unfold eSameI at h
  split at h
  · cases h
    obtain ⟨l, l', ⟨rfl, rfl, h1, h2⟩, h3⟩ := hk
    exact p28 _ _ h1 h2 H (h3 _ rfl)
  · cases h
theorem promise_len {f : Frt} {l : List Int} : (promiseS f l).1.length ≤ f.ords.length := by
  unfold promiseS
  split
  · simp
  · rw [promS_len]; exact Nat.le_refl _
set_option maxHeartbeats 4000000 in
theorem core6 (a b c d : Int) (cs : List (Int × Int)) (os : List Ord) (plan nums : List Int) (hc : cs.length ≤ 9223372036854775807) (ho : os.length ≤ 9223372036854775807) (hpl : plan.length ≤ 9223372036854775807) (hn1 : nums.length ≤ 9223372036854775807) :
    ACalls Try.prog 6 [frV a b c d (.vs 2 (cs.map sp)) (.vs 4 (os.map orV)), .vs 1 (plan.map I), .vs 1 (nums.map I)] [] fun r _ => r = .lit (.bool true) := by
  obtain ⟨Kk, hKk⟩ : ∃ K : AV → AHeap → Prop, K = fun r _ => r = .lit (.bool true) := ⟨_, rfl⟩
  rw [← hKk]
  have h : ∀ H, Kk (B true) H := fun H => by rw [hKk]
  clear hKk
  obtain ⟨xs, hxs⟩ : ∃ xs, xs = cs.map sp := ⟨_, rfl⟩
  obtain ⟨ys, hys⟩ : ∃ ys, ys = os.map orV := ⟨_, rfl⟩
  obtain ⟨ps, hps⟩ : ∃ ys, ys = plan.map I := ⟨_, rfl⟩
  obtain ⟨xn, hxn⟩ : ∃ ys, ys = nums.map I := ⟨_, rfl⟩
  rw [← hxs, ← hys, ← hps, ← hxn]
  obtain ⟨A, hA⟩ : ∃ A, A = std := ⟨_, rfl⟩
  have hnn : ∀ x y, A.ne x y = decide (x ≠ y) := by subst hA; intro x y; simp only [std, iNe]; rw [Bool.eq_iff_iff]; simp
  have hnx : ∀ x, A.ne x x = false := by intro x; rw [hnn]; simp
  have hnb : ∀ b, A.bnot b = !b := by subst hA; intro b; rfl
  refine go6 rfl (SGo_run hA ⟨[], [1], (16, eBigF) :: (17, eAwake) :: [], edF⟩ (.cons eBigF_ok (.cons eAwake_ok .nil)) edF_ok 200 fun T TD hT hTD => ?_)
  cbv
  refine Exists.intro cs (Exists.intro os (And.intro hxs (And.intro hys ?_)))
  intro q hq; cbv
  split <;> cbv
  · exact h _
  split <;> cbv
  · exact h _
  refine Exists.intro nums (And.intro ⟨hxn, hn1⟩ ?_)
  intro w1
  cbv
  refine Exists.intro () (And.intro (by omega) ?_)
  rintro w2 _ ⟨a2, b2, c2, d2, xs2, ys2, cs2, os2, rfl, hxs2, hys2, hf2, _⟩
  have hV := checkF_ok hf2
  have ho2 := hV.o2
  have hc2 := hV.c2
  dsimp only at ho2 hc2
  have hvl : A.vlen ys2 = iLen os2.length := by subst hA; simp [std, hys2]
  cbv
  refine Exists.intro os2.length (And.intro ⟨hvl, by omega⟩ ?_)
  rintro w3 _ ⟨ps2, p2, rfl, hps2, hp2⟩
  obtain ⟨hP, hpn, hpm⟩ := perm_plan hp2
  rw [hpm] at hps2
  cbv
  refine And.intro (by subst hA; first | (simp [std, Keep, SubH, ResK]; done) | exact .inr ⟨⟨rfl, SubH.self _⟩, trivial, .inr fun _ => ⟨rfl, SubH.self _⟩⟩ | exact .inr ⟨SubH.self _, trivial, .inr fun _ => SubH.self _⟩ | exact .inr ⟨by simp [SubH], trivial, .inl rfl⟩ | exact .inr ⟨by simp [SubH], trivial, .inr fun _ => by simp [SubH]⟩) ?_
  cbv
  rw [hT]
  obtain ⟨L, hL⟩ : ∃ L : List Frt, L = [⟨(a, b), (c, d), cs, os⟩, ⟨(a2, b2), (c2, d2), cs2, os2⟩, ⟨(a2, b2), (c2, d2), cs2, os2⟩] := ⟨_, rfl⟩
  obtain ⟨P, hPP⟩ : ∃ P : List (List Int), P = [plan, p2.map iLen, plan] := ⟨_, rfl⟩
  have hLb : ∀ f ∈ L, f.caps.length ≤ 9223372036854775807 ∧ f.ords.length ≤ 9223372036854775807 := by
    intro f hf; rw [hL] at hf; simp at hf
    rcases hf with rfl | rfl
    · exact ⟨hc, ho⟩
    · exact ⟨by dsimp only; omega, by dsimp only; omega⟩
  have hPb : ∀ p ∈ P, p.length ≤ 9223372036854775807 := by
    intro p hp; rw [hPP] at hp; simp only [List.mem_cons, List.not_mem_nil, or_false] at hp
    rcases hp with hp | hp | hp
    · rw [hp]; exact hpl
    · have := hP.1; rw [hp]; omega
    · rw [hp]; exact hpl
  obtain ⟨fvs, hfvs⟩ : ∃ l : List AV, l = [.agg [I a, I b, I c, I d, .vs 2 xs, .vs 4 ys], .agg [I a2, I b2, I c2, I d2, .vs 2 xs2, .vs 4 ys2], .agg [I a2, I b2, I c2, I d2, .vs 2 xs2, .vs 4 ys2]] := ⟨_, rfl⟩
  obtain ⟨pvs, hpvs⟩ : ∃ l : List AV, l = [.vs 1 ps, .vs 1 ps2, .vs 1 ps] := ⟨_, rfl⟩
  rw [← hfvs, ← hpvs]
  have hfm : fvs = L.map frA := by rw [hfvs, hL, hxs, hys, hxs2, hys2]; rfl
  have hpm2 : pvs = P.map fun l => .vs 1 (l.map I) := by rw [hpvs, hPP, hps, hps2]; rfl
  have hLl : L.length = 3 := by rw [hL]; rfl
  have hPl : P.length = 3 := by rw [hPP]; rfl
  refine AGo_upE [9, 10] 3 (fun _ (_ : Unit) => True) (fun _ _ i => [(11, I i)]) (fun _ _ => []) () trivial ⟨rfl, trivial⟩ (.inr ⟨⟨_, rfl⟩, Nat.zero_le _, by simp [ltG, AV.lt, AV.ltL, keepS, look], trivial⟩) fun j _ i hi hj _ Bk hB => ?_
  clear hT hTD T TD hfvs hpvs hL hPP
  have hlt : A.lt i (A.vlen fvs) = decide (j < 3) := by subst hA; exact lt_len (by simp [hfm, hLl]) hi
  have hadd : ∀ N, j < N → N ≤ 9223372036854775807 → A.add .i64 i 1 = iLen (j + 1) := fun N hj hN => by subst hA; exact add_one hi hj hN
  refine SGo_run hA ⟨[], [], (17, eAwake) :: (28, eSameI) :: (30, eRangeG) :: (32, eRangeG) :: (33, ePromG) :: (34, ePromG) :: [], []⟩ (.cons eAwake_ok (.cons eSameI_ok (.cons (eRangeG_ok p30) (.cons (eRangeG_ok p32) (.cons (ePromG_ok p33) (.cons (ePromG_ok p34) .nil)))))) .nil 200 fun T TD hT hTD => ?_
  cbv
  split <;> cbv
  · rename_i hk0
    have hk1 : j < 3 := by have hz := hlt.symm.trans hk0; simpa using hz
    clear hk0
    obtain ⟨⟨⟨fa, fb⟩, ⟨fc, fd⟩, fcs, fos⟩, hf⟩ : ∃ f, L[j]? = some f := ⟨_, List.getElem?_eq_getElem (by omega)⟩
    obtain ⟨p, hp⟩ : ∃ p, P[j]? = some p := ⟨_, List.getElem?_eq_getElem (by omega)⟩
    obtain ⟨hb1, hb2⟩ := hLb _ (List.mem_of_getElem? hf)
    have hb3 := hPb _ (List.mem_of_getElem? hp)
    dsimp only at hb1 hb2
    obtain ⟨xf, hxf⟩ : ∃ x, x = fcs.map sp := ⟨_, rfl⟩
    obtain ⟨yf, hyf⟩ : ∃ x, x = fos.map orV := ⟨_, rfl⟩
    obtain ⟨pf, hpf⟩ : ∃ x, x = p.map I := ⟨_, rfl⟩
    have hix : A.ix 6 6 fvs i [I fa, I fb, I fc, I fd, .vs 2 xf, .vs 4 yf] := by subst hA; rw [hxf, hyf]; exact ix_map hfm hi hf rfl
    have hip : A.ix 1 1 pvs i [.vs 1 pf] := by subst hA; rw [hpf]; exact ix_map hpm2 hi hp rfl
    refine Exists.intro _ (And.intro hix ?_); cbv
    refine Exists.intro _ (And.intro hip ?_); cbv
    refine Exists.intro fcs (Exists.intro fos (Exists.intro p (And.intro ⟨hxf, hyf, hpf, hb1, hb2, hb3⟩ ?_)))
    intro lo hi2 e hlo hhi he; cbv
    refine And.intro (by subst hA; first | (simp [std, Keep, SubH, ResK]; done) | exact .inr ⟨⟨rfl, SubH.self _⟩, trivial, .inr fun _ => ⟨rfl, SubH.self _⟩⟩ | exact .inr ⟨SubH.self _, trivial, .inr fun _ => SubH.self _⟩ | exact .inr ⟨by simp [SubH], trivial, .inl rfl⟩ | exact .inr ⟨by simp [SubH], trivial, .inr fun _ => by simp [SubH]⟩) ?_
    cbv
    refine Exists.intro _ (And.intro hix ?_); cbv
    refine Exists.intro _ (And.intro hip ?_); cbv
    refine Exists.intro fcs (Exists.intro fos (Exists.intro p (And.intro ⟨hxf, hyf, hpf, hb1, hb2, hb3⟩ ?_)))
    intro lo' hi' e' hlo' hhi' he'; cbv
    rw [← hlo] at hlo'; rw [← hhi] at hhi'; rw [← he] at he'
    subst hlo' hhi' he'
    refine And.intro (by subst hA; first | (simp [std, Keep, SubH, ResK]; done) | exact .inr ⟨⟨rfl, SubH.self _⟩, trivial, .inr fun _ => ⟨rfl, SubH.self _⟩⟩ | exact .inr ⟨SubH.self _, trivial, .inr fun _ => SubH.self _⟩ | exact .inr ⟨by simp [SubH], trivial, .inl rfl⟩ | exact .inr ⟨by simp [SubH], trivial, .inr fun _ => by simp [SubH]⟩) ?_
    cbv
    refine Exists.intro _ (And.intro hix ?_); cbv
    refine Exists.intro _ (And.intro hip ?_); cbv
    refine Exists.intro fcs (Exists.intro fos (Exists.intro p (And.intro ⟨hxf, hyf, hpf, hb1, hb2, hb3⟩ ?_)))
    intro ms e2 hms he2; cbv
    refine Exists.intro _ (And.intro hix ?_); cbv
    refine Exists.intro _ (And.intro hip ?_); cbv
    refine Exists.intro fcs (Exists.intro fos (Exists.intro p (And.intro ⟨hxf, hyf, hpf, hb1, hb2, hb3⟩ ?_)))
    intro ms' e2' hms' he2'; cbv
    rw [← hms] at hms'; rw [← he2] at he2'
    subst hms' he2'
    have hz1 : A.bnot (A.band (A.eq lo' lo') (A.band (A.eq hi' hi') true)) = false := by
      rw [hnb]; subst hA; simp [std, iEq]
    split <;> cbv
    · rename_i hz; exact Bool.noConfusion (hz.symm.trans hz1)
    split <;> cbv
    · rename_i hz; exact Bool.noConfusion (hz.symm.trans (hnx e'))
    split <;> cbv
    · rename_i hz; exact Bool.noConfusion (hz.symm.trans (hnx e2'))
    have hml := promise_len (f := ⟨(fa, fb), (fc, fd), fcs, fos⟩) (l := p)
    dsimp only at hml
    refine Exists.intro _ (Exists.intro _ (And.intro ⟨hms, hms, by omega, by omega⟩ ?_))
    intro q hq
    have hq1 : A.bnot q = false := by rw [hnb, hq]; simp
    cbv
    split <;> cbv
    · rename_i hz; exact Bool.noConfusion (hz.symm.trans hq1)
    exact hB () _ _ hk1 trivial ⟨congrArg I (hadd _ hk1 (by omega)), trivial⟩ ⟨rfl, rfl, trivial⟩ (.inr ⟨⟨_, rfl⟩, Nat.zero_le _, by simp [ltG, AV.lt, AV.ltL, keepS, look], trivial⟩)
  · exact h _
end Go.Sas
