/-
TopWinter: the examples of two chapters hold.
Probe: marks made of numbers: contract.
TopWinter: entries of tables.
TopWinter: the law's core.
What comes in, by the types of the chapter on probes.
Conditions: none.
-/
import Derived.Test.YtafplipkiaolmaaQAbs23
import Derived.Test.YtafplipkiaolmaaPK
import Derived.Test.YtafplipkiaolmaaXC
import Derived.Test.YtafplipkiaolmaaPC
import Derived.Test.YtafplipkiaolmaaPA
import Derived.Test.YtafplipkiaolmaaPG
import Derived.KernelRfl
import Derived.Test.YtafplipkiaolmaaPP
import Derived.Test.YtafplipkiaolmaaPJ
import Derived.Test.YtafplipkiaolmaaXW
import Derived.Test.YtafplipkiaolmaaXG
import Derived.Test.YtafplipkiaolmaaP7
import Derived.Test.YtafplipkiaolmaaP5
import Derived.Test.YtafplipkiaolmaaProg
set_option linter.unusedVariables false
set_option linter.unusedSimpArgs false
namespace Go.Sas
open Go.Proofs
set_option maxRecDepth 100000
def ct32 : CTab := [
  (32, ⟨K32, [], 24, c32, [.t (.g 4), .t (.g 5)], 2, true⟩),
  (40, ⟨K40, [], 15, c40, [.t (.g 6)], 3, false⟩),
  (44, ⟨K44, [], 17, c44, [.t (.g 2)], 1, false⟩),
  (48, ⟨K48, [], 9, c48, [.t (.g 4)], 2, false⟩),
  (49, ⟨K49, [], 6, c49, [.t (.g 2)], 1, false⟩),
  (50, ⟨K50, [], 73, c50, [.t (.g 4)], 2, false⟩),
  (63, ⟨K63, [], 19, c63, [.t (.g 4)], 2, false⟩),
  (65, ⟨K65, [], 9, c65, [], 2, false⟩),
  (66, ⟨K66, [], 15, c66, [.t (.g 5)], 3, false⟩),
  (67, ⟨K67, [], 20, c67, [.t (.g 4)], 2, false⟩),
  (76, ⟨K76, [], 63, c76, [], 3, false⟩),
  (77, ⟨K77, [], 6, c77, [.t (.g 2)], 1, false⟩),
  (86, ⟨K86, [], 53, c86, [], 4, false⟩)]
theorem ct32_ok : CTabOk Try.prog ct32 :=
  .cons (fun _ _ _ hn h => go32 hn h) (.cons (fun _ _ _ hn h => go40 hn h) (.cons (fun _ _ _ hn h => go44 hn h) (.cons (fun _ _ _ hn h => go48 hn h) (.cons (fun _ _ _ hn h => go49 hn h) (.cons (fun _ _ _ hn h => go50 hn h) (.cons (fun _ _ _ hn h => go63 hn h) (.cons (fun _ _ _ hn h => go65 hn h) (.cons (fun _ _ _ hn h => go66 hn h) (.cons (fun _ _ _ hn h => go67 hn h) (.cons (fun _ _ _ hn h => go76 hn h) (.cons (fun _ _ _ hn h => go77 hn h) (.cons (fun _ _ _ hn h => go86 hn h) (.nil)))))))))))))

theorem r32 : runK ct32 [] 3000 32 [I 10, .vs 1 [I 1, I 2]] = some (.tup [.vs 1 [I 3, I 7], I 0]) := by kernel_rfl
def ctSm : CTab := [
  (33, ⟨K33, [], 26, c33, [.t (.g 4)], 2, false⟩)]
theorem ctSm_ok : CTabOk Try.prog ctSm := .cons (fun _ _ _ hn h => go33 hn h) .nil
theorem r33 : runK ctSm [] 300 33 [.vs 1 [I 3, I 7], .vs 1 [I 3, I 7]] = some (B true) := by kernel_rfl
def eShW : List AV → Option ((AV → Prop) → Prop)
  | [.lit (.int .i64 a), .vs 1 ws] => some fun K => (a = 10 ∧ ws = [I 1, I 2]) ∧ ∀ ys, ys = [I 3, I 7] → K (.tup [.vs 1 ys, I 0])
  | _ => none
theorem eShW_ok : ∀ args pt, eShW args = some pt → ∀ (H : AHeap) (Kk : AV → AHeap → Prop), pt (fun r => Kk r H) → ACalls Try.prog 32 args H Kk := by
  intro args pt h H Kk hk
  unfold eShW at h
  split at h
  · cases h
    obtain ⟨⟨rfl, rfl⟩, h3⟩ := hk
    exact liftP (runK_calls ct32_ok .nil r32) rfl rfl H (h3 _ rfl)
  · cases h
def eSmW : List AV → Option ((AV → Prop) → Prop)
  | [.vs 1 xs, .vs 1 ys] => some fun K => (xs = [I 3, I 7] ∧ ys = [I 3, I 7]) ∧ K (B true)
  | _ => none
theorem eSmW_ok : ∀ args pt, eSmW args = some pt → ∀ (H : AHeap) (Kk : AV → AHeap → Prop), pt (fun r => Kk r H) → ACalls Try.prog 33 args H Kk := by
  intro args pt h H Kk hk
  unfold eSmW at h
  split at h
  · cases h
    obtain ⟨⟨rfl, rfl⟩, h3⟩ := hk
    exact liftP (runK_calls ctSm_ok .nil r33) rfl rfl H h3
  · cases h
theorem p31 (n : Int) (H : AHeap) {Kk : AV → AHeap → Prop} (h : Kk (.agg [I n, I n]) H) : ACalls Try.prog 31 [I n] H Kk := by
  refine (fun q => pureC (by rfl) (by rfl) q H h) ?_
  clear h
  intro Kk h
  obtain ⟨A, hA⟩ : ∃ A, A = std := ⟨_, rfl⟩
  refine go31 rfl (SGo_run hA ⟨[], [], [], []⟩ .nil .nil 200 fun T TD hT hTD => ?_)
  cbv
  exact h
def eOneW : List AV → Option ((AV → Prop) → Prop)
  | [.lit (.int .i64 n)] => some fun K => K (.agg [I n, I n])
  | _ => none
theorem eOneW_ok : ∀ args pt, eOneW args = some pt → ∀ (H : AHeap) (Kk : AV → AHeap → Prop), pt (fun r => Kk r H) → ACalls Try.prog 31 args H Kk := by
  intro args pt h H Kk hk
  unfold eOneW at h
  split at h
  · cases h; exact p31 _ H hk
  · cases h
def exRW : List Rch := [⟨2, 10, 0, 0, 5⟩]
def exLW : List Lk := [⟨1, 0, 0, 500, 500⟩]
theorem knownW : knownR exRW 0 0 0 exLW 1 3 = ((490, 510), 0) := by decide
theorem p17 (H : AHeap) {Kk : AV → AHeap → Prop} (h : Kk (B true) H) : ACalls Try.prog 17 [] H Kk := by
  refine (fun q => pureC (by rfl) (by rfl) q H h) ?_
  clear h
  intro Kk h
  obtain ⟨A, hA⟩ : ∃ A, A = std := ⟨_, rfl⟩
  refine go17 rfl (SGo_run hA ⟨[], [], (31, eOneW) :: (30, eKnown) :: (32, eShW) :: (33, eSmW) :: [], []⟩ (.cons eOneW_ok (.cons (eKnown_ok p30) (.cons eShW_ok (.cons eSmW_ok .nil)))) .nil 200 fun T TD hT hTD => ?_)
  cbv
  refine Exists.intro exRW (Exists.intro exLW (And.intro rfl (And.intro rfl (And.intro (by decide) (And.intro (by decide) ?_)))))
  intro u v e huv; cbv
  have huv := huv.trans knownW
  simp only [Prod.mk.injEq] at huv
  obtain ⟨⟨rfl, rfl⟩, rfl⟩ := huv
  refine And.intro (by subst hA; first | (simp [std, Keep, SubH, ResK]; done) | exact .inr ⟨⟨rfl, SubH.self _⟩, trivial, .inr fun _ => ⟨rfl, SubH.self _⟩⟩ | exact .inr ⟨SubH.self _, trivial, .inr fun _ => SubH.self _⟩ | exact .inr ⟨by simp [SubH], trivial, .inl rfl⟩ | exact .inr ⟨by simp [SubH], trivial, .inr fun _ => by simp [SubH]⟩) ?_
  cbv
  cbv
  intro ys hys; cbv
  have e0 : A.eq 0 0 = true := by subst hA; rfl
  have e1 : A.eq 490 490 = true := by subst hA; rfl
  have e2 : A.eq 510 510 = true := by subst hA; rfl
  have e4 : A.band (A.eq 490 490) (A.band (A.eq 510 510) true) = true := by subst hA; rfl
  split <;> first | (rename_i hz; exact Bool.noConfusion (hz.symm.trans e0)) | cbv
  split <;> first | (rename_i hz; exact Bool.noConfusion (hz.symm.trans e0)) | cbv
  split <;> first | (rename_i hz; exact Bool.noConfusion (hz.symm.trans e4)) | cbv
  exact And.intro ⟨hys, trivial⟩ h
end Go.Sas
namespace Go.Sas
open Go.Proofs
set_option maxRecDepth 100000
def MkD (n hours : Int) (x : Mrk) : Prop := MkOk n x ∧ x.h < hours
def MkQ (n hours most : Int) (r : AV) : Prop := ∃ (m : List Mrk) (xs : List AV), r = .vs 5 xs ∧ xs = m.map mkV ∧ iLen m.length ≤ most ∧ ∀ x ∈ m, MkD n hours x
set_option maxHeartbeats 2000000 in
theorem d8 (rs : List Rch) (a b c most hours : Int) (ho : RoadOk rs) (hm : 0 ≤ most ∧ most ≤ 100) (hh : 1 ≤ hours ∧ hours ≤ 100) : Draws Try.prog 8 [svV (.vs 5 (rs.map rcV)) a b c, I most, I hours] (MkQ (sumLg rs) hours most) := by
  have hnr := nidL_rc rs
  refine .of (by simp [AV.nid, AV.nidL, hnr]) (by rintro r ⟨_, _, rfl, rfl, _⟩; simp [AV.nid]) fun w Kk h => ACalls.frees ?_
  obtain ⟨xs, hxs⟩ : ∃ xs, xs = rs.map rcV := ⟨_, rfl⟩
  rw [← hxs]
  have hsb := sumLg_bnd' ho
  obtain ⟨A, hA⟩ : ∃ A, A = std := ⟨_, rfl⟩
  have hsg : ∀ g, A.sg g g := by subst hA; exact fun _ => rfl
  obtain ⟨F, hF⟩ : ∃ F, F = Frees 1 Kk := ⟨_, rfl⟩
  rw [show Frees [AObj.own 0 [U w]].length Kk = F from hF.symm]
  have hm1 : A.add .i64 most 1 = most + 1 := by subst hA; exact iAdd_id (by omega) (by omega)
  refine go8 rfl (SGo_run hA ⟨[], [], (20, ePlaces) :: [], ed2⟩ (.cons (ePlaces_ok p20) .nil) ed2_ok 200 fun T TD hT hTD => ?_)
  cbv
  refine Exists.intro rs (And.intro hxs (And.intro (by have := ho.n2; omega) (And.intro ho.all ?_)))
  intro nn hnn; cbv
  have hnb : 1 ≤ nn ∧ nn ≤ 1000 := by omega
  refine Exists.intro () (And.intro (by show A.add .i64 most 1 ≤ _; rw [hm1]; omega) ?_)
  rintro w1 _ ⟨d0, rfl, hd1, hd2⟩
  have hd2 : d0 < A.add .i64 most 1 ∨ d0 = 0 := hd2
  rw [hm1] at hd2
  cbv
  rw [hT]
  refine AGo_nilms 10 5 rfl ?_
  refine AGo_whileE (σ := Int × Int × List Mrk) [0, 3, 9] (fun s => s.2.1.toNat) (fun s => 0 ≤ s.2.1 ∧ s.2.1 + iLen s.2.2.length ≤ most ∧ ∀ x ∈ s.2.2, MkD nn hours x) (fun s => [(10, .ms 5 2 s.2.2.length 0 s.2.2.length), (11, I s.2.1)])
    (fun s => [.own 0 [U s.1], .own 0 [.vs 5 xs, I a, I b, I c], .own s.2.2.length (s.2.2.flatMap mkC)]) (w1, d0, []) ⟨by dsimp only; omega, by show d0 + iLen 0 ≤ most; unfold iLen; omega, by simp⟩ ⟨rfl, rfl, trivial⟩ (.inl rfl) fun s hP Bk hB => ?_
  obtain ⟨w2, d, l⟩ := s
  obtain ⟨hP1, hP2, hP3⟩ := hP
  dsimp only at hP1 hP2 hP3 ⊢
  obtain ⟨n, hn⟩ : ∃ n, n = l.length := ⟨_, rfl⟩
  obtain ⟨cc, hcc⟩ : ∃ c, c = l.flatMap mkC := ⟨_, rfl⟩
  rw [← hn, ← hcc]
  rw [← hn] at hP2
  have hn4 : n ≤ 100 := by unfold iLen at hP2; omega
  have hd4 : d ≤ 100 := by unfold iLen at hP2; omega
  have hcl : cc.length = n * 5 := by rw [hcc, hn, len_flat (k := 5) (fun _ => rfl)]
  have hgt : A.lt 0 d = decide (0 < d) := by subst hA; rfl
  have hxl : ∀ n, AV.ltL n xs := fun n => AV.ltL_nid (by rw [hxs]; exact hnr)
  have hcn : ∀ q (l : List Mrk), AV.ltL q (l.flatMap mkC) := fun q l => AV.ltL_nid (nidL_flat (fun _ => rfl) l)
  refine SGo_run hA ⟨[2], [0, 1002, 2000003], [], ed2⟩ .nil ed2_ok 200 fun T TD hT hTD => ?_
  cbv
  split <;> cbv
  · rename_i hz
    have hz : 0 < d := by have hz := hgt.symm.trans hz; simpa using hz
    refine Exists.intro () (And.intro (by omega) ?_)
    rintro w3 _ ⟨k, rfl, hk⟩
    cbv
    refine Exists.intro () (And.intro (by show nn ≤ _; omega) ?_)
    rintro w4 _ ⟨f, rfl, hf, hf'⟩
    cbv
    refine Exists.intro () (And.intro (by show hours ≤ _; omega) ?_)
    rintro w5 _ ⟨hr, rfl, hhr, hhr'⟩
    cbv
    refine Exists.intro () (And.intro (by omega) ?_)
    rintro w6 _ ⟨s3, rfl, hs3, hs3'⟩
    cbv
    refine Exists.intro () (And.intro ⟨by simp, by simp, by exact AllI_lits (l := [0, 0, 1, s3])⟩ ?_)
    rintro w7 _ ⟨sp0, rfl, hsp⟩
    simp at hsp
    cbv
    refine Exists.intro () (And.intro (by omega) ?_)
    rintro w8 _ ⟨s4, rfl, hs4, hs4'⟩
    cbv
    refine And.intro (by subst hA; first | (simp [std, Keep, SubH, ResK]; done) | exact .inr ⟨⟨rfl, SubH.self _⟩, trivial, .inr fun _ => ⟨rfl, SubH.self _⟩⟩ | exact .inr ⟨SubH.self _, trivial, .inr fun _ => SubH.self _⟩ | exact .inr ⟨by simp [SubH], trivial, .inl rfl⟩ | exact .inr ⟨by simp [SubH], trivial, .inr fun _ => by simp [SubH]⟩) ?_
    cbv
    refine Exists.intro () (And.intro (by show nn ≤ _; omega) ?_)
    rintro w9 _ ⟨s5, rfl, hs5, hs5'⟩
    cbv
    refine And.intro (by subst hA; first | (simp [std, Keep, SubH, ResK]; done) | exact .inr ⟨⟨rfl, SubH.self _⟩, trivial, .inr fun _ => ⟨rfl, SubH.self _⟩⟩ | exact .inr ⟨SubH.self _, trivial, .inr fun _ => SubH.self _⟩ | exact .inr ⟨by simp [SubH], trivial, .inl rfl⟩ | exact .inr ⟨by simp [SubH], trivial, .inr fun _ => by simp [SubH]⟩) ?_
    cbv
    refine Exists.intro () (And.intro ⟨by simp, by simp, by exact AllI_lits (l := [0, s4, s5])⟩ ?_)
    rintro w10 _ ⟨dd, rfl, hdd⟩
    simp at hdd
    cbv
    refine And.intro (by subst hA; first | (simp [std, Keep, SubH, ResK]; done) | exact .inr ⟨⟨rfl, SubH.self _⟩, trivial, .inr fun _ => ⟨rfl, SubH.self _⟩⟩ | exact .inr ⟨SubH.self _, trivial, .inr fun _ => SubH.self _⟩ | exact .inr ⟨by simp [SubH], trivial, .inl rfl⟩ | exact .inr ⟨by simp [SubH], trivial, .inr fun _ => by simp [SubH]⟩) ?_
    cbv
    have hsub : A.sub .i64 d 1 = d - 1 := by subst hA; exact iSub_id (by omega) (by omega)
    have hsn : A.sub .i64 nn 1 = nn - 1 := by subst hA; exact iSub_id (by omega) (by omega)
    have hfd : A.add .i64 f dd = f + dd := by subst hA; exact iAdd_id (by omega) (by omega)
    have hmn : A.min (A.sub .i64 nn 1) (A.add .i64 f dd) = min (nn - 1) (f + dd) := by rw [hsn, hfd]; subst hA; exact iMin_eq _ _
    obtain ⟨cc2, hcc2⟩ : ∃ x, x = cc ++ mkC ⟨k, f, A.min (A.sub .i64 nn 1) (A.add .i64 f dd), hr, sp0⟩ := ⟨_, rfl⟩
    refine And.intro (hsg _) (Exists.intro cc2 (Exists.intro (n + 1) (And.intro (by subst hA; rw [hcc2]; exact app_one hcl rfl (by omega)) (And.intro rfl ?_)))); cbv
    rw [hmn] at hcc2
    obtain ⟨x, hx⟩ : ∃ x : Mrk, x = ⟨k, f, min (nn - 1) (f + dd), hr, sp0⟩ := ⟨_, rfl⟩
    rw [← hx] at hcc2
    have hxo : MkD nn hours x := by
      rw [hx]; unfold MkD MkOk; dsimp only; omega
    have hfin : cc2 = (l ++ [x]).flatMap mkC := by rw [hcc2, hcc]; simp
    have hlen : (l ++ [x]).length = n + 1 := by rw [List.length_append, ← hn]; rfl
    refine hB (w10, d - 1, l ++ [x]) _ _ (by dsimp only; omega) ⟨by dsimp only; omega, by dsimp only; rw [hlen]; unfold iLen at hP2 ⊢; omega, ?_⟩ (by rw [hlen]; exact ⟨rfl, congrArg I hsub, trivial⟩) ⟨rfl, rfl, rfl, trivial⟩ (.inr ⟨⟨_, by dsimp only; rw [hlen, ← hfin]; rfl⟩, by simp, by simp [ltG, AV.lt, AV.ltL, keepS, look, gset], by simp [ltH, AObj.lt, AV.lt, AV.ltL, hxl, hcn, -List.flatMap_append]⟩)
    intro y hy
    rcases List.mem_append.1 hy with hy | hy
    · exact hP3 y hy
    · simp only [List.mem_singleton] at hy; subst hy; exact hxo
  · rename_i hz
    have hE : Elems 5 (l.map mkV) cc := by rw [hcc]; exact Elems_map (f := mkV) (g := mkC) (sz := 5) (fun _ => rfl) (fun _ => rfl) (fun _ => rfl) l
    rw [hF]
    refine Frees.frz 2 n 5 (l.map mkV) rfl hE ?_
    have e1 : AV.frz 2 n 5 (l.map mkV) (aTup [.ms 5 2 n 0 n]) = .vs 5 (l.map mkV) := frz_self (by simp [hn])
    rw [e1]
    refine Frees.drop1 (w := w2) rfl (h w2 _ ⟨l, _, rfl, rfl, ?_, fun x hx => by rw [← hnn]; exact hP3 x hx⟩)
    rw [← hn]; unfold iLen at hP2 ⊢; omega
def sMarks : List AV → Option ((List Rch × Int × Int → Prop) × (List Rch × Int × Int → AV → Prop))
  | [.agg [.vs 5 xs, .lit (.int .i64 a), .lit (.int .i64 b), .lit (.int .i64 c)], .lit (.int .i64 most), .lit (.int .i64 hours)] => some (fun x => xs = x.1.map rcV ∧ x.2.1 = most ∧ x.2.2 = hours ∧ RoadOk x.1 ∧ (0 ≤ most ∧ most ≤ 100) ∧ 1 ≤ hours ∧ hours ≤ 100, fun x => MkQ (sumLg x.1) x.2.2 x.2.1)
  | _ => none
theorem sMarks_ok : ∀ rest pre Q, sMarks rest = some (pre, Q) → ∀ x, pre x → Draws Try.prog 8 rest (Q x) := by
  intro rest pre Q h x hp
  unfold sMarks at h
  split at h
  · cases h
    obtain ⟨rs, m, hr⟩ := x
    obtain ⟨h1, h2, h3, h4, h5, h6⟩ := hp
    dsimp only at h1 h2 h3 h4
    subst h1 h2 h3
    exact d8 rs _ _ _ _ _ h4 h5 h6
  · cases h
def edM : ETab := (8, eDrawX sMarks) :: edP
theorem edM_ok : ETabOk Try.prog edM := .cons (eDrawX_ok sMarks_ok) edP_ok
end Go.Sas
namespace Go.Sas
open Go.Proofs
set_option maxRecDepth 100000
def eWinter : List AV → Option ((AV → Prop) → Prop)
  | [.vs 1 xs, .lit (.int .i64 u)] => some fun K => ∃ l : List Bool, (xs = l.map B ∧ l.length ≤ 1000000) ∧ ∀ n zs, n = iLen l.length - 1 → zs = (l.map (capB u)).map I → K (.agg [I 0, I n, .vs 1 zs])
  | _ => none
theorem eWinter_ok : ∀ args pt, eWinter args = some pt → ∀ (H : AHeap) (Kk : AV → AHeap → Prop), pt (fun r => Kk r H) → ACalls Try.prog 15 args H Kk := by
  intro args pt h H Kk hk
  unfold eWinter at h
  split at h
  · cases h
    obtain ⟨l, ⟨rfl, h1⟩, h2⟩ := hk
    exact p15 l _ h1 H (h2 _ _ rfl rfl)
  · cases h
def eOpen : List AV → Option ((AV → Prop) → Prop)
  | [.agg [.vs 5 xs, .lit (.int .i64 a), .lit (.int .i64 b), .lit (.int .i64 c)], .vs 5 ls, .vs 5 ms, .lit (.int .i64 need), .lit (.int .i64 d)] =>
    some fun K => ∃ (rs : List Rch) (l : List Lk) (m : List Mrk) (D : Nat), (xs = rs.map rcV ∧ ls = l.map lkV ∧ ms = m.map mkV ∧ d = iLen D) ∧ (rs.length ≤ 9223372036854775807 ∧ l.length ≤ 9223372036854775807 ∧ m.length ≤ 9223372036854775807 ∧ D ≤ 1000) ∧
      (∀ t, t < D → askE rs a b c l m need (iLen t) = 0) ∧ (∀ t, t < D → CovM (pastM m (iLen t)) (iLen t) (sumLg rs)) ∧ ∀ zs, zs = ((List.range D).map (openS rs a b c l m need)).map B → K (.tup [.vs 1 zs, B true])
  | _ => none
theorem eOpen_ok : ∀ args pt, eOpen args = some pt → ∀ (H : AHeap) (Kk : AV → AHeap → Prop), pt (fun r => Kk r H) → ACalls Try.prog 13 args H Kk := by
  intro args pt h H Kk hk
  unfold eOpen at h
  split at h
  · cases h
    obtain ⟨rs, l, m, D, ⟨rfl, rfl, rfl, rfl⟩, ⟨h1, h2, h3, h4⟩, h5, h6, h7⟩ := hk
    exact p13 rs _ _ _ l m _ D h1 h2 h3 h4 h5 h6 H (h7 _ rfl)
  · cases h
def eAwakeW : List AV → Option ((AV → Prop) → Prop)
  | [] => some fun K => K (B true)
  | _ => none
theorem eAwakeW_ok : ∀ args pt, eAwakeW args = some pt → ∀ (H : AHeap) (Kk : AV → AHeap → Prop), pt (fun r => Kk r H) → ACalls Try.prog 17 args H Kk := by
  intro args pt h H Kk hk
  unfold eAwakeW at h
  split at h
  · cases h; exact p17 H hk
  · cases h
def edW : ETab := (9, eFrM) :: (12, ePlanOf) :: edM
theorem edW_ok : ETabOk Try.prog edW := .cons eFrM_ok (.cons ePlanOf_ok edM_ok)
theorem ixm2 {len j o : Nat} {i : Int} (hi : i = iLen j) (h : j < len) (ho : o = j * 2) : ixmS 2 2 0 len i o := by
  subst hi ho; unfold ixmS iLen; refine ⟨rfl, by omega, by omega, by omega⟩
theorem flat2_len (l : List (Int × Int)) : (l.flatMap spC).length = l.length * 2 := len_flat (k := 2) (fun _ => rfl) l
theorem flat2_mid {a b : List (Int × Int)} {x : Int × Int} : (a ++ x :: b).flatMap spC = a.flatMap spC ++ (I x.1 :: I x.2 :: b.flatMap spC) := by simp [spC]
theorem upd_sp2 {a b : List (Int × Int)} {x y : Int × Int} {o : Nat} (ho : o = a.length * 2) : updS 2 ((a ++ x :: b).flatMap spC) o [I y.1, I y.2] ((a ++ y :: b).flatMap spC) := by
  have hl := flat2_len a
  rw [flat2_mid, flat2_mid]
  refine ⟨rfl, by rw [List.length_append, hl, List.length_cons, List.length_cons]; omega, ?_⟩
  have e1 : List.take o (a.flatMap spC ++ (I x.1 :: I x.2 :: b.flatMap spC)) = a.flatMap spC := List.take_left' (by omega)
  have e2 : List.drop (o + 2) (a.flatMap spC ++ (I x.1 :: I x.2 :: b.flatMap spC)) = b.flatMap spC := by
    rw [Nat.add_comm, ← List.drop_drop, ]
    rw [show List.drop o (List.drop 2 (a.flatMap spC ++ (I x.1 :: I x.2 :: b.flatMap spC))) = List.drop 2 (List.drop o (a.flatMap spC ++ (I x.1 :: I x.2 :: b.flatMap spC))) by rw [List.drop_drop, List.drop_drop, Nat.add_comm]]
    rw [List.drop_left' (by omega)]; rfl
  rw [e1, e2]; simp
end Go.Sas
namespace Go.Sas
open Go.Proofs
set_option maxRecDepth 100000
set_option maxHeartbeats 8000000 in
theorem core3 (nums : List Int) (hn1 : nums.length ≤ 9223372036854775807) : ACalls Try.prog 3 [.vs 1 (nums.map I)] [] fun r _ => r = .lit (.bool true) := by
  obtain ⟨Kk, hKk⟩ : ∃ K : AV → AHeap → Prop, K = fun r _ => r = .lit (.bool true) := ⟨_, rfl⟩
  rw [← hKk]
  have h : ∀ H, Kk (B true) H := fun H => by rw [hKk]
  clear hKk
  obtain ⟨xn, hxn⟩ : ∃ ys, ys = nums.map I := ⟨_, rfl⟩
  rw [← hxn]
  obtain ⟨A, hA⟩ : ∃ A, A = std := ⟨_, rfl⟩
  have hne : ∀ x y, A.ne x y = decide (x ≠ y) := by subst hA; intro x y; simp only [std, iNe]; rw [Bool.eq_iff_iff]; simp
  have hee : ∀ x y, A.eq x y = decide (x = y) := by subst hA; intro x y; exact iEq_dec _ _
  have hll : ∀ x y, A.lt x y = decide (x < y) := by subst hA; intro x y; rfl
  have hle : ∀ x y, A.le x y = decide (x ≤ y) := by subst hA; intro x y; rfl
  have hnb : ∀ b, A.bnot b = !b := by subst hA; intro b; rfl
  have hbd : ∀ x y, A.band x y = (x && y) := by subst hA; intro x y; rfl
  have hsg : ∀ g, A.sg g g := by subst hA; exact fun _ => rfl
  refine go3 rfl (SGo_run hA ⟨[2], [0, 1000048], [], edW⟩ .nil edW_ok 200 fun T TD hT hTD => ?_)
  cbv
  refine Exists.intro nums (And.intro ⟨hxn, hn1⟩ ?_)
  intro w1
  cbv
  refine Exists.intro () (And.intro (by omega) ?_)
  rintro w2 _ ⟨rs, a, b, c, xs, rfl, hxs, hsv⟩
  cbv
  have ho := hsv.road (by omega)
  have hs := hsv.sgt
  refine Exists.intro (rs, 12) (And.intro ⟨hxs, rfl, ho, by omega, by omega⟩ ?_)
  rintro w3 _ ⟨TC, cr, rfl, hcr, hcrs⟩
  have hcrs : CrsOk (plc rs) TC 12 := hcrs
  have hcr : cr = crsV TC 12 (plc rs).length := hcr
  cbv
  refine Exists.intro (plc rs, TC, 12) (And.intro ⟨hcr, ho.plc, hcrs, by omega, ⟨show (1 : Nat) ≤ 12 by decide, show (12 : Nat) ≤ 100 by decide⟩, by omega⟩ ?_)
  rintro w4 _ ⟨l, ls, rfl, hls, hlle, hfit⟩
  have hlle : l.length ≤ 6 := Int.ofNat_le.1 hlle
  have hfit : ∀ x ∈ l, LkFit (plc rs) TC 0 12 x := hfit
  cbv
  have hE1 := Elems_map (f := lkV) (g := lkC) (sz := 5) (fun _ => rfl) (fun _ => rfl) (fun _ => rfl) l
  rw [← hls] at hE1
  have hlsl : ls.length = l.length := by rw [hls]; simp
  obtain ⟨c1, hc1⟩ : ∃ c, c = l.flatMap lkC := ⟨_, rfl⟩
  rw [← hc1] at hE1
  obtain ⟨n1, hn1'⟩ : ∃ n, n = 0 + ls.length := ⟨_, rfl⟩
  have happ1 : A.app 5 5 40 [] 0 0 ls c1 n1 := by subst hA; rw [hn1']; exact app_all rfl hE1.1 (by omega)
  refine Exists.intro c1 (Exists.intro n1 (And.intro happ1 (And.intro rfl ?_))); cbv
  refine Exists.intro (plc rs, TC, 12) (And.intro ⟨hcr, ho.plc, hcrs, by omega, ⟨show (1 : Nat) ≤ 12 by decide, show (12 : Nat) ≤ 100 by decide⟩, by omega⟩ ?_)
  rintro w5 _ ⟨l2, ls2, rfl, hls2, hll2, hfit2⟩
  have hll2 : l2.length ≤ 8 := Int.ofNat_le.1 hll2
  have hfit2 : ∀ x ∈ l2, LkFit (plc rs) TC 0 12 x := hfit2
  cbv
  have hE2 := Elems_map (f := lkV) (g := lkC) (sz := 5) (fun _ => rfl) (fun _ => rfl) (fun _ => rfl) l2
  rw [← hls2] at hE2
  have hls2l : ls2.length = l2.length := by rw [hls2]; simp
  obtain ⟨c2, hc2⟩ : ∃ c, c = c1 ++ l2.flatMap lkC := ⟨_, rfl⟩
  obtain ⟨n2, hn2⟩ : ∃ n, n = n1 + ls2.length := ⟨_, rfl⟩
  have hn2l : n2 = l.length + l2.length := by omega
  have happ2 : A.app 5 5 40 c1 0 n1 ls2 c2 n2 := by subst hA; rw [hc2, hn2]; exact app_all (by rw [hc1, len_flat (k := 5) (fun _ => rfl)]; omega) hE2.1 (by omega)
  refine And.intro (hsg _) (Exists.intro c2 (Exists.intro n2 (And.intro happ2 (And.intro rfl ?_)))); cbv
  have hcN : c2 = (l ++ l2).flatMap lkC := by rw [hc2, hc1, List.flatMap_append]
  have hE3 := Elems_map (f := lkV) (g := lkC) (sz := 5) (fun _ => rfl) (fun _ => rfl) (fun _ => rfl) (l ++ l2)
  rw [← hcN] at hE3
  obtain ⟨lN, hlN⟩ : ∃ x, x = l ++ l2 := ⟨_, rfl⟩
  rw [← hlN] at hE3
  obtain ⟨lsN, hlsN⟩ : ∃ x, x = lN.map lkV := ⟨_, rfl⟩
  rw [← hlsN] at hE3
  have hlNn : lN.length = n2 := by rw [hlN, List.length_append]; omega
  rw [hT]
  refine AGo_frzS 7 (id := 2) (g := 1) (sz := 5) (n := n2) (xs := lsN) (cs := c2) rfl rfl (by rw [hlsN]; simp [hlNn]) hE3 ?_
  have hfitN : ∀ x ∈ lN, LkFit (plc rs) TC 0 12 x := by
    rw [hlN]; intro x hx
    rcases List.mem_append.1 hx with hx | hx
    · exact hfit x hx
    · exact hfit2 x hx
  have hnar : NarL l lN := by rw [hlN]; exact fun y hy => ⟨y, List.mem_append_left _ hy, Nar.rfl'⟩
  have hlo : LksOk (plc rs) l := LksOk.fits hcrs (by omega) (by decide) (by omega) hfit
  have hloN : LksOk (plc rs) lN := LksOk.fits hcrs (by omega) (by decide) (by omega) hfitN
  refine SGo_run hA ⟨[5], [0], [], edW⟩ .nil edW_ok 200 fun T TD hT hTD => ?_
  cbv
  refine Exists.intro (rs, 1, 14) (And.intro ⟨hxs, rfl, rfl, ho, by omega, by omega⟩ ?_)
  rintro w6 _ ⟨m, ms, rfl, hms, hml, hmk⟩
  have hml : m.length ≤ 1 := by have h9 : iLen m.length ≤ 1 := hml; unfold iLen at h9; omega
  have hmk : ∀ x ∈ m, MkD (sumLg rs) 14 x := hmk
  cbv
  intro w7 fa fb fc fd cs os n cc ys hck hcl hol hcs hos hn hcc hys
  cbv
  obtain ⟨N, hN⟩ : ∃ N, N = (plc rs).length := ⟨_, rfl⟩
  have hN1 : 1 ≤ N := by rw [hN]; exact ho.plc.pos
  have hrow0 : A.ix 1 1 cr 0 [.vs 1 (crsRow TC N 0)] := by subst hA; rw [hN]; exact ix_map (f := fun i => AV.vs 1 (crsRow TC (plc rs).length i)) (j := 0) (x := 0) hcr rfl (by simp) rfl
  have hcell0 : A.ix 1 1 (crsRow TC N 0) 0 [I (TC 0 0)] := by subst hA; exact ix_map (f := I) (j := 0) rfl rfl (by simp [show 0 < N by omega]) rfl
  have hTb := hcrs.rng 0 0 (by omega) (by omega)
  obtain ⟨t0, ht0⟩ : ∃ t, t = TC 0 0 := ⟨_, rfl⟩
  rw [← ht0] at hcell0 hTb
  obtain ⟨row0, hrow0e⟩ : ∃ x, x = crsRow TC N 0 := ⟨_, rfl⟩
  rw [← hrow0e] at hrow0 hcell0
  refine And.intro (hsg _) (Exists.intro _ (And.intro hrow0 ?_)); cbv
  refine Exists.intro _ (And.intro hcell0 ?_); cbv
  refine Exists.intro () (And.intro (by omega) ?_)
  rintro w8 _ ⟨u, rfl, hu1, hu2⟩
  have hu1 : 1 ≤ u := by omega
  have hu2 : u ≤ 6 := by omega
  cbv
  refine And.intro (by subst hA; first | (simp [std, Keep, SubH, ResK]; done) | exact .inr ⟨⟨rfl, SubH.self _⟩, trivial, .inr fun _ => ⟨rfl, SubH.self _⟩⟩ | exact .inr ⟨SubH.self _, trivial, .inr fun _ => SubH.self _⟩ | exact .inr ⟨by simp [SubH], trivial, .inl rfl⟩ | exact .inr ⟨by simp [SubH], trivial, .inr fun _ => by simp [SubH]⟩) ?_
  cbv
  refine Exists.intro () (And.intro (by omega) ?_)
  rintro w9 _ ⟨de, rfl, hd1, hd2⟩
  have hd2 : de < 300 ∨ de = 0 := hd2
  cbv
  refine And.intro (by subst hA; first | (simp [std, Keep, SubH, ResK]; done) | exact .inr ⟨⟨rfl, SubH.self _⟩, trivial, .inr fun _ => ⟨rfl, SubH.self _⟩⟩ | exact .inr ⟨SubH.self _, trivial, .inr fun _ => SubH.self _⟩ | exact .inr ⟨by simp [SubH], trivial, .inl rfl⟩ | exact .inr ⟨by simp [SubH], trivial, .inr fun _ => by simp [SubH]⟩) ?_
  cbv
  have hV := checkF_ok hck
  have hc1' := hV.c1
  have hc2' := hV.c2
  dsimp only at hc1' hc2'
  have hcl : n ≤ 12 := by have h9 : iLen cs.length ≤ 12 := hcl; unfold iLen at h9; omega
  have hcl1 : 1 ≤ n := by omega
  have hcl2 : cs.length = n := hn.symm
  have hdl : A.len n = iLen n := by subst hA; rfl
  have hsb : A.sub .i64 (A.len n) 1 = iLen n - 1 := by rw [hdl]; subst hA; exact iSub_id (by unfold iLen; omega) (by unfold iLen; omega)
  have hmx : A.max 0 (A.sub .i64 t0 de) = max 0 (t0 - de) := by subst hA; simp only [std, iMax_eq]; rw [iSub_id (by omega) (by omega)]
  obtain ⟨dv, hdv⟩ : ∃ x, x = A.len n := ⟨_, rfl⟩
  obtain ⟨la, hla⟩ : ∃ x, x = A.sub .i64 dv 1 := ⟨_, rfl⟩
  obtain ⟨nd, hnd⟩ : ∃ x, x = A.max 0 (A.sub .i64 t0 de) := ⟨_, rfl⟩
  rw [← hdv, ← hla, ← hnd]
  rw [← hdv] at hdl hsb
  rw [← hla] at hsb
  rw [← hnd] at hmx
  rw [hT]
  refine AGo_upE [3, 4, 6, 7, 8, 9, 10, 11, 12] n (fun _ (_ : Unit) => True) (fun _ _ i => [(13, I i)])
    (fun j _ => [.own 0 [U w9], .own 0 [.vs 5 xs, I a, I b, I c], .gone, .own 0 [], .own 0 [], .own n ((List.replicate j ((0 : Int), u) ++ cs.drop j).flatMap spC), .gone, .own 0 [I 0, I la, I 0, I la, .ms 2 5 n 0 n, .vs 4 ys]]) () trivial ⟨rfl, trivial⟩ (.inl (by simp [hcc])) fun j _ i hi hj hP Bk hB => ?_
  have hlt : A.lt i dv = decide (j < n) := by rw [hll, hdl, hi, decide_eq_decide]; unfold iLen; omega
  have hadd : ∀ N, j < N → N ≤ 9223372036854775807 → A.add .i64 i 1 = iLen (j + 1) := fun N hj hN => by subst hA; exact add_one hi hj hN
  obtain ⟨cj, hcj⟩ : ∃ x, x = (List.replicate j ((0 : Int), u) ++ cs.drop j).flatMap spC := ⟨_, rfl⟩
  rw [← hcj]
  refine SGo_run hA ⟨[5], [0, 1000092], [], edW⟩ .nil edW_ok 200 fun T TD hT hTD => ?_
  cbv
  split <;> cbv
  · rename_i hk0
    have hk1 : j < n := by have hz := hlt.symm.trans hk0; simpa using hz
    clear hk0
    obtain ⟨⟨q1, q2⟩, hx⟩ : ∃ x, cs[j]? = some x := ⟨_, List.getElem?_eq_getElem (by omega)⟩
    have hdr : cs.drop j = (q1, q2) :: cs.drop (j + 1) := drop_cons hx
    obtain ⟨o, hoe⟩ : ∃ o, o = j * 2 := ⟨_, rfl⟩
    have hixm : A.ixm 2 2 0 n i o := by subst hA; exact ixm2 hi hk1 hoe
    obtain ⟨cj2, hcj2⟩ : ∃ x, x = (List.replicate (j + 1) ((0 : Int), u) ++ cs.drop (j + 1)).flatMap spC := ⟨_, rfl⟩
    have hup : A.upd 2 cj o [I 0, I u] cj2 := by
      subst hA; rw [hcj, hcj2, hdr, List.replicate_succ', List.append_assoc, List.singleton_append]
      exact upd_sp2 (y := (0, u)) (by simp [hoe])
    refine And.intro (hsg _) (Exists.intro o (And.intro hixm ?_)); cbv
    refine And.intro (hsg _) (Exists.intro cj2 (And.intro hup ?_)); cbv
    refine hB () _ _ hk1 trivial ⟨congrArg I (hadd _ hk1 (by omega)), trivial⟩ ⟨rfl, rfl, rfl, rfl, rfl, rfl, rfl, rfl, rfl, trivial⟩ (.inl (by rw [hcj2]))
  · rename_i hk0
    have hk1 : ¬ j < n := by have hz := hlt.symm.trans hk0; simpa using hz
    clear hk0
    have hjn : j = n := by omega
    subst hjn
    clear hB hadd hlt
    have hoV := hV.o2
    dsimp only at hoV
    have hvl : A.vlen ys = iLen os.length := by subst hA; simp [std, hys]
    refine Exists.intro os.length (And.intro ⟨hvl, by omega⟩ ?_)
    rintro w10 _ ⟨ps, p, rfl, hps, hp⟩
    obtain ⟨hP, hpn, hpm⟩ := perm_plan hp
    rw [hpm] at hps
    cbv
    rw [hT]
    obtain ⟨xs5, hxs5⟩ : ∃ x, x = (List.replicate j ((0 : Int), u)).map sp := ⟨_, rfl⟩
    have hE5 : Elems 2 xs5 cj := by
      rw [hxs5, hcj, List.drop_eq_nil_of_le (by omega), List.append_nil]; exact Elems_sp _
    have hx5l : xs5.length = j := by rw [hxs5]; simp
    refine AGo_frz 5 j 2 xs5 rfl hE5 ?_
    have e6 : frzH 5 j 2 xs5 ([.own 0 [U w10], .own 0 [.vs 5 xs, I a, I b, I c], .gone, .own 0 [], .own 0 [], .gone, .gone, .own 0 [I 0, I la, I 0, I la, .ms 2 5 j 0 j, .vs 4 ys]] : AHeap) =
        [.own 0 [U w10], .own 0 [.vs 5 xs, I a, I b, I c], .gone, .own 0 [], .own 0 [], .gone, .gone, .own 0 [I 0, I la, I 0, I la, .vs 2 xs5, .vs 4 ys]] := by
      have : AV.frz 5 j 2 xs5 (.ms 2 5 j 0 j) = .vs 2 xs5 := frz_self (by omega)
      simp only [frzH, AObj.frz, AV.frzL, this]
      simp [AV.frz]
    show AGo _ _ _ _ ⟨[], [(13, I i), (3, .mp 0 0 0), (4, .mp 1 0 0), (6, .vs 5 ls), (7, .vs 5 lsN), (8, .vs 5 ms), (9, .mp 7 0 0), (10, I dv), (11, I u), (12, I nd), (77, B false), (14, .vs 1 ps)]⟩ (frzH 5 j 2 xs5 [.own 0 [U w10], .own 0 [.vs 5 xs, I a, I b, I c], .gone, .own 0 [], .own 0 [], .gone, .gone, .own 0 [I 0, I la, I 0, I la, .ms 2 5 j 0 j, .vs 4 ys]])
    rw [e6]
    refine SGo_run hA ⟨[], [], (13, eOpen) :: (15, eWinter) :: (14, eSpreadR) :: (16, eTell) :: (17, eAwakeW) :: [], []⟩ (.cons eOpen_ok (.cons eWinter_ok (.cons eSpreadR_ok (.cons eTell_ok (.cons eAwakeW_ok .nil))))) .nil 200 fun T TD hT hTD => ?_
    cbv
    have hsumb := sumLg_bnd' ho
    have hndb : 0 ≤ nd ∧ nd ≤ 3000 := by rw [hmx]; omega
    have hmo : ∀ x ∈ m, MkOk (sumLg rs) x := fun x hx => (hmk x hx).1
    have hask : ∀ t, t < j → askE rs a b c l m nd (iLen t) = 0 := fun t ht => askE_ok.2 ⟨ho, hs, hlo, by omega, hmo, hndb, by unfold iLen; omega, by unfold iLen; omega⟩
    have haskN : ∀ t, t < j → askE rs a b c lN m nd (iLen t) = 0 := fun t ht => askE_ok.2 ⟨ho, hs, hloN, by omega, hmo, hndb, by unfold iLen; omega, by unfold iLen; omega⟩
    have hcov : ∀ t, t < j → CovM (pastM m (iLen t)) (iLen t) (sumLg rs) := fun t ht => ⟨by have := pastM_len (l := m) (h := iLen t); omega, fun x hx => hmo x (pastM_mem hx), by unfold iLen; omega, by omega, by omega⟩
    have hrsn : rs.length ≤ 9223372036854775807 := by have := ho.n2; omega
    refine Exists.intro rs (Exists.intro l (Exists.intro m (Exists.intro j (And.intro ⟨hxs, hls, hms, hdl⟩ (And.intro ⟨hrsn, by omega, by omega, by omega⟩ (And.intro hask (And.intro hcov ?_)))))))
    intro za hza; cbv
    refine Exists.intro rs (Exists.intro lN (Exists.intro m (Exists.intro j (And.intro ⟨hxs, hlsN, hms, hdl⟩ (And.intro ⟨hrsn, by omega, by omega, by omega⟩ (And.intro haskN (And.intro hcov ?_)))))))
    intro zb hzb; cbv
    have hbt : A.bnot true = false := by rw [hnb]; rfl
    split <;> first | (rename_i hz; exact Bool.noConfusion (hz.symm.trans hbt)) | cbv
    split <;> first | (rename_i hz; exact Bool.noConfusion (hz.symm.trans hbt)) | cbv
    obtain ⟨LA, hLA⟩ : ∃ x, x = (List.range j).map (openS rs a b c l m nd) := ⟨_, rfl⟩
    obtain ⟨LB, hLB⟩ : ∃ x, x = (List.range j).map (openS rs a b c lN m nd) := ⟨_, rfl⟩
    rw [← hLA] at hza
    rw [← hLB] at hzb
    have hLAl : LA.length = j := by rw [hLA]; simp
    have hLBl : LB.length = j := by rw [hLB]; simp
    have hFe : (⟨(0, la), (0, la), List.replicate j ((0 : Int), u), os⟩ : Frt) = frtU j u os := by unfold frtU; rw [hsb]
    have hfU : checkF (frtU j u os) = 0 := frtU_ok hck hcl2 (by omega)
    have hwA : WinV (frtU j u os) (winU j u LA) := winU_ok hLAl hcl1 (by omega)
    have hwB : WinV (frtU j u os) (winU j u LB) := winU_ok hLBl hcl1 (by omega)
    have hWA : ∀ n, n = iLen LA.length - 1 → (⟨0, n, LA.map (capB u)⟩ : Win) = winU j u LA := fun n hn => by rw [hn, hLAl]; rfl
    have hWB : ∀ n, n = iLen LB.length - 1 → (⟨0, n, LB.map (capB u)⟩ : Win) = winU j u LB := fun n hn => by rw [hn, hLBl]; rfl
    have hPf : PlanP (frtU j u os).ords.length (p.map iLen) := hP
    obtain ⟨yA, hyA⟩ : ∃ way, way = rowsF (frtU j u os).ords.length (frtU j u os).caps.length (spreadG (roomW (winU j u LA)) (planN (p.map iLen)) (unitS (frtU j u os).ords) (frtU j u os).caps.length) := ⟨_, rfl⟩
    obtain ⟨yB, hyB⟩ : ∃ way, way = rowsF (frtU j u os).ords.length (frtU j u os).caps.length (spreadG (roomW (winU j u LB)) (planN (p.map iLen)) (unitS (frtU j u os).ords) (frtU j u os).caps.length) := ⟨_, rfl⟩
    obtain ⟨eA0, eA1, eA2, eA3⟩ := spread_all hfU hwA hPf hyA
    obtain ⟨eB0, eB1, eB2, eB3⟩ := spread_all hfU hwB hPf hyB
    have hrl : (List.replicate j ((0 : Int), u)).length ≤ 9223372036854775807 := by simp; omega
    have hol2 : os.length ≤ 9223372036854775807 := by omega
    have hwal : (LA.map (capB u)).length ≤ 9223372036854775807 := by rw [List.length_map]; omega
    have hwbl : (LB.map (capB u)).length ≤ 9223372036854775807 := by rw [List.length_map]; omega
    have hpl : (p.map iLen).length ≤ 9223372036854775807 := by have := hP.1; omega
    have hyAl : yA.length ≤ 9223372036854775807 := by rw [hyA]; simp [rowsF, frtU]; omega
    have hyBl : yB.length ≤ 9223372036854775807 := by rw [hyB]; simp [rowsF, frtU]; omega
    have hLAb : LA.length ≤ 1000000 := by omega
    have hLBb : LB.length ≤ 1000000 := by omega
    refine Exists.intro LA (And.intro ⟨hza, hLAb⟩ ?_)
    intro na1 zs1 hna1 hzs1; cbv
    refine Exists.intro (List.replicate j ((0 : Int), u)) (Exists.intro os (Exists.intro (LA.map (capB u)) (Exists.intro (p.map iLen) (And.intro hxs5 (And.intro hys (And.intro hzs1 (And.intro hps (And.intro hrl (And.intro hol2 (And.intro hwal (And.intro hpl ?_)))))))))))
    intro r1 q1 hr1 hq1
    rw [hFe, hWA _ hna1, eA1] at hr1
    rw [hFe, hWA _ hna1, eA0] at hq1
    subst hq1
    cbv
    refine Exists.intro LA (And.intro ⟨hza, hLAb⟩ ?_)
    intro na2 zs2 hna2 hzs2; cbv
    refine Exists.intro (List.replicate j ((0 : Int), u)) (Exists.intro os (Exists.intro (LA.map (capB u)) (Exists.intro yA (And.intro hxs5 (And.intro hys (And.intro hzs2 (And.intro hr1 (And.intro hrl (And.intro hol2 (And.intro hwal (And.intro hyAl ?_)))))))))))
    intro ds1 pn1 qt1 _ hpn1 hqt1
    rw [hFe, hWA _ hna2, eA3] at hpn1
    rw [hFe, hWA _ hna2, eA2] at hqt1
    subst hqt1
    cbv
    refine Exists.intro LB (And.intro ⟨hzb, hLBb⟩ ?_)
    intro nb1 zs3 hnb1 hzs3; cbv
    refine Exists.intro (List.replicate j ((0 : Int), u)) (Exists.intro os (Exists.intro (LB.map (capB u)) (Exists.intro (p.map iLen) (And.intro hxs5 (And.intro hys (And.intro hzs3 (And.intro hps (And.intro hrl (And.intro hol2 (And.intro hwbl (And.intro hpl ?_)))))))))))
    intro r2 q2 hr2 hq2
    rw [hFe, hWB _ hnb1, eB1] at hr2
    rw [hFe, hWB _ hnb1, eB0] at hq2
    subst hq2
    cbv
    refine Exists.intro LB (And.intro ⟨hzb, hLBb⟩ ?_)
    intro nb2 zs4 hnb2 hzs4; cbv
    refine Exists.intro (List.replicate j ((0 : Int), u)) (Exists.intro os (Exists.intro (LB.map (capB u)) (Exists.intro yB (And.intro hxs5 (And.intro hys (And.intro hzs4 (And.intro hr2 (And.intro hrl (And.intro hol2 (And.intro hwbl (And.intro hyBl ?_)))))))))))
    intro ds2 pn2 qt2 _ hpn2 hqt2
    rw [hFe, hWB _ hnb2, eB3] at hpn2
    rw [hFe, hWB _ hnb2, eB2] at hqt2
    subst hqt2
    cbv
    have hn0 : A.ne 0 0 = false := by rw [hne]; rfl
    have hle2 : pn2 ≤ pn1 := by
      rw [hpn1, hpn2]
      have hcl0 : (frtU j u os).caps.length = j := by simp [frtU]
      refine cost_mono (checkF_ok hfU) (fun x hx => (hwA.bnd (checkF_ok hfU)) x hx) (fun x hx => (hwB.bnd (checkF_ok hfU)) x hx) hP.nodup ?_
      rw [hcl0]
      refine winU_le (by omega) (by omega) fun i hi2 => ?_
      rw [hLA, List.getElem?_map] at hi2
      rw [hLB, List.getElem?_map]
      rw [Option.map_eq_some_iff] at hi2 ⊢
      obtain ⟨k, hk, hk2⟩ := hi2
      have hkj : k < j := List.mem_range.1 (List.mem_of_getElem? hk)
      exact ⟨k, hk, open_more (hask k hkj) (haskN k hkj) hnar hk2⟩
    have hgt : A.lt pn1 pn2 = false := by rw [hll]; exact decide_eq_false (by omega)
    split <;> first | (rename_i hz; exact Bool.noConfusion (hz.symm.trans hn0)) | cbv
    split <;> first | (rename_i hz; exact Bool.noConfusion (hz.symm.trans hn0)) | cbv
    split <;> first | (rename_i hz; exact Bool.noConfusion (hz.symm.trans hn0)) | cbv
    split <;> first | (rename_i hz; exact Bool.noConfusion (hz.symm.trans hn0)) | cbv
    split <;> first | (rename_i hz; exact Bool.noConfusion (hz.symm.trans hgt)) | cbv
    rw [hT]
    have hyAr : ∀ (k : Nat) (row : List Int), yA[k]? = some row → row.length = j ∧ ∀ (d : Nat) (x : Int), row[d]? = some x → LA[d]? = some false → x = 0 := fun k row hk => by
      have hcl0 : (frtU j u os).caps.length = j := by simp [frtU]
      rw [hyA, hcl0] at hk
      simp only [rowsF, List.getElem?_map, Option.map_eq_some_iff] at hk
      obtain ⟨k', _, rfl⟩ := hk
      refine ⟨by simp, fun d x hx hd => ?_⟩
      rw [List.getElem?_map, Option.map_eq_some_iff] at hx
      obtain ⟨d', hd', rfl⟩ := hx
      have hdj : d' < j := List.mem_range.1 (List.mem_of_getElem? hd')
      have hde : d' = d := by
        obtain ⟨h8, h9⟩ := List.getElem?_eq_some_iff.1 hd'
        simpa using h9.symm
      subst hde
      exact spread_zero (fun k => (checkF_ok hfU).u0 k) (fun d => (roomW_bnd (hwA.bnd (checkF_ok hfU)) d).1) hP.nodup hdj (room_shut hd)
    refine AGo_upE [10, 15, 19] yA.length (fun _ (_ : Unit) => True) (fun _ _ i => [(29, I i)])
      (fun _ _ => [.own 0 [U w10], .own 0 [.vs 5 xs, I a, I b, I c], .gone, .own 0 [], .own 0 [], .gone, .gone, .own 0 [I 0, I la, I 0, I la, .vs 2 xs5, .vs 4 ys]]) () trivial ⟨rfl, trivial⟩ (.inl rfl) fun k _ ik hik hkl _ Bk hB => ?_
    have hlt : A.lt ik (A.vlen r1) = decide (k < yA.length) := by subst hA; exact lt_len (by simp [hr1]) hik
    have hadd : ∀ N, k < N → N ≤ 9223372036854775807 → A.add .i64 ik 1 = iLen (k + 1) := fun N hj hN => by subst hA; exact add_one hik hj hN
    refine SGo_run hA ⟨[], [], (17, eAwakeW) :: [], []⟩ (.cons eAwakeW_ok .nil) .nil 200 fun T TD hT hTD => ?_
    cbv
    split <;> cbv
    · rename_i hk0
      have hk1 : k < yA.length := by have hz := hlt.symm.trans hk0; simpa using hz
      clear hk0
      obtain ⟨row, hrow⟩ : ∃ row, yA[k]? = some row := ⟨_, List.getElem?_eq_getElem hk1⟩
      obtain ⟨hrwl, hrw0⟩ := hyAr k row hrow
      obtain ⟨rv, hrv⟩ : ∃ x, x = row.map I := ⟨_, rfl⟩
      have hixr : A.ix 1 1 r1 ik [.vs 1 rv] := by subst hA; exact ix_map (f := fun r : List Int => AV.vs 1 (r.map I)) hr1 hik hrow (by rw [hrv]; rfl)
      rw [hT]
      refine AGo_upE [10, 15, 19, 29] j (fun _ (_ : Unit) => True) (fun _ _ i => [(30, I i)])
        (fun _ _ => [.own 0 [U w10], .own 0 [.vs 5 xs, I a, I b, I c], .gone, .own 0 [], .own 0 [], .gone, .gone, .own 0 [I 0, I la, I 0, I la, .vs 2 xs5, .vs 4 ys]]) () trivial ⟨rfl, trivial⟩ (.inl rfl) fun d _ id hid hdj _ Bk2 hB2 => ?_
      have hlt1 : A.lt id (A.vlen rv) = decide (d < j) := by subst hA; exact lt_len (by simp [hrv, hrwl]) hid
      have hlt2 : A.lt id dv = decide (d < j) := by rw [hll, hdl, hid, decide_eq_decide]; unfold iLen; omega
      have hadd2 : ∀ N, d < N → N ≤ 9223372036854775807 → A.add .i64 id 1 = iLen (d + 1) := fun N hj hN => by subst hA; exact add_one hid hj hN
      refine SGo_run hA ⟨[], [], [], []⟩ .nil .nil 200 fun T TD hT hTD => ?_
      cbv
      refine Exists.intro _ (And.intro hixr ?_); cbv
      by_cases hd : d < j
      · have hz1 : A.lt id (A.vlen rv) = true := by rw [hlt1]; exact decide_eq_true hd
        have hz2 : A.lt id dv = true := by rw [hlt2]; exact decide_eq_true hd
        split <;> first | (rename_i hz; exact Bool.noConfusion (hz.symm.trans hz1)) | cbv
        split <;> first | (rename_i hz; exact Bool.noConfusion (hz.symm.trans hz2)) | cbv
        obtain ⟨x, hx⟩ : ∃ x, row[d]? = some x := ⟨_, List.getElem?_eq_getElem (by omega)⟩
        have hixx : A.ix 1 1 rv id [I x] := by subst hA; exact ix_map hrv hid hx rfl
        obtain ⟨q, hq⟩ : ∃ q, LA[d]? = some q := ⟨_, List.getElem?_eq_getElem (by omega)⟩
        have hixq : A.ix 1 1 za id [B q] := by subst hA; exact ix_map hza hid hq rfl
        refine Exists.intro _ (And.intro hixr ?_); cbv
        refine Exists.intro _ (And.intro hixx ?_); cbv
        by_cases hpos : 0 < x
        · have hz3 : A.lt 0 x = true := by rw [hll]; exact decide_eq_true hpos
          split <;> first | (rename_i hz; exact Bool.noConfusion (hz.symm.trans hz3)) | cbv
          refine Exists.intro _ (And.intro hixq ?_); cbv
          have hqt : q = true := by
            cases q
            · have := hrw0 d x hx hq; omega
            · rfl
          subst hqt
          split <;> first | (rename_i hz; exact Bool.noConfusion (hz.symm.trans hbt)) | cbv
          refine hB2 () _ _ hd trivial ⟨congrArg I (hadd2 _ hd (by omega)), trivial⟩ ⟨rfl, rfl, rfl, rfl, trivial⟩ (.inl rfl)
        · have hz3 : A.lt 0 x = false := by rw [hll]; exact decide_eq_false hpos
          split <;> first | (rename_i hz; exact Bool.noConfusion (hz.symm.trans hz3)) | cbv
          refine hB2 () _ _ hd trivial ⟨congrArg I (hadd2 _ hd (by omega)), trivial⟩ ⟨rfl, rfl, rfl, rfl, trivial⟩ (.inl rfl)
      · have hz1 : A.lt id (A.vlen rv) = false := by rw [hlt1]; exact decide_eq_false hd
        split <;> first | (rename_i hz; exact Bool.noConfusion (hz.symm.trans hz1)) | cbv
        refine hB () _ _ hk1 trivial ⟨congrArg I (hadd _ hk1 hyAl), trivial⟩ ⟨rfl, rfl, rfl, trivial⟩ (.inl rfl)
    · exact h _
end Go.Sas
namespace Go.Sas
open Go.Proofs
set_option maxRecDepth 100000
theorem good_int {P : Program} {d : Nat} {t : TypeId} {us : List AV} (hu : P.underlying t = some (.int .i64)) (h : Good P (d + 1) t us) : ∃ n, us = [I n] := by
  simp only [Good, hu] at h
  obtain ⟨n, h1, _⟩ := h
  exact ⟨n, h1⟩
theorem good_slice {α : Type} {f : α → AV} {P : Program} {d : Nat} {t e : TypeId} {sz : Nat} {us : List AV} (hu : P.underlying t = some (.slice e)) (hsz : P.cellsOf e = sz) (hf : ∀ cs, Good P d e cs → ∃ x, mkE P e cs = f x) (h : Good P (d + 1) t us) :
    ∃ l : List α, us = [.vs sz (l.map f)] ∧ l.length ≤ 9223372036854775807 := by
  simp only [Good, hu] at h
  obtain ⟨css, h1, h2, h3⟩ := h
  have key : ∀ css : List (List AV), (∀ cs ∈ css, Good P d e cs) → ∃ l : List α, css.map (mkE P e) = l.map f ∧ l.length = css.length := by
    intro css
    induction css with
    | nil => exact fun _ => ⟨[], rfl, rfl⟩
    | cons c css ih =>
      intro hg
      obtain ⟨x, hx⟩ := hf c (hg c (by simp))
      obtain ⟨l, hl, hn⟩ := ih fun cs hc => hg cs (by simp [hc])
      exact ⟨x :: l, by simp [hx, hl], by simp [hn]⟩
  obtain ⟨l, hl, hn⟩ := key css h3
  refine ⟨l, by rw [h1, hsz, hl], ?_⟩
  rw [hn]
  have : maxLen = 9223372036854775807 := by decide
  omega
theorem mk_int {cs : List AV} {n : Int} {P : Program} {t : TypeId} (hu : P.underlying t = some (.int .i64)) (h : cs = [I n]) : mkE P t cs = I n := by simp [mkE, hu, h]
theorem mk_slice {P : Program} {t e : TypeId} {a : AV} (hu : P.underlying t = some (.slice e)) : mkE P t [a] = a := by simp [mkE, hu]
theorem uy3 : Try.prog.underlying 3 = some (.int .i64) := by kernel_rfl
theorem uy22 : Try.prog.underlying 22 = some (.slice 3) := by kernel_rfl
theorem zy3 : Try.prog.cellsOf 3 = 1 := by kernel_rfl
theorem in_ints {d : Nat} {us : List AV} (h : Good Try.prog (d + 2) 22 us) : ∃ l : List Int, us = [.vs 1 (l.map I)] ∧ l.length ≤ 9223372036854775807 :=
  good_slice (f := I) (e := 3) (sz := 1) uy22 zy3 (fun cs hc => by obtain ⟨n, hn⟩ := good_int uy3 hc; exact ⟨n, mk_int uy3 hn⟩) h
end Go.Sas
