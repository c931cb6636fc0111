/-
Probe: marks made of numbers: contract.
Conditions: none.
-/
import Derived.Test.YtajegdbljldakaaPP
import Derived.Test.YtajegdbljldakaaPJ
set_option linter.unusedVariables false
set_option linter.unusedSimpArgs false
namespace Go.Sas
open Go.Proofs
set_option maxRecDepth 100000
def MkD (n hours : Int) (x : Mrk) : Prop := MkOk n x ∧ x.h < hours
def MkQ (n hours most : Int) (r : AV) : Prop := ∃ (m : List Mrk) (xs : List AV), r = .vs 5 xs ∧ xs = m.map mkV ∧ iLen m.length ≤ most ∧ ∀ x ∈ m, MkD n hours x
set_option maxHeartbeats 2000000 in
theorem d19 (rs : List Rch) (a b c most hours : Int) (ho : RoadOk rs) (hm : 0 ≤ most ∧ most ≤ 100) (hh : 1 ≤ hours ∧ hours ≤ 100) : Draws Try.prog 19 [svV (.vs 5 (rs.map rcV)) a b c, I most, I hours] (MkQ (sumLg rs) hours most) := by
  have hnr := nidL_rc rs
  refine .of (by simp [AV.nid, AV.nidL, hnr]) (by rintro r ⟨_, _, rfl, rfl, _⟩; simp [AV.nid]) fun w Kk h => ACalls.frees ?_
  obtain ⟨xs, hxs⟩ : ∃ xs, xs = rs.map rcV := ⟨_, rfl⟩
  rw [← hxs]
  have hsb := sumLg_bnd' ho
  obtain ⟨A, hA⟩ : ∃ A, A = std := ⟨_, rfl⟩
  have hsg : ∀ g, A.sg g g := by subst hA; exact fun _ => rfl
  obtain ⟨F, hF⟩ : ∃ F, F = Frees 1 Kk := ⟨_, rfl⟩
  rw [show Frees [AObj.own 0 [U w]].length Kk = F from hF.symm]
  have hm1 : A.add .i64 most 1 = most + 1 := by subst hA; exact iAdd_id (by omega) (by omega)
  refine go19 rfl (SGo_run hA ⟨[], [], (46, ePlaces) :: [], ed2⟩ (.cons (ePlaces_ok p46) .nil) ed2_ok 200 fun T TD hT hTD => ?_)
  cbv
  refine Exists.intro rs (And.intro hxs (And.intro (by have := ho.n2; omega) (And.intro ho.all ?_)))
  intro nn hnn; cbv
  have hnb : 1 ≤ nn ∧ nn ≤ 1000 := by omega
  refine Exists.intro () (And.intro (by show A.add .i64 most 1 ≤ _; rw [hm1]; omega) ?_)
  rintro w1 _ ⟨d0, rfl, hd1, hd2⟩
  have hd2 : d0 < A.add .i64 most 1 ∨ d0 = 0 := hd2
  rw [hm1] at hd2
  cbv
  rw [hT]
  refine AGo_nilms 10 5 rfl ?_
  refine AGo_whileE (σ := Int × Int × List Mrk) [0, 3, 9] (fun s => s.2.1.toNat) (fun s => 0 ≤ s.2.1 ∧ s.2.1 + iLen s.2.2.length ≤ most ∧ ∀ x ∈ s.2.2, MkD nn hours x) (fun s => [(10, .ms 5 2 s.2.2.length 0 s.2.2.length), (11, I s.2.1)])
    (fun s => [.own 0 [U s.1], .own 0 [.vs 5 xs, I a, I b, I c], .own s.2.2.length (s.2.2.flatMap mkC)]) (w1, d0, []) ⟨by dsimp only; omega, by show d0 + iLen 0 ≤ most; unfold iLen; omega, by simp⟩ ⟨rfl, rfl, trivial⟩ (.inl rfl) fun s hP Bk hB => ?_
  obtain ⟨w2, d, l⟩ := s
  obtain ⟨hP1, hP2, hP3⟩ := hP
  dsimp only at hP1 hP2 hP3 ⊢
  obtain ⟨n, hn⟩ : ∃ n, n = l.length := ⟨_, rfl⟩
  obtain ⟨cc, hcc⟩ : ∃ c, c = l.flatMap mkC := ⟨_, rfl⟩
  rw [← hn, ← hcc]
  rw [← hn] at hP2
  have hn4 : n ≤ 100 := by unfold iLen at hP2; omega
  have hd4 : d ≤ 100 := by unfold iLen at hP2; omega
  have hcl : cc.length = n * 5 := by rw [hcc, hn, len_flat (k := 5) (fun _ => rfl)]
  have hgt : A.lt 0 d = decide (0 < d) := by subst hA; rfl
  have hxl : ∀ n, AV.ltL n xs := fun n => AV.ltL_nid (by rw [hxs]; exact hnr)
  have hcn : ∀ q (l : List Mrk), AV.ltL q (l.flatMap mkC) := fun q l => AV.ltL_nid (nidL_flat (fun _ => rfl) l)
  refine SGo_run hA ⟨[2], [0, 1002, 2000003], [], ed2⟩ .nil ed2_ok 200 fun T TD hT hTD => ?_
  cbv
  split <;> cbv
  · rename_i hz
    have hz : 0 < d := by have hz := hgt.symm.trans hz; simpa using hz
    refine Exists.intro () (And.intro (by omega) ?_)
    rintro w3 _ ⟨k, rfl, hk⟩
    cbv
    refine Exists.intro () (And.intro (by show nn ≤ _; omega) ?_)
    rintro w4 _ ⟨f, rfl, hf, hf'⟩
    cbv
    refine Exists.intro () (And.intro (by show hours ≤ _; omega) ?_)
    rintro w5 _ ⟨hr, rfl, hhr, hhr'⟩
    cbv
    refine Exists.intro () (And.intro (by omega) ?_)
    rintro w6 _ ⟨s3, rfl, hs3, hs3'⟩
    cbv
    refine Exists.intro () (And.intro ⟨by simp, by simp, by exact AllI_lits (l := [0, 0, 1, s3])⟩ ?_)
    rintro w7 _ ⟨sp0, rfl, hsp⟩
    simp at hsp
    cbv
    refine Exists.intro () (And.intro (by omega) ?_)
    rintro w8 _ ⟨s4, rfl, hs4, hs4'⟩
    cbv
    refine And.intro (by subst hA; first | (simp [std, Keep, SubH, ResK]; done) | exact .inr ⟨⟨rfl, SubH.self _⟩, trivial, .inr fun _ => ⟨rfl, SubH.self _⟩⟩ | exact .inr ⟨SubH.self _, trivial, .inr fun _ => SubH.self _⟩ | exact .inr ⟨by simp [SubH], trivial, .inl rfl⟩ | exact .inr ⟨by simp [SubH], trivial, .inr fun _ => by simp [SubH]⟩) ?_
    cbv
    refine Exists.intro () (And.intro (by show nn ≤ _; omega) ?_)
    rintro w9 _ ⟨s5, rfl, hs5, hs5'⟩
    cbv
    refine And.intro (by subst hA; first | (simp [std, Keep, SubH, ResK]; done) | exact .inr ⟨⟨rfl, SubH.self _⟩, trivial, .inr fun _ => ⟨rfl, SubH.self _⟩⟩ | exact .inr ⟨SubH.self _, trivial, .inr fun _ => SubH.self _⟩ | exact .inr ⟨by simp [SubH], trivial, .inl rfl⟩ | exact .inr ⟨by simp [SubH], trivial, .inr fun _ => by simp [SubH]⟩) ?_
    cbv
    refine Exists.intro () (And.intro ⟨by simp, by simp, by exact AllI_lits (l := [0, s4, s5])⟩ ?_)
    rintro w10 _ ⟨dd, rfl, hdd⟩
    simp at hdd
    cbv
    refine And.intro (by subst hA; first | (simp [std, Keep, SubH, ResK]; done) | exact .inr ⟨⟨rfl, SubH.self _⟩, trivial, .inr fun _ => ⟨rfl, SubH.self _⟩⟩ | exact .inr ⟨SubH.self _, trivial, .inr fun _ => SubH.self _⟩ | exact .inr ⟨by simp [SubH], trivial, .inl rfl⟩ | exact .inr ⟨by simp [SubH], trivial, .inr fun _ => by simp [SubH]⟩) ?_
    cbv
    have hsub : A.sub .i64 d 1 = d - 1 := by subst hA; exact iSub_id (by omega) (by omega)
    have hsn : A.sub .i64 nn 1 = nn - 1 := by subst hA; exact iSub_id (by omega) (by omega)
    have hfd : A.add .i64 f dd = f + dd := by subst hA; exact iAdd_id (by omega) (by omega)
    have hmn : A.min (A.sub .i64 nn 1) (A.add .i64 f dd) = min (nn - 1) (f + dd) := by rw [hsn, hfd]; subst hA; exact iMin_eq _ _
    obtain ⟨cc2, hcc2⟩ : ∃ x, x = cc ++ mkC ⟨k, f, A.min (A.sub .i64 nn 1) (A.add .i64 f dd), hr, sp0⟩ := ⟨_, rfl⟩
    refine And.intro (hsg _) (Exists.intro cc2 (Exists.intro (n + 1) (And.intro (by subst hA; rw [hcc2]; exact app_one hcl rfl (by omega)) (And.intro rfl ?_)))); cbv
    rw [hmn] at hcc2
    obtain ⟨x, hx⟩ : ∃ x : Mrk, x = ⟨k, f, min (nn - 1) (f + dd), hr, sp0⟩ := ⟨_, rfl⟩
    rw [← hx] at hcc2
    have hxo : MkD nn hours x := by
      rw [hx]; unfold MkD MkOk; dsimp only; omega
    have hfin : cc2 = (l ++ [x]).flatMap mkC := by rw [hcc2, hcc]; simp
    have hlen : (l ++ [x]).length = n + 1 := by rw [List.length_append, ← hn]; rfl
    refine hB (w10, d - 1, l ++ [x]) _ _ (by dsimp only; omega) ⟨by dsimp only; omega, by dsimp only; rw [hlen]; unfold iLen at hP2 ⊢; omega, ?_⟩ (by rw [hlen]; exact ⟨rfl, congrArg I hsub, trivial⟩) ⟨rfl, rfl, rfl, trivial⟩ (.inr ⟨⟨_, by dsimp only; rw [hlen, ← hfin]; rfl⟩, by simp, by simp [ltG, AV.lt, AV.ltL, keepS, look, gset], by simp [ltH, AObj.lt, AV.lt, AV.ltL, hxl, hcn, -List.flatMap_append]⟩)
    intro y hy
    rcases List.mem_append.1 hy with hy | hy
    · exact hP3 y hy
    · simp only [List.mem_singleton] at hy; subst hy; exact hxo
  · rename_i hz
    have hE : Elems 5 (l.map mkV) cc := by rw [hcc]; exact Elems_map (f := mkV) (g := mkC) (sz := 5) (fun _ => rfl) (fun _ => rfl) (fun _ => rfl) l
    rw [hF]
    refine Frees.frz 2 n 5 (l.map mkV) rfl hE ?_
    have e1 : AV.frz 2 n 5 (l.map mkV) (aTup [.ms 5 2 n 0 n]) = .vs 5 (l.map mkV) := frz_self (by simp [hn])
    rw [e1]
    refine Frees.drop1 (w := w2) rfl (h w2 _ ⟨l, _, rfl, rfl, ?_, fun x hx => by rw [← hnn]; exact hP3 x hx⟩)
    rw [← hn]; unfold iLen at hP2 ⊢; omega
def sMarks : List AV → Option ((List Rch × Int × Int → Prop) × (List Rch × Int × Int → AV → Prop))
  | [.agg [.vs 5 xs, .lit (.int .i64 a), .lit (.int .i64 b), .lit (.int .i64 c)], .lit (.int .i64 most), .lit (.int .i64 hours)] => some (fun x => xs = x.1.map rcV ∧ x.2.1 = most ∧ x.2.2 = hours ∧ RoadOk x.1 ∧ (0 ≤ most ∧ most ≤ 100) ∧ 1 ≤ hours ∧ hours ≤ 100, fun x => MkQ (sumLg x.1) x.2.2 x.2.1)
  | _ => none
theorem sMarks_ok : ∀ rest pre Q, sMarks rest = some (pre, Q) → ∀ x, pre x → Draws Try.prog 19 rest (Q x) := by
  intro rest pre Q h x hp
  unfold sMarks at h
  split at h
  · cases h
    obtain ⟨rs, m, hr⟩ := x
    obtain ⟨h1, h2, h3, h4, h5, h6⟩ := hp
    dsimp only at h1 h2 h3 h4
    subst h1 h2 h3
    exact d19 rs _ _ _ _ _ h4 h5 h6
  · cases h
def edM : ETab := (19, eDrawX sMarks) :: edP
theorem edM_ok : ETabOk Try.prog edM := .cons (eDrawX_ok sMarks_ok) edP_ok
end Go.Sas
