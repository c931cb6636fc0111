/-
ProbeKnown: what the program's functions answer at the chapter's examples: tables.
ProbeKnown: what the program's functions answer at the chapter's examples: more tables.
Conditions: none.
-/
import Derived.Test.YtpokfjhlilbpfaaDoorPPd
import Derived.Test.YtpokfjhlilbpfaaDoorPRd
import Derived.Test.YtpokfjhlilbpfaaDoorPSd
import Derived.Test.YtpokfjhlilbpfaaDoorQR38
import Derived.Test.YtpokfjhlilbpfaaDoorPVd
import Derived.Test.YtpokfjhlilbpfaaDoorXGd
import Derived.Test.YtpokfjhlilbpfaaDoorQAbs23
import Derived.Test.YtpokfjhlilbpfaaDoorPAd
import Derived.Test.YtpokfjhlilbpfaaDoorQRFg
import Derived.Test.YtpokfjhlilbpfaaDoorPUd
set_option linter.unusedVariables false
set_option linter.unusedSimpArgs false
namespace Go.Sas
open Go.Proofs
set_option maxRecDepth 100000
theorem p19 (l l' : List (Int × Int × Int)) (hl : l.length ≤ 9223372036854775807) (hl' : l'.length ≤ 9223372036854775807) (H : AHeap) {Kk : AV → AHeap → Prop} (h : Kk (B (decide (l = l'))) H) : ACalls Tryd.prog 19 [.vs 3 (l.map t3V), .vs 3 (l'.map t3V)] H Kk := by
  refine (fun q => pureC (by rfl) (by rfl) q H h) ?_
  clear h
  intro Kk h
  obtain ⟨A, hA⟩ : ∃ A, A = std := ⟨_, rfl⟩
  obtain ⟨xs, hxs⟩ : ∃ xs, xs = l.map t3V := ⟨_, rfl⟩
  obtain ⟨ys, hys⟩ : ∃ xs, xs = l'.map t3V := ⟨_, rfl⟩
  rw [← hxs, ← hys]
  obtain ⟨W, hW⟩ : ∃ W, W = decide (l = l') := ⟨_, rfl⟩
  rw [← hW] at h
  have hn : A.ne (A.vlen xs) (A.vlen ys) = decide (l.length ≠ l'.length) := by
    subst hA hxs hys
    show (((l.map t3V).length : Int) != ((l'.map t3V).length : Int)) = _
    rw [Bool.eq_iff_iff]; simp only [List.length_map, bne_iff_ne, ne_eq, decide_eq_true_eq]; omega
  refine go19 rfl (SGo_run hA ⟨[], [], [], []⟩ .nil .nil 200 fun T TD hT hTD => ?_)
  cbv
  split <;> cbv
  · rename_i hq
    have hq := hn.symm.trans hq
    simp only [ne_eq, decide_eq_true_eq] at hq
    refine leaf h (congrArg B ?_) rfl
    rw [hW, decide_eq_false_iff_not]
    rintro rfl; exact hq rfl
  rename_i hq
  have hq := hn.symm.trans hq
  simp only [ne_eq, decide_eq_false_iff_not, Decidable.not_not] at hq
  rw [hT]
  refine AGo_up l.length (fun j => W = decide (l.drop j = l'.drop j)) (fun _ i => [(0, .vs 3 xs), (1, .vs 3 ys), (4, B false), (5, I i)]) (fun _ => []) hW ⟨rfl, rfl, rfl, rfl, trivial⟩ (.inl rfl) fun j i hi hj hP Bk hB => ?_
  have hlt : A.lt i (A.vlen xs) = decide (j < l.length) := by subst hA; exact lt_len (by simp [hxs]) hi
  have hadd : ∀ N, j < N → N ≤ 9223372036854775807 → A.add .i64 i 1 = iLen (j + 1) := fun N hj hN => by subst hA; exact add_one hi hj hN
  refine SGo_run hA ⟨[], [], [], []⟩ .nil .nil 200 fun T TD hT hTD => ?_
  cbv
  split <;> cbv
  · rename_i hk1
    have hk1 : j < l.length := by have := hlt.symm.trans hk1; simpa using this
    obtain ⟨⟨x, x', x''⟩, hx⟩ : ∃ x, l[j]? = some x := ⟨_, List.getElem?_eq_getElem hk1⟩
    obtain ⟨⟨y, y', y''⟩, hy⟩ : ∃ y, l'[j]? = some y := ⟨_, List.getElem?_eq_getElem (by omega)⟩
    have hix : A.ix 3 3 xs i [I x, I x', I x''] := by subst hA; exact ix_map hxs hi hx rfl
    have hiy : A.ix 3 3 ys i [I y, I y', I y''] := by subst hA; exact ix_map hys hi hy rfl
    rw [drop_cons hx, drop_cons hy] at hP
    refine Exists.intro _ (And.intro hix ?_)
    cbv
    refine Exists.intro _ (And.intro hiy ?_)
    cbv
    split <;> cbv
    · rename_i hz
      refine leaf h (congrArg B ?_) rfl
      rw [hP, decide_eq_false_iff_not]
      intro he
      injection he with he _
      clear hP hadd hlt hix hiy hB
      subst hA
      simp [std, iNe, iEq] at hz
      try simp at he
      first | exact hz he | exact hz.elim (fun h => h he.1) (fun h => h he.2) | omega
    · rename_i hz
      refine hB _ _ hk1 ?_ ⟨rfl, rfl, rfl, congrArg I (hadd _ hk1 (by omega)), trivial⟩ (.inl rfl)
      clear hadd hlt hix hiy hB
      subst hA
      simp [std, iNe, iEq] at hz
      rw [hP]
      simp [hz]
  · rename_i hk1
    have hk1 : ¬ j < l.length := by have := hlt.symm.trans hk1; simpa using this
    refine leaf h (congrArg B ?_) rfl
    rw [hP, List.drop_eq_nil_of_le (by omega), List.drop_eq_nil_of_le (by omega)]; rfl
theorem p25 (l l' : List Int) (hl : l.length ≤ 9223372036854775807) (hl' : l'.length ≤ 9223372036854775807) (H : AHeap) {Kk : AV → AHeap → Prop} (h : Kk (B (decide (l = l'))) H) : ACalls Tryd.prog 25 [.vs 1 (l.map I), .vs 1 (l'.map I)] H Kk := by
  refine (fun q => pureC (by rfl) (by rfl) q H h) ?_
  clear h
  intro Kk h
  obtain ⟨A, hA⟩ : ∃ A, A = std := ⟨_, rfl⟩
  obtain ⟨xs, hxs⟩ : ∃ xs, xs = l.map I := ⟨_, rfl⟩
  obtain ⟨ys, hys⟩ : ∃ xs, xs = l'.map I := ⟨_, rfl⟩
  rw [← hxs, ← hys]
  obtain ⟨W, hW⟩ : ∃ W, W = decide (l = l') := ⟨_, rfl⟩
  rw [← hW] at h
  have hn : A.ne (A.vlen xs) (A.vlen ys) = decide (l.length ≠ l'.length) := by
    subst hA hxs hys
    show (((l.map I).length : Int) != ((l'.map I).length : Int)) = _
    rw [Bool.eq_iff_iff]; simp only [List.length_map, bne_iff_ne, ne_eq, decide_eq_true_eq]; omega
  refine go25 rfl (SGo_run hA ⟨[], [], [], []⟩ .nil .nil 200 fun T TD hT hTD => ?_)
  cbv
  split <;> cbv
  · rename_i hq
    have hq := hn.symm.trans hq
    simp only [ne_eq, decide_eq_true_eq] at hq
    refine leaf h (congrArg B ?_) rfl
    rw [hW, decide_eq_false_iff_not]
    rintro rfl; exact hq rfl
  rename_i hq
  have hq := hn.symm.trans hq
  simp only [ne_eq, decide_eq_false_iff_not, Decidable.not_not] at hq
  rw [hT]
  refine AGo_up l.length (fun j => W = decide (l.drop j = l'.drop j)) (fun _ i => [(0, .vs 1 xs), (1, .vs 1 ys), (4, B false), (5, I i)]) (fun _ => []) hW ⟨rfl, rfl, rfl, rfl, trivial⟩ (.inl rfl) fun j i hi hj hP Bk hB => ?_
  have hlt : A.lt i (A.vlen xs) = decide (j < l.length) := by subst hA; exact lt_len (by simp [hxs]) hi
  have hadd : ∀ N, j < N → N ≤ 9223372036854775807 → A.add .i64 i 1 = iLen (j + 1) := fun N hj hN => by subst hA; exact add_one hi hj hN
  refine SGo_run hA ⟨[], [], [], []⟩ .nil .nil 200 fun T TD hT hTD => ?_
  cbv
  split <;> cbv
  · rename_i hk1
    have hk1 : j < l.length := by have := hlt.symm.trans hk1; simpa using this
    obtain ⟨x, hx⟩ : ∃ x, l[j]? = some x := ⟨_, List.getElem?_eq_getElem hk1⟩
    obtain ⟨y, hy⟩ : ∃ y, l'[j]? = some y := ⟨_, List.getElem?_eq_getElem (by omega)⟩
    have hix : A.ix 1 1 xs i [I x] := by subst hA; exact ix_map hxs hi hx rfl
    have hiy : A.ix 1 1 ys i [I y] := by subst hA; exact ix_map hys hi hy rfl
    rw [drop_cons hx, drop_cons hy] at hP
    refine Exists.intro _ (And.intro hix ?_)
    cbv
    refine Exists.intro _ (And.intro hiy ?_)
    cbv
    split <;> cbv
    · rename_i hz
      refine leaf h (congrArg B ?_) rfl
      rw [hP, decide_eq_false_iff_not]
      intro he
      injection he with he _
      clear hP hadd hlt hix hiy hB
      subst hA
      simp [std, iNe, iEq] at hz
      try simp at he
      first | exact hz he | exact hz.elim (fun h => h he.1) (fun h => h he.2) | omega
    · rename_i hz
      refine hB _ _ hk1 ?_ ⟨rfl, rfl, rfl, congrArg I (hadd _ hk1 (by omega)), trivial⟩ (.inl rfl)
      clear hadd hlt hix hiy hB
      subst hA
      simp [std, iNe, iEq] at hz
      rw [hP]
      simp [hz]
  · rename_i hk1
    have hk1 : ¬ j < l.length := by have := hlt.symm.trans hk1; simpa using this
    refine leaf h (congrArg B ?_) rfl
    rw [hP, List.drop_eq_nil_of_le (by omega), List.drop_eq_nil_of_le (by omega)]; rfl
/-- what is known of some arguments -/
def asc : List (List AV × AV) → List AV → Option AV
  | [], _ => none
  | (a, r) :: t, args => match avEqL a args with
    | true => some r
    | false => asc t args
def AscOk (P : Program) (f : Nat) (l : List (List AV × AV)) : Prop := ∀ p ∈ l, ∀ (H : AHeap) (Kk : AV → AHeap → Prop), Kk p.2 H → ACalls P f p.1 H Kk
theorem asc_ok {P : Program} {f : Nat} : ∀ {l : List (List AV × AV)}, AscOk P f l → ∀ args r, asc l args = some r → ∀ (H : AHeap) (Kk : AV → AHeap → Prop), Kk r H → ACalls P f args H Kk
  | [], _, args, r, h, _, _, _ => by simp [asc] at h
  | (a, q) :: t, hl, args, r, h, H, Kk, hk => by
    simp only [asc] at h
    split at h
    · rename_i hb
      have h := Option.some.inj h
      have := hl (a, q) (List.mem_cons_self ..) H Kk (by rw [h]; exact hk)
      rw [avEqL_spec hb] at this
      exact this
    · exact asc_ok (fun p hp => hl p (List.mem_cons_of_mem _ hp)) args r h H Kk hk
def eAsc (l : List (List AV × AV)) : List AV → Option ((AV → Prop) → Prop) := fun args => match asc l args with
  | some r => some fun K => K r
  | none => none
theorem eAsc_ok {P : Program} {f : Nat} {l : List (List AV × AV)} (hl : AscOk P f l) : ∀ args pt, eAsc l args = some pt → ∀ (H : AHeap) (Kk : AV → AHeap → Prop), pt (fun r => Kk r H) → ACalls P f args H Kk := by
  intro args pt h H Kk hk
  unfold eAsc at h
  split at h
  · rename_i r hr
    cases h
    exact asc_ok hl _ _ hr H Kk hk
  · cases h
theorem AscOk.nil {P : Program} {f : Nat} : AscOk P f [] := fun p hp => by cases hp
theorem AscOk.cons {P : Program} {f : Nat} {a : List AV} {r : AV} {l : List (List AV × AV)} (h : ∀ (H : AHeap) (Kk : AV → AHeap → Prop), Kk r H → ACalls P f a H Kk) (hl : AscOk P f l) : AscOk P f ((a, r) :: l) := by
  intro p hp H Kk hk
  rcases List.mem_cons.1 hp with rfl | hp
  · exact h H Kk hk
  · exact hl p hp H Kk hk
/-- the road and the looks of the examples -/
def rdA : AV := svV (.vs 5 (exR.map rcV)) 0 1 2
def lkA (l : List Lk) : AV := .vs 5 (l.map lkV)
def nilA0 : AV := .lit (.slice none 0 0)
theorem wkN : Wk nilA0 (.vs 5 (([] : List Lk).map lkV)) := Wk.nil
def spA (a b : Int) : AV := .agg [I a, I b]
/-! Known -/
def tab5 : List (List AV × AV) := [
  ([rdA, lkA exL, I 0, I 10], .tup [spA 500 500, I 0]), ([rdA, lkA exL, I 1, I 10], .tup [spA 490 510, I 0]), ([rdA, lkA exL, I 4, I 10], .tup [spA 420 580, I 0]),
  ([rdA, lkA exL, I 0, I 14], .tup [spA 492 504, I 0]), ([rdA, lkA exL, I 0, I 6], .tup [spA 496 508, I 0]), ([rdA, lkA exL, I 4, I 14], .tup [spA 412 580, I 0]),
  ([rdA, nilA0, I 2, I 0], .tup [spA 0 3000, I 0])]
theorem k5 {l : List Lk} {p t u v : Int} (hl : l.length ≤ 9223372036854775807) (h : knownR exR 0 1 2 l p t = ((u, v), 0)) (H : AHeap) (Kk : AV → AHeap → Prop) (hk : Kk (.tup [spA u v, I 0]) H) : ACalls Tryd.prog 5 [rdA, lkA l, I p, I t] H Kk :=
  p5 exR 0 1 2 p t l (by decide) hl H (by rw [h]; exact hk)
theorem tab5_ok : AscOk Tryd.prog 5 tab5 :=
  .cons (k5 (by decide) (by decide)) (.cons (k5 (by decide) (by decide)) (.cons (k5 (by decide) (by decide)) (.cons (k5 (by decide) (by decide)) (.cons (k5 (by decide) (by decide)) (.cons (k5 (by decide) (by decide))
    (.cons (fun H Kk hk => ACalls.wk (k5 (l := []) (by decide) (by decide) H Kk hk) ⟨Wk.rfl, wkN, Wk.rfl, Wk.rfl, trivial⟩) .nil))))))
/-! Least, CheckLooks, Breaks -/
def tab8 : List (List AV × AV) := [([rdA, lkA exL, I 0, I 4, I 10], .tup [spA 420 500, I 0])]
theorem tab8_ok : AscOk Tryd.prog 8 tab8 :=
  .cons (fun H Kk hk => p8 exR 0 1 2 0 4 10 exL (by decide) (by decide) H (by rw [show leastR exR 0 1 2 exL 0 4 10 = ((420, 500), 0) by decide]; exact hk)) .nil
def exL2 : List Lk := [⟨1, 0, 10, 500, 500⟩, ⟨1, 1, 10, 511, 511⟩]
def tab9 : List (List AV × AV) := [([rdA, lkA exL2], I 12)]
theorem tab9_ok : AscOk Tryd.prog 9 tab9 :=
  .cons (fun H Kk hk => p9 exR 0 1 2 exL2 (by decide) (by decide) H (by rw [show surE exR 0 1 2 exL2 = 12 by decide]; exact hk)) .nil
def crA (cs : List (List Int)) : AV := .vs 1 (csV cs)
def tab11 : List (List AV × AV) := [([rdA, lkA exL, I 9, crA [[499, 499, 499, 499, 499], [500, 500, 500, 499, 499]]], .tup [I (-1), I (-1), I 0]), ([rdA, nilA0, I 0, crA [[5, 15, 26, 0, 0]]], .tup [I 0, I 2, I 0])]
theorem k11 {l : List Lk} {f u v : Int} {cs : List (List Int)} (hl : l.length ≤ 9223372036854775807) (hc : cs.length ≤ 1000000) (hr : ∀ r ∈ cs, r.length ≤ 9223372036854775807) (h : breaksR exR 0 1 2 l f cs = ((u, v), 0)) (H : AHeap) (Kk : AV → AHeap → Prop) (hk : Kk (.tup [I u, I v, I 0]) H) : ACalls Tryd.prog 11 [rdA, lkA l, I f, crA cs] H Kk :=
  p11 exR 0 1 2 f l cs (by decide) hl hc hr H (by rw [h]; exact hk)
theorem tab11_ok : AscOk Tryd.prog 11 tab11 :=
  .cons (k11 (by decide) (by decide) (by decide) (by decide)) (.cons (fun H Kk hk => ACalls.wk (k11 (l := []) (by decide) (by decide) (by decide) (by decide) H Kk hk) ⟨Wk.rfl, wkN, Wk.rfl, Wk.rfl, trivial⟩) .nil)
/-! Cover -/
def mkA (m : List Mrk) : AV := .vs 5 (m.map mkV)
def m1 : Mrk := ⟨1, 1, 1, 5, 1⟩
def m2 : Mrk := ⟨4, 1, 2, 6, 0⟩
def ptA (l : List (Int × Int × Int)) : AV := .vs 3 (l.map t3V)
def cv1 : List (Int × Int × Int) := [(0, 0, 3), (1, 1, 1), (2, 2, 3), (3, 4, 2)]
def cv2 : List (Int × Int × Int) := [(0, 1, 3), (2, 4, 2)]
def tab18 : List (List AV × AV) := [([rdA, mkA [m1], I 6], .tup [ptA cv1, I 0]), ([rdA, mkA [m1, m2], I 7], .tup [ptA cv2, I 0])]
theorem tab19_ok : AscOk Tryd.prog 19 [([ptA cv1, ptA cv1], B true), ([ptA cv2, ptA cv2], B true)] :=
  .cons (fun H Kk hk => p19 cv1 cv1 (by decide) (by decide) H (by simpa using hk)) (.cons (fun H Kk hk => p19 cv2 cv2 (by decide) (by decide) H (by simpa using hk)) .nil)
end Go.Sas
namespace Go.Sas
open Go.Proofs
set_option maxRecDepth 100000
theorem k18 {m : List Mrk} {h0 : Int} {l : List (Nat × Nat × Int)} (hl : m.length ≤ 9223372036854775807) (hC : CovM m h0 (sumLg exR)) (he : coverE exR 0 1 2 m h0 = 0) (hc : coverL exR 0 1 2 m h0 = l) (H : AHeap) (Kk : AV → AHeap → Prop) (hk : Kk (.tup [.vs 3 (l.map cloV), I 0]) H) : ACalls Tryd.prog 18 [rdA, mkA m, I h0] H Kk :=
  p18 CovM CovM.ok exR 0 1 2 m h0 (by decide) hl (fun _ => hC) H (by rw [he, hc]; exact hk)
theorem tab18_ok : AscOk Tryd.prog 18 tab18 :=
  .cons (k18 (l := [(0, 0, 3), (1, 1, 1), (2, 2, 3), (3, 4, 2)]) (by decide) (by unfold CovM MkOk; decide) (by decide) (by decide)) (.cons (k18 (l := [(0, 1, 3), (2, 4, 2)]) (by decide) (by unfold CovM MkOk; decide) (by decide) (by decide)) .nil)
def tab20 : List (List AV × AV) := [([rdA, lkA exL, I 10], .tup [.vs 2 [spA 1 4], I 0])]
theorem tab20_ok : AscOk Tryd.prog 20 tab20 :=
  .cons (fun H Kk hk => p20 exR 0 1 2 exL 10 (by decide) (by decide) H (by rw [show staleE exR 0 1 2 exL 10 = 0 by decide, show stalR exR 0 1 2 exL 10 = [(1, 4, true)] by decide]; exact hk)) .nil
def tab21 : List (List AV × AV) := [([rdA, lkA exL, I 10, I 3], .tup [.vs 1 [I 3], .vs 1 [I 1], I 0])]
theorem tab21_ok : AscOk Tryd.prog 21 tab21 :=
  .cons (fun H Kk hk => p21 exR 0 1 2 exL 10 3 (by decide) (by decide) H (by rw [show planE exR 0 1 2 exL 10 3 = 0 by decide, show planR exR 0 1 2 exL 10 3 = ([3], [1]) by decide]; exact hk)) .nil
/-- the looks of the examples and one more -/
def exL3 : List Lk := exL ++ [⟨3, 2, 9, 480, 520⟩]
def tab22 : List (List AV × AV) := [([rdA, lkA exL3, nilA0, I 450, I 10], .tup [ptA [(4, 4, 1)], I 0])]
theorem wkNM : Wk nilA0 (.vs 5 (([] : List Mrk).map mkV)) := Wk.nil
theorem tab22_ok : AscOk Tryd.prog 22 tab22 :=
  .cons (fun H Kk hk => ACalls.wk (p22 (fun m _ _ => m = []) CovOk.nil exR 0 1 2 exL3 [] 450 10 (by decide) (by decide) (by decide) (fun _ => rfl) H (by rw [show askE exR 0 1 2 exL3 [] 450 10 = 0 by decide, show closeL exR 0 1 2 exL3 [] 450 10 = [(4, 4, 1)] by decide]; exact hk)) ⟨Wk.rfl, Wk.rfl, wkNM, Wk.rfl, Wk.rfl, trivial⟩) .nil
theorem tab24_ok : AscOk Tryd.prog 24 [([.vs 2 [spA 1 4], .vs 2 [spA 1 4]], B true)] :=
  .cons (fun H Kk hk => p24 [(1, 4)] [(1, 4)] (by decide) (by decide) H (by simpa using hk)) .nil
theorem tab25_ok : AscOk Tryd.prog 25 [([.vs 1 [I 3], .vs 1 [I 3]], B true), ([.vs 1 [I 1], .vs 1 [I 1]], B true)] :=
  .cons (fun H Kk hk => p25 [3] [3] (by decide) (by decide) H (by simpa using hk)) (.cons (fun H Kk hk => p25 [1] [1] (by decide) (by decide) H (by simpa using hk)) .nil)
theorem tab26_ok : AscOk Tryd.prog 26 [([ptA [(4, 4, 1)], ptA [(4, 4, 1)]], B true)] :=
  .cons (fun H Kk hk => p26 [(4, 4, 1)] [(4, 4, 1)] (by decide) (by decide) H (by simpa using hk)) .nil
theorem last_ex {v e : Int} (h : LastQ exR 0 1 2 exL [] 480 10 0 v e) : v = 20 ∧ e = 0 := by
  refine h.uniq (v' := 20) (e' := 0) ⟨fun h => absurd (by decide) h, fun _ h => absurd (by decide) h, fun _ _ => ⟨rfl, 11, ?_, by decide⟩⟩
  unfold FstR
  decide
def tab23 : List (List AV × AV) := [([rdA, lkA exL, nilA0, I 480, I 10, I 0], .tup [I 20, I 0])]
theorem tab23_ok : AscOk Tryd.prog 23 tab23 :=
  .cons (fun H Kk hk => ACalls.wk (p23 exR 0 1 2 exL [] 480 10 0 (by decide) (by decide) (by decide) (.inl (by decide)) H (fun v e h => by obtain ⟨rfl, rfl⟩ := last_ex h; exact hk)) ⟨Wk.rfl, Wk.rfl, wkNM, Wk.rfl, Wk.rfl, Wk.rfl, trivial⟩) .nil
end Go.Sas
