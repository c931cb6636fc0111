/-
FreightKnown: what the program's functions answer at the chapter's examples: tables.
FreightKnown: the season whose orders may be written to: contract.
Conditions: none.
-/
import Derived.Test.YtndnjmpebpampaaDoorHKf
import Derived.Test.YtndnjmpebpampaaDoorQG21
import Derived.Test.YtndnjmpebpampaaDoorHHf
import Derived.Test.YtndnjmpebpampaaDoorQG33
import Derived.Test.YtndnjmpebpampaaDoorHTf
import Derived.Test.YtndnjmpebpampaaDoorXKf
import Derived.Test.YtndnjmpebpampaaDoorP8f
set_option linter.unusedVariables false
set_option linter.unusedSimpArgs false
namespace Go.Sas
open Go.Proofs
set_option maxRecDepth 100000
/-- what is known of some arguments -/
def asc : List (List AV × AV) → List AV → Option AV
  | [], _ => none
  | (a, r) :: t, args => match avEqL a args with
    | true => some r
    | false => asc t args
def AscOk (P : Program) (f : Nat) (l : List (List AV × AV)) : Prop := ∀ p ∈ l, ∀ (H : AHeap) (Kk : AV → AHeap → Prop), Kk p.2 H → ACalls P f p.1 H Kk
theorem asc_ok {P : Program} {f : Nat} : ∀ {l : List (List AV × AV)}, AscOk P f l → ∀ args r, asc l args = some r → ∀ (H : AHeap) (Kk : AV → AHeap → Prop), Kk r H → ACalls P f args H Kk
  | [], _, args, r, h, _, _, _ => by simp [asc] at h
  | (a, q) :: t, hl, args, r, h, H, Kk, hk => by
    simp only [asc] at h
    split at h
    · rename_i hb
      have h := Option.some.inj h
      have := hl (a, q) (List.mem_cons_self ..) H Kk (by rw [h]; exact hk)
      rw [avEqL_spec hb] at this
      exact this
    · exact asc_ok (fun p hp => hl p (List.mem_cons_of_mem _ hp)) args r h H Kk hk
def eAsc (l : List (List AV × AV)) : List AV → Option ((AV → Prop) → Prop) := fun args => match asc l args with
  | some r => some fun K => K r
  | none => none
theorem eAsc_ok {P : Program} {f : Nat} {l : List (List AV × AV)} (hl : AscOk P f l) : ∀ args pt, eAsc l args = some pt → ∀ (H : AHeap) (Kk : AV → AHeap → Prop), pt (fun r => Kk r H) → ACalls P f args H Kk := by
  intro args pt h H Kk hk
  unfold eAsc at h
  split at h
  · rename_i r hr
    cases h
    exact asc_ok hl _ _ hr H Kk hk
  · cases h
theorem AscOk.nil {P : Program} {f : Nat} : AscOk P f [] := fun p hp => by cases hp
theorem AscOk.cons {P : Program} {f : Nat} {a : List AV} {r : AV} {l : List (List AV × AV)} (h : ∀ (H : AHeap) (Kk : AV → AHeap → Prop), Kk r H → ACalls P f a H Kk) (hl : AscOk P f l) : AscOk P f ((a, r) :: l) := by
  intro p hp H Kk hk
  rcases List.mem_cons.1 hp with rfl | hp
  · exact h H Kk hk
  · exact hl p hp H Kk hk
theorem run_at {P : Program} {ct : CTab} {ft : FTab} (hct : CTabOk P ct) (hft : FTabOk P ft) {n f : Nat} {args : List AV} {r : AV} (h : runK ct ft n f args = some r) (ha : AV.nidL args = true) (hr : r.nid = true) (H : AHeap) (Kk : AV → AHeap → Prop) (hk : Kk r H) : ACalls P f args H Kk := by
  have h1 : PCalls P f args (fun x => x = r) := (runK_calls hct hft h).mono fun r' H' hh => by obtain ⟨rfl, rfl⟩ := hh; exact ⟨rfl, hr, rfl⟩
  exact (h1.calls ha H).mono fun r' H' hh => by obtain ⟨rfl, _, rfl⟩ := hh; exact hk
def nilA0 : AV := .lit (.slice none 0 0)
def mapI (l : List Int) : AV := .vs 1 (l.map I)
def wayA (l : List (List Int)) : AV := .vs 1 (l.map fun r => .vs 1 (r.map I))
def frA (a b c d : Int) (xs : List (Int × Int)) (os : List Ord) : AV := frV a b c d (.vs 2 (xs.map sp)) (.vs 4 (os.map orV))
def seaA : AV := frA 1 2 4 5 seaF.caps seaF.ords
def noneA : AV := frV 1 2 4 5 nilA0 (.vs 4 (seaF.ords.map orV))
def lateA : AV := frA 1 2 4 7 seaF.caps seaF.ords
def dearL : List Ord := [⟨4, 3, 21, 20⟩, ⟨5, 5, 1, 10⟩]
def dearA : AV := frA 1 2 4 5 seaF.caps dearL
def caps7 (n : Int) : List Int := List.replicate 7 n
def bestA : AV := winV 1 5 (.vs 1 ((caps7 3).map I))
def worstA : AV := winV 2 4 (.vs 1 ((caps7 2).map I))
def tab4 : List (List AV × AV) := [([], seaA)]
theorem tab4_ok : AscOk Tryd.prog 4 tab4 := .cons (fun H Kk hk => run_at ctF_ok .nil (n := 1000) (by kernel_rfl) rfl rfl H Kk hk) .nil
def tab6 : List (List AV × AV) := [([seaA], I 0), ([noneA], I 6), ([lateA], I 2), ([dearA], I 11)]
theorem k6 {a b c d : Int} {cs : List (Int × Int)} {os : List Ord} {q : Int} (h1 : cs.length ≤ 9223372036854775807) (h2 : os.length ≤ 9223372036854775807) (h : checkF ⟨(a, b), (c, d), cs, os⟩ = q) (H : AHeap) (Kk : AV → AHeap → Prop) (hk : Kk (I q) H) : ACalls Tryd.prog 6 [frA a b c d cs os] H Kk :=
  p6 a b c d cs os h1 h2 H (by rw [h]; exact hk)
theorem tab6_ok : AscOk Tryd.prog 6 tab6 :=
  .cons (k6 (by decide) (by decide) (by decide)) (.cons (fun H Kk hk => ACalls.wk (k6 (cs := []) (os := seaF.ords) (by decide) (by decide) (by decide) H Kk hk) ⟨Wk.agg ⟨Wk.rfl, Wk.rfl, Wk.rfl, Wk.rfl, Wk.nil, Wk.rfl, trivial⟩, trivial⟩)
    (.cons (k6 (by decide) (by decide) (by decide)) (.cons (k6 (by decide) (by decide) (by decide)) .nil)))
def tab8 : List (List AV × AV) := [([seaA], bestA)]
theorem tab8_ok : AscOk Tryd.prog 8 tab8 := .cons (fun H Kk hk => p8 1 2 4 5 seaF.caps _ (by decide) H hk) .nil
def tab9 : List (List AV × AV) := [([seaA], worstA)]
theorem tab9_ok : AscOk Tryd.prog 9 tab9 := .cons (fun H Kk hk => p9 1 2 4 5 seaF.caps _ (by decide) H hk) .nil
def wayB : List (List Int) := [[0, 3, 1, 0, 0, 0, 0], [0, 0, 2, 3, 0, 0, 0]]
def wayW : List (List Int) := [[0, 0, 0, 0, 1, 0, 0], [0, 0, 2, 2, 1, 0, 0]]
def wayX : List (List Int) := [[0, 0, 2, 2, 0, 0, 0], [0, 0, 0, 0, 2, 0, 0]]
def tab7 : List (List AV × AV) := [([seaA, bestA, mapI [0, 1]], .tup [wayA wayB, I 0]), ([seaA, worstA, mapI [1, 0]], .tup [wayA wayW, I 0]), ([seaA, worstA, mapI [0, 1]], .tup [wayA wayX, I 0])]
theorem k7 {u v : Int} {ws plan : List Int} {r : List (List Int)} (h1 : ws.length ≤ 9223372036854775807) (h2 : plan.length ≤ 9223372036854775807) (h : spreadR seaF ⟨u, v, ws⟩ plan = r) (he : spreadC seaF ⟨u, v, ws⟩ plan = 0) (H : AHeap) (Kk : AV → AHeap → Prop) (hk : Kk (.tup [wayA r, I 0]) H) : ACalls Tryd.prog 7 [seaA, winV u v (.vs 1 (ws.map I)), mapI plan] H Kk :=
  p7 1 2 4 5 u v seaF.caps seaF.ords ws plan (by decide) (by decide) h1 h2 H (by rw [show (⟨(1, 2), (4, 5), seaF.caps, seaF.ords⟩ : Frt) = seaF from rfl, h, he]; exact hk)
theorem tab7_ok : AscOk Tryd.prog 7 tab7 := .cons (k7 (ws := caps7 3) (by decide) (by decide) (by decide +kernel) (by decide +kernel)) (.cons (k7 (ws := caps7 2) (by decide) (by decide) (by decide +kernel) (by decide +kernel)) (.cons (k7 (ws := caps7 2) (by decide) (by decide) (by decide +kernel) (by decide +kernel)) .nil))
def telW : List AV := [.agg [I 0, I 1, I 3, I (-1)], .agg [I 5, I 0, I 0, I 4]]
def tab10 : List (List AV × AV) := [([seaA, worstA, wayA wayW], .tup [.vs 4 telW, I 65, I 0])]
theorem tab10_ok : AscOk Tryd.prog 10 tab10 := .cons (fun H Kk hk => p10 1 2 4 5 2 4 seaF.caps seaF.ords (caps7 2) wayW (by decide) (by decide) (by decide) (by decide) H (by
  rw [show (⟨(1, 2), (4, 5), seaF.caps, seaF.ords⟩ : Frt) = seaF from rfl, show tellL seaF ⟨2, 4, caps7 2⟩ wayW = [⟨0, 1, 3, -1⟩, ⟨5, 0, 0, 4⟩] by kernel_rfl, show tellP seaF ⟨2, 4, caps7 2⟩ wayW = 65 by decide +kernel, show checkWayS seaF ⟨2, 4, caps7 2⟩ wayW = 0 by decide +kernel]; exact hk)) .nil
def tab13 : List (List AV × AV) := [([seaA, mapI [0, 1]], .tup [.agg [I 0, I 30], I 0])]
theorem tab13_ok : AscOk Tryd.prog 13 tab13 := .cons (fun H Kk hk => p13 1 2 4 5 seaF.caps seaF.ords [0, 1] (by decide) (by decide) (by decide) H (by
  rw [show (⟨(1, 2), (4, 5), seaF.caps, seaF.ords⟩ : Frt) = seaF from rfl, show rangeS seaF [0, 1] = ((0, 30), 0) by decide +kernel]; exact hk)) .nil
def tab14 : List (List AV × AV) := [([seaA, mapI [0, 1]], .tup [mapI [1, 3], I 0]), ([seaA, mapI [1, 0]], .tup [mapI [3, 1], I 0])]
theorem k14 {plan r : List Int} (h2 : plan.length ≤ 9223372036854775807) (h : promiseS seaF plan = (r, 0)) (H : AHeap) (Kk : AV → AHeap → Prop) (hk : Kk (.tup [mapI r, I 0]) H) : ACalls Tryd.prog 14 [seaA, mapI plan] H Kk :=
  p14 1 2 4 5 seaF.caps seaF.ords plan (by decide) (by decide) h2 H (by rw [show (⟨(1, 2), (4, 5), seaF.caps, seaF.ords⟩ : Frt) = seaF from rfl, h]; exact hk)
theorem tab14_ok : AscOk Tryd.prog 14 tab14 := .cons (k14 (by decide) (by decide +kernel)) (.cons (k14 (by decide) (by decide +kernel)) .nil)
def tab31 : List (List AV × AV) := [([I 100, mapI [1, 1, 1]], .tup [mapI [34, 33, 33], I 0]), ([I 10, mapI [1, 2]], .tup [mapI [3, 7], I 0]), ([I 5, mapI [0, 0]], .tup [mapI [3, 2], I 0])]
theorem k31 {am : Int} {ws r : List Int} (h2 : ws.length ≤ 9223372036854775807) (hs : SrtN ws.length) (h : shareR am ws = r) (he : shareE am ws = 0) (H : AHeap) (Kk : AV → AHeap → Prop) (hk : Kk (.tup [mapI r, I 0]) H) : ACalls Tryd.prog 31 [I am, mapI ws] H Kk :=
  p31 am ws h2 (fun _ => hs) H (by rw [h, he]; exact hk)
theorem tab31_ok : AscOk Tryd.prog 31 tab31 := .cons (k31 (by decide) (by unfold SrtN; decide) (by decide +kernel) (by decide +kernel)) (.cons (k31 (by decide) (by unfold SrtN; decide) (by decide +kernel) (by decide +kernel)) (.cons (k31 (by decide) (by unfold SrtN; decide) (by decide +kernel) (by decide +kernel)) .nil))
def tab32 : List (List AV × AV) := [([seaA, worstA, wayA wayX, I 10, I 100], .tup [mapI [107, 53], I 0])]
theorem tab32_ok : AscOk Tryd.prog 32 tab32 := .cons (fun H Kk hk => p32 1 2 4 5 2 4 10 100 seaF.caps seaF.ords (caps7 2) wayX (by decide) (by decide) (by decide) (by decide) H (by
  rw [show (⟨(1, 2), (4, 5), seaF.caps, seaF.ords⟩ : Frt) = seaF from rfl, show billR seaF ⟨2, 4, caps7 2⟩ wayX 10 100 = [107, 53] by decide +kernel, show billE seaF ⟨2, 4, caps7 2⟩ wayX 10 100 = 0 by decide +kernel]; exact hk)) .nil
def ctK : CTab := [
  (11, ⟨K11, [], 27, c11, [.t (.g 4)], 2, false⟩),
  (12, ⟨K12, [], 26, c12, [.t (.g 4)], 2, false⟩),
  (16, ⟨K16, [], 26, c16, [.t (.g 4)], 2, false⟩)]
theorem ctK_ok : CTabOk Tryd.prog ctK :=
  .cons (fun _ _ _ hn h => go11 hn h) (.cons (fun _ _ _ hn h => go12 hn h) (.cons (fun _ _ _ hn h => go16 hn h) (.nil)))
def tab11 : List (List AV × AV) := [([wayA wayB, wayA wayB], B true)]
theorem tab11_ok : AscOk Tryd.prog 11 tab11 := .cons (fun H Kk hk => run_at ctK_ok .nil (n := 1000) (by kernel_rfl) rfl rfl H Kk hk) .nil
def tab12 : List (List AV × AV) := [([.vs 4 telW, .vs 4 telW], B true)]
theorem tab12_ok : AscOk Tryd.prog 12 tab12 := .cons (fun H Kk hk => run_at ctK_ok .nil (n := 1000) (by kernel_rfl) rfl rfl H Kk hk) .nil
def same (l : List Int) : List AV × AV := ([mapI l, mapI l], B true)
def tab16 : List (List AV × AV) := [same [1, 3], same [3, 1], same [34, 33, 33], same [3, 7], same [3, 2], same [107, 53]]
theorem tab16_ok : AscOk Tryd.prog 16 tab16 := .cons (fun H Kk hk => run_at ctK_ok .nil (n := 1000) (by kernel_rfl) rfl rfl H Kk hk) (.cons (fun H Kk hk => run_at ctK_ok .nil (n := 1000) (by kernel_rfl) rfl rfl H Kk hk) (.cons (fun H Kk hk => run_at ctK_ok .nil (n := 1000) (by kernel_rfl) rfl rfl H Kk hk)
  (.cons (fun H Kk hk => run_at ctK_ok .nil (n := 1000) (by kernel_rfl) rfl rfl H Kk hk) (.cons (fun H Kk hk => run_at ctK_ok .nil (n := 1000) (by kernel_rfl) rfl rfl H Kk hk) (.cons (fun H Kk hk => run_at ctK_ok .nil (n := 1000) (by kernel_rfl) rfl rfl H Kk hk) .nil)))))
end Go.Sas
namespace Go.Sas
open Go.Proofs
set_option maxRecDepth 100000
def ordC : List AV := [I 4, I 3, I 5, I 20, I 5, I 5, I 1, I 10]
def capC : Nat → List AV
  | 0 => []
  | n + 1 => capC n ++ [I 2, I 3]
theorem capC_len : ∀ n, (capC n).length = n * 2
  | 0 => rfl
  | n + 1 => by simp only [capC, List.length_append, capC_len n, List.length_cons, List.length_nil]; omega
def seaM (id : Nat) : AV := frV 1 2 4 5 (.vs 2 (seaF.caps.map sp)) (.ms 4 id 0 0 2)
theorem Frees.weakF {m : Nat} {Kk : AV → AHeap → Prop} {r : AV} {H : AHeap} (q : Nat) {gg : Nat} {cs : List AV} (hX : H[q]? = some (.own gg cs)) (h : Frees m Kk r (H.set q (.own gg []))) : Frees m Kk r H :=
  fun st0 w0 st w v hm he hH hr => h st0 w0 st w v hm he (hH.weak hX) hr
set_option maxHeartbeats 2000000 in
theorem p4m0 {Kk : AV → AHeap → Prop} (h : Kk (seaM 1) [.own 0 [], .own 0 ordC]) : ACalls Tryd.prog 4 [] [] Kk := by
  refine ACalls.frees ?_
  obtain ⟨A, hA⟩ : ∃ A, A = std := ⟨_, rfl⟩
  have hll : ∀ x y, A.lt x y = decide (x < y) := by subst hA; intro x y; rfl
  have hsg : ∀ g, A.sg g g := by subst hA; exact fun _ => rfl
  obtain ⟨F, hF⟩ : ∃ F, F = Frees 0 Kk := ⟨_, rfl⟩
  rw [show Frees ([] : AHeap).length Kk = F from hF.symm]
  refine go4m rfl (SGo_run hA ⟨[], [], (15, eSpan) :: [], []⟩ (.cons eSpan_ok .nil) .nil 200 fun T TD hT hTD => ?_)
  cbv
  rw [hT]
  refine AGo_nilcell 2 4 2 rfl rfl ?_
  refine AGo_upE [0, 1] 7 (fun j (_ : Unit) => True) (fun j _ i => [(2, I i)]) (fun j _ => [.own 0 [I 0, I 0, I 0, I 0, nilA0, nilA0], .own 0 ordC, .own 0 [I 1, I 2, I 4, I 5, .ms 2 3 j 0 j, .ms 4 1 0 0 2], .own j (capC j)]) () trivial ⟨rfl, trivial⟩ (.inl rfl) fun j _ i hi hj hP Bk hB => ?_
  have hlt : A.lt i 7 = decide (j < 7) := by rw [hll, hi, decide_eq_decide]; unfold iLen; omega
  have hadd : ∀ N, j < N → N ≤ 9223372036854775807 → A.add .i64 i 1 = iLen (j + 1) := fun N hj hN => by subst hA; exact add_one hi hj hN
  obtain ⟨cc, hcc⟩ : ∃ c, c = capC j := ⟨_, rfl⟩
  rw [← hcc]
  refine SGo_run hA ⟨[3], [1003], (15, eSpan) :: [], []⟩ (.cons eSpan_ok .nil) .nil 200 fun T TD hT hTD => ?_
  cbv
  split <;> cbv
  · rename_i hk0
    have hk1 : j < 7 := by have hz := hlt.symm.trans hk0; simpa using hz
    clear hk0
    refine And.intro (hsg _) (Exists.intro (cc ++ [I 2, I 3]) (Exists.intro (j + 1) (And.intro ?_ (And.intro rfl ?_))))
    · subst hA; exact app_one (by rw [hcc, capC_len]) rfl (by omega)
    generalize hc2 : cc ++ _ = cc2
    refine And.intro (by subst hA; simp [std, Keep, SubH, ResK]) ?_
    cbv
    refine hB () _ _ hk1 trivial ⟨congrArg I (hadd _ hk1 (by omega)), trivial⟩ ⟨rfl, rfl, trivial⟩ (.inl (by rw [← hc2, hcc]; rfl))
  · rename_i hk0
    have hk1 : ¬ j < 7 := by have hz := hlt.symm.trans hk0; simpa using hz
    clear hk0
    have hj7 : j = 7 := by omega
    subst hj7
    rw [hF]
    have hx : seaF.caps.map sp = seaF.caps.map sp := rfl
    refine Frees.weakF 0 rfl (Frees.weakF 2 rfl (Frees.frz 3 7 2 (seaF.caps.map sp) rfl (by rw [hcc]; exact Elems_map (f := sp) (g := spC) (sz := 2) (fun _ => rfl) (fun _ => rfl) (fun _ => rfl) seaF.caps) ?_))
    have e1 : AV.frz 3 7 2 (seaF.caps.map sp) (.ms 2 3 7 0 7) = .vs 2 (seaF.caps.map sp) := frz_self rfl
    have e2 : AV.frz 3 7 2 (seaF.caps.map sp) (.ms 4 1 0 0 2) = .ms 4 1 0 0 2 := by simp [AV.frz]
    have hr : AV.frz 3 7 2 (seaF.caps.map sp) (aTup [.agg [I 1, I 2, I 4, I 5, .ms 2 3 7 0 7, .ms 4 1 0 0 2]]) = seaM 1 := by
      simp only [aTup, AV.frz, AV.frzL, seaM] at e1 e2 ⊢
      rw [e1, e2]
    have hH : frzH 3 7 2 (seaF.caps.map sp) [.own 0 [], .own 0 ordC, .own 0 [], .gone] = [.own 0 [], .own 0 ordC] ++ [.own 0 [], .gone] := by simp [frzH, AObj.frz, AV.frzL, AV.frz, ordC]
    show Frees 0 Kk (AV.frz 3 7 2 (seaF.caps.map sp) (aTup [.agg [I 1, I 2, I 4, I 5, .ms 2 3 7 0 7, .ms 4 1 0 0 2]])) (frzH 3 7 2 (seaF.caps.map sp) [.own 0 [], .own 0 ordC, .own 0 [], .gone])
    rw [hr, hH]
    exact Frees.drop (by simp) (by rfl) (by rfl) (Frees.now h)
theorem p4m (H : AHeap) {Kk : AV → AHeap → Prop} (h : Kk (seaM (H.length + 1)) (H ++ [.own 0 [], .own 0 ordC])) : ACalls Tryd.prog 4 [] H Kk := by
  have h1 := p4m0 (Kk := fun r H' => r = seaM 1 ∧ H' = [.own 0 [], .own 0 ordC]) ⟨rfl, rfl⟩
  have h2 := ACalls.frame (H := H) [] h1 List.nodup_nil rfl (AV.ltL_nid (by rfl)) (by simp [ltH]) (fun k X hk => by simp at hk)
  rw [AV.renL_nid (by rfl)] at h2
  refine h2.mono fun r H' hx => ?_
  obtain ⟨r0, H1, ⟨rfl, rfl⟩, _, rfl, rfl⟩ := hx
  simpa [merge, updL, AObj.ren, AV.renL, AV.ren, more, at_, seaM, ordC] using h
def eSeaM : List AV → AHeap → Option PT
  | [], H => some fun K => K (seaM (H.length + 1)) (H ++ [.own 0 [], .own 0 ordC])
  | _, _ => none
theorem eSeaM_ok : ∀ args H pt, eSeaM args H = some pt → ∀ (Kk : AV → AHeap → Prop), pt Kk → ACalls Tryd.prog 4 args H Kk := by
  intro args H pt h Kk hk
  unfold eSeaM at h
  split at h
  · cases h; exact p4m H hk
  · cases h
end Go.Sas
