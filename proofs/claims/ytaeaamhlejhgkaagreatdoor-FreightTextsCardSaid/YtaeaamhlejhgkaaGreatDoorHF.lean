/-
Freight: freights, plans, winters made of numbers: contracts.
Conditions: none.
-/
import Derived.Test.YtaeaamhlejhgkaaGreatDoorHE
import Derived.Test.YtaeaamhlejhgkaaGreatDoorQG8
set_option linter.unusedVariables false
set_option linter.unusedSimpArgs false
namespace Go.Sas
open Go.Proofs
set_option maxRecDepth 100000
abbrev orC4 (o : Ord) : List AV := [I o.u, I o.d, I o.l, I o.s]
abbrev spC (x : Int × Int) : List AV := [I x.1, I x.2]
/-- a freight made of numbers -/
def FrQ (days orders : Int) (r : AV) : Prop := ∃ (a b c d : Int) (xs ys : List AV) (cs : List (Int × Int)) (os : List Ord), r = frV a b c d (.vs 2 xs) (.vs 4 ys) ∧ xs = cs.map sp ∧ ys = os.map orV ∧ checkF ⟨(a, b), (c, d), cs, os⟩ = 0 ∧ iLen cs.length ≤ days ∧ iLen os.length ≤ orders ∧
  (∀ x ∈ cs, x.2 ≤ 9) ∧ ∀ o ∈ os, o.u ≤ 20 ∧ o.s ≤ 30
/-- an order of a freight of so many days -/
def OrdD (n : Int) (o : Ord) : Prop := 1 ≤ o.u ∧ o.u ≤ 20 ∧ 0 ≤ o.d ∧ o.d ≤ n ∧ 0 ≤ o.l ∧ o.l ≤ o.s ∧ o.s ≤ 30
theorem firstE_all {α : Type} {f : α → Int} : ∀ {l : List α}, (∀ x ∈ l, f x = 0) → firstE f l = 0
  | [], _ => rfl
  | x :: l, h => by simp only [firstE]; rw [if_pos (h x (by simp))]; exact firstE_all fun y hy => h y (by simp [hy])
theorem checkF_ok' {a b c d nv : Int} {cs : List (Int × Int)} {os : List Ord} {j N : Nat} (h1 : cs.length = j) (h2 : ∀ x ∈ cs, 0 ≤ x.1 ∧ x.1 ≤ x.2 ∧ x.2 ≤ 9) (h3 : 0 ≤ a ∧ a ≤ b ∧ b ≤ nv - 1) (h4 : 0 ≤ c ∧ c ≤ d ∧ d ≤ nv - 1)
    (h5 : ∀ o ∈ os, OrdD nv o) (h6 : 1 ≤ os.length) (h7 : os.length ≤ 6) (h8 : 1 ≤ nv ∧ nv ≤ 200) (h9 : nv = iLen N) (h10 : j = N := by omega) : checkF ⟨(a, b), (c, d), cs, os⟩ = 0 := by
  have hjn : nv = (cs.length : Int) := by rw [h9, h1, h10]; rfl
  have e1 : firstE capE cs = 0 := firstE_all fun x hx => faultF_ok' (by have := h2 x hx; omega)
  have e2 : orsF os = 0 := by
    unfold orsF
    rw [if_neg (by omega), if_neg (by omega)]
    exact firstE_all fun o ho => by have := h5 o ho; unfold OrdD at this; unfold ordE; rw [if_neg (by omega), if_neg (by omega)]
  have e3 : faultF a b 0 (cs.length - 1) = 0 := faultF_ok' (by omega)
  have e4 : faultF c d 0 (cs.length - 1) = 0 := faultF_ok' (by omega)
  unfold checkF
  dsimp only
  rw [if_neg (by omega), if_neg (by omega), e1, e3, e4, e2]
  rfl
theorem d7 (days orders : Int) (hd : 1 ≤ days ∧ days ≤ 200) (ho : 1 ≤ orders ∧ orders ≤ 6) : Draws Tryz.prog 7 [I days, I orders] (FrQ days orders) := by
  refine .of rfl (by rintro r ⟨_, _, _, _, _, _, _, _, rfl, _⟩; rfl) fun w Kk h => ACalls.frees ?_
  obtain ⟨A, hA⟩ : ∃ A, A = std := ⟨_, rfl⟩
  have hsg : ∀ g, A.sg g g := by subst hA; exact fun _ => rfl
  obtain ⟨F, hF⟩ : ∃ F, F = Frees 1 Kk := ⟨_, rfl⟩
  rw [show Frees [AObj.own 0 [U w]].length Kk = F from hF.symm]
  refine go7 rfl (SGo_run hA ⟨[], [], [], ed3⟩ .nil ed3_ok 200 fun T TD hT hTD => ?_)
  cbv
  refine Exists.intro () (And.intro (by omega) ?_)
  rintro w1 _ ⟨nv, rfl, hn1, hn2⟩
  have hn2 : nv ≤ days := by omega
  cbv
  rw [hT]
  refine AGo_nilcell 2 4 2 rfl rfl ?_
  obtain ⟨N, hN⟩ : ∃ N : Nat, nv = iLen N := ⟨nv.toNat, by unfold iLen; omega⟩
  refine AGo_upE [0, 2, 6, 7, 8] N (fun j (s : Int × List (Int × Int)) => s.2.length = j ∧ ∀ x ∈ s.2, 0 ≤ x.1 ∧ x.1 ≤ x.2 ∧ x.2 ≤ 9) (fun j _ i => [(9, I i)])
    (fun j s => [.own 0 [U s.1], .own 0 [I 0, I 0, I 0, I 0, .lit (.slice none 0 0), .lit (.slice none 0 0)], .own 0 [I 0, I 0, I 0, I 0, .ms 2 3 j 0 j, .lit (.slice none 0 0)], .own j (s.2.flatMap spC)]) (w1, []) ⟨rfl, by simp⟩ ⟨rfl, trivial⟩ (.inl rfl) fun j s i hi hj hP Bk hB => ?_
  have hlt : A.lt i nv = decide (j < N) := by subst hA; simp only [std, iLt, hi, hN]; rw [Bool.eq_iff_iff]; unfold iLen; simp only [decide_eq_true_eq]; omega
  have hadd : ∀ N, j < N → N ≤ 9223372036854775807 → A.add .i64 i 1 = iLen (j + 1) := fun N hj hN => by subst hA; exact add_one hi hj hN
  obtain ⟨w2, cs⟩ := s
  obtain ⟨hP1, hP2⟩ := hP
  dsimp only at hP1 hP2 ⊢
  have hNb : N ≤ 200 := by unfold iLen at hN; omega
  obtain ⟨cc, hcc⟩ : ∃ c, c = cs.flatMap spC := ⟨_, rfl⟩
  rw [← hcc]
  refine SGo_run hA ⟨[3], [0, 1003], [], ed3⟩ .nil ed3_ok 200 fun T TD hT hTD => ?_
  cbv
  split <;> cbv
  · rename_i hk0
    have hk1 : j < N := by have hz := hlt.symm.trans hk0; simpa using hz
    clear hk0
    refine Exists.intro () (And.intro ⟨by simp, by simp, by exact AllI_lits (l := [3, 9])⟩ ?_)
    rintro w3 _ ⟨t, rfl, ht⟩
    simp at ht
    cbv
    refine And.intro (by subst hA; simp [std, Keep, SubH, ResK]) ?_; cbv
    refine Exists.intro () (And.intro (by omega) ?_)
    rintro w4 _ ⟨u, v, rfl, hu1, hu2, hu3⟩
    cbv
    refine And.intro (by subst hA; simp [std, Keep, SubH, ResK]) ?_; cbv
    refine And.intro (hsg _) (Exists.intro (cc ++ [I u, I v]) (Exists.intro (j + 1) (And.intro ?_ (And.intro rfl ?_))))
    · subst hA; exact app_one (by rw [hcc, len_flat (k := 2) (fun _ => rfl), hP1]) rfl (by omega)
    generalize hc2 : cc ++ _ = cc2
    refine And.intro (by subst hA; simp [std, Keep, SubH, ResK]) ?_
    cbv
    refine hB (w4, cs ++ [(u, v)]) _ _ hk1 ⟨by simp [hP1], ?_⟩ ⟨congrArg I (hadd _ hk1 (by omega)), trivial⟩ ⟨rfl, rfl, rfl, rfl, rfl, trivial⟩ (.inl (by rw [← hc2, hcc]; simp))
    intro x hx
    rcases List.mem_append.1 hx with hx | hx
    · exact hP2 x hx
    · simp at hx; subst hx; dsimp only; omega
  · rename_i hk0
    have hk1 : ¬ j < N := by have hz := hlt.symm.trans hk0; simpa using hz
    clear hk0
    have hjN : j = N := by omega
    subst hjN
    clear hB hadd hlt
    have hsub : A.sub .i64 nv 1 = nv - 1 := by subst hA; exact iSub_id (by omega) (by omega)
    have hquo : A.quo .i64 (A.sub .i64 nv 1) 2 = (nv - 1) / 2 := by rw [hsub]; subst hA; exact iQuo_id (by omega) (by omega) (by omega)
    refine Exists.intro () (And.intro (by show _ ≤ _ ∧ _ ≤ A.quo .i64 (A.sub .i64 nv 1) 2 ∧ A.quo .i64 (A.sub .i64 nv 1) 2 ≤ _; rw [hquo]; omega) ?_)
    rintro w5 _ ⟨fa, fb, rfl, hf1, hf2, hf3⟩
    have hf3 : fb ≤ A.quo .i64 (A.sub .i64 nv 1) 2 := hf3
    rw [hquo] at hf3
    cbv
    refine Exists.intro () (And.intro (by show _ ≤ A.quo .i64 (A.sub .i64 nv 1) 2 ∧ A.quo .i64 (A.sub .i64 nv 1) 2 ≤ A.sub .i64 nv 1 ∧ A.sub .i64 nv 1 ≤ _; rw [hquo, hsub]; omega) ?_)
    rintro w6 _ ⟨la, lb, rfl, hl1, hl2, hl3⟩
    have hl1 : A.quo .i64 (A.sub .i64 nv 1) 2 ≤ la := hl1
    have hl3 : lb ≤ A.sub .i64 nv 1 := hl3
    rw [hquo] at hl1
    rw [hsub] at hl3
    cbv
    refine Exists.intro () (And.intro (by omega) ?_)
    rintro w7 _ ⟨yb, rfl⟩
    cbv
    split <;> cbv
    · refine Exists.intro () (And.intro (by show _ ≤ _ ∧ _ ≤ A.sub .i64 nv 1 ∧ A.sub .i64 nv 1 ≤ _; rw [hsub]; omega) ?_)
      rintro w17 _ ⟨fa2, fb2, rfl, hg1, hg2, hg3⟩
      have hg3 : fb2 ≤ A.sub .i64 nv 1 := hg3
      rw [hsub] at hg3
      cbv
      refine Exists.intro () (And.intro (by show _ ≤ _ ∧ _ ≤ A.sub .i64 nv 1 ∧ A.sub .i64 nv 1 ≤ _; rw [hsub]; omega) ?_)
      rintro w18 _ ⟨la3, lb3, rfl, hm1, hm2, hm3⟩
      have hm3 : lb3 ≤ A.sub .i64 nv 1 := hm3
      rw [hsub] at hm3
      cbv
      refine Exists.intro () (And.intro (by omega) ?_)
      rintro w8 _ ⟨k2, rfl, hkk1, hkk2⟩
      cbv
      rw [hT]
      refine AGo_nilcell 2 5 4 rfl rfl ?_
      refine AGo_whileE (σ := Int × Int × List Ord) [0, 6, 7, 8] (fun s => s.2.1.toNat) (fun s => 0 ≤ s.2.1 ∧ s.2.1 + iLen s.2.2.length = k2 ∧ ∀ o ∈ s.2.2, OrdD nv o) (fun s => [(10, I s.2.1)])
        (fun s => [.own 0 [U s.1], .own 0 [I 0, I 0, I 0, I 0, .lit (.slice none 0 0), .lit (.slice none 0 0)], .own 0 [I fa2, I fb2, I la3, I lb3, .ms 2 3 j 0 j, .ms 4 4 s.2.2.length 0 s.2.2.length], .own j cc, .own s.2.2.length (s.2.2.flatMap orC4)]) (w8, k2, []) ⟨by dsimp only; omega, by simp [iLen], by simp⟩ ⟨rfl, trivial⟩ (.inl rfl) fun s hP Bk hB => ?_
      obtain ⟨w9, dd, os⟩ := s
      obtain ⟨hd0, hdl, hoa⟩ := hP
      dsimp only at hd0 hdl hoa ⊢
      obtain ⟨oc, hoc⟩ : ∃ c, c = os.flatMap orC4 := ⟨_, rfl⟩
      obtain ⟨n2, hn2'⟩ : ∃ n, n = os.length := ⟨_, rfl⟩
      rw [← hoc, ← hn2']
      rw [← hn2'] at hdl
      have hgt : A.lt 0 dd = decide (0 < dd) := by subst hA; rfl
      have hsub2 : A.sub .i64 dd 1 = dd - 1 := by unfold iLen at hdl; subst hA; exact iSub_id (by omega) (by omega)
      have hn61 : n2 ≤ 6 := by unfold iLen at hdl; omega
      refine SGo_run hA ⟨[4], [0], [], ed3⟩ .nil ed3_ok 200 fun T TD hT hTD => ?_
      cbv
      split <;> cbv
      · rename_i hq
        have hq1 : 0 < dd := by have hq := hgt.symm.trans hq; simpa using hq
        clear hq
        refine Exists.intro () (And.intro ⟨by simp, by simp, by exact AllI_lits (l := [4, 20])⟩ ?_)
        rintro w10 _ ⟨t1, rfl, ht1⟩
        simp at ht1
        cbv
        refine Exists.intro () (And.intro (by omega) ?_)
        rintro w11 _ ⟨uu, rfl, huu1, huu2⟩
        cbv
        have hadd3 : A.add .i64 nv 1 = nv + 1 := by subst hA; exact iAdd_id (by omega) (by omega)
        refine Exists.intro () (And.intro (by show A.add .i64 nv 1 ≤ _; rw [hadd3]; omega) ?_)
        rintro w12 _ ⟨du, rfl, hdu1, hdu2⟩
        have hdu2 : du < A.add .i64 nv 1 ∨ du = 0 := hdu2
        rw [hadd3] at hdu2
        cbv
        refine Exists.intro () (And.intro (by omega) ?_)
        rintro w13 _ ⟨la2, rfl, hla1, hla2⟩
        cbv
        refine Exists.intro () (And.intro (by omega) ?_)
        rintro w14 _ ⟨t2, rfl, ht21, ht22⟩
        cbv
        refine And.intro (by subst hA; exact .inr ⟨⟨rfl, SubH.self _⟩, trivial, .inr fun _ => ⟨rfl, SubH.self _⟩⟩) ?_; cbv
        refine Exists.intro () (And.intro ⟨by simp, by simp, by exact AllI_lits (l := [0, t2])⟩ ?_)
        rintro w15 _ ⟨t3, rfl, ht3⟩
        simp at ht3
        cbv
        refine And.intro (by subst hA; exact .inr ⟨⟨rfl, SubH.self _⟩, trivial, .inr fun _ => ⟨rfl, SubH.self _⟩⟩) ?_; cbv
        have hls : A.add .i64 la2 t3 = la2 + t3 := by subst hA; exact iAdd_id (by omega) (by omega)
        refine And.intro (hsg _) (Exists.intro (oc ++ [I uu, I du, I la2, I (A.add .i64 la2 t3)]) (Exists.intro (n2 + 1) (And.intro ?_ (And.intro rfl ?_))))
        · subst hA; exact app_one (by rw [hoc, len_flat (k := 4) (fun _ => rfl), hn2']) rfl (by omega)
        generalize hoc2 : oc ++ _ = oc2
        cbv
        rw [hls] at hoc2
        refine hB (w15, dd - 1, os ++ [⟨uu, du, la2, la2 + t3⟩]) _ _ (by dsimp only; omega) ⟨by dsimp only; omega, by dsimp only; unfold iLen at hdl ⊢; simp; omega, ?_⟩ ⟨congrArg I hsub2, trivial⟩ ⟨rfl, rfl, rfl, rfl, trivial⟩ (.inr ⟨⟨[.own 0 [I uu, I du, I la2, I (A.add .i64 la2 t3)]], ?_⟩, by simp, by simp [ltG, keepS, look, gset, AV.lt, AV.ltL], ?_⟩)
        · intro o ho9
          rcases List.mem_append.1 ho9 with ho9 | ho9
          · exact hoa o ho9
          · simp at ho9; subst ho9; unfold OrdD; dsimp only; omega
        · rw [← hoc2, hoc, hn2']; simp
        · exact ⟨by simp [AObj.lt, AV.ltL, AV.lt], by simp [AObj.lt, AV.ltL, AV.lt], by simp [AObj.lt, AV.ltL, AV.lt], AV.ltL_nid (by rw [hcc]; exact nidL_flat (fun _ => rfl) _), AV.ltL_nid (nidL_flat (fun _ => rfl) _), trivial⟩
      · rename_i hq
        have hq1 : ¬ 0 < dd := by have hq := hgt.symm.trans hq; simpa using hq
        clear hq
        rw [hF]
        have hck : checkF ⟨(fa2, fb2), (la3, lb3), cs, os⟩ = 0 := checkF_ok' hP1 hP2 (by omega) (by omega) hoa (by rw [← hn2']; unfold iLen at hdl; omega) (by omega) (by unfold iLen at hN; omega) hN
        have hfin : Kk (frV fa2 fb2 la3 lb3 (.vs 2 (cs.map sp)) (.vs 4 (os.map orV))) [.own 0 [U w9]] := h _ _ ⟨_, _, _, _, _, _, cs, os, rfl, rfl, rfl, hck, by rw [hP1, ← hN]; exact hn2, by unfold iLen at hdl ⊢; omega, fun x hx => (hP2 x hx).2.2, fun o ho9 => by have := hoa o ho9; unfold OrdD at this; omega⟩
        refine Frees.frz 3 j 2 (cs.map sp) rfl (by rw [hcc]; exact Elems_sp cs) ?_
        refine Frees.frz 4 n2 4 (os.map orV) (cs := oc) ?_ (by rw [hoc]; exact Elems_map (f := orV) (g := orC4) (sz := 4) (fun _ => rfl) (fun _ => rfl) (fun _ => rfl) os) ?_
        · have : AV.frzL 3 j 2 (cs.map sp) oc = oc := AV.frzL_nid (by rw [hoc]; exact nidL_flat (fun _ => rfl) _)
          simp [frzH, AObj.frz, this]
        have e1 : AV.frz 3 j 2 (cs.map sp) (.ms 2 3 j 0 j) = .vs 2 (cs.map sp) := frz_self (by simp [hP1])
        have e2 : AV.frz 4 n2 4 (os.map orV) (.ms 4 4 n2 0 n2) = .vs 4 (os.map orV) := frz_self (by simp [hn2'])
        have e3 : AV.frz 3 j 2 (cs.map sp) (.ms 4 4 n2 0 n2) = .ms 4 4 n2 0 n2 := by simp [AV.frz]
        have e4 : AV.frz 4 n2 4 (os.map orV) (AV.frz 3 j 2 (cs.map sp) (.agg [I fa2, I fb2, I la3, I lb3, .ms 2 3 j 0 j, .ms 4 4 n2 0 n2])) = frV fa2 fb2 la3 lb3 (.vs 2 (cs.map sp)) (.vs 4 (os.map orV)) := by
          simp only [AV.frz, AV.frzL] at e1 e2 e3 ⊢
          rw [e1, e3]
          simp only [AV.frz] at e2 ⊢
          rw [e2]
        have e6 : ∀ T, Frees 1 Kk (AV.frz 4 n2 4 (os.map orV) (AV.frz 3 j 2 (cs.map sp) (.agg [I fa2, I fb2, I la3, I lb3, .ms 2 3 j 0 j, .ms 4 4 n2 0 n2]))) (.own 0 [U w9] :: T) := fun T => by rw [e4]; exact Frees.drop1 rfl hfin
        exact e6 _
    · refine Exists.intro () (And.intro (by omega) ?_)
      rintro w8 _ ⟨k2, rfl, hkk1, hkk2⟩
      cbv
      rw [hT]
      refine AGo_nilcell 2 5 4 rfl rfl ?_
      refine AGo_whileE (σ := Int × Int × List Ord) [0, 6, 7, 8] (fun s => s.2.1.toNat) (fun s => 0 ≤ s.2.1 ∧ s.2.1 + iLen s.2.2.length = k2 ∧ ∀ o ∈ s.2.2, OrdD nv o) (fun s => [(10, I s.2.1)])
        (fun s => [.own 0 [U s.1], .own 0 [I 0, I 0, I 0, I 0, .lit (.slice none 0 0), .lit (.slice none 0 0)], .own 0 [I fa, I fb, I la, I lb, .ms 2 3 j 0 j, .ms 4 4 s.2.2.length 0 s.2.2.length], .own j cc, .own s.2.2.length (s.2.2.flatMap orC4)]) (w8, k2, []) ⟨by dsimp only; omega, by simp [iLen], by simp⟩ ⟨rfl, trivial⟩ (.inl rfl) fun s hP Bk hB => ?_
      obtain ⟨w9, dd, os⟩ := s
      obtain ⟨hd0, hdl, hoa⟩ := hP
      dsimp only at hd0 hdl hoa ⊢
      obtain ⟨oc, hoc⟩ : ∃ c, c = os.flatMap orC4 := ⟨_, rfl⟩
      obtain ⟨n2, hn2'⟩ : ∃ n, n = os.length := ⟨_, rfl⟩
      rw [← hoc, ← hn2']
      rw [← hn2'] at hdl
      have hgt : A.lt 0 dd = decide (0 < dd) := by subst hA; rfl
      have hsub2 : A.sub .i64 dd 1 = dd - 1 := by unfold iLen at hdl; subst hA; exact iSub_id (by omega) (by omega)
      have hn61 : n2 ≤ 6 := by unfold iLen at hdl; omega
      refine SGo_run hA ⟨[4], [0], [], ed3⟩ .nil ed3_ok 200 fun T TD hT hTD => ?_
      cbv
      split <;> cbv
      · rename_i hq
        have hq1 : 0 < dd := by have hq := hgt.symm.trans hq; simpa using hq
        clear hq
        refine Exists.intro () (And.intro ⟨by simp, by simp, by exact AllI_lits (l := [4, 20])⟩ ?_)
        rintro w10 _ ⟨t1, rfl, ht1⟩
        simp at ht1
        cbv
        refine Exists.intro () (And.intro (by omega) ?_)
        rintro w11 _ ⟨uu, rfl, huu1, huu2⟩
        cbv
        have hadd3 : A.add .i64 nv 1 = nv + 1 := by subst hA; exact iAdd_id (by omega) (by omega)
        refine Exists.intro () (And.intro (by show A.add .i64 nv 1 ≤ _; rw [hadd3]; omega) ?_)
        rintro w12 _ ⟨du, rfl, hdu1, hdu2⟩
        have hdu2 : du < A.add .i64 nv 1 ∨ du = 0 := hdu2
        rw [hadd3] at hdu2
        cbv
        refine Exists.intro () (And.intro (by omega) ?_)
        rintro w13 _ ⟨la2, rfl, hla1, hla2⟩
        cbv
        refine Exists.intro () (And.intro (by omega) ?_)
        rintro w14 _ ⟨t2, rfl, ht21, ht22⟩
        cbv
        refine And.intro (by subst hA; exact .inr ⟨⟨rfl, SubH.self _⟩, trivial, .inr fun _ => ⟨rfl, SubH.self _⟩⟩) ?_; cbv
        refine Exists.intro () (And.intro ⟨by simp, by simp, by exact AllI_lits (l := [0, t2])⟩ ?_)
        rintro w15 _ ⟨t3, rfl, ht3⟩
        simp at ht3
        cbv
        refine And.intro (by subst hA; exact .inr ⟨⟨rfl, SubH.self _⟩, trivial, .inr fun _ => ⟨rfl, SubH.self _⟩⟩) ?_; cbv
        have hls : A.add .i64 la2 t3 = la2 + t3 := by subst hA; exact iAdd_id (by omega) (by omega)
        refine And.intro (hsg _) (Exists.intro (oc ++ [I uu, I du, I la2, I (A.add .i64 la2 t3)]) (Exists.intro (n2 + 1) (And.intro ?_ (And.intro rfl ?_))))
        · subst hA; exact app_one (by rw [hoc, len_flat (k := 4) (fun _ => rfl), hn2']) rfl (by omega)
        generalize hoc2 : oc ++ _ = oc2
        cbv
        rw [hls] at hoc2
        refine hB (w15, dd - 1, os ++ [⟨uu, du, la2, la2 + t3⟩]) _ _ (by dsimp only; omega) ⟨by dsimp only; omega, by dsimp only; unfold iLen at hdl ⊢; simp; omega, ?_⟩ ⟨congrArg I hsub2, trivial⟩ ⟨rfl, rfl, rfl, rfl, trivial⟩ (.inr ⟨⟨[.own 0 [I uu, I du, I la2, I (A.add .i64 la2 t3)]], ?_⟩, by simp, by simp [ltG, keepS, look, gset, AV.lt, AV.ltL], ?_⟩)
        · intro o ho9
          rcases List.mem_append.1 ho9 with ho9 | ho9
          · exact hoa o ho9
          · simp at ho9; subst ho9; unfold OrdD; dsimp only; omega
        · rw [← hoc2, hoc, hn2']; simp
        · exact ⟨by simp [AObj.lt, AV.ltL, AV.lt], by simp [AObj.lt, AV.ltL, AV.lt], by simp [AObj.lt, AV.ltL, AV.lt], AV.ltL_nid (by rw [hcc]; exact nidL_flat (fun _ => rfl) _), AV.ltL_nid (nidL_flat (fun _ => rfl) _), trivial⟩
      · rename_i hq
        have hq1 : ¬ 0 < dd := by have hq := hgt.symm.trans hq; simpa using hq
        clear hq
        rw [hF]
        have hck : checkF ⟨(fa, fb), (la, lb), cs, os⟩ = 0 := checkF_ok' hP1 hP2 (by omega) (by omega) hoa (by rw [← hn2']; unfold iLen at hdl; omega) (by omega) (by unfold iLen at hN; omega) hN
        have hfin : Kk (frV fa fb la lb (.vs 2 (cs.map sp)) (.vs 4 (os.map orV))) [.own 0 [U w9]] := h _ _ ⟨_, _, _, _, _, _, cs, os, rfl, rfl, rfl, hck, by rw [hP1, ← hN]; exact hn2, by unfold iLen at hdl ⊢; omega, fun x hx => (hP2 x hx).2.2, fun o ho9 => by have := hoa o ho9; unfold OrdD at this; omega⟩
        refine Frees.frz 3 j 2 (cs.map sp) rfl (by rw [hcc]; exact Elems_sp cs) ?_
        refine Frees.frz 4 n2 4 (os.map orV) (cs := oc) ?_ (by rw [hoc]; exact Elems_map (f := orV) (g := orC4) (sz := 4) (fun _ => rfl) (fun _ => rfl) (fun _ => rfl) os) ?_
        · have : AV.frzL 3 j 2 (cs.map sp) oc = oc := AV.frzL_nid (by rw [hoc]; exact nidL_flat (fun _ => rfl) _)
          simp [frzH, AObj.frz, this]
        have e1 : AV.frz 3 j 2 (cs.map sp) (.ms 2 3 j 0 j) = .vs 2 (cs.map sp) := frz_self (by simp [hP1])
        have e2 : AV.frz 4 n2 4 (os.map orV) (.ms 4 4 n2 0 n2) = .vs 4 (os.map orV) := frz_self (by simp [hn2'])
        have e3 : AV.frz 3 j 2 (cs.map sp) (.ms 4 4 n2 0 n2) = .ms 4 4 n2 0 n2 := by simp [AV.frz]
        have e4 : AV.frz 4 n2 4 (os.map orV) (AV.frz 3 j 2 (cs.map sp) (.agg [I fa, I fb, I la, I lb, .ms 2 3 j 0 j, .ms 4 4 n2 0 n2])) = frV fa fb la lb (.vs 2 (cs.map sp)) (.vs 4 (os.map orV)) := by
          simp only [AV.frz, AV.frzL] at e1 e2 e3 ⊢
          rw [e1, e3]
          simp only [AV.frz] at e2 ⊢
          rw [e2]
        have e6 : ∀ T, Frees 1 Kk (AV.frz 4 n2 4 (os.map orV) (AV.frz 3 j 2 (cs.map sp) (.agg [I fa, I fb, I la, I lb, .ms 2 3 j 0 j, .ms 4 4 n2 0 n2]))) (.own 0 [U w9] :: T) := fun T => by rw [e4]; exact Frees.drop1 rfl hfin
        exact e6 _
end Go.Sas
