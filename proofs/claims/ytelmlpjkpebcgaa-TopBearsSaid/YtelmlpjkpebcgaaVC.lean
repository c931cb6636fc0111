/-
Ice, days and laws of frost made of numbers: contracts.
Conditions: none.
-/
import Derived.Test.YtelmlpjkpebcgaaJ7
import Derived.Test.YtelmlpjkpebcgaaVA
set_option linter.unusedVariables false
set_option linter.unusedSimpArgs false
namespace Go.Sas
open Go.Proofs
set_option maxRecDepth 100000
theorem faultS_z {a b lo hi : Int} (h : lo ≤ a ∧ a ≤ b ∧ b ≤ hi) : faultS a b lo hi = 0 := by unfold faultS; rw [if_neg (by omega), if_neg (by omega)]
def IcQ (r : AV) : Prop := ∃ x : IceK, r = icA x ∧ iceE x = 0
theorem d66 : Draws Try.prog 66 [] IcQ := by
  refine .of rfl (by rintro r ⟨x, rfl, _⟩; rfl) fun w Kk h => ?_
  obtain ⟨A, hA⟩ : ∃ A, A = std := ⟨_, rfl⟩
  refine go66 rfl (SGo_run hA ⟨[], [0], [], ed3⟩ .nil ed3_ok 200 fun T TD hT hTD => ?_)
  cbv
  refine Exists.intro () (And.intro ⟨by simp, by simp, by exact AllI_lits (l := [60, 1200])⟩ ?_)
  rintro w1 _ ⟨a, rfl, ha⟩
  simp at ha
  cbv
  refine Exists.intro () (And.intro (by omega) ?_)
  rintro w2 _ ⟨b1, b2, rfl, hb1, hb2, hb3⟩
  cbv
  refine Exists.intro () (And.intro ⟨by simp, by simp, by exact AllI_lits (l := [20, 200])⟩ ?_)
  rintro w3 _ ⟨c, rfl, hc⟩
  simp at hc
  cbv
  refine Exists.intro () (And.intro (by omega) ?_)
  rintro w4 _ ⟨d1, d2, rfl, hd1, hd2, hd3⟩
  cbv
  refine Exists.intro () (And.intro ⟨by simp, by simp, by exact AllI_lits (l := [0, 5, 60])⟩ ?_)
  rintro w5 _ ⟨e, rfl, he⟩
  simp at he
  cbv
  refine Exists.intro () (And.intro (by omega) ?_)
  rintro w6 _ ⟨f1, f2, rfl, hf1, hf2, hf3⟩
  cbv
  refine Exists.intro () (And.intro ⟨by simp, by simp, by exact AllI_lits (l := [0, 40, 400])⟩ ?_)
  rintro w7 _ ⟨g, rfl, hg⟩
  simp at hg
  cbv
  refine Exists.intro () (And.intro (by omega) ?_)
  rintro w8 _ ⟨i1, i2, rfl, hi1, hi2, hi3⟩
  cbv
  refine h _ _ ⟨⟨(b1, b2), (d1, d2), (f1, f2), (i1, i2)⟩, rfl, ?_⟩
  have q1 : faultS b1 b2 0 5000 = 0 := faultS_z (by omega)
  have q2 : faultS d1 d2 0 5000 = 0 := faultS_z (by omega)
  have q3 : faultS f1 f2 0 5000 = 0 := faultS_z (by omega)
  have q4 : faultS i1 i2 0 5000 = 0 := faultS_z (by omega)
  unfold iceE
  simp [q1, q2, q3, q4]
abbrev dyC (d : DayK) : List AV := [I d.cold.1, I d.cold.2, I d.fall.1, I d.fall.2, I d.water, B d.clear]
theorem Elems_dy (l : List DayK) : Elems 6 (l.map dyA) (l.flatMap dyC) := Elems_map (f := dyA) (g := dyC) (sz := 6) (fun _ => rfl) (fun _ => rfl) (fun _ => rfl) l
theorem nid_dy : ∀ l : List DayK, AV.nidL (l.flatMap dyC) = true
  | [] => rfl
  | d :: l => by simp only [List.flatMap_cons, List.cons_append, List.nil_append, AV.nidL, AV.nid, nid_dy l]; rfl
set_option maxHeartbeats 2000000 in
theorem d67 (most : Int) (fr : Bool) (hm : 0 ≤ most ∧ most ≤ 100) : Draws Try.prog 67 [I most, B fr] (LsQ 6 dyA fun l => iLen l.length ≤ most ∧ ∀ d ∈ l, DayV d) := by
  refine .of rfl (by rintro r ⟨l, xs, rfl, _⟩; rfl) fun w Kk h => ACalls.frees ?_
  obtain ⟨A, hA⟩ : ∃ A, A = std := ⟨_, rfl⟩
  have hsg : ∀ g, A.sg g g := by subst hA; exact fun _ => rfl
  obtain ⟨F, hF⟩ : ∃ F, F = Frees 1 Kk := ⟨_, rfl⟩
  rw [show Frees [AObj.own 0 [U w]].length Kk = F from hF.symm]
  have hadd : A.add .i64 most 1 = most + 1 := by subst hA; exact iAdd_id (by omega) (by omega)
  refine go67 rfl (SGo_run hA ⟨[], [], [], ed3⟩ .nil ed3_ok 200 fun T TD hT hTD => ?_)
  cbv
  refine Exists.intro () (And.intro (by show A.add .i64 most 1 ≤ 9223372036854775807; rw [hadd]; omega) ?_)
  rintro w1 _ ⟨k, rfl, hk1, hk2⟩
  have hk2 : k < A.add .i64 most 1 ∨ k = 0 := hk2
  rw [hadd] at hk2
  cbv
  rw [hT]
  refine AGo_nilms 7 6 rfl ?_
  refine AGo_grow dyC (fun d l (_ : Unit) => 0 ≤ d ∧ d + iLen l.length = k ∧ ∀ x ∈ l, DayV x) (fun d n _ => [(0, .mp 0 0 0), (1, I most), (2, B fr), (7, .ms 6 1 n 0 n), (8, I d)]) w1 k () ⟨by omega, by simp [iLen], by simp⟩ ⟨rfl, rfl, rfl, rfl, rfl, trivial⟩ (.inl rfl) ?_
  rintro w d l _ n cs hn hcs ⟨hd, hdl, hall⟩ Bk hB
  have hcl : cs.length = n * 6 := by rw [hcs, hn]; exact len_flat (k := 6) (fun _ => rfl) l
  have hgt : A.lt 0 d = decide (0 < d) := by subst hA; rfl
  have hsub : A.sub .i64 d 1 = d - 1 := by subst hA; unfold iLen at hdl; exact iSub_id (by omega) (by omega)
  have hnid : ∀ (a b c d e : Int) (f : Bool), AV.ltL 2 (cs ++ [I a, I b, I c, I d, I e, B f]) := fun a b c d e f => by
    rw [hcs]
    have := nid_dy (l ++ [⟨(a, b), (c, d), e, f⟩])
    simp only [List.flatMap_append, List.flatMap_cons, List.flatMap_nil, List.append_nil] at this
    exact AV.ltL_nid this
  have hfin : ∀ (c1 c2 f1 f2 wa : Int) (cl : Bool), (-1000 ≤ c1 ∧ c1 ≤ c2 ∧ c2 ≤ 1000) → (0 ≤ f1 ∧ f1 ≤ f2 ∧ f2 ≤ 1000) → (0 ≤ wa ∧ wa ≤ 200) → ∀ x ∈ l ++ [DayK.mk (c1, c2) (f1, f2) wa cl], DayV x := fun c1 c2 f1 f2 wa cl h1 h2 h3 x hx => by
    rcases List.mem_append.1 hx with hx | hx
    · exact hall x hx
    · simp at hx; subst hx; constructor <;> simp only <;> omega
  refine SGo_run hA ⟨[1], [], [], ed3⟩ .nil ed3_ok 200 fun T TD hT hTD => ?_
  cbv
  split <;> cbv
  · rename_i hq
    have hq := hgt.symm.trans hq
    simp only [decide_eq_true_eq] at hq
    refine Exists.intro () (And.intro ⟨by simp, by simp, by exact AllI_lits (l := [-60, 0, 100])⟩ ?_)
    rintro w2 _ ⟨a, rfl, ha⟩
    simp at ha
    cbv
    refine Exists.intro () (And.intro ⟨by simp, by simp, by exact AllI_lits (l := [100, 300])⟩ ?_)
    rintro w3 _ ⟨b, rfl, hb⟩
    simp at hb
    cbv
    refine Exists.intro () (And.intro (by omega) ?_)
    rintro w4 _ ⟨u, v, rfl, hu1, hu2, hu3⟩
    cbv
    refine Exists.intro () (And.intro (by omega) ?_)
    rintro w5 _ ⟨cl, rfl⟩
    cbv
    have huv : -1000 ≤ u ∧ u ≤ v ∧ v ≤ 1000 := by omega
    have hmx : -1000 ≤ (0 : Int) ∧ 0 ≤ A.max 0 v ∧ A.max 0 v ≤ 1000 := by subst hA; simp only [std, iMax_eq]; omega
    cases fr <;> cbv
    · refine Exists.intro () (And.intro (by omega) ?_)
      rintro w6 _ ⟨y1, rfl⟩
      cbv
      split <;> cbv
      · refine Exists.intro () (And.intro (by omega) ?_)
        rintro w7 _ ⟨f1, f2, rfl, hf1, hf2, hf3⟩
        cbv
        refine Exists.intro () (And.intro (by omega) ?_)
        rintro w8 _ ⟨y2, rfl⟩
        cbv
        split <;> cbv
        · refine Exists.intro () (And.intro (by omega) ?_)
          rintro w9 _ ⟨wa, rfl, hw1, hw2⟩
          cbv
          refine And.intro (hsg _) (Exists.intro (cs ++ [I (u), I (v), I (f1), I (f2), I (wa), B cl]) (Exists.intro (n + 1) (And.intro (by subst hA; unfold iLen at hdl; exact app_one hcl rfl (by omega)) (And.intro rfl ?_))))
          generalize hc2 : cs ++ _ = cs2
          cbv
          subst hc2
          exact hB _ (d - 1) ⟨(u, v), (f1, f2), wa, cl⟩ () _ _ (by omega) ⟨by omega, by unfold iLen at hdl ⊢; simp; omega, hfin _ _ _ _ _ _ huv (by omega) (by omega)⟩ ⟨rfl, rfl, rfl, rfl, congrArg I hsub, trivial⟩ (.inr ⟨⟨_, rfl⟩, by simp, by simp [ltG, AV.lt, AV.ltL], by simp [ltH, AObj.lt, AV.ltL, AV.lt]; exact hnid _ _ _ _ _ _⟩)
        · refine And.intro (hsg _) (Exists.intro (cs ++ [I (u), I (v), I (f1), I (f2), I (0), B cl]) (Exists.intro (n + 1) (And.intro (by subst hA; unfold iLen at hdl; exact app_one hcl rfl (by omega)) (And.intro rfl ?_))))
          generalize hc2 : cs ++ _ = cs2
          cbv
          subst hc2
          exact hB _ (d - 1) ⟨(u, v), (f1, f2), 0, cl⟩ () _ _ (by omega) ⟨by omega, by unfold iLen at hdl ⊢; simp; omega, hfin _ _ _ _ _ _ huv (by omega) (by omega)⟩ ⟨rfl, rfl, rfl, rfl, congrArg I hsub, trivial⟩ (.inr ⟨⟨_, rfl⟩, by simp, by simp [ltG, AV.lt, AV.ltL], by simp [ltH, AObj.lt, AV.ltL, AV.lt]; exact hnid _ _ _ _ _ _⟩)
      · refine Exists.intro () (And.intro (by omega) ?_)
        rintro w8 _ ⟨y2, rfl⟩
        cbv
        split <;> cbv
        · refine Exists.intro () (And.intro (by omega) ?_)
          rintro w9 _ ⟨wa, rfl, hw1, hw2⟩
          cbv
          refine And.intro (hsg _) (Exists.intro (cs ++ [I (u), I (v), I (0), I (0), I (wa), B cl]) (Exists.intro (n + 1) (And.intro (by subst hA; unfold iLen at hdl; exact app_one hcl rfl (by omega)) (And.intro rfl ?_))))
          generalize hc2 : cs ++ _ = cs2
          cbv
          subst hc2
          exact hB _ (d - 1) ⟨(u, v), (0, 0), wa, cl⟩ () _ _ (by omega) ⟨by omega, by unfold iLen at hdl ⊢; simp; omega, hfin _ _ _ _ _ _ huv (by omega) (by omega)⟩ ⟨rfl, rfl, rfl, rfl, congrArg I hsub, trivial⟩ (.inr ⟨⟨_, rfl⟩, by simp, by simp [ltG, AV.lt, AV.ltL], by simp [ltH, AObj.lt, AV.ltL, AV.lt]; exact hnid _ _ _ _ _ _⟩)
        · refine And.intro (hsg _) (Exists.intro (cs ++ [I (u), I (v), I (0), I (0), I (0), B cl]) (Exists.intro (n + 1) (And.intro (by subst hA; unfold iLen at hdl; exact app_one hcl rfl (by omega)) (And.intro rfl ?_))))
          generalize hc2 : cs ++ _ = cs2
          cbv
          subst hc2
          exact hB _ (d - 1) ⟨(u, v), (0, 0), 0, cl⟩ () _ _ (by omega) ⟨by omega, by unfold iLen at hdl ⊢; simp; omega, hfin _ _ _ _ _ _ huv (by omega) (by omega)⟩ ⟨rfl, rfl, rfl, rfl, congrArg I hsub, trivial⟩ (.inr ⟨⟨_, rfl⟩, by simp, by simp [ltG, AV.lt, AV.ltL], by simp [ltH, AObj.lt, AV.ltL, AV.lt]; exact hnid _ _ _ _ _ _⟩)
    split <;> cbv
    · refine Exists.intro () (And.intro (by omega) ?_)
      rintro w6 _ ⟨y1, rfl⟩
      cbv
      split <;> cbv
      · refine Exists.intro () (And.intro (by omega) ?_)
        rintro w7 _ ⟨f1, f2, rfl, hf1, hf2, hf3⟩
        cbv
        refine Exists.intro () (And.intro (by omega) ?_)
        rintro w8 _ ⟨y2, rfl⟩
        cbv
        split <;> cbv
        · refine Exists.intro () (And.intro (by omega) ?_)
          rintro w9 _ ⟨wa, rfl, hw1, hw2⟩
          cbv
          refine And.intro (hsg _) (Exists.intro (cs ++ [I (0), I (A.max 0 v), I (f1), I (f2), I (wa), B cl]) (Exists.intro (n + 1) (And.intro (by subst hA; unfold iLen at hdl; exact app_one hcl rfl (by omega)) (And.intro rfl ?_))))
          generalize hc2 : cs ++ _ = cs2
          cbv
          subst hc2
          exact hB _ (d - 1) ⟨(0, A.max 0 v), (f1, f2), wa, cl⟩ () _ _ (by omega) ⟨by omega, by unfold iLen at hdl ⊢; simp; omega, hfin _ _ _ _ _ _ hmx (by omega) (by omega)⟩ ⟨rfl, rfl, rfl, rfl, congrArg I hsub, trivial⟩ (.inr ⟨⟨_, rfl⟩, by simp, by simp [ltG, AV.lt, AV.ltL], by simp [ltH, AObj.lt, AV.ltL, AV.lt]; exact hnid _ _ _ _ _ _⟩)
        · refine And.intro (hsg _) (Exists.intro (cs ++ [I (0), I (A.max 0 v), I (f1), I (f2), I (0), B cl]) (Exists.intro (n + 1) (And.intro (by subst hA; unfold iLen at hdl; exact app_one hcl rfl (by omega)) (And.intro rfl ?_))))
          generalize hc2 : cs ++ _ = cs2
          cbv
          subst hc2
          exact hB _ (d - 1) ⟨(0, A.max 0 v), (f1, f2), 0, cl⟩ () _ _ (by omega) ⟨by omega, by unfold iLen at hdl ⊢; simp; omega, hfin _ _ _ _ _ _ hmx (by omega) (by omega)⟩ ⟨rfl, rfl, rfl, rfl, congrArg I hsub, trivial⟩ (.inr ⟨⟨_, rfl⟩, by simp, by simp [ltG, AV.lt, AV.ltL], by simp [ltH, AObj.lt, AV.ltL, AV.lt]; exact hnid _ _ _ _ _ _⟩)
      · refine Exists.intro () (And.intro (by omega) ?_)
        rintro w8 _ ⟨y2, rfl⟩
        cbv
        split <;> cbv
        · refine Exists.intro () (And.intro (by omega) ?_)
          rintro w9 _ ⟨wa, rfl, hw1, hw2⟩
          cbv
          refine And.intro (hsg _) (Exists.intro (cs ++ [I (0), I (A.max 0 v), I (0), I (0), I (wa), B cl]) (Exists.intro (n + 1) (And.intro (by subst hA; unfold iLen at hdl; exact app_one hcl rfl (by omega)) (And.intro rfl ?_))))
          generalize hc2 : cs ++ _ = cs2
          cbv
          subst hc2
          exact hB _ (d - 1) ⟨(0, A.max 0 v), (0, 0), wa, cl⟩ () _ _ (by omega) ⟨by omega, by unfold iLen at hdl ⊢; simp; omega, hfin _ _ _ _ _ _ hmx (by omega) (by omega)⟩ ⟨rfl, rfl, rfl, rfl, congrArg I hsub, trivial⟩ (.inr ⟨⟨_, rfl⟩, by simp, by simp [ltG, AV.lt, AV.ltL], by simp [ltH, AObj.lt, AV.ltL, AV.lt]; exact hnid _ _ _ _ _ _⟩)
        · refine And.intro (hsg _) (Exists.intro (cs ++ [I (0), I (A.max 0 v), I (0), I (0), I (0), B cl]) (Exists.intro (n + 1) (And.intro (by subst hA; unfold iLen at hdl; exact app_one hcl rfl (by omega)) (And.intro rfl ?_))))
          generalize hc2 : cs ++ _ = cs2
          cbv
          subst hc2
          exact hB _ (d - 1) ⟨(0, A.max 0 v), (0, 0), 0, cl⟩ () _ _ (by omega) ⟨by omega, by unfold iLen at hdl ⊢; simp; omega, hfin _ _ _ _ _ _ hmx (by omega) (by omega)⟩ ⟨rfl, rfl, rfl, rfl, congrArg I hsub, trivial⟩ (.inr ⟨⟨_, rfl⟩, by simp, by simp [ltG, AV.lt, AV.ltL], by simp [ltH, AObj.lt, AV.ltL, AV.lt]; exact hnid _ _ _ _ _ _⟩)
    · refine Exists.intro () (And.intro (by omega) ?_)
      rintro w6 _ ⟨y1, rfl⟩
      cbv
      split <;> cbv
      · refine Exists.intro () (And.intro (by omega) ?_)
        rintro w7 _ ⟨f1, f2, rfl, hf1, hf2, hf3⟩
        cbv
        refine Exists.intro () (And.intro (by omega) ?_)
        rintro w8 _ ⟨y2, rfl⟩
        cbv
        split <;> cbv
        · refine Exists.intro () (And.intro (by omega) ?_)
          rintro w9 _ ⟨wa, rfl, hw1, hw2⟩
          cbv
          refine And.intro (hsg _) (Exists.intro (cs ++ [I (u), I (v), I (f1), I (f2), I (wa), B cl]) (Exists.intro (n + 1) (And.intro (by subst hA; unfold iLen at hdl; exact app_one hcl rfl (by omega)) (And.intro rfl ?_))))
          generalize hc2 : cs ++ _ = cs2
          cbv
          subst hc2
          exact hB _ (d - 1) ⟨(u, v), (f1, f2), wa, cl⟩ () _ _ (by omega) ⟨by omega, by unfold iLen at hdl ⊢; simp; omega, hfin _ _ _ _ _ _ huv (by omega) (by omega)⟩ ⟨rfl, rfl, rfl, rfl, congrArg I hsub, trivial⟩ (.inr ⟨⟨_, rfl⟩, by simp, by simp [ltG, AV.lt, AV.ltL], by simp [ltH, AObj.lt, AV.ltL, AV.lt]; exact hnid _ _ _ _ _ _⟩)
        · refine And.intro (hsg _) (Exists.intro (cs ++ [I (u), I (v), I (f1), I (f2), I (0), B cl]) (Exists.intro (n + 1) (And.intro (by subst hA; unfold iLen at hdl; exact app_one hcl rfl (by omega)) (And.intro rfl ?_))))
          generalize hc2 : cs ++ _ = cs2
          cbv
          subst hc2
          exact hB _ (d - 1) ⟨(u, v), (f1, f2), 0, cl⟩ () _ _ (by omega) ⟨by omega, by unfold iLen at hdl ⊢; simp; omega, hfin _ _ _ _ _ _ huv (by omega) (by omega)⟩ ⟨rfl, rfl, rfl, rfl, congrArg I hsub, trivial⟩ (.inr ⟨⟨_, rfl⟩, by simp, by simp [ltG, AV.lt, AV.ltL], by simp [ltH, AObj.lt, AV.ltL, AV.lt]; exact hnid _ _ _ _ _ _⟩)
      · refine Exists.intro () (And.intro (by omega) ?_)
        rintro w8 _ ⟨y2, rfl⟩
        cbv
        split <;> cbv
        · refine Exists.intro () (And.intro (by omega) ?_)
          rintro w9 _ ⟨wa, rfl, hw1, hw2⟩
          cbv
          refine And.intro (hsg _) (Exists.intro (cs ++ [I (u), I (v), I (0), I (0), I (wa), B cl]) (Exists.intro (n + 1) (And.intro (by subst hA; unfold iLen at hdl; exact app_one hcl rfl (by omega)) (And.intro rfl ?_))))
          generalize hc2 : cs ++ _ = cs2
          cbv
          subst hc2
          exact hB _ (d - 1) ⟨(u, v), (0, 0), wa, cl⟩ () _ _ (by omega) ⟨by omega, by unfold iLen at hdl ⊢; simp; omega, hfin _ _ _ _ _ _ huv (by omega) (by omega)⟩ ⟨rfl, rfl, rfl, rfl, congrArg I hsub, trivial⟩ (.inr ⟨⟨_, rfl⟩, by simp, by simp [ltG, AV.lt, AV.ltL], by simp [ltH, AObj.lt, AV.ltL, AV.lt]; exact hnid _ _ _ _ _ _⟩)
        · refine And.intro (hsg _) (Exists.intro (cs ++ [I (u), I (v), I (0), I (0), I (0), B cl]) (Exists.intro (n + 1) (And.intro (by subst hA; unfold iLen at hdl; exact app_one hcl rfl (by omega)) (And.intro rfl ?_))))
          generalize hc2 : cs ++ _ = cs2
          cbv
          subst hc2
          exact hB _ (d - 1) ⟨(u, v), (0, 0), 0, cl⟩ () _ _ (by omega) ⟨by omega, by unfold iLen at hdl ⊢; simp; omega, hfin _ _ _ _ _ _ huv (by omega) (by omega)⟩ ⟨rfl, rfl, rfl, rfl, congrArg I hsub, trivial⟩ (.inr ⟨⟨_, rfl⟩, by simp, by simp [ltG, AV.lt, AV.ltL], by simp [ltH, AObj.lt, AV.ltL, AV.lt]; exact hnid _ _ _ _ _ _⟩)
  · rename_i hq
    have hq := hgt.symm.trans hq
    simp only [decide_eq_false_iff_not] at hq
    rw [hF]
    refine Frees.row (xs := l.map dyA) (by rw [hcs]; exact Elems_dy l) (frz_self (by simp [hn])) rfl (h _ _ ⟨l, _, rfl, rfl, by unfold iLen at hdl ⊢; omega, hall⟩)
end Go.Sas
