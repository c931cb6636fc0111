/-
Trucks and convoys made of numbers.
Small functions of the kit: on the lane, on the road, one weight.
Which trucks fail: what is drawn.
Conditions: none.
-/
import Derived.Test.YtndnjmpebpampaaGreatDoorWH
import Derived.Test.YtndnjmpebpampaaGreatDoorWD
import Derived.Test.YtndnjmpebpampaaGreatDoorJ7
set_option linter.unusedVariables false
set_option linter.unusedSimpArgs false
namespace Go.Sas
open Go.Proofs
set_option maxRecDepth 100000
/-- a truck made of numbers -/
def TrkQ (far : Int) (r : AV) : Prop := ∃ (w s lo hi : Int) (hs : List Hld) (ys : List AV), r = tckV w s lo hi (.vs 2 ys) ∧ ys = hs.map hdV ∧ TckV far 70 ⟨w, s, lo, hi, hs⟩
abbrev hdC (h : Hld) : List AV := [I h.a, I h.u]
theorem hdC_len : ∀ l : List Hld, (l.flatMap hdC).length = l.length * 2 := fun l => len_flat (k := 2) (fun _ => rfl) l
theorem Elems_hd (l : List Hld) : Elems 2 (l.map hdV) (l.flatMap hdC) := Elems_map (f := hdV) (g := hdC) (sz := 2) (fun _ => rfl) (fun _ => rfl) (fun _ => rfl) l
structure HdI (far way g : Int) (hs : List Hld) : Prop where
  gb : 0 ≤ g ∧ g ≤ far - 1
  all : ∀ h ∈ hs, (1 ≤ h.a ∧ h.a ≤ far - 1) ∧ 0 ≤ h.u ∧ h.u ≤ 10000
  le : ∀ h ∈ hs, aloC far way h.a ≤ g
  ord : hs.Pairwise fun x y => aloC far way x.a < aloC far way y.a
theorem HdI.push {far way g g' u : Int} {hs : List Hld} (h : HdI far way g hs) (h1 : g + 1 ≤ g' ∧ g' ≤ far - 1) (hu : 0 ≤ u ∧ u ≤ 10000) : HdI far way g' (hs ++ [⟨aloC far way g', u⟩]) := by
  have h2 := h.gb
  have e : aloC far way (aloC far way g') = g' := by unfold aloC; split <;> omega
  have e2 : 1 ≤ aloC far way g' ∧ aloC far way g' ≤ far - 1 := aloC_bnd (by omega)
  refine ⟨by omega, fun x hx => ?_, fun x hx => ?_, ?_⟩
  · rcases List.mem_append.1 hx with hx | hx
    · exact h.all x hx
    · rw [List.mem_singleton.1 hx]; exact ⟨e2, hu⟩
  · rcases List.mem_append.1 hx with hx | hx
    · have := h.le x hx; omega
    · rw [List.mem_singleton.1 hx]; dsimp only; omega
  · refine List.pairwise_append.2 ⟨h.ord, List.pairwise_singleton _ _, fun x hx y hy => ?_⟩
    rw [List.mem_singleton.1 hy]
    have := h.le x hx
    dsimp only
    omega
theorem d19 (far most : Int) (hf : 60 ≤ far ∧ far ≤ 300) (hm : 0 ≤ most ∧ most ≤ 8) : Draws Tryz.prog 19 [I far, I most] (TrkQ far) := by
  refine .of rfl (by rintro r ⟨_, _, _, _, _, _, rfl, _⟩; rfl) fun w Kk h => ACalls.frees ?_
  obtain ⟨A, hA⟩ : ∃ A, A = std := ⟨_, rfl⟩
  have hsg : ∀ g, A.sg g g := by subst hA; exact fun _ => rfl
  have hadd1 : A.add .i64 most 1 = most + 1 := by subst hA; exact iAdd_id (by omega) (by omega)
  have hsub1 : A.sub .i64 far 1 = far - 1 := by subst hA; exact iSub_id (by omega) (by omega)
  have hll : ∀ x y, A.lt x y = decide (x < y) := by subst hA; intro x y; rfl
  have hee : ∀ x y, A.eq x y = decide (x = y) := by subst hA; intro x y; exact iEqd _ _
  obtain ⟨F, hF⟩ : ∃ F, F = Frees 1 Kk := ⟨_, rfl⟩
  rw [show Frees [AObj.own 0 [U w]].length Kk = F from hF.symm]
  refine go19 rfl (SGo_run hA ⟨[], [0], [], ed2⟩ .nil ed2_ok 200 fun T TD hT hTD => ?_)
  cbv
  refine Exists.intro () (And.intro (by omega) ?_)
  rintro w1 _ ⟨way, rfl, ha1, ha2⟩
  cbv
  refine Exists.intro () (And.intro (by omega) ?_)
  rintro w2 _ ⟨b1, rfl, hb1, hb2⟩
  cbv
  refine Exists.intro () (And.intro (by omega) ?_)
  rintro w3 _ ⟨b2, rfl, hb3, hb4⟩
  cbv
  refine Exists.intro () (And.intro ⟨by simp, by simp, by exact AllI_lits (l := [0, b1, b2])⟩ ?_)
  rintro w4 _ ⟨st, rfl, hst⟩
  simp at hst
  cbv
  refine Exists.intro () (And.intro (by omega) ?_)
  rintro w5 _ ⟨lo, rfl, hl1, hl2⟩
  cbv
  refine Exists.intro () (And.intro (by omega) ?_)
  rintro w6 _ ⟨b3, rfl, hb5, hb6⟩
  cbv
  refine And.intro (by subst hA; simp [std, Keep, SubH, ResK]) ?_; cbv
  refine Exists.intro () (And.intro ⟨by simp, by simp, by exact AllI_lits (l := [0, b3])⟩ ?_)
  rintro w7 _ ⟨dd, rfl, hdd⟩
  simp at hdd
  cbv
  refine And.intro (by subst hA; simp [std, Keep, SubH, ResK]) ?_; cbv
  have hhi : A.add .i64 lo dd = lo + dd := by subst hA; exact iAdd_id (by omega) (by omega)
  refine Exists.intro () (And.intro (by show A.add .i64 most 1 ≤ _; rw [hadd1]; omega) ?_)
  rintro w8 _ ⟨nv, rfl, hn1, hn2⟩
  have hn2 : nv < A.add .i64 most 1 ∨ nv = 0 := hn2
  rw [hadd1] at hn2
  cbv
  rw [hT]
  refine AGo_nilcell 2 4 2 rfl rfl ?_
  obtain ⟨N, hN⟩ : ∃ N : Nat, nv = iLen N := ⟨nv.toNat, by unfold iLen; omega⟩
  have hNb : N ≤ 8 := by unfold iLen at hN; omega
  refine AGo_upE [0, 1, 6, 7] N (fun j (s : Int × Int × List Hld) => s.2.2.length = j ∧ HdI far way s.2.1 s.2.2) (fun j s _ => [(8, I s.2.1), (9, I (nv - iLen j))])
    (fun j s => [.own 0 [U s.1], .own 0 [I 0, I 0, I 0, I 0, .lit (.slice none 0 0)], .own 0 [I way, I st, I lo, I (A.add .i64 lo dd), .ms 2 3 j 0 j], .own j (s.2.2.flatMap hdC)]) (w8, 0, []) ⟨rfl, show (0 : Int) ≤ 0 ∧ (0 : Int) ≤ far - 1 by omega, by simp, by simp, List.Pairwise.nil⟩ ⟨rfl, congrArg I (show nv = nv - iLen 0 by simp [iLen]), trivial⟩ (.inl rfl) fun j s i hi hj hP Bk hB => ?_
  obtain ⟨w9, g, hs⟩ := s
  obtain ⟨hP1, hP2⟩ := hP
  dsimp only at hP1 hP2 ⊢
  have hpg := hP2.gb
  obtain ⟨c, hc⟩ : ∃ c, c = nv - iLen j := ⟨_, rfl⟩
  rw [← hc]
  have hlt : A.lt 0 c = decide (j < N) := by rw [hll, hc, hN]; rw [Bool.eq_iff_iff]; unfold iLen; simp only [decide_eq_true_eq]; omega
  have hsub : A.sub .i64 c 1 = c - 1 := by subst hA; exact iSub_id (by rw [hc, hN]; unfold iLen; omega) (by rw [hc, hN]; unfold iLen; omega)
  obtain ⟨cc, hcc⟩ : ∃ c, c = hs.flatMap hdC := ⟨_, rfl⟩
  rw [← hcc]
  have hcl : cc.length = j * 2 := by rw [hcc, hdC_len, hP1]
  have hcn : ∀ n (x y : Int), AV.ltL n (hs.flatMap hdC ++ [I x, I y]) := fun n x y => AV.ltL_nid (nidL_app (nidL_flat (fun _ => rfl) _) rfl)
  have hga : A.add .i64 g 1 = g + 1 := by subst hA; exact iAdd_id (by omega) (by omega)
  have hend : ∀ X T, F (.agg [I way, I st, I lo, I (A.add .i64 lo dd), .ms 2 3 j 0 j]) (.own 0 [U w9] :: X :: .own 0 [I way, I st, I lo, I (A.add .i64 lo dd), .ms 2 3 j 0 j] :: .own j cc :: T) := by
    intro X T
    rw [hF]
    refine Frees.frz 3 j 2 (hs.map hdV) rfl (by rw [hcc]; exact Elems_hd hs) ?_
    have e1 : AV.frz 3 j 2 (hs.map hdV) (.ms 2 3 j 0 j) = .vs 2 (hs.map hdV) := frz_self (by simp [hP1])
    have e4 : AV.frz 3 j 2 (hs.map hdV) (.agg [I way, I st, I lo, I (A.add .i64 lo dd), .ms 2 3 j 0 j]) = tckV way st lo (lo + dd) (.vs 2 (hs.map hdV)) := by
      simp only [AV.frz, AV.frzL] at e1 ⊢
      rw [e1, hhi]
    rw [e4]
    refine Frees.drop1 rfl (h _ _ ⟨way, st, lo, lo + dd, hs, _, rfl, rfl, ?_⟩)
    exact ⟨by dsimp only; omega, by dsimp only; omega, by dsimp only; omega, by dsimp only; omega, by dsimp only; omega, by dsimp only; omega, ⟨by dsimp only; omega, hP2.all, hP2.ord⟩⟩
  refine SGo_run hA ⟨[3], [], [], ed2⟩ .nil ed2_ok 200 fun T TD hT hTD => ?_
  cbv
  split <;> cbv
  · rename_i hz
    have hk1 : j < N := by have hz := hlt.symm.trans hz; simpa using hz
    split <;> cbv
    · rename_i hz2
      have hz2 : A.lt g (A.sub .i64 far 1) = true := hz2
      rw [hsub1, hll] at hz2
      have hz2 := of_decide_eq_true hz2
      refine Exists.intro () (And.intro (by refine ⟨?_, ?_⟩; · show _ ≤ A.add .i64 g 1 ∧ A.add .i64 g 1 ≤ _; rw [hga]; omega
                                            · show _ ≤ A.sub .i64 far 1 ∧ A.sub .i64 far 1 ≤ _; rw [hsub1]; omega) ?_)
      rintro w10 _ ⟨g2, rfl, hg1, hg2⟩
      have hg1 : A.add .i64 g 1 ≤ g2 := hg1
      have hg2 : g2 ≤ A.sub .i64 far 1 ∨ g2 = A.add .i64 g 1 := hg2
      rw [hga] at hg1 hg2
      rw [hsub1] at hg2
      cbv
      refine Exists.intro () (And.intro (by omega) ?_)
      rintro w11 _ ⟨u, rfl, hu1, hu2⟩
      cbv
      have hfs : A.sub .i64 far g2 = far - g2 := by subst hA; exact iSub_id (by omega) (by omega)
      split <;> cbv
      · rename_i hz3
        have hz3 : way = 2 := by simpa using (hee _ _).symm.trans hz3
        have hp3 := hP2.push (g' := g2) (u := u) (by omega) (by omega)
        rw [show aloC far way g2 = far - g2 by unfold aloC; rw [if_pos hz3]] at hp3
        refine And.intro (hsg _) (Exists.intro (cc ++ [I (A.sub .i64 far g2), I u]) (Exists.intro (j + 1) (And.intro (by subst hA; exact app_one hcl rfl (by omega)) (And.intro rfl ?_))))
        rw [hfs]
        generalize hc2 : cc ++ _ = cc2
        cbv
        refine hB (w11, g2, hs ++ [⟨far - g2, u⟩]) _ _ hk1 ⟨by simp [hP1], hp3⟩ ⟨rfl, congrArg I (show A.sub .i64 c 1 = nv - iLen (j + 1) by rw [hsub, hc]; unfold iLen; omega), trivial⟩ ⟨rfl, rfl, rfl, rfl, trivial⟩ (.inr ⟨⟨_, by rw [← hc2, hcc, List.flatMap_append]; rfl⟩, by simp, by simp [ltG, AV.lt, AV.ltL, keepS, look, gset], by simp [ltH, AObj.lt, AV.ltL, AV.lt, hcn]⟩)
      · rename_i hz3
        have hz3 : ¬ way = 2 := by simpa using (hee _ _).symm.trans hz3
        have hp3 := hP2.push (g' := g2) (u := u) (by omega) (by omega)
        rw [show aloC far way g2 = g2 by unfold aloC; rw [if_neg hz3]] at hp3
        refine And.intro (hsg _) (Exists.intro (cc ++ [I g2, I u]) (Exists.intro (j + 1) (And.intro (by subst hA; exact app_one hcl rfl (by omega)) (And.intro rfl ?_))))
        generalize hc2 : cc ++ _ = cc2
        cbv
        refine hB (w11, g2, hs ++ [⟨g2, u⟩]) _ _ hk1 ⟨by simp [hP1], hp3⟩ ⟨rfl, congrArg I (show A.sub .i64 c 1 = nv - iLen (j + 1) by rw [hsub, hc]; unfold iLen; omega), trivial⟩ ⟨rfl, rfl, rfl, rfl, trivial⟩ (.inr ⟨⟨_, by rw [← hc2, hcc, List.flatMap_append]; rfl⟩, by simp, by simp [ltG, AV.lt, AV.ltL, keepS, look, gset], by simp [ltH, AObj.lt, AV.ltL, AV.lt, hcn]⟩)
    · exact hend _ _
  · exact hend _ _
def sTruck : List AV → Option ((Unit → Prop) × (AV → Prop))
  | [.lit (.int .i64 far), .lit (.int .i64 most)] => some (fun _ => (60 ≤ far ∧ far ≤ 300) ∧ 0 ≤ most ∧ most ≤ 8, TrkQ far)
  | _ => none
theorem sTruck_ok : ∀ rest pre Q, sTruck rest = some (pre, Q) → pre () → Draws Tryz.prog 19 rest Q := by
  intro rest pre Q h hp
  unfold sTruck at h
  split at h
  · cases h; exact d19 _ _ hp.1 hp.2
  · cases h
end Go.Sas
namespace Go.Sas
open Go.Proofs
set_option maxRecDepth 100000
def eLanN : List AV → Option ((AV → Prop) → Prop)
  | [.agg [.lit (.int .i64 L), .lit (.int .i64 _), .lit (.int .i64 _), .vs 5 _], .agg [.lit (.int .i64 w), .lit (.int .i64 s), .lit (.int .i64 _), .lit (.int .i64 _), hv], .lit (.int .i64 g), .lit (.int .i64 m)] => match asVs 2 hv with
    | some ys => some fun K => ∃ hs : List Hld, (ys = hs.map hdV ∧ (-1000000000 ≤ L ∧ L ≤ 1000000000) ∧ HldS hs ∧ hs.length ≤ 9223372036854775807) ∧ ∀ q, q = lanB L w s g m hs → K (B q)
    | none => none
  | _ => none
theorem eLanN_ok : ∀ args pt, eLanN args = some pt → ∀ (H : AHeap) (Kk : AV → AHeap → Prop), pt (fun r => Kk r H) → ACalls Tryz.prog 37 args H Kk := by
  intro args pt h H Kk hk
  unfold eLanN at h
  split at h
  · split at h
    · rename_i hx
      cases h
      obtain ⟨hs, ⟨rfl, h1, h2, h4⟩, h3⟩ := hk
      exact (p37 _ _ _ _ _ _ _ _ _ _ hs h1 h2 h4 H (h3 _ rfl)).wk ⟨Wk.rfl, Wk.agg ⟨Wk.rfl, Wk.rfl, Wk.rfl, Wk.rfl, asVs_wk hx, trivial⟩, Wk.rfl, Wk.rfl, trivial⟩
    · cases h
  · cases h
theorem p15 (L gp fl w s lo hi g m : Int) (ts : List AV) (hs : List Hld) (f : Bool) (hL : -1000000000 ≤ L ∧ L ≤ 1000000000) (hS : HldS hs) (hl : hs.length ≤ 1000) (H : AHeap) {Kk : AV → AHeap → Prop} (h : Kk (B (lanB L w s g m (frH f hs))) H) :
    ACalls Tryz.prog 15 [cvyV L gp fl (.vs 5 ts), tckV w s lo hi (.vs 2 (hs.map hdV)), B f, I g, I m] H Kk := by
  refine (fun q => pureC (by rfl) (by rfl) q H h) ?_
  clear h
  intro Kk h
  obtain ⟨ys, hys⟩ : ∃ ys, ys = hs.map hdV := ⟨_, rfl⟩
  rw [← hys]
  obtain ⟨W, hW⟩ : ∃ W, W = lanB L w s g m (frH f hs) := ⟨_, rfl⟩
  rw [← hW] at h
  obtain ⟨A, hA⟩ : ∃ A, A = std := ⟨_, rfl⟩
  cases f with
  | true =>
    refine go15 rfl (SGo_run hA ⟨[], [], (37, eLanN) :: [], []⟩ (.cons eLanN_ok .nil) .nil 200 fun T TD hT hTD => ?_)
    cbv
    refine Exists.intro [] (And.intro ⟨rfl, hL, (fun x hx => by simp at hx), by simp⟩ ?_)
    intro q hq; cbv
    exact leaf h (congrArg B (hW.trans hq.symm)) rfl
  | false =>
    refine go15 rfl (SGo_run hA ⟨[], [], (37, eLanR) :: [], []⟩ (.cons eLanR_ok .nil) .nil 200 fun T TD hT hTD => ?_)
    cbv
    refine Exists.intro hs (And.intro ⟨hys, hL, hS, by omega⟩ ?_)
    intro q hq; cbv
    exact leaf h (congrArg B (hW.trans hq.symm)) rfl
theorem p16 (L gp f w s lo hi g : Int) (ts ys : List AV) (hL : -1000000000 ≤ L ∧ L ≤ 1000000000) (hg : -1000000000 ≤ g ∧ g ≤ 1000000000) (H : AHeap) {Kk : AV → AHeap → Prop} (h : Kk (I (aloC L w g)) H) :
    ACalls Tryz.prog 16 [cvyV L gp f (.vs 5 ts), tckV w s lo hi (.vs 2 ys), I g] H Kk := by
  refine (fun q => pureC (by rfl) (by rfl) q H h) ?_
  clear h
  intro Kk h
  obtain ⟨W, hW⟩ : ∃ W, W = aloC L w g := ⟨_, rfl⟩
  rw [← hW] at h
  obtain ⟨A, hA⟩ : ∃ A, A = std := ⟨_, rfl⟩
  have hee : ∀ x y, A.eq x y = decide (x = y) := by subst hA; intro x y; exact iEqd _ _
  have hsb : A.sub .i64 L g = L - g := by subst hA; exact iSub_id (by omega) (by omega)
  refine go16 rfl (SGo_run hA ⟨[], [], [], []⟩ .nil .nil 200 fun T TD hT hTD => ?_)
  cbv
  split <;> cbv
  · rename_i hz
    have hz : w = 2 := by simpa using (hee _ _).symm.trans hz
    refine leaf h (congrArg I ?_) rfl
    rw [hW, aloC, if_pos hz]; exact hsb.symm
  · rename_i hz
    have hz : ¬ w = 2 := by simpa using (hee _ _).symm.trans hz
    refine leaf h (congrArg I ?_) rfl
    rw [hW, aloC, if_neg hz]
end Go.Sas
namespace Go.Sas
open Go.Proofs
set_option maxRecDepth 100000
def FaQ (n most : Int) (r : AV) : Prop := ∃ (bs : List Bool) (xs : List AV), r = .vs 1 xs ∧ xs = bs.map B ∧ iLen bs.length = n ∧ iLen (bs.countP id) ≤ most
theorem flat1 {α β : Type} {f : α → β} : ∀ l : List α, l.flatMap (fun x => [f x]) = l.map f
  | [] => rfl
  | a :: l => by rw [List.flatMap_cons, flat1 l]; rfl
theorem ixm1 {len j : Nat} {i : Int} (hi : i = iLen j) (h : j < len) : ixmS 1 1 0 len i j := by
  subst hi; unfold iLen
  exact ⟨rfl, by omega, by omega, by omega⟩
theorem Elems_one {α : Type} {F : α → AV} (h1 : ∀ x, (F x).cells = some [F x]) (h2 : ∀ x, (F x).nid = true) (l : List α) : Elems 1 (l.map F) (l.map F) := by
  have := Elems_map (f := F) (g := fun x => [F x]) (sz := 1) h1 h2 (fun _ => rfl) l
  rw [flat1] at this
  exact this
theorem count_set {l : List Bool} : ∀ {k : Nat}, (l.set k true).countP id ≤ l.countP id + 1 := by
  induction l with
  | nil => intro k; simp
  | cons b l ih =>
    intro k
    cases k with
    | zero => cases b <;> simp
    | succ k => have := ih (k := k); simp only [List.set_cons_succ, List.countP_cons]; omega
theorem updB {l : List Bool} {k : Nat} (hk : k < l.length) : updS 1 (l.map B) k [B true] ((l.set k true).map B) := by
  refine ⟨rfl, by simp; omega, ?_⟩
  rw [List.map_set, List.set_eq_take_append_cons_drop, if_pos (by simpa using hk)]
  simp
theorem d13 (n most : Int) (hn : 0 ≤ n ∧ n ≤ 100) (hm : 0 ≤ most ∧ most ≤ 100) : Draws Tryz.prog 13 [I n, I most] (FaQ n most) := by
  refine .of rfl (by rintro r ⟨_, _, rfl, _⟩; rfl) fun w Kk h => ACalls.frees ?_
  obtain ⟨A, hA⟩ : ∃ A, A = std := ⟨_, rfl⟩
  have hsg : ∀ g, A.sg g g := by subst hA; exact fun _ => rfl
  have hll : ∀ x y, A.lt x y = decide (x < y) := by subst hA; intro x y; rfl
  obtain ⟨F, hF⟩ : ∃ F, F = Frees 1 Kk := ⟨_, rfl⟩
  rw [show Frees [AObj.own 0 [U w]].length Kk = F from hF.symm]
  refine go13 rfl (SGo_run hA ⟨[1], [], [], ed2⟩ .nil ed2_ok 200 fun T TD hT hTD => ?_)
  cbv
  obtain ⟨N, hN⟩ : ∃ N : Nat, n = iLen N := ⟨n.toNat, by unfold iLen; omega⟩
  have hN2 : N ≤ 100 := by unfold iLen at hN; omega
  obtain ⟨z0, hz0⟩ : ∃ z, z = (List.replicate N false).map B := ⟨_, rfl⟩
  refine Exists.intro z0 (Exists.intro N (And.intro (by subst hA; refine ⟨hn.1, by omega, by omega, by omega, rfl, by rw [hN]; unfold iLen; omega, ?_⟩; rw [hz0, show n.toNat = N by rw [hN]; unfold iLen; omega]; simp) ?_)); cbv
  rw [hT]
  refine AGo_upE [0, 1, 2, 7] most.toNat (fun j (s : Int × List Bool) => s.2.length = N ∧ s.2.countP id ≤ j) (fun j _ i => [(8, I i)]) (fun j s => [.own 0 [U s.1], .own 0 (s.2.map B)]) (w, List.replicate N false) ⟨by simp, by simp⟩ ⟨rfl, trivial⟩ (.inl (by rw [hz0])) fun j s i hi hj hP Bk hB => ?_
  obtain ⟨w1, bs⟩ := s
  obtain ⟨hP1, hP2⟩ := hP
  dsimp only at hP1 hP2 ⊢
  have hlt : A.lt i most = decide (j < most.toNat) := by rw [hll, hi]; rw [Bool.eq_iff_iff]; unfold iLen; simp only [decide_eq_true_eq]; omega
  have hadd : ∀ N, j < N → N ≤ 9223372036854775807 → A.add .i64 i 1 = iLen (j + 1) := fun N hj hN => by subst hA; exact add_one hi hj hN
  obtain ⟨cc, hcc⟩ : ∃ c, c = bs.map B := ⟨_, rfl⟩
  rw [← hcc]
  have hend : F (.ms 1 1 0 0 N) [.own 0 [U w1], .own 0 cc] := by
    rw [hF]
    refine Frees.frz 1 0 1 cc rfl (by rw [hcc]; exact Elems_one (F := B) (fun _ => rfl) (fun _ => rfl) _) ?_
    have e1 : AV.frz 1 0 1 cc (.ms 1 1 0 0 N) = .vs 1 cc := frz_self (by rw [hcc]; simpa using hP1)
    rw [e1]
    exact Frees.drop1 rfl (h _ _ ⟨bs, cc, rfl, hcc, by rw [hP1, hN], by unfold iLen; omega⟩)
  refine SGo_run hA ⟨[1], [], [], ed2⟩ .nil ed2_ok 200 fun T TD hT hTD => ?_
  cbv
  split <;> cbv
  · rename_i hz
    have hk1 : j < most.toNat := by have hz := hlt.symm.trans hz; simpa using hz
    split <;> cbv
    · rename_i hz2
      have hz2 : 0 < n := by simpa using (hll _ _).symm.trans hz2
      refine Exists.intro () (And.intro (by omega) ?_)
      rintro w2 _ ⟨k, rfl, hg1, hg2⟩
      cbv
      have hkN : k.toNat < N := by unfold iLen at hN; omega
      have hix : A.ixm 1 1 0 N k k.toNat := by subst hA; exact ixm1 (show k = iLen k.toNat by unfold iLen; omega) hkN
      have hup : A.upd 1 cc k.toNat [B true] ((bs.set k.toNat true).map B) := by rw [hcc]; subst hA; exact updB (by omega)
      obtain ⟨c2, hc2⟩ : ∃ c, c = (bs.set k.toNat true).map B := ⟨_, rfl⟩
      rw [← hc2] at hup
      refine And.intro (hsg _) (Exists.intro k.toNat (And.intro hix ?_)); cbv
      refine And.intro (hsg _) (Exists.intro c2 (And.intro hup ?_)); cbv
      refine hB (w2, bs.set k.toNat true) _ _ hk1 ⟨by simpa using hP1, ?_⟩ ⟨congrArg I (hadd _ hk1 (by omega)), trivial⟩ ⟨rfl, rfl, rfl, rfl, trivial⟩ (.inl (by rw [hc2]))
      have := count_set (l := bs) (k := k.toNat)
      dsimp only; omega
    · exact hend
  · exact hend
def sFail : List AV → Option ((Unit → Prop) × (AV → Prop))
  | [.lit (.int .i64 n), .lit (.int .i64 most)] => some (fun _ => (0 ≤ n ∧ n ≤ 100) ∧ 0 ≤ most ∧ most ≤ 100, FaQ n most)
  | _ => none
theorem sFail_ok : ∀ rest pre Q, sFail rest = some (pre, Q) → pre () → Draws Tryz.prog 13 rest Q := by
  intro rest pre Q h hp
  unfold sFail at h
  split at h
  · cases h; exact d13 _ _ hp.1 hp.2
  · cases h
end Go.Sas
