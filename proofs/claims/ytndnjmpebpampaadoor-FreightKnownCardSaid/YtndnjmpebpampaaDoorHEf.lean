/-
Freight: lists of plans: Contains, Clone.
Freight: all plans are handed out: contract.
Freight: all plans are handed out: contract of the function that grows them.
Freight: what valid freights are; entries of tables.
Conditions: none.
-/
import Derived.Test.YtndnjmpebpampaaDoorHDf
import Derived.Test.YtndnjmpebpampaaDoorP6f
set_option linter.unusedVariables false
set_option linter.unusedSimpArgs false
namespace Go.Sas
open Go.Proofs
set_option maxRecDepth 100000
abbrev natI (k : Nat) : AV := I (iLen k)
def idxN (k : Nat) : List Nat → Int → Int
  | [], _ => -1
  | x :: r, i => if k = x then i else idxN k r (i + 1)
theorem idxN_mem {k : Nat} : ∀ {p : List Nat} {i : Int}, 0 ≤ i → (0 ≤ idxN k p i ↔ k ∈ p)
  | [], _, _ => by simp [idxN]
  | x :: r, i, h => by
    simp only [idxN]
    by_cases h1 : k = x
    · rw [if_pos h1]; simp [h1, h]
    · rw [if_neg h1, idxN_mem (by omega)]; simp [h1]
theorem p66 (p : List Nat) (k : Nat) (hl : p.length ≤ 1000000) (H : AHeap) {Kk : AV → AHeap → Prop} (h : Kk (I (idxN k p 0)) H) : ACalls Tryd.prog 66 [.vs 1 (p.map natI), natI k] H Kk := by
  refine (fun q => pureC (by rfl) (by rfl) q H h) ?_
  clear h
  intro Kk h
  obtain ⟨xs, hxs⟩ : ∃ xs, xs = p.map natI := ⟨_, rfl⟩
  obtain ⟨ik, hik⟩ : ∃ i : Int, i = iLen k := ⟨_, rfl⟩
  show ACalls Tryd.prog 66 [.vs 1 (p.map natI), I (iLen k)] [] Kk
  rw [← hxs, ← hik]
  obtain ⟨W, hW⟩ : ∃ W, W = idxN k p 0 := ⟨_, rfl⟩
  rw [← hW] at h
  obtain ⟨A, hA⟩ : ∃ A, A = std := ⟨_, rfl⟩
  refine go66 rfl (SGo_run hA ⟨[], [], [], []⟩ .nil .nil 200 fun T TD hT hTD => ?_)
  cbv
  rw [hT]
  refine AGo_upE [0, 1, 7] p.length (fun j (_ : Unit) => W = idxN k (p.drop j) (iLen j)) (fun j _ i => [(8, I i)]) (fun _ _ => []) () hW ⟨rfl, trivial⟩ (.inl rfl) fun j _ i hi hj hP Bk hB => ?_
  have hlt : A.lt i (A.vlen xs) = decide (j < p.length) := by subst hA; exact lt_len (by simp [hxs]) hi
  have hadd : ∀ N, j < N → N ≤ 9223372036854775807 → A.add .i64 i 1 = iLen (j + 1) := fun N hj hN => by subst hA; exact add_one hi hj hN
  refine SGo_run hA ⟨[], [], [], []⟩ .nil .nil 200 fun T TD hT hTD => ?_
  cbv
  split <;> cbv
  · rename_i hk0
    have hk1 : j < p.length := by have hz := hlt.symm.trans hk0; simpa using hz
    clear hk0
    obtain ⟨x, hx⟩ : ∃ x, p[j]? = some x := ⟨_, List.getElem?_eq_getElem hk1⟩
    have hix : A.ix 1 1 xs i [I (iLen x)] := by subst hA; exact ix_map hxs hi hx rfl
    obtain ⟨ix, hixx⟩ : ∃ i : Int, i = iLen x := ⟨_, rfl⟩
    rw [← hixx] at hix
    have heq : A.eq ik ix = decide (k = x) := by subst hA; simp only [std, iEq, hik, hixx]; rw [Bool.eq_iff_iff]; unfold iLen; simp only [beq_iff_eq, decide_eq_true_eq]; omega
    rw [drop_cons hx] at hP
    simp only [idxN] at hP
    refine Exists.intro _ (And.intro hix ?_); cbv
    split <;> cbv
    · rename_i hz
      have hz : k = x := by have hz := heq.symm.trans hz; simpa using hz
      rw [if_pos hz] at hP
      exact leaf h (congrArg I (by rw [hP, hi])) rfl
    · rename_i hz
      have hz : ¬ k = x := by have hz := heq.symm.trans hz; simpa using hz
      rw [if_neg hz] at hP
      exact hB () _ _ hk1 hP ⟨congrArg I (hadd _ hk1 (by omega)), trivial⟩ ⟨rfl, rfl, rfl, trivial⟩ (.inl rfl)
  · rename_i hk0
    have hk1 : ¬ j < p.length := by have hz := hlt.symm.trans hk0; simpa using hz
    clear hk0
    rw [List.drop_eq_nil_of_le (by omega)] at hP
    exact leaf h (congrArg I hP) rfl
def eIdx : List AV → Option ((AV → Prop) → Prop)
  | [.vs 1 xs, .lit (.int .i64 n)] => some fun K => ∃ (p : List Nat) (k : Nat), xs = p.map natI ∧ n = iLen k ∧ p.length ≤ 1000000 ∧ ∀ q, q = idxN k p 0 → K (I q)
  | _ => none
theorem eIdx_ok : ∀ args pt, eIdx args = some pt → ∀ (H : AHeap) (Kk : AV → AHeap → Prop), pt (fun r => Kk r H) → ACalls Tryd.prog 66 args H Kk := by
  intro args pt h H Kk hk
  unfold eIdx at h
  split at h
  · cases h
    obtain ⟨p, k, rfl, rfl, h1, h2⟩ := hk
    exact p66 _ _ h1 H (h2 _ rfl)
  · cases h
theorem p53 (p : List Nat) (k : Nat) (hl : p.length ≤ 1000000) (H : AHeap) {Kk : AV → AHeap → Prop} (h : Kk (B (decide (k ∈ p))) H) : ACalls Tryd.prog 53 [.vs 1 (p.map natI), natI k] H Kk := by
  refine (fun q => pureC (by rfl) (by rfl) q H h) ?_
  clear h
  intro Kk h
  obtain ⟨xs, hxs⟩ : ∃ xs, xs = p.map natI := ⟨_, rfl⟩
  obtain ⟨ik, hik⟩ : ∃ i : Int, i = iLen k := ⟨_, rfl⟩
  show ACalls Tryd.prog 53 [.vs 1 (p.map natI), I (iLen k)] [] Kk
  rw [← hxs, ← hik]
  obtain ⟨W, hW⟩ : ∃ W, W = decide (k ∈ p) := ⟨_, rfl⟩
  rw [← hW] at h
  obtain ⟨A, hA⟩ : ∃ A, A = std := ⟨_, rfl⟩
  refine go53 rfl (SGo_run hA ⟨[], [], [(66, eIdx)], []⟩ (.cons eIdx_ok .nil) .nil 200 fun T TD hT hTD => ?_)
  cbv
  refine Exists.intro p (Exists.intro k (And.intro hxs (And.intro hik (And.intro hl ?_))))
  intro q hq; cbv
  refine leaf h (congrArg B ?_) rfl
  subst hA
  rw [hW, hq, Bool.eq_iff_iff]
  simp only [std, iLe, decide_eq_true_eq]
  exact (idxN_mem (Int.le_refl _)).symm
/-- a list that may be none -/
def eContains : List AV → Option ((AV → Prop) → Prop)
  | [x, .lit (.int .i64 n)] => match asVs 1 x with
    | some xs => some fun K => ∃ (p : List Nat) (k : Nat), xs = p.map natI ∧ n = iLen k ∧ p.length ≤ 1000000 ∧ ∀ q, q = decide (k ∈ p) → K (B q)
    | none => none
  | _ => none
theorem eContains_ok : ∀ args pt, eContains args = some pt → ∀ (H : AHeap) (Kk : AV → AHeap → Prop), pt (fun r => Kk r H) → ACalls Tryd.prog 53 args H Kk := by
  intro args pt h H Kk hk
  unfold eContains at h
  split at h
  · split at h
    · rename_i xs hx
      cases h
      obtain ⟨p, k, rfl, rfl, h1, h2⟩ := hk
      exact (p53 _ _ h1 H (h2 _ rfl)).wk ⟨asVs_wk hx, Wk.rfl, trivial⟩
    · cases h
  · cases h
/-- what is handed over is nobody's to write any more -/
theorem ACalls.frz {P : Program} {f : Nat} {args : List AV} {H : AHeap} {K : AV → AHeap → Prop} (id g sz : Nat) {cs : List AV} (xs0 : List AV) (hX : H[id]? = some (.own g cs)) (hE : Elems sz xs0 cs) (h : ACalls P f (AV.frzL id g sz xs0 args) (frzH id g sz xs0 (H.set id .gone)) K) : ACalls P f args H K := by
  refine ⟨h.1, fun st w vals hH hv => ?_⟩
  obtain ⟨st', g1, g2, g3⟩ := freezeAll hH hX hE
  have hr : ∀ {bs : List AV} {us : List Value}, RelL st bs us → RelL st' (AV.frzL id g sz xs0 bs) us := by
    intro bs
    induction bs with
    | nil => intro us hu; simp only [RelL] at hu; subst hu; exact RelL.nil
    | cons a bs ih => intro us hu; obtain ⟨u, us', rfl, h1, h2⟩ := hu.uncons; exact RelL.cons (g3 _ _ h1) (ih h2)
  refine (h.2 st' w vals g2 (hr hv)).mono fun x w' hx => ?_
  obtain ⟨v, r, H', st2, e1, e2, e3, e4, e5⟩ := hx
  exact ⟨v, r, H', st2, e1, g1.trans e2, e3, e4, e5⟩
theorem RetP.both {rs : List ARes} {m : Nat} {Kk : AV → AHeap → Prop} {e : Env} {H : AHeap} {vs : List AV} (h1 : aResL e H rs = some vs) (h : Kk (aTup vs) H) (h' : Kk (aTup vs) (H.take m)) : RetP rs m Kk e H := by
  unfold RetP
  rw [h1]
  dsimp only
  split
  · exact h'
  · exact h
/-- Clone: of none, of a row -/
def eClone : List AV → AHeap → Option PT
  | [.lit (.slice none 0 0)], H => some fun K => K (.lit (.slice none 0 0)) H
  | [.vs 1 xs], H => some fun K => ∃ (p : List Nat), xs = p.map natI ∧ p ≠ [] ∧ p.length ≤ 1000000 ∧ ∀ n, n = p.length → K (.ms 1 H.length 0 0 n) (H ++ [.own 0 xs])
  | _, _ => none
theorem p54r (p : List Nat) (hp : p ≠ []) (hl : p.length ≤ 1000000) (H : AHeap) {Kk : AV → AHeap → Prop} (h : Kk (.ms 1 H.length 0 0 p.length) (H ++ [.own 0 (p.map natI)])) : ACalls Tryd.prog 54 [.vs 1 (p.map natI)] H Kk := by
  have h1 : ACalls Tryd.prog 54 [.vs 1 (p.map natI)] [] fun r H' => r = .ms 1 0 0 0 p.length ∧ H' = [.own 0 (p.map natI)] := by
    clear h Kk
    obtain ⟨Kk, hKk⟩ : ∃ K : AV → AHeap → Prop, K = fun r H' => r = .ms 1 0 0 0 p.length ∧ H' = [.own 0 (p.map natI)] := ⟨_, rfl⟩
    rw [← hKk]
    have hk : Kk (.ms 1 0 0 0 p.length) [.own 0 (p.map natI)] := by rw [hKk]; exact ⟨rfl, rfl⟩
    clear hKk
    obtain ⟨x, q, rfl⟩ : ∃ x q, p = x :: q := by cases p with | nil => exact absurd rfl hp | cons x q => exact ⟨x, q, rfl⟩
    obtain ⟨xs, hxs⟩ : ∃ xs, xs = q.map natI := ⟨_, rfl⟩
    obtain ⟨n, hn⟩ : ∃ n, n = (x :: q).length := ⟨_, rfl⟩
    obtain ⟨ix, hix⟩ : ∃ i, i = natI x := ⟨_, rfl⟩
    rw [← hn] at hk hl
    rw [List.map_cons] at hk ⊢
    rw [← hxs, ← hix] at hk ⊢
    obtain ⟨A, hA⟩ : ∃ A, A = std := ⟨_, rfl⟩
    have hcs : A.app 1 1 8 [] 0 0 (ix :: xs) (ix :: xs) n := by
      subst hA
      have := app_all (sz := 1) (by_ := 8) (n := 0) (cs := []) (c := ix :: xs) (es := ix :: xs) rfl (by
        have := cellsL_map (f := natI) (g := fun k => [natI k]) (fun _ => rfl) (x :: q)
        rw [flat_one] at this
        rw [hxs, hix]; exact this) (by rw [hxs]; simp at hn ⊢; omega)
      show appS _ _ _ _ _ _ _ _ _
      rw [hn]; simpa [hxs] using this
    refine go54 rfl (SGo_run hA ⟨[0], [], [], []⟩ .nil .nil 200 fun T TD hT hTD => ?_)
    cbv
    rw [hT]
    refine AGo_val (r := B false) rfl rfl ?_
    refine SGo_run hA ⟨[0], [], [], []⟩ .nil .nil 200 fun T TD hT hTD => ?_
    cbv
    refine Exists.intro (ix :: xs) (Exists.intro n (And.intro hcs (And.intro rfl ?_))); cbv
    exact hk
  have h2 := ACalls.frame (H := H) [] h1 List.nodup_nil rfl (AV.ltL_nid (by simp [AV.nidL, AV.nid])) (by simp [ltH]) (fun k X hk => by simp at hk)
  rw [AV.renL_nid (by simp [AV.nidL, AV.nid])] at h2
  refine h2.mono fun r H' hx => ?_
  obtain ⟨r0, H1, ⟨rfl, rfl⟩, _, rfl, rfl⟩ := hx
  have hn : AV.renL [H.length] (p.map natI) = p.map natI := AV.renL_nid (nidL_map (fun _ => rfl) p)
  simpa [merge, updL, more, AV.ren, AV.renL, at_, AObj.ren, List.range', hn] using h
theorem eClone_ok : ∀ args H pt, eClone args H = some pt → ∀ (Kk : AV → AHeap → Prop), pt Kk → ACalls Tryd.prog 54 args H Kk := by
  intro args H pt h Kk hk
  unfold eClone at h
  split at h
  · cases h
    have h1 : ACalls Tryd.prog 54 [.lit (.slice none 0 0)] [] fun r H' => r = .lit (.slice none 0 0) ∧ H' = [] := by
      clear hk
      obtain ⟨Kk, hKk⟩ : ∃ K : AV → AHeap → Prop, K = fun r H' => r = .lit (.slice none 0 0) ∧ H' = [] := ⟨_, rfl⟩
      rw [← hKk]
      have hk : Kk (.lit (.slice none 0 0)) [] := by rw [hKk]; exact ⟨rfl, rfl⟩
      clear hKk
      obtain ⟨A, hA⟩ : ∃ A, A = std := ⟨_, rfl⟩
      refine go54 rfl (SGo_run hA ⟨[], [], [], []⟩ .nil .nil 200 fun T TD hT hTD => ?_)
      cbv
      rw [hT]
      refine AGo_val (r := B true) rfl rfl ?_
      refine SGo_run hA ⟨[0], [], [], []⟩ .nil .nil 200 fun T TD hT hTD => ?_
      cbv
      exact hk
    exact liftP h1 rfl rfl H hk
  · cases h
    obtain ⟨p, rfl, h1, h2, h3⟩ := hk
    exact p54r p h1 h2 H (h3 _ rfl)
  · cases h
end Go.Sas
namespace Go.Sas
open Go.Proofs
set_option maxRecDepth 100000
/-- the plans that go on from a list -/
def growP (n : Nat) : Nat → List Nat → List (List Nat)
  | 0, p => [p]
  | f + 1, p => (List.range n).flatMap fun x => if x ∈ p then [] else growP n f (p ++ [x])
abbrev plH (c0 c3 : List AV) (pa na : AV) (n : Nat) (lp : Obj) (us : List Value) : AHeap :=
  [.own 0 c0, .own 0 [pa], .own 0 [na], .own 0 c3, .own 0 [natI n], .raw 0 lp [.mp 1 0 0, .mp 2 0 0, .mp 3 0 0] us, .own 0 [.yl 5 0], .own 0 [.fn 52 [.mp 4 0 0, .mp 6 0 0, .mp 7 0 0]]]
theorem RetP.take {rs : List ARes} {m : Nat} {Kk : AV → AHeap → Prop} {e : Env} {H : AHeap} {vs : List AV} (h1 : aResL e H rs = some vs) (hv : AV.ltB m (aTup vs) = true) (hl : ltHB m (H.take m) = true) (h' : Kk (aTup vs) (H.take m)) : RetP rs m Kk e H := by
  unfold RetP
  rw [h1]
  dsimp only
  rw [if_pos (by rw [hv, hl]; rfl)]
  exact h'
theorem plH_call {c0 c3 : List AV} {pa na pa' na' pv : AV} {n : Nat} {lp : Obj} {us : List Value} (h0 : AV.nidL c0 = true) (h3 : AV.nidL c3 = true) (hp : pa.nid = true) (hn : na.nid = true) (hp' : pa'.nid = true) (hn' : na'.nid = true) (hv : pv.nid = true)
    (h : ACalls Tryd.prog 52 [pv, .mp 4 0 0, .mp 6 0 0, .mp 7 0 0] (plH c0 c3 pa na n lp us) fun r H' => r = B true ∧ H' = plH c0 c3 pa' na' n lp us) (T : AHeap) :
    ACalls Tryd.prog 52 [pv, .mp 4 0 0, .mp 6 0 0, .mp 7 0 0] (plH c0 c3 pa na n lp us ++ T) fun r H' => r = B true ∧ H' = plH c0 c3 pa' na' n lp us ++ T := by
  have h2 := ACalls.frame (H := plH c0 c3 pa na n lp us ++ T) [0, 1, 2, 3, 4, 5, 6, 7] h (by decide) rfl (by simp [AV.ltL, AV.lt, AV.lt_nid hv]) (by simp [ltH, AObj.lt, AV.ltL, AV.lt, AV.ltL_nid h0, AV.ltL_nid h3, AV.lt_nid hp, AV.lt_nid hn]) (fun k X hk => by
    match k, hk with
    | 0, hk => cases hk; simp [at_, AObj.ren, AV.renL_nid h0]
    | 1, hk => cases hk; simp [at_, AObj.ren, AV.renL, AV.ren_nid hp]
    | 2, hk => cases hk; simp [at_, AObj.ren, AV.renL, AV.ren_nid hn]
    | 3, hk => cases hk; simp [at_, AObj.ren, AV.renL_nid h3]
    | 4, hk => cases hk; simp [at_, AObj.ren, AV.renL, AV.ren]
    | 5, hk => cases hk; simp [at_, AObj.ren, AV.renL, AV.ren]
    | 6, hk => cases hk; simp [at_, AObj.ren, AV.renL, AV.ren]
    | 7, hk => cases hk; simp [at_, AObj.ren, AV.renL, AV.ren]
    | k + 8, hk => simp at hk)
  have e1 : AV.renL [0, 1, 2, 3, 4, 5, 6, 7] [pv, .mp 4 0 0, .mp 6 0 0, .mp 7 0 0] = [pv, .mp 4 0 0, .mp 6 0 0, .mp 7 0 0] := by simp [AV.renL, AV.ren, at_, AV.ren_nid hv]
  rw [e1] at h2
  refine h2.mono fun r H' hx => ?_
  obtain ⟨r0, H1, ⟨rfl, rfl⟩, _, rfl, rfl⟩ := hx
  refine ⟨rfl, ?_⟩
  simp [merge, updL, more, AObj.ren, AV.renL, AV.ren, at_, AV.renL_nid h0, AV.renL_nid h3, AV.ren_nid hp', AV.ren_nid hn']
theorem foldl_range_flat {α β : Type} {f : β → α → β} {g : Nat → List α} {b : β} {j : Nat} : ((List.range (j + 1)).flatMap g).foldl f b = (g j).foldl f (((List.range j).flatMap g).foldl f b) := by
  rw [List.range_succ, List.flatMap_append, List.foldl_append]; simp
theorem ite_both {c p : Prop} {d : Decidable c} (h : p) : @ite _ c d p p := by split <;> exact h
theorem plH_sub {c0 c3 : List AV} {pb nb : AV} {iN : Int} {lp : Obj} {us : List Value} {X : AHeap} :
    SubH [.own 0 c0, .own 0 [], .own 0 [], .own 0 c3, .own 0 [I iN], .raw 0 lp [.mp 1 0 0, .mp 2 0 0, .mp 3 0 0] us, .own 0 [.yl 5 0], .own 0 [.fn 52 [.mp 4 0 0, .mp 6 0 0, .mp 7 0 0]]]
      (.own 0 c0 :: .own 0 [pb] :: .own 0 [nb] :: .own 0 c3 :: .own 0 [I iN] :: .raw 0 lp [.mp 1 0 0, .mp 2 0 0, .mp 3 0 0] us :: .own 0 [.yl 5 0] :: .own 0 [.fn 52 [.mp 4 0 0, .mp 6 0 0, .mp 7 0 0]] :: X) := by
  rcases c0 with _ | ⟨_, _⟩ <;> rcases c3 with _ | ⟨_, _⟩ <;> simp [SubH]
end Go.Sas
namespace Go.Sas
open Go.Proofs
set_option maxRecDepth 100000
/-- what a round does: which plan is best so far, and what it costs -/
structure Rnd where
  σ : Type
  pa : σ → AV
  na : σ → AV
  stp : σ → List Nat → σ
  hp : ∀ s, (pa s).nid = true
  hn : ∀ s, (na s).nid = true
theorem p52 (r : Rnd) {c0 c3 : List AV} {n : Nat} {lp : Obj} {us : List Value} (hn6 : n ≤ 6) (h0 : AV.nidL c0 = true) (h3 : AV.nidL c3 = true)
    (hY : ∀ s p, p.length = n → (∀ k ∈ p, k < n) → p ≠ [] → AYields Tryd.prog 5 [.vs 1 (p.map natI)] (plH c0 c3 (r.pa s) (r.na s) n lp us) fun v H' => v = B true ∧ H' = plH c0 c3 (r.pa (r.stp s p)) (r.na (r.stp s p)) n lp us) :
    ∀ f p, p ≠ [] → p.length + f = n → (∀ k ∈ p, k < n) → ∀ s, ACalls Tryd.prog 52 [.vs 1 (p.map natI), .mp 4 0 0, .mp 6 0 0, .mp 7 0 0] (plH c0 c3 (r.pa s) (r.na s) n lp us)
      fun v H' => v = B true ∧ H' = plH c0 c3 (r.pa ((growP n f p).foldl r.stp s)) (r.na ((growP n f p).foldl r.stp s)) n lp us := by
  intro f
  induction f with
  | zero =>
    intro p hp hl hk s
    have hlen : p.length = n := by omega
    have hy := hY s p hlen hk hp
    obtain ⟨ps, hps⟩ : ∃ ps, ps = p.map natI := ⟨_, rfl⟩
    obtain ⟨Kk, hKk⟩ : ∃ K : AV → AHeap → Prop, K = fun v H' => v = B true ∧ H' = plH c0 c3 (r.pa ((growP n 0 p).foldl r.stp s)) (r.na ((growP n 0 p).foldl r.stp s)) n lp us := ⟨_, rfl⟩
    rw [← hKk]
    have hk2 : Kk (B true) (plH c0 c3 (r.pa (r.stp s p)) (r.na (r.stp s p)) n lp us) := by rw [hKk]; exact ⟨rfl, rfl⟩
    have hpa := r.hp (r.stp s p)
    have hna := r.hn (r.stp s p)
    rw [← hps] at hy ⊢
    clear hKk hY
    obtain ⟨pa, hpa'⟩ : ∃ x, x = r.pa s := ⟨_, rfl⟩
    obtain ⟨na, hna'⟩ : ∃ x, x = r.na s := ⟨_, rfl⟩
    obtain ⟨pb, hpb'⟩ : ∃ x, x = r.pa (r.stp s p) := ⟨_, rfl⟩
    obtain ⟨nb, hnb'⟩ : ∃ x, x = r.na (r.stp s p) := ⟨_, rfl⟩
    rw [← hpa', ← hna', ← hpb', ← hnb'] at hy
    rw [← hpb', ← hnb'] at hk2
    rw [← hpa', ← hna']
    obtain ⟨iN, hiN⟩ : ∃ i : Int, i = iLen n := ⟨_, rfl⟩
    have hy2 : AYields Tryd.prog 5 [.vs 1 ps] [.own 0 c0, .own 0 [pa], .own 0 [na], .own 0 c3, .own 0 [I iN], .raw 0 lp [.mp 1 0 0, .mp 2 0 0, .mp 3 0 0] us, .own 0 [.yl 5 0], .own 0 [.fn 52 [.mp 4 0 0, .mp 6 0 0, .mp 7 0 0]]] fun v H' => v = B true ∧ H' = [.own 0 c0, .own 0 [pb], .own 0 [nb], .own 0 c3, .own 0 [I iN], .raw 0 lp [.mp 1 0 0, .mp 2 0 0, .mp 3 0 0] us, .own 0 [.yl 5 0], .own 0 [.fn 52 [.mp 4 0 0, .mp 6 0 0, .mp 7 0 0]]] := by rw [hiN]; exact hy
    have hk3 : Kk (B true) [.own 0 c0, .own 0 [pb], .own 0 [nb], .own 0 c3, .own 0 [I iN], .raw 0 lp [.mp 1 0 0, .mp 2 0 0, .mp 3 0 0] us, .own 0 [.yl 5 0], .own 0 [.fn 52 [.mp 4 0 0, .mp 6 0 0, .mp 7 0 0]]] := by rw [hiN]; exact hk2
    show ACalls Tryd.prog 52 [.vs 1 ps, .mp 4 0 0, .mp 6 0 0, .mp 7 0 0] [.own 0 c0, .own 0 [pa], .own 0 [na], .own 0 c3, .own 0 [I (iLen n)], .raw 0 lp [.mp 1 0 0, .mp 2 0 0, .mp 3 0 0] us, .own 0 [.yl 5 0], .own 0 [.fn 52 [.mp 4 0 0, .mp 6 0 0, .mp 7 0 0]]] Kk
    rw [← hiN]
    obtain ⟨A, hA⟩ : ∃ A, A = std := ⟨_, rfl⟩
    have heq : A.eq (A.vlen ps) iN = true := by subst hA; simp only [std, iEq, hps, hiN]; unfold iLen; simp [hlen]
    refine go52 rfl (SGo_run hA ⟨[], [], [], []⟩ .nil .nil 200 fun T TD hT hTD => ?_)
    cbv
    split <;> cbv
    · rw [hT]
      refine AGo_yield (id := 5) (gg := 0) rfl rfl rfl rfl ?_
      refine hy2.mono fun v H' hx => ?_
      obtain ⟨rfl, rfl⟩ := hx
      refine SGo_run hA ⟨[], [], [], []⟩ .nil .nil 200 fun T TD hT hTD => ?_
      cbv
      exact ite_both hk3
    · rename_i hz; exact Bool.noConfusion (hz.symm.trans heq)
  | succ f ih =>
    intro p hp hl hk s
    have hlen : p.length ≠ n := by omega
    obtain ⟨ps, hps⟩ : ∃ ps, ps = p.map natI := ⟨_, rfl⟩
    obtain ⟨Kk, hKk⟩ : ∃ K : AV → AHeap → Prop, K = fun v H' => v = B true ∧ H' = plH c0 c3 (r.pa ((growP n (f + 1) p).foldl r.stp s)) (r.na ((growP n (f + 1) p).foldl r.stp s)) n lp us := ⟨_, rfl⟩
    rw [← hKk]
    have hk2 : Kk (B true) (plH c0 c3 (r.pa ((growP n (f + 1) p).foldl r.stp s)) (r.na ((growP n (f + 1) p).foldl r.stp s)) n lp us) := by rw [hKk]; exact ⟨rfl, rfl⟩
    clear hKk hY
    rw [← hps]
    obtain ⟨pa, hpa⟩ : ∃ x, x = r.pa s := ⟨_, rfl⟩
    obtain ⟨na, hna⟩ : ∃ x, x = r.na s := ⟨_, rfl⟩
    rw [← hpa, ← hna]
    obtain ⟨iN, hiN⟩ : ∃ i : Int, i = iLen n := ⟨_, rfl⟩
    show ACalls Tryd.prog 52 [.vs 1 ps, .mp 4 0 0, .mp 6 0 0, .mp 7 0 0] [.own 0 c0, .own 0 [pa], .own 0 [na], .own 0 c3, .own 0 [I (iLen n)], .raw 0 lp [.mp 1 0 0, .mp 2 0 0, .mp 3 0 0] us, .own 0 [.yl 5 0], .own 0 [.fn 52 [.mp 4 0 0, .mp 6 0 0, .mp 7 0 0]]] Kk
    rw [← hiN]
    obtain ⟨A, hA⟩ : ∃ A, A = std := ⟨_, rfl⟩
    have heq : A.eq (A.vlen ps) iN = false := by subst hA; simp only [std, iEq, hps, hiN]; unfold iLen; simp; omega
    have hnot : ∀ b, A.bnot b = !b := by subst hA; intro b; rfl
    have hsg : ∀ g, A.sg g g := by subst hA; exact fun _ => rfl
    refine go52 rfl (SGo_run hA ⟨[], [], [], []⟩ .nil .nil 200 fun T TD hT hTD => ?_)
    cbv
    split <;> cbv
    · rename_i hz; exact Bool.noConfusion (hz.symm.trans heq)
    rw [hT]
    obtain ⟨st, hst⟩ : ∃ st : Nat → r.σ, st = fun j => ((List.range j).flatMap fun x => if x ∈ p then [] else growP n f (p ++ [x])).foldl r.stp s := ⟨_, rfl⟩
    have hst1 : ∀ j, st (j + 1) = (if j ∈ p then [] else growP n f (p ++ [j])).foldl r.stp (st j) := fun j => by rw [hst]; exact foldl_range_flat
    have hst0 : st 0 = s := by rw [hst]; rfl
    have hstn : st n = (growP n (f + 1) p).foldl r.stp s := by rw [hst]; rfl
    rw [← hstn] at hk2
    clear hst
    refine AGo_upE [0, 3, 14] n (fun j (_ : Unit) => True) (fun j _ i => [(15, I i)])
      (fun j _ => [.own 0 c0, .own 0 [r.pa (st j)], .own 0 [r.na (st j)], .own 0 c3, .own 0 [I iN], .raw 0 lp [.mp 1 0 0, .mp 2 0 0, .mp 3 0 0] us, .own 0 [.yl 5 0], .own 0 [.fn 52 [.mp 4 0 0, .mp 6 0 0, .mp 7 0 0]]]) () trivial ⟨rfl, trivial⟩ (.inl (by rw [hst0, hpa, hna])) fun j _ i hi hj _ Bk hB => ?_
    have hlt : A.lt i iN = decide (j < n) := by subst hA; simp only [std, iLt, hi, hiN]; rw [Bool.eq_iff_iff]; unfold iLen; simp only [decide_eq_true_eq]; omega
    have hadd : ∀ N, j < N → N ≤ 9223372036854775807 → A.add .i64 i 1 = iLen (j + 1) := fun N hj hN => by subst hA; exact add_one hi hj hN
    obtain ⟨pb, hpb⟩ : ∃ x, x = r.pa (st j) := ⟨_, rfl⟩
    obtain ⟨nb, hnb⟩ : ∃ x, x = r.na (st j) := ⟨_, rfl⟩
    dsimp only
    rw [← hpb, ← hnb]
    refine SGo_run hA ⟨[8], [1, 2, 1000029], (53, eContains) :: [], (54, eClone) :: []⟩ (.cons eContains_ok .nil) (.cons eClone_ok .nil) 200 fun T TD hT hTD => ?_
    cbv
    split <;> cbv
    · rename_i hk0
      have hk1 : j < n := by have hz := hlt.symm.trans hk0; simpa using hz
      clear hk0
      refine Exists.intro p (Exists.intro j (And.intro hps (And.intro hi (And.intro (by omega) ?_))))
      intro q hq; cbv
      split <;> cbv
      · rename_i hz
        refine Exists.intro p (And.intro hps (And.intro hp (And.intro (by omega) ?_)))
        intro m hm; cbv
        refine And.intro (by subst hA; exact .inr ⟨plH_sub, trivial, .inr fun _ => plH_sub⟩) ?_
        have happ : A.app 1 1 8 ps 0 m [I i] (ps ++ [I i]) (m + 1) := by subst hA; exact app_one (by rw [hps, hm]; simp) rfl (by omega)
        refine And.intro (hsg _) (Exists.intro _ (Exists.intro (m + 1) (And.intro happ (And.intro rfl ?_))))
        generalize hps2 : ps ++ _ = ps2
        cbv
        refine And.intro (by subst hA; exact .inr ⟨plH_sub, trivial, .inr fun _ => plH_sub⟩) ?_
        rw [hTD]
        have hjp : j ∉ p := fun hm2 => by have hz := (hnot q).symm.trans hz; rw [hq] at hz; simp [hm2] at hz
        have hps3 : ps2 = (p ++ [j]).map natI := by rw [← hps2, hps, hi]; simp
        have hE : Elems 1 ps2 ps2 := by
          rw [hps3]
          have := Elems_I ((p ++ [j]).map iLen)
          rw [List.map_map] at this; exact this
        have hc := ih (p ++ [j]) (by simp) (by simp; omega) (fun k hk9 => by
          rcases List.mem_append.1 hk9 with hk9 | hk9
          · exact hk k hk9
          · simp at hk9; omega) (st j)
        have hsj := hst1 j
        rw [if_neg hjp] at hsj
        rw [← hsj, ← hps3, ← hpb, ← hnb] at hc
        have hc2 := plH_call h0 h3 (by rw [hpb]; exact r.hp _) (by rw [hnb]; exact r.hn _) (r.hp _) (r.hn _) rfl hc [.gone]
        refine DGo_call rfl rfl ?_
        refine ACalls.frz 8 1 1 ps2 rfl hE ?_
        have hHe : frzH 8 1 1 ps2 (List.set [.own 0 c0, .own 0 [pb], .own 0 [nb], .own 0 c3, .own 0 [I iN], .raw 0 lp [.mp 1 0 0, .mp 2 0 0, .mp 3 0 0] us, .own 0 [.yl 5 0], .own 0 [.fn 52 [.mp 4 0 0, .mp 6 0 0, .mp 7 0 0]], .own 1 ps2] 8 .gone) = plH c0 c3 pb nb n lp us ++ [.gone] := by
          rw [hiN]
          simp [frzH, AObj.frz, AV.frzL_nid h0, AV.frzL_nid h3, AV.frzL, AV.frz, AV.frz_nid (show pb.nid = true by rw [hpb]; exact r.hp _), AV.frz_nid (show nb.nid = true by rw [hnb]; exact r.hn _)]
        have hAe : AV.frzL 8 1 1 ps2 [.ms 1 8 1 0 (m + 1), .mp 4 0 0, .mp 6 0 0, .mp 7 0 0] = [.vs 1 ps2, .mp 4 0 0, .mp 6 0 0, .mp 7 0 0] := by
          have : AV.frz 8 1 1 ps2 (.ms 1 8 1 0 (m + 1)) = .vs 1 ps2 := frz_self (by rw [hps3, hm]; simp)
          simp only [AV.frzL]; rw [this]; simp [AV.frz]
        show ACalls Tryd.prog 52 (AV.frzL 8 1 1 ps2 [.ms 1 8 1 0 (m + 1), .mp 4 0 0, .mp 6 0 0, .mp 7 0 0]) (frzH 8 1 1 ps2 (List.set [.own 0 c0, .own 0 [pb], .own 0 [nb], .own 0 c3, .own 0 [I iN], .raw 0 lp [.mp 1 0 0, .mp 2 0 0, .mp 3 0 0] us, .own 0 [.yl 5 0], .own 0 [.fn 52 [.mp 4 0 0, .mp 6 0 0, .mp 7 0 0]], .own 1 ps2] 8 .gone)) _
        rw [hHe, hAe]
        refine hc2.mono fun v H' hx => ?_
        obtain ⟨rfl, rfl⟩ := hx
        refine ⟨.inr ⟨by rw [hiN]; exact plH_sub, trivial, .inr fun _ => by rw [hiN]; exact plH_sub⟩, ?_⟩
        obtain ⟨pc, hpc⟩ : ∃ x, x = r.pa (st (j + 1)) := ⟨_, rfl⟩
        obtain ⟨nc, hnc⟩ : ∃ x, x = r.na (st (j + 1)) := ⟨_, rfl⟩
        rw [← hpc, ← hnc]
        show DGo _ _ _ _ _ _ _ [.own 0 c0, .own 0 [pc], .own 0 [nc], .own 0 c3, .own 0 [I (iLen n)], .raw 0 lp [.mp 1 0 0, .mp 2 0 0, .mp 3 0 0] us, .own 0 [.yl 5 0], .own 0 [.fn 52 [.mp 4 0 0, .mp 6 0 0, .mp 7 0 0]], .gone]
        rw [← hiN]
        refine SD_run hA ⟨[], [], [], []⟩ .nil .nil 200 200 (fun D' hD' => by cases hD'; exact ⟨plH_sub, trivial⟩) fun T TD hT hTD => ?_
        cbv
        split
        · rename_i hz; exact Bool.noConfusion (hz.symm.trans (hnot true))
        cbv
        refine hB () _ _ hk1 trivial ⟨congrArg I (hadd _ hk1 (by omega)), trivial⟩ ⟨rfl, rfl, rfl, trivial⟩ (.inr ⟨⟨[.gone], by rw [hpc, hnc]; rfl⟩, by simp, by simp [ltG, keepS, look, gset, AV.lt, AV.ltL], ?_⟩)
        simp [ltH, AObj.lt, AV.ltL, AV.lt, AV.ltL_nid h0, AV.ltL_nid h3, AV.lt_nid (r.hp _), AV.lt_nid (r.hn _)]
      · rename_i hz
        have hjp : j ∈ p := by have hz := (hnot q).symm.trans hz; rw [hq] at hz; simpa using hz
        have hsj := hst1 j
        rw [if_pos hjp] at hsj
        have hsj : st (j + 1) = st j := hsj
        rw [hTD]
        refine SD_run hA ⟨[], [], [], []⟩ .nil .nil 200 200 (fun D' hD' => by cases hD'; exact ⟨plH_sub, trivial⟩) fun T TD hT hTD => ?_
        cbv
        refine hB () _ _ hk1 trivial ⟨congrArg I (hadd _ hk1 (by omega)), trivial⟩ ⟨rfl, rfl, rfl, trivial⟩ (.inl (by rw [hsj, hpb, hnb]))
    · rename_i hk0
      have hk1 : ¬ j < n := by have hz := hlt.symm.trans hk0; simpa using hz
      clear hk0
      have : j = n := by omega
      subst this
      rw [← hpb, ← hnb] at hk2
      exact ite_both (by rw [hiN]; exact hk2)
theorem p52n (r : Rnd) {c0 c3 : List AV} {n f : Nat} {lp : Obj} {us : List Value} (hn6 : n ≤ 6) (hf : f + 1 = n) (h0 : AV.nidL c0 = true) (h3' : AV.nidL c3 = true)
    (hY : ∀ s p, p.length = n → (∀ k ∈ p, k < n) → p ≠ [] → AYields Tryd.prog 5 [.vs 1 (p.map natI)] (plH c0 c3 (r.pa s) (r.na s) n lp us) fun v H' => v = B true ∧ H' = plH c0 c3 (r.pa (r.stp s p)) (r.na (r.stp s p)) n lp us) :
    ∀ s, ACalls Tryd.prog 52 [.lit (.slice none 0 0), .mp 4 0 0, .mp 6 0 0, .mp 7 0 0] (plH c0 c3 (r.pa s) (r.na s) n lp us)
      fun v H' => v = B true ∧ H' = plH c0 c3 (r.pa ((growP n n []).foldl r.stp s)) (r.na ((growP n n []).foldl r.stp s)) n lp us := by
  have hg : growP n n [] = growP n (f + 1) [] := by rw [hf]
  rw [hg]
  intro s
  obtain ⟨p, hpp⟩ : ∃ p : List Nat, p = [] := ⟨_, rfl⟩
  have hk : ∀ k ∈ p, k < n := by rw [hpp]; simp
  have ih := fun p h1 h2 h3 s => p52 r hn6 h0 h3' hY f p h1 h2 h3 s
  obtain ⟨Kk, hKk⟩ : ∃ K : AV → AHeap → Prop, K = fun v H' => v = B true ∧ H' = plH c0 c3 (r.pa ((growP n (f + 1) []).foldl r.stp s)) (r.na ((growP n (f + 1) []).foldl r.stp s)) n lp us := ⟨_, rfl⟩
  rw [← hKk]
  have hk2 : Kk (B true) (plH c0 c3 (r.pa ((growP n (f + 1) []).foldl r.stp s)) (r.na ((growP n (f + 1) []).foldl r.stp s)) n lp us) := by rw [hKk]; exact ⟨rfl, rfl⟩
  clear hKk
  obtain ⟨pa, hpa⟩ : ∃ x, x = r.pa s := ⟨_, rfl⟩
  obtain ⟨na, hna⟩ : ∃ x, x = r.na s := ⟨_, rfl⟩
  rw [← hpa, ← hna]
  obtain ⟨iN, hiN⟩ : ∃ i : Int, i = iLen n := ⟨_, rfl⟩
  show ACalls Tryd.prog 52 [.lit (.slice none 0 0), .mp 4 0 0, .mp 6 0 0, .mp 7 0 0] [.own 0 c0, .own 0 [pa], .own 0 [na], .own 0 c3, .own 0 [I (iLen n)], .raw 0 lp [.mp 1 0 0, .mp 2 0 0, .mp 3 0 0] us, .own 0 [.yl 5 0], .own 0 [.fn 52 [.mp 4 0 0, .mp 6 0 0, .mp 7 0 0]]] Kk
  rw [← hiN]
  obtain ⟨A, hA⟩ : ∃ A, A = std := ⟨_, rfl⟩
  have heq : A.eq 0 iN = false := by subst hA; simp only [std, iEq, hiN]; unfold iLen; simp; omega
  have hnot : ∀ b, A.bnot b = !b := by subst hA; intro b; rfl
  have hsg : ∀ g, A.sg g g := by subst hA; exact fun _ => rfl
  refine go52 rfl (SGo_run hA ⟨[], [], [], []⟩ .nil .nil 200 fun T TD hT hTD => ?_)
  cbv
  split <;> cbv
  · rename_i hz; exact Bool.noConfusion (hz.symm.trans heq)
  rw [hT]
  obtain ⟨st, hst⟩ : ∃ st : Nat → r.σ, st = fun j => ((List.range j).flatMap fun x => if x ∈ p then [] else growP n f (p ++ [x])).foldl r.stp s := ⟨_, rfl⟩
  have hst1 : ∀ j, st (j + 1) = (if j ∈ p then [] else growP n f (p ++ [j])).foldl r.stp (st j) := fun j => by rw [hst]; exact foldl_range_flat
  have hst0 : st 0 = s := by rw [hst]; rfl
  have hstn : st n = (growP n (f + 1) []).foldl r.stp s := by rw [hst, hpp]; rfl
  rw [← hstn] at hk2
  clear hst
  refine AGo_upE [0, 3, 14] n (fun j (_ : Unit) => True) (fun j _ i => [(15, I i)])
    (fun j _ => [.own 0 c0, .own 0 [r.pa (st j)], .own 0 [r.na (st j)], .own 0 c3, .own 0 [I iN], .raw 0 lp [.mp 1 0 0, .mp 2 0 0, .mp 3 0 0] us, .own 0 [.yl 5 0], .own 0 [.fn 52 [.mp 4 0 0, .mp 6 0 0, .mp 7 0 0]]]) () trivial ⟨rfl, trivial⟩ (.inl (by rw [hst0, hpa, hna])) fun j _ i hi hj _ Bk hB => ?_
  have hlt : A.lt i iN = decide (j < n) := by subst hA; simp only [std, iLt, hi, hiN]; rw [Bool.eq_iff_iff]; unfold iLen; simp only [decide_eq_true_eq]; omega
  have hadd : ∀ N, j < N → N ≤ 9223372036854775807 → A.add .i64 i 1 = iLen (j + 1) := fun N hj hN => by subst hA; exact add_one hi hj hN
  obtain ⟨pb, hpb⟩ : ∃ x, x = r.pa (st j) := ⟨_, rfl⟩
  obtain ⟨nb, hnb⟩ : ∃ x, x = r.na (st j) := ⟨_, rfl⟩
  dsimp only
  rw [← hpb, ← hnb]
  refine SGo_run hA ⟨[8], [1, 2, 1000029], (53, eContains) :: [], (54, eClone) :: []⟩ (.cons eContains_ok .nil) (.cons eClone_ok .nil) 200 fun T TD hT hTD => ?_
  cbv
  split <;> cbv
  · rename_i hk0
    have hk1 : j < n := by have hz := hlt.symm.trans hk0; simpa using hz
    clear hk0
    refine Exists.intro p (Exists.intro j (And.intro (by rw [hpp]; rfl) (And.intro hi (And.intro (by rw [hpp]; simp) ?_))))
    intro q hq; cbv
    split <;> cbv
    · rename_i hz
      refine And.intro (by subst hA; exact .inr ⟨plH_sub, trivial, .inr fun _ => plH_sub⟩) ?_
      have happ : A.app 1 1 8 [] 0 0 [I i] [I i] 1 := by subst hA; exact app_one (n := 0) (cs := []) rfl rfl (by omega)
      refine Exists.intro _ (Exists.intro 1 (And.intro happ (And.intro rfl ?_)))
      obtain ⟨ps2, hps2⟩ : ∃ x, x = [I i] := ⟨_, rfl⟩
      rw [← hps2]
      cbv
      refine And.intro (by subst hA; exact .inr ⟨plH_sub, trivial, .inr fun _ => plH_sub⟩) ?_
      rw [hTD]
      have hjp : j ∉ p := fun hm2 => by have hz := (hnot q).symm.trans hz; rw [hq] at hz; simp [hm2] at hz
      have hps3 : ps2 = (p ++ [j]).map natI := by rw [hps2, hpp, hi]; rfl
      have hE : Elems 1 ps2 ps2 := by
        rw [hps3]
        have := Elems_I ((p ++ [j]).map iLen)
        rw [List.map_map] at this; exact this
      have hc := ih (p ++ [j]) (by simp) (by rw [hpp]; simp; omega) (fun k hk9 => by
        rcases List.mem_append.1 hk9 with hk9 | hk9
        · exact hk k hk9
        · simp at hk9; omega) (st j)
      have hsj := hst1 j
      rw [if_neg hjp] at hsj
      rw [← hsj, ← hps3, ← hpb, ← hnb] at hc
      have hc2 := plH_call h0 h3' (by rw [hpb]; exact r.hp _) (by rw [hnb]; exact r.hn _) (r.hp _) (r.hn _) rfl hc [.gone]
      refine DGo_call rfl rfl ?_
      refine ACalls.frz 8 0 1 ps2 rfl hE ?_
      have hHe : frzH 8 0 1 ps2 (List.set [.own 0 c0, .own 0 [pb], .own 0 [nb], .own 0 c3, .own 0 [I iN], .raw 0 lp [.mp 1 0 0, .mp 2 0 0, .mp 3 0 0] us, .own 0 [.yl 5 0], .own 0 [.fn 52 [.mp 4 0 0, .mp 6 0 0, .mp 7 0 0]], .own 0 ps2] 8 .gone) = plH c0 c3 pb nb n lp us ++ [.gone] := by
        rw [hiN]
        simp [frzH, AObj.frz, AV.frzL_nid h0, AV.frzL_nid h3', AV.frzL, AV.frz, AV.frz_nid (show pb.nid = true by rw [hpb]; exact r.hp _), AV.frz_nid (show nb.nid = true by rw [hnb]; exact r.hn _)]
      have hAe : AV.frzL 8 0 1 ps2 [.ms 1 8 0 0 1, .mp 4 0 0, .mp 6 0 0, .mp 7 0 0] = [.vs 1 ps2, .mp 4 0 0, .mp 6 0 0, .mp 7 0 0] := by
        have : AV.frz 8 0 1 ps2 (.ms 1 8 0 0 1) = .vs 1 ps2 := frz_self (by rw [hps3, hpp]; simp)
        simp only [AV.frzL]; rw [this]; simp [AV.frz]
      show ACalls Tryd.prog 52 (AV.frzL 8 0 1 ps2 [.ms 1 8 0 0 1, .mp 4 0 0, .mp 6 0 0, .mp 7 0 0]) (frzH 8 0 1 ps2 (List.set [.own 0 c0, .own 0 [pb], .own 0 [nb], .own 0 c3, .own 0 [I iN], .raw 0 lp [.mp 1 0 0, .mp 2 0 0, .mp 3 0 0] us, .own 0 [.yl 5 0], .own 0 [.fn 52 [.mp 4 0 0, .mp 6 0 0, .mp 7 0 0]], .own 0 ps2] 8 .gone)) _
      rw [hHe, hAe]
      refine hc2.mono fun v H' hx => ?_
      obtain ⟨rfl, rfl⟩ := hx
      refine ⟨.inr ⟨by rw [hiN]; exact plH_sub, trivial, .inr fun _ => by rw [hiN]; exact plH_sub⟩, ?_⟩
      obtain ⟨pc, hpc⟩ : ∃ x, x = r.pa (st (j + 1)) := ⟨_, rfl⟩
      obtain ⟨nc, hnc⟩ : ∃ x, x = r.na (st (j + 1)) := ⟨_, rfl⟩
      rw [← hpc, ← hnc]
      show DGo _ _ _ _ _ _ _ [.own 0 c0, .own 0 [pc], .own 0 [nc], .own 0 c3, .own 0 [I (iLen n)], .raw 0 lp [.mp 1 0 0, .mp 2 0 0, .mp 3 0 0] us, .own 0 [.yl 5 0], .own 0 [.fn 52 [.mp 4 0 0, .mp 6 0 0, .mp 7 0 0]], .gone]
      rw [← hiN]
      refine SD_run hA ⟨[], [], [], []⟩ .nil .nil 200 200 (fun D' hD' => by cases hD'; exact ⟨plH_sub, trivial⟩) fun T TD hT hTD => ?_
      cbv
      split
      · rename_i hz; exact Bool.noConfusion (hz.symm.trans (hnot true))
      cbv
      refine hB () _ _ hk1 trivial ⟨congrArg I (hadd _ hk1 (by omega)), trivial⟩ ⟨rfl, rfl, rfl, trivial⟩ (.inr ⟨⟨[.gone], by rw [hpc, hnc]; rfl⟩, by simp, by simp [ltG, keepS, look, gset, AV.lt, AV.ltL], ?_⟩)
      simp [ltH, AObj.lt, AV.ltL, AV.lt, AV.ltL_nid h0, AV.ltL_nid h3', AV.lt_nid (r.hp _), AV.lt_nid (r.hn _)]
    · rename_i hz
      have hjp : j ∈ p := by have hz := (hnot q).symm.trans hz; rw [hq] at hz; simpa using hz
      have hsj := hst1 j
      rw [if_pos hjp] at hsj
      have hsj : st (j + 1) = st j := hsj
      rw [hTD]
      refine SD_run hA ⟨[], [], [], []⟩ .nil .nil 200 200 (fun D' hD' => by cases hD'; exact ⟨plH_sub, trivial⟩) fun T TD hT hTD => ?_
      cbv
      refine hB () _ _ hk1 trivial ⟨congrArg I (hadd _ hk1 (by omega)), trivial⟩ ⟨rfl, rfl, rfl, trivial⟩ (.inl (by rw [hsj, hpb, hnb]))
  · rename_i hk0
    have hk1 : ¬ j < n := by have hz := hlt.symm.trans hk0; simpa using hz
    clear hk0
    have : j = n := by omega
    subst this
    rw [← hpb, ← hnb] at hk2
    exact ite_both (by rw [hiN]; exact hk2)
end Go.Sas
namespace Go.Sas
open Go.Proofs
set_option maxRecDepth 100000
theorem firstE_ok0 {α : Type} {f : α → Int} : ∀ {l : List α}, firstE f l = 0 → ∀ x ∈ l, f x = 0
  | [], _, _, hx => by simp at hx
  | a :: l, h, x, hx => by
    simp only [firstE] at h
    by_cases h1 : f a = 0
    · rw [if_pos h1] at h
      rcases List.mem_cons.1 hx with rfl | hx
      · exact h1
      · exact firstE_ok0 h x hx
    · rw [if_neg h1] at h; exact absurd h h1
structure FrtV (f : Frt) : Prop where
  c1 : 1 ≤ f.caps.length
  c2 : f.caps.length ≤ 200
  cb : ∀ x ∈ f.caps, 0 ≤ x.1 ∧ x.1 ≤ x.2 ∧ x.2 ≤ 1000000
  fi : 0 ≤ f.fi.1 ∧ f.fi.1 ≤ f.fi.2 ∧ f.fi.2 ≤ f.caps.length - 1
  la : 0 ≤ f.la.1 ∧ f.la.1 ≤ f.la.2 ∧ f.la.2 ≤ f.caps.length - 1
  o1 : 1 ≤ f.ords.length
  o2 : f.ords.length ≤ 6
  ob : ∀ o ∈ f.ords, (1 ≤ o.u ∧ o.u ≤ 1000000) ∧ (0 ≤ o.d ∧ o.d ≤ 200) ∧ (0 ≤ o.l ∧ o.l ≤ o.s ∧ o.s ≤ 1000000)
theorem faultF_ok {a b lo hi : Int} (h : faultF a b lo hi = 0) : lo ≤ a ∧ a ≤ b ∧ b ≤ hi := by
  unfold faultF at h
  split at h
  · omega
  · split at h <;> omega
theorem ordE_ok {o : Ord} (h : ordE o = 0) : (1 ≤ o.u ∧ o.u ≤ 1000000) ∧ (0 ≤ o.d ∧ o.d ≤ 200) ∧ (0 ≤ o.l ∧ o.l ≤ o.s ∧ o.s ≤ 1000000) := by
  unfold ordE at h
  split at h
  · omega
  · split at h <;> omega
theorem orElse_ok {a b : Int} (h : orElse a b = 0) : a = 0 ∧ b = 0 := by
  unfold orElse at h
  split at h <;> omega
theorem checkF_ok {f : Frt} (h : checkF f = 0) : FrtV f := by
  unfold checkF at h
  split at h
  · omega
  split at h
  · omega
  obtain ⟨h1, h2⟩ := orElse_ok h
  obtain ⟨h2, h3⟩ := orElse_ok h2
  obtain ⟨h3, h4⟩ := orElse_ok h3
  unfold orsF at h4
  split at h4
  · omega
  split at h4
  · omega
  exact ⟨by omega, by omega, fun x hx => faultF_ok (firstE_ok0 h1 x hx), faultF_ok h2, faultF_ok h3, by omega, by omega, fun o ho => ordE_ok (firstE_ok0 h4 o ho)⟩
theorem FrtV.ords {f : Frt} (h : FrtV f) : OrdsV f.ords := fun o ho => by
  obtain ⟨h1, h2, h3⟩ := h.ob o ho
  exact ⟨by omega, h2, by omega, by omega⟩
theorem FrtV.lo {f : Frt} (h : FrtV f) : ∀ x ∈ f.caps.map (·.1), 0 ≤ x ∧ x ≤ 1000000 := fun x hx => by
  obtain ⟨y, hy, rfl⟩ := List.mem_map.1 hx
  have := h.cb y hy; omega
theorem FrtV.hi {f : Frt} (h : FrtV f) : ∀ x ∈ f.caps.map (·.2), 0 ≤ x ∧ x ≤ 1000000 := fun x hx => by
  obtain ⟨y, hy, rfl⟩ := List.mem_map.1 hx
  have := h.cb y hy; omega
def eCheckFr : List AV → Option ((AV → Prop) → Prop)
  | [.agg [.lit (.int .i64 a), .lit (.int .i64 b), .lit (.int .i64 c), .lit (.int .i64 d), .vs 2 xs, .vs 4 ys]] =>
    some fun K => ∃ (cs : List (Int × Int)) (os : List Ord), xs = cs.map sp ∧ ys = os.map orV ∧ cs.length ≤ 9223372036854775807 ∧ os.length ≤ 9223372036854775807 ∧ ∀ q, q = checkF ⟨(a, b), (c, d), cs, os⟩ → K (I q)
  | _ => none
theorem eCheckFr_ok {f : Nat} (hf : ∀ (a b c d : Int) (cs : List (Int × Int)) (os : List Ord) (_ : cs.length ≤ 9223372036854775807) (_ : os.length ≤ 9223372036854775807) (H : AHeap) {Kk : AV → AHeap → Prop}, Kk (I (checkF ⟨(a, b), (c, d), cs, os⟩)) H → ACalls Tryd.prog f [frV a b c d (.vs 2 (cs.map sp)) (.vs 4 (os.map orV))] H Kk) :
    ∀ args pt, eCheckFr args = some pt → ∀ (H : AHeap) (Kk : AV → AHeap → Prop), pt (fun r => Kk r H) → ACalls Tryd.prog f args H Kk := by
  intro args pt h H Kk hk
  unfold eCheckFr at h
  split at h
  · cases h
    obtain ⟨cs, os, rfl, rfl, h1, h2, h3⟩ := hk
    exact hf _ _ _ _ _ _ h1 h2 H (h3 _ rfl)
  · cases h
/-- a season; first: its first day, its last day, what may go -/
def eSea (u v : Int → Int → Int → Int → Int) (w : Int × Int → Int) : List AV → Option ((AV → Prop) → Prop)
  | [.agg [.lit (.int .i64 a), .lit (.int .i64 b), .lit (.int .i64 c), .lit (.int .i64 d), .vs 2 xs, .vs 4 ys]] =>
    some fun K => ∃ (cs : List (Int × Int)), xs = cs.map sp ∧ cs.length ≤ 1000000 ∧ ∀ zs : List AV, zs = (cs.map w).map I → K (seaV a b c d (.vs 2 xs) (.vs 4 ys) (u a b c d) (v a b c d) (.vs 1 zs))
  | _ => none
theorem eWorst_ok : ∀ args pt, eSea (fun _ b _ _ => b) (fun _ _ c _ => c) (·.1) args = some pt → ∀ (H : AHeap) (Kk : AV → AHeap → Prop), pt (fun r => Kk r H) → ACalls Tryd.prog 30 args H Kk := by
  intro args pt h H Kk hk
  unfold eSea at h
  split at h
  · cases h
    obtain ⟨cs, rfl, h1, h2⟩ := hk
    exact p30 _ _ _ _ _ _ h1 H (by have := h2 _ rfl; rwa [List.map_map] at this)
  · cases h
theorem eBest_ok : ∀ args pt, eSea (fun a _ _ _ => a) (fun _ _ _ d => d) (·.2) args = some pt → ∀ (H : AHeap) (Kk : AV → AHeap → Prop), pt (fun r => Kk r H) → ACalls Tryd.prog 28 args H Kk := by
  intro args pt h H Kk hk
  unfold eSea at h
  split at h
  · cases h
    obtain ⟨cs, rfl, h1, h2⟩ := hk
    exact p28 _ _ _ _ _ _ h1 H (by have := h2 _ rfl; rwa [List.map_map] at this)
  · cases h
def ePlans : List AV → AHeap → Option PT
  | [.lit (.int .i64 n)], H => some fun K => ∃ (k : Nat) (i : Int), n = iLen k ∧ i = iLen k ∧ K (.fn 51 [.mp H.length 0 0]) (H ++ [.own 0 [I i]])
  | _, _ => none
theorem ePlans_ok : ∀ args H pt, ePlans args H = some pt → ∀ (Kk : AV → AHeap → Prop), pt Kk → ACalls Tryd.prog 34 args H Kk := by
  intro args H pt h Kk hk
  unfold ePlans at h
  split at h
  · cases h
    obtain ⟨k, i9, rfl, rfl, h9⟩ := hk
    have h1 : ACalls Tryd.prog 34 [natI k] [] fun r H' => r = .fn 51 [.mp 0 0 0] ∧ H' = [.own 0 [natI k]] := by
      clear h9 Kk
      obtain ⟨Kk, hKk⟩ : ∃ K : AV → AHeap → Prop, K = fun r H' => r = .fn 51 [.mp 0 0 0] ∧ H' = [.own 0 [natI k]] := ⟨_, rfl⟩
      rw [← hKk]
      have hk : Kk (.fn 51 [.mp 0 0 0]) [.own 0 [natI k]] := by rw [hKk]; exact ⟨rfl, rfl⟩
      clear hKk
      obtain ⟨ik, hik⟩ : ∃ i : Int, i = iLen k := ⟨_, rfl⟩
      show ACalls Tryd.prog 34 [I (iLen k)] [] Kk
      have hk : Kk (.fn 51 [.mp 0 0 0]) [.own 0 [I (iLen k)]] := hk
      rw [← hik] at hk ⊢
      obtain ⟨A, hA⟩ : ∃ A, A = std := ⟨_, rfl⟩
      refine go34 rfl (SGo_run hA ⟨[], [], [], []⟩ .nil .nil 200 fun T TD hT hTD => ?_)
      cbv
      exact hk
    have h2 := ACalls.frame (H := H) [] h1 List.nodup_nil rfl (AV.ltL_nid (by simp [AV.nidL, AV.nid])) (by simp [ltH]) (fun k X hk => by simp at hk)
    rw [AV.renL_nid (by simp [AV.nidL, AV.nid])] at h2
    refine h2.mono fun r H' hx => ?_
    obtain ⟨r0, H1, ⟨rfl, rfl⟩, _, rfl, rfl⟩ := hx
    simpa [merge, updL, more, AV.ren, AV.renL, at_, AObj.ren, List.range'] using h9
  · cases h
end Go.Sas
