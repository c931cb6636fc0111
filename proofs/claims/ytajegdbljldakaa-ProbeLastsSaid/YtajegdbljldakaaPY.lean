/-
Probe: what lies behind an hour (the reference); short.
Probe: the reference's checkGate: contract.
Conditions: none.
-/
import Derived.Test.YtajegdbljldakaaPK
import Derived.Test.YtajegdbljldakaaQRFg
import Derived.Test.YtajegdbljldakaaPC
import Derived.Test.YtajegdbljldakaaPV
set_option linter.unusedVariables false
set_option linter.unusedSimpArgs false
namespace Go.Sas
open Go.Proofs
set_option maxRecDepth 100000
theorem p90 (l : List Lk) (h0 : Int) (hl : l.length ≤ 1000000) (H : AHeap) {Kk : AV → AHeap → Prop} (h : Kk (.vs 5 ((pastL l h0).map lkV)) H) : ACalls Try.prog 90 [.vs 5 (l.map lkV), I h0] H Kk := by
  refine (fun q => pureF (by simp [AV.nidL, AV.nid, nidL_map (g := lkV) (fun _ => rfl) l]) (by simp [AV.nid, nidL_map (g := lkV) (fun _ => rfl)]) q H h) ?_
  clear h
  intro Kk h
  obtain ⟨ls, hls⟩ : ∃ ys, ys = l.map lkV := ⟨_, rfl⟩
  rw [← hls]
  obtain ⟨F, hF⟩ : ∃ F, F = Frees 0 Kk := ⟨_, rfl⟩
  rw [← hF]
  have hg : ∀ n cs, n = (pastL l h0).length → cs = (pastL l h0).flatMap lkC → F (aTup [.ms 5 0 n 0 n]) [.own n cs] := fun n cs hn hcs => by
    rw [hF, hcs]
    refine Frees.frz 0 n 5 ((pastL l h0).map lkV) rfl (Elems_map (f := lkV) (g := lkC) (sz := 5) (fun _ => rfl) (fun _ => rfl) (fun _ => rfl) _) ?_
    have e : AV.frz 0 n 5 ((pastL l h0).map lkV) (aTup [.ms 5 0 n 0 n]) = .vs 5 ((pastL l h0).map lkV) := frz_self (by simp [hn])
    rw [e]
    exact Frees.drop0 h (by simp [AV.nid, nidL_map (g := lkV) (fun _ => rfl)])
  obtain ⟨A, hA⟩ : ∃ A, A = std := ⟨_, rfl⟩
  have hne : ∀ x y, A.ne x y = decide (x ≠ y) := by subst hA; intro x y; simp only [std, iNe]; rw [Bool.eq_iff_iff]; simp
  have hee : ∀ x y, A.eq x y = decide (x = y) := by subst hA; intro x y; exact iEq_dec _ _
  have hll : ∀ x y, A.lt x y = decide (x < y) := by subst hA; intro x y; rfl
  have hle : ∀ x y, A.le x y = decide (x ≤ y) := by subst hA; intro x y; rfl
  have hnb : ∀ b, A.bnot b = !b := by subst hA; intro b; rfl
  have hbd : ∀ x y, A.band x y = (x && y) := by subst hA; intro x y; rfl
  have hsg : ∀ g, A.sg g g := by subst hA; exact fun _ => rfl
  refine go90 rfl (SGo_run hA ⟨[], [], [], []⟩ .nil .nil 200 fun T TD hT hTD => ?_)
  cbv
  rw [hT]
  refine AGo_nilms 5 5 rfl ?_
  refine AGo_upE [0, 1] l.length (fun j (L : List Lk) => L = pastL (l.take j) h0) (fun j L i => [(5, .ms 5 0 L.length 0 L.length), (6, I i)]) (fun j L => [.own L.length (L.flatMap lkC)]) [] rfl ⟨rfl, rfl, trivial⟩ (.inl rfl) fun j L i hi hj hP Bk hB => ?_
  have hlt : A.lt i (A.vlen ls) = decide (j < l.length) := by subst hA; exact lt_len (by simp [hls]) hi
  have hadd : ∀ N, j < N → N ≤ 9223372036854775807 → A.add .i64 i 1 = iLen (j + 1) := fun N hj hN => by subst hA; exact add_one hi hj hN
  have hLj : L.length ≤ j := by
    rw [hP]; unfold pastL
    exact Nat.le_trans (List.length_filter_le _ _) (by rw [List.length_take]; omega)
  obtain ⟨n, hn⟩ : ∃ n, n = L.length := ⟨_, rfl⟩
  obtain ⟨cs, hcs⟩ : ∃ c, c = L.flatMap lkC := ⟨_, rfl⟩
  have hcl : cs.length = n * 5 := by rw [hcs, hn, len_flat (k := 5) (fun _ => rfl)]
  rw [← hn, ← hcs]
  rw [← hn] at hLj
  refine SGo_run hA ⟨[0], [], [], []⟩ .nil .nil 200 fun T TD hT hTD => ?_
  cbv
  split <;> cbv
  · rename_i hk0
    have hk1 : j < l.length := by have hz := hlt.symm.trans hk0; simpa using hz
    clear hk0
    obtain ⟨⟨k', q', g', u', v'⟩, hx⟩ : ∃ x, l[j]? = some x := ⟨_, List.getElem?_eq_getElem hk1⟩
    have hix : A.ix 5 5 ls i (lkC ⟨k', q', g', u', v'⟩) := by subst hA; exact ix_map hls hi hx rfl
    have hlh : A.le g' h0 = decide (g' ≤ h0) := hle _ _
    have htk : pastL (l.take (j + 1)) h0 = if g' ≤ h0 then L ++ [⟨k', q', g', u', v'⟩] else L := by
      obtain ⟨h8, he⟩ := List.getElem?_eq_some_iff.1 hx
      rw [hP, List.take_succ_eq_append_getElem h8, he]
      unfold pastL
      rw [List.filter_append]
      split
      · rename_i h9; congr 1; simp only [List.filter_cons, List.filter_nil]; rw [if_pos (by simpa using h9)]
      · rename_i h9; simp only [List.filter_cons, List.filter_nil]; rw [if_neg (by simpa using h9), List.append_nil]
    refine Exists.intro _ (And.intro hix ?_); cbv
    split <;> cbv
    · rename_i hz
      have hz := of_decide_eq_true (hlh.symm.trans hz)
      rw [if_pos hz] at htk
      obtain ⟨cs2, hcs2⟩ : ∃ x, x = cs ++ lkC ⟨k', q', g', u', v'⟩ := ⟨_, rfl⟩
      have happ : A.app 5 5 40 cs 0 n [.agg (lkC ⟨k', q', g', u', v'⟩)] cs2 (n + 1) := by subst hA; rw [hcs2]; exact app_one hcl rfl (by omega)
      refine Exists.intro _ (And.intro hix ?_); cbv
      refine And.intro (hsg _) (Exists.intro cs2 (Exists.intro (n + 1) (And.intro happ (And.intro rfl ?_))))
      cbv
      have hLn : ∀ x, (L ++ [x]).length = n + 1 := fun x => by rw [List.length_append, ← hn]; rfl
      refine hB _ _ _ hk1 htk.symm ?_ ⟨rfl, rfl, trivial⟩ (.inl ?_)
      · rw [hLn]; exact And.intro rfl (And.intro (congrArg I (hadd _ hk1 (by omega))) trivial)
      · rw [hLn, List.flatMap_append, ← hcs, hcs2]; rfl
    · rename_i hz
      have hz := of_decide_eq_false (hlh.symm.trans hz)
      rw [if_neg hz] at htk
      refine hB _ _ _ hk1 htk.symm ?_ ⟨rfl, rfl, trivial⟩ (.inl ?_)
      · rw [← hn]; exact ⟨rfl, congrArg I (hadd _ hk1 (by omega)), trivial⟩
      · rw [← hn, ← hcs]
  · rename_i hk0
    have hk1 : ¬ j < l.length := by have hz := hlt.symm.trans hk0; simpa using hz
    clear hk0
    rw [List.take_of_length_le (by omega)] at hP
    exact hg n cs (by rw [hn, hP]) (by rw [hcs, hP])
theorem p91 (l : List Mrk) (h0 : Int) (hl : l.length ≤ 1000000) (H : AHeap) {Kk : AV → AHeap → Prop} (h : Kk (.vs 5 ((pastM l h0).map mkV)) H) : ACalls Try.prog 91 [.vs 5 (l.map mkV), I h0] H Kk := by
  refine (fun q => pureF (by simp [AV.nidL, AV.nid, nidL_map (g := mkV) (fun _ => rfl) l]) (by simp [AV.nid, nidL_map (g := mkV) (fun _ => rfl)]) q H h) ?_
  clear h
  intro Kk h
  obtain ⟨ls, hls⟩ : ∃ ys, ys = l.map mkV := ⟨_, rfl⟩
  rw [← hls]
  obtain ⟨F, hF⟩ : ∃ F, F = Frees 0 Kk := ⟨_, rfl⟩
  rw [← hF]
  have hg : ∀ n cs, n = (pastM l h0).length → cs = (pastM l h0).flatMap mkC → F (aTup [.ms 5 0 n 0 n]) [.own n cs] := fun n cs hn hcs => by
    rw [hF, hcs]
    refine Frees.frz 0 n 5 ((pastM l h0).map mkV) rfl (Elems_map (f := mkV) (g := mkC) (sz := 5) (fun _ => rfl) (fun _ => rfl) (fun _ => rfl) _) ?_
    have e : AV.frz 0 n 5 ((pastM l h0).map mkV) (aTup [.ms 5 0 n 0 n]) = .vs 5 ((pastM l h0).map mkV) := frz_self (by simp [hn])
    rw [e]
    exact Frees.drop0 h (by simp [AV.nid, nidL_map (g := mkV) (fun _ => rfl)])
  obtain ⟨A, hA⟩ : ∃ A, A = std := ⟨_, rfl⟩
  have hne : ∀ x y, A.ne x y = decide (x ≠ y) := by subst hA; intro x y; simp only [std, iNe]; rw [Bool.eq_iff_iff]; simp
  have hee : ∀ x y, A.eq x y = decide (x = y) := by subst hA; intro x y; exact iEq_dec _ _
  have hll : ∀ x y, A.lt x y = decide (x < y) := by subst hA; intro x y; rfl
  have hle : ∀ x y, A.le x y = decide (x ≤ y) := by subst hA; intro x y; rfl
  have hnb : ∀ b, A.bnot b = !b := by subst hA; intro b; rfl
  have hbd : ∀ x y, A.band x y = (x && y) := by subst hA; intro x y; rfl
  have hsg : ∀ g, A.sg g g := by subst hA; exact fun _ => rfl
  refine go91 rfl (SGo_run hA ⟨[], [], [], []⟩ .nil .nil 200 fun T TD hT hTD => ?_)
  cbv
  rw [hT]
  refine AGo_nilms 5 5 rfl ?_
  refine AGo_upE [0, 1] l.length (fun j (L : List Mrk) => L = pastM (l.take j) h0) (fun j L i => [(5, .ms 5 0 L.length 0 L.length), (6, I i)]) (fun j L => [.own L.length (L.flatMap mkC)]) [] rfl ⟨rfl, rfl, trivial⟩ (.inl rfl) fun j L i hi hj hP Bk hB => ?_
  have hlt : A.lt i (A.vlen ls) = decide (j < l.length) := by subst hA; exact lt_len (by simp [hls]) hi
  have hadd : ∀ N, j < N → N ≤ 9223372036854775807 → A.add .i64 i 1 = iLen (j + 1) := fun N hj hN => by subst hA; exact add_one hi hj hN
  have hLj : L.length ≤ j := by
    rw [hP]; unfold pastM
    exact Nat.le_trans (List.length_filter_le _ _) (by rw [List.length_take]; omega)
  obtain ⟨n, hn⟩ : ∃ n, n = L.length := ⟨_, rfl⟩
  obtain ⟨cs, hcs⟩ : ∃ c, c = L.flatMap mkC := ⟨_, rfl⟩
  have hcl : cs.length = n * 5 := by rw [hcs, hn, len_flat (k := 5) (fun _ => rfl)]
  rw [← hn, ← hcs]
  rw [← hn] at hLj
  refine SGo_run hA ⟨[0], [], [], []⟩ .nil .nil 200 fun T TD hT hTD => ?_
  cbv
  split <;> cbv
  · rename_i hk0
    have hk1 : j < l.length := by have hz := hlt.symm.trans hk0; simpa using hz
    clear hk0
    obtain ⟨⟨k', q', g', u', v'⟩, hx⟩ : ∃ x, l[j]? = some x := ⟨_, List.getElem?_eq_getElem hk1⟩
    have hix : A.ix 5 5 ls i (mkC ⟨k', q', g', u', v'⟩) := by subst hA; exact ix_map hls hi hx rfl
    have hlh : A.le u' h0 = decide (u' ≤ h0) := hle _ _
    have htk : pastM (l.take (j + 1)) h0 = if u' ≤ h0 then L ++ [⟨k', q', g', u', v'⟩] else L := by
      obtain ⟨h8, he⟩ := List.getElem?_eq_some_iff.1 hx
      rw [hP, List.take_succ_eq_append_getElem h8, he]
      unfold pastM
      rw [List.filter_append]
      split
      · rename_i h9; congr 1; simp only [List.filter_cons, List.filter_nil]; rw [if_pos (by simpa using h9)]
      · rename_i h9; simp only [List.filter_cons, List.filter_nil]; rw [if_neg (by simpa using h9), List.append_nil]
    refine Exists.intro _ (And.intro hix ?_); cbv
    split <;> cbv
    · rename_i hz
      have hz := of_decide_eq_true (hlh.symm.trans hz)
      rw [if_pos hz] at htk
      obtain ⟨cs2, hcs2⟩ : ∃ x, x = cs ++ mkC ⟨k', q', g', u', v'⟩ := ⟨_, rfl⟩
      have happ : A.app 5 5 40 cs 0 n [.agg (mkC ⟨k', q', g', u', v'⟩)] cs2 (n + 1) := by subst hA; rw [hcs2]; exact app_one hcl rfl (by omega)
      refine Exists.intro _ (And.intro hix ?_); cbv
      refine And.intro (hsg _) (Exists.intro cs2 (Exists.intro (n + 1) (And.intro happ (And.intro rfl ?_))))
      cbv
      have hLn : ∀ x, (L ++ [x]).length = n + 1 := fun x => by rw [List.length_append, ← hn]; rfl
      refine hB _ _ _ hk1 htk.symm ?_ ⟨rfl, rfl, trivial⟩ (.inl ?_)
      · rw [hLn]; exact And.intro rfl (And.intro (congrArg I (hadd _ hk1 (by omega))) trivial)
      · rw [hLn, List.flatMap_append, ← hcs, hcs2]; rfl
    · rename_i hz
      have hz := of_decide_eq_false (hlh.symm.trans hz)
      rw [if_neg hz] at htk
      refine hB _ _ _ hk1 htk.symm ?_ ⟨rfl, rfl, trivial⟩ (.inl ?_)
      · rw [← hn]; exact ⟨rfl, congrArg I (hadd _ hk1 (by omega)), trivial⟩
      · rw [← hn, ← hcs]
  · rename_i hk0
    have hk1 : ¬ j < l.length := by have hz := hlt.symm.trans hk0; simpa using hz
    clear hk0
    rw [List.take_of_length_le (by omega)] at hP
    exact hg n cs (by rw [hn, hP]) (by rw [hcs, hP])
def ePastL : List AV → Option ((AV → Prop) → Prop)
  | [.vs 5 xs, .lit (.int .i64 h)] => some fun K => ∃ l : List Lk, (xs = l.map lkV ∧ l.length ≤ 1000000) ∧ ∀ ys, ys = (pastL l h).map lkV → K (.vs 5 ys)
  | _ => none
theorem ePastL_ok : ∀ args pt, ePastL args = some pt → ∀ (H : AHeap) (Kk : AV → AHeap → Prop), pt (fun r => Kk r H) → ACalls Try.prog 90 args H Kk := by
  intro args pt h H Kk hk
  unfold ePastL at h
  split at h
  · cases h
    obtain ⟨l, ⟨rfl, h1⟩, h2⟩ := hk
    exact p90 l _ h1 H (h2 _ rfl)
  · cases h
def ePastM : List AV → Option ((AV → Prop) → Prop)
  | [.vs 5 xs, .lit (.int .i64 h)] => some fun K => ∃ l : List Mrk, (xs = l.map mkV ∧ l.length ≤ 1000000) ∧ ∀ ys, ys = (pastM l h).map mkV → K (.vs 5 ys)
  | _ => none
theorem ePastM_ok : ∀ args pt, ePastM args = some pt → ∀ (H : AHeap) (Kk : AV → AHeap → Prop), pt (fun r => Kk r H) → ACalls Try.prog 91 args H Kk := by
  intro args pt h H Kk hk
  unfold ePastM at h
  split at h
  · cases h
    obtain ⟨l, ⟨rfl, h1⟩, h2⟩ := hk
    exact p91 l _ h1 H (h2 _ rfl)
  · cases h
theorem p53 (rs : List Rch) (a b c : Int) (hl : rs.length ≤ 9223372036854775807) (H : AHeap) {Kk : AV → AHeap → Prop} (h : ∀ q, Kk (B q) H) : ACalls Try.prog 53 [svV (.vs 5 (rs.map rcV)) a b c] H Kk := by
  have hnr := nidL_rc rs
  refine (fun q => pureQ (Q := fun r => ∃ b, r = B b) (by simp [AV.nidL, AV.nid, hnr]) (by rintro r ⟨b, rfl⟩; rfl) q H (fun r ⟨b, hb⟩ => hb ▸ h b)) ?_
  clear h
  intro Kk h
  have h : ∀ b H, Frees 0 Kk (B b) H := fun b H => Frees.drop0 (h _ ⟨b, rfl⟩) rfl
  obtain ⟨F, hF⟩ : ∃ F, F = Frees 0 Kk := ⟨_, rfl⟩
  rw [← hF] at h ⊢
  obtain ⟨xs, hxs⟩ : ∃ xs, xs = rs.map rcV := ⟨_, rfl⟩
  rw [← hxs]
  obtain ⟨A, hA⟩ : ∃ A, A = std := ⟨_, rfl⟩
  have hne : ∀ x y, A.ne x y = decide (x ≠ y) := by subst hA; intro x y; simp only [std, iNe]; rw [Bool.eq_iff_iff]; simp
  have hee : ∀ x y, A.eq x y = decide (x = y) := by subst hA; intro x y; exact iEq_dec _ _
  have hll : ∀ x y, A.lt x y = decide (x < y) := by subst hA; intro x y; rfl
  have hle : ∀ x y, A.le x y = decide (x ≤ y) := by subst hA; intro x y; rfl
  have hnb : ∀ b, A.bnot b = !b := by subst hA; intro b; rfl
  have hbd : ∀ x y, A.band x y = (x && y) := by subst hA; intro x y; rfl
  have hsg : ∀ g, A.sg g g := by subst hA; exact fun _ => rfl
  refine go53 rfl ?_
  refine AGo_opq fun RR hRR => ?_
  refine SGo_run hA ⟨[], [], [], []⟩ .nil .nil 200 fun T TD hT hTD => ?_
  cbv
  rw [hT]
  refine AGo_upE [1] rs.length (fun j (_ : Unit) => True) (fun j _ i => [(3, I i)]) (fun j _ => [.own 0 [.vs 5 xs, I a, I b, I c]]) () trivial ⟨rfl, trivial⟩ (.inl rfl) fun j _ i hi hj hP Bk hB => ?_
  have hlt : A.lt i (A.vlen xs) = decide (j < rs.length) := by subst hA; exact lt_len (by simp [hxs]) hi
  have hadd : ∀ N, j < N → N ≤ 9223372036854775807 → A.add .i64 i 1 = iLen (j + 1) := fun N hj hN => by subst hA; exact add_one hi hj hN
  refine SGo_run hA ⟨[], [], [], []⟩ .nil .nil 200 fun T TD hT hTD => ?_
  cbv
  split <;> cbv
  · rename_i hk0
    have hk1 : j < rs.length := by have hz := hlt.symm.trans hk0; simpa using hz
    clear hk0
    obtain ⟨⟨x1, x2, x3, x4, x5⟩, hx⟩ : ∃ x, rs[j]? = some x := ⟨_, List.getElem?_eq_getElem hk1⟩
    have hix : A.ix 5 5 xs i (rcC ⟨x1, x2, x3, x4, x5⟩) := by subst hA; exact ix_map hxs hi hx rfl
    refine Exists.intro _ (And.intro hix ?_); cbv
    split <;> cbv
    · refine hRR _ _ ?_
      exact h _ _
    · exact hB () _ _ hk1 trivial ⟨congrArg I (hadd _ hk1 (by omega)), trivial⟩ ⟨rfl, trivial⟩ (.inl rfl)
  · refine hRR _ _ ?_
    exact h _ _
def eShort : List AV → Option ((AV → Prop) → Prop)
  | [.agg [.vs 5 xs, .lit (.int .i64 _), .lit (.int .i64 _), .lit (.int .i64 _)]] => some fun K => ∃ rs : List Rch, (xs = rs.map rcV ∧ rs.length ≤ 9223372036854775807) ∧ ∀ b, K (B b)
  | _ => none
theorem eShort_ok : ∀ args pt, eShort args = some pt → ∀ (H : AHeap) (Kk : AV → AHeap → Prop), pt (fun r => Kk r H) → ACalls Try.prog 53 args H Kk := by
  intro args pt h H Kk hk
  unfold eShort at h
  split at h
  · cases h
    obtain ⟨rs, ⟨rfl, h1⟩, h2⟩ := hk
    exact p53 rs _ _ _ h1 H h2
  · cases h
end Go.Sas
namespace Go.Sas
open Go.Proofs
set_option maxRecDepth 100000
theorem p88 (rs : List Rch) (a b c : Int) (l : List Lk) (m : List Mrk) (need h0 : Int) (h1 : rs.length ≤ 9223372036854775807) (h2 : l.length ≤ 9223372036854775807) (h3 : m.length ≤ 9223372036854775807) (H : AHeap) {Kk : AV → AHeap → Prop}
    (h : Kk (I (askE rs a b c l m need h0)) H) : ACalls Try.prog 88 [svV (.vs 5 (rs.map rcV)) a b c, .vs 5 (l.map lkV), .vs 5 (m.map mkV), I need, I h0] H Kk := by
  have hnr := nidL_rc rs
  refine (fun q => pureC (by simp [AV.nidL, AV.nid, hnr, nidL_map (g := lkV) (fun _ => rfl) l, nidL_map (g := mkV) (fun _ => rfl) m]) (by rfl) q H h) ?_
  clear h
  intro Kk h
  obtain ⟨xs, hxs⟩ : ∃ xs, xs = rs.map rcV := ⟨_, rfl⟩
  obtain ⟨ls, hls⟩ : ∃ ys, ys = l.map lkV := ⟨_, rfl⟩
  obtain ⟨ms, hms⟩ : ∃ ys, ys = m.map mkV := ⟨_, rfl⟩
  rw [← hxs, ← hls, ← hms]
  obtain ⟨E, hE⟩ : ∃ E, E = askE rs a b c l m need h0 := ⟨_, rfl⟩
  rw [← hE] at h
  obtain ⟨A, hA⟩ : ∃ A, A = std := ⟨_, rfl⟩
  have hne : ∀ x y, A.ne x y = decide (x ≠ y) := by subst hA; intro x y; simp only [std, iNe]; rw [Bool.eq_iff_iff]; simp
  have hee : ∀ x y, A.eq x y = decide (x = y) := by subst hA; intro x y; exact iEq_dec _ _
  have hll : ∀ x y, A.lt x y = decide (x < y) := by subst hA; intro x y; rfl
  have hle : ∀ x y, A.le x y = decide (x ≤ y) := by subst hA; intro x y; rfl
  have hnb : ∀ b, A.bnot b = !b := by subst hA; intro b; rfl
  have hbd : ∀ x y, A.band x y = (x && y) := by subst hA; intro x y; rfl
  have hsg : ∀ g, A.sg g g := by subst hA; exact fun _ => rfl
  refine go88 rfl (SGo_run hA ⟨[], [], (36, eSurE) :: (38, eMarksS) :: (80, eIn) :: [], []⟩ (.cons (eSurE_ok p36) (.cons (eMarksS_ok p38) (.cons (eIn_ok p80) .nil))) .nil 200 fun T TD hT hTD => ?_)
  cbv
  refine Exists.intro rs (Exists.intro l (And.intro hxs (And.intro hls (And.intro h1 (And.intro h2 ?_)))))
  intro q hq; cbv
  split <;> cbv
  · rename_i hz
    have hz : q ≠ 0 := of_decide_eq_true ((hne q 0).symm.trans hz)
    refine leaf h (congrArg I ?_) rfl
    rw [hE]; unfold askE orElse; rw [← hq, if_neg hz]
  rename_i hz
  have hz : q = 0 := by have hz := of_decide_eq_false ((hne q 0).symm.trans hz); simpa using hz
  have hs0 := hq.symm.trans hz
  obtain ⟨ho, hs2, hlo⟩ := surE_ok.1 hs0
  have hmm : marksS rs a b c m = marksE (sumLg rs) m := by unfold marksS orElse; rw [checkV_ok.2 ⟨ho, hs2⟩, if_pos rfl]
  have hE1 : E = orElse (marksE (sumLg rs) m) (if ¬(0 ≤ need ∧ need ≤ 3000) ∨ ¬(0 ≤ h0 ∧ h0 ≤ 10000) then 2 else 0) := by
    rw [hE]; unfold askE; rw [hs0]; rfl
  refine Exists.intro rs (Exists.intro m (And.intro hxs (And.intro hms (And.intro h1 (And.intro h3 ?_)))))
  intro q2 hq2; cbv
  have hq2 : q2 = marksE (sumLg rs) m := hq2.trans hmm
  split <;> cbv
  · rename_i hz
    have hz : q2 ≠ 0 := of_decide_eq_true ((hne q2 0).symm.trans hz)
    refine leaf h (congrArg I ?_) rfl
    rw [hE1]; unfold orElse; rw [← hq2, if_neg hz]
  rename_i hz
  have hz : q2 = 0 := by have hz := of_decide_eq_false ((hne q2 0).symm.trans hz); simpa using hz
  have hE2 : E = if ¬(0 ≤ need ∧ need ≤ 3000) ∨ ¬(0 ≤ h0 ∧ h0 ≤ 10000) then 2 else 0 := by rw [hE1, ← hq2, hz]; rfl
  intro b1 hb1; cbv
  split <;> cbv
  · rename_i hz
    have hz : b1 = false := by have hz := (hnb b1).symm.trans hz; simpa using hz
    rw [hb1, decide_eq_false_iff_not] at hz
    refine leaf h (congrArg I ?_) rfl
    rw [hE2, if_pos (.inl hz)]
  rename_i hz
  have hz : b1 = true := by have hz := (hnb b1).symm.trans hz; simpa using hz
  rw [hb1, decide_eq_true_eq] at hz
  intro b2 hb2; cbv
  split <;> cbv
  · rename_i hz2
    have hz2 : b2 = false := by have hz := (hnb b2).symm.trans hz2; simpa using hz
    rw [hb2, decide_eq_false_iff_not] at hz2
    refine leaf h (congrArg I ?_) rfl
    rw [hE2, if_pos (.inr hz2)]
  rename_i hz2
  have hz2 : b2 = true := by have hz := (hnb b2).symm.trans hz2; simpa using hz
  rw [hb2, decide_eq_true_eq] at hz2
  refine leaf h (congrArg I ?_) rfl
  rw [hE2, if_neg (by rintro (h | h); exact h hz; exact h hz2)]
def eGate : List AV → Option ((AV → Prop) → Prop)
  | [.agg [.vs 5 xs, .lit (.int .i64 a), .lit (.int .i64 b), .lit (.int .i64 c)], .vs 5 ls, .vs 5 ms, .lit (.int .i64 need), .lit (.int .i64 h)] =>
    some fun K => ∃ (rs : List Rch) (l : List Lk) (m : List Mrk), (xs = rs.map rcV ∧ ls = l.map lkV ∧ ms = m.map mkV ∧ rs.length ≤ 9223372036854775807 ∧ l.length ≤ 9223372036854775807 ∧ m.length ≤ 9223372036854775807) ∧ ∀ e, e = askE rs a b c l m need h → K (I e)
  | _ => none
theorem eGate_ok : ∀ args pt, eGate args = some pt → ∀ (H : AHeap) (Kk : AV → AHeap → Prop), pt (fun r => Kk r H) → ACalls Try.prog 88 args H Kk := by
  intro args pt h H Kk hk
  unfold eGate at h
  split at h
  · cases h
    obtain ⟨rs, l, m, ⟨rfl, rfl, rfl, h1, h2, h3⟩, h4⟩ := hk
    exact p88 rs _ _ _ l m _ _ h1 h2 h3 H (h4 _ rfl)
  · cases h
end Go.Sas
