/-
Freight: orders sorted: contract.
Conditions: none.
-/
import Derived.Test.YthpjckoklnhbcaaHN
import Derived.Test.YthpjckoklnhbcaaHE
set_option linter.unusedVariables false
set_option linter.unusedSimpArgs false
namespace Go.Sas
open Go.Proofs
set_option maxRecDepth 100000
theorem nidL_orC (l : List Ord) : AV.nidL (l.flatMap orC4) = true := nidL_flat (fun _ => rfl) l
theorem p124 (f : Nat) (hf : f = 77 ∨ f = 79) (l : List Ord) (hl : 1 ≤ l.length ∧ l.length ≤ 1000) (hb : ∀ o ∈ l, OrdB o) (H : AHeap) {id idc : Nat} (hne : id ≠ idc) {cc : List AV} (hcc : cc = l.flatMap orC4) (hX : H[id]? = some (.own 0 cc)) (hY : H[idc]? = some (.own 0 [.fn f []])) {Kk : AV → AHeap → Prop}
    (h : ∀ c2, c2 = (sortV (keyF f) l).flatMap orC4 → Kk (.tup []) (H.set id (.own 0 c2))) : ACalls Try.prog 124 [.ms 4 id 0 0 l.length, I 0, I (iLen l.length), .fn 109 [.mp idc 0 0]] H Kk := by
  subst hcc
  have h4 := p124l f hf l hl hb (fun r H' => r = .tup [] ∧ H' = [.own 0 ((sortV (keyF f) l).flatMap orC4), .own 0 [.fn f []]]) ⟨rfl, rfl⟩
  have h5 := ACalls.frame (H := H) [id, idc] h4 (by simp [hne]) (by simp) (by simp [AV.ltL, AV.lt]) ⟨AV.ltL_nid (nidL_orC l), by simp [AObj.lt, AV.ltL, AV.lt], trivial⟩ (fun k X hk => by
    match k with
    | 0 => simp at hk; subst hk; simpa [at_, AObj.ren, AV.renL_nid (nidL_orC l)] using hX
    | 1 => simp at hk; subst hk; simpa [at_, AObj.ren, AV.renL, AV.ren] using hY
    | k + 2 => simp at hk)
  have e : AV.renL [id, idc] [.ms 4 0 0 0 l.length, I 0, I (iLen l.length), .fn 109 [.mp 1 0 0]] = [.ms 4 id 0 0 l.length, I 0, I (iLen l.length), .fn 109 [.mp idc 0 0]] := by simp [AV.renL, AV.ren, at_]
  rw [e] at h5
  refine h5.mono fun r H' hx => ?_
  obtain ⟨r0, H1, ⟨rfl, rfl⟩, _, rfl, rfl⟩ := hx
  have h6 := h _ rfl
  have hset : (H.set id (.own 0 ((sortV (keyF f) l).flatMap orC4))).set idc (.own 0 [.fn f []]) = H.set id (.own 0 ((sortV (keyF f) l).flatMap orC4)) := by
    apply List.ext_getElem?; intro i
    rw [List.getElem?_set]
    split
    · rename_i hi; subst hi
      have : idc < H.length := (List.getElem?_eq_some_iff.1 hY).1
      rw [List.getElem?_set_ne hne, hY, if_pos (by simpa using this)]
    · rfl
  simpa [merge, updL, AObj.ren, AV.ren, AV.renL, AV.renL_nid (nidL_orC _), hset] using h6
def eIns : List AV → AHeap → Option PT
  | [.ms 4 id 0 0 n, .lit (.int .i64 z), .lit (.int .i64 b), .fn 109 [.mp idc 0 0]], H => match H[id]?, H[idc]? with
    | some (.own 0 cc), some (.own 0 [.fn f []]) => some fun K => ∃ l : List Ord, (z = 0 ∧ id ≠ idc ∧ cc = l.flatMap orC4 ∧ n = l.length ∧ b = iLen n ∧ (f = 77 ∨ f = 79) ∧ (1 ≤ n ∧ n ≤ 1000) ∧ ∀ o ∈ l, OrdB o) ∧ ∀ c2, c2 = (sortV (keyF f) l).flatMap orC4 → K (.tup []) (H.set id (.own 0 c2))
    | _, _ => none
  | _, _ => none
theorem eIns_ok : ∀ args H pt, eIns args H = some pt → ∀ (Kk : AV → AHeap → Prop), pt Kk → ACalls Try.prog 124 args H Kk := by
  intro args H pt h Kk hk
  unfold eIns at h
  split at h
  · split at h
    · rename_i hX hY
      cases h
      obtain ⟨l, ⟨rfl, h1, h2, rfl, rfl, h3, h4, h5⟩, h6⟩ := hk
      exact p124 _ h3 l h4 h5 _ h1 h2 hX hY h6
    · cases h
  · cases h
set_option maxHeartbeats 4000000 in
theorem p119l (f : Nat) (hf : f = 77 ∨ f = 79) (l : List Ord) (hl : 1 ≤ l.length ∧ l.length ≤ 19) (hb : ∀ o ∈ l, OrdB o) (Kk : AV → AHeap → Prop) (h : ∀ c2, c2 = (sortV (keyF f) l).flatMap orC4 → Kk (.tup []) [.own 0 c2, .own 0 [.fn f []]]) :
    ACalls Try.prog 119 [.ms 4 0 0 0 l.length, I (iLen l.length), .fn 109 [.mp 1 0 0]] [.own 0 (l.flatMap orC4), .own 0 [.fn f []]] Kk := by
  obtain ⟨n, hn⟩ : ∃ n, n = l.length := ⟨_, rfl⟩
  obtain ⟨iN, hiN⟩ : ∃ i : Int, i = iLen n := ⟨_, rfl⟩
  obtain ⟨lc, hlc⟩ : ∃ r, r = l.flatMap orC4 := ⟨_, rfl⟩
  rw [← hn, ← hiN, ← hlc]
  rw [← hn] at hl
  obtain ⟨A, hA⟩ : ∃ A, A = std := ⟨_, rfl⟩
  have hll : ∀ x y, A.lt x y = decide (x < y) := by subst hA; intro x y; rfl
  have hle : ∀ x y, A.le x y = decide (x ≤ y) := by subst hA; intro x y; rfl
  have h20 : A.le 20 iN = false := by rw [hle, hiN]; unfold iLen; simp; omega
  have h21 : A.lt 20 iN = false := by rw [hll, hiN]; unfold iLen; simp; omega
  refine go119 rfl (SGo_run hA ⟨[], [], [], (124, eIns) :: []⟩ .nil (.cons eIns_ok .nil) 200 fun T TD hT hTD => ?_)
  cbv
  rw [hT]
  refine AGo_whileE [0, 1, 2, 6] (fun (_ : Unit) => 0) (fun _ => True) (fun _ => [(7, I 0), (8, I 20)]) (fun _ => [.own 0 lc, .own 0 [.fn f []]]) () trivial ⟨rfl, rfl, trivial⟩ (.inl rfl) fun _ _ Bk hB => ?_
  clear hT hTD T TD hB
  refine SGo_run hA ⟨[], [], [], (124, eIns) :: []⟩ .nil (.cons eIns_ok .nil) 200 fun T TD hT hTD => ?_
  cbv
  split <;> cbv
  · rename_i hz; exact Bool.noConfusion (hz.symm.trans h20)
  refine Exists.intro l (And.intro ⟨rfl, by decide, hlc, hn, hiN, hf, by omega, hb⟩ ?_)
  intro c2 hc2; cbv
  rw [hT]
  refine AGo_whileE [0, 1, 2] (fun (_ : Unit) => 0) (fun _ => True) (fun _ => [(6, I 20)]) (fun _ => [.own 0 c2, .own 0 [.fn f []]]) () trivial ⟨rfl, trivial⟩ (.inl rfl) fun _ _ Bk hB => ?_
  clear hT hTD T TD hB
  refine SGo_run hA ⟨[], [], [], []⟩ .nil .nil 200 fun T TD hT hTD => ?_
  cbv
  split <;> cbv
  · rename_i hz; exact Bool.noConfusion (hz.symm.trans h21)
  exact ite_both (h c2 hc2)
theorem p119 (f : Nat) (hf : f = 77 ∨ f = 79) (l : List Ord) (hl : 1 ≤ l.length ∧ l.length ≤ 19) (hb : ∀ o ∈ l, OrdB o) (H : AHeap) {id idc : Nat} (hne : id ≠ idc) {cc : List AV} (hcc : cc = l.flatMap orC4) (hX : H[id]? = some (.own 0 cc)) (hY : H[idc]? = some (.own 0 [.fn f []])) {Kk : AV → AHeap → Prop}
    (h : ∀ c2, c2 = (sortV (keyF f) l).flatMap orC4 → Kk (.tup []) (H.set id (.own 0 c2))) : ACalls Try.prog 119 [.ms 4 id 0 0 l.length, I (iLen l.length), .fn 109 [.mp idc 0 0]] H Kk := by
  subst hcc
  have h4 := p119l f hf l hl hb (fun r H' => r = .tup [] ∧ H' = [.own 0 ((sortV (keyF f) l).flatMap orC4), .own 0 [.fn f []]]) (fun c2 hc2 => ⟨rfl, by rw [hc2]⟩)
  have h5 := ACalls.frame (H := H) [id, idc] h4 (by simp [hne]) (by simp) (by simp [AV.ltL, AV.lt]) ⟨AV.ltL_nid (nidL_orC l), by simp [AObj.lt, AV.ltL, AV.lt], trivial⟩ (fun k X hk => by
    match k with
    | 0 => simp at hk; subst hk; simpa [at_, AObj.ren, AV.renL_nid (nidL_orC l)] using hX
    | 1 => simp at hk; subst hk; simpa [at_, AObj.ren, AV.renL, AV.ren] using hY
    | k + 2 => simp at hk)
  have e : AV.renL [id, idc] [.ms 4 0 0 0 l.length, I (iLen l.length), .fn 109 [.mp 1 0 0]] = [.ms 4 id 0 0 l.length, I (iLen l.length), .fn 109 [.mp idc 0 0]] := by simp [AV.renL, AV.ren, at_]
  rw [e] at h5
  refine h5.mono fun r H' hx => ?_
  obtain ⟨r0, H1, ⟨rfl, rfl⟩, _, rfl, rfl⟩ := hx
  have h6 := h _ rfl
  have hset : (H.set id (.own 0 ((sortV (keyF f) l).flatMap orC4))).set idc (.own 0 [.fn f []]) = H.set id (.own 0 ((sortV (keyF f) l).flatMap orC4)) := by
    apply List.ext_getElem?; intro i
    rw [List.getElem?_set]
    split
    · rename_i hi; subst hi
      have : idc < H.length := (List.getElem?_eq_some_iff.1 hY).1
      rw [List.getElem?_set_ne hne, hY, if_pos (by simpa using this)]
    · rfl
  simpa [merge, updL, AObj.ren, AV.ren, AV.renL, AV.renL_nid (nidL_orC _), hset] using h6
def eStab : List AV → AHeap → Option PT
  | [.ms 4 id 0 0 n, .lit (.int .i64 b), .fn 109 [.mp idc 0 0]], H => match H[id]?, H[idc]? with
    | some (.own 0 cc), some (.own 0 [.fn f []]) => some fun K => ∃ l : List Ord, (id ≠ idc ∧ cc = l.flatMap orC4 ∧ n = l.length ∧ b = iLen n ∧ (f = 77 ∨ f = 79) ∧ (1 ≤ n ∧ n ≤ 19) ∧ ∀ o ∈ l, OrdB o) ∧ ∀ c2, c2 = (sortV (keyF f) l).flatMap orC4 → K (.tup []) (H.set id (.own 0 c2))
    | _, _ => none
  | _, _ => none
theorem eStab_ok : ∀ args H pt, eStab args H = some pt → ∀ (Kk : AV → AHeap → Prop), pt Kk → ACalls Try.prog 119 args H Kk := by
  intro args H pt h Kk hk
  unfold eStab at h
  split at h
  · split at h
    · rename_i hX hY
      cases h
      obtain ⟨l, ⟨h1, h2, rfl, rfl, h3, h4, h5⟩, h6⟩ := hk
      exact p119 _ h3 l h4 h5 _ h1 h2 hX hY h6
    · cases h
  · cases h
theorem p108l (f : Nat) (hf : f = 77 ∨ f = 79) (l : List Ord) (hl : 1 ≤ l.length ∧ l.length ≤ 19) (hb : ∀ o ∈ l, OrdB o) (Kk : AV → AHeap → Prop) (h : ∀ c2, c2 = (sortV (keyF f) l).flatMap orC4 → Kk (.tup []) [.own 0 c2, .own 0 [.fn f []]]) :
    ACalls Try.prog 108 [.ms 4 0 0 0 l.length, .fn 109 [.mp 1 0 0]] [.own 0 (l.flatMap orC4), .own 0 [.fn f []]] Kk := by
  obtain ⟨n, hn⟩ : ∃ n, n = l.length := ⟨_, rfl⟩
  obtain ⟨lc, hlc⟩ : ∃ r, r = l.flatMap orC4 := ⟨_, rfl⟩
  rw [← hn, ← hlc]
  rw [← hn] at hl
  obtain ⟨A, hA⟩ : ∃ A, A = std := ⟨_, rfl⟩
  have hln : A.len n = iLen n := by subst hA; rfl
  have hsg : ∀ g, A.sg g g := by subst hA; exact fun _ => rfl
  refine go108 rfl (SGo_run hA ⟨[0], [], [], (119, eStab) :: []⟩ .nil (.cons eStab_ok .nil) 200 fun T TD hT hTD => ?_)
  cbv
  refine And.intro (hsg _) (Exists.intro l (And.intro ⟨by decide, hlc, hn, hln, hf, by omega, hb⟩ ?_))
  intro c2 hc2; cbv
  exact ite_both (h c2 hc2)
def eSortS : List AV → AHeap → Option PT
  | [.ms 4 id 0 0 n, .fn 109 [.mp idc 0 0]], H => match H[id]?, H[idc]? with
    | some (.own 0 cc), some (.own 0 [.fn f []]) => some fun K => ∃ l : List Ord, (id ≠ idc ∧ cc = l.flatMap orC4 ∧ n = l.length ∧ (f = 77 ∨ f = 79) ∧ (1 ≤ n ∧ n ≤ 19) ∧ ∀ o ∈ l, OrdB o) ∧ ∀ c2, c2 = (sortV (keyF f) l).flatMap orC4 → K (.tup []) (H.set id (.own 0 c2))
    | _, _ => none
  | _, _ => none
theorem p108 (f : Nat) (hf : f = 77 ∨ f = 79) (l : List Ord) (hl : 1 ≤ l.length ∧ l.length ≤ 19) (hb : ∀ o ∈ l, OrdB o) (H : AHeap) {id idc : Nat} (hne : id ≠ idc) {cc : List AV} (hcc : cc = l.flatMap orC4) (hX : H[id]? = some (.own 0 cc)) (hY : H[idc]? = some (.own 0 [.fn f []])) {Kk : AV → AHeap → Prop}
    (h : ∀ c2, c2 = (sortV (keyF f) l).flatMap orC4 → Kk (.tup []) (H.set id (.own 0 c2))) : ACalls Try.prog 108 [.ms 4 id 0 0 l.length, .fn 109 [.mp idc 0 0]] H Kk := by
  subst hcc
  have h4 := p108l f hf l hl hb (fun r H' => r = .tup [] ∧ H' = [.own 0 ((sortV (keyF f) l).flatMap orC4), .own 0 [.fn f []]]) (fun c2 hc2 => ⟨rfl, by rw [hc2]⟩)
  have h5 := ACalls.frame (H := H) [id, idc] h4 (by simp [hne]) (by simp) (by simp [AV.ltL, AV.lt]) ⟨AV.ltL_nid (nidL_orC l), by simp [AObj.lt, AV.ltL, AV.lt], trivial⟩ (fun k X hk => by
    match k with
    | 0 => simp at hk; subst hk; simpa [at_, AObj.ren, AV.renL_nid (nidL_orC l)] using hX
    | 1 => simp at hk; subst hk; simpa [at_, AObj.ren, AV.renL, AV.ren] using hY
    | k + 2 => simp at hk)
  have e : AV.renL [id, idc] [.ms 4 0 0 0 l.length, .fn 109 [.mp 1 0 0]] = [.ms 4 id 0 0 l.length, .fn 109 [.mp idc 0 0]] := by simp [AV.renL, AV.ren, at_]
  rw [e] at h5
  refine h5.mono fun r H' hx => ?_
  obtain ⟨r0, H1, ⟨rfl, rfl⟩, _, rfl, rfl⟩ := hx
  have h6 := h _ rfl
  have hset : (H.set id (.own 0 ((sortV (keyF f) l).flatMap orC4))).set idc (.own 0 [.fn f []]) = H.set id (.own 0 ((sortV (keyF f) l).flatMap orC4)) := by
    apply List.ext_getElem?; intro i
    rw [List.getElem?_set]
    split
    · rename_i hi; subst hi
      have : idc < H.length := (List.getElem?_eq_some_iff.1 hY).1
      rw [List.getElem?_set_ne hne, hY, if_pos (by simpa using this)]
    · rfl
  simpa [merge, updL, AObj.ren, AV.ren, AV.renL, AV.renL_nid (nidL_orC _), hset] using h6
theorem eSortS_ok : ∀ args H pt, eSortS args H = some pt → ∀ (Kk : AV → AHeap → Prop), pt Kk → ACalls Try.prog 108 args H Kk := by
  intro args H pt h Kk hk
  unfold eSortS at h
  split at h
  · split at h
    · rename_i hX hY
      cases h
      obtain ⟨l, ⟨h1, h2, rfl, h3, h4, h5⟩, h6⟩ := hk
      exact p108 _ h3 l h4 h5 _ h1 h2 hX hY h6
    · cases h
  · cases h
theorem p107 (l : List Ord) (hp : l ≠ []) (hl : l.length ≤ 1000) (H : AHeap) {Kk : AV → AHeap → Prop} (h : Kk (.ms 4 H.length 0 0 l.length) (H ++ [.own 0 (l.flatMap orC4)])) : ACalls Try.prog 107 [.vs 4 (l.map orV)] H Kk := by
  have h1 : ACalls Try.prog 107 [.vs 4 (l.map orV)] [] fun r H' => r = .ms 4 0 0 0 l.length ∧ H' = [.own 0 (l.flatMap orC4)] := by
    clear h Kk
    obtain ⟨Kk, hKk⟩ : ∃ K : AV → AHeap → Prop, K = fun r H' => r = .ms 4 0 0 0 l.length ∧ H' = [.own 0 (l.flatMap orC4)] := ⟨_, rfl⟩
    rw [← hKk]
    have hk : Kk (.ms 4 0 0 0 l.length) [.own 0 (l.flatMap orC4)] := by rw [hKk]; exact ⟨rfl, rfl⟩
    clear hKk
    have hEl := Elems_map (f := orV) (g := orC4) (sz := 4) (fun _ => rfl) (fun _ => rfl) (fun _ => rfl) l
    have hap := app_all (sz := 4) (by_ := 32) (n := 0) (cs := []) (es := l.map orV) rfl hEl.1 (by simp; omega)
    obtain ⟨n, hn⟩ : ∃ n, n = l.length := ⟨_, rfl⟩
    rw [← hn] at hk
    obtain ⟨yc, hyc⟩ : ∃ ys, ys = l.flatMap orC4 := ⟨_, rfl⟩
    rw [← hyc] at hk
    have hap : appS 4 4 32 [] 0 0 (l.map orV) yc n := by rw [hyc, hn]; simpa using hap
    clear hEl
    obtain ⟨x, q, rfl⟩ : ∃ x q, l = x :: q := by cases l with | nil => exact absurd rfl hp | cons x q => exact ⟨x, q, rfl⟩
    obtain ⟨xs, hxs⟩ : ∃ xs, xs = q.map orV := ⟨_, rfl⟩
    obtain ⟨ix, hix⟩ : ∃ i, i = orV x := ⟨_, rfl⟩
    rw [List.map_cons] at hap ⊢
    rw [← hxs, ← hix] at hap ⊢
    obtain ⟨A, hA⟩ : ∃ A, A = std := ⟨_, rfl⟩
    have hcs : A.app 4 4 32 [] 0 0 (ix :: xs) yc n := by subst hA; exact hap
    refine go107 rfl (SGo_run hA ⟨[0], [], [], []⟩ .nil .nil 200 fun T TD hT hTD => ?_)
    cbv
    rw [hT]
    refine AGo_val (r := B false) rfl rfl ?_
    refine SGo_run hA ⟨[0], [], [], []⟩ .nil .nil 200 fun T TD hT hTD => ?_
    cbv
    refine Exists.intro yc (Exists.intro n (And.intro hcs (And.intro rfl ?_))); cbv
    exact hk
  have h2 := ACalls.frame (H := H) [] h1 List.nodup_nil rfl (AV.ltL_nid (by simp [AV.nidL, AV.nid])) (by simp [ltH]) (fun k X hk => by simp at hk)
  rw [AV.renL_nid (by simp [AV.nidL, AV.nid])] at h2
  refine h2.mono fun r H' hx => ?_
  obtain ⟨r0, H1, ⟨rfl, rfl⟩, _, rfl, rfl⟩ := hx
  have hn : AV.renL [H.length] (l.flatMap orC4) = l.flatMap orC4 := AV.renL_nid (nidL_orC l)
  simpa [merge, updL, more, AV.ren, AV.renL, at_, AObj.ren, List.range', hn] using h
def eCloneO : List AV → AHeap → Option PT
  | [.vs 4 ys], H => some fun K => ∃ l : List Ord, (ys = l.map orV ∧ l ≠ [] ∧ l.length ≤ 1000) ∧ ∀ n cc, n = l.length → cc = l.flatMap orC4 → K (.ms 4 H.length 0 0 n) (H ++ [.own 0 cc])
  | _, _ => none
theorem eCloneO_ok : ∀ args H pt, eCloneO args H = some pt → ∀ (Kk : AV → AHeap → Prop), pt Kk → ACalls Try.prog 107 args H Kk := by
  intro args H pt h Kk hk
  unfold eCloneO at h
  split at h
  · cases h
    obtain ⟨l, ⟨rfl, h1, h2⟩, h3⟩ := hk
    exact p107 l h1 h2 _ (h3 _ _ rfl rfl)
  · cases h
theorem p78 (a b c d : Int) (xs : List AV) (os : List Ord) (f : Nat) (hf : f = 77 ∨ f = 79) (hl : 1 ≤ os.length ∧ os.length ≤ 6) (hb : ∀ o ∈ os, OrdB o) (H : AHeap) {Kk : AV → AHeap → Prop} (h : Kk (.vs 4 ((sortV (keyF f) os).map orV)) H) :
    ACalls Try.prog 78 [frV a b c d (.vs 2 xs) (.vs 4 (os.map orV)), .fn f []] H Kk := by
  refine pureF (by simp [AV.nidL, AV.nid]) (by simp [AV.nid]) (fun Kk h => ?_) H h
  obtain ⟨ys, hys⟩ : ∃ ys, ys = os.map orV := ⟨_, rfl⟩
  rw [← hys]
  obtain ⟨A, hA⟩ : ∃ A, A = std := ⟨_, rfl⟩
  obtain ⟨F, hF⟩ : ∃ F, F = Frees 0 Kk := ⟨_, rfl⟩
  rw [← hF]
  refine go78 rfl (SGo_run hA ⟨[], [], [], (107, eCloneO) :: (108, eSortS) :: []⟩ .nil (.cons eCloneO_ok (.cons eSortS_ok .nil)) 200 fun T TD hT hTD => ?_)
  cbv
  refine Exists.intro os (And.intro ⟨hys, by intro h9; rw [h9] at hl; simp at hl, by omega⟩ ?_)
  intro n cc hn hcc; cbv
  refine Exists.intro os (And.intro ⟨by decide, hcc, hn, hf, by omega, hb⟩ ?_)
  intro c2 hc2; cbv
  rw [hF]
  refine Frees.frz 2 0 4 ((sortV (keyF f) os).map orV) rfl (by rw [hc2]; exact Elems_map (f := orV) (g := orC4) (sz := 4) (fun _ => rfl) (fun _ => rfl) (fun _ => rfl) _) (Frees.drop0 ?_ ?_)
  · have : AV.frz 2 0 4 ((sortV (keyF f) os).map orV) (.ms 4 2 0 0 n) = .vs 4 ((sortV (keyF f) os).map orV) := frz_self (by rw [List.length_map, sortV_len, hn])
    simp only [aTup] at this ⊢
    rw [this]; exact h
  · simp only [aTup, AV.frz, AV.frzL, AV.nid, AV.nidL, if_true]
    split <;> rfl
def eSorted : List AV → Option ((AV → Prop) → Prop)
  | [.agg [.lit (.int .i64 _), .lit (.int .i64 _), .lit (.int .i64 _), .lit (.int .i64 _), .vs 2 _, .vs 4 ys], .fn f []] =>
    some fun K => ∃ os : List Ord, (ys = os.map orV ∧ (f = 77 ∨ f = 79) ∧ (1 ≤ os.length ∧ os.length ≤ 6) ∧ ∀ o ∈ os, OrdB o) ∧ ∀ rs, rs = (sortV (keyF f) os).map orV → K (.vs 4 rs)
  | _ => none
theorem eSorted_ok : ∀ args pt, eSorted args = some pt → ∀ (H : AHeap) (Kk : AV → AHeap → Prop), pt (fun r => Kk r H) → ACalls Try.prog 78 args H Kk := by
  intro args pt h H Kk hk
  unfold eSorted at h
  split at h
  · cases h
    obtain ⟨os, ⟨rfl, h1, h2, h3⟩, h4⟩ := hk
    exact p78 _ _ _ _ _ _ _ h1 h2 h3 H (h4 _ rfl)
  · cases h
end Go.Sas
