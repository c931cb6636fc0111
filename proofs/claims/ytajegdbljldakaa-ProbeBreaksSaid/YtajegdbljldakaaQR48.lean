/-
Probe: a course that is written to, and looks at it: contracts in every heap, and entries of tables.
Conditions: none.
-/
import Derived.Test.YtajegdbljldakaaQR47
set_option linter.unusedVariables false
set_option linter.unusedSimpArgs false
namespace Go.Sas
open Go.Proofs
set_option maxRecDepth 100000
theorem set_same {α : Type} {L : List α} {i : Nat} {x : α} (h : L[i]? = some x) : L.set i x = L := by
  obtain ⟨h1, h2⟩ := List.getElem?_eq_some_iff.1 h
  rw [← h2]; exact List.set_getElem_self h1
def ndB : List Nat → Bool
  | [] => true
  | a :: l => !l.contains a && ndB l
theorem ndB_ok : ∀ {l : List Nat}, ndB l = true → l.Nodup
  | [], _ => List.nodup_nil
  | a :: l, h => by
    simp only [ndB, Bool.and_eq_true, Bool.not_eq_true'] at h
    refine List.nodup_cons.2 ⟨fun hm => ?_, ndB_ok h.2⟩
    have := List.contains_iff_mem.2 hm
    rw [h.1] at this; cases this
theorem d31m (rs : List Rch) (a b c first : Int) (ho : RoadOk rs) (hf : 0 ≤ first ∧ first ≤ 100) (w : Int) (id : Nat) (H : AHeap) (hH : H[id]? = some (.own 0 [U w])) {Kk : AV → AHeap → Prop}
    (h : ∀ w' T, CrsOk (plc rs) T 4 → Kk (.ms 1 (H.length + 2) 4 0 4) (H.set id (.own 0 [U w']) ++ (.own 0 [] :: .gone :: crsH (plc rs) T (H.length + 3)))) : ACalls Try.prog 31 [.mp id 0 0, svV (.vs 5 (rs.map rcV)) a b c, I first, I 4] H Kk := by
  have hnr := nidL_rc rs
  have h1 := d31b rs a b c first w ho hf (Kk := fun r H' => ∃ w' T, CrsOk (plc rs) T 4 ∧ r = .ms 1 3 4 0 4 ∧ H' = .own 0 [U w'] :: .own 0 [] :: .gone :: crsH (plc rs) T 4) fun w' T hT => ⟨w', T, hT, rfl, rfl⟩
  have h2 := ACalls.frame (H := H) [id] h1 (by simp) rfl (by simp [AV.ltL, AV.lt]) (by simp [ltH, AObj.lt, AV.ltL, AV.lt])
    (fun k X hX => by
      cases k with
      | zero => simp at hX; subst hX; simpa [at_, AObj.ren, AV.renL, AV.ren] using hH
      | succ k => simp at hX)
  rw [show AV.renL [id] [.mp 0 0 0, svV (.vs 5 (rs.map rcV)) a b c, I first, I 4] = [.mp id 0 0, svV (.vs 5 (rs.map rcV)) a b c, I first, I 4] by simp [AV.renL, AV.ren, at_]] at h2
  refine h2.mono fun r H' hx => ?_
  obtain ⟨r0, H1, ⟨w', T, hT, rfl, rfl⟩, _, rfl, rfl⟩ := hx
  have := h w' T hT
  simpa [merge, updL, AObj.ren, AV.renL, AV.ren, more, at_, crsH, AV.renL_nid (nidL_row _ _ _), List.range'] using this
theorem d20m (R : List Rch) (TC : Nat → Nat → Int) (first most : Int) (hP : PlcOk R) (hT0 : CrsOk R TC 4) (hf : 0 ≤ first ∧ first ≤ 100) (hm : 0 ≤ most ∧ most ≤ 100) (w : Int) (s o r0 r1 r2 r3 : Nat) (H : AHeap) (hs : H[s]? = some (.own 0 [U w]))
    (ho : H[o]? = some (.own 4 [.ms 1 r0 R.length 0 R.length, .ms 1 r1 R.length 0 R.length, .ms 1 r2 R.length 0 R.length, .ms 1 r3 R.length 0 R.length])) (h0 : H[r0]? = some (.own R.length (crsRow TC R.length 0))) (h1 : H[r1]? = some (.own R.length (crsRow TC R.length 1)))
    (h2 : H[r2]? = some (.own R.length (crsRow TC R.length 2))) (h3 : H[r3]? = some (.own R.length (crsRow TC R.length 3))) (hnd : [s, o, r0, r1, r2, r3].Nodup) {Kk : AV → AHeap → Prop}
    (h : ∀ w' r, LkQ R TC first 4 most r → Kk r (H.set s (.own 0 [U w']))) : ACalls Try.prog 20 [.mp s 0 0, I first, .ms 1 o 4 0 4, I most] H Kk := by
  have g1 := d20b R TC first most hP hT0 hf hm w (Kk := fun r H' => ∃ w', LkQ R TC first 4 most r ∧ H' = .own 0 [U w'] :: crsH R TC 2) fun w' r hr => ⟨w', hr, rfl⟩
  have hrn : ∀ i, AV.nidL (crsRow TC R.length i) = true := fun i => nidL_row _ _ _
  have g2 := ACalls.frame (H := H) [s, o, r0, r1, r2, r3] g1 hnd rfl (by simp [AV.ltL, AV.lt]) (by simp [crsH, ltH, AObj.lt, AV.ltL, AV.lt, AV.ltL_nid (hrn _)])
    (fun k X hX => by
      match k with
      | 0 => simp at hX; subst hX; simpa [at_, AObj.ren, AV.renL, AV.ren] using hs
      | 1 => simp [crsH] at hX; subst hX; simpa [at_, AObj.ren, AV.renL, AV.ren] using ho
      | 2 => simp [crsH] at hX; subst hX; simpa [at_, AObj.ren, AV.renL_nid (hrn _)] using h0
      | 3 => simp [crsH] at hX; subst hX; simpa [at_, AObj.ren, AV.renL_nid (hrn _)] using h1
      | 4 => simp [crsH] at hX; subst hX; simpa [at_, AObj.ren, AV.renL_nid (hrn _)] using h2
      | 5 => simp [crsH] at hX; subst hX; simpa [at_, AObj.ren, AV.renL_nid (hrn _)] using h3
      | k + 6 => simp [crsH] at hX)
  rw [show AV.renL [s, o, r0, r1, r2, r3] [.mp 0 0 0, I first, .ms 1 1 4 0 4, I most] = [.mp s 0 0, I first, .ms 1 o 4 0 4, I most] by simp [AV.renL, AV.ren, at_]] at g2
  refine g2.mono fun r H' hx => ?_
  obtain ⟨r0', H1, ⟨w', hq, rfl⟩, _, rfl, rfl⟩ := hx
  have hqn : r0'.nid = true := by obtain ⟨_, _, rfl, rfl, _⟩ := hq; simp [AV.nid]
  rw [AV.ren_nid hqn]
  have e : merge H [s, o, r0, r1, r2, r3] (List.map (AObj.ren (more [s, o, r0, r1, r2, r3] H.length (AObj.own 0 [U w'] :: crsH R TC 2).length)) (.own 0 [U w'] :: crsH R TC 2)) = H.set s (.own 0 [U w']) := by
    simp only [List.nodup_cons, List.mem_cons, List.not_mem_nil, or_false, not_or] at hnd
    obtain ⟨⟨n1, n2, n3, n4, n5⟩, _⟩ := hnd
    have k1 : ∀ (q : Nat) (X : AObj), s ≠ q → H[q]? = some X → (H.set s (.own 0 [U w'])).set q X = H.set s (.own 0 [U w']) := fun q X hq hX => set_same (by rw [List.getElem?_set_ne hq]; exact hX)
    simp [merge, updL, AObj.ren, AV.renL, AV.ren, more, at_, crsH, AV.renL_nid (hrn _), k1 o _ n1 ho, k1 r0 _ n2 h0, k1 r1 _ n3 h1, k1 r2 _ n4 h2, k1 r3 _ n5 h3]
  rw [e]
  exact h w' r0' hq
def eCrsM : List AV → AHeap → Option PT
  | [.mp id 0 0, .agg [.vs 5 xs, .lit (.int .i64 a), .lit (.int .i64 b), .lit (.int .i64 c)], .lit (.int .i64 first), .lit (.int .i64 four)], H => match H[id]? with
    | some (.own 0 [.lit (.int .u64 _)]) => some fun K => ∃ rs : List Rch, (xs = rs.map rcV ∧ RoadOk rs ∧ (0 ≤ first ∧ first ≤ 100) ∧ four = 4) ∧ ∀ w' T N c0 c1 c2 c3, CrsOk (plc rs) T 4 → (N = (plc rs).length ∧ c0 = crsRow T N 0 ∧ c1 = crsRow T N 1 ∧ c2 = crsRow T N 2 ∧ c3 = crsRow T N 3) →
        K (.ms 1 (H.length + 2) 4 0 4) (H.set id (.own 0 [U w']) ++ [.own 0 [], .gone, .own 4 [.ms 1 (H.length + 3) N 0 N, .ms 1 (H.length + 4) N 0 N, .ms 1 (H.length + 5) N 0 N, .ms 1 (H.length + 6) N 0 N], .own N c0, .own N c1, .own N c2, .own N c3])
    | _ => none
  | _, _ => none
theorem eCrsM_ok : ∀ args H pt, eCrsM args H = some pt → ∀ (Kk : AV → AHeap → Prop), pt Kk → ACalls Try.prog 31 args H Kk := by
  intro args H pt h Kk hk
  unfold eCrsM at h
  split at h
  · split at h
    · rename_i w hX
      cases h
      obtain ⟨rs, ⟨rfl, h1, h2, rfl⟩, h3⟩ := hk
      exact d31m rs _ _ _ _ h1 h2 w _ H hX fun w' T hT => h3 w' T _ _ _ _ _ hT ⟨rfl, rfl, rfl, rfl, rfl⟩
    · cases h
  · cases h
def eLksM : List AV → AHeap → Option PT
  | [.mp s 0 0, .lit (.int .i64 first), .ms 1 o 4 0 4, .lit (.int .i64 most)], H => match H[s]? with
    | some (.own 0 [.lit (.int .u64 _)]) => some fun K => ∃ (R : List Rch) (T : Nat → Nat → Int) (r0 r1 r2 r3 N : Nat) (c0 c1 c2 c3 : List AV), (PlcOk R ∧ CrsOk R T 4 ∧ (0 ≤ first ∧ first ≤ 100) ∧ (0 ≤ most ∧ most ≤ 100)) ∧
        (N = R.length ∧ c0 = crsRow T N 0 ∧ c1 = crsRow T N 1 ∧ c2 = crsRow T N 2 ∧ c3 = crsRow T N 3) ∧ H[o]? = some (.own 4 [.ms 1 r0 N 0 N, .ms 1 r1 N 0 N, .ms 1 r2 N 0 N, .ms 1 r3 N 0 N]) ∧
        H[r0]? = some (.own N c0) ∧ H[r1]? = some (.own N c1) ∧ H[r2]? = some (.own N c2) ∧ H[r3]? = some (.own N c3) ∧ ndB [s, o, r0, r1, r2, r3] = true ∧ ∀ w' r, LkQ R T first 4 most r → K r (H.set s (.own 0 [U w']))
    | _ => none
  | _, _ => none
theorem eLksM_ok : ∀ args H pt, eLksM args H = some pt → ∀ (Kk : AV → AHeap → Prop), pt Kk → ACalls Try.prog 20 args H Kk := by
  intro args H pt h Kk hk
  unfold eLksM at h
  split at h
  · split at h
    · rename_i w hX
      cases h
      obtain ⟨R, T, r0, r1, r2, r3, N, c0, c1, c2, c3, ⟨h1, h2, h3, h4⟩, ⟨rfl, rfl, rfl, rfl, rfl⟩, h5, h6, h7, h8, h9, h10, h11⟩ := hk
      exact d20m R T _ _ h1 h2 h3 h4 w _ _ r0 r1 r2 r3 H hX h5 h6 h7 h8 h9 (ndB_ok h10) h11
    · cases h
  · cases h
end Go.Sas
