/-
An abstract machine over values, part 11: a contract over few objects holds in every greater heap.
An abstract machine over values, part 12: regions that draw their order of evaluation.
An abstract machine over values, part 13: the rule for regions that draw their order of evaluation.
An abstract machine over values, part 14: runs through regions that draw their order; what nobody writes any more; calls of functions that name no object.
Conditions: none.
-/
import Derived.Test.YtndnjmpebpampaaGreatDoorP2
set_option linter.unusedVariables false
set_option linter.unusedSimpArgs false
namespace Go.Sas

/-! ### Other names for the objects -/
def at_ (ι : List Nat) (i : Nat) : Nat := (ι[i]?).getD 0

mutual
def AV.ren (ι : List Nat) (a : AV) : AV := match a with
  | .agg cs => .agg (AV.renL ι cs)
  | .tup cs => .tup (AV.renL ι cs)
  | .fn f cs => .fn f (AV.renL ι cs)
  | .mp id g off => .mp (at_ ι id) g off
  | .ms sz id g off len => .ms sz (at_ ι id) g off len
  | .yl id g => .yl (at_ ι id) g
  | .bad => .bad
  | .lit v => .lit v
  | .vs sz xs => .vs sz xs
  | .vp cs => .vp cs
  | .es => .es
  | .nni => .nni
def AV.renL (ι : List Nat) (as : List AV) : List AV := match as with
  | [] => []
  | a :: as => a.ren ι :: AV.renL ι as
end

def AObj.ren (ι : List Nat) : AObj → AObj
  | .own g cs => .own g (AV.renL ι cs)
  | .gone => .gone
  | .raw g o es us => .raw g o (AV.renL ι es) us

mutual
theorem AV.ren_nid {ι : List Nat} : ∀ {a : AV}, a.nid = true → a.ren ι = a
  | .bad, _ | .lit _, _ | .vs _ _, _ | .vp _, _ | .es, _ | .nni, _ => by simp only [AV.ren]
  | .agg cs, h => by simp only [AV.nid] at h; simp only [AV.ren, AV.renL_nid h]
  | .tup cs, h => by simp only [AV.nid] at h; simp only [AV.ren, AV.renL_nid h]
  | .fn f cs, h => by simp only [AV.nid] at h; simp only [AV.ren, AV.renL_nid h]
  | .mp _ _ _, h | .ms _ _ _ _ _, h | .yl _ _, h => by simp [AV.nid] at h
theorem AV.renL_nid {ι : List Nat} : ∀ {as : List AV}, AV.nidL as = true → AV.renL ι as = as
  | [], _ => by simp only [AV.renL]
  | a :: as, h => by
    simp only [AV.nidL, Bool.and_eq_true] at h
    simp only [AV.renL, AV.ren_nid h.1, AV.renL_nid h.2]
end

mutual
theorem AV.lt_nid {n : Nat} : ∀ {a : AV}, a.nid = true → a.lt n
  | .bad, _ | .lit _, _ | .vs _ _, _ | .vp _, _ | .es, _ | .nni, _ => by simp only [AV.lt]
  | .agg cs, h => by simp only [AV.nid] at h; simp only [AV.lt]; exact AV.ltL_nid h
  | .tup cs, h => by simp only [AV.nid] at h; simp only [AV.lt]; exact AV.ltL_nid h
  | .fn f cs, h => by simp only [AV.nid] at h; simp only [AV.lt]; exact AV.ltL_nid h
  | .mp _ _ _, h | .ms _ _ _ _ _, h | .yl _ _, h => by simp [AV.nid] at h
theorem AV.ltL_nid {n : Nat} : ∀ {as : List AV}, AV.nidL as = true → AV.ltL n as
  | [], _ => by simp only [AV.ltL]
  | a :: as, h => by
    simp only [AV.nidL, Bool.and_eq_true] at h
    simp only [AV.ltL]; exact ⟨AV.lt_nid h.1, AV.ltL_nid h.2⟩
end

/-- where the objects of the few lie: s knows of them what st knows -/
def Sel (ι : List Nat) (s st : St) : Prop := s.rd = st.rd ∧ ∀ (k i : Nat), ι[k]? = some i → st.loc[i]? = s.loc[k]?

mutual
theorem RelV.ren_to {ι : List Nat} {s st : St} (h : Sel ι s st) (hn : s.loc.length ≤ ι.length) : ∀ {a : AV} {v : Value}, RelV s a v → RelV st (a.ren ι) v
  | .bad, _, _ => by simp only [AV.ren, RelV]
  | .lit u, v, hv => by simp only [AV.ren, RelV] at hv ⊢; exact hv
  | .agg cs, v, hv => by
    simp only [AV.ren, RelV] at hv ⊢
    obtain ⟨us, h1, h2, h3⟩ := hv
    exact ⟨us, h1, RelL.ren_to h hn h2, h3⟩
  | .tup cs, v, hv => by
    simp only [AV.ren, RelV] at hv ⊢
    obtain ⟨us, h1, h2⟩ := hv
    exact ⟨us, h1, RelL.ren_to h hn h2⟩
  | .vs sz es, v, hv => by simp only [AV.ren, RelV, St.pure] at hv ⊢; rw [← h.1]; exact hv
  | .vp cs, v, hv => by simp only [AV.ren, RelV, St.pure] at hv ⊢; rw [← h.1]; exact hv
  | .mp id g off, v, hv => by
    simp only [AV.ren, RelV] at hv ⊢
    obtain ⟨l, h1, h2⟩ := hv
    have : id < ι.length := Nat.lt_of_lt_of_le (List.getElem?_eq_some_iff.1 h1).1 hn
    exact ⟨l, by rw [at_, List.getElem?_eq_getElem this, Option.getD_some, h.2 id _ (List.getElem?_eq_getElem this), h1], h2⟩
  | .ms sz id g off len, v, hv => by
    simp only [AV.ren, RelV] at hv ⊢
    obtain ⟨l, h1, h2⟩ := hv
    have : id < ι.length := Nat.lt_of_lt_of_le (List.getElem?_eq_some_iff.1 h1).1 hn
    exact ⟨l, by rw [at_, List.getElem?_eq_getElem this, Option.getD_some, h.2 id _ (List.getElem?_eq_getElem this), h1], h2⟩
  | .yl id g, v, hv => by
    simp only [AV.ren, RelV] at hv ⊢
    obtain ⟨l, h1, h2⟩ := hv
    have : id < ι.length := Nat.lt_of_lt_of_le (List.getElem?_eq_some_iff.1 h1).1 hn
    exact ⟨l, by rw [at_, List.getElem?_eq_getElem this, Option.getD_some, h.2 id _ (List.getElem?_eq_getElem this), h1], h2⟩
  | .es, v, hv => by simp only [AV.ren, RelV] at hv ⊢; exact hv
  | .nni, v, hv => by simp only [AV.ren, RelV] at hv ⊢; exact hv
  | .fn f caps, v, hv => by
    simp only [AV.ren, RelV] at hv ⊢
    obtain ⟨us, h1, h2⟩ := hv
    exact ⟨us, h1, RelL.ren_to h hn h2⟩
theorem RelL.ren_to {ι : List Nat} {s st : St} (h : Sel ι s st) (hn : s.loc.length ≤ ι.length) : ∀ {as : List AV} {us : List Value}, RelL s as us → RelL st (AV.renL ι as) us
  | [], us, hv => by simp only [AV.renL, RelL] at hv ⊢; exact hv
  | a :: as, us, hv => by
    simp only [AV.renL, RelL] at hv ⊢
    obtain ⟨u, us', h1, h2, h3⟩ := hv
    exact ⟨u, us', h1, RelV.ren_to h hn h2, RelL.ren_to h hn h3⟩
end

mutual
theorem RelV.ren_of {ι : List Nat} {s st : St} (h : Sel ι s st) : ∀ {a : AV} {v : Value}, a.lt ι.length → RelV st (a.ren ι) v → RelV s a v
  | .bad, _, _, _ => by simp only [RelV]
  | .lit u, v, _, hv => by simp only [AV.ren, RelV] at hv ⊢; exact hv
  | .agg cs, v, hl, hv => by
    simp only [AV.lt] at hl
    simp only [AV.ren, RelV] at hv ⊢
    obtain ⟨us, h1, h2, h3⟩ := hv
    exact ⟨us, h1, RelL.ren_of h hl h2, h3⟩
  | .tup cs, v, hl, hv => by
    simp only [AV.lt] at hl
    simp only [AV.ren, RelV] at hv ⊢
    obtain ⟨us, h1, h2⟩ := hv
    exact ⟨us, h1, RelL.ren_of h hl h2⟩
  | .vs sz es, v, _, hv => by simp only [AV.ren, RelV, St.pure] at hv ⊢; rw [h.1]; exact hv
  | .vp cs, v, _, hv => by simp only [AV.ren, RelV, St.pure] at hv ⊢; rw [h.1]; exact hv
  | .mp id g off, v, hl, hv => by
    simp only [AV.lt] at hl
    simp only [AV.ren, RelV] at hv ⊢
    obtain ⟨l, h1, h2⟩ := hv
    exact ⟨l, by rw [← h.2 id _ (List.getElem?_eq_getElem hl), ← h1, at_, List.getElem?_eq_getElem hl, Option.getD_some], h2⟩
  | .ms sz id g off len, v, hl, hv => by
    simp only [AV.lt] at hl
    simp only [AV.ren, RelV] at hv ⊢
    obtain ⟨l, h1, h2⟩ := hv
    exact ⟨l, by rw [← h.2 id _ (List.getElem?_eq_getElem hl), ← h1, at_, List.getElem?_eq_getElem hl, Option.getD_some], h2⟩
  | .yl id g, v, hl, hv => by
    simp only [AV.lt] at hl
    simp only [AV.ren, RelV] at hv ⊢
    obtain ⟨l, h1, h2⟩ := hv
    exact ⟨l, by rw [← h.2 id _ (List.getElem?_eq_getElem hl), ← h1, at_, List.getElem?_eq_getElem hl, Option.getD_some], h2⟩
  | .es, v, _, hv => by simp only [AV.ren, RelV] at hv ⊢; exact hv
  | .nni, v, _, hv => by simp only [AV.ren, RelV] at hv ⊢; exact hv
  | .fn f caps, v, hl, hv => by
    simp only [AV.lt] at hl
    simp only [AV.ren, RelV] at hv ⊢
    obtain ⟨us, h1, h2⟩ := hv
    exact ⟨us, h1, RelL.ren_of h hl h2⟩
theorem RelL.ren_of {ι : List Nat} {s st : St} (h : Sel ι s st) : ∀ {as : List AV} {us : List Value}, AV.ltL ι.length as → RelL st (AV.renL ι as) us → RelL s as us
  | [], us, _, hv => by simp only [AV.renL, RelL] at hv ⊢; exact hv
  | a :: as, us, hl, hv => by
    simp only [AV.ltL] at hl
    simp only [AV.renL, RelL] at hv ⊢
    obtain ⟨u, us', h1, h2, h3⟩ := hv
    exact ⟨u, us', h1, RelV.ren_of h hl.1 h2, RelL.ren_of h hl.2 h3⟩
end

/-! ### A list with some of its places turned, and more behind it -/
def updL {α : Type} : List α → List Nat → List α → List α
  | L, i :: ι, x :: N => updL (L.set i x) ι N
  | L, _, _ => L

def merge {α : Type} (L : List α) (ι : List Nat) (N : List α) : List α := updL L ι N ++ N.drop ι.length

/-- the names, with those of new objects -/
def more (ι : List Nat) (n k : Nat) : List Nat := ι ++ List.range' n (k - ι.length)

section
variable {α : Type}
theorem updL_length : ∀ (ι : List Nat) (L N : List α), (updL L ι N).length = L.length
  | [], L, N => by simp [updL]
  | i :: ι, L, [] => by simp [updL]
  | i :: ι, L, x :: N => by simp [updL, updL_length ι]

theorem updL_other : ∀ (ι : List Nat) (L N : List α) (id : Nat), id ∉ ι → (updL L ι N)[id]? = L[id]?
  | [], L, N, id, h => by simp [updL]
  | i :: ι, L, [], id, h => by simp [updL]
  | i :: ι, L, x :: N, id, h => by
    simp only [List.mem_cons, not_or] at h
    rw [updL, updL_other ι _ N id h.2, List.getElem?_set_ne (Ne.symm h.1)]

theorem updL_at : ∀ (ι : List Nat) (L N : List α) (k id : Nat), ι.Nodup → ι[k]? = some id → id < L.length → k < N.length → (updL L ι N)[id]? = N[k]?
  | [], L, N, k, id, _, h, _, _ => by simp at h
  | i :: ι, L, [], k, id, _, _, _, h => by simp at h
  | i :: ι, L, x :: N, 0, id, hn, h, hl, _ => by
    simp at h; subst h
    have hn := List.nodup_cons.1 hn
    rw [updL, updL_other ι _ N i hn.1]; simp [hl]
  | i :: ι, L, x :: N, k + 1, id, hn, h, hl, hk => by
    simp at h hk
    have hn := List.nodup_cons.1 hn
    rw [updL, updL_at ι _ N k id hn.2 h (by simpa using hl) hk]; simp

variable {L N : List α} {ι : List Nat}
theorem merge_length (h : ι.length ≤ N.length) : (merge L ι N).length = L.length + (N.length - ι.length) := by simp [merge, updL_length]

theorem more_get {n k id : Nat} {c : Nat} (h : (more ι n c)[k]? = some id) : ι[k]? = some id ∨ (ι.length ≤ k ∧ k < ι.length + (c - ι.length) ∧ id = n + (k - ι.length)) := by
  unfold more at h
  rcases Nat.lt_or_ge k ι.length with hk | hk
  · rw [List.getElem?_append_left hk] at h; exact .inl h
  · rw [List.getElem?_append_right hk] at h
    right
    have hlt : k - ι.length < c - ι.length := by
      rcases Nat.lt_or_ge (k - ι.length) (c - ι.length) with h1 | h1
      · exact h1
      · rw [List.getElem?_eq_none (by simpa using h1)] at h; cases h
    rw [List.getElem?_eq_getElem (by simpa using hlt)] at h
    simp at h
    omega

theorem more_length {n c : Nat} (h : ι.length ≤ c) : (more ι n c).length = c := by simp [more]; omega

theorem merge_at {k id : Nat} (hn : ι.Nodup) (hι : ∀ i ∈ ι, i < L.length) (hN : ι.length ≤ N.length) (h : (more ι L.length N.length)[k]? = some id) : (merge L ι N)[id]? = N[k]? := by
  rcases more_get h with h | ⟨h1, h2, rfl⟩
  · have hl := hι id (List.mem_of_getElem? h)
    have hk := (List.getElem?_eq_some_iff.1 h).1
    rw [merge, List.getElem?_append_left (by rw [updL_length]; exact hl), updL_at ι L N k id hn h hl (by omega)]
  · rw [merge, List.getElem?_append_right (by rw [updL_length]; omega), updL_length, List.getElem?_drop]
    congr 1; omega

theorem merge_other {id : Nat} (h : id ∉ ι) (hl : id < L.length) : (merge L ι N)[id]? = L[id]? := by
  rw [merge, List.getElem?_append_left (by rw [updL_length]; exact hl), updL_other ι L N id h]

theorem merge_cover {id : Nat} (hN : ι.length ≤ N.length) (h : id < (merge L ι N).length) : (∃ k, k < N.length ∧ (more ι L.length N.length)[k]? = some id) ∨ (id ∉ ι ∧ id < L.length) := by
  rw [merge_length hN] at h
  by_cases hm : id ∈ ι
  · obtain ⟨k, hk⟩ := List.mem_iff_getElem?.1 hm
    have hlt := (List.getElem?_eq_some_iff.1 hk).1
    exact .inl ⟨k, by omega, by rw [more, List.getElem?_append_left hlt, hk]⟩
  · rcases Nat.lt_or_ge id L.length with hl | hl
    · exact .inr ⟨hm, hl⟩
    · refine .inl ⟨ι.length + (id - L.length), by omega, ?_⟩
      rw [more, List.getElem?_append_right (by omega), List.getElem?_eq_getElem (by simp; omega)]
      simp; omega
end

/-! ### The frame -/
theorem ObjOk.ren {ι : List Nat} {s st : St} {w : World} {l : Loc} {X : AObj} (h : Sel ι s st) (hn : s.loc.length ≤ ι.length) (hX : ObjOk s w l X) : ObjOk st w l (X.ren ι) := by
  cases X with
  | gone => exact hX
  | raw g o es us => exact ⟨hX.1, RelL.ren_to h hn hX.2.1, hX.2.2⟩
  | own g cs =>
    simp only [AObj.ren, ObjOk] at hX ⊢
    refine ⟨hX.1, fun b o r hb => ?_⟩
    obtain ⟨arr, T, us, f1, f2, f3, f4, f5, f6⟩ := hX.2 b o r hb
    have e1 := f4.length
    have f4' := f4.ren_to h hn
    exact ⟨arr, T, us, f1, f2, by rw [← f4'.length, e1]; exact f3, f4', f5, f6⟩

theorem ObjOk.ren_of {ι : List Nat} {s st : St} {w : World} {l : Loc} {X : AObj} (h : Sel ι s st) (hl : X.lt ι.length) (hX : ObjOk st w l (X.ren ι)) : ObjOk s w l X := by
  cases X with
  | gone => exact hX
  | raw g o es us => exact ⟨hX.1, RelL.ren_of h hl hX.2.1, hX.2.2⟩
  | own g cs =>
    simp only [AObj.ren, ObjOk, AObj.lt] at hX hl ⊢
    refine ⟨hX.1, fun b o r hb => ?_⟩
    obtain ⟨arr, T, us, f1, f2, f3, f4, f5, f6⟩ := hX.2 b o r hb
    have e1 := f4.length
    have f4' := f4.ren_of h hl
    exact ⟨arr, T, us, f1, f2, by rw [← f4'.length, e1]; exact f3, f4', f5, f6⟩

theorem merge_sel {st s1 : St} {ι : List Nat} (hn : ι.Nodup) (hι : ∀ i ∈ ι, i < st.loc.length) (h1 : ι.length ≤ s1.loc.length) :
    Sel (more ι st.loc.length s1.loc.length) s1 ⟨s1.rd, merge st.loc ι s1.loc⟩ := ⟨rfl, fun k i hk => merge_at hn hι h1 hk⟩

theorem ACalls.frame {P : Program} {f : Nat} {args : List AV} {H0 H : AHeap} {K0 : AV → AHeap → Prop} (ι : List Nat) (h : ACalls P f args H0 K0)
    (hnd : ι.Nodup) (hlen : H0.length = ι.length) (hlt : AV.ltL ι.length args) (hlt0 : ltH ι.length H0) (hsub : ∀ k X, H0[k]? = some X → H[at_ ι k]? = some (X.ren ι)) :
    ACalls P f (AV.renL ι args) H fun r H' => ∃ r0 H1, K0 r0 H1 ∧ ι.length ≤ H1.length ∧ r = r0.ren (more ι H.length H1.length) ∧ H' = merge H ι (H1.map (AObj.ren (more ι H.length H1.length))) := by
  refine ⟨h.1, fun st w vals hH hv => ?_⟩
  have hatι : ∀ (k i : Nat), ι[k]? = some i → at_ ι k = i := fun k i hk => by simp [at_, hk]
  have hι : ∀ i ∈ ι, i < st.loc.length := by
    intro i hi
    obtain ⟨k, hk⟩ := List.mem_iff_getElem?.1 hi
    have hlt := (List.getElem?_eq_some_iff.1 hk).1
    have := hsub k _ (List.getElem?_eq_getElem (by omega))
    rw [hatι k i hk] at this
    rw [hH.len]; exact (List.getElem?_eq_some_iff.1 this).1
  let s : St := ⟨st.rd, ι.map fun i => (st.loc[i]?).getD ⟨0, none⟩⟩
  have hsel : Sel ι s st := ⟨rfl, fun k i hk => by
    have := hι i (List.mem_of_getElem? hk)
    simp [s, hk, List.getElem?_eq_getElem this]⟩
  have hsl : s.loc.length = ι.length := by simp [s]
  have hget : ∀ (k : Nat) (l : Loc), s.loc[k]? = some l → ∃ i, ι[k]? = some i ∧ st.loc[i]? = some l := by
    intro k l hk
    have hlt : k < ι.length := by rw [← hsl]; exact (List.getElem?_eq_some_iff.1 hk).1
    exact ⟨ι[k], List.getElem?_eq_getElem hlt, by rw [hsel.2 k _ (List.getElem?_eq_getElem hlt)]; exact hk⟩
  have hows : ∀ b, Owned s b → ∃ (i : Nat) (l : Loc) (o r : Nat), i ∈ ι ∧ st.loc[i]? = some l ∧ l.base = some (b, o, r) := by
    rintro b ⟨k, l, o, r, h1, h2⟩
    obtain ⟨i, hi, hl⟩ := hget k l h1
    exact ⟨i, l, o, r, List.mem_of_getElem? hi, hl, h2⟩
  have hown : ∀ b, Owned s b → Owned st b := fun b hb => by
    obtain ⟨i, l, o, r, _, h1, h2⟩ := hows b hb
    exact ⟨i, l, o, r, h1, h2⟩
  have hidx : ∀ (k k' i : Nat), ι[k]? = some i → ι[k']? = some i → k = k' := by
    intro k k' i hk hk'
    have h1 := (List.getElem?_eq_some_iff.1 hk).1
    exact (List.getElem?_inj h1 hnd).1 (hk.trans hk'.symm)
  have hs : RelH s w H0 := by
    refine ⟨by rw [hsl, hlen], fun b o c hc => ⟨(hH.rd b o c hc).1, (hH.rd b o c hc).2.1, fun ho => (hH.rd b o c hc).2.2 (hown b ho)⟩, ?_, ?_⟩
    · intro k l X hl hX
      obtain ⟨i, hi, hl'⟩ := hget k l hl
      have h1 := hsub k X hX
      rw [hatι k i hi] at h1
      exact ObjOk.ren_of hsel (ltH_get hlt0 hX) (hH.obj i l _ hl' h1)
    · intro k k' l l' b o r o' r' h1 h2 h3 h4
      obtain ⟨i, hi, hl⟩ := hget k l h1
      obtain ⟨i', hi', hl'⟩ := hget k' l' h2
      have := hH.inj i i' l l' b o r o' r' hl hl' h3 h4
      subst this
      exact hidx k k' i hi hi'
  refine (h.2 s w vals hs (RelL.ren_of hsel hlt hv)).mono fun x w' hx => ?_
  obtain ⟨v, r0, H1, s1, hxv, hext, hH1, hr, hK⟩ := hx
  have hle1 : ι.length ≤ s1.loc.length := by
    rcases Nat.eq_zero_or_pos ι.length with h0 | h0
    · omega
    · have hl : ι.length - 1 < s.loc.length := by omega
      obtain ⟨l', h1, _⟩ := hext.le.loc (ι.length - 1) _ (List.getElem?_eq_getElem hl)
      have := (List.getElem?_eq_some_iff.1 h1).1
      omega
  have hselm := merge_sel (s1 := s1) hnd hι hle1
  let st' : St := ⟨s1.rd, merge st.loc ι s1.loc⟩
  have hlenH1 := hH1.len
  have hιH : ∀ i ∈ ι, i < H.length := fun i hi => by rw [← hH.len]; exact hι i hi
  rw [hH.len, hlenH1] at hselm
  have hmor : (more ι H.length H1.length).length = H1.length := more_length (by omega)
  have hat : ∀ (k id : Nat), (more ι H.length H1.length)[k]? = some id → st'.loc[id]? = s1.loc[k]? := fun k id hk => hselm.2 k id hk
  have hat' : ∀ (k id : Nat), (more ι H.length H1.length)[k]? = some id → (merge H ι (H1.map (AObj.ren (more ι H.length H1.length))))[id]? = (H1[k]?).map (AObj.ren (more ι H.length H1.length)) := fun k id hk => by
    rw [merge_at hnd hιH (by simp; omega) (by simpa using hk)]; simp
  have hot : ∀ (id : Nat), id ∉ ι → id < st.loc.length → st'.loc[id]? = st.loc[id]? := fun id h1 h2 => merge_other h1 h2
  have hot' : ∀ (id : Nat), id ∉ ι → id < st.loc.length → (merge H ι (H1.map (AObj.ren (more ι H.length H1.length))))[id]? = H[id]? := fun id h1 h2 => merge_other h1 (by rw [← hH.len]; exact h2)
  have hcov : ∀ (id : Nat) (l : Loc), st'.loc[id]? = some l → (∃ k : Nat, (more ι H.length H1.length)[k]? = some id ∧ s1.loc[k]? = some l) ∨ (id ∉ ι ∧ id < st.loc.length ∧ st.loc[id]? = some l) := by
    intro id l hl
    rcases merge_cover hle1 (List.getElem?_eq_some_iff.1 hl).1 with ⟨k, hk, hk'⟩ | ⟨h1, h2⟩
    · rw [hH.len, hlenH1] at hk'
      exact .inl ⟨k, hk', by rw [← hat k id hk']; exact hl⟩
    · exact .inr ⟨h1, h2, by rw [← hot id h1 h2]; exact hl⟩
  have hnot : ∀ (id : Nat) (l : Loc) (b o r : Nat), id ∉ ι → st.loc[id]? = some l → l.base = some (b, o, r) → ¬ Owned s b := by
    intro id l b o r h1 h2 h3 ho
    obtain ⟨i, l', o', r', h4, h5, h6⟩ := hows b ho
    have := hH.inj id i l l' b o r o' r' h2 h5 h3 h6
    subst this; exact h1 h4
  have hle : st.le st' := by
    refine ⟨fun b o c hc => hext.le.rd b o c hc, fun id l hl => ?_⟩
    by_cases hm : id ∈ ι
    · obtain ⟨k, hk⟩ := List.mem_iff_getElem?.1 hm
      have hk2 := hsel.2 k id hk
      obtain ⟨l', h1, h2, h3⟩ := hext.le.loc k l (by rw [← hk2]; exact hl)
      refine ⟨l', ?_, h2, h3⟩
      rw [hat k id (by rw [more, List.getElem?_append_left (List.getElem?_eq_some_iff.1 hk).1, hk])]; exact h1
    · exact ⟨l, by rw [hot id hm (List.getElem?_eq_some_iff.1 hl).1]; exact hl, Nat.le_refl _, fun _ => rfl⟩
  have hown' : ∀ b, Owned st' b → Owned s1 b ∨ ∃ (id : Nat) (l : Loc) (o r : Nat), id ∉ ι ∧ st.loc[id]? = some l ∧ l.base = some (b, o, r) := by
    rintro b ⟨id, l, o, r, h1, h2⟩
    rcases hcov id l h1 with ⟨k, _, hk⟩ | ⟨h3, h4, h5⟩
    · exact .inl ⟨k, l, o, r, hk, h2⟩
    · exact .inr ⟨id, l, o, r, h3, h5, h2⟩
  have hsep : ∀ (id : Nat) (l : Loc) (b o r : Nat), id ∉ ι → st.loc[id]? = some l → l.base = some (b, o, r) → ¬ Owned s1 b := by
    intro id l b o r h1 h2 h3 ho
    rcases hext.own b ho with h4 | h4
    · exact hnot id l b o r h1 h2 h3 h4
    · have := owned_lt hH ⟨id, l, o, r, h2, h3⟩; omega
  refine ⟨v, r0.ren (more ι H.length H1.length), _, st', hxv, ?_, ?_, hr.ren_to hselm (by rw [hmor, hlenH1]; exact Nat.le_refl _), r0, H1, hK, by omega, rfl, rfl⟩
  · refine ⟨hle, hext.size, fun b hb ho => hext.frame b hb fun h => ho (hown b h), fun b hb => ?_, hext.os, hext.output, fun b o c hc => ?_⟩
    · rcases hown' b hb with h1 | ⟨id, l, o, r, _, h2, h3⟩
      · exact (hext.own b h1).imp (hown b) fun h => h
      · exact .inl ⟨id, l, o, r, h2, h3⟩
    · exact (hext.rdn b o c hc).imp (fun h => h) fun h => h.imp (fun h => h) (hown b)
  · refine ⟨?_, ?_, ?_, ?_⟩
    · show (merge st.loc ι s1.loc).length = _
      rw [merge_length hle1, merge_length (by simp; omega), hH.len, hlenH1]; simp
    · intro b o c hc
      have h1 := hH1.rd b o c hc
      refine ⟨h1.1, h1.2.1, fun ho => ?_⟩
      rcases hown' b ho with h2 | ⟨id, l, o', r, h2, h3, h4⟩
      · exact h1.2.2 h2
      · rcases hext.rdn b o c hc with h5 | h5 | h5
        · exact (hH.rd b o c h5).2.2 ⟨id, l, o', r, h3, h4⟩
        · have := owned_lt hH ⟨id, l, o', r, h3, h4⟩; omega
        · exact hnot id l b o' r h2 h3 h4 h5
    · intro id l X hl hX
      rcases hcov id l hl with ⟨k, hk, hk'⟩ | ⟨h3, h4, h5⟩
      · rw [hat' k id hk] at hX
        obtain ⟨X1, hX1, rfl⟩ := Option.map_eq_some_iff.1 hX
        exact ObjOk.ren hselm (by rw [hmor, hlenH1]; exact Nat.le_refl _) (hH1.obj k l X1 hk' hX1)
      · rw [hot' id h3 h4] at hX
        exact (hH.obj id l X h5 hX).mono hle fun b o r hb => hext.frame b (owned_lt hH ⟨id, l, o, r, h5, hb⟩) (hnot id l b o r h3 h5 hb)
    · intro id id' l l' b o r o' r' h1 h2 h3 h4
      rcases hcov id l h1 with ⟨k, hk, hk2⟩ | ⟨g1, g2, g3⟩ <;> rcases hcov id' l' h2 with ⟨k', hk', hk2'⟩ | ⟨g1', g2', g3'⟩
      · have := hH1.inj k k' l l' b o r o' r' hk2 hk2' h3 h4
        subst this; rw [hk] at hk'; exact Option.some.inj hk'
      · exact absurd ⟨k, l, o, r, hk2, h3⟩ (hsep id' l' b o' r' g1' g3' h4)
      · exact absurd ⟨k', l', o', r', hk2', h4⟩ (hsep id l b o r g1 g3 h3)
      · exact hH.inj id id' l l' b o r o' r' g3 g3' h3 h4
end Go.Sas
namespace Go.Sas

/-! ### What an operation looks at -/
section congr
variable {e e' : Od → AV} {H : AHeap} {op : AOp}

theorem odl_congr {x : Option Od} (h : ∀ y ∈ odl x, e y = e' y) : x.map e = x.map e' := by
  cases x with
  | none => rfl
  | some x => simp [h x (by simp [odl])]

theorem opVal_congr (h : ∀ x ∈ opOds op, e x = e' x) : opVal e H op = opVal e' H op := by
  cases op <;> simp only [opOds, List.mem_cons, List.not_mem_nil, or_false, forall_eq_or_imp, forall_eq, List.mem_append, or_imp, forall_and] at h <;> try (simp only [opVal, h]; done)
  case mk z ps =>
    have : ps.map (fun (o, n, x) => (o, n, e x)) = ps.map (fun (o, n, x) => (o, n, e' x)) := by
      apply List.map_congr_left
      rintro ⟨o, n, x⟩ hx
      have := h x (by simp only [List.mem_map]; exact ⟨(o, n, x), hx, rfl⟩)
      simp [this]
    simp only [opVal, this]
  case mks mu sz xs =>
    have : xs.map e = xs.map e' := List.map_congr_left h
    cases mu <;> simp only [opVal, this]
  case mkf f xs => simp only [opVal, List.map_congr_left h]
  case mx xs => simp only [opVal, List.map_congr_left h]
  case mn xs => simp only [opVal, List.map_congr_left h]
  case sl sz x a b c => simp only [opVal, h.1, odl_congr h.2.1.1, odl_congr h.2.1.2, odl_congr h.2.2]
  case ssl x a b => simp only [opVal, h.1, odl_congr h.2.1, odl_congr h.2.2]

theorem opAct_congr (h : ∀ x ∈ opOds op, e x = e' x) : opAct e H op = opAct e' H op := by
  cases op <;> simp only [opOds, List.mem_cons, List.not_mem_nil, or_false, forall_eq_or_imp, forall_eq, List.mem_append, or_imp, forall_and] at h <;> try (simp only [opAct, h]; done)
  case mks mu sz xs =>
    have : xs.map e = xs.map e' := List.map_congr_left h
    cases mu <;> simp only [opAct, this]
end congr

/-! ### Part of a heap -/
/-- `own g []`: the object is there, what it holds is not said -/
def SubH : AHeap → AHeap → Prop
  | [], _ => True
  | .gone :: M, _ :: H => SubH M H
  | .own g [] :: M, .own g' _ :: H => g = g' ∧ SubH M H
  | x :: M, y :: H => x = y ∧ SubH M H
  | _ :: _, [] => False

def SubX (X : AObj) (o : Option AObj) : Prop := o = some X ∨ ∃ g cs, X = .own g [] ∧ o = some (.own g cs)

theorem SubH.uncons {x y : AObj} {M H : AHeap} (h : SubH (x :: M) (y :: H)) : SubH M H ∧ (x ≠ .gone → SubX x (some y)) := by
  cases x with
  | gone => simp only [SubH] at h; exact ⟨h, fun hx => absurd rfl hx⟩
  | raw g o es us => simp only [SubH] at h; exact ⟨h.2, fun _ => .inl (by rw [h.1])⟩
  | own g cs =>
    cases cs with
    | cons c cs => simp only [SubH] at h; exact ⟨h.2, fun _ => .inl (by rw [h.1])⟩
    | nil =>
      cases y with
      | own g' cs' => simp only [SubH] at h; exact ⟨h.2, fun _ => .inr ⟨g, cs', rfl, by rw [h.1]⟩⟩
      | gone => simp [SubH] at h
      | raw g' o es us => simp [SubH] at h

theorem SubH.get : ∀ {M H : AHeap} {id : Nat} {X : AObj}, SubH M H → M[id]? = some X → X ≠ .gone → SubX X H[id]?
  | [], H, id, X, _, h, _ => by simp at h
  | x :: M, [], id, X, hs, h, _ => by cases x <;> simp [SubH] at hs
  | x :: M, y :: H, 0, X, hs, h, hx => by simp at h; subst h; exact hs.uncons.2 hx
  | x :: M, y :: H, id + 1, X, hs, h, hx => by simp at h ⊢; exact SubH.get hs.uncons.1 h hx

theorem SubH.live {M H : AHeap} {id g : Nat} (hs : SubH M H) (h : live M id g = true) : live H id g = true := by
  unfold Go.Sas.live at *
  split at h
  · rename_i g' cs hX
    rcases hs.get hX (by simp) with h1 | ⟨g2, cs2, h1, h2⟩
    · rw [h1]; exact h
    · cases h1; rw [h2]; exact h
  · rename_i g' ob es us hX
    rcases hs.get hX (by simp) with h1 | ⟨g2, cs2, h1, h2⟩
    · rw [h1]; exact h
    · cases h1
  · cases h

theorem ldA_sub {M H : AHeap} {n : Option Nat} {a r : AV} (hs : SubH M H) (h : ldA M n a = some r) : ldA H n a = some r := by
  unfold ldA at *
  split at h
  · exact h
  · split at h
    · rename_i g' cs hX
      rcases hs.get hX (by simp) with h1 | ⟨g2, cs2, h1, h2⟩
      · simp only [h1]; exact h
      · cases h1
        simp only [h2]
        split at h
        · rename_i hg
          rw [if_pos hg]
          cases n with
          | none => simp [getN] at h
          | some k =>
            simp only [getN] at h ⊢
            split at h
            · rename_i hk
              simp only [List.length_nil, Nat.le_zero_eq, Nat.add_eq_zero_iff] at hk
              obtain ⟨rfl, rfl⟩ := hk
              rw [if_pos (by omega)]
              simpa using h
            · cases h
        · cases h
    · cases h
  · cases h

theorem opVal_sub {M H : AHeap} {e : Od → AV} {op : AOp} {r : AV} (hs : SubH M H) (h : opVal e M op = some r) : opVal e H op = some r := by
  have hl : ∀ {id g}, live M id g = true → live H id g = true := fun h => hs.live h
  cases op
  case ld n a => simp only [opVal] at h ⊢; exact ldA_sub hs h
  case nilc x =>
    simp only [opVal] at h ⊢
    unfold nilcA at *
    split at h
    · exact h
    · split at h
      · rename_i h1; rw [if_pos (hl h1)]; exact h
      · cases h
    · exact h
    · split at h
      · rename_i h1; rw [if_pos (hl h1)]; exact h
      · cases h
    · cases h
  case fa x off =>
    simp only [opVal] at h ⊢
    unfold faA at *
    split at h
    · exact h
    · split at h
      · rename_i h1; rw [if_pos (hl h1)]; exact h
      · cases h
    · cases h
  case ia sz x i =>
    simp only [opVal] at h ⊢
    unfold iaA at *
    split at h
    · exact h
    · split at h
      · rename_i h1; rw [if_pos ⟨h1.1, h1.2.1, h1.2.2.1, hl h1.2.2.2⟩]; exact h
      · cases h
    · cases h
  case iaa len sz x i =>
    simp only [opVal] at h ⊢
    unfold iaaA at *
    split at h
    · exact h
    · split at h
      · rename_i h1; rw [if_pos ⟨h1.1, h1.2.1, hl h1.2.2⟩]; exact h
      · cases h
    · cases h
  case len x =>
    simp only [opVal] at h ⊢
    unfold lenA at *
    split at h
    · exact h
    · split at h
      · rename_i h1; rw [if_pos (hl h1)]; exact h
      · cases h
    · exact h
    · exact h
    · cases h
  case sl sz x lo hi mx =>
    simp only [opVal] at h ⊢
    unfold slA at *
    split at h
    · exact h
    · split at h
      · split at h
        · rename_i h1; rw [if_pos ⟨h1.1, h1.2.1, h1.2.2.1, hl h1.2.2.2⟩]; exact h
        · cases h
      · split at h
        · rename_i m' hm'
          (try simp only [hm'])
          split at h
          · rename_i h1; rw [if_pos ⟨h1.1, h1.2.1, h1.2.2.1, h1.2.2.2.1, h1.2.2.2.2.1, hl h1.2.2.2.2.2⟩]; exact h
          · cases h
        · cases h
      · cases h
    · exact h
    · exact h
    · cases h
  case eqn neg x =>
    simp only [opVal] at h ⊢
    obtain ⟨b, hb, rfl⟩ := Option.map_eq_some_iff.1 h
    refine Option.map_eq_some_iff.2 ⟨b, ?_, rfl⟩
    unfold eqnA at *
    split at hb
    · exact hb
    · exact hb
    · split at hb
      · rename_i h1; rw [if_pos (hl h1)]; exact hb
      · cases hb
    · cases hb
  case mks mu sz xs => cases mu <;> exact h
  all_goals exact h

/-! ### The environment, by what is looked up -/
def EqE (e e' : Env) : Prop := (∀ t, look e.l t = look e'.l t) ∧ ∀ t, look e.g t = look e'.g t

theorem EqE.refl (e : Env) : EqE e e := ⟨fun _ => rfl, fun _ => rfl⟩
theorem EqE.symm {e e' : Env} (h : EqE e e') : EqE e' e := ⟨fun t => (h.1 t).symm, fun t => (h.2 t).symm⟩
theorem EqE.ev {e e' : Env} (h : EqE e e') (x : Od) : ev e x = ev e' x := by
  cases x with
  | l t => exact h.1 t
  | g t => exact h.2 t
  | c a => rfl
theorem look_put_l (e : Env) (b : Bool) (d : Nat) (r : AV) (t : Nat) : look (put e (some (b, d)) r).l t = if b = false ∧ d = t then r else look e.l t := by
  cases b <;> simp [put, look]
theorem look_put_g (e : Env) (b : Bool) (d : Nat) (r : AV) (t : Nat) : look (put e (some (b, d)) r).g t = if b = true ∧ d = t then r else look e.g t := by
  cases b <;> simp [put, look_gset]
theorem EqE.put {e e' : Env} (h : EqE e e') (d : Option (Bool × Nat)) (r : AV) : EqE (put e d r) (put e' d r) := by
  cases d with
  | none => exact h
  | some d =>
    obtain ⟨b, d⟩ := d
    exact ⟨fun t => by rw [look_put_l, look_put_l, h.1 t], fun t => by rw [look_put_g, look_put_g, h.2 t]⟩
theorem put_comm {e : Env} {d d' : Option (Bool × Nat)} {r r' : AV} (h : ∀ b x b' x', d = some (b, x) → d' = some (b', x') → x ≠ x') : EqE (put (put e d r) d' r') (put (put e d' r') d r) := by
  cases d with
  | none => exact .refl _
  | some d =>
    cases d' with
    | none => exact .refl _
    | some d' =>
      obtain ⟨b, x⟩ := d
      obtain ⟨b', x'⟩ := d'
      have hne := h b x b' x' rfl rfl
      refine ⟨fun t => ?_, fun t => ?_⟩
      · simp only [look_put_l]
        split <;> split <;> first | rfl | (rename_i h1 h2; exact absurd (h2.2.trans h1.2.symm) hne)
      · simp only [look_put_g]
        split <;> split <;> first | rfl | (rename_i h1 h2; exact absurd (h2.2.trans h1.2.symm) hne)

theorem Rel.eqE {cx : Cx} {st0 st : St} {w0 w : World} {e e' : Env} {H : AHeap} {a : Act} (h : Rel cx st0 w0 st w e H a) (he : EqE e e') : Rel cx st0 w0 st w e' H a :=
  ⟨h.ext, h.hH, fun t => by rw [← he.1 t]; exact h.l t, fun t => by rw [← he.2 t]; exact h.g t, fun t ht => by rw [← he.1 t]; exact h.kl t ht, fun t ht => by rw [← he.2 t]; exact h.kg t ht, h.n, h.d⟩

theorem AGo.eqE {cx : Cx} {m : Nat} {k : List AItm} {R : Env → AHeap → Prop} {e e' : Env} {H : AHeap} (h : AGo cx m k R e H) (he : EqE e e') : AGo cx m k R e' H :=
  fun st0 w0 kc hm hk st a w hr => h st0 w0 kc hm hk st a w (hr.eqE he.symm)

/-- they are alike in what the operation looks at -/
def Agree (e e' : Env) (o : AOper) : Prop := (∀ x ∈ opOds o.op, ev e x = ev e' x) ∧ gOk e o.grd = gOk e' o.grd

theorem EqE.agree {e e' : Env} (h : EqE e e') (o : AOper) : Agree e e' o := by
  refine ⟨fun x _ => h.ev x, ?_⟩
  cases hg : o.grd with
  | none => rfl
  | some g => simp only [gOk, h.ev]

theorem Agree.symm {e e' : Env} {o : AOper} (h : Agree e e' o) : Agree e' e o := ⟨fun x hx => (h.1 x hx).symm, h.2.symm⟩

theorem ev_put_ne {e : Env} {b : Bool} {d : Nat} {r : AV} {x : Od} (h : odSlot x ≠ some d) : ev (put e (some (b, d)) r) x = ev e x := by
  cases x with
  | l t => simp only [ev, look_put_l]; rw [if_neg]; rintro ⟨_, rfl⟩; exact h rfl
  | g t => simp only [ev, look_put_g]; rw [if_neg]; rintro ⟨_, rfl⟩; exact h rfl
  | c a => rfl

theorem agree_put {e : Env} {o : AOper} {d : Option (Bool × Nat)} {r : AV} (h : ∀ b t, d = some (b, t) → looks o t = false) : Agree (put e d r) e o := by
  cases d with
  | none => exact (EqE.refl e).agree o
  | some d =>
    obtain ⟨b, t⟩ := d
    have h := h b t rfl
    simp only [looks, Bool.or_eq_false_iff, List.any_eq_false, beq_iff_eq] at h
    refine ⟨fun x hx => ev_put_ne (h.1 x hx), ?_⟩
    cases hg : o.grd with
    | none => rfl
    | some g =>
      obtain ⟨x, wt⟩ := g
      simp only [hg, beq_eq_false_iff_ne] at h
      simp only [gOk, ev_put_ne h.2]

theorem apartA_spec {x y : AOper} (h : apartA x y = true) : (∀ b t, x.dst = some (b, t) → looks y t = false) ∧ (∀ b t, y.dst = some (b, t) → looks x t = false) ∧ (∀ b s b' t, x.dst = some (b, s) → y.dst = some (b', t) → s ≠ t) := by
  simp only [apartA, Bool.and_eq_true] at h
  refine ⟨fun b t hx => ?_, fun b t hy => ?_, fun b s b' t hx hy => ?_⟩
  · rw [hx] at h; simp at h; exact h.1.1
  · rw [hy] at h; simp at h; exact h.2
  · rw [hx, hy] at h; simp at h; exact h.1.2

/-! ### Steps of a region that draws its order -/
/-- what stays; where the new variables get their places -/
structure DM where
  M : AHeap
  base : Nat
  news : List Nat
  M1 : AHeap
  cs : List AV
  nn : Nat
  kc : List (Nat × Nat × Nat × AV)

/-- cells that stay as they are, of objects that are written to -/
def kcLook : List (Nat × Nat × Nat × AV) → Nat → Nat → Nat → Option AV
  | [], _, _, _ => none
  | (i, g, o, v) :: r, id, g', off => match Nat.beq i id && Nat.beq g g' && Nat.beq o off with
    | true => some v
    | false => kcLook r id g' off
def KcOk : List (Nat × Nat × Nat × AV) → AHeap → Prop
  | [], _ => True
  | (i, g, o, v) :: r, H => (∃ cs, H[i]? = some (.own g cs) ∧ cs[o]? = some v) ∧ KcOk r H
theorem kc_ld : ∀ {kc : List (Nat × Nat × Nat × AV)} {H : AHeap} {id g off : Nat} {v : AV}, KcOk kc H → kcLook kc id g off = some v → ldA H none (.mp id g off) = some v
  | [], H, id, g, off, v, _, h => by cases h
  | (i, g', o, u) :: r, H, id, g, off, v, hk, h => by
    simp only [kcLook] at h
    simp only [KcOk] at hk
    split at h
    · rename_i hb
      simp only [Bool.and_eq_true] at hb
      have h1 := Nat.eq_of_beq_eq_true hb.1.1
      have h2 := Nat.eq_of_beq_eq_true hb.1.2
      have h3 := Nat.eq_of_beq_eq_true hb.2
      subst h1 h2 h3
      cases h
      obtain ⟨⟨cs, e1, e2⟩, _⟩ := hk
      simp only [ldA, e1, if_true]
      simpa [getN] using e2
    · exact kc_ld hk.2 h
def KcK (kc : List (Nat × Nat × Nat × AV)) (H' : AHeap) (p : Prop) : Prop := match kc with
  | [] => p
  | kc => KcOk kc H' ∧ p
@[simp] theorem KcK_nil {H' : AHeap} {p : Prop} : KcK [] H' p = p := rfl
theorem KcK.mk {kc : List (Nat × Nat × Nat × AV)} {H' : AHeap} {p : Prop} (h : KcOk kc H') (hp : p) : KcK kc H' p := by
  unfold KcK; split
  · exact hp
  · exact ⟨h, hp⟩
theorem KcK.ok {kc : List (Nat × Nat × Nat × AV)} {H' : AHeap} {p : Prop} (h : KcK kc H' p) : KcOk kc H' ∧ p := by
  unfold KcK at h; split at h
  · exact ⟨trivial, h⟩
  · exact h

def posOf : List Nat → Nat → Nat → Option Nat
  | [], _, _ => none
  | x :: r, b, i => if x = i then some b else posOf r (b + 1) i

def MVal (D : DM) (it : DItm) (e : Env) : Option AV := match gOk e it.o.grd with
  | some false => some (.lit undef)
  | some true => match it.o.op with
    | .new _ => (posOf D.news D.base it.i).map fun id => .mp id 0 0
    | op => opVal (ev e) (match it.tail with | true => D.M1 | false => D.M) op
  | none => none

/-- a slice that is made: its length and its cells -/
def mkN (sz by_ : Nat) (z : List Value) (ln cp : Int) (cs : List AV) (n : Nat) : Prop := 0 ≤ ln ∧ ln ≤ cp ∧ cp ≤ 9223372036854775807 ∧ by_ * cp ≤ 281474976710656 ∧ z.length = sz ∧ n = ln.toNat ∧ cs = List.flatten (List.replicate ln.toNat (z.map .lit))
/-- a load from a cell that stays -/
def MKc (D : DM) (it : DItm) (e : Env) (r : AV) : Prop := gOk e it.o.grd = some true ∧ ∃ a id g off, it.o.op = .ld none a ∧ ev e a = .mp id g off ∧ kcLook D.kc id g off = some r
def MRel (D : DM) (it : DItm) (e : Env) (r : AV) : Prop := match isNwl it.o.op with
  | false => MVal D it e = some r ∨ MKc D it e r
  | true => match gOk e it.o.grd with
    | some false => r = .lit undef
    | some true => (∃ sz by_ z l c ln cp id, it.o.op = .newl sz by_ z l c ∧ ev e l = .lit (.int .i64 ln) ∧ ev e c = .lit (.int .i64 cp) ∧ mkN sz by_ z ln cp D.cs D.nn ∧ posOf D.news D.base it.i = some id ∧ r = .ms sz id 0 0 D.nn) ∨
      ∃ (xs : List Od) (us : List Value) (id : Nat), it.o.op = .newm 1 xs ∧ xs.map (ev e) = us.map .lit ∧ (∀ u ∈ us, Scal u) ∧ D.cs = us.map .lit ∧ D.nn = us.length ∧ posOf D.news D.base it.i = some id ∧ r = .ms 1 id 0 0 D.nn
    | none => False

def ResK : List Nat → Nat → List Nat → AHeap → AHeap → Prop
  | [], _, _, _, _ => True
  | i :: r, b, ws, H, H' => (ws.contains i = true ∨ H'[b]? = H[b]?) ∧ ResK r (b + 1) ws H H'

def Keep (D : Option DM) (it : DItm) (H H' : AHeap) : Prop := match D with
  | none => True
  | some D => it.tail = true ∨ KcK D.kc H' (SubH D.M H' ∧ ResK D.news D.base it.ws H H' ∧ (isStB it.o.op = true ∨ (SubH D.M1 H → SubH D.M1 H')))

def nx (D : Option DM) (it : DItm) : Option DM := if it.tail then none else D

def JStep (P : Program) (D : Option DM) (it : DItm) (e : Env) (H : AHeap) (K : Option DM → AV → AHeap → Prop) : Prop :=
  match movB it.o.op with
  | true => match D with
    | none => False
    | some D' => ∃ r, MRel D' it e r ∧ K (some D') r H
  | false => match gOk e it.o.grd with
    | none => False
    | some false => K (nx D it) (.lit undef) H
    | some true => match it.o.op with
      | .call f xs => ∃ fid caps, ev e f = .fn fid caps ∧ ACalls P (fnI fid) (fnA fid caps (xs.map (ev e))) H fun r H' => Keep D it H H' ∧ K (nx D it) r H'
      | op => ∃ r H', opAct (ev e) H op = some (r, H') ∧ Keep D it H H' ∧ K (nx D it) r H'

theorem MVal_congr {D : DM} {it : DItm} {e e' : Env} (h : Agree e e' it.o) : MVal D it e = MVal D it e' := by
  unfold MVal
  rw [h.2]
  split
  · rfl
  · split
    · rfl
    · exact opVal_congr h.1
  · rfl

theorem MVal_rel {D : DM} {it : DItm} {e : Env} {r : AV} (h : MVal D it e = some r) : MRel D it e r := by
  unfold MRel
  cases hn : isNwl it.o.op with
  | false => simp only; exact .inl h
  | true =>
    simp only
    unfold MVal at h
    split at h
    · rename_i hg
      exact (Option.some.inj h).symm
    · rename_i hg
      exfalso
      have : (∃ sz by_ z l c, it.o.op = .newl sz by_ z l c) ∨ ∃ sz xs, it.o.op = .newm sz xs := by
        cases hop : it.o.op <;> rw [hop] at hn <;> first | (cases hn; done) | exact .inl ⟨_, _, _, _, _, rfl⟩ | exact .inr ⟨_, _, rfl⟩
      rcases this with ⟨sz, by_, z, l, c, hop⟩ | ⟨sz, xs, hop⟩
      · split at h
        · rename_i hz; rw [hop] at hz; cases hz
        · rw [hop] at h; cases h
      · split at h
        · rename_i hz; rw [hop] at hz; cases hz
        · rw [hop] at h; cases h
    · cases h
theorem MRel_congr {D : DM} {it : DItm} {e e' : Env} {r : AV} (h : Agree e e' it.o) (hr : MRel D it e r) : MRel D it e' r := by
  unfold MRel at hr ⊢
  cases hn : isNwl it.o.op with
  | false =>
    simp only [hn] at hr ⊢
    rcases hr with hr | ⟨hg, a, id, g, off, hop, hev, hk⟩
    · rw [← MVal_congr h]; exact .inl hr
    · refine .inr ⟨by rw [← h.2]; exact hg, a, id, g, off, hop, ?_, hk⟩
      rw [← h.1 a (by rw [hop]; simp [opOds])]; exact hev
  | true =>
    simp only [hn] at hr ⊢
    rw [← h.2]
    split
    · rename_i hg; simp only [hg] at hr; exact hr
    · rename_i hg
      simp only [hg] at hr
      rcases hr with ⟨sz, by_, z, l, c, ln, cp, id, h1, h2, h3, h4, h5, h6⟩ | ⟨xs, us, id, h1, h2, h3⟩
      · have hx := h.1
        rw [h1] at hx; simp only [opOds, List.mem_cons, List.not_mem_nil, or_false, forall_eq_or_imp, forall_eq] at hx
        exact .inl ⟨sz, by_, z, l, c, ln, cp, id, h1, by rw [← hx.1]; exact h2, by rw [← hx.2]; exact h3, h4, h5, h6⟩
      · have hx := h.1
        rw [h1] at hx; simp only [opOds] at hx
        refine .inr ⟨xs, us, id, h1, ?_, h3⟩
        rw [← h2]
        exact List.map_congr_left fun x hm => (hx x hm).symm
    · rename_i hg; simp only [hg] at hr

theorem JStep.imp {P : Program} {D : Option DM} {it : DItm} {e e' : Env} {H : AHeap} {K K' : Option DM → AV → AHeap → Prop} (h : JStep P D it e H K) (ha : Agree e e' it.o)
    (hk : ∀ D' r H', (it.tail = false → D' = D) → (movB it.o.op = true → H' = H ∧ D' = D) → K D' r H' → K' D' r H') : JStep P D it e' H K' := by
  unfold JStep at *
  split
  · rename_i hm
    simp only [hm] at h
    cases D with
    | none => exact h
    | some D' =>
      simp only at h ⊢
      obtain ⟨r, h1, h2⟩ := h
      exact ⟨r, MRel_congr ha h1, hk _ _ _ (fun _ => rfl) (fun _ => ⟨rfl, rfl⟩) h2⟩
  · rename_i hm
    have hk2 : ∀ r H', K (nx D it) r H' → K' (nx D it) r H' := fun r H' h => hk _ _ _ (fun ht => by simp [nx, ht]) (fun h => by rw [hm] at h; cases h) h
    simp only [hm] at h
    rw [← ha.2]
    split
    · rename_i hg; simp only [hg] at h
    · rename_i hg; simp only [hg] at h; exact hk2 _ _ h
    · rename_i hg
      simp only [hg] at h
      split
      · rename_i f xs hop
        simp only [hop] at h
        obtain ⟨fid, caps, h1, h2⟩ := h
        have hx := ha.1
        rw [hop] at hx; simp only [opOds, List.mem_cons, forall_eq_or_imp] at hx
        refine ⟨fid, caps, by rw [← hx.1]; exact h1, ?_⟩
        rw [← List.map_congr_left hx.2]
        exact h2.mono fun r H' h3 => ⟨h3.1, hk2 _ _ h3.2⟩
      · rename_i hno
        split at h
        · rename_i f xs hop; exact absurd hop (hno f xs)
        · obtain ⟨r, H', h1, h2, h3⟩ := h
          exact ⟨r, H', by rw [← opAct_congr ha.1]; exact h1, h2, hk2 _ _ h3⟩

def DGo (cx : Cx) (m : Nat) (k : List AItm) (R : Env → AHeap → Prop) : Option DM → List DItm → Env → AHeap → Prop
  | _, [], e, H => AGo cx m k R ⟨[], e.g⟩ H
  | D, it :: l, e, H => JStep cx.P D it e H fun D' r H' => DGo cx m k R D' l (put e it.o.dst r) H'

theorem DGo.eqE {cx : Cx} {m : Nat} {k : List AItm} {R : Env → AHeap → Prop} : ∀ {l : List DItm} {D : Option DM} {e e' : Env} {H : AHeap}, DGo cx m k R D l e H → EqE e e' → DGo cx m k R D l e' H
  | [], D, e, e', H, h, he => by
    simp only [DGo] at h ⊢
    exact h.eqE ⟨fun _ => rfl, he.2⟩
  | it :: l, D, e, e', H, h, he => by
    simp only [DGo] at h ⊢
    exact h.imp (he.agree _) fun D' r H' _ _ h' => DGo.eqE h' (he.put _ _)

/-! ### The orders -/
inductive Valid (ops : Array Oper) (A : List AOper) : Array Bool → List Nat → Prop
  | nil {listed : Array Bool} : Region.ready .any ops listed = [] → Valid ops A listed []
  | mov {listed : Array Bool} {i : Nat} {l : List Nat} : i ∈ Region.ready .any ops listed → isMov A i = true → freeA ops A listed i = true → Valid ops A (listed.setIfInBounds i true) l → Valid ops A listed (i :: l)
  | one {listed : Array Bool} {i : Nat} {l : List Nat} : Region.ready .any ops listed = [i] → Valid ops A (listed.setIfInBounds i true) l → Valid ops A listed (i :: l)

theorem canonGo_valid {ops : Array Oper} {A : List AOper} : ∀ {n : Nat} {listed : Array Bool} {l : List Nat}, canonGo ops A n listed = some l → Valid ops A listed l
  | 0, listed, l, h => by
    simp only [canonGo] at h
    split at h
    · rename_i he; simp only [Option.some.injEq] at h; subst h; exact .nil (by simpa using he)
    · cases h
  | n + 1, listed, l, h => by
    simp only [canonGo] at h
    split at h
    · rename_i i hi
      split at h
      · rename_i hf
        split at h
        · rename_i l' hl'
          simp only [Option.some.injEq] at h; subst h
          exact .mov (List.mem_of_find?_eq_some hi) (List.find?_some hi) hf (canonGo_valid hl')
        · cases h
      · cases h
    · split at h
      · rename_i he; simp only [Option.some.injEq] at h; subst h; exact .nil he
      · rename_i i he
        split at h
        · rename_i l' hl'
          simp only [Option.some.injEq] at h; subst h
          exact .one he (canonGo_valid hl')
        · cases h
      · cases h

theorem getD_set_true' {listed : Array Bool} {i j : Nat} (h : listed.getD j true = true) : (listed.setIfInBounds i true).getD j true = true := by
  by_cases hij : i = j
  · subst hij
    rcases Nat.lt_or_ge i listed.size with hlt | hge
    · simp [hlt]
    · rw [Array.setIfInBounds_eq_of_size_le hge]; exact h
  · rw [getD_set_ne true hij]; exact h

theorem getD_set_self {listed : Array Bool} {i : Nat} : (listed.setIfInBounds i true).getD i true = true := by
  rcases Nat.lt_or_ge i listed.size with hlt | hge
  · simp [hlt]
  · simp [Array.setIfInBounds_eq_of_size_le hge, hge]

theorem set_comm (listed : Array Bool) (i j : Nat) : (listed.setIfInBounds i true).setIfInBounds j true = (listed.setIfInBounds j true).setIfInBounds i true := by
  by_cases h : i = j
  · subst h; rfl
  · exact Array.setIfInBounds_comm true true h

theorem Valid.unlisted {ops : Array Oper} {A : List AOper} {listed : Array Bool} {l : List Nat} (h : Valid ops A listed l) : ∀ i ∈ l, listed.getD i true = false := by
  have fin : ∀ {listed : Array Bool} {i : Nat} {l : List Nat}, i ∈ Region.ready .any ops listed → (∀ j ∈ l, (listed.setIfInBounds i true).getD j true = false) → ∀ j ∈ i :: l, listed.getD j true = false := by
    intro listed i l hi ih j hj
    rcases List.mem_cons.1 hj with rfl | hj
    · exact (mem_ready.1 hi).1
    · have := ih j hj
      by_cases hij : i = j
      · subst hij; rw [getD_set_self] at this; cases this
      · rwa [getD_set_ne true hij] at this
  induction h with
  | nil _ => intro i hi; cases hi
  | mov h1 _ _ _ ih => exact fin h1 ih
  | one h1 _ ih => exact fin (by rw [h1]; simp) ih

theorem Valid.lt {ops : Array Oper} {A : List AOper} {listed : Array Bool} {l : List Nat} (h : Valid ops A listed l) : ∀ i ∈ l, i < ops.size := by
  have rd : ∀ {listed : Array Bool} {i : Nat}, i ∈ Region.ready .any ops listed → i < ops.size := by
    intro listed i hi
    obtain ⟨_, o, ho, _⟩ := mem_ready.1 hi
    exact (Array.getElem?_eq_some_iff.1 ho).1
  induction h with
  | nil _ => intro i hi; cases hi
  | mov h1 _ _ _ ih =>
    intro i hi
    rcases List.mem_cons.1 hi with rfl | hi
    · exact rd h1
    · exact ih i hi
  | one h1 _ ih =>
    intro i hi
    rcases List.mem_cons.1 hi with rfl | hi
    · exact rd (by rw [h1]; simp)
    · exact ih i hi

def itm (ops : Array Oper) (A : List AOper) (i : Nat) : DItm := ⟨(A[i]?).getD default, i, flagA ops A i, wsA ops A i⟩

theorem pickA_spec {ops : Array Oper} {A : List AOper} : ∀ {l : List Nat} {L : List DItm}, pickA ops A l = some L → L = l.map (itm ops A) ∧ ∀ i ∈ l, i < A.length
  | [], L, h => by simp only [pickA, Option.some.injEq] at h; subst h; simp
  | i :: l, L, h => by
    simp only [pickA] at h
    split at h
    · rename_i o l' ho hl'
      simp only [Option.some.injEq] at h; subst h
      obtain ⟨rfl, h2⟩ := pickA_spec hl'
      refine ⟨by simp [itm, ho], fun j hj => ?_⟩
      rcases List.mem_cons.1 hj with rfl | hj
      · exact (List.getElem?_eq_some_iff.1 ho).1
      · exact h2 j hj
    · cases h

theorem trOps_get {cx : Cx} {ops : Array Oper} : ∀ {os : List Oper} {A : List AOper} {i : Nat} {o : AOper}, trOps cx ops os = some A → A[i]? = some o → ∃ o', os[i]? = some o' ∧ trOper cx ops o' = some o
  | [], A, i, o, h, hi => by simp only [trOps, Option.some.injEq] at h; subst h; simp at hi
  | o1 :: os, A, i, o, h, hi => by
    simp only [trOps] at h
    split at h
    · rename_i x y hx hy
      simp only [Option.some.injEq] at h; subst h
      cases i with
      | zero => simp at hi; subst hi; exact ⟨o1, by simp, hx⟩
      | succ i => simp at hi; obtain ⟨o', h1, h2⟩ := trOps_get hy hi; exact ⟨o', by simpa using h1, h2⟩
    · cases h

theorem trOps_length {cx : Cx} {ops : Array Oper} : ∀ {os : List Oper} {A : List AOper}, trOps cx ops os = some A → A.length = os.length
  | [], A, h => by simp only [trOps, Option.some.injEq] at h; subst h; rfl
  | o1 :: os, A, h => by
    simp only [trOps] at h
    split at h
    · rename_i x y hx hy
      simp only [Option.some.injEq] at h; subst h
      simp [trOps_length hy]
    · cases h

theorem isMov_itm {ops : Array Oper} {A : List AOper} {i : Nat} (h : isMov A i = true) : movB (itm ops A i).o.op = true := by
  unfold isMov at h
  split at h
  · rename_i o ho; simp [itm, ho, h]
  · cases h

theorem not_waits {ops : Array Oper} {listed : Array Bool} {i j : Nat} (hj : j ∈ Region.ready .any ops listed) (hi : listed.getD i true = false) : waitsFor ops j i = false := by
  obtain ⟨_, o, ho, hall⟩ := mem_ready.1 hj
  cases hc : waitsFor ops j i with
  | false => rfl
  | true =>
  exfalso
  simp only [waitsFor, ho] at hc
  obtain ⟨e, he, hb⟩ := Array.any_eq_true'.1 hc
  simp only [Bool.and_eq_true, beq_iff_eq] at hb
  obtain ⟨hb, hx⟩ := hb
  have h1 := hall e he hb
  rw [hx] at h1
  simp only [Array.getD_eq_getD_getElem?] at h1 hi
  cases hq : listed[i]? with
  | none => rw [hq] at h1; simp at h1
  | some b => rw [hq] at h1 hi; simp at h1 hi; rw [h1] at hi; cases hi

theorem free_mono {ops : Array Oper} {A : List AOper} {listed : Array Bool} {i j : Nat} (h : freeA ops A listed i = true) : freeA ops A (listed.setIfInBounds j true) i = true := by
  unfold freeA at *
  split
  · rename_i hn; simp only [hn] at h; exact h
  · rename_i oi ho
    simp only [ho, List.all_eq_true, List.mem_range, Bool.or_eq_true] at h ⊢
    intro k hk
    rcases h k hk with ((h1 | h1) | h1) | h1
    · exact .inl (.inl (.inl h1))
    · exact .inl (.inl (.inr (getD_set_true' h1)))
    · exact .inl (.inr h1)
    · exact .inr h1

/-- what is listed waits for nothing that is not -/
def Cl (ops : Array Oper) (listed : Array Bool) : Prop := ∀ k i, listed.getD k true = true → k < ops.size → waitsFor ops k i = true → i < ops.size → listed.getD i true = true

theorem Cl.step {ops : Array Oper} {listed : Array Bool} {j : Nat} (h : Cl ops listed) (hj : j ∈ Region.ready .any ops listed) : Cl ops (listed.setIfInBounds j true) := by
  intro k i hk hks hw his
  by_cases hjk : j = k
  · subst hjk
    refine getD_set_true' ?_
    cases hi : listed.getD i true with
    | true => rfl
    | false => rw [not_waits hj hi] at hw; cases hw
  · rw [getD_set_ne true hjk] at hk
    exact getD_set_true' (h k i hk hks hw his)

theorem not_waits2 {ops : Array Oper} {listed : Array Bool} {i j : Nat} (h : Cl ops listed) (hj : j ∈ Region.ready .any ops listed) (hi : listed.getD i true = false) (his : i < ops.size) : waits2 ops j i = false := by
  cases hc : waits2 ops j i with
  | false => rfl
  | true =>
    exfalso
    simp only [waits2, Bool.or_eq_true, List.any_eq_true, List.mem_range, Bool.and_eq_true] at hc
    rcases hc with hc | ⟨k, hks, h1, h2⟩
    · rw [not_waits hj hi] at hc; cases hc
    · cases hk : listed.getD k true with
      | false => rw [not_waits hj hk] at h1; cases h1
      | true =>
        have := h k i hk hks h2 his
        rw [hi] at this; cases this

/-- What is ready may be taken now. -/
theorem pull {cx : Cx} {m : Nat} {k : List AItm} {R : Env → AHeap → Prop} {ops : Array Oper} {A : List AOper} (hsz : A.length = ops.size) : ∀ {l : List Nat} {listed : Array Bool} {D : Option DM} {e : Env} {H : AHeap} {j : Nat},
    Cl ops listed → Valid ops A listed l → DGo cx m k R D (l.map (itm ops A)) e H → j ∈ Region.ready .any ops listed →
    ∃ l', j ∈ l ∧ (∀ x ∈ l', x ∈ l) ∧ l'.length + 1 = l.length ∧ Valid ops A (listed.setIfInBounds j true) l' ∧
      JStep cx.P D (itm ops A j) e H fun D' r H' => DGo cx m k R D' (l'.map (itm ops A)) (put e (itm ops A j).o.dst r) H'
  | [], listed, D, e, H, j, _, hv, hg, hj => by
    cases hv with
    | nil h => rw [h] at hj; cases hj
  | i :: l, listed, D, e, H, j, hcl, hv, hg, hj => by
    simp only [List.map_cons, DGo] at hg
    by_cases hij : j = i
    · subst hij
      refine ⟨l, by simp, fun x hx => by simp [hx], by simp, ?_, hg⟩
      cases hv with
      | mov _ _ _ h => exact h
      | one _ h => exact h
    · cases hv with
      | one h1 h2 => rw [h1] at hj; simp at hj; exact absurd hj hij
      | mov h1 h2 h3 h4 =>
        have hun := (mem_ready.1 h1).1
        have hm := isMov_itm (ops := ops) h2
        have hg' := hg
        unfold JStep at hg'
        simp only [hm] at hg'
        cases D with
        | none => exact hg'.elim
        | some D =>
          simp only at hg'
          obtain ⟨ri, hri, hgo⟩ := hg'
          obtain ⟨l', g1, g2, g3, g4, g5⟩ := pull hsz (hcl.step h1) h4 hgo (ready_mono hj hij)
          have hw := not_waits hj hun
          have hjlt : j < ops.size := by
            obtain ⟨_, o, ho, _⟩ := mem_ready.1 hj
            exact (Array.getElem?_eq_some_iff.1 ho).1
          have hilt : i < ops.size := by
            obtain ⟨_, o, ho, _⟩ := mem_ready.1 h1
            exact (Array.getElem?_eq_some_iff.1 ho).1
          have hap : apartA (itm ops A i).o (itm ops A j).o = true := by
            have hAi : A[i]? = some A[i] := List.getElem?_eq_getElem (by omega)
            have hAj : A[j]? = some A[j] := List.getElem?_eq_getElem (by omega)
            unfold freeA at h3
            simp only [hAi, List.all_eq_true, List.mem_range, Bool.or_eq_true, beq_iff_eq] at h3
            have := h3 j hjlt
            rw [hw, (mem_ready.1 hj).1] at this
            simp only [hAj] at this
            simp only [itm, hAi, hAj, Option.getD_some]
            rcases this with ((h | h) | h) | h
            · exact absurd h hij
            · cases h
            · cases h
            · exact h
          obtain ⟨a1, a2, a3⟩ := apartA_spec hap
          have htail : (itm ops A j).tail = false ∨ movB (itm ops A j).o.op = true := by
            cases hmj : isMov A j with
            | true => exact .inr (isMov_itm hmj)
            | false =>
            cases ht : (itm ops A j).tail with
            | false => exact .inl rfl
            | true =>
              simp only [itm, flagA, hmj, tailA, List.all_eq_true, List.mem_range, Bool.or_eq_true] at ht
              have := ht i hilt
              rw [h2, not_waits2 hcl hj hun hilt] at this
              simp at this
          refine ⟨i :: l', by simp [g1], fun x hx => ?_, by simp [g3], .mov (ready_mono h1 (Ne.symm hij)) h2 (free_mono h3) (by rw [set_comm]; exact g4), ?_⟩
          · rcases List.mem_cons.1 hx with rfl | hx
            · simp
            · simp [g2 x hx]
          · refine g5.imp (agree_put a1) fun D' r H' hD hD2 hgo' => ?_
            have hD := htail.elim hD (fun h => (hD2 h).2)
            subst hD
            simp only [List.map_cons, DGo, JStep, hm]
            refine ⟨ri, ?_, ?_⟩
            · exact MRel_congr (agree_put (e := e) a2).symm hri
            · exact hgo'.eqE (put_comm a3)
end Go.Sas
namespace Go.Sas

/-! ### A place that was kept is taken -/
def St.fill (st : St) (id : Nat) (l : Loc) : St := ⟨st.rd, st.loc.set id l⟩

theorem fill_get {st : St} {id g : Nat} {ba : Option (Nat × Nat × Nat)} (h : st.loc[id]? = some ⟨g, none⟩) {j : Nat} {l : Loc} (hj : st.loc[j]? = some l) :
    ∃ l', (st.fill id ⟨g, ba⟩).loc[j]? = some l' ∧ l'.g = l.g ∧ (l.base = none ∨ l'.base = l.base) := by
  by_cases he : id = j
  · subst he
    rw [h] at hj; cases hj
    exact ⟨⟨g, ba⟩, by simp [St.fill, (List.getElem?_eq_some_iff.1 h).1], rfl, .inl rfl⟩
  · exact ⟨l, by simp [St.fill, List.getElem?_set, he, hj], rfl, .inr rfl⟩

mutual
theorem RelV.fill {st : St} {id g : Nat} {ba : Option (Nat × Nat × Nat)} (h : st.loc[id]? = some ⟨g, none⟩) : ∀ {a : AV} {v : Value}, RelV st a v → RelV (st.fill id ⟨g, ba⟩) a v
  | .bad, _, _ => by simp only [RelV]
  | .lit u, v, hv => by simp only [RelV] at hv ⊢; exact hv
  | .agg cs, v, hv => by
    simp only [RelV] at hv ⊢
    obtain ⟨us, h1, h2, h3⟩ := hv
    exact ⟨us, h1, RelL.fill h h2, h3⟩
  | .tup cs, v, hv => by
    simp only [RelV] at hv ⊢
    obtain ⟨us, h1, h2⟩ := hv
    exact ⟨us, h1, RelL.fill h h2⟩
  | .vs sz es, v, hv => by simp only [RelV] at hv ⊢; exact hv
  | .vp cs, v, hv => by simp only [RelV] at hv ⊢; exact hv
  | .mp i g' off, v, hv => by
    simp only [RelV] at hv ⊢
    obtain ⟨l, h1, h2, h3, h4⟩ := hv
    obtain ⟨l', e1, e2, e3⟩ := fill_get (ba := ba) h h1
    refine ⟨l', e1, by omega, fun hlt => h3 (by omega), fun he => ?_⟩
    obtain ⟨b, o, r, f1, f2⟩ := h4 (by omega)
    rcases e3 with e3 | e3
    · rw [e3] at f1; cases f1
    · exact ⟨b, o, r, by rw [e3]; exact f1, f2⟩
  | .ms sz i g' off len, v, hv => by
    simp only [RelV] at hv ⊢
    obtain ⟨l, h1, h2, h3, h4⟩ := hv
    obtain ⟨l', e1, e2, e3⟩ := fill_get (ba := ba) h h1
    refine ⟨l', e1, by omega, fun hlt => h3 (by omega), fun he => ?_⟩
    obtain ⟨a, cap, f1, f2, f3⟩ := h4 (by omega)
    refine ⟨a, cap, f1, f2, fun hc => ?_⟩
    obtain ⟨b, o, r, f4, f5⟩ := f3 hc
    rcases e3 with e3 | e3
    · rw [e3] at f4; cases f4
    · exact ⟨b, o, r, by rw [e3]; exact f4, f5⟩
  | .yl i g', v, hv => by
    simp only [RelV] at hv ⊢
    obtain ⟨l, h1, h2, h3, h4⟩ := hv
    obtain ⟨l', e1, e2, e3⟩ := fill_get (ba := ba) h h1
    refine ⟨l', e1, by omega, fun hlt => h3 (by omega), fun he => ?_⟩
    obtain ⟨b, o, r, f1, f2⟩ := h4 (by omega)
    rcases e3 with e3 | e3
    · rw [e3] at f1; cases f1
    · exact ⟨b, o, r, by rw [e3]; exact f1, f2⟩
  | .es, v, hv => by simp only [RelV] at hv ⊢; exact hv
  | .nni, v, hv => by simp only [RelV] at hv ⊢; exact hv
  | .fn f caps, v, hv => by
    simp only [RelV] at hv ⊢
    obtain ⟨us, h1, h2⟩ := hv
    exact ⟨us, h1, RelL.fill h h2⟩
theorem RelL.fill {st : St} {id g : Nat} {ba : Option (Nat × Nat × Nat)} (h : st.loc[id]? = some ⟨g, none⟩) : ∀ {as : List AV} {us : List Value}, RelL st as us → RelL (st.fill id ⟨g, ba⟩) as us
  | [], us, hv => by simp only [RelL] at hv ⊢; exact hv
  | a :: as, us, hv => by
    simp only [RelL] at hv ⊢
    obtain ⟨u, us', h1, h2, h3⟩ := hv
    exact ⟨u, us', h1, RelV.fill h h2, RelL.fill h h3⟩
end

theorem fill_new {st0 st : St} {w0 w : World} {H : AHeap} {id : Nat} (hH : RelH st w H) (hl : st.loc[id]? = some ⟨0, none⟩) (arr : Array Value) (T : TypeId) (us : List Value) (room : Nat) (hs : ∀ u ∈ us, Scal u) (hr1 : us.length ≤ room) (hr2 : room ≤ arr.size) (hgs : ∀ (i : Nat) (c : Value), us[i]? = some c → arr[i]? = some c)
    (hX : H[id]? = some (.own 0 (us.map .lit))) (hext : Ext st0 w0 st w) (hm : st0.loc.length ≤ id) :
    RelH (st.fill id ⟨0, some (w.heap.size, 0, room)⟩) (w.alloc (.cells arr T)) H ∧ Ext st0 w0 (st.fill id ⟨0, some (w.heap.size, 0, room)⟩) (w.alloc (.cells arr T)) := by
  have hid := (List.getElem?_eq_some_iff.1 hl).1
  have hget : ∀ (j : Nat) (x : Loc), (st.fill id ⟨0, some (w.heap.size, 0, room)⟩).loc[j]? = some x → (j = id ∧ x = ⟨0, some (w.heap.size, 0, room)⟩) ∨ (j ≠ id ∧ st.loc[j]? = some x) := by
    intro j x hx
    simp only [St.fill, List.getElem?_set] at hx
    split at hx
    · rename_i he; subst he
      simp [hid] at hx
      exact .inl ⟨rfl, hx.symm⟩
    · rename_i he; exact .inr ⟨fun h => he h.symm, hx⟩
  have hown : ∀ b, Owned (st.fill id ⟨0, some (w.heap.size, 0, room)⟩) b → Owned st b ∨ b = w.heap.size := by
    rintro b ⟨j, x, o, r, hx, hb⟩
    rcases hget j x hx with ⟨rfl, rfl⟩ | ⟨_, hx'⟩
    · cases hb; exact .inr rfl
    · exact .inl ⟨j, x, o, r, hx', hb⟩
  refine ⟨⟨by simp [St.fill, hH.len], ?_, ?_, ?_⟩, ⟨⟨fun b o c h => hext.le.rd b o c h, ?_⟩, by rw [size_alloc]; exact Nat.le_succ_of_le hext.size, fun b hb ho => ?_, fun b hb => ?_, hext.os, hext.output, hext.rdn⟩⟩
  · intro b o c hc
    have h := hH.rd b o c hc
    have hb := rd_lt hH hc
    exact ⟨h.1, by rw [cell_of_heap (heap_alloc_lt _ _ hb)]; exact h.2.1, fun ho => (hown b ho).elim h.2.2 (fun he => by omega)⟩
  · intro j x X hx hXj
    rcases hget j x hx with ⟨rfl, rfl⟩ | ⟨hj, hx'⟩
    · rw [hX] at hXj; cases hXj
      simp only [ObjOk]
      refine ⟨trivial, fun b o r hb => ?_⟩
      simp at hb
      obtain ⟨rfl, rfl, rfl⟩ := hb
      exact ⟨arr, T, us, heap_alloc_new _ _, by omega, by simpa using hr1, RelL.lits _, hs, fun i c hc => by rw [Nat.zero_add]; exact hgs i c hc⟩
    · have h := hH.obj j x X hx' hXj
      have hb : ∀ b o r, x.base = some (b, o, r) → (w.alloc (.cells arr T)).heap[b]? = w.heap[b]? := fun b o r hb => heap_alloc_lt _ _ (owned_lt hH ⟨j, x, o, r, hx', hb⟩)
      cases X with
      | gone => exact h
      | own g cs =>
        simp only [ObjOk] at h ⊢
        refine ⟨h.1, fun b o r hbb => ?_⟩
        obtain ⟨arr', T', us, f1, f2, f3, f4, f5, f6⟩ := h.2 b o r hbb
        exact ⟨arr', T', us, by rw [hb b o r hbb]; exact f1, f2, f3, f4.fill hl, f5, f6⟩
      | raw g ob es us =>
        simp only [ObjOk] at h ⊢
        obtain ⟨h1, he, ⟨b, o, r, h2, h3⟩ | h2⟩ := h
        · exact ⟨h1, he.fill hl, .inl ⟨b, o, r, h2, by rw [hb b o r h2]; exact h3⟩⟩
        · exact ⟨h1, he.fill hl, .inr h2⟩
  · intro i i' l l' b o r o' r' h1 h2 h3 h4
    rcases hget i l h1 with ⟨rfl, rfl⟩ | ⟨g1, g2⟩ <;> rcases hget i' l' h2 with ⟨rfl, rfl⟩ | ⟨g1', g2'⟩
    · rfl
    · cases h3; exact absurd (owned_lt hH ⟨i', l', o', r', g2', h4⟩) (Nat.lt_irrefl _)
    · cases h4; exact absurd (owned_lt hH ⟨i, l, o, r, g2, h3⟩) (Nat.lt_irrefl _)
    · exact hH.inj i i' l l' b o r o' r' g2 g2' h3 h4
  · intro j l hj
    have hlt : j < st0.loc.length := (List.getElem?_eq_some_iff.1 hj).1
    obtain ⟨l', h1, h2⟩ := hext.le.loc j l hj
    exact ⟨l', by simp only [St.fill]; rw [List.getElem?_set_ne (by omega)]; exact h1, h2⟩
  · rw [heap_alloc_lt _ _ (Nat.lt_of_lt_of_le hb hext.size)]; exact hext.frame b hb ho
  · rcases hown b hb with h | h
    · exact hext.own b h
    · exact .inr (by rw [h]; exact hext.size)

theorem Mk.fill {w0 : World} {st : St} {w : World} {ds : List Deferred} {id : Nat} {room : Nat} {cells : Array Value} {T : TypeId} (h : Mk w0 st w ds) : Mk w0 (st.fill id ⟨0, some (w.heap.size, 0, room)⟩) (w.alloc (.cells cells T)) ds :=
  ⟨h.nd, fun d hd => by
    obtain ⟨D, h1, h2, h3, h4⟩ := h.all d hd
    have hlt : D < w.heap.size := (Array.getElem?_eq_some_iff.1 h3).1
    refine ⟨D, h1, h2, by rw [heap_alloc_lt _ _ hlt]; exact h3, ?_⟩
    rintro ⟨j, l, o, r, hj, hb⟩
    simp only [St.fill, List.getElem?_set] at hj
    split at hj
    · split at hj
      · cases hj; cases hb; omega
      · cases hj
    · exact h4 ⟨j, l, o, r, hj, hb⟩⟩

/-! ### Soundness of a step -/
theorem posOf_ge : ∀ {l : List Nat} {b i id : Nat}, posOf l b i = some id → b ≤ id
  | [], b, i, id, h => by simp [posOf] at h
  | x :: r, b, i, id, h => by
    simp only [posOf] at h
    split at h
    · simp at h; omega
    · have := posOf_ge h; omega

theorem posOf_inj : ∀ {l : List Nat} {b i i' id : Nat}, posOf l b i = some id → posOf l b i' = some id → i = i'
  | [], b, i, i', id, h, _ => by simp [posOf] at h
  | x :: r, b, i, i', id, h, h' => by
    simp only [posOf] at h h'
    split at h <;> split at h'
    · omega
    · simp at h; have := posOf_ge h'; omega
    · simp at h'; have := posOf_ge h; omega
    · exact posOf_inj h h'

theorem ResK.get : ∀ {l : List Nat} {b i id : Nat} {ws : List Nat} {H H' : AHeap}, ResK l b ws H H' → posOf l b i = some id → ws.contains i = false → H'[id]? = H[id]?
  | [], b, i, id, ws, H, H', h, hp, _ => by simp [posOf] at hp
  | x :: r, b, i, id, ws, H, H', h, hp, hw => by
    simp only [ResK] at h
    simp only [posOf] at hp
    split at hp
    · rename_i hx; subst hx
      simp at hp; subst hp
      rcases h.1 with h1 | h1
      · rw [h1] at hw; cases hw
      · exact h1
    · exact ResK.get h.2 hp hw

/-- the cells of what is laid -/
def nwC (cs : List AV) : AOp → Option (List AV)
  | .new z => some (z.map .lit)
  | .newl _ _ _ _ _ => some cs
  | .newm _ _ => some cs
  | _ => none
def Inv (m : Nat) (D : Option DM) (L : List DItm) (st : St) (H : AHeap) : Prop := ∀ D', D = some D' → (SubH D'.M H ∧ KcOk D'.kc H) ∧ ((∃ it ∈ L, movB it.o.op = true ∧ it.tail = true) → SubH D'.M1 H) ∧
  ∀ it ∈ L, ∀ z, nwC D'.cs it.o.op = some z → ∃ id, posOf D'.news D'.base it.i = some id ∧ m ≤ id ∧ H[id]? = some (.own 0 z) ∧ st.loc[id]? = some ⟨0, none⟩

theorem virt_keep {st st' : St} {w w' : World} {H' : AHeap} {id : Nat} {cs : List AV} (hext : Ext st w st' w') (hH' : RelH st' w' H') (hl : st.loc[id]? = some ⟨0, none⟩) (hX : H'[id]? = some (.own 0 cs)) : st'.loc[id]? = some ⟨0, none⟩ := by
  obtain ⟨l', h1, h2, h3⟩ := hext.le.loc id _ hl
  have := hH'.obj id l' _ h1 hX
  simp only [ObjOk] at this
  have hb := h3 this.1
  obtain ⟨g, ba⟩ := l'
  simp only at this hb
  rw [h1, this.1, hb]

theorem trOp_new {P : Program} {K : List Nat} {mu : Bool} {o : Oper} {z : List Value} (h : trOp P K mu o = some (.new z)) : ∃ t, o.op = .alloc t ∧ zrT P t = some z := by
  cases hop : o.op <;> simp only [trOp, hop] at h
  case alloc t =>
    split at h
    · rename_i z' hz
      split at h
      · cases h
      · simp only [Option.some.injEq, AOp.new.injEq] at h; subst h; exact ⟨t, rfl, hz⟩
    · cases h
  case call c =>
    exfalso
    unfold trCall at h
    repeat' split at h
    all_goals first
      | contradiction
      | (cases h; done)
      | (obtain ⟨ys, hys, h'⟩ := Option.map_eq_some_iff.1 h; cases h')
  all_goals
    exfalso
    repeat' split at h
    all_goals first
      | contradiction
      | (cases h; done)
      | (obtain ⟨ys, hys, h'⟩ := Option.map_eq_some_iff.1 h; cases h'; done)
      | (unfold trBin at h; repeat' split at h
         all_goals first
           | (cases h; done)
           | (simp only [Option.some.injEq] at h; cases h; done)
           | (obtain ⟨ys, hys, h'⟩ := Option.map_eq_some_iff.1 h; cases h'; done))

theorem trOp_mksl {P : Program} {K : List Nat} {mu : Bool} {o : Oper} {sz by_ : Nat} {z : List Value} {l c : Od} (h : trOp P K mu o = some (.mksl sz by_ z l c)) :
    ∃ t e' xl xc sz1, o.op = .makeSlice t xl xc ∧ slT P t = some e' ∧ szT P e' = some (sz1 + 1) ∧ byT P e' = some by_ ∧ zrT P e' = some z ∧ od K xl = some l ∧ od K xc = some c ∧ sz = sz1 + 1 := by
  cases hop : o.op <;> simp only [trOp, hop] at h
  case makeSlice t xl xc =>
    split at h
    · rename_i e' he
      split at h
      · rename_i sz1 b1 z1 l1 c1 hsz hby hz hl hc
        split at h
        · simp only [Option.some.injEq, AOp.mksl.injEq] at h
          obtain ⟨rfl, rfl, rfl, rfl, rfl⟩ := h
          exact ⟨t, e', xl, xc, sz1, rfl, he, hsz, hby, hz, hl, hc, rfl⟩
        · cases h
      · cases h
    · cases h
  case call c =>
    exfalso
    unfold trCall at h
    repeat' split at h
    all_goals first
      | contradiction
      | (cases h; done)
      | (obtain ⟨ys, hys, h'⟩ := Option.map_eq_some_iff.1 h; cases h')
  all_goals
    exfalso
    repeat' split at h
    all_goals first
      | contradiction
      | (cases h; done)
      | (obtain ⟨ys, hys, h'⟩ := Option.map_eq_some_iff.1 h; cases h'; done)
      | (unfold trBin at h; repeat' split at h
         all_goals first
           | (cases h; done)
           | (simp only [Option.some.injEq] at h; cases h; done)
           | (obtain ⟨ys, hys, h'⟩ := Option.map_eq_some_iff.1 h; cases h'; done))

theorem trOp_mks {P : Program} {K : List Nat} {mu : Bool} {o : Oper} {xs : List Od} (h : trOp P K mu o = some (.mks true 1 xs)) :
    ∃ t len parts e' z, o.op = .buildSlice t len parts ∧ slT P t = some e' ∧ szT P e' = some (0 + 1) ∧ zrT P e' = some z ∧ z.length = 0 + 1 ∧ parts.toList.map (·.1) = List.range len ∧ len * (0 + 1) ≤ 16777216 ∧ ods K (parts.toList.map (·.2)) = some xs := by
  cases hop : o.op <;> simp only [trOp, hop] at h
  case buildSlice t len parts =>
    split at h
    · rename_i e' he
      split at h
      · rename_i sz z hsz hz
        split at h
        · rename_i hc
          obtain ⟨ys, hys, h'⟩ := Option.map_eq_some_iff.1 h
          simp only [AOp.mks.injEq] at h'
          obtain ⟨_, h2, rfl⟩ := h'
          obtain rfl : sz = 0 := by omega
          exact ⟨t, len, parts, e', z, rfl, he, hsz, hz, hc.1, hc.2.1, hc.2.2, hys⟩
        · cases h
      · cases h
    · cases h
  case call c =>
    exfalso
    unfold trCall at h
    repeat' split at h
    all_goals first
      | contradiction
      | (cases h; done)
      | (obtain ⟨ys, hys, h'⟩ := Option.map_eq_some_iff.1 h; cases h')
  all_goals
    exfalso
    repeat' split at h
    all_goals first
      | contradiction
      | (cases h; done)
      | (obtain ⟨ys, hys, h'⟩ := Option.map_eq_some_iff.1 h; cases h'; done)
      | (unfold trBin at h; repeat' split at h
         all_goals first
           | (cases h; done)
           | (simp only [Option.some.injEq] at h; cases h; done)
           | (obtain ⟨ys, hys, h'⟩ := Option.map_eq_some_iff.1 h; cases h'; done))
theorem relL_lits {st : St} : ∀ {us vs : List Value}, RelL st (us.map .lit) vs → vs = us
  | [], vs, h => by simpa only [List.map_nil, RelL] using h
  | u :: us, vs, h => by
    obtain ⟨v, vs', rfl, h1, h2⟩ := h.uncons
    simp only [RelV] at h1
    rw [h1, relL_lits h2]
theorem scal_cells {u : Value} (h : Scal u) : u.cells = #[u] := by
  cases u <;> first | rfl | exact h.elim
theorem flat_scal : ∀ {us : List Value}, (∀ u ∈ us, Scal u) → flat us = us
  | [], _ => rfl
  | u :: us, h => by
    simp only [flat, List.flatMap_cons]
    rw [scal_cells (h u (by simp))]
    have := flat_scal (us := us) fun x hx => h x (by simp [hx])
    simp only [flat] at this
    rw [this]; rfl
theorem call_run {cx : Cx} {st0 st : St} {w0 w : World} {e : Env} {H : AHeap} {a : Act} {o' : Oper} {mu : Bool} {f : Od} {xs : List Od} {fid : Nat} {caps : List AV} {ad : Option (Bool × Nat)} {K : AV → AHeap → Prop}
    (hrel : Rel cx st0 w0 st w e H a) (hp : trOp cx.P cx.K mu o' = some (.call f xs)) (hf : ev e f = .fn fid caps) (h : ACalls cx.P (fnI fid) (fnA fid caps (xs.map (ev e))) H K)
    {K' : Act → World → Prop} {Q : Exit → Act → World → Prop} (hd : trDst cx o'.dst = some ad)
    (hk : ∀ st' w' a' r H', Ext st w st' w' → RelH st' w' H' → Rel cx st0 w0 st' w' (put e ad r) H' a' → K r H' → K' a' w') : o'.uponIn (Fc cx.ro) 0 cx.P a K' Q ((execOp a.eval o').run cx.P w) := by
  obtain ⟨c, f', hop, hcal, hf', hxs⟩ := trOp_call hp
  have hfv := hrel.ops f' f hf'
  rw [hf] at hfv; simp only [RelV] at hfv
  obtain ⟨us, hfv, hus⟩ := hfv
  have hargs := hrel.ops.list hxs
  obtain ⟨hc, hcalls⟩ := h
  unfold callable at hc
  split at hc
  · rename_i fn hfn
    simp only [Bool.and_eq_true, bne_iff_ne, ne_eq] at hc
    have hrun : (execOp a.eval o').run cx.P w = .ok (.enter (fnI fid) (fnA fid us.toList (c.args.toList.map a.eval)).toArray) w := by
      have hb : fn.body.isNone = false := by cases hx : fn.body <;> simp [hx] at hc ⊢
      have hn : (fn.name == "runtime.NumGoroutine") = false := by simpa using hc.1
      unfold fnV at hfv
      unfold fnI at hfn ⊢
      unfold fnA
      split at hfv
      · rename_i hfl
        rw [if_pos hfl] at hfn ⊢
        simp only [execOp, hop, resolve, hcal, Deferred.ofValue, hfv, Sem.run_bind, Sem.run_pure, Result.andThen_ok, invoke, callFunc, run_program, hfn, hn, hb, Bool.false_eq_true, if_false]
        simp [if_pos hfl]
      · rename_i hfl
        rw [if_neg hfl] at hfn ⊢
        simp only [execOp, hop, resolve, hcal, Deferred.ofValue, hfv, Sem.run_bind, Sem.run_pure, Result.andThen_ok, invoke, callFunc, run_program, hfn, hn, hb, Bool.false_eq_true, if_false]
        simp [if_neg hfl]
    rw [hrun]; simp only [Oper.uponIn]
    refine ⟨fun h => (by simp [Fc] at h), ?_⟩
    have h2 := hcalls st w (fnA fid us.toList (c.args.toList.map a.eval)) hrel.hH (by
      unfold fnA
      split
      · exact hargs.append hus
      · exact RelL.append hus hargs)
    have h3 := callsIn_wide (n := 0 - 1).2 h2
    refine CallsIn.mono (F := Fc cx.ro) h3 fun x w' hx => ?_
    obtain ⟨v, r, H', st', rfl, e2, e3, e4, e5⟩ := hx
    exact hk _ _ _ _ _ e2 e3 (hrel.put e2 e3 hd e4) e5
  · cases hc

section
variable {cx : Cx} {m : Nat} {k : List AItm} {R : Env → AHeap → Prop} {ops : Array Oper} {A : List AOper}

theorem ws_waits {i j : Nat} (h : (wsA ops A j).contains i = true) : waitsFor ops j i = true := by
  simp only [wsA, List.contains_iff_mem, List.mem_filter, Bool.and_eq_true] at h
  exact h.2.2

/-- an operation, as it was translated -/
def unl : AOp → AOp
  | .newl sz by_ z l c => .mksl sz by_ z l c
  | .newm sz xs => .mks true sz xs
  | op => op
theorem unl_id {op : AOp} (h : isNwl op = false) : unl op = op := by cases op <;> first | rfl | cases h
def TrA (cx : Cx) (ops : Array Oper) (A : List AOper) : Prop := ∃ A0, trOps cx ops ops.toList = some A0 ∧ A0.all (fun o => !isNwl o.op) = true ∧ (A = A0 ∨ A = A0.map nwl)
theorem TrA.len (h : TrA cx ops A) : A.length = ops.size := by
  obtain ⟨A0, h1, _, h2⟩ := h
  have := trOps_length h1
  rcases h2 with rfl | rfl
  · rw [this]; simp
  · rw [List.length_map, this]; simp
theorem TrA.get (h : TrA cx ops A) {i : Nat} {o : AOper} (hi : A[i]? = some o) : ∃ o', ops[i]? = some o' ∧ trDst cx o'.dst = some o.dst ∧ (∃ mu, trOp cx.P cx.K mu o' = some (unl o.op)) ∧ trGrd cx ops o'.guard = some o.grd := by
  obtain ⟨A0, h1, h0, h2⟩ := h
  rcases h2 with rfl | rfl
  · obtain ⟨o', g1, g2⟩ := trOps_get h1 hi
    obtain ⟨f1, ⟨mu, f2⟩, f3⟩ := trOper_spec g2
    have hn : isNwl o.op = false := by
      have := List.all_eq_true.1 h0 o (List.mem_of_getElem? hi)
      simpa using this
    exact ⟨o', by simpa using g1, f1, ⟨mu, by rw [unl_id hn]; exact f2⟩, f3⟩
  · rw [List.getElem?_map] at hi
    obtain ⟨o0, hi0, rfl⟩ := Option.map_eq_some_iff.1 hi
    obtain ⟨o', g1, g2⟩ := trOps_get h1 hi0
    obtain ⟨f1, ⟨mu, f2⟩, f3⟩ := trOper_spec g2
    have hn : isNwl o0.op = false := by
      have := List.all_eq_true.1 h0 o0 (List.mem_of_getElem? hi0)
      simpa using this
    have hu : unl (nwl o0).op = o0.op := by
      obtain ⟨d, op, g⟩ := o0
      cases op <;> first | rfl | (exact unl_id hn) | (rename_i mu _ _; cases mu <;> rfl)
    have hd : (nwl o0).dst = o0.dst ∧ (nwl o0).grd = o0.grd := by
      obtain ⟨d, op, g⟩ := o0
      cases op <;> first | exact ⟨rfl, rfl⟩ | (rename_i mu _ _; cases mu <;> exact ⟨rfl, rfl⟩)
    exact ⟨o', by simpa using g1, by rw [hd.1]; exact f1, ⟨mu, by rw [hu]; exact f2⟩, by rw [hd.2]; exact f3⟩

theorem jstep_sound (hA : TrA cx ops A) {listed : Array Bool} {l l' : List Nat} {D : Option DM} {e : Env} {H : AHeap} {j : Nat} {K : Option DM → AV → AHeap → Prop}
    (hj : j ∈ Region.ready .any ops listed) (hjl : j ∈ l) (hsub : ∀ i ∈ l', i ∈ l) (hun : ∀ i ∈ l', listed.getD i true = false) (hne : ∀ i ∈ l', i ≠ j) (hcl : Cl ops listed) (hlt : ∀ i ∈ l', i < ops.size)
    {st0 st : St} {w0 w : World} {a : Act} (hm : st0.loc.length = m) (hrel : Rel cx st0 w0 st w e H a) (hinv : Inv m D (l.map (itm ops A)) st H) (hs : JStep cx.P D (itm ops A j) e H K)
    {Kc : Act → World → Prop} {Q : Exit → Act → World → Prop}
    (hk : ∀ D' r H' st' w' a', Rel cx st0 w0 st' w' (put e (itm ops A j).o.dst r) H' a' → Inv m D' (l'.map (itm ops A)) st' H' → K D' r H' → Kc a' w') : wpOpIn (Fc cx.ro) 0 cx.P ops Q j Kc a w := by
  have hjlt : j < ops.size := by
    obtain ⟨_, o, ho, _⟩ := mem_ready.1 hj
    exact (Array.getElem?_eq_some_iff.1 ho).1
  have hAl : A.length = ops.size := hA.len
  have hAj : A[j]? = some A[j] := List.getElem?_eq_getElem (by omega)
  have hio : (itm ops A j).o = A[j] := by simp [itm, hAj]
  obtain ⟨o', ho, htr⟩ := hA.get hAj
  rw [← hio] at htr
  obtain ⟨hd, ⟨mu, hp⟩, hgr⟩ := htr
  have hii : (itm ops A j).i = j := rfl
  have hsame : ∀ {D'}, (∀ D1, D' = some D1 → D = some D1) → Inv m D' (l'.map (itm ops A)) st H := fun {D'} hD D1 h1 => by
    obtain ⟨g1, g3, g2⟩ := hinv D1 (hD D1 h1)
    have hin : ∀ it ∈ l'.map (itm ops A), it ∈ l.map (itm ops A) := fun it hit => by
      obtain ⟨i, hi, rfl⟩ := List.mem_map.1 hit
      exact List.mem_map.2 ⟨i, hsub i hi, rfl⟩
    exact ⟨g1, fun ⟨it, h1, h2⟩ => g3 ⟨it, hin it h1, h2⟩, fun it hit => g2 it (hin it hit)⟩
  have hnx : ∀ D1, nx D (itm ops A j) = some D1 → D = some D1 ∧ (itm ops A j).tail = false := by
    intro D1 h; unfold nx at h; split at h
    · cases h
    · rename_i ht; exact ⟨h, by simpa using ht⟩
  have hstep : ∀ {st' : St} {w' : World} {H' : AHeap}, Ext st w st' w' → RelH st' w' H' → Keep D (itm ops A j) H H' → Inv m (nx D (itm ops A j)) (l'.map (itm ops A)) st' H' := by
    intro st' w' H' hext hH' hkeep D1 h1
    obtain ⟨h2, h3⟩ := hnx D1 h1
    subst h2
    simp only [Keep, h3, Bool.false_eq_true, false_or] at hkeep
    obtain ⟨hkc', hkeep⟩ := hkeep.ok
    obtain ⟨g1, g3, g2⟩ := hinv D1 rfl
    have hin : ∀ it ∈ l'.map (itm ops A), it ∈ l.map (itm ops A) := fun it hit => by
      obtain ⟨i, hi, rfl⟩ := List.mem_map.1 hit
      exact List.mem_map.2 ⟨i, hsub i hi, rfl⟩
    refine ⟨⟨hkeep.1, hkc'⟩, fun ⟨it, h1, h2, h4⟩ => ?_, fun it hit z hz => ?_⟩
    · rcases hkeep.2.2 with hs | hs
      · exfalso
        obtain ⟨i, hi, rfl⟩ := List.mem_map.1 h1
        have his := hlt i hi
        have hAi : A[i]? = some A[i] := List.getElem?_eq_getElem (by omega)
        have hmi : isMov A i = true := by unfold isMov; rw [hAi]; simpa [itm, hAi] using h2
        simp only [itm, flagA, hmi, earlyA, List.all_eq_true, List.mem_range, Bool.or_eq_true] at h4
        have h5 := h4 j hjlt
        rw [not_waits2 hcl hj (hun i hi) his] at h5
        have hst : isStA A j = true := by unfold isStA; rw [hAj]; rw [hio] at hs; exact hs
        rw [hst] at h5
        simp at h5
      · exact hs (g3 ⟨it, hin it h1, h2, h4⟩)
    obtain ⟨i, hi, rfl⟩ := List.mem_map.1 hit
    obtain ⟨id, f1, f2, f3, f4⟩ := g2 _ (List.mem_map.2 ⟨i, hsub i hi, rfl⟩) z hz
    have hnw : (itm ops A j).ws.contains i = false := by
      cases hc : (itm ops A j).ws.contains i with
      | false => rfl
      | true =>
        have := ws_waits (ops := ops) (A := A) (j := j) hc
        rw [not_waits hj (hun i hi)] at this; cases this
    have hX : H'[id]? = some (.own 0 z) := by rw [hkeep.2.1.get f1 hnw]; exact f3
    exact ⟨id, f1, f2, hX, virt_keep hext hH' f4 hX⟩
  have hstepV : ∀ {st' : St} {w' : World} {D' : Option DM}, (∀ D1, D' = some D1 → D = some D1) → Ext st w st' w' → RelH st' w' H → Inv m D' (l'.map (itm ops A)) st' H := by
    intro st' w' D' hD hext hH' D1 h1
    obtain ⟨g1, g3, g2⟩ := hsame hD D1 h1
    refine ⟨g1, g3, fun it hit z hz => ?_⟩
    obtain ⟨id, f1, f2, f3, f4⟩ := g2 it hit z hz
    exact ⟨id, f1, f2, f3, virt_keep hext hH' f4 f3⟩
  have hwant : ∀ b, gOk e (itm ops A j).o.grd = some b → Region.wanted o' (yielded ops a.tmps) = b := fun b hg => wanted_of hrel hgr hg
  have skip : gOk e (itm ops A j).o.grd = some false → (∀ a', Rel cx st0 w0 st w (put e (itm ops A j).o.dst (.lit undef)) H a' → Kc a' w) → wpOpIn (Fc cx.ro) 0 cx.P ops Q j Kc a w := by
    intro hg hkc
    simp only [wpOpIn, ho]
    rw [if_neg (by rw [hwant _ hg]; simp)]
    exact ⟨fun _ _ => trivial, hkc _ (hrel.put (.refl _ _) hrel.hH hd relLit)⟩
  have run : gOk e (itm ops A j).o.grd = some true → o'.uponIn (Fc cx.ro) 0 cx.P a Kc Q ((execOp a.eval o').run cx.P w) → wpOpIn (Fc cx.ro) 0 cx.P ops Q j Kc a w := by
    intro hg hu
    simp only [wpOpIn, ho]
    rw [if_pos (hwant _ hg)]
    exact ⟨fun _ _ => trivial, by rw [Oper.semAt_eq _ _ _ (trOp_noDefer hp)]; exact hu⟩
  have viaStep : ∀ {r : AV} {H' : AHeap}, StepV cx.P a.eval o' st w r H' → (∀ st' w' a', Ext st w st' w' → RelH st' w' H' → Rel cx st0 w0 st' w' (put e (itm ops A j).o.dst r) H' a' → Kc a' w') → o'.uponIn (Fc cx.ro) 0 cx.P a Kc Q ((execOp a.eval o').run cx.P w) := by
    intro r H' hsv hkc
    obtain ⟨v, w', st', hrun, hext, hH', hr⟩ := hsv
    rcases hrun with hrun | ⟨hrun, rfl⟩
    · rw [hrun]; simp only [Oper.uponIn]
      exact hkc st' w' _ hext hH' (hrel.put hext hH' hd hr)
    · rw [hrun]; simp only [Oper.uponIn]
      exact hkc st' w' _ hext hH' (hrel.put hext hH' hd hr)
  unfold JStep at hs
  split at hs
  · cases D with
    | none => exact hs.elim
    | some D' =>
      simp only at hs
      obtain ⟨r, hr, hK⟩ := hs
      have hlaid : ∀ {id : Nat} {us : List Value} {arr : Array Value} {T : TypeId} {room : Nat} {v : Value} {r : AV}, posOf D'.news D'.base j = some id → st.loc[id]? = some ⟨0, none⟩ → st0.loc.length ≤ id → H[id]? = some (.own 0 (us.map .lit)) →
          (∀ u ∈ us, Scal u) → us.length ≤ room → room ≤ arr.size → (∀ (i : Nat) (c : Value), us[i]? = some c → arr[i]? = some c) → (execOp a.eval o').run cx.P w = .ok (.value v) (w.alloc (.cells arr T)) →
          RelV (st.fill id ⟨0, some (w.heap.size, 0, room)⟩) r v → gOk e (itm ops A j).o.grd = some true → K (some D') r H → wpOpIn (Fc cx.ro) 0 cx.P ops Q j Kc a w := by
        intro id us arr T room v r f1 f4 hmid f3 hsc hr1 hr2 hget hrun hval hg hK
        obtain ⟨h1, h2⟩ := fill_new hrel.hH f4 arr T us room hsc hr1 hr2 hget f3 hrel.ext hmid
        refine run hg ?_
        rw [hrun]; simp only [Oper.uponIn]
        have hrel2 : Rel cx st0 w0 (st.fill id ⟨0, some (w.heap.size, 0, room)⟩) (w.alloc (.cells arr T)) e H a :=
          ⟨h2, h1, fun t => (hrel.l t).fill f4, fun t => (hrel.g t).fill f4, hrel.kl, hrel.kg, hrel.n, hrel.d.fill⟩
        refine hk _ _ _ _ _ _ (hrel2.put (.refl _ _) h1 hd hval) ?_ hK
        intro D1 h3
        obtain ⟨g3, g5, g4⟩ := hsame (D' := some D') (fun _ h => h) D1 h3
        refine ⟨g3, g5, fun it hit z' hz' => ?_⟩
        obtain ⟨id', e1, e2, e3, e4⟩ := g4 it hit z' hz'
        refine ⟨id', e1, e2, e3, ?_⟩
        obtain ⟨i', hi', rfl⟩ := List.mem_map.1 hit
        simp only [Option.some.injEq] at h3; subst h3
        have hne' : id ≠ id' := by
          intro he; subst he
          exact hne i' hi' (posOf_inj e1 f1)
        simp only [St.fill]; rw [List.getElem?_set_ne hne']; exact e4
      unfold MRel at hr
      cases hnw : isNwl (itm ops A j).o.op with
      | true =>
        simp only [hnw] at hr
        split at hr
        · rename_i hg
          subst hr
          exact skip hg fun a' hr' => hk _ _ _ _ _ _ hr' (hsame fun _ h => h) hK
        · rename_i hg
          rcases hr with ⟨sz, by_, z, l1, c1, ln, cp, id, hop, hln, hcp, ⟨q1, q2, q3, q4, q5, q6, q7⟩, hid, rfl⟩ | ⟨xs, us, id, hop, hxs, hsc, hcs, hnn, hid, rfl⟩
          case inr =>
            obtain ⟨g1, _, g2⟩ := hinv D' rfl
            obtain ⟨id', f1, f2, f3, f4⟩ := g2 _ (List.mem_map.2 ⟨j, hjl, rfl⟩) D'.cs (by rw [hop]; rfl)
            have : id = id' := by rw [hii] at hid f1; rw [hid] at f1; exact Option.some.inj f1
            subst this
            rw [hop] at hp
            obtain ⟨t, len, parts, e', z, hop', he, hsz, hz, hzl, hidx, hle, hods⟩ := trOp_mks hp
            have hL := hrel.ops.list hods
            rw [hxs] at hL
            have hus := relL_lits hL
            have hcells : ∀ u ∈ (parts.toList.map (·.2)).map a.eval, u.cells.size = 0 + 1 := fun u hu => by
              rw [hus] at hu
              rw [scal_cells (hsc u hu)]; rfl
            have hrun := buildSlice_run (w := w) (ρ := a.eval) hop' (slT_spec he) hsz hz hidx hle hcells hzl
            have hfl : flat ((parts.toList.map (·.2)).map a.eval) = us := by rw [hus]; exact flat_scal hsc
            have hlen : us.length = len := by
              have h1 := congrArg List.length hidx
              have h2 := congrArg List.length hus
              simp at h1 h2
              omega
            rw [hfl] at hrun
            rw [hcs] at f3
            rw [hii] at f1
            refine hlaid (us := us) (room := us.length) f1 f4 (by omega) f3 hsc (Nat.le_refl _) (by simp) (fun i c hc => by simpa using hc) hrun ?_ hg hK
            rw [hnn, ← hlen]
            exact ms_new (room := us.length) (by simp [St.fill, (List.getElem?_eq_some_iff.1 f4).1]) (Nat.le_refl _) (by omega)
          obtain ⟨g1, _, g2⟩ := hinv D' rfl
          obtain ⟨id', f1, f2, f3, f4⟩ := g2 _ (List.mem_map.2 ⟨j, hjl, rfl⟩) D'.cs (by rw [hop]; rfl)
          have : id = id' := by rw [hii] at hid f1; rw [hid] at f1; exact Option.some.inj f1
          subst this
          rw [hop] at hp
          obtain ⟨t, e', xl, xc, sz1, hop', he, hsz, hby, hzr, hxl, hxc, rfl⟩ := trOp_mksl hp
          obtain ⟨i, zv, hi, hzv, rfl, hsc⟩ := zrT_spec hzr
          obtain ⟨i', hi', hb⟩ := byT_spec hby
          rw [hi] at hi'; cases hi'
          have hsize : zv.cells.size = sz1 + 1 := by simpa using q5
          have hll := hrel.ops xl l1 hxl
          have hcc := hrel.ops xc c1 hxc
          rw [hln] at hll; rw [hcp] at hcc
          simp only [RelV] at hll hcc
          have hrun := mksl_run (w := w) hop' he hsz hi hzv hb hsize hll hcc q1 q2 q3 q4
          have hmul : ln.toNat * (sz1 + 1) ≤ cp.toNat * (sz1 + 1) := Nat.mul_le_mul_right _ (by omega)
          rw [q7, zeros_flatten] at f3
          rw [hii] at f1
          refine hlaid (us := (List.replicate ln.toNat zv.cells.toList).flatten) (room := cp.toNat * (sz1 + 1)) f1 f4 (by omega) f3
            (fun u hu => by
              obtain ⟨x, hx, hu⟩ := List.mem_flatten.1 hu
              have := List.eq_of_mem_replicate hx
              exact hsc u (this ▸ hu)) (by simp [List.length_flatten, hsize]; omega) (by simp [hsize]) (zeros_get (by omega) ln.toNat cp.toNat (by omega)) hrun ?_ hg hK
          rw [q6]
          exact ms_new (by simp [St.fill, (List.getElem?_eq_some_iff.1 f4).1]) (by omega) (Nat.le_refl _)
        · exact hr.elim
      | false =>
      simp only [hnw] at hr
      rw [unl_id hnw] at hp
      rcases hr with hr | ⟨hg, a0, id, g, off, hop, hev, hkl⟩
      case inr =>
        have hv : opVal (ev e) H (itm ops A j).o.op = some r := by rw [hop]; simp only [opVal, hev]; exact kc_ld (hinv D' rfl).1.2 hkl
        exact run hg (viaStep (opVal_sound (fun a => rfl) hp hrel.ops hrel.hH hv) fun st' w' a' hext hH' hr' => hk _ _ _ _ _ _ hr' (hstepV (fun _ h => h) hext hH') hK)
      unfold MVal at hr
      split at hr
      · rename_i hg
        simp only [Option.some.injEq] at hr; subst hr
        exact skip hg fun a' hr' => hk _ _ _ _ _ _ hr' (hsame fun _ h => h) hK
      · rename_i hg
        split at hr
        · rename_i z hz
          obtain ⟨id, hid, rfl⟩ := Option.map_eq_some_iff.1 hr
          obtain ⟨g1, _, g2⟩ := hinv D' rfl
          obtain ⟨id', f1, f2, f3, f4⟩ := g2 _ (List.mem_map.2 ⟨j, hjl, rfl⟩) (z.map .lit) (by rw [hz]; rfl)
          have : id = id' := by rw [hii] at hid f1; rw [hid] at f1; exact Option.some.inj f1
          subst this
          rw [hz] at hp
          obtain ⟨t, hop, hzr⟩ := trOp_new hp
          obtain ⟨i, zv, hi, hzv, rfl, hsc⟩ := zrT_spec hzr
          have hrun : (execOp a.eval o').run cx.P w = .ok (.value (.pointer (some ⟨w.heap.size, 0, none⟩))) (w.alloc (.cells zv.cells t)) := by
            simp [execOp, hop, Instr.alloc, zeroValue, typeInfo, hi, hzv, newVar, newRow]
          rw [hii] at f1
          refine hlaid (us := zv.cells.toList) (room := zv.cells.size) f1 f4 (by omega) f3 hsc (by simp) (Nat.le_refl _) (fun i c hc => by simpa using hc) hrun ?_ hg hK
          simp only [RelV]
          refine ⟨⟨0, some (w.heap.size, 0, zv.cells.size)⟩, by simp [St.fill, (List.getElem?_eq_some_iff.1 f4).1], Nat.le_refl _, fun h => absurd h (Nat.lt_irrefl _), fun _ => ⟨_, _, _, rfl, rfl⟩⟩
        · rename_i hmv _ _ _
          have hv : opVal (ev e) H (itm ops A j).o.op = some r := by
            cases ht : (itm ops A j).tail with
            | true => rw [ht] at hr; exact opVal_sub ((hinv D' rfl).2.1 ⟨_, List.mem_map.2 ⟨j, hjl, rfl⟩, hmv, ht⟩) hr
            | false => rw [ht] at hr; exact opVal_sub (hinv D' rfl).1.1 hr
          refine run hg (viaStep (opVal_sound (fun a => rfl) hp hrel.ops hrel.hH hv) fun st' w' a' hext hH' hr' => hk _ _ _ _ _ _ hr' (hstepV (fun _ h => h) hext hH') hK)
      · cases hr
  · split at hs
    · exact hs.elim
    · rename_i hg
      exact skip hg fun a' hr' => hk _ _ _ _ _ _ hr' (hsame fun D1 h => (hnx D1 h).1) hs
    · rename_i hg
      split at hs
      · rename_i f xs hop
        obtain ⟨fid, caps, hf, hcalls⟩ := hs
        rw [hop] at hp
        exact run hg (call_run hrel hp hf hcalls hd fun st' w' a' r H' hext hH' hr' hK => hk _ _ _ _ _ _ hr' (hstep hext hH' hK.1) hK.2)
      · obtain ⟨r, H', hact, hkeep, hK⟩ := hs
        have hnw : isNwl (itm ops A j).o.op = false := by
          cases hx : (itm ops A j).o.op <;> first | rfl | (rename_i hmv _ _; rw [hx] at hmv; cases hmv) | (rw [hx] at hact; cases hact)
        rw [unl_id hnw] at hp
        exact run hg (viaStep (opAct_sound hp hrel.ops hrel.hH hact) fun st' w' a' hext hH' hr' => hk _ _ _ _ _ _ hr' (hstep hext hH' hkeep) hK)

theorem draw_any (hA : TrA cx ops A) {Q : Exit → Act → World → Prop} {st0 : St} {w0 : World} {kc : List CItm} (hm : st0.loc.length = m) (hkc : TrK cx st0 w0 k kc)
    (hn : ∀ a' w', GoK cx.P cx.ro kc (fun a' w' => ∃ st' e' H', Rel cx st0 w0 st' w' e' H' a' ∧ R e' H') a' w' → Q .normal a' w') :
    ∀ (n : Nat) {l : List Nat} {listed : Array Bool} {D : Option DM} {e : Env} {H : AHeap}, l.length ≤ n → Cl ops listed → Valid ops A listed l → DGo cx m k R D (l.map (itm ops A)) e H →
      ∀ st a w, Rel cx st0 w0 st w e H a → Inv m D (l.map (itm ops A)) st H → wpAnyIn (Fc cx.ro) 0 cx.P .any ops Q n listed a w := by
  have hAl : A.length = ops.size := hA.len
  have done : ∀ {D : Option DM} {e : Env} {H : AHeap}, DGo cx m k R D [] e H → ∀ st a w, Rel cx st0 w0 st w e H a → Q .normal a w := by
    intro D e H hg st a w hr
    simp only [DGo] at hg
    exact hn _ _ (hg st0 w0 kc hm hkc st a w ⟨hr.ext, hr.hH, fun t => by simp only [look, RelV], hr.g, fun t _ => rfl, hr.kg, hr.n, hr.d⟩)
  intro n
  induction n with
  | zero =>
    intro l listed D e H hl _ hv hg st a w hr hinv
    have : l = [] := List.length_eq_zero_iff.1 (by omega)
    subst this
    cases hv with
    | nil h => exact ⟨h, done hg st a w hr⟩
  | succ n ih =>
    intro l listed D e H hl hcl hv hg st a w hr hinv
    refine ⟨fun hnil => ?_, fun j hj => ?_⟩
    · cases hv with
      | nil h => exact done hg st a w hr
      | mov h1 _ _ _ => rw [hnil] at h1; cases h1
      | one h1 _ => rw [hnil] at h1; cases h1
    · obtain ⟨l', g1, g2, g3, g4, g5⟩ := pull hAl hcl hv hg hj
      have hun := hv.unlisted
      refine jstep_sound hA hj g1 g2 (fun i hi => hun i (g2 i hi)) (fun i hi he => ?_) hcl (fun i hi => hv.lt i (g2 i hi)) hm hr hinv g5 fun D' r H' st' w' a' hr' hinv' hK => ih (by omega) (hcl.step hj) g4 hK st' a' w' hr' hinv'
      subst he
      have := g4.unlisted i hi
      rw [getD_set_self] at this; cases this
end

theorem canonGo_len {ops : Array Oper} {A : List AOper} : ∀ {n : Nat} {listed : Array Bool} {l : List Nat}, canonGo ops A n listed = some l → l.length ≤ n
  | 0, listed, l, h => by
    simp only [canonGo] at h
    split at h
    · simp only [Option.some.injEq] at h; subst h; simp
    · cases h
  | n + 1, listed, l, h => by
    simp only [canonGo] at h
    split at h
    · split at h
      · split at h
        · rename_i l' hl'
          simp only [Option.some.injEq] at h; subst h
          have := canonGo_len hl'; simp; omega
        · cases h
      · cases h
    · split at h
      · simp only [Option.some.injEq] at h; subst h; simp
      · split at h
        · rename_i l' hl'
          simp only [Option.some.injEq] at h; subst h
          have := canonGo_len hl'; simp; omega
        · cases h
      · cases h

/-! ### The rule -/
def newsOf : List DItm → List (Nat × Option (List Value))
  | [] => []
  | ⟨⟨_, .new z, _⟩, i, _, _⟩ :: l => (i, some z) :: newsOf l
  | ⟨⟨_, .newl _ _ _ _ _, _⟩, i, _, _⟩ :: l => (i, none) :: newsOf l
  | ⟨⟨_, .newm _ _, _⟩, i, _, _⟩ :: l => (i, none) :: newsOf l
  | _ :: l => newsOf l

def cellsN (cs : List AV) : Option (List Value) → List AV
  | some z => z.map .lit
  | none => cs
/-- the places that are kept for the new variables -/
def keptN (cs : List AV) (l : List DItm) : AHeap := (newsOf l).map fun p => .own 0 (cellsN cs p.2)
abbrev kept (l : List DItm) : AHeap := keptN [] l

theorem push_nones {cs : List AV} {st : St} {w : World} : ∀ (zs : List (Nat × Option (List Value))) {H : AHeap}, RelH st w H → ∃ st', Ext st w st' w ∧ RelH st' w (H ++ zs.map fun p => .own 0 (cellsN cs p.2)) ∧ ∀ k, k < zs.length → st'.loc[H.length + k]? = some ⟨0, none⟩
  | [], H, h => ⟨st, .refl _ _, by simpa using h, fun k hk => absurd hk (Nat.not_lt_zero _)⟩
  | z :: zs, H, h => by
    obtain ⟨h1, h2, h3⟩ := push_none h (cellsN cs z.2)
    obtain ⟨st', g1, g2, g3⟩ := push_nones (cs := cs) zs h2
    refine ⟨st', h1.trans g1, by simpa using g2, fun k hk => ?_⟩
    cases k with
    | zero =>
      exact virt_keep (cs := cellsN cs z.2) g1 g2 h3 (by simp)
    | succ k =>
      have := g3 k (by simp at hk; omega)
      rw [← this]; congr 1; simp; omega

theorem newsOf_cons {it : DItm} {l : List DItm} : (∃ z, (∀ cs, nwC cs it.o.op = some (cellsN cs z)) ∧ newsOf (it :: l) = (it.i, z) :: newsOf l) ∨ ((∀ cs z, nwC cs it.o.op ≠ some z) ∧ newsOf (it :: l) = newsOf l) := by
  obtain ⟨⟨d, op, g⟩, i, t, ws⟩ := it
  cases op <;> first | (left; exact ⟨some _, fun _ => rfl, rfl⟩) | (left; exact ⟨none, fun _ => rfl, rfl⟩) | (right; exact ⟨fun cs z h => (by cases h), rfl⟩)

theorem newsOf_pos {cs : List AV} {ops : Array Oper} {A : List AOper} : ∀ {l : List Nat} (b : Nat) {i : Nat} {z : List AV}, i ∈ l → nwC cs (itm ops A i).o.op = some z →
    ∃ k y, posOf ((newsOf (l.map (itm ops A))).map (·.1)) b i = some (b + k) ∧ (newsOf (l.map (itm ops A)))[k]? = some (i, y) ∧ cellsN cs y = z
  | [], b, i, z, h, _ => by cases h
  | x :: l, b, i, z, h, hz => by
    rw [List.map_cons]
    rcases newsOf_cons (it := itm ops A x) (l := l.map (itm ops A)) with ⟨z', h1, h2⟩ | ⟨h1, h2⟩
    · rw [h2]
      have hx : (itm ops A x).i = x := rfl
      by_cases hxi : x = i
      · subst hxi
        have h1 := h1 cs
        rw [hz] at h1
        exact ⟨0, z', by simp [posOf, hx], by simp [hx], (Option.some.inj h1).symm⟩
      · have hi : i ∈ l := by
          rcases List.mem_cons.1 h with rfl | h
          · exact absurd rfl hxi
          · exact h
        obtain ⟨k, y, g1, g2, g3⟩ := newsOf_pos (b + 1) hi hz
        refine ⟨k + 1, y, ?_, by simpa using g2, g3⟩
        simp only [List.map_cons, posOf, hx, if_neg hxi, g1]
        congr 1; omega
    · rw [h2]
      have hi : i ∈ l := by
        rcases List.mem_cons.1 h with rfl | h
        · exact absurd hz (h1 cs z)
        · exact h
      exact newsOf_pos b hi hz

theorem AGo_draw {cx : Cx} {m : Nat} {k : List AItm} {R : Env → AHeap → Prop} {e : Env} {H : AHeap} {L : List DItm} (M M1 : AHeap) (cs : List AV) (nn : Nat) (hM : SubH M (H ++ keptN cs L)) (hM1 : SubH M1 (H ++ keptN cs L)) (kcl : List (Nat × Nat × Nat × AV)) (hkc0 : KcOk kcl (H ++ keptN cs L))
    (h : DGo cx m k R (some ⟨M, H.length, (newsOf L).map (·.1), M1, cs, nn, kcl⟩) L e (H ++ keptN cs L)) : AGo cx m (.code (.draw L) :: k) R e H := by
  refine AGo_code fun c Q st0 w0 kc hm hk ht hn hx hr st a w hrel => ?_
  cases c <;> (try simp only [trCode] at ht)
  case region id ops d =>
    cases d <;> simp only [trCode, Option.some.injEq, regOr_draw, drawOr_draw] at ht
    · have hL := ht
      have hfound : cx.P.follows .mixedOrders = true ∧ ∃ A l, TrA cx ops A ∧ canonGo ops A ops.size (Array.replicate ops.size false) = some l ∧ pickA ops A l = some L := by
        unfold canon at hL
        split at hL
        · rename_i A hA
          split at hL
          · rename_i hmx
            simp only [Bool.and_eq_true] at hmx
            split at hL
            · rename_i l hl
              exact ⟨hmx.1, A, l, ⟨A, hA, hmx.2, .inl rfl⟩, hl, hL⟩
            · split at hL
              · rename_i l hl
                exact ⟨hmx.1, A.map nwl, l, ⟨A, hA, hmx.2, .inr rfl⟩, hl, hL⟩
              · cases hL
          · cases hL
        · cases hL
      obtain ⟨hmx, A, l, hTA, hl, hL⟩ := hfound
      obtain ⟨rfl, hlt⟩ := pickA_spec hL
      refine wpIn_region_any hmx ?_
      have hrel1 : RelH st { w with drawn := w.drawn + 1 } H := hrel.hH.drawn _
      obtain ⟨st', g1, g2, g3⟩ := push_nones (cs := cs) (newsOf (l.map (itm ops A))) hrel1
      have hrel2 : Rel cx st0 w0 st' { w with drawn := w.drawn + 1 } e (H ++ keptN cs (l.map (itm ops A))) a :=
        ⟨(hrel.ext.trans (Ext.drawn st w _)).trans g1, g2, fun t => (hrel.l t).mono g1.le, fun t => (hrel.g t).mono g1.le, hrel.kl, hrel.kg, hrel.n, hrel.d.mono ((Ext.drawn st w _).trans g1)⟩
      refine draw_any hTA hm hk hn ops.size (canonGo_len hl) (fun k i hk hks => by simp [hks] at hk) (canonGo_valid hl) h st' a _ hrel2 fun D' hD => ?_
      cases hD
      refine ⟨⟨hM, hkc0⟩, fun _ => hM1, fun it hit z hz => ?_⟩
      obtain ⟨i, hi, rfl⟩ := List.mem_map.1 hit
      obtain ⟨p, y, h1, h2, h3⟩ := newsOf_pos H.length hi hz
      have hplt := (List.getElem?_eq_some_iff.1 h2).1
      refine ⟨H.length + p, h1, ?_, ?_, g3 p hplt⟩
      · have : st0.loc.length ≤ st.loc.length := by
          rcases Nat.eq_zero_or_pos st0.loc.length with h0 | h0
          · omega
          · obtain ⟨l', e1, _⟩ := hrel.ext.le.loc (st0.loc.length - 1) _ (List.getElem?_eq_getElem (by omega))
            have := (List.getElem?_eq_some_iff.1 e1).1
            omega
        rw [hrel.hH.len, hm] at this; omega
      · rw [List.getElem?_append_right (by omega), Nat.add_sub_cancel_left]
        simp [keptN, h2, h3]
  all_goals first | cases ht | (split at ht <;> cases ht) | (obtain ⟨_, _, h'⟩ := Option.map_eq_some_iff.1 ht; cases h')
end Go.Sas
namespace Go.Sas
variable {cx : Cx} {m : Nat} {k : List AItm} {R : Env → AHeap → Prop} {e : Env} {H H' : AHeap} {D : Option DM} {L : List DItm} {it : DItm}

/-! ### Runs -/
def weakO : AObj → AObj
  | .own g _ => .own g []
  | _ => .gone

def hasN : List Nat → Nat → Bool
  | [], _ => false
  | x :: r, i => match x == i with | true => true | false => hasN r i
/-- i + 1000: nothing is said of the object i -/
def maskGo (us : List Nat) : Nat → AHeap → AHeap
  | _, [] => []
  | i, x :: H => (match hasN us i with
    | true => weakO x
    | false => match hasN us (i + 1000) with
      | true => .gone
      | false => x) :: maskGo us (i + 1) H

/-- the heap, but for what some objects hold -/
def mask (us : List Nat) (H : AHeap) : AHeap := match us with
  | [] => H
  | us => maskGo us 0 H

theorem maskGo_sub {us : List Nat} : ∀ {i : Nat} {H T : AHeap}, SubH (maskGo us i H) (H ++ T)
  | _, [], _ => by simp [maskGo, SubH]
  | i, x :: H, T => by
    have ih := maskGo_sub (us := us) (i := i + 1) (H := H) (T := T)
    simp only [maskGo, List.cons_append]
    split
    · cases x <;> simp only [weakO, SubH] <;> first | exact ih | exact ⟨trivial, ih⟩
    split
    · exact ih
    · rcases x with _ | ⟨g, _ | ⟨c, cs⟩⟩ | ⟨g, o⟩ <;> simp only [SubH] <;> first | exact ih | exact ⟨trivial, ih⟩ | exact ⟨rfl, ih⟩

theorem maskGo_nil : ∀ {i : Nat} {H : AHeap}, maskGo [] i H = H
  | _, [] => rfl
  | i, x :: H => by simp only [maskGo, hasN, maskGo_nil]
theorem mask_sub {us : List Nat} {H T : AHeap} : SubH (mask us H) (H ++ T) := by
  unfold mask
  split
  · have := maskGo_sub (us := []) (i := 0) (H := H) (T := T)
    rwa [maskGo_nil] at this
  · exact maskGo_sub
/-- i + 2000000: the object i is weak from the first write on -/
def lateU : List Nat → List Nat
  | [] => []
  | u :: us => (if 2000000 ≤ u then u - 2000000 else u) :: lateU us
theorem AGo_drw (us : List Nat) (h : DGo cx m k R (some ⟨mask (lateU us) H, H.length, (newsOf L).map (·.1), mask us H, [], 0, []⟩) L e (H ++ kept L)) : AGo cx m (.code (.draw L) :: k) R e H :=
  AGo_draw (mask (lateU us) H) (mask us H) [] 0 mask_sub mask_sub [] trivial h
/-- a region that makes slices of one length: their cells -/
theorem AGo_drwN (us : List Nat) (cs : List AV) (nn : Nat) (h : DGo cx m k R (some ⟨mask (lateU us) H, H.length, (newsOf L).map (·.1), mask us H, cs, nn, []⟩) L e (H ++ keptN cs L)) : AGo cx m (.code (.draw L) :: k) R e H :=
  AGo_draw (mask (lateU us) H) (mask us H) cs nn mask_sub mask_sub [] trivial h

theorem DGo_act {r : AV} (hm : movB it.o.op = false) (hg : gOk e it.o.grd = some true) (hv : opAct (ev e) H it.o.op = some (r, H')) (hk : Keep D it H H') (h : DGo cx m k R (nx D it) L (put e it.o.dst r) H') : DGo cx m k R D (it :: L) e H := by
  simp only [DGo, JStep, hm, hg]
  split
  · rename_i f xs hop; rw [hop] at hv; simp [opAct] at hv
  · exact ⟨r, H', hv, hk, h⟩

theorem DGo_call {d : Option (Bool × Nat)} {f : Od} {xs : List Od} {g : Option (Od × Bool)} {i : Nat} {tl : Bool} {ws : List Nat} {fid : Nat} {caps : List AV} (hg : gOk e g = some true) (hf : ev e f = .fn fid caps)
    (h : ACalls cx.P (fnI fid) (fnA fid caps (xs.map (ev e))) H fun r H' => Keep D ⟨⟨d, .call f xs, g⟩, i, tl, ws⟩ H H' ∧ DGo cx m k R (nx D ⟨⟨d, .call f xs, g⟩, i, tl, ws⟩) L (put e d r) H') :
    DGo cx m k R D (⟨⟨d, .call f xs, g⟩, i, tl, ws⟩ :: L) e H := by
  simp only [DGo, JStep, movB, hg]
  exact ⟨fid, caps, hf, h⟩

/-! ### Calls of functions that name no object -/
/-- called with these values, whatever there is, it yields a value of Q and leaves all as it was -/
def PCalls (P : Program) (f : Nat) (args : List AV) (Q : AV → Prop) : Prop := ACalls P f args [] fun r H' => H' = [] ∧ r.nid = true ∧ Q r

theorem PCalls.calls {P : Program} {f : Nat} {args : List AV} {Q : AV → Prop} (h : PCalls P f args Q) (ha : AV.nidL args = true) (H : AHeap) : ACalls P f args H fun r H' => H' = H ∧ r.nid = true ∧ Q r := by
  have := ACalls.frame (H := H) [] h List.nodup_nil rfl (AV.ltL_nid ha) (by simp [ltH]) (fun k X hk => by simp at hk)
  rw [AV.renL_nid ha] at this
  refine this.mono fun r H' hr => ?_
  obtain ⟨r0, H1, ⟨rfl, hn, hq⟩, _, rfl, rfl⟩ := hr
  exact ⟨by simp [merge, updL], by rw [AV.ren_nid hn]; exact hn, by rw [AV.ren_nid hn]; exact hq⟩

/-! ### What nobody writes any more -/
/-- other values for what lives on, another heap: whatever fits the one fits the other -/
def Turns (e : Env) (H : AHeap) (e' : Env) (H' : AHeap) : Prop := ∀ st w, RelH st w H → ∃ st', Ext st w st' w ∧ RelH st' w H' ∧
  (∀ t v, RelV st (look e.l t) v → RelV st' (look e'.l t) v) ∧ (∀ t v, RelV st (look e.g t) v → RelV st' (look e'.g t) v) ∧ (∀ t, look e.l t = .bad → look e'.l t = .bad) ∧ (∀ t, look e.g t = .bad → look e'.g t = .bad)

theorem AGo_turn {e' : Env} (ht : Turns e H e' H') (h : AGo cx m k R e' H') : AGo cx m k R e H := by
  intro st0 w0 kc hm hk st a w hr
  obtain ⟨st', h1, h2, h3, h4, h5, h6⟩ := ht st w hr.hH
  exact h st0 w0 kc hm hk st' a w ⟨hr.ext.trans h1, h2, fun t => h3 t _ (hr.l t), fun t => h4 t _ (hr.g t), fun t ht => h5 t (hr.kl t ht), fun t ht => h6 t (hr.kg t ht), hr.n, hr.d.mono h1⟩

theorem uncell {st : St} {x : AV} {cs : List AV} {us : List Value} (hx : x.cells = some cs) (hr : RelL st cs us) (hs : ∀ u ∈ us, Scal u) : ∃ v, RelV st x v ∧ v.cells.toList = us := by
  have one : RelL st [x] us → ∃ v, RelV st x v ∧ v.cells.toList = us := fun h => by
    obtain ⟨u, us', rfl, h1, h2⟩ := h.uncons
    simp only [RelL] at h2; subst h2
    exact ⟨u, h1, by rw [(hs u (by simp)).cells]⟩
  cases x with
  | bad => simp [AV.cells] at hx
  | tup _ => simp [AV.cells] at hx
  | lit v =>
    simp only [AV.cells] at hx
    split at hx
    · simp only [Option.some.injEq] at hx; subst hx; exact one hr
    · cases hx
  | agg cs' =>
    simp only [AV.cells, Option.some.injEq] at hx; subst hx
    refine ⟨.agg us.toArray, ?_, by simp [Value.cells]⟩
    simp only [RelV]
    exact ⟨_, rfl, by simpa using hr, by simpa using hs⟩
  | _ => simp only [AV.cells, Option.some.injEq] at hx; subst hx; exact one hr

theorem uncells {st : St} : ∀ {xs : List AV} {cs : List AV} {us : List Value}, xs.foldr (fun e acc => match e.cells, acc with | some cs, some r => some (cs ++ r) | _, _ => none) (some []) = some cs → RelL st cs us → (∀ u ∈ us, Scal u) →
    ∃ vs, RelL st xs vs ∧ flat vs = us
  | [], cs, us, h, hr, hs => by
    simp only [List.foldr_nil, Option.some.injEq] at h; subst h
    simp only [RelL] at hr; subst hr
    exact ⟨[], RelL.nil, rfl⟩
  | x :: xs, cs, us, h, hr, hs => by
    simp only [List.foldr_cons] at h
    split at h
    · rename_i c1 c2 h1 h2
      simp only [Option.some.injEq] at h; subst h
      have g1 := hr.take c1.length
      have g2 := hr.drop c1.length
      rw [List.take_left] at g1; rw [List.drop_left] at g2
      obtain ⟨v, f1, f2⟩ := uncell h1 g1 (fun u hu => hs u (List.mem_of_mem_take hu))
      obtain ⟨vs, f3, f4⟩ := uncells h2 g2 (fun u hu => hs u (List.mem_of_mem_drop hu))
      exact ⟨v :: vs, RelL.cons f1 f3, by simp only [flat, List.flatMap_cons, f2] at f4 ⊢; rw [f4, List.take_append_drop]⟩
    · cases h

theorem uncells_size {st : St} {sz : Nat} : ∀ {xs : List AV} {vs : List Value}, RelL st xs vs → elemsLen sz xs = true → ∀ u ∈ vs, u.cells.size = sz
  | [], vs, h, _, u, hu => by simp only [RelL] at h; subst h; cases hu
  | x :: xs, vs, h, he, u, hu => by
    obtain ⟨v, vs', rfl, h1, h2⟩ := h.uncons
    simp only [elemsLen, List.all_cons, Bool.and_eq_true] at he
    rcases List.mem_cons.1 hu with rfl | hu
    · have := he.1
      split at this
      · rename_i cs hcs
        have h3 := (h1.cells hcs).1.length
        simp at h3 this; omega
      · cases this
    · exact uncells_size h2 he.2 u hu

/-- A row is nobody's to write any more: every value that shows it as it is now becomes a slice of its elements. -/
theorem freeze_st {st : St} {w : World} {id g : Nat} {cs : List AV} (hH : RelH st w H) (hX : H[id]? = some (.own g cs)) :
    ∃ st', Ext st w st' w ∧ RelH st' w (H.set id .gone) ∧ ∀ (sz off len : Nat) (xs : List AV) (v : Value), cellsOfSl [] sz (.vs sz xs) = some ((cs.drop off).take (len * sz)) → off + len * sz ≤ cs.length → xs.length = len → elemsOk sz xs = true →
      RelV st (.ms sz id g off len) v → RelV st' (.vs sz xs) v := by
  have hlt : id < st.loc.length := by rw [hH.len]; exact (List.getElem?_eq_some_iff.1 hX).1
  have hl : st.loc[id]? = some st.loc[id] := List.getElem?_eq_getElem hlt
  generalize st.loc[id] = l at hl
  have hg : l.g = g := (hH.obj id l _ hl hX).1
  -- what is known of the cells
  obtain ⟨rd', hrd1, hrd2, hrd3⟩ : ∃ rd' : Nat → Nat → Option Value, (∀ b o c, st.rd b o = some c → rd' b o = some c) ∧
      (∀ b o c, rd' b o = some c → st.rd b o = some c ∨ (Scal c ∧ w.cell? ⟨b, o, none⟩ = some c ∧ ∃ o' r, l.base = some (b, o', r))) ∧
      (∀ b o r, l.base = some (b, o, r) → ∃ us, RelL st cs us ∧ (∀ u ∈ us, Scal u) ∧ ∀ i c, us[i]? = some c → rd' b (o + i) = some c) := by
    cases hb : l.base with
    | none => exact ⟨st.rd, fun _ _ _ h => h, fun _ _ _ h => .inl h, fun b o r h => by cases h⟩
    | some x =>
      obtain ⟨b, o, r⟩ := x
      obtain ⟨us, h1, h2, h3⟩ := own_cells hH hX hl hb
      have hnone : ∀ o', st.rd b o' = none := fun o' => by
        cases hq : st.rd b o' with
        | none => rfl
        | some c => exact absurd ⟨id, l, o, r, hl, hb⟩ (hH.rd b o' c hq).2.2
      refine ⟨fun b' o' => if b' = b then (if o ≤ o' then us[o' - o]? else none) else st.rd b' o', fun b' o' c h => ?_, fun b' o' c h => ?_, fun b' o' r' h => ?_⟩
      · have : b' ≠ b := fun he => by subst he; rw [hnone] at h; cases h
        simp only [if_neg this]; exact h
      · simp only at h
        split at h
        · rename_i he; subst he
          split at h
          · rename_i hle
            have := h3 _ c h
            rw [Nat.add_sub_cancel' hle] at this
            exact .inr ⟨h2 c (List.mem_of_getElem? h), this, o, r, rfl⟩
          · cases h
        · exact .inl h
      · cases h
        exact ⟨us, h1, h2, fun i c hc => by simp [hc]⟩
  let st' : St := ⟨rd', st.loc.set id ⟨g + 1, none⟩⟩
  have hget : ∀ (j : Nat) (x : Loc), st'.loc[j]? = some x → (j = id ∧ x = ⟨g + 1, none⟩) ∨ (j ≠ id ∧ st.loc[j]? = some x) := by
    intro j x hx
    simp only [st', List.getElem?_set] at hx
    split at hx
    · rename_i he; subst he
      simp [hlt] at hx
      exact .inl ⟨rfl, hx.symm⟩
    · rename_i he; exact .inr ⟨fun h => he h.symm, hx⟩
  have hown : ∀ b, Owned st' b → Owned st b ∧ ∀ o r, l.base ≠ some (b, o, r) := by
    rintro b ⟨j, x, o, r, hx, hb⟩
    rcases hget j x hx with ⟨rfl, rfl⟩ | ⟨hj, hx'⟩
    · cases hb
    · exact ⟨⟨j, x, o, r, hx', hb⟩, fun o' r' h => hj (hH.inj j id x l b o r o' r' hx' hl hb h)⟩
  have hle : st.le st' := ⟨hrd1, fun j x hx => by
    by_cases hj : j = id
    · subst hj
      rw [hl] at hx; cases hx
      exact ⟨⟨g + 1, none⟩, by simp [st', hlt], by simp only; omega, fun h => by simp only at h; omega⟩
    · exact ⟨x, by simp [st', List.getElem?_set, Ne.symm hj, hx], Nat.le_refl _, fun _ => rfl⟩⟩
  refine ⟨st', ⟨hle, Nat.le_refl _, fun _ _ _ => rfl, fun b hb => .inl (hown b hb).1, rfl, rfl, fun b o c hc => ?_⟩, ⟨by simp [st', hH.len], ?_, ?_, ?_⟩, ?_⟩
  · rcases hrd2 b o c hc with h | ⟨_, _, o', r, h⟩
    · exact .inl h
    · exact .inr (.inr ⟨id, l, o', r, hl, h⟩)
  · intro b o c hc
    rcases hrd2 b o c hc with h | ⟨h1, h2, o', r, h3⟩
    · exact ⟨(hH.rd b o c h).1, (hH.rd b o c h).2.1, fun ho => (hH.rd b o c h).2.2 (hown b ho).1⟩
    · exact ⟨h1, h2, fun ho => (hown b ho).2 o' r h3⟩
  · intro j x X hx hXj
    rcases hget j x hx with ⟨rfl, rfl⟩ | ⟨hj, hx'⟩
    · rw [List.getElem?_set_self (by rw [← hH.len]; exact hlt)] at hXj
      cases hXj; rfl
    · rw [List.getElem?_set_ne (Ne.symm hj)] at hXj
      exact (hH.obj j x X hx' hXj).mono hle fun _ _ _ _ => rfl
  · intro j j' x x' b o r o' r' hx hx' hb hb'
    rcases hget j x hx with ⟨rfl, rfl⟩ | ⟨_, hx⟩
    · cases hb
    · rcases hget j' x' hx' with ⟨rfl, rfl⟩ | ⟨_, hx'⟩
      · cases hb'
      · exact hH.inj j j' x x' b o r o' r' hx hx' hb hb'
  · intro sz off len xs v hxs hle2 hlen hok hv
    simp only [RelV] at hv
    obtain ⟨l2, h1, h2, h3, h4⟩ := hv
    rw [hl] at h1; cases h1
    obtain ⟨a, cap, rfl, hcap, h5⟩ := h4 hg.symm
    simp only [cellsOfSl, if_true] at hxs
    simp only [elemsOk, Bool.and_eq_true] at hok
    simp only [RelV]
    by_cases hc : 0 < cap
    · obtain ⟨b, o, r, h6, rfl, h7⟩ := h5 hc
      obtain ⟨us, f1, f2, f3⟩ := hrd3 b o r h6
      obtain ⟨vs, f4, f5⟩ := uncells hxs ((f1.drop off).take (len * sz)) (fun u hu => f2 u (List.mem_of_mem_drop (List.mem_of_mem_take hu)))
      refine ⟨_, cap, vs, by rw [hlen], by rw [hlen]; exact hcap, RelL.nid (st' := st'.pure) hrd1 hok.1 f4, uncells_size f4 hok.2, fun _ => ⟨b, o + off, rfl, ?_⟩⟩
      intro i c hi
      rw [f5] at hi
      have hi2 : i < len * sz := by
        rcases Nat.lt_or_ge i (len * sz) with h | h
        · exact h
        · rw [List.getElem?_eq_none (by simp; omega)] at hi; cases hi
      rw [List.getElem?_take_of_lt hi2, List.getElem?_drop] at hi
      have := f3 (off + i) c hi
      rw [Nat.add_assoc]; exact this
    · have : len = 0 := by omega
      subst this
      have : xs = [] := List.length_eq_zero_iff.1 hlen
      subst this
      exact ⟨a, cap, [], rfl, by simp, by simp [RelL], by simp, fun h => absurd rfl h⟩

theorem AGo_freeze (t : Nat) {id g sz off len : Nat} {xs cs : List AV} (hX : H[id]? = some (.own g cs)) (ht : look e.g t = .ms sz id g off len) (h1 : cellsOfSl [] sz (.vs sz xs) = some ((cs.drop off).take (len * sz)))
    (h2 : off + len * sz ≤ cs.length) (h3 : xs.length = len) (h4 : elemsOk sz xs = true) (h : AGo cx m k R ⟨e.l, gset e.g t (.vs sz xs)⟩ (H.set id .gone)) : AGo cx m k R e H := by
  refine AGo_turn (fun st w hH => ?_) h
  obtain ⟨st', g1, g2, g3⟩ := freeze_st hH hX
  refine ⟨st', g1, g2, fun t v hv => hv.mono g1.le, fun t' v hv => ?_, fun _ h => h, fun t' hb => ?_⟩
  · rw [look_gset]
    split
    · rename_i he; subst he
      rw [ht] at hv
      exact g3 sz off len xs v h1 h2 h3 h4 hv
    · exact hv.mono g1.le
  · rw [look_gset]
    split
    · rename_i he; subst he; rw [ht] at hb; cases hb
    · exact hb

/-- the slice that is none, as a row without room -/
theorem AGo_nilms (t sz : Nat) (ht : look e.g t = .lit (.slice none 0 0)) (h : AGo cx m k R ⟨e.l, gset e.g t (.ms sz H.length 0 0 0)⟩ (H ++ [.own 0 []])) : AGo cx m k R e H := by
  refine AGo_turn (fun st w hH => ?_) h
  obtain ⟨g1, g2, g3⟩ := push_none hH []
  refine ⟨_, g1, g2, fun t v hv => hv.mono g1.le, fun t' v hv => ?_, fun _ h => h, fun t' hb => ?_⟩
  · rw [look_gset]
    split
    · rename_i he; subst he
      rw [ht] at hv
      simp only [RelV] at hv ⊢
      subst hv
      exact ⟨_, g3, Nat.le_refl _, fun h => absurd h (Nat.lt_irrefl _), fun _ => ⟨none, 0, rfl, Nat.le_refl _, fun h => absurd h (Nat.lt_irrefl _)⟩⟩
    · exact hv.mono g1.le
  · rw [look_gset]
    split
    · rename_i he; subst he; rw [ht] at hb; cases hb
    · exact hb
end Go.Sas
