/-
An abstract machine over values, part 11: a contract over few objects holds in every greater heap.
Conditions: none (lemmas over any program).
-/
import Derived.Test.YtelmlpjkpebcgaaAbs10
set_option linter.unusedVariables false
set_option linter.unusedSimpArgs false
namespace Go.Sas

/-! ### Other names for the objects -/
def at_ (ι : List Nat) (i : Nat) : Nat := (ι[i]?).getD 0

mutual
def AV.ren (ι : List Nat) (a : AV) : AV := match a with
  | .agg cs => .agg (AV.renL ι cs)
  | .tup cs => .tup (AV.renL ι cs)
  | .fn f cs => .fn f (AV.renL ι cs)
  | .mp id g off => .mp (at_ ι id) g off
  | .ms sz id g off len => .ms sz (at_ ι id) g off len
  | .yl id g => .yl (at_ ι id) g
  | .bad => .bad
  | .lit v => .lit v
  | .vs sz xs => .vs sz xs
  | .vp cs => .vp cs
  | .es => .es
def AV.renL (ι : List Nat) (as : List AV) : List AV := match as with
  | [] => []
  | a :: as => a.ren ι :: AV.renL ι as
end

def AObj.ren (ι : List Nat) : AObj → AObj
  | .own g cs => .own g (AV.renL ι cs)
  | .gone => .gone
  | .raw g o => .raw g o

mutual
theorem AV.ren_nid {ι : List Nat} : ∀ {a : AV}, a.nid = true → a.ren ι = a
  | .bad, _ | .lit _, _ | .vs _ _, _ | .vp _, _ | .es, _ => by simp only [AV.ren]
  | .agg cs, h => by simp only [AV.nid] at h; simp only [AV.ren, AV.renL_nid h]
  | .tup cs, h => by simp only [AV.nid] at h; simp only [AV.ren, AV.renL_nid h]
  | .fn f cs, h => by simp only [AV.nid] at h; simp only [AV.ren, AV.renL_nid h]
  | .mp _ _ _, h | .ms _ _ _ _ _, h | .yl _ _, h => by simp [AV.nid] at h
theorem AV.renL_nid {ι : List Nat} : ∀ {as : List AV}, AV.nidL as = true → AV.renL ι as = as
  | [], _ => by simp only [AV.renL]
  | a :: as, h => by
    simp only [AV.nidL, Bool.and_eq_true] at h
    simp only [AV.renL, AV.ren_nid h.1, AV.renL_nid h.2]
end

mutual
theorem AV.lt_nid {n : Nat} : ∀ {a : AV}, a.nid = true → a.lt n
  | .bad, _ | .lit _, _ | .vs _ _, _ | .vp _, _ | .es, _ => by simp only [AV.lt]
  | .agg cs, h => by simp only [AV.nid] at h; simp only [AV.lt]; exact AV.ltL_nid h
  | .tup cs, h => by simp only [AV.nid] at h; simp only [AV.lt]; exact AV.ltL_nid h
  | .fn f cs, h => by simp only [AV.nid] at h; simp only [AV.lt]; exact AV.ltL_nid h
  | .mp _ _ _, h | .ms _ _ _ _ _, h | .yl _ _, h => by simp [AV.nid] at h
theorem AV.ltL_nid {n : Nat} : ∀ {as : List AV}, AV.nidL as = true → AV.ltL n as
  | [], _ => by simp only [AV.ltL]
  | a :: as, h => by
    simp only [AV.nidL, Bool.and_eq_true] at h
    simp only [AV.ltL]; exact ⟨AV.lt_nid h.1, AV.ltL_nid h.2⟩
end

/-- where the objects of the few lie: s knows of them what st knows -/
def Sel (ι : List Nat) (s st : St) : Prop := s.rd = st.rd ∧ ∀ (k i : Nat), ι[k]? = some i → st.loc[i]? = s.loc[k]?

mutual
theorem RelV.ren_to {ι : List Nat} {s st : St} (h : Sel ι s st) (hn : s.loc.length ≤ ι.length) : ∀ {a : AV} {v : Value}, RelV s a v → RelV st (a.ren ι) v
  | .bad, _, _ => by simp only [AV.ren, RelV]
  | .lit u, v, hv => by simp only [AV.ren, RelV] at hv ⊢; exact hv
  | .agg cs, v, hv => by
    simp only [AV.ren, RelV] at hv ⊢
    obtain ⟨us, h1, h2, h3⟩ := hv
    exact ⟨us, h1, RelL.ren_to h hn h2, h3⟩
  | .tup cs, v, hv => by
    simp only [AV.ren, RelV] at hv ⊢
    obtain ⟨us, h1, h2⟩ := hv
    exact ⟨us, h1, RelL.ren_to h hn h2⟩
  | .vs sz es, v, hv => by simp only [AV.ren, RelV, St.pure] at hv ⊢; rw [← h.1]; exact hv
  | .vp cs, v, hv => by simp only [AV.ren, RelV, St.pure] at hv ⊢; rw [← h.1]; exact hv
  | .mp id g off, v, hv => by
    simp only [AV.ren, RelV] at hv ⊢
    obtain ⟨l, h1, h2⟩ := hv
    have : id < ι.length := Nat.lt_of_lt_of_le (List.getElem?_eq_some_iff.1 h1).1 hn
    exact ⟨l, by rw [at_, List.getElem?_eq_getElem this, Option.getD_some, h.2 id _ (List.getElem?_eq_getElem this), h1], h2⟩
  | .ms sz id g off len, v, hv => by
    simp only [AV.ren, RelV] at hv ⊢
    obtain ⟨l, h1, h2⟩ := hv
    have : id < ι.length := Nat.lt_of_lt_of_le (List.getElem?_eq_some_iff.1 h1).1 hn
    exact ⟨l, by rw [at_, List.getElem?_eq_getElem this, Option.getD_some, h.2 id _ (List.getElem?_eq_getElem this), h1], h2⟩
  | .yl id g, v, hv => by
    simp only [AV.ren, RelV] at hv ⊢
    obtain ⟨l, h1, h2⟩ := hv
    have : id < ι.length := Nat.lt_of_lt_of_le (List.getElem?_eq_some_iff.1 h1).1 hn
    exact ⟨l, by rw [at_, List.getElem?_eq_getElem this, Option.getD_some, h.2 id _ (List.getElem?_eq_getElem this), h1], h2⟩
  | .es, v, hv => by simp only [AV.ren, RelV] at hv ⊢; exact hv
  | .fn f caps, v, hv => by
    simp only [AV.ren, RelV] at hv ⊢
    obtain ⟨us, h1, h2⟩ := hv
    exact ⟨us, h1, RelL.ren_to h hn h2⟩
theorem RelL.ren_to {ι : List Nat} {s st : St} (h : Sel ι s st) (hn : s.loc.length ≤ ι.length) : ∀ {as : List AV} {us : List Value}, RelL s as us → RelL st (AV.renL ι as) us
  | [], us, hv => by simp only [AV.renL, RelL] at hv ⊢; exact hv
  | a :: as, us, hv => by
    simp only [AV.renL, RelL] at hv ⊢
    obtain ⟨u, us', h1, h2, h3⟩ := hv
    exact ⟨u, us', h1, RelV.ren_to h hn h2, RelL.ren_to h hn h3⟩
end

mutual
theorem RelV.ren_of {ι : List Nat} {s st : St} (h : Sel ι s st) : ∀ {a : AV} {v : Value}, a.lt ι.length → RelV st (a.ren ι) v → RelV s a v
  | .bad, _, _, _ => by simp only [RelV]
  | .lit u, v, _, hv => by simp only [AV.ren, RelV] at hv ⊢; exact hv
  | .agg cs, v, hl, hv => by
    simp only [AV.lt] at hl
    simp only [AV.ren, RelV] at hv ⊢
    obtain ⟨us, h1, h2, h3⟩ := hv
    exact ⟨us, h1, RelL.ren_of h hl h2, h3⟩
  | .tup cs, v, hl, hv => by
    simp only [AV.lt] at hl
    simp only [AV.ren, RelV] at hv ⊢
    obtain ⟨us, h1, h2⟩ := hv
    exact ⟨us, h1, RelL.ren_of h hl h2⟩
  | .vs sz es, v, _, hv => by simp only [AV.ren, RelV, St.pure] at hv ⊢; rw [h.1]; exact hv
  | .vp cs, v, _, hv => by simp only [AV.ren, RelV, St.pure] at hv ⊢; rw [h.1]; exact hv
  | .mp id g off, v, hl, hv => by
    simp only [AV.lt] at hl
    simp only [AV.ren, RelV] at hv ⊢
    obtain ⟨l, h1, h2⟩ := hv
    exact ⟨l, by rw [← h.2 id _ (List.getElem?_eq_getElem hl), ← h1, at_, List.getElem?_eq_getElem hl, Option.getD_some], h2⟩
  | .ms sz id g off len, v, hl, hv => by
    simp only [AV.lt] at hl
    simp only [AV.ren, RelV] at hv ⊢
    obtain ⟨l, h1, h2⟩ := hv
    exact ⟨l, by rw [← h.2 id _ (List.getElem?_eq_getElem hl), ← h1, at_, List.getElem?_eq_getElem hl, Option.getD_some], h2⟩
  | .yl id g, v, hl, hv => by
    simp only [AV.lt] at hl
    simp only [AV.ren, RelV] at hv ⊢
    obtain ⟨l, h1, h2⟩ := hv
    exact ⟨l, by rw [← h.2 id _ (List.getElem?_eq_getElem hl), ← h1, at_, List.getElem?_eq_getElem hl, Option.getD_some], h2⟩
  | .es, v, _, hv => by simp only [AV.ren, RelV] at hv ⊢; exact hv
  | .fn f caps, v, hl, hv => by
    simp only [AV.lt] at hl
    simp only [AV.ren, RelV] at hv ⊢
    obtain ⟨us, h1, h2⟩ := hv
    exact ⟨us, h1, RelL.ren_of h hl h2⟩
theorem RelL.ren_of {ι : List Nat} {s st : St} (h : Sel ι s st) : ∀ {as : List AV} {us : List Value}, AV.ltL ι.length as → RelL st (AV.renL ι as) us → RelL s as us
  | [], us, _, hv => by simp only [AV.renL, RelL] at hv ⊢; exact hv
  | a :: as, us, hl, hv => by
    simp only [AV.ltL] at hl
    simp only [AV.renL, RelL] at hv ⊢
    obtain ⟨u, us', h1, h2, h3⟩ := hv
    exact ⟨u, us', h1, RelV.ren_of h hl.1 h2, RelL.ren_of h hl.2 h3⟩
end

/-! ### A list with some of its places turned, and more behind it -/
def updL {α : Type} : List α → List Nat → List α → List α
  | L, i :: ι, x :: N => updL (L.set i x) ι N
  | L, _, _ => L

def merge {α : Type} (L : List α) (ι : List Nat) (N : List α) : List α := updL L ι N ++ N.drop ι.length

/-- the names, with those of new objects -/
def more (ι : List Nat) (n k : Nat) : List Nat := ι ++ List.range' n (k - ι.length)

section
variable {α : Type}
theorem updL_length : ∀ (ι : List Nat) (L N : List α), (updL L ι N).length = L.length
  | [], L, N => by simp [updL]
  | i :: ι, L, [] => by simp [updL]
  | i :: ι, L, x :: N => by simp [updL, updL_length ι]

theorem updL_other : ∀ (ι : List Nat) (L N : List α) (id : Nat), id ∉ ι → (updL L ι N)[id]? = L[id]?
  | [], L, N, id, h => by simp [updL]
  | i :: ι, L, [], id, h => by simp [updL]
  | i :: ι, L, x :: N, id, h => by
    simp only [List.mem_cons, not_or] at h
    rw [updL, updL_other ι _ N id h.2, List.getElem?_set_ne (Ne.symm h.1)]

theorem updL_at : ∀ (ι : List Nat) (L N : List α) (k id : Nat), ι.Nodup → ι[k]? = some id → id < L.length → k < N.length → (updL L ι N)[id]? = N[k]?
  | [], L, N, k, id, _, h, _, _ => by simp at h
  | i :: ι, L, [], k, id, _, _, _, h => by simp at h
  | i :: ι, L, x :: N, 0, id, hn, h, hl, _ => by
    simp at h; subst h
    have hn := List.nodup_cons.1 hn
    rw [updL, updL_other ι _ N i hn.1]; simp [hl]
  | i :: ι, L, x :: N, k + 1, id, hn, h, hl, hk => by
    simp at h hk
    have hn := List.nodup_cons.1 hn
    rw [updL, updL_at ι _ N k id hn.2 h (by simpa using hl) hk]; simp

variable {L N : List α} {ι : List Nat}
theorem merge_length (h : ι.length ≤ N.length) : (merge L ι N).length = L.length + (N.length - ι.length) := by simp [merge, updL_length]

theorem more_get {n k id : Nat} {c : Nat} (h : (more ι n c)[k]? = some id) : ι[k]? = some id ∨ (ι.length ≤ k ∧ k < ι.length + (c - ι.length) ∧ id = n + (k - ι.length)) := by
  unfold more at h
  rcases Nat.lt_or_ge k ι.length with hk | hk
  · rw [List.getElem?_append_left hk] at h; exact .inl h
  · rw [List.getElem?_append_right hk] at h
    right
    have hlt : k - ι.length < c - ι.length := by
      rcases Nat.lt_or_ge (k - ι.length) (c - ι.length) with h1 | h1
      · exact h1
      · rw [List.getElem?_eq_none (by simpa using h1)] at h; cases h
    rw [List.getElem?_eq_getElem (by simpa using hlt)] at h
    simp at h
    omega

theorem more_length {n c : Nat} (h : ι.length ≤ c) : (more ι n c).length = c := by simp [more]; omega

theorem merge_at {k id : Nat} (hn : ι.Nodup) (hι : ∀ i ∈ ι, i < L.length) (hN : ι.length ≤ N.length) (h : (more ι L.length N.length)[k]? = some id) : (merge L ι N)[id]? = N[k]? := by
  rcases more_get h with h | ⟨h1, h2, rfl⟩
  · have hl := hι id (List.mem_of_getElem? h)
    have hk := (List.getElem?_eq_some_iff.1 h).1
    rw [merge, List.getElem?_append_left (by rw [updL_length]; exact hl), updL_at ι L N k id hn h hl (by omega)]
  · rw [merge, List.getElem?_append_right (by rw [updL_length]; omega), updL_length, List.getElem?_drop]
    congr 1; omega

theorem merge_other {id : Nat} (h : id ∉ ι) (hl : id < L.length) : (merge L ι N)[id]? = L[id]? := by
  rw [merge, List.getElem?_append_left (by rw [updL_length]; exact hl), updL_other ι L N id h]

theorem merge_cover {id : Nat} (hN : ι.length ≤ N.length) (h : id < (merge L ι N).length) : (∃ k, k < N.length ∧ (more ι L.length N.length)[k]? = some id) ∨ (id ∉ ι ∧ id < L.length) := by
  rw [merge_length hN] at h
  by_cases hm : id ∈ ι
  · obtain ⟨k, hk⟩ := List.mem_iff_getElem?.1 hm
    have hlt := (List.getElem?_eq_some_iff.1 hk).1
    exact .inl ⟨k, by omega, by rw [more, List.getElem?_append_left hlt, hk]⟩
  · rcases Nat.lt_or_ge id L.length with hl | hl
    · exact .inr ⟨hm, hl⟩
    · refine .inl ⟨ι.length + (id - L.length), by omega, ?_⟩
      rw [more, List.getElem?_append_right (by omega), List.getElem?_eq_getElem (by simp; omega)]
      simp; omega
end

/-! ### The frame -/
theorem ObjOk.ren {ι : List Nat} {s st : St} {w : World} {l : Loc} {X : AObj} (h : Sel ι s st) (hn : s.loc.length ≤ ι.length) (hX : ObjOk s w l X) : ObjOk st w l (X.ren ι) := by
  cases X with
  | gone => exact hX
  | raw g o => exact hX
  | own g cs =>
    simp only [AObj.ren, ObjOk] at hX ⊢
    refine ⟨hX.1, fun b o r hb => ?_⟩
    obtain ⟨arr, T, us, f1, f2, f3, f4, f5, f6⟩ := hX.2 b o r hb
    have e1 := f4.length
    have f4' := f4.ren_to h hn
    exact ⟨arr, T, us, f1, f2, by rw [← f4'.length, e1]; exact f3, f4', f5, f6⟩

theorem ObjOk.ren_of {ι : List Nat} {s st : St} {w : World} {l : Loc} {X : AObj} (h : Sel ι s st) (hl : X.lt ι.length) (hX : ObjOk st w l (X.ren ι)) : ObjOk s w l X := by
  cases X with
  | gone => exact hX
  | raw g o => exact hX
  | own g cs =>
    simp only [AObj.ren, ObjOk, AObj.lt] at hX hl ⊢
    refine ⟨hX.1, fun b o r hb => ?_⟩
    obtain ⟨arr, T, us, f1, f2, f3, f4, f5, f6⟩ := hX.2 b o r hb
    have e1 := f4.length
    have f4' := f4.ren_of h hl
    exact ⟨arr, T, us, f1, f2, by rw [← f4'.length, e1]; exact f3, f4', f5, f6⟩

theorem merge_sel {st s1 : St} {ι : List Nat} (hn : ι.Nodup) (hι : ∀ i ∈ ι, i < st.loc.length) (h1 : ι.length ≤ s1.loc.length) :
    Sel (more ι st.loc.length s1.loc.length) s1 ⟨s1.rd, merge st.loc ι s1.loc⟩ := ⟨rfl, fun k i hk => merge_at hn hι h1 hk⟩

theorem ACalls.frame {P : Program} {f : Nat} {args : List AV} {H0 H : AHeap} {K0 : AV → AHeap → Prop} (ι : List Nat) (h : ACalls P f args H0 K0)
    (hnd : ι.Nodup) (hlen : H0.length = ι.length) (hlt : AV.ltL ι.length args) (hlt0 : ltH ι.length H0) (hsub : ∀ k X, H0[k]? = some X → H[at_ ι k]? = some (X.ren ι)) :
    ACalls P f (AV.renL ι args) H fun r H' => ∃ r0 H1, K0 r0 H1 ∧ ι.length ≤ H1.length ∧ r = r0.ren (more ι H.length H1.length) ∧ H' = merge H ι (H1.map (AObj.ren (more ι H.length H1.length))) := by
  refine ⟨h.1, fun st w vals hH hv => ?_⟩
  have hatι : ∀ (k i : Nat), ι[k]? = some i → at_ ι k = i := fun k i hk => by simp [at_, hk]
  have hι : ∀ i ∈ ι, i < st.loc.length := by
    intro i hi
    obtain ⟨k, hk⟩ := List.mem_iff_getElem?.1 hi
    have hlt := (List.getElem?_eq_some_iff.1 hk).1
    have := hsub k _ (List.getElem?_eq_getElem (by omega))
    rw [hatι k i hk] at this
    rw [hH.len]; exact (List.getElem?_eq_some_iff.1 this).1
  let s : St := ⟨st.rd, ι.map fun i => (st.loc[i]?).getD ⟨0, none⟩⟩
  have hsel : Sel ι s st := ⟨rfl, fun k i hk => by
    have := hι i (List.mem_of_getElem? hk)
    simp [s, hk, List.getElem?_eq_getElem this]⟩
  have hsl : s.loc.length = ι.length := by simp [s]
  have hget : ∀ (k : Nat) (l : Loc), s.loc[k]? = some l → ∃ i, ι[k]? = some i ∧ st.loc[i]? = some l := by
    intro k l hk
    have hlt : k < ι.length := by rw [← hsl]; exact (List.getElem?_eq_some_iff.1 hk).1
    exact ⟨ι[k], List.getElem?_eq_getElem hlt, by rw [hsel.2 k _ (List.getElem?_eq_getElem hlt)]; exact hk⟩
  have hows : ∀ b, Owned s b → ∃ (i : Nat) (l : Loc) (o r : Nat), i ∈ ι ∧ st.loc[i]? = some l ∧ l.base = some (b, o, r) := by
    rintro b ⟨k, l, o, r, h1, h2⟩
    obtain ⟨i, hi, hl⟩ := hget k l h1
    exact ⟨i, l, o, r, List.mem_of_getElem? hi, hl, h2⟩
  have hown : ∀ b, Owned s b → Owned st b := fun b hb => by
    obtain ⟨i, l, o, r, _, h1, h2⟩ := hows b hb
    exact ⟨i, l, o, r, h1, h2⟩
  have hidx : ∀ (k k' i : Nat), ι[k]? = some i → ι[k']? = some i → k = k' := by
    intro k k' i hk hk'
    have h1 := (List.getElem?_eq_some_iff.1 hk).1
    exact (List.getElem?_inj h1 hnd).1 (hk.trans hk'.symm)
  have hs : RelH s w H0 := by
    refine ⟨by rw [hsl, hlen], fun b o c hc => ⟨(hH.rd b o c hc).1, (hH.rd b o c hc).2.1, fun ho => (hH.rd b o c hc).2.2 (hown b ho)⟩, ?_, ?_⟩
    · intro k l X hl hX
      obtain ⟨i, hi, hl'⟩ := hget k l hl
      have h1 := hsub k X hX
      rw [hatι k i hi] at h1
      exact ObjOk.ren_of hsel (ltH_get hlt0 hX) (hH.obj i l _ hl' h1)
    · intro k k' l l' b o r o' r' h1 h2 h3 h4
      obtain ⟨i, hi, hl⟩ := hget k l h1
      obtain ⟨i', hi', hl'⟩ := hget k' l' h2
      have := hH.inj i i' l l' b o r o' r' hl hl' h3 h4
      subst this
      exact hidx k k' i hi hi'
  refine (h.2 s w vals hs (RelL.ren_of hsel hlt hv)).mono fun x w' hx => ?_
  obtain ⟨v, r0, H1, s1, hxv, hext, hH1, hr, hK⟩ := hx
  have hle1 : ι.length ≤ s1.loc.length := by
    rcases Nat.eq_zero_or_pos ι.length with h0 | h0
    · omega
    · have hl : ι.length - 1 < s.loc.length := by omega
      obtain ⟨l', h1, _⟩ := hext.le.loc (ι.length - 1) _ (List.getElem?_eq_getElem hl)
      have := (List.getElem?_eq_some_iff.1 h1).1
      omega
  have hselm := merge_sel (s1 := s1) hnd hι hle1
  let st' : St := ⟨s1.rd, merge st.loc ι s1.loc⟩
  have hlenH1 := hH1.len
  have hιH : ∀ i ∈ ι, i < H.length := fun i hi => by rw [← hH.len]; exact hι i hi
  rw [hH.len, hlenH1] at hselm
  have hmor : (more ι H.length H1.length).length = H1.length := more_length (by omega)
  have hat : ∀ (k id : Nat), (more ι H.length H1.length)[k]? = some id → st'.loc[id]? = s1.loc[k]? := fun k id hk => hselm.2 k id hk
  have hat' : ∀ (k id : Nat), (more ι H.length H1.length)[k]? = some id → (merge H ι (H1.map (AObj.ren (more ι H.length H1.length))))[id]? = (H1[k]?).map (AObj.ren (more ι H.length H1.length)) := fun k id hk => by
    rw [merge_at hnd hιH (by simp; omega) (by simpa using hk)]; simp
  have hot : ∀ (id : Nat), id ∉ ι → id < st.loc.length → st'.loc[id]? = st.loc[id]? := fun id h1 h2 => merge_other h1 h2
  have hot' : ∀ (id : Nat), id ∉ ι → id < st.loc.length → (merge H ι (H1.map (AObj.ren (more ι H.length H1.length))))[id]? = H[id]? := fun id h1 h2 => merge_other h1 (by rw [← hH.len]; exact h2)
  have hcov : ∀ (id : Nat) (l : Loc), st'.loc[id]? = some l → (∃ k : Nat, (more ι H.length H1.length)[k]? = some id ∧ s1.loc[k]? = some l) ∨ (id ∉ ι ∧ id < st.loc.length ∧ st.loc[id]? = some l) := by
    intro id l hl
    rcases merge_cover hle1 (List.getElem?_eq_some_iff.1 hl).1 with ⟨k, hk, hk'⟩ | ⟨h1, h2⟩
    · rw [hH.len, hlenH1] at hk'
      exact .inl ⟨k, hk', by rw [← hat k id hk']; exact hl⟩
    · exact .inr ⟨h1, h2, by rw [← hot id h1 h2]; exact hl⟩
  have hnot : ∀ (id : Nat) (l : Loc) (b o r : Nat), id ∉ ι → st.loc[id]? = some l → l.base = some (b, o, r) → ¬ Owned s b := by
    intro id l b o r h1 h2 h3 ho
    obtain ⟨i, l', o', r', h4, h5, h6⟩ := hows b ho
    have := hH.inj id i l l' b o r o' r' h2 h5 h3 h6
    subst this; exact h1 h4
  have hle : st.le st' := by
    refine ⟨fun b o c hc => hext.le.rd b o c hc, fun id l hl => ?_⟩
    by_cases hm : id ∈ ι
    · obtain ⟨k, hk⟩ := List.mem_iff_getElem?.1 hm
      have hk2 := hsel.2 k id hk
      obtain ⟨l', h1, h2, h3⟩ := hext.le.loc k l (by rw [← hk2]; exact hl)
      refine ⟨l', ?_, h2, h3⟩
      rw [hat k id (by rw [more, List.getElem?_append_left (List.getElem?_eq_some_iff.1 hk).1, hk])]; exact h1
    · exact ⟨l, by rw [hot id hm (List.getElem?_eq_some_iff.1 hl).1]; exact hl, Nat.le_refl _, fun _ => rfl⟩
  have hown' : ∀ b, Owned st' b → Owned s1 b ∨ ∃ (id : Nat) (l : Loc) (o r : Nat), id ∉ ι ∧ st.loc[id]? = some l ∧ l.base = some (b, o, r) := by
    rintro b ⟨id, l, o, r, h1, h2⟩
    rcases hcov id l h1 with ⟨k, _, hk⟩ | ⟨h3, h4, h5⟩
    · exact .inl ⟨k, l, o, r, hk, h2⟩
    · exact .inr ⟨id, l, o, r, h3, h5, h2⟩
  have hsep : ∀ (id : Nat) (l : Loc) (b o r : Nat), id ∉ ι → st.loc[id]? = some l → l.base = some (b, o, r) → ¬ Owned s1 b := by
    intro id l b o r h1 h2 h3 ho
    rcases hext.own b ho with h4 | h4
    · exact hnot id l b o r h1 h2 h3 h4
    · have := owned_lt hH ⟨id, l, o, r, h2, h3⟩; omega
  refine ⟨v, r0.ren (more ι H.length H1.length), _, st', hxv, ?_, ?_, hr.ren_to hselm (by rw [hmor, hlenH1]; exact Nat.le_refl _), r0, H1, hK, by omega, rfl, rfl⟩
  · refine ⟨hle, hext.size, fun b hb ho => hext.frame b hb fun h => ho (hown b h), fun b hb => ?_, hext.os, hext.output, hext.fro, fun b o c hc => ?_⟩
    · rcases hown' b hb with h1 | ⟨id, l, o, r, _, h2, h3⟩
      · exact (hext.own b h1).imp (hown b) fun h => h
      · exact .inl ⟨id, l, o, r, h2, h3⟩
    · exact (hext.rdn b o c hc).imp (fun h => h) fun h => h.imp (fun h => h) (hown b)
  · refine ⟨?_, ?_, ?_, ?_⟩
    · show (merge st.loc ι s1.loc).length = _
      rw [merge_length hle1, merge_length (by simp; omega), hH.len, hlenH1]; simp
    · intro b o c hc
      have h1 := hH1.rd b o c hc
      refine ⟨h1.1, h1.2.1, fun ho => ?_⟩
      rcases hown' b ho with h2 | ⟨id, l, o', r, h2, h3, h4⟩
      · exact h1.2.2 h2
      · rcases hext.rdn b o c hc with h5 | h5 | h5
        · exact (hH.rd b o c h5).2.2 ⟨id, l, o', r, h3, h4⟩
        · have := owned_lt hH ⟨id, l, o', r, h3, h4⟩; omega
        · exact hnot id l b o' r h2 h3 h4 h5
    · intro id l X hl hX
      rcases hcov id l hl with ⟨k, hk, hk'⟩ | ⟨h3, h4, h5⟩
      · rw [hat' k id hk] at hX
        obtain ⟨X1, hX1, rfl⟩ := Option.map_eq_some_iff.1 hX
        exact ObjOk.ren hselm (by rw [hmor, hlenH1]; exact Nat.le_refl _) (hH1.obj k l X1 hk' hX1)
      · rw [hot' id h3 h4] at hX
        exact (hH.obj id l X h5 hX).mono hle fun b o r hb => hext.frame b (owned_lt hH ⟨id, l, o, r, h5, hb⟩) (hnot id l b o r h3 h5 hb)
    · intro id id' l l' b o r o' r' h1 h2 h3 h4
      rcases hcov id l h1 with ⟨k, hk, hk2⟩ | ⟨g1, g2, g3⟩ <;> rcases hcov id' l' h2 with ⟨k', hk', hk2'⟩ | ⟨g1', g2', g3'⟩
      · have := hH1.inj k k' l l' b o r o' r' hk2 hk2' h3 h4
        subst this; rw [hk] at hk'; exact Option.some.inj hk'
      · exact absurd ⟨k, l, o, r, hk2, h3⟩ (hsep id' l' b o' r' g1' g3' h4)
      · exact absurd ⟨k', l', o', r', hk2', h4⟩ (hsep id l b o r g1 g3 h3)
      · exact hH.inj id id' l l' b o r o' r' g3 g3' h3 h4
end Go.Sas
