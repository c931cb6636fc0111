/-
An abstract machine over values, part 28: what came in, arrays too; from a contract to the row of a law that answers true.
Conditions: none.
-/
import Derived.Test.YtajegdbljldakaaP5
set_option linter.unusedVariables false
set_option linter.unusedSimpArgs false
namespace Go.Sas
open Go.ChangeShapes Go.WideShapes Go.ChangeAt Go.RowKit
/-- built of numbers, truths, texts, slices and structs alone -/
def plainA (P : Program) : Nat → TypeId → Bool
  | 0, _ => false
  | d + 1, t => match P.underlying t with
    | some .bool => true
    | some (.int _) => true
    | some .string => true
    | some (.slice e) => decide (0 < P.cellsOf e) && plainA P d e
    | some (.struct fs) => tileB P (P.cellsOf t) 0 fs.toList && fs.toList.all fun f => plainA P d f.type
    | some (.array n e) => P.cellsOf t == n * P.cellsOf e && plainA P d e
    | _ => false

/-- an element of a slice, by its cells -/
def mkA (P : Program) (e : TypeId) (cs : List AV) : AV := match P.underlying e with
  | some (.struct _) => .agg cs
  | some (.array _ _) => .agg cs
  | _ => (cs[0]?).getD .bad

def GoodA (P : Program) : Nat → TypeId → List AV → Prop
  | 0, _, _ => False
  | d + 1, t, as => match P.underlying t with
    | some .bool => ∃ b, as = [.lit (.bool b)]
    | some (.int k) => ∃ n, as = [.lit (.int k n)] ∧ k.min ≤ n ∧ n ≤ k.max
    | some .string => ∃ s : ByteArray, as = [.lit (.string s)] ∧ s.size ≤ maxLen
    | some (.slice e) => ∃ css : List (List AV), as = [.vs (P.cellsOf e) (css.map (mkA P e))] ∧ css.length ≤ maxLen ∧ ∀ cs ∈ css, GoodA P d e cs
    | some (.struct fs) => GoodL P (GoodA P d) fs.toList as
    | some (.array n e) => ∃ css : List (List AV), as = css.flatten ∧ css.length = n ∧ ∀ cs ∈ css, cs.length = P.cellsOf e ∧ GoodA P d e cs
    | _ => False

theorem mkA_spec {P : Program} {st : St} {d : Nat} {e : TypeId} {as : List AV} {us : List Value} (hp : plainA P d e = true) (hg : GoodA P d e as) (hr : RelL st as us) (hs : ∀ u ∈ us, Scal u) :
    ∃ v, RelV st (mkA P e as) v ∧ v.cells.toList = us := by
  have one : ∀ {a : AV}, as = [a] → (mkA P e as = a) → ∃ v, RelV st (mkA P e as) v ∧ v.cells.toList = us := by
    intro a ha hm
    subst ha
    obtain ⟨u, us', rfl, h1, h2⟩ := hr.uncons
    simp only [RelL] at h2; subst h2
    exact ⟨u, by rw [hm]; exact h1, by rw [(hs u (by simp)).cells]⟩
  cases d with
  | zero => simp [GoodA] at hg
  | succ d =>
    simp only [GoodA] at hg
    split at hg
    · rename_i hu; obtain ⟨b, rfl⟩ := hg; exact one rfl (by simp [mkA, hu])
    · rename_i k hu; obtain ⟨n, rfl, _⟩ := hg; exact one rfl (by simp [mkA, hu])
    · rename_i hu; obtain ⟨s, rfl, _⟩ := hg; exact one rfl (by simp [mkA, hu])
    · rename_i e' hu; obtain ⟨css, rfl, _⟩ := hg; exact one rfl (by simp [mkA, hu])
    · rename_i fs hu
      refine ⟨.agg us.toArray, ?_, by simp [Value.cells]⟩
      simp only [mkA, hu, RelV]
      exact ⟨_, rfl, by simpa using hr, by simpa using hs⟩
    · rename_i n e hu
      refine ⟨.agg us.toArray, ?_, by simp [Value.cells]⟩
      simp only [mkA, hu, RelV]
      exact ⟨_, rfl, by simpa using hr, by simpa using hs⟩
    · exact hg.elim

theorem trod_goodA {H : Type} {enc : TypeId × Value → H} {P : Program} {W : World} {base : Nat} {spare : Nat → Bool} {held : Bool} : ∀ (fuel d : Nat) {t : TypeId} {cs : List Value} {dd : DataW H} {ps : List MemPlace},
    DataW.trod enc P W base spare held fuel t cs = some (dd, ps) → plainA P d t = true → ∃ as, RelL (stW W) as cs ∧ (∀ c ∈ cs, Scal c) ∧ GoodA P d t as
  | 0, d, t, cs, dd, ps, h, _ => by simp [DataW.trod] at h
  | fuel + 1, 0, t, cs, dd, ps, h, hp => by simp [plainA] at hp
  | fuel + 1, d + 1, t, cs, dd, ps, h, hp => by
    have lit1 : ∀ u, Scal u → cs = [u] → RelL (stW W) [.lit u] cs ∧ ∀ c ∈ cs, Scal c := by
      rintro u hu rfl
      exact ⟨RelL.cons relLit RelL.nil, fun c hc => by simp at hc; subst hc; exact hu⟩
    simp only [plainA] at hp
    simp only [GoodA]
    split at hp
    · rename_i hu
      simp only [DataW.trod, hu] at h
      split at h <;> (try (simp_all; done))
      rename_i b _
      exact ⟨_, (lit1 (.bool b) trivial rfl).1, (lit1 (.bool b) trivial rfl).2, b, rfl⟩
    · rename_i k hu
      simp only [DataW.trod, hu] at h
      split at h <;> (try (simp_all; done))
      rename_i k1 k' n heq0
      cases heq0
      split at h
      · rename_i hk
        obtain ⟨rfl, hwf⟩ := hk
        simp only [Lit.wf, Bool.and_eq_true, decide_eq_true_eq] at hwf
        exact ⟨_, (lit1 (.int k' n) trivial rfl).1, (lit1 (.int k' n) trivial rfl).2, n, rfl, hwf⟩
      · cases h
    · rename_i hu
      simp only [DataW.trod, hu] at h
      split at h <;> (try (simp_all; done))
      rename_i s _
      split at h
      · rename_i hle
        exact ⟨_, (lit1 (.string s) trivial rfl).1, (lit1 (.string s) trivial rfl).2, s, rfl, hle⟩
      · cases h
    · rename_i e hu
      simp only [Bool.and_eq_true, decide_eq_true_eq] at hp
      simp only [DataW.trod, hu] at h
      split at h <;> (try (simp_all; done))
      · refine ⟨[.vs (P.cellsOf e) []], RelL.cons ?_ RelL.nil, fun c hc => by simp at hc; subst hc; trivial, [], by simp, by simp, by simp⟩
        simp only [RelV]
        exact ⟨none, 0, [], rfl, by simp, by simp [RelL], by simp, fun h => absurd rfl h⟩
      · rename_i e1 a len cap heq0
        cases heq0
        split at h
        · rename_i hb
          obtain ⟨elems, he, _⟩ := Option.bind_eq_some_iff.1 h
          obtain ⟨h1, h2⟩ := mapM_get he
          simp only [List.length_range] at h1
          -- the elements
          have hel : ∀ i, i < len → ∃ us as, us.length = P.cellsOf e ∧ (∀ j c, us[j]? = some c → W.cell? ((a.add (i * P.cellsOf e)).add j) = some c) ∧ RelL (stW W) as us ∧ (∀ c ∈ us, Scal c) ∧ GoodA P d e as := by
            intro i hi
            obtain ⟨y, _, hy⟩ := h2 i i (by simp [hi])
            obtain ⟨us, hus, hd⟩ := Option.bind_eq_some_iff.1 hy
            obtain ⟨g1, g2⟩ := cells_len hus
            obtain ⟨as, f1, f2, f3⟩ := trod_goodA fuel d (dd := y.1) (ps := y.2) hd hp.2
            exact ⟨us, as, g1, g2, f1, f2, f3⟩
          have hspot : 0 < len → a.spot = none := by
            intro hl
            obtain ⟨us, as, g1, g2, _⟩ := hel 0 hl
            have := g2 0 us[0] (List.getElem?_eq_getElem (by omega))
            simpa [Addr.add] using World.cell?_spot this
          have build : ∀ n, n ≤ len → ∃ (css : List (List AV)) (vs : List Value), css.length = n ∧ (∀ cs ∈ css, GoodA P d e cs) ∧ RelL (stW W) (css.map (mkA P e)) vs ∧ (∀ u ∈ vs, u.cells.size = P.cellsOf e ∧ ∀ c ∈ u.cells.toList, Scal c) ∧
              ∀ i v, vs[i]? = some v → ∀ j c, v.cells.toList[j]? = some c → W.cell? ((a.add (i * P.cellsOf e)).add j) = some c := by
            intro n
            induction n with
            | zero => intro _; exact ⟨[], [], rfl, by simp, RelL.nil, by simp, by simp⟩
            | succ n ih =>
              intro hn
              obtain ⟨css, vs, i1, i2, i3, i4, i5⟩ := ih (by omega)
              obtain ⟨us, as, g1, g2, g3, g4, g5⟩ := hel n (by omega)
              obtain ⟨v, k1, k2⟩ := mkA_spec hp.2 g5 g3 g4
              have hvl : vs.length = n := by have := i3.length; simp at this; omega
              refine ⟨css ++ [as], vs ++ [v], by simp [i1], fun cs hcs => ?_, by rw [List.map_append]; exact i3.append (RelL.cons k1 RelL.nil), fun u hu => ?_, fun i x hi j c hc => ?_⟩
              · rcases List.mem_append.1 hcs with h | h
                · exact i2 cs h
                · simp at h; subst h; exact g5
              · rcases List.mem_append.1 hu with h | h
                · exact i4 u h
                · simp at h; subst h
                  refine ⟨?_, ?_⟩
                  · rw [← Array.length_toList, k2, g1]
                  · rw [k2]; exact g4
              · rcases Nat.lt_or_ge i n with hlt | hge
                · rw [List.getElem?_append_left (by omega)] at hi
                  exact i5 i x hi j c hc
                · rw [List.getElem?_append_right (by omega)] at hi
                  have : i = n := by
                    have := (List.getElem?_eq_some_iff.1 hi).1
                    simp at this; omega
                  subst this
                  simp [hvl] at hi; subst hi
                  rw [k2] at hc
                  exact g2 j c hc
          obtain ⟨css, vs, j1, j2, j3, j4, j5⟩ := build len (Nat.le_refl _)
          refine ⟨[.vs (P.cellsOf e) (css.map (mkA P e))], RelL.cons ?_ RelL.nil, fun c hc => by simp at hc; subst hc; trivial, css, rfl, by omega, j2⟩
          simp only [RelV]
          have hpure : (stW W).pure = stW W := rfl
          refine ⟨some a, cap, vs, by simp [j1], by simp [j1]; exact hb.2.1, by rw [hpure]; exact j3, fun u hu => (j4 u hu).1, fun hne => ?_⟩
          have hlen : 0 < len := by
            rcases Nat.eq_zero_or_pos len with h0 | h0
            · have : css = [] := List.length_eq_zero_iff.1 (by omega)
              subst this; simp at hne
            · exact h0
          have hsp := hspot hlen
          obtain ⟨b, o, spt⟩ := a
          simp only at hsp; subst hsp
          refine ⟨b, o, rfl, ?_⟩
          intro i c hc
          -- which element
          have key : ∀ (vs : List Value) (off : Nat), (∀ u ∈ vs, u.cells.size = P.cellsOf e ∧ ∀ c ∈ u.cells.toList, Scal c) → (∀ i v, vs[i]? = some v → ∀ j c, v.cells.toList[j]? = some c → W.cell? ⟨b, off + i * P.cellsOf e + j, none⟩ = some c) →
              ∀ i c, (flat vs)[i]? = some c → rdW W b (off + i) = some c := by
            intro vs
            induction vs with
            | nil => intro off _ _ i c hc; simp [flat] at hc
            | cons v vs ih =>
              intro off h1 h2 i c hc
              simp only [flat, List.flatMap_cons] at hc
              have hv := h1 v (by simp)
              rcases Nat.lt_or_ge i (P.cellsOf e) with hlt | hge
              · rw [List.getElem?_append_left (by simpa [hv.1] using hlt)] at hc
                have := h2 0 v (by simp) i c hc
                simp only [Nat.zero_mul, Nat.add_zero] at this
                exact rdW_of (hv.2 c (List.mem_of_getElem? hc)) this
              · rw [List.getElem?_append_right (by simpa [hv.1] using hge)] at hc
                have := ih (off + P.cellsOf e) (fun u hu => h1 u (by simp [hu])) (fun i v hi j c hc => by
                  have := h2 (i + 1) v (by simpa using hi) j c hc
                  rw [Nat.add_mul, Nat.one_mul] at this
                  rw [show off + P.cellsOf e + i * P.cellsOf e + j = off + (i * P.cellsOf e + P.cellsOf e) + j by omega]; exact this) (i - v.cells.toList.length) c hc
                rw [← this]; congr 1
                simp [hv.1]; omega
          refine key vs o j4 (fun i v hi j c hc => ?_) i c hc
          have := j5 i v hi j c hc
          rw [addr_add, addr_add] at this
          exact this
        · cases h
    · rename_i fs hu
      simp only [Bool.and_eq_true, List.all_eq_true] at hp
      simp only [DataW.trod, hu] at h
      split at h
      · rename_i hlen
        obtain ⟨xs, hxs, _⟩ := Option.map_eq_some_iff.1 h
        have key : ∀ (l : List Field) (off : Nat) (xs : List (DataW H × List MemPlace)), (∀ f ∈ l, plainA P d f.type = true) → tileB P (P.cellsOf t) off l = true → off ≤ cs.length →
            l.mapM (fun f => DataW.trod enc P W base spare held fuel f.type ((cs.drop f.offset).take (P.cellsOf f.type))) = some xs →
            ∃ as, RelL (stW W) as (cs.drop off) ∧ (∀ c ∈ cs.drop off, Scal c) ∧ GoodL P (GoodA P d) l as := by
          intro l
          induction l with
          | nil =>
            intro off xs _ ht _ _
            simp only [tileB, beq_iff_eq] at ht
            have : cs.drop off = [] := List.drop_eq_nil_of_le (by omega)
            rw [this]
            exact ⟨[], RelL.nil, by simp, rfl⟩
          | cons f l ih =>
            intro off xs hpl ht hoff hm
            simp only [tileB, Bool.and_eq_true, beq_iff_eq] at ht
            obtain ⟨hfo, ht⟩ := ht
            rw [List.mapM_cons] at hm
            cases hb : DataW.trod enc P W base spare held fuel f.type ((cs.drop f.offset).take (P.cellsOf f.type)) with
            | none => rw [hb] at hm; simp at hm
            | some b =>
              rw [hb] at hm
              cases hl : l.mapM (fun f => DataW.trod enc P W base spare held fuel f.type ((cs.drop f.offset).take (P.cellsOf f.type))) with
              | none => rw [hl] at hm; simp at hm
              | some r =>
                obtain ⟨as1, f1, f2, f3⟩ := trod_goodA fuel d (dd := b.1) (ps := b.2) hb (hpl f (by simp))
                have hle : off + P.cellsOf f.type ≤ cs.length := by
                  have : ∀ (l : List Field) (off : Nat), tileB P (P.cellsOf t) off l = true → off ≤ P.cellsOf t := by
                    intro l
                    induction l with
                    | nil => intro off h; simp only [tileB, beq_iff_eq] at h; omega
                    | cons g l ih => intro off h; simp only [tileB, Bool.and_eq_true, beq_iff_eq] at h; have := ih _ h.2; omega
                  have := this l _ ht; omega
                obtain ⟨as2, g1, g2, g3⟩ := ih (off + P.cellsOf f.type) r (fun g hg => hpl g (by simp [hg])) ht hle hl
                rw [hfo] at f1 f2
                have hsplit : cs.drop off = (cs.drop off).take (P.cellsOf f.type) ++ cs.drop (off + P.cellsOf f.type) := by
                  rw [← List.drop_drop, List.take_append_drop]
                refine ⟨as1 ++ as2, by rw [hsplit]; exact f1.append g1, fun c hc => ?_, as1, as2, rfl, ?_, f3, g3⟩
                · rw [hsplit] at hc
                  rcases List.mem_append.1 hc with h | h
                  · exact f2 c h
                  · exact g2 c h
                · rw [← f1.length]; simp; omega
        obtain ⟨as, h1, h2, h3⟩ := key fs.toList 0 xs hp.2 hp.1 (Nat.zero_le _) hxs
        rw [List.drop_zero] at h1 h2
        exact ⟨as, h1, h2, h3⟩
      · cases h
    · rename_i n e hu
      simp only [Bool.and_eq_true, beq_iff_eq] at hp
      simp only [DataW.trod, hu] at h
      split at h
      · rename_i hlen
        obtain ⟨xs, hxs, _⟩ := Option.map_eq_some_iff.1 h
        obtain ⟨h1, h2⟩ := mapM_get hxs
        have hel : ∀ i, i < n → ∃ as, RelL (stW W) as ((cs.drop (i * P.cellsOf e)).take (P.cellsOf e)) ∧ (∀ c ∈ (cs.drop (i * P.cellsOf e)).take (P.cellsOf e), Scal c) ∧ GoodA P d e as := by
          intro i hi
          obtain ⟨y, _, hy⟩ := h2 i i (by simp [hi])
          exact trod_goodA fuel d (dd := y.1) (ps := y.2) hy hp.2
        have build : ∀ k, k ≤ n → ∃ css : List (List AV), css.length = k ∧ (∀ as ∈ css, as.length = P.cellsOf e ∧ GoodA P d e as) ∧ RelL (stW W) css.flatten (cs.take (k * P.cellsOf e)) ∧ ∀ c ∈ cs.take (k * P.cellsOf e), Scal c := by
          intro k
          induction k with
          | zero => intro _; exact ⟨[], rfl, by simp, by simpa using RelL.nil, by simp⟩
          | succ k ih =>
            intro hk
            obtain ⟨css, i1, i2, i3, i4⟩ := ih (by omega)
            obtain ⟨as, g1, g2, g3⟩ := hel k (by omega)
            have hle : (k + 1) * P.cellsOf e ≤ cs.length := by rw [hlen, hp.1]; exact Nat.mul_le_mul_right _ hk
            rw [Nat.succ_mul] at hle
            have hspl : cs.take ((k + 1) * P.cellsOf e) = cs.take (k * P.cellsOf e) ++ (cs.drop (k * P.cellsOf e)).take (P.cellsOf e) := by rw [Nat.succ_mul, List.take_add]
            refine ⟨css ++ [as], by simp [i1], fun x hx => ?_, ?_, fun c hc => ?_⟩
            · rcases List.mem_append.1 hx with h | h
              · exact i2 x h
              · simp only [List.mem_singleton] at h; subst h
                exact ⟨by have h9 := g1.length; rw [List.length_take, List.length_drop] at h9; omega, g3⟩
            · rw [hspl, List.flatten_append]; simpa using i3.append g1
            · rw [hspl] at hc
              rcases List.mem_append.1 hc with h | h
              · exact i4 c h
              · exact g2 c h
        obtain ⟨css, j1, j2, j3, j4⟩ := build n (Nat.le_refl _)
        rw [← hp.1, ← hlen, List.take_length] at j3 j4
        exact ⟨_, j3, j4, css, rfl, j1, j2⟩
      · cases h
    · cases hp
theorem okWide_arr {P : Program} {w : World} {r : Reach} {base : Nat} {t e : TypeId} {v : Value} {n : Nat} (ht : P.underlying t = some (.array n e)) (h : Value.okWide P w r base t v) : ∃ cs, v = .agg cs ∧ cs.size = P.cellsOf t := by
  simp only [Value.okWide, ht] at h
  obtain ⟨cs, h1, h2, _⟩ := h
  exact ⟨cs, h1, h2⟩
theorem arg_goodA {H : Type} {enc : TypeId × Value → H} {P : Program} {W : World} {b0 base d : Nat} {spare : Nat → Bool} {held : Bool} {t : TypeId} {v : Value} {dd : DataW H} {ps : List MemPlace} {r : Reach}
    (h : DataW.Trod enc P W base spare held t v dd ps) (hp : plainA P d t = true) (hok : Value.okWide P W r b0 t v) : ∃ cs, GoodA P d t cs ∧ RelV (stW W) (mkA P t cs) v := by
  obtain ⟨fuel, hf⟩ := h
  obtain ⟨as, h1, h2, h3⟩ := trod_goodA fuel d hf hp
  refine ⟨as, h3, ?_⟩
  have one : ∀ {a : AV}, v.cells = #[v] → as = [a] → mkA P t as = a → RelV (stW W) (mkA P t as) v := by
    intro a hv ha hm
    subst ha
    rw [hv] at h1
    obtain ⟨u, us', hu, h4, _⟩ := h1.uncons
    simp at hu
    rw [hm, hu.1]; exact h4
  cases d with
  | zero => simp [plainA] at hp
  | succ d =>
    simp only [GoodA] at h3
    split at h3
    · rename_i hu; obtain ⟨b, hb⟩ := h3; exact one (notAgg hok (.inl hu)) hb (by simp [mkA, hu, hb])
    · rename_i k hu; obtain ⟨n, hb, _⟩ := h3; exact one (notAgg hok (.inr (.inl ⟨k, hu⟩))) hb (by simp [mkA, hu, hb])
    · rename_i hu; obtain ⟨s, hb, _⟩ := h3; exact one (notAgg hok (.inr (.inr (.inl hu)))) hb (by simp [mkA, hu, hb])
    · rename_i e hu; obtain ⟨css, hb, _⟩ := h3; exact one (notAgg hok (.inr (.inr (.inr ⟨e, hu⟩)))) hb (by simp [mkA, hu, hb])
    · rename_i fs hu
      obtain ⟨cs, rfl, _⟩ := okWide_struct hu hok
      simp only [mkA, hu, RelV]
      exact ⟨cs, rfl, by simpa [Value.cells] using h1, by simpa [Value.cells] using h2⟩
    · rename_i n e hu
      obtain ⟨cs, rfl, _⟩ := okWide_arr hu hok
      simp only [mkA, hu, RelV]
      exact ⟨cs, rfl, by simpa [Value.cells] using h1, by simpa [Value.cells] using h2⟩
    · exact h3.elim

/-- the arguments, by their types -/
def GoodArgsA (P : Program) (d : Nat) : List TypeId → List AV → Prop
  | [], as => as = []
  | t :: ts, as => ∃ cs as', as = mkA P t cs :: as' ∧ GoodA P d t cs ∧ GoodArgsA P d ts as'

theorem args_goodA {H : Type} {enc : TypeId × Value → H} {P : Program} {W : World} {b0 base d : Nat} {spare : Nat → Bool} {held : Bool} {r : Reach} : ∀ {ts : List TypeId} {vs : List Value} {ds : List (DataW H)} {ps : List MemPlace},
    DataW.TrodAll enc P W base spare held ts vs ds ps → ts.all (plainA P d) = true → (∀ (j : Nat) t v, ts[j]? = some t → vs[j]? = some v → Value.okWide P W r b0 t v) → ∃ as, GoodArgsA P d ts as ∧ RelL (stW W) as vs ∧ ds.length = ts.length
  | [], vs, ds, ps, h, _, _ => by
    obtain ⟨rfl, rfl, _⟩ := trodAll_nil h
    exact ⟨[], rfl, RelL.nil, rfl⟩
  | t :: ts, vs, ds, ps, h, hp, hok => by
    obtain ⟨v, vs', d1, ds', p, q, rfl, rfl, rfl, h1, h2⟩ := trodAll_cons h
    simp only [List.all_cons, Bool.and_eq_true] at hp
    obtain ⟨cs, g1, g2⟩ := arg_goodA h1 hp.1 (hok 0 t v rfl rfl)
    obtain ⟨as, f1, f2, f3⟩ := args_goodA h2 hp.2 (fun j t v ht hv => hok (j + 1) t v (by simpa using ht) (by simpa using hv))
    exact ⟨mkA P t cs :: as, ⟨cs, as, rfl, g1, f1⟩, RelL.cons g2 f2, by simp [f3]⟩

/-- The row's step: from the contract. -/
theorem law_stepA {H : Type} {enc : TypeId × Value → H} {P : Program} {fn : Func} {s : ChangeSpec} {f d : Nat} {tb : TypeId} {W : World} {base : Nat} {args : Array Value} {ds gs : List (DataW H)} {before : List MemPlace}
    (hvars : s.vars = []) (hspec : ∀ ds : List (DataW H), ds.length = fn.params.size → s.fn H ds = { results := [.lit (.bool true)], args := ds }) (hl : laidOutB P = true) (hplain : fn.params.toList.all (plainA P d) = true)
    (hread : fn.params.toList.all (fun t => P.readableRec t && decide (t < P.types.size)) = true) (hres : fn.resultTypes = #[tb]) (htb : P.underlying tb = some .bool)
    (hcall : ∀ as, GoodArgsA P d fn.params.toList as → ACalls P f as [] fun r _ => r = .lit (.bool true))
    (hval : ∀ (j : Nat) t v, fn.params[j]? = some t → args[j]? = some v → Value.okWide P W .any base t v) (hW : DataW.Whole enc P fn.params.toList s.vars false W args.toList ds gs before) :
    Calls P f args W fun e W' => ∃ v, e = .returned v ∧ s.post enc P fn false true false false W args v W' := by
  have hW' := hW
  obtain ⟨p, q, hA, hV, rfl, hfz, hnd⟩ := hW
  rw [hvars] at hV
  obtain ⟨rfl, rfl⟩ := trodVars_none hV
  obtain ⟨as, h1, h2, h3⟩ := args_goodA hA hplain (fun j t v ht hv => hval j t v (by simpa using ht) (by simpa using hv))
  have hc := (hcall as h1).2 (stW W) W args.toList (stW_rel W) h2
  simp only [Array.toArray_toList] at hc
  refine hc.mono fun e W' he => ?_
  obtain ⟨v, r, H', st', rfl, hext, hH', hr, rfl⟩ := he
  simp only [RelV] at hr; subst hr
  have hno : ∀ b, ¬ Owned (stW W) b := by
    rintro b ⟨id, l, o, r, hl, _⟩
    simp [stW] at hl
  have hsame : ∀ i, i < W.heap.size → W'.heap[i]? = W.heap[i]? := fun i hi => hext.frame i hi (hno i)
  have hkept : ∀ may, W.keptBut W' may := fun may => ⟨hext.os, hext.output, fun i hi => by rw [hsame i hi]; split <;> simp_all⟩
  have hlt : ∀ x ∈ p ++ [], x.block < W.heap.size := fun x hx => hW'.lt x hx
  refine ⟨_, rfl, ds, [], p ++ [], [], p, [], hW', ?_, ?_, ?_, hkept _, fun h => by cases h⟩
  · rw [hspec _ (by rw [List.append_nil, h3]; simp), hres]
    exact trodAll_mk1 (shut_bool htb _)
  · rw [hspec _ (by rw [List.append_nil, h3]; simp)]
    simp only [List.append_nil]
    exact args_stay hl hsame hA hread (fun x hx => hlt x (by simp [hx]))
  · rw [hvars, hspec _ (by rw [List.append_nil, h3]; simp)]
    rfl
end Go.Sas
