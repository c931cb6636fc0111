/-
Probe: where a course breaks.
Probe: courses that fit do not break; the course of a number that is known.
Conditions: none.
-/
import Derived.Test.YtajegdbljldakaaPO
import Derived.Test.YtajegdbljldakaaPM
set_option linter.unusedVariables false
set_option linter.unusedSimpArgs false
namespace Go.Sas
def cellS (cs : List (List Int)) (i p : Nat) : Int := (cs.getD i []).getD p 0
def outB (n a b : Int) : Bool := !decide (a ≤ n ∧ n ≤ b)
def lookW (n t : Int) (p : Nat) (x : Lk) : Bool := decide (x.h = t) && (decide (x.p = p) && outB n x.lo x.hi)
/-- a number of a course cannot be -/
def wrongS (R : List Rch) (l : List Lk) (f : Int) (cs : List (List Int)) (i p : Nat) : Bool :=
  outB (cellS cs i p) 0 3000 || (decide (0 < p) && outB (cellS cs i p) (cellS cs i (p - 1) - (R.getD (p - 1) rc0).sl) (cellS cs i (p - 1) + (R.getD (p - 1) rc0).sl)) ||
  (decide (0 < i) && outB (cellS cs i p) (cellS cs (i - 1) p - (R.getD p rc0).th) (cellS cs (i - 1) p + (R.getD p rc0).gr)) || l.any (lookW (cellS cs i p) (f + iLen i) p)
/-- before, in the order in which a course is gone through -/
def Bef (j q i p : Nat) : Prop := j < i ∨ j = i ∧ q < p
def prsN (M N : Nat) : List (Nat × Nat) := (List.range M).flatMap fun i => (List.range N).map fun p => (i, p)
def firstW (W : Nat → Nat → Bool) (M N : Nat) : Int × Int := match (prsN M N).find? fun x => W x.1 x.2 with
  | some (i, p) => (iLen i, iLen p)
  | none => (-1, -1)
theorem find_first {α : Type} {f : α → Bool} : ∀ {l : List α} {k : Nat} {x : α}, l[k]? = some x → f x = true → (∀ j y, j < k → l[j]? = some y → f y = false) → l.find? f = some x
  | [], k, x, h, _, _ => by simp at h
  | a :: l, 0, x, h, hx, _ => by
    simp only [List.getElem?_cons_zero, Option.some.injEq] at h; subst h
    rw [List.find?_cons, hx]
  | a :: l, k + 1, x, h, hx, hb => by
    have h0 := hb 0 a (by omega) rfl
    rw [List.find?_cons, h0]
    exact find_first (k := k) (by simpa using h) hx fun j y hj hy => hb (j + 1) y (by omega) (by simpa using hy)
theorem sum_const {M N : Nat} : ((List.range M).map fun _ => N).sum = M * N := by
  induction M with
  | zero => simp
  | succ M ih => rw [List.range_succ, List.map_append, List.sum_append, ih, Nat.succ_mul]; simp
theorem prs_get {M N : Nat} : ∀ {i p : Nat}, i < M → p < N → (prsN M N)[i * N + p]? = some (i, p) := by
  induction M with
  | zero => intro i p h; omega
  | succ M ih =>
    intro i p hi hp
    unfold prsN at ih ⊢
    have hl : ((List.range M).flatMap fun i => (List.range N).map fun p => (i, p)).length = M * N := by
      rw [List.length_flatMap]; simp [sum_const]
    rw [List.range_succ, List.flatMap_append]
    by_cases h : i < M
    · have : i * N + p < M * N := by
        have := Nat.mul_le_mul_right N (show i + 1 ≤ M by omega)
        rw [Nat.succ_mul] at this; omega
      rw [List.getElem?_append_left (by rw [hl]; exact this)]; exact ih h hp
    · have hiM : i = M := by omega
      subst hiM
      rw [List.getElem?_append_right (by rw [hl]; omega), hl]
      simp [hp]
theorem firstW_some {W : Nat → Nat → Bool} {M N i p : Nat} (hi : i < M) (hp : p < N) (hw : W i p = true) (hb : ∀ j q, Bef j q i p → q < N → W j q = false) : firstW W M N = (iLen i, iLen p) := by
  unfold firstW
  rw [find_first (prs_get hi hp) hw]
  rintro k ⟨j, q⟩ hk hy
  have hjq : j < M ∧ q < N ∧ k = j * N + q := by
    have h1 := (List.getElem?_eq_some_iff.1 hy).1
    have hlen : (prsN M N).length = M * N := by unfold prsN; rw [List.length_flatMap]; simp [sum_const]
    rw [hlen] at h1
    have hN : 0 < N := by omega
    have h3 := prs_get (M := M) (N := N) (i := k / N) (p := k % N) ((Nat.div_lt_iff_lt_mul hN).2 h1) (Nat.mod_lt _ hN)
    rw [show k / N * N + k % N = k by rw [Nat.mul_comm]; exact Nat.div_add_mod _ _, hy] at h3
    simp only [Option.some.injEq, Prod.mk.injEq] at h3
    obtain ⟨rfl, rfl⟩ := h3
    exact ⟨(Nat.div_lt_iff_lt_mul hN).2 h1, Nat.mod_lt _ hN, by rw [Nat.mul_comm]; exact (Nat.div_add_mod _ _).symm⟩
  obtain ⟨_, hq, hkq⟩ := hjq
  refine hb j q ?_ hq
  by_cases h : j < i
  · exact .inl h
  · refine .inr ?_
    by_cases h2 : j = i
    · subst h2; exact ⟨rfl, by omega⟩
    · exfalso
      have := Nat.mul_le_mul_right N (show i + 1 ≤ j by omega)
      rw [Nat.succ_mul] at this; omega
theorem firstW_none {W : Nat → Nat → Bool} {M N : Nat} (h : ∀ i p, i < M → p < N → W i p = false) : firstW W M N = (-1, -1) := by
  unfold firstW
  have : (prsN M N).find? (fun x => W x.1 x.2) = none := by
    rw [List.find?_eq_none]
    rintro ⟨i, p⟩ hx
    unfold prsN at hx
    simp only [List.mem_flatMap, List.mem_range, List.mem_map, Prod.mk.injEq] at hx
    obtain ⟨a, ha, b, hb, rfl, rfl⟩ := hx
    simp [h _ _ ha hb]
  rw [this]
/-- the error of what Breaks is asked -/
def breaksE (rs : List Rch) (a b c : Int) (l : List Lk) (f : Int) (cs : List (List Int)) : Int :=
  orElse (surE rs a b c l) (if ¬(0 ≤ f ∧ f ≤ 10000) then 2 else if cs.length = 0 then 6 else if 10001 < f + iLen cs.length then 8 else if cs.any (fun r => decide (iLen r.length ≠ sumLg rs)) then 3 else 0)
def breaksR (rs : List Rch) (a b c : Int) (l : List Lk) (f : Int) (cs : List (List Int)) : (Int × Int) × Int :=
  if breaksE rs a b c l f cs = 0 then (firstW (wrongS (plc rs) l f cs) cs.length (plc rs).length, 0) else ((0, 0), breaksE rs a b c l f cs)
abbrev csV (cs : List (List Int)) : List AV := cs.map fun r => .vs 1 (r.map I)
end Go.Sas
namespace Go.Sas
def crsL (T : Nat → Nat → Int) (hours n : Nat) : List (List Int) := (List.range hours).map fun i => (List.range n).map (T i)
theorem crsL_len {T : Nat → Nat → Int} {hours n : Nat} : (crsL T hours n).length = hours := by simp [crsL]
theorem cellS_crs {T : Nat → Nat → Int} {hours n i p : Nat} (hi : i < hours) (hp : p < n) : cellS (crsL T hours n) i p = T i p := by
  unfold cellS crsL
  simp [List.getD_eq_getElem?_getD, hi, hp]
def FitsL (T : Nat → Nat → Int) (f : Int) (hours n : Nat) (l : List Lk) : Prop := ∀ x ∈ l, ∀ i p : Nat, i < hours → p < n → x.h = f + i → x.p = p → x.lo ≤ T i p ∧ T i p ≤ x.hi
theorem FitsL.of {R : List Rch} {T : Nat → Nat → Int} {f : Int} {hours : Nat} {l : List Lk} (h : ∀ x ∈ l, LkFit R T f hours x) : FitsL T f hours R.length l := by
  intro x hx i p hi hp h1 h2
  obtain ⟨_, j, q, k2, k3, k4, k5, k6, k7, k8, k9⟩ := h x hx
  rw [show i = j by omega, show p = q by omega]
  exact ⟨k7, k8⟩
theorem rise_slope {R : List Rch} (hR : PlcOk R) {p : Nat} (hp : p + 1 < R.length) : riseS R (p + 1) 0 p ≤ (R.getD p rc0).sl ∧ riseS R p 0 (p + 1) ≤ (R.getD p rc0).sl := by
  have h1 := riseS_le (a := p + 1) (b := p) (t := 0) (p := p) (R := R) (by omega)
  have h2 := riseS_le (a := p) (b := p + 1) (t := 0) (p := p) (R := R) (by omega)
  unfold wayS at h1 h2
  rw [farS_self, chg_zero] at h1 h2
  have h3 := farS_le hR.all (a := p) (b := p + 1) (by omega)
  have h4 := farS_symm R (p + 1) p
  have h5 : slp R (p + 1) = slp R p + (R.getD p rc0).sl := rfl
  omega
theorem rise_hour {R : List Rch} (hR : PlcOk R) {p : Nat} (hp : p < R.length) : riseS R p 1 p ≤ (R.getD p rc0).gr ∧ riseS R p (-1) p ≤ (R.getD p rc0).th := by
  have h1 := riseS_le (a := p) (b := p) (t := 1) (p := p) (R := R) hp
  have h2 := riseS_le (a := p) (b := p) (t := -1) (p := p) (R := R) hp
  unfold wayS at h1 h2
  rw [farS_self] at h1 h2
  unfold chg at h1 h2
  rw [if_neg (by omega)] at h1
  rw [if_pos (by omega)] at h2
  omega
theorem outB_in {n a b : Int} (h : a ≤ n ∧ n ≤ b) : outB n a b = false := by unfold outB; rw [decide_eq_true h]; rfl
theorem wrongS_crs {R : List Rch} {T : Nat → Nat → Int} {f : Int} {hours : Nat} (hR : PlcOk R) (hT : CrsOk R T hours) {l : List Lk} (hl : FitsL T f hours R.length l) {i p : Nat} (hi : i < hours) (hp : p < R.length) : wrongS R l f (crsL T hours R.length) i p = false := by
  unfold wrongS
  rw [cellS_crs hi hp]
  have hb := hT.rng i p hi hp
  simp only [Bool.or_eq_false_iff]
  refine ⟨⟨⟨outB_in hb, ?_⟩, ?_⟩, ?_⟩
  · cases p with
    | zero => rfl
    | succ p =>
      rw [Nat.add_sub_cancel, cellS_crs hi (by omega)]
      have h1 := hT.lip i i p (p + 1) hi hi (by omega) hp
      have h2 := hT.lip i i (p + 1) p hi hi hp (by omega)
      rw [Int.sub_self] at h1 h2
      have h3 := rise_slope hR hp
      rw [outB_in (by omega), Bool.and_false]
  · cases i with
    | zero => rfl
    | succ i =>
      rw [Nat.add_sub_cancel, cellS_crs (by omega) hp]
      have h1 := hT.lip i (i + 1) p p (by omega) hi hp hp
      have h2 := hT.lip (i + 1) i p p hi (by omega) hp hp
      rw [show ((i + 1 : Nat) : Int) - (i : Nat) = 1 by omega] at h1
      rw [show (i : Int) - ((i + 1 : Nat) : Int) = -1 by omega] at h2
      have h3 := rise_hour hR hp
      rw [outB_in (by omega), Bool.and_false]
  · rw [List.any_eq_false]
    intro x hx
    unfold lookW
    by_cases h1 : x.h = f + iLen i
    · by_cases h2 : x.p = (p : Int)
      · rw [outB_in (hl x hx i p hi hp h1 h2)]; simp
      · simp [h2]
    · simp [h1]
theorem breaksR_crs {rs : List Rch} {a b c f : Int} {l : List Lk} {T : Nat → Nat → Int} {hours : Nat} (hs : surE rs a b c l = 0) (hf : 0 ≤ f ∧ f ≤ 100) (hh : 1 ≤ hours ∧ hours ≤ 100) (hT : CrsOk (plc rs) T hours) (hl : FitsL T f hours (plc rs).length l) : breaksR rs a b c l f (crsL T hours (plc rs).length) = ((-1, -1), 0) := by
  obtain ⟨ho, _, _⟩ := surE_ok.1 hs
  have he : breaksE rs a b c l f (crsL T hours (plc rs).length) = 0 := by
    unfold breaksE orElse
    rw [hs, if_pos rfl, crsL_len, if_neg (by omega), if_neg (by omega), if_neg (by unfold iLen; omega), if_neg]
    rw [List.any_eq_true]
    rintro ⟨r, hr, h1⟩
    unfold crsL at hr
    obtain ⟨i, _, rfl⟩ := List.mem_map.1 hr
    simp only [List.length_map, List.length_range, decide_eq_true_eq] at h1
    exact h1 ho.len
  unfold breaksR
  rw [if_pos he, crsL_len, firstW_none fun i p hi hp => wrongS_crs ho.plc hT hl hi hp]
/-- the course of a number that is known: as thick as is known, not thicker than that number allows -/
def exaT (R : List Rch) (l : List Lk) (f : Int) (place : Nat) (hour n : Int) (i p : Nat) : Int := min (knowS R l p (f + iLen i)).2 (n + riseS R p (f + iLen i - hour) place)
theorem know_hi {R : List Rch} (hR : PlcOk R) {l : List Lk} (hl : LksOk R l) {p q : Nat} {s t : Int} (hp : p < R.length) (hq : q < R.length) (hs : 0 ≤ s ∧ s ≤ 10000) (ht : 0 ≤ t ∧ t ≤ 10000) : (knowS R l q t).2 ≤ (knowS R l p s).2 + riseS R q (t - s) p := by
  obtain ⟨_, _, _, _, h5⟩ := knowG_fold (R := R) (p := p) (h := s) (l := l) (s := (0, 3000)) (r := knowS R l p s) rfl
  obtain ⟨_, g2, g3, _, _⟩ := knowG_fold (R := R) (p := q) (h := t) (l := l) (s := (0, 3000)) (r := knowS R l q t) rfl
  dsimp only at h5 g2
  have hr := (riseS_bnd hR hq hp (t := t - s) (by omega)).1
  rcases h5 with h5 | ⟨x, hx, h5⟩
  · omega
  · have h6 := (g3 x hx).2
    have h7 := rise_tri hR q p x.p.toNat (t - s) (s - x.h)
    rw [show t - s + (s - x.h) = t - x.h by omega] at h7
    omega
theorem know_hi_look {R : List Rch} (hR : PlcOk R) {l : List Lk} (hl : LksOk R l) {x : Lk} (hx : x ∈ l) : x.lo ≤ (knowS R l x.p.toNat x.h).2 ∧ (knowS R l x.p.toNat x.h).2 ≤ x.hi := by
  obtain ⟨_, _, g3, _, h5⟩ := knowG_fold (R := R) (p := x.p.toNat) (h := x.h) (l := l) (s := (0, 3000)) (r := knowS R l x.p.toNat x.h) rfl
  dsimp only at h5
  obtain ⟨_, k2, _, _, k5, k6⟩ := hl.all x hx
  have hpx : x.p.toNat < R.length := by omega
  constructor
  · rcases h5 with h5 | ⟨y, hy, h5⟩
    · omega
    · have := hl.fit y hy x hx
      omega
  · have := (g3 x hx).2
    rw [Int.sub_self, riseS_self hR hpx] at this
    omega
theorem exa_crs {R : List Rch} (hR : PlcOk R) {l : List Lk} (hl : LksOk R l) {f hour n : Int} {place hours : Nat} (hf : 0 ≤ f ∧ f ≤ 100) (hh : hours ≤ 100) (hp : place < R.length) (hu : 0 ≤ hour ∧ hour ≤ 10000) (hn : (knowS R l place hour).1 ≤ n ∧ n ≤ (knowS R l place hour).2)
    (h0 : ∀ i p, i < hours → p < R.length → 0 ≤ (knowS R l p (f + iLen i)).2) : CrsOk R (exaT R l f place hour n) hours ∧ FitsL (exaT R l f place hour n) f hours R.length l := by
  have hk := knowG_fold (R := R) (p := place) (h := hour) (l := l) (s := (0, 3000)) (r := knowS R l place hour) rfl
  obtain ⟨k1, k2, k3, _, _⟩ := hk
  dsimp only at k1 k2
  refine ⟨⟨fun i p hi hp2 => ?_, fun i j p q hi hj hp2 hq => ?_⟩, fun x hx i p hi hp2 h1 h2 => ?_⟩
  · have h1 := h0 i p hi hp2
    have h2 := (knowG_fold (R := R) (p := p) (h := f + iLen i) (l := l) (s := (0, 3000)) (r := knowS R l p (f + iLen i)) rfl).2.1
    have h3 := (riseS_bnd hR hp2 hp (t := f + iLen i - hour) (by unfold iLen; omega)).1
    dsimp only at h2
    unfold exaT; omega
  · have h1 := know_hi hR hl (p := p) (q := q) (s := f + iLen i) (t := f + iLen j) hp2 hq (by unfold iLen; omega) (by unfold iLen; omega)
    have h2 := rise_tri hR q p place ((j : Int) - i) (f + iLen i - hour)
    rw [show (j : Int) - i + (f + iLen i - hour) = f + iLen j - hour by unfold iLen; omega] at h2
    rw [show f + iLen j - (f + iLen i) = (j : Int) - i by unfold iLen; omega] at h1
    unfold exaT; omega
  · have h3 := know_hi_look hR hl hx
    rw [h1, h2, Int.toNat_natCast] at h3
    have h4 := (k3 x hx).1
    rw [h1, h2, Int.toNat_natCast] at h4
    unfold exaT iLen
    unfold iLen at *
    omega
theorem exa_at {R : List Rch} (hR : PlcOk R) {l : List Lk} {f n : Int} {place i : Nat} (hp : place < R.length) (hn : n ≤ (knowS R l place (f + iLen i)).2) : exaT R l f place (f + iLen i) n i place = n := by
  unfold exaT
  rw [Int.sub_self, riseS_self hR hp]; omega
end Go.Sas
