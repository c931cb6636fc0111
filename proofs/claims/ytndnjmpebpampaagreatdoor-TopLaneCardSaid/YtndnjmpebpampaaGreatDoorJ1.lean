/-
What chapter 3 says, as plain functions: plates, tables, loads, verdicts.
What chapter 3 says, as plain functions, part 2: what ice bears; what valid data are.
Entries of tables for what ice bears.
What chapter 3 says, as plain functions, part 3: how much ice bears alone, and speeds.
Entries of tables for whole answers.
Conditions: none.
-/
import Derived.Test.YtndnjmpebpampaaGreatDoorP6
import Derived.Test.YtndnjmpebpampaaGreatDoorP7
set_option linter.unusedVariables false
set_option linter.unusedSimpArgs false
namespace Go.Sas
structure Plate where
  str : Int × Int
  shares : List (Int × Int)
  creep : List (Int × Int)
  near : Int
  edge : Int
  grav : Int
  low : Int
  high : Int
  shore : Int
  wider : Int
structure Load where
  at_ : Int
  w : Int × Int
  st : Int
abbrev ldV (x : Load) : AV := .agg [I x.at_, I x.w.1, I x.w.2, I x.st]
/-- a plate, by its cells -/
structure PlateIs (p : Plate) (a b : Int) (xs ec : List AV) (ne ed gr lo hi sh wi : Int) : Prop where
  hs : xs = p.shares.map sp
  hc : ec = p.creep.map sp
  str : p.str = (a, b)
  ne : p.near = ne
  ed : p.edge = ed
  gr : p.grav = gr
  lo : p.low = lo
  hi : p.high = hi
  sh : p.shore = sh
  wi : p.wider = wi
abbrev plV (a b : Int) (xs ec : AV) (ne ed gr lo hi sh wi : Int) : AV := .agg [I a, I b, xs, ec, I ne, I ed, I gr, I lo, I hi, I sh, I wi]

def wiS (a b c : Int) : Bool := decide (b ≤ a ∧ a ≤ c)
def ouS (a b c : Int) : Bool := decide (a < b ∨ c < a)
def faultS (a b lo hi : Int) : Int := if a < lo ∨ hi < a ∨ b < lo ∨ hi < b then 2 else if b < a then 11 else 0
def entE : Option (Int × Int) → Int × Int → Int
  | none, x => if x.1 < 0 ∨ 10000 < x.1 then 2 else if x.1 ≠ 0 then 11 else if x.2 < 0 ∨ 1000000 < x.2 then 2 else if x.2 ≠ 1000000 then 3 else 0
  | some q, x => if x.1 < 0 ∨ 10000 < x.1 then 2 else if x.1 ≤ q.1 then 11 else if x.2 < 0 ∨ 1000000 < x.2 then 2 else if q.2 < x.2 then 11 else 0
def tabGo : Option (Int × Int) → List (Int × Int) → Int
  | _, [] => 0
  | p, x :: l => if entE p x ≠ 0 then entE p x else tabGo (some x) l
def tabS (l : List (Int × Int)) : Int := if l.length = 0 then 6 else if 20 < l.length then 8 else tabGo none l
def checkS (p : Plate) : Int :=
  if faultS p.str.1 p.str.2 1 100000 ≠ 0 then faultS p.str.1 p.str.2 1 100000 else
  if tabS p.shares ≠ 0 then tabS p.shares else if tabS p.creep ≠ 0 then tabS p.creep else
  if p.near < 0 ∨ 10000 < p.near ∨ p.edge < 0 ∨ 1000000 < p.edge ∨ p.grav < 1 ∨ 1000 < p.grav ∨ p.low < 1 ∨ 4000000 < p.low ∨ p.high < 1 ∨ 4000000 < p.high then 2 else
  if p.high < p.low then 11 else
  if p.shore < 0 ∨ 10000 < p.shore ∨ p.wider < 0 ∨ 1000000 < p.wider then 2 else 0
/-- the first error of a list -/
def firstE {α : Type} (f : α → Int) : List α → Int
  | [] => 0
  | x :: l => if f x ≠ 0 then f x else firstE f l
def faultsS (l : List (Int × Int)) (most high : Int) : Int := if most < l.length then 8 else firstE (fun x => faultS x.1 x.2 0 high) l
def loadE (places : Int) (x : Load) : Int := if x.at_ < 0 ∨ 100 * places - 1 < x.at_ then 7 else if faultS x.w.1 x.w.2 0 200000 ≠ 0 then faultS x.w.1 x.w.2 0 200000 else if x.st < 0 ∨ 10000 < x.st then 2 else 0
def loadsS (places : Int) (l : List Load) : Int := if 30 < l.length then 8 else firstE (loadE places) l
def checkAllS (p : Plate) (ice cracks : List (Int × Int)) : Int :=
  if checkS p ≠ 0 then checkS p else if faultsS ice 1000 5000 ≠ 0 then faultsS ice 1000 5000 else faultsS cracks 50 100000
/-- what the last entry says that begins at most at a number -/
def lastF (n : Int) (o x : Int × Int) : Int × Int := if x.1 ≤ n then x else o
def lastS (l : List (Int × Int)) (n : Int) : Int × Int := l.foldl (lastF n) (l.headD (0, 0))
def partS (l : List (Int × Int)) (n : Int) : Int := (lastS l n).2

structure Sp where
  wi : Int → Int → Int → Bool
  ou : Int → Int → Int → Bool
  fault : Int → Int → Int → Int → Int
  tab : List (Int × Int) → Int
  check : Plate → Int
  faults : List (Int × Int) → Int → Int → Int
  loads : Int → List Load → Int
  checkAll : Plate → List (Int × Int) → List (Int × Int) → Int
  part : List (Int × Int) → Int → Int
def stS : Sp := ⟨wiS, ouS, faultS, tabS, checkS, faultsS, loadsS, checkAllS, partS⟩

/-! ### Entries of tables -/
def eWi (S : Sp) : List AV → Option ((AV → Prop) → Prop)
  | [.lit (.int .i64 a), .lit (.int .i64 b), .lit (.int .i64 c)] => some fun K => K (B (S.wi a b c))
  | _ => none
def eFault (S : Sp) : List AV → Option ((AV → Prop) → Prop)
  | [.agg [.lit (.int .i64 a), .lit (.int .i64 b)], .lit (.int .i64 c), .lit (.int .i64 d)] => some fun K => K (I (S.fault a b c d))
  | _ => none
/-- a list of pairs -/
def eTab (S : Sp) : List AV → Option ((AV → Prop) → Prop)
  | [x] => match asVs 2 x with
    | some xs => some fun K => ∃ l, xs = l.map sp ∧ l.length ≤ 9223372036854775807 ∧ K (I (S.tab l))
    | none => none
  | _ => none
def eCheck (S : Sp) : List AV → Option ((AV → Prop) → Prop)
  | [.agg [.lit (.int .i64 a), .lit (.int .i64 b), s, c, .lit (.int .i64 ne), .lit (.int .i64 ed), .lit (.int .i64 gr), .lit (.int .i64 lo), .lit (.int .i64 hi), .lit (.int .i64 sh), .lit (.int .i64 wi)]] => match asVs 2 s, asVs 2 c with
    | some xs, some ec => some fun K => ∃ p, PlateIs p a b xs ec ne ed gr lo hi sh wi ∧ p.shares.length ≤ 9223372036854775807 ∧ p.creep.length ≤ 9223372036854775807 ∧ K (I (S.check p))
    | _, _ => none
  | _ => none
def eFaults (S : Sp) : List AV → Option ((AV → Prop) → Prop)
  | [x, .lit (.int .i64 a), .lit (.int .i64 b)] => match asVs 2 x with
    | some xs => some fun K => ∃ l, xs = l.map sp ∧ l.length ≤ 9223372036854775807 ∧ K (I (S.faults l a b))
    | none => none
  | _ => none
/-- a list of loads, and how many places there are -/
def eLoads1 (S : Sp) : List AV → Option ((AV → Prop) → Prop)
  | [x, .lit (.int .i64 a)] => match asVs 4 x with
    | some xs => some fun K => ∃ l, xs = l.map ldV ∧ l.length ≤ 9223372036854775807 ∧ (0 ≤ a ∧ a < 46116860184273879) ∧ K (I (S.loads a l))
    | none => none
  | _ => none
def eCheckAll (S : Sp) : List AV → Option ((AV → Prop) → Prop)
  | [.agg [.lit (.int .i64 a), .lit (.int .i64 b), s, c, .lit (.int .i64 ne), .lit (.int .i64 ed), .lit (.int .i64 gr), .lit (.int .i64 lo), .lit (.int .i64 hi), .lit (.int .i64 sh), .lit (.int .i64 wi)], x, y] => match asVs 2 s, asVs 2 c, asVs 2 x, asVs 2 y with
    | some xs, some ec, some xi, some xc => some fun K => ∃ p ice cr, PlateIs p a b xs ec ne ed gr lo hi sh wi ∧ p.shares.length ≤ 9223372036854775807 ∧ p.creep.length ≤ 9223372036854775807 ∧ xi = ice.map sp ∧ xc = cr.map sp ∧ ice.length ≤ 9223372036854775807 ∧ cr.length ≤ 9223372036854775807 ∧ K (I (S.checkAll p ice cr))
    | _, _, _, _ => none
  | _ => none
def ePart (S : Sp) : List AV → Option ((AV → Prop) → Prop)
  | [x, .lit (.int .i64 n)] => match asVs 2 x with
    | some xs => some fun K => ∃ l, xs = l.map sp ∧ l ≠ [] ∧ l.length ≤ 9223372036854775807 ∧ K (I (S.part l n))
    | none => none
  | _ => none
end Go.Sas
namespace Go.Sas
/-! ### Valid data -/
structure TabV (l : List (Int × Int)) : Prop where
  ne : l ≠ []
  len : l.length ≤ 20
  hd : l.headD (0, 0) = (0, 1000000)
  srt : l.Pairwise fun x y => x.1 < y.1 ∧ y.2 ≤ x.2
  bnd : ∀ x ∈ l, 0 ≤ x.1 ∧ x.1 ≤ 10000 ∧ 0 ≤ x.2 ∧ x.2 ≤ 1000000

theorem tabGo_ok' {q : Int × Int} : ∀ {l : List (Int × Int)}, tabGo (some q) l = 0 → (∀ x ∈ l, q.1 < x.1 ∧ x.2 ≤ q.2) ∧ (l.Pairwise fun x y => x.1 < y.1 ∧ y.2 ≤ x.2) ∧ ∀ x ∈ l, 0 ≤ x.1 ∧ x.1 ≤ 10000 ∧ 0 ≤ x.2 ∧ x.2 ≤ 1000000
  | [], _ => by simp
  | x :: l, h => by
    simp only [tabGo] at h
    have he : entE (some q) x = 0 := by
      by_cases hq : entE (some q) x = 0
      · exact hq
      · rw [if_pos hq] at h; exact h
    rw [if_neg (by simp [he])] at h
    obtain ⟨h1, h2, h3⟩ := tabGo_ok' h
    have hb : ¬ (x.1 < 0 ∨ 10000 < x.1) ∧ ¬ (x.1 ≤ q.1) ∧ ¬ (x.2 < 0 ∨ 1000000 < x.2) ∧ ¬ (q.2 < x.2) := by
      simp only [entE] at he
      refine ⟨fun hc => ?_, fun hc => ?_, fun hc => ?_, fun hc => ?_⟩ <;> repeat' (split at he)
      all_goals first | omega | (exfalso; omega)
    refine ⟨fun y hy => ?_, List.pairwise_cons.2 ⟨h1, h2⟩, fun y hy => ?_⟩
    · rcases List.mem_cons.1 hy with rfl | hy
      · omega
      · have := h1 y hy; omega
    · rcases List.mem_cons.1 hy with rfl | hy
      · omega
      · exact h3 y hy
theorem tabS_ok {l : List (Int × Int)} (h : tabS l = 0) : TabV l := by
  unfold tabS at h
  split at h
  · cases h
  · split at h
    · cases h
    · rename_i h1 h2
      cases l with
      | nil => simp at h1
      | cons x l =>
        simp only [tabGo] at h
        have he : entE none x = 0 := by
          by_cases hq : entE none x = 0
          · exact hq
          · rw [if_pos hq] at h; exact h
        rw [if_neg (by simp [he])] at h
        obtain ⟨f1, f2, f3⟩ := tabGo_ok' h
        have hb : x.1 = 0 ∧ x.2 = 1000000 := by
          simp only [entE] at he
          refine ⟨?_, ?_⟩ <;> repeat' (split at he)
          all_goals omega
        refine ⟨by simp, by omega, ?_, List.pairwise_cons.2 ⟨f1, f2⟩, fun y hy => ?_⟩
        · simp only [List.headD_cons]; exact Prod.ext hb.1 hb.2
        · rcases List.mem_cons.1 hy with rfl | hy
          · omega
          · exact f3 y hy

theorem lastS_mem {n : Int} : ∀ {l : List (Int × Int)} {o : Int × Int}, l.foldl (lastF n) o = o ∨ l.foldl (lastF n) o ∈ l
  | [], o => .inl rfl
  | x :: l, o => by
    simp only [List.foldl_cons]
    rcases lastS_mem (n := n) (l := l) (o := lastF n o x) with h | h
    · rw [h]; unfold lastF; split
      · exact .inr (by simp)
      · exact .inl rfl
    · exact .inr (by simp [h])
theorem TabV.part {l : List (Int × Int)} (h : TabV l) (n : Int) : 0 ≤ partS l n ∧ partS l n ≤ 1000000 := by
  unfold partS lastS
  rw [h.hd]
  rcases lastS_mem (n := n) (l := l) (o := (0, 1000000)) with h1 | h1
  · rw [h1]; simp
  · have := h.bnd _ h1; omega
theorem fold_mono {n n' : Int} (hn : n ≤ n') : ∀ {l : List (Int × Int)} {o o' : Int × Int}, (l.Pairwise fun x y => x.1 < y.1 ∧ y.2 ≤ x.2) → o'.2 ≤ o.2 → (∀ x ∈ l, x.2 ≤ o.2) → (l.foldl (lastF n') o').2 ≤ (l.foldl (lastF n) o).2
  | [], o, o', _, h, _ => h
  | x :: l, o, o', hp, h, hx => by
    obtain ⟨hp1, hp2⟩ := List.pairwise_cons.1 hp
    simp only [List.foldl_cons]
    unfold lastF
    split
    · split
      · exact fold_mono hn hp2 (Int.le_refl _) fun y hy => (hp1 y hy).2
      · exact fold_mono hn hp2 (hx x (by simp)) fun y hy => hx y (by simp [hy])
    · rw [if_neg (by omega)]
      exact fold_mono hn hp2 h fun y hy => hx y (by simp [hy])
theorem TabV.mono {l : List (Int × Int)} (h : TabV l) {n n' : Int} (hn : n ≤ n') : partS l n' ≤ partS l n := by
  unfold partS lastS
  rw [h.hd]
  exact fold_mono hn h.srt (Int.le_refl _) fun x hx => (h.bnd x hx).2.2.2

theorem faultS_ok {a b lo hi : Int} (h : faultS a b lo hi = 0) : lo ≤ a ∧ a ≤ b ∧ b ≤ hi := by
  unfold faultS at h
  repeat' (split at h)
  all_goals omega
theorem firstE_zero {α : Type} {f : α → Int} : ∀ {l : List α}, firstE f l = 0 → ∀ x ∈ l, f x = 0
  | [], _, x, hx => by cases hx
  | y :: l, h, x, hx => by
    simp only [firstE] at h
    split at h
    · rename_i h1; exact absurd h h1
    · rename_i h1
      rcases List.mem_cons.1 hx with rfl | hx
      · simpa using h1
      · exact firstE_zero h x hx
theorem faultsS_ok {l : List (Int × Int)} {most high : Int} (h : faultsS l most high = 0) : (l.length : Int) ≤ most ∧ ∀ x ∈ l, 0 ≤ x.1 ∧ x.1 ≤ x.2 ∧ x.2 ≤ high := by
  unfold faultsS at h
  split at h
  · cases h
  · exact ⟨by omega, fun x hx => faultS_ok (firstE_zero h x hx)⟩
structure LoadV (places : Int) (x : Load) : Prop where
  at1 : 0 ≤ x.at_
  at2 : x.at_ ≤ 100 * places - 1
  w1 : 0 ≤ x.w.1
  w2 : x.w.1 ≤ x.w.2
  w3 : x.w.2 ≤ 200000
  s1 : 0 ≤ x.st
  s2 : x.st ≤ 10000
theorem loadE_ok {places : Int} {x : Load} (h : loadE places x = 0) : LoadV places x := by
  unfold loadE at h
  split at h
  · cases h
  · split at h
    · rename_i h1; exact absurd h h1
    · split at h
      · cases h
      · rename_i h1 h2 h3
        obtain ⟨e1, e2, e3⟩ := faultS_ok (Decidable.not_not.1 h2)
        exact ⟨by omega, by omega, e1, e2, e3, by omega, by omega⟩
theorem loadsS_ok {l : List Load} {places : Int} (h : loadsS places l = 0) : l.length ≤ 30 ∧ ∀ x ∈ l, LoadV places x := by
  unfold loadsS at h
  split at h
  · cases h
  · exact ⟨by omega, fun x hx => loadE_ok (firstE_zero h x hx)⟩
structure PlateV (p : Plate) : Prop where
  s1 : 1 ≤ p.str.1
  s2 : p.str.1 ≤ p.str.2
  s3 : p.str.2 ≤ 100000
  sh : TabV p.shares
  cr : TabV p.creep
  n1 : 0 ≤ p.near
  n2 : p.near ≤ 10000
  e1 : 0 ≤ p.edge
  e2 : p.edge ≤ 1000000
  g1 : 1 ≤ p.grav
  g2 : p.grav ≤ 1000
  l1 : 1 ≤ p.low
  l2 : p.low ≤ p.high
  l3 : p.high ≤ 4000000
  o1 : 0 ≤ p.shore
  o2 : p.shore ≤ 10000
  w1 : 0 ≤ p.wider
  w2 : p.wider ≤ 1000000
theorem checkS_ok {p : Plate} (h : checkS p = 0) : PlateV p := by
  unfold checkS at h
  split at h
  · rename_i h1; exact absurd h h1
  rename_i h1
  split at h
  · rename_i h1; exact absurd h h1
  rename_i h2
  split at h
  · rename_i h1; exact absurd h h1
  rename_i h3
  split at h
  · cases h
  split at h
  · cases h
  split at h
  · cases h
  obtain ⟨e1, e2, e3⟩ := faultS_ok (Decidable.not_not.1 h1)
  refine ⟨e1, e2, e3, tabS_ok (Decidable.not_not.1 h2), tabS_ok (Decidable.not_not.1 h3), ?_, ?_, ?_, ?_, ?_, ?_, ?_, ?_, ?_, ?_, ?_, ?_, ?_⟩ <;> omega
structure RoadV (p : Plate) (ice cr : List (Int × Int)) : Prop where
  p : PlateV p
  il : ice.length ≤ 1000
  ib : ∀ x ∈ ice, 0 ≤ x.1 ∧ x.1 ≤ x.2 ∧ x.2 ≤ 5000
  cl : cr.length ≤ 50
  cb : ∀ x ∈ cr, 0 ≤ x.1 ∧ x.1 ≤ x.2 ∧ x.2 ≤ 100000
theorem checkAllS_ok {p : Plate} {ice cr : List (Int × Int)} (h : checkAllS p ice cr = 0) : RoadV p ice cr := by
  unfold checkAllS at h
  split at h
  · rename_i h1; exact absurd h h1
  rename_i h1
  split at h
  · rename_i h1; exact absurd h h1
  rename_i h2
  obtain ⟨a1, a2⟩ := faultsS_ok (Decidable.not_not.1 h2)
  obtain ⟨b1, b2⟩ := faultsS_ok h
  exact ⟨checkS_ok (Decidable.not_not.1 h1), by omega, a2, by omega, b2⟩

/-! ### What ice bears -/
def strS (w : Bool) (x : Int × Int) : Int := if w then x.1 else x.2
def hevS (w : Bool) (x : Int × Int) : Int := if w then x.2 else x.1
def farS (a b : Int) : Int := iMax (a - b) (b - a)
def nearS (w : Bool) (c : Int × Int) (m near : Int) : Bool := if w then decide (c.1 - near ≤ m ∧ m ≤ c.2 + near) else decide (m - c.1 ≤ near ∧ c.2 - m ≤ near)
def cutS (p : Plate) (h : Int) (near : Bool) : Int := if near then h * p.edge / 1000000 else h
def thickS (w : Bool) (p : Plate) (ice cr : List (Int × Int)) (m : Int) : Int := cutS p (strS w (ice.getD (m / 100).toNat (0, 0))) (cr.any fun c => nearS w c m p.near)
def burdF (w : Bool) (p : Plate) (m : Int) (o : Load) : Int := hevS w o.w * partS p.shares (farS m o.at_)
def burdS (w : Bool) (p : Plate) (l : List Load) (m : Int) : Int := (l.map (burdF w p m)).sum
def enS (w : Bool) (p : Plate) (burden thick minutes : Int) : Bool := decide (burden * 1000000 ≤ strS w p.str * thick * thick * partS p.creep minutes)
def beS (w : Bool) (p : Plate) (ice cr : List (Int × Int)) (l : List Load) (x : Load) : Bool := enS w p (burdS w p l x.at_) (thickS w p ice cr x.at_) x.st
def veS (p : Plate) (ice cr : List (Int × Int)) (l : List Load) (x : Load) : Int := if beS true p ice cr l x then 1 else if !beS false p ice cr l x then 2 else 3
def holdsS (p : Plate) (ice cr : List (Int × Int)) (l : List Load) : List Int × Int :=
  if checkAllS p ice cr ≠ 0 then ([], checkAllS p ice cr) else if loadsS ice.length l ≠ 0 then ([], loadsS ice.length l) else (l.map (veS p ice cr l), 0)

theorem strS_bnd {w : Bool} {x : Int × Int} {a b : Int} (h : a ≤ x.1 ∧ x.1 ≤ x.2 ∧ x.2 ≤ b) : a ≤ strS w x ∧ strS w x ≤ b := by cases w <;> simp [strS] <;> omega
theorem hevS_bnd {w : Bool} {x : Int × Int} {a b : Int} (h : a ≤ x.1 ∧ x.1 ≤ x.2 ∧ x.2 ≤ b) : a ≤ hevS w x ∧ hevS w x ≤ b := by cases w <;> simp [hevS] <;> omega
theorem mulB {a b A B : Int} (ha : 0 ≤ a ∧ a ≤ A) (hb : 0 ≤ b ∧ b ≤ B) (hM : A * B ≤ 9223372036854775807) : iMul .i64 a b = a * b ∧ 0 ≤ a * b ∧ a * b ≤ A * B := by
  have h1 : 0 ≤ a * b := Int.mul_nonneg ha.1 hb.1
  have h2 : a * b ≤ A * B := Int.mul_le_mul ha.2 hb.2 hb.1 (by omega)
  exact ⟨iMul_id (by omega) (by omega), h1, h2⟩
theorem thickS_bnd {w : Bool} {p : Plate} {ice cr : List (Int × Int)} (h : RoadV p ice cr) (m : Int) : 0 ≤ thickS w p ice cr m ∧ thickS w p ice cr m ≤ 5000 := by
  have hs : 0 ≤ strS w (ice.getD (m / 100).toNat (0, 0)) ∧ strS w (ice.getD (m / 100).toNat (0, 0)) ≤ 5000 := by
    refine strS_bnd ?_
    rcases Nat.lt_or_ge (m / 100).toNat ice.length with h1 | h1
    · rw [List.getD_eq_getElem?_getD, List.getElem?_eq_getElem h1]
      exact h.ib _ (List.getElem_mem h1)
    · rw [List.getD_eq_getElem?_getD, List.getElem?_eq_none h1]; simp
  unfold thickS cutS
  split
  · obtain ⟨_, h1, h2⟩ := mulB hs ⟨h.p.e1, h.p.e2⟩ (by omega)
    have h3 : strS w (ice.getD (m / 100).toNat (0, 0)) * p.edge ≤ 5000 * 1000000 := h2
    omega
  · exact hs
theorem burdF_bnd {w : Bool} {p : Plate} {m : Int} {o : Load} {places : Int} (hp : PlateV p) (h : LoadV places o) : 0 ≤ burdF w p m o ∧ burdF w p m o ≤ 200000000000 := by
  have h1 := hevS_bnd (w := w) (x := o.w) ⟨h.w1, h.w2, h.w3⟩
  have h2 := hp.sh.part (farS m o.at_)
  obtain ⟨_, h3, h4⟩ := mulB h1 h2 (by omega)
  exact ⟨h3, by unfold burdF; omega⟩
theorem burdS_bnd {w : Bool} {p : Plate} {m places : Int} (hp : PlateV p) : ∀ {l : List Load}, (∀ x ∈ l, LoadV places x) → 0 ≤ burdS w p l m ∧ burdS w p l m ≤ l.length * 200000000000
  | [], _ => by simp [burdS]
  | x :: l, h => by
    have h1 := burdF_bnd (w := w) (m := m) hp (h x (by simp))
    have h2 := burdS_bnd (w := w) (m := m) hp (l := l) fun y hy => h y (by simp [hy])
    simp only [burdS, List.map_cons, List.sum_cons, List.length_cons] at h2 ⊢
    omega
end Go.Sas
namespace Go.Sas
theorem iQuo_id {a b : Int} (h0 : 0 ≤ a) (h1 : a ≤ 9223372036854775807) (hb : 0 < b) : iQuo .i64 a b = a / b := by
  have h2 : a / b ≤ a := Int.ediv_le_self _ h0
  have h3 : 0 ≤ a / b := Int.ediv_nonneg h0 (by omega)
  unfold iQuo
  rw [Int.tdiv_eq_ediv_of_nonneg h0]
  exact wrap_id (by omega) (by omega)
theorem iMax_eq (a b : Int) : iMax a b = max a b := by unfold iMax; split <;> omega
theorem iMin_eq (a b : Int) : iMin a b = min a b := by unfold iMin; split <;> omega
structure Sp2 where
  str : Bool → Int → Int → Int
  hev : Bool → Int → Int → Int
  near : Bool → Int → Int → Int → Int → Bool
  far : Int → Int → Int
  en : Bool → Plate → Int → Int → Int → Bool
  cut : Plate → Int → Bool → Int
  any : Bool → Plate → List (Int × Int) → Int → Bool
  thick : Bool → Plate → List (Int × Int) → List (Int × Int) → Int → Int
  burd : Bool → Plate → List Load → Int → Int
  be : Bool → Plate → List (Int × Int) → List (Int × Int) → List Load → Load → Bool
  ve : Plate → List (Int × Int) → List (Int × Int) → List Load → Load → Int
  bor : Int → Int → Int → Int → Bool
def anyS (w : Bool) (p : Plate) (cr : List (Int × Int)) (m : Int) : Bool := cr.any fun c => nearS w c m p.near
def borS (burden strength thick creep : Int) : Bool := decide (burden * 1000000 ≤ strength * thick * thick * creep)
def st2 : Sp2 := ⟨fun w a b => strS w (a, b), fun w a b => hevS w (a, b), fun w a b m n => nearS w (a, b) m n, farS, enS, cutS, anyS, thickS, burdS, beS, veS, borS⟩
/-- a plate, by its value -/
def asPl : AV → Option (Int × Int × List AV × List AV × Int × Int × Int × Int × Int × Int × Int)
  | .agg [.lit (.int .i64 a), .lit (.int .i64 b), s, c, .lit (.int .i64 ne), .lit (.int .i64 ed), .lit (.int .i64 gr), .lit (.int .i64 lo), .lit (.int .i64 hi), .lit (.int .i64 sh), .lit (.int .i64 wi)] => match asVs 2 s, asVs 2 c with
    | some xs, some ec => some (a, b, xs, ec, ne, ed, gr, lo, hi, sh, wi)
    | _, _ => none
  | _ => none
abbrev PlX := Int × Int × List AV × List AV × Int × Int × Int × Int × Int × Int × Int
def plX (x : PlX) : AV := plV x.1 x.2.1 (.vs 2 x.2.2.1) (.vs 2 x.2.2.2.1) x.2.2.2.2.1 x.2.2.2.2.2.1 x.2.2.2.2.2.2.1 x.2.2.2.2.2.2.2.1 x.2.2.2.2.2.2.2.2.1 x.2.2.2.2.2.2.2.2.2.1 x.2.2.2.2.2.2.2.2.2.2
def PlIs (p : Plate) (x : PlX) : Prop := PlateIs p x.1 x.2.1 x.2.2.1 x.2.2.2.1 x.2.2.2.2.1 x.2.2.2.2.2.1 x.2.2.2.2.2.2.1 x.2.2.2.2.2.2.2.1 x.2.2.2.2.2.2.2.2.1 x.2.2.2.2.2.2.2.2.2.1 x.2.2.2.2.2.2.2.2.2.2
theorem asPl_wk {a : AV} {x : PlX} (h : asPl a = some x) : Wk a (plX x) := by
  unfold asPl at h
  split at h
  · split at h
    · rename_i xs ec h1 h2
      cases h
      exact Wk.agg ⟨Wk.rfl, Wk.rfl, asVs_wk h1, asVs_wk h2, Wk.rfl, Wk.rfl, Wk.rfl, Wk.rfl, Wk.rfl, Wk.rfl, Wk.rfl, trivial⟩
    · cases h
  · cases h
theorem PlIs.eq {p : Plate} {x : PlX} (h : PlIs p x) : plX x = plV p.str.1 p.str.2 (.vs 2 (p.shares.map sp)) (.vs 2 (p.creep.map sp)) p.near p.edge p.grav p.low p.high p.shore p.wider := by
  obtain ⟨a, b, xs, ec, ne, ed, gr, lo, hi, sh, wi⟩ := x
  obtain ⟨h1, h2, h3, h4, h5, h6, h7, h8, h9, h10⟩ := h
  simp only at h1 h2 h3 h4 h5 h6 h7 h8 h9 h10
  simp only [plX, h1, h2, h3, h4, h5, h6, h7, h8, h9, h10]
/-- a plate that is seen from a side, with ice and cracks -/
def asSc : AV → Option (Bool × PlX × List AV × List AV)
  | .agg [.lit (.bool w), .lit (.int .i64 a), .lit (.int .i64 b), s, c, .lit (.int .i64 ne), .lit (.int .i64 ed), .lit (.int .i64 gr), .lit (.int .i64 lo), .lit (.int .i64 hi), .lit (.int .i64 sh), .lit (.int .i64 wi), ice, cr] => match asVs 2 s, asVs 2 c, asVs 2 ice, asVs 2 cr with
    | some xs, some ec, some xi, some xc => some (w, (a, b, xs, ec, ne, ed, gr, lo, hi, sh, wi), xi, xc)
    | _, _, _, _ => none
  | _ => none
def scV (w : Bool) (a b : Int) (xs ec : AV) (ne ed gr lo hi sh wi : Int) (xi xc : AV) : AV := .agg [B w, I a, I b, xs, ec, I ne, I ed, I gr, I lo, I hi, I sh, I wi, xi, xc]
def scX (w : Bool) (x : PlX) (xi xc : List AV) : AV := scV w x.1 x.2.1 (.vs 2 x.2.2.1) (.vs 2 x.2.2.2.1) x.2.2.2.2.1 x.2.2.2.2.2.1 x.2.2.2.2.2.2.1 x.2.2.2.2.2.2.2.1 x.2.2.2.2.2.2.2.2.1 x.2.2.2.2.2.2.2.2.2.1 x.2.2.2.2.2.2.2.2.2.2 (.vs 2 xi) (.vs 2 xc)
theorem asSc_wk {a : AV} {w : Bool} {x : PlX} {xi xc : List AV} (h : asSc a = some (w, x, xi, xc)) : Wk a (scX w x xi xc) := by
  unfold asSc at h
  split at h
  · split at h
    · rename_i xs ec h1 h2 h3 h4 h5 h6
      cases h
      exact Wk.agg ⟨Wk.rfl, Wk.rfl, Wk.rfl, asVs_wk h3, asVs_wk h4, Wk.rfl, Wk.rfl, Wk.rfl, Wk.rfl, Wk.rfl, Wk.rfl, Wk.rfl, asVs_wk h5, asVs_wk h6, trivial⟩
    · cases h
  · cases h

def eStr (S : Sp2) : List AV → Option ((AV → Prop) → Prop)
  | [.agg [.lit (.bool w)], .agg [.lit (.int .i64 a), .lit (.int .i64 b)]] => some fun K => K (I (S.str w a b))
  | _ => none
def eHev (S : Sp2) : List AV → Option ((AV → Prop) → Prop)
  | [.agg [.lit (.bool w)], .agg [.lit (.int .i64 a), .lit (.int .i64 b)]] => some fun K => K (I (S.hev w a b))
  | _ => none
/-- numbers that are small enough -/
def Sm (n : Int) : Prop := -1000000000000 ≤ n ∧ n ≤ 1000000000000
def eNear (S : Sp2) : List AV → Option ((AV → Prop) → Prop)
  | [.agg [.lit (.bool w)], .agg [.lit (.int .i64 a), .lit (.int .i64 b)], .lit (.int .i64 m), .lit (.int .i64 n)] => some fun K => ∃ _u : Unit, (Sm a ∧ Sm b ∧ Sm m ∧ Sm n) ∧ K (B (S.near w a b m n))
  | _ => none
def eEn (S : Sp2) : List AV → Option ((AV → Prop) → Prop)
  | [sc, .lit (.int .i64 u), .lit (.int .i64 t), .lit (.int .i64 n)] => match asSc sc with
    | some (w, x, _, _) => some fun K => ∃ p, PlIs p x ∧ PlateV p ∧ (0 ≤ u ∧ u ≤ 6000000000000) ∧ (0 ≤ t ∧ t ≤ 5000) ∧ K (B (S.en w p u t n))
    | none => none
  | _ => none
def eThick (S : Sp2) : List AV → Option ((AV → Prop) → Prop)
  | [sc, .lit (.int .i64 m)] => match asSc sc with
    | some (w, x, xi, xc) => some fun K => ∃ p ice cr, PlIs p x ∧ xi = ice.map sp ∧ xc = cr.map sp ∧ RoadV p ice cr ∧ (0 ≤ m ∧ m ≤ 100 * iLen ice.length - 1) ∧ K (I (S.thick w p ice cr m))
    | none => none
  | _ => none
/-- loads on a road -/
structure LoadsV (places : Int) (l : List Load) : Prop where
  len : l.length ≤ 30
  all : ∀ x ∈ l, LoadV places x
theorem LoadV.up {a b : Int} {x : Load} (h : LoadV a x) (hab : a ≤ b) : LoadV b x := ⟨h.at1, by have := h.at2; omega, h.w1, h.w2, h.w3, h.s1, h.s2⟩
theorem LoadsV.up {a : Int} {l : List Load} (h : LoadsV a l) (ha : a ≤ 1000) : ∀ x ∈ l, LoadV 1000 x := fun x hx => (h.all x hx).up ha
def eBe (S : Sp2) : List AV → Option ((AV → Prop) → Prop)
  | [sc, ls, .lit (.int .i64 i)] => match asSc sc, asVs 4 ls with
    | some (w, x, xi, xc), some xl => some fun K => ∃ p ice cr l j y, PlIs p x ∧ xi = ice.map sp ∧ xc = cr.map sp ∧ xl = l.map ldV ∧ RoadV p ice cr ∧ LoadsV ice.length l ∧ i = iLen j ∧ l[j]? = some y ∧ K (B (S.be w p ice cr l y))
    | _, _ => none
  | _ => none
def eVe (S : Sp2) : List AV → Option ((AV → Prop) → Prop)
  | [pl, ic, cc, ls, .lit (.int .i64 i)] => match asPl pl, asVs 2 ic, asVs 2 cc, asVs 4 ls with
    | some x, some xi, some xc, some xl => some fun K => ∃ p ice cr l j y, PlIs p x ∧ xi = ice.map sp ∧ xc = cr.map sp ∧ xl = l.map ldV ∧ RoadV p ice cr ∧ LoadsV ice.length l ∧ i = iLen j ∧ l[j]? = some y ∧ K (I (S.ve p ice cr l y))
    | _, _, _, _ => none
  | _ => none
end Go.Sas
namespace Go.Sas
def aloS (p : Plate) (t n : Int) : Int := p.str.1 * t * t * partS p.creep n / 1000000000000
def bearsS (p : Plate) (t n : Int) : Int × Int := if checkS p ≠ 0 then (0, checkS p) else if t < 0 ∨ 5000 < t ∨ n < 0 ∨ 10000 < n then (0, 2) else (aloS p t n, 0)
def waterS (p : Plate) (a b shore : Int) : Int := if checkS p ≠ 0 then checkS p else if faultS a b 0 10000 ≠ 0 then faultS a b 0 10000 else if shore < 0 ∨ 100000 < shore then 2 else 0
def bandS (p : Plate) (shore : Int) : Int × Int := if shore < p.shore then (p.low * (1000000 - p.wider) / 1000000, (p.high * (1000000 + p.wider) + 999999) / 1000000) else (p.low, p.high)
def critS (g lo hi v d : Int) : Bool := decide (lo * (g * d) ≤ v * v * 1000000 ∧ v * v * 1000000 ≤ hi * (g * d))
def cntS (g lo hi v a : Int) : Nat → Int
  | 0 => 0
  | n + 1 => cntS g lo hi v a n + (if critS g lo hi v (a + n) then 1 else 0)
def wverS (g lo hi v a b : Int) : Int := if cntS g lo hi v a (b - a + 1).toNat = 0 then 1 else if cntS g lo hi v a (b - a + 1).toNat = b - a + 1 then 2 else 3
def speedS (p : Plate) (a b shore v : Int) : Int × Int := if waterS p a b shore ≠ 0 then (0, waterS p a b shore) else if v < 0 ∨ 1000 < v then (0, 2) else (wverS p.grav (bandS p shore).1 (bandS p shore).2 v a b, 0)
structure Sp3 where
  alo : Plate → Int → Int → Int
  bears : Plate → Int → Int → Int × Int
  water : Plate → Int → Int → Int → Int
  band : Plate → Int → Int × Int
  crit : Int → Int → Int → Int → Int → Bool
  wver : Int → Int → Int → Int → Int → Int → Int
  speed : Plate → Int → Int → Int → Int → Int × Int
def st3 : Sp3 := ⟨aloS, bearsS, waterS, bandS, critS, wverS, speedS⟩
abbrev Big (l : List (Int × Int)) : Prop := l.length ≤ 9223372036854775807
def eAlo (S : Sp3) : List AV → Option ((AV → Prop) → Prop)
  | [pl, .lit (.int .i64 t), .lit (.int .i64 n)] => match asPl pl with
    | some x => some fun K => ∃ p, PlIs p x ∧ PlateV p ∧ (0 ≤ t ∧ t ≤ 5000) ∧ K (I (S.alo p t n))
    | none => none
  | _ => none
end Go.Sas
namespace Go.Sas
abbrev BigL {α : Type} (l : List α) : Prop := l.length ≤ 9223372036854775807
def eHolds : List AV → Option ((AV → Prop) → Prop)
  | [pl, ic, cc, ls] => match asPl pl, asVs 2 ic, asVs 2 cc, asVs 4 ls with
    | some x, some xi, some xc, some xl => some fun K => ∃ p ice cr l, PlIs p x ∧ Big p.shares ∧ Big p.creep ∧ (xi = ice.map sp ∧ BigL ice) ∧ (xc = cr.map sp ∧ BigL cr) ∧ (xl = l.map ldV ∧ BigL l) ∧
        ∀ r e ys, (r, e) = holdsS p ice cr l → ys = r.map I → K (.tup [.vs 1 ys, I e])
    | _, _, _, _ => none
  | _ => none
def eBearsA : List AV → Option ((AV → Prop) → Prop)
  | [pl, .lit (.int .i64 t), .lit (.int .i64 n)] => match asPl pl with
    | some x => some fun K => ∃ p, PlIs p x ∧ Big p.shares ∧ Big p.creep ∧ ∀ a e, (a, e) = bearsS p t n → K (.tup [I a, I e])
    | none => none
  | _ => none
end Go.Sas
