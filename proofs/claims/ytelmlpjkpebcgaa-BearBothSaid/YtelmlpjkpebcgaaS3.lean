/-
Entries of tables for what ice bears.
Conditions: none (definitions).
-/
import Derived.Test.YtelmlpjkpebcgaaS2
set_option linter.unusedVariables false
set_option linter.unusedSimpArgs false
namespace Go.Sas
theorem iQuo_id {a b : Int} (h0 : 0 ≤ a) (h1 : a ≤ 9223372036854775807) (hb : 0 < b) : iQuo .i64 a b = a / b := by
  have h2 : a / b ≤ a := Int.ediv_le_self _ h0
  have h3 : 0 ≤ a / b := Int.ediv_nonneg h0 (by omega)
  unfold iQuo
  rw [Int.tdiv_eq_ediv_of_nonneg h0]
  exact wrap_id (by omega) (by omega)
theorem iMax_eq (a b : Int) : iMax a b = max a b := by unfold iMax; split <;> omega
theorem iMin_eq (a b : Int) : iMin a b = min a b := by unfold iMin; split <;> omega
structure Sp2 where
  str : Bool → Int → Int → Int
  hev : Bool → Int → Int → Int
  near : Bool → Int → Int → Int → Int → Bool
  far : Int → Int → Int
  en : Bool → Plate → Int → Int → Int → Bool
  cut : Plate → Int → Bool → Int
  any : Bool → Plate → List (Int × Int) → Int → Bool
  thick : Bool → Plate → List (Int × Int) → List (Int × Int) → Int → Int
  burd : Bool → Plate → List Load → Int → Int
  be : Bool → Plate → List (Int × Int) → List (Int × Int) → List Load → Load → Bool
  ve : Plate → List (Int × Int) → List (Int × Int) → List Load → Load → Int
  bor : Int → Int → Int → Int → Bool
def anyS (w : Bool) (p : Plate) (cr : List (Int × Int)) (m : Int) : Bool := cr.any fun c => nearS w c m p.near
def borS (burden strength thick creep : Int) : Bool := decide (burden * 1000000 ≤ strength * thick * thick * creep)
def st2 : Sp2 := ⟨fun w a b => strS w (a, b), fun w a b => hevS w (a, b), fun w a b m n => nearS w (a, b) m n, farS, enS, cutS, anyS, thickS, burdS, beS, veS, borS⟩
/-- a plate, by its value -/
def asPl : AV → Option (Int × Int × List AV × List AV × Int × Int × Int × Int × Int × Int × Int)
  | .agg [.lit (.int .i64 a), .lit (.int .i64 b), s, c, .lit (.int .i64 ne), .lit (.int .i64 ed), .lit (.int .i64 gr), .lit (.int .i64 lo), .lit (.int .i64 hi), .lit (.int .i64 sh), .lit (.int .i64 wi)] => match asVs 2 s, asVs 2 c with
    | some xs, some ec => some (a, b, xs, ec, ne, ed, gr, lo, hi, sh, wi)
    | _, _ => none
  | _ => none
abbrev PlX := Int × Int × List AV × List AV × Int × Int × Int × Int × Int × Int × Int
def plX (x : PlX) : AV := plV x.1 x.2.1 (.vs 2 x.2.2.1) (.vs 2 x.2.2.2.1) x.2.2.2.2.1 x.2.2.2.2.2.1 x.2.2.2.2.2.2.1 x.2.2.2.2.2.2.2.1 x.2.2.2.2.2.2.2.2.1 x.2.2.2.2.2.2.2.2.2.1 x.2.2.2.2.2.2.2.2.2.2
def PlIs (p : Plate) (x : PlX) : Prop := PlateIs p x.1 x.2.1 x.2.2.1 x.2.2.2.1 x.2.2.2.2.1 x.2.2.2.2.2.1 x.2.2.2.2.2.2.1 x.2.2.2.2.2.2.2.1 x.2.2.2.2.2.2.2.2.1 x.2.2.2.2.2.2.2.2.2.1 x.2.2.2.2.2.2.2.2.2.2
theorem asPl_wk {a : AV} {x : PlX} (h : asPl a = some x) : Wk a (plX x) := by
  unfold asPl at h
  split at h
  · split at h
    · rename_i xs ec h1 h2
      cases h
      exact Wk.agg ⟨Wk.rfl, Wk.rfl, asVs_wk h1, asVs_wk h2, Wk.rfl, Wk.rfl, Wk.rfl, Wk.rfl, Wk.rfl, Wk.rfl, Wk.rfl, trivial⟩
    · cases h
  · cases h
theorem PlIs.eq {p : Plate} {x : PlX} (h : PlIs p x) : plX x = plV p.str.1 p.str.2 (.vs 2 (p.shares.map sp)) (.vs 2 (p.creep.map sp)) p.near p.edge p.grav p.low p.high p.shore p.wider := by
  obtain ⟨a, b, xs, ec, ne, ed, gr, lo, hi, sh, wi⟩ := x
  obtain ⟨h1, h2, h3, h4, h5, h6, h7, h8, h9, h10⟩ := h
  simp only at h1 h2 h3 h4 h5 h6 h7 h8 h9 h10
  simp only [plX, h1, h2, h3, h4, h5, h6, h7, h8, h9, h10]
/-- a plate that is seen from a side, with ice and cracks -/
def asSc : AV → Option (Bool × PlX × List AV × List AV)
  | .agg [.lit (.bool w), .lit (.int .i64 a), .lit (.int .i64 b), s, c, .lit (.int .i64 ne), .lit (.int .i64 ed), .lit (.int .i64 gr), .lit (.int .i64 lo), .lit (.int .i64 hi), .lit (.int .i64 sh), .lit (.int .i64 wi), ice, cr] => match asVs 2 s, asVs 2 c, asVs 2 ice, asVs 2 cr with
    | some xs, some ec, some xi, some xc => some (w, (a, b, xs, ec, ne, ed, gr, lo, hi, sh, wi), xi, xc)
    | _, _, _, _ => none
  | _ => none
def scV (w : Bool) (a b : Int) (xs ec : AV) (ne ed gr lo hi sh wi : Int) (xi xc : AV) : AV := .agg [B w, I a, I b, xs, ec, I ne, I ed, I gr, I lo, I hi, I sh, I wi, xi, xc]
def scX (w : Bool) (x : PlX) (xi xc : List AV) : AV := scV w x.1 x.2.1 (.vs 2 x.2.2.1) (.vs 2 x.2.2.2.1) x.2.2.2.2.1 x.2.2.2.2.2.1 x.2.2.2.2.2.2.1 x.2.2.2.2.2.2.2.1 x.2.2.2.2.2.2.2.2.1 x.2.2.2.2.2.2.2.2.2.1 x.2.2.2.2.2.2.2.2.2.2 (.vs 2 xi) (.vs 2 xc)
theorem asSc_wk {a : AV} {w : Bool} {x : PlX} {xi xc : List AV} (h : asSc a = some (w, x, xi, xc)) : Wk a (scX w x xi xc) := by
  unfold asSc at h
  split at h
  · split at h
    · rename_i xs ec h1 h2 h3 h4 h5 h6
      cases h
      exact Wk.agg ⟨Wk.rfl, Wk.rfl, Wk.rfl, asVs_wk h3, asVs_wk h4, Wk.rfl, Wk.rfl, Wk.rfl, Wk.rfl, Wk.rfl, Wk.rfl, Wk.rfl, asVs_wk h5, asVs_wk h6, trivial⟩
    · cases h
  · cases h

def eStr (S : Sp2) : List AV → Option ((AV → Prop) → Prop)
  | [.agg [.lit (.bool w)], .agg [.lit (.int .i64 a), .lit (.int .i64 b)]] => some fun K => K (I (S.str w a b))
  | _ => none
def eHev (S : Sp2) : List AV → Option ((AV → Prop) → Prop)
  | [.agg [.lit (.bool w)], .agg [.lit (.int .i64 a), .lit (.int .i64 b)]] => some fun K => K (I (S.hev w a b))
  | _ => none
/-- numbers that are small enough -/
def Sm (n : Int) : Prop := -1000000000000 ≤ n ∧ n ≤ 1000000000000
def eNear (S : Sp2) : List AV → Option ((AV → Prop) → Prop)
  | [.agg [.lit (.bool w)], .agg [.lit (.int .i64 a), .lit (.int .i64 b)], .lit (.int .i64 m), .lit (.int .i64 n)] => some fun K => ∃ _u : Unit, (Sm a ∧ Sm b ∧ Sm m ∧ Sm n) ∧ K (B (S.near w a b m n))
  | _ => none
def eFar (S : Sp2) : List AV → Option ((AV → Prop) → Prop)
  | [.lit (.int .i64 a), .lit (.int .i64 b)] => some fun K => ∃ _u : Unit, (Sm a ∧ Sm b) ∧ K (I (S.far a b))
  | _ => none
def eEn (S : Sp2) : List AV → Option ((AV → Prop) → Prop)
  | [sc, .lit (.int .i64 u), .lit (.int .i64 t), .lit (.int .i64 n)] => match asSc sc with
    | some (w, x, _, _) => some fun K => ∃ p, PlIs p x ∧ PlateV p ∧ (0 ≤ u ∧ u ≤ 6000000000000) ∧ (0 ≤ t ∧ t ≤ 5000) ∧ K (B (S.en w p u t n))
    | none => none
  | _ => none
def eThick (S : Sp2) : List AV → Option ((AV → Prop) → Prop)
  | [sc, .lit (.int .i64 m)] => match asSc sc with
    | some (w, x, xi, xc) => some fun K => ∃ p ice cr, PlIs p x ∧ xi = ice.map sp ∧ xc = cr.map sp ∧ RoadV p ice cr ∧ (0 ≤ m ∧ m ≤ 100 * iLen ice.length - 1) ∧ K (I (S.thick w p ice cr m))
    | none => none
  | _ => none
/-- loads on a road -/
structure LoadsV (places : Int) (l : List Load) : Prop where
  len : l.length ≤ 30
  all : ∀ x ∈ l, LoadV places x
theorem LoadV.up {a b : Int} {x : Load} (h : LoadV a x) (hab : a ≤ b) : LoadV b x := ⟨h.at1, by have := h.at2; omega, h.w1, h.w2, h.w3, h.s1, h.s2⟩
theorem LoadsV.up {a : Int} {l : List Load} (h : LoadsV a l) (ha : a ≤ 1000) : ∀ x ∈ l, LoadV 1000 x := fun x hx => (h.all x hx).up ha
def eBe (S : Sp2) : List AV → Option ((AV → Prop) → Prop)
  | [sc, ls, .lit (.int .i64 i)] => match asSc sc, asVs 4 ls with
    | some (w, x, xi, xc), some xl => some fun K => ∃ p ice cr l j y, PlIs p x ∧ xi = ice.map sp ∧ xc = cr.map sp ∧ xl = l.map ldV ∧ RoadV p ice cr ∧ LoadsV ice.length l ∧ i = iLen j ∧ l[j]? = some y ∧ K (B (S.be w p ice cr l y))
    | _, _ => none
  | _ => none
def eVe (S : Sp2) : List AV → Option ((AV → Prop) → Prop)
  | [pl, ic, cc, ls, .lit (.int .i64 i)] => match asPl pl, asVs 2 ic, asVs 2 cc, asVs 4 ls with
    | some x, some xi, some xc, some xl => some fun K => ∃ p ice cr l j y, PlIs p x ∧ xi = ice.map sp ∧ xc = cr.map sp ∧ xl = l.map ldV ∧ RoadV p ice cr ∧ LoadsV ice.length l ∧ i = iLen j ∧ l[j]? = some y ∧ K (I (S.ve p ice cr l y))
    | _, _, _, _ => none
  | _ => none
def eBor (S : Sp2) : List AV → Option ((AV → Prop) → Prop)
  | [.lit (.int .i64 u), .lit (.int .i64 s), .lit (.int .i64 t), .lit (.int .i64 c)] => some fun K => ∃ _u : Unit, (0 ≤ u ∧ u ≤ 6000000000000) ∧ (0 ≤ s ∧ s ≤ 100000) ∧ (0 ≤ t ∧ t ≤ 5000) ∧ (0 ≤ c ∧ c ≤ 1000000) ∧ K (B (S.bor u s t c))
  | _ => none
def eCut (S : Sp2) : List AV → Option ((AV → Prop) → Prop)
  | [pl, .lit (.int .i64 t), .lit (.bool b)] => match asPl pl with
    | some x => some fun K => ∃ p, PlIs p x ∧ PlateV p ∧ (0 ≤ t ∧ t ≤ 5000) ∧ K (I (S.cut p t b))
    | none => none
  | _ => none
def eAny (w : Bool) (S : Sp2) : List AV → Option ((AV → Prop) → Prop)
  | [pl, cc, .lit (.int .i64 m)] => match asPl pl, asVs 2 cc with
    | some x, some xc => some fun K => ∃ p cr, PlIs p x ∧ xc = cr.map sp ∧ PlateV p ∧ (cr.length ≤ 50 ∧ ∀ x ∈ cr, 0 ≤ x.1 ∧ x.1 ≤ x.2 ∧ x.2 ≤ 100000) ∧ (0 ≤ m ∧ m ≤ 100000) ∧ K (B (S.any w p cr m))
    | _, _ => none
  | _ => none
def eBurd (S : Sp2) : List AV → Option ((AV → Prop) → Prop)
  | [pl, ls, .lit (.int .i64 i)] => match asPl pl, asVs 4 ls with
    | some x, some xl => some fun K => ∃ p l j y places, PlIs p x ∧ xl = l.map ldV ∧ PlateV p ∧ LoadsV places l ∧ places ≤ 1000 ∧ i = iLen j ∧ l[j]? = some y ∧ K (.agg [I (S.burd false p l y.at_), I (S.burd true p l y.at_)])
    | _, _ => none
  | _ => none
end Go.Sas
