/-
What chapter 3 says, as plain functions, part 3: how much ice bears alone, and speeds.
Conditions: none (definitions and plain lemmas).
-/
import Derived.Test.YtelmlpjkpebcgaaS3
set_option linter.unusedVariables false
set_option linter.unusedSimpArgs false
namespace Go.Sas
def aloS (p : Plate) (t n : Int) : Int := p.str.1 * t * t * partS p.creep n / 1000000000000
def bearsS (p : Plate) (t n : Int) : Int × Int := if checkS p ≠ 0 then (0, checkS p) else if t < 0 ∨ 5000 < t ∨ n < 0 ∨ 10000 < n then (0, 2) else (aloS p t n, 0)
def waterS (p : Plate) (a b shore : Int) : Int := if checkS p ≠ 0 then checkS p else if faultS a b 0 10000 ≠ 0 then faultS a b 0 10000 else if shore < 0 ∨ 100000 < shore then 2 else 0
def bandS (p : Plate) (shore : Int) : Int × Int := if shore < p.shore then (p.low * (1000000 - p.wider) / 1000000, (p.high * (1000000 + p.wider) + 999999) / 1000000) else (p.low, p.high)
def critS (g lo hi v d : Int) : Bool := decide (lo * (g * d) ≤ v * v * 1000000 ∧ v * v * 1000000 ≤ hi * (g * d))
def cntS (g lo hi v a : Int) : Nat → Int
  | 0 => 0
  | n + 1 => cntS g lo hi v a n + (if critS g lo hi v (a + n) then 1 else 0)
def wverS (g lo hi v a b : Int) : Int := if cntS g lo hi v a (b - a + 1).toNat = 0 then 1 else if cntS g lo hi v a (b - a + 1).toNat = b - a + 1 then 2 else 3
def speedS (p : Plate) (a b shore v : Int) : Int × Int := if waterS p a b shore ≠ 0 then (0, waterS p a b shore) else if v < 0 ∨ 1000 < v then (0, 2) else (wverS p.grav (bandS p shore).1 (bandS p shore).2 v a b, 0)
theorem cntS_bnd {g lo hi v a : Int} : ∀ {n : Nat}, 0 ≤ cntS g lo hi v a n ∧ cntS g lo hi v a n ≤ n
  | 0 => by simp [cntS]
  | n + 1 => by
    have := cntS_bnd (g := g) (lo := lo) (hi := hi) (v := v) (a := a) (n := n)
    simp only [cntS]
    split <;> omega
theorem waterS_ok {p : Plate} {a b shore : Int} (h : waterS p a b shore = 0) : PlateV p ∧ (0 ≤ a ∧ a ≤ b ∧ b ≤ 10000) ∧ 0 ≤ shore ∧ shore ≤ 100000 := by
  unfold waterS at h
  split at h
  · rename_i h1; exact absurd h h1
  rename_i h1
  split at h
  · rename_i h1; exact absurd h h1
  rename_i h2
  split at h
  · cases h
  rename_i h3
  exact ⟨checkS_ok (Decidable.not_not.1 h1), faultS_ok (Decidable.not_not.1 h2), by omega⟩
theorem bandS_bnd {p : Plate} (h : PlateV p) (shore : Int) : 0 ≤ (bandS p shore).1 ∧ (bandS p shore).1 ≤ 4000000 ∧ 0 ≤ (bandS p shore).2 ∧ (bandS p shore).2 ≤ 8000001 := by
  obtain ⟨_, _, _, _, _, _, _, _, _, _, _, h1, h2, h3, _, _, h6, h7⟩ := h
  unfold bandS
  split
  · obtain ⟨-, a1, a2⟩ := mulB (a := p.low) (b := 1000000 - p.wider) (A := 4000000) (B := 1000000) (by omega) (by omega) (by omega)
    obtain ⟨-, b1, b2⟩ := mulB (a := p.high) (b := 1000000 + p.wider) (A := 4000000) (B := 2000000) (by omega) (by omega) (by omega)
    simp only
    omega
  · simp only; omega
structure Sp3 where
  alo : Plate → Int → Int → Int
  bears : Plate → Int → Int → Int × Int
  water : Plate → Int → Int → Int → Int
  band : Plate → Int → Int × Int
  crit : Int → Int → Int → Int → Int → Bool
  wver : Int → Int → Int → Int → Int → Int → Int
  speed : Plate → Int → Int → Int → Int → Int × Int
def st3 : Sp3 := ⟨aloS, bearsS, waterS, bandS, critS, wverS, speedS⟩
abbrev Big (l : List (Int × Int)) : Prop := l.length ≤ 9223372036854775807
def eAlo (S : Sp3) : List AV → Option ((AV → Prop) → Prop)
  | [pl, .lit (.int .i64 t), .lit (.int .i64 n)] => match asPl pl with
    | some x => some fun K => ∃ p, PlIs p x ∧ PlateV p ∧ (0 ≤ t ∧ t ≤ 5000) ∧ K (I (S.alo p t n))
    | none => none
  | _ => none
def eBears (S : Sp3) : List AV → Option ((AV → Prop) → Prop)
  | [pl, .lit (.int .i64 t), .lit (.int .i64 n)] => match asPl pl with
    | some x => some fun K => ∃ p, PlIs p x ∧ Big p.shares ∧ Big p.creep ∧ K (.tup [I (S.bears p t n).1, I (S.bears p t n).2])
    | none => none
  | _ => none
def eWater (S : Sp3) : List AV → Option ((AV → Prop) → Prop)
  | [pl, .agg [.lit (.int .i64 a), .lit (.int .i64 b)], .lit (.int .i64 n)] => match asPl pl with
    | some x => some fun K => ∃ p, PlIs p x ∧ Big p.shares ∧ Big p.creep ∧ K (I (S.water p a b n))
    | none => none
  | _ => none
def eWaves (S : Sp3) : List AV → Option ((AV → Prop) → Prop)
  | [pl, .lit (.int .i64 n)] => match asPl pl with
    | some x => some fun K => ∃ p, PlIs p x ∧ PlateV p ∧ K (.agg [I x.2.2.2.2.2.2.1, I (S.band p n).1, I (S.band p n).2])
    | none => none
  | _ => none
def eBand (S : Sp3) : List AV → Option ((AV → Prop) → Prop)
  | [pl, .lit (.int .i64 n)] => match asPl pl with
    | some x => some fun K => ∃ p, PlIs p x ∧ PlateV p ∧ K (.tup [I (S.band p n).1, I (S.band p n).2])
    | none => none
  | _ => none
/-- numbers of waves -/
def WaveV (g lo hi v : Int) : Prop := (0 ≤ g ∧ g ≤ 1000) ∧ (0 ≤ lo ∧ lo ≤ 4000000) ∧ (0 ≤ hi ∧ hi ≤ 8000001) ∧ 0 ≤ v ∧ v ≤ 1000
def eCrit (S : Sp3) : List AV → Option ((AV → Prop) → Prop)
  | [.agg [.lit (.int .i64 g), .lit (.int .i64 lo), .lit (.int .i64 hi)], .lit (.int .i64 v), .lit (.int .i64 d)] => some fun K => ∃ _u : Unit, WaveV g lo hi v ∧ (0 ≤ d ∧ d ≤ 10000) ∧ K (B (S.crit g lo hi v d))
  | _ => none
def eCrit2 (S : Sp3) : List AV → Option ((AV → Prop) → Prop)
  | [pl, .lit (.int .i64 d), .lit (.int .i64 n), .lit (.int .i64 v)] => match asPl pl with
    | some x => some fun K => ∃ p, PlIs p x ∧ PlateV p ∧ (0 ≤ v ∧ v ≤ 1000) ∧ (0 ≤ d ∧ d ≤ 10000) ∧ K (B (S.crit p.grav (S.band p n).1 (S.band p n).2 v d))
    | none => none
  | _ => none
def eWver (S : Sp3) : List AV → Option ((AV → Prop) → Prop)
  | [.agg [.lit (.int .i64 g), .lit (.int .i64 lo), .lit (.int .i64 hi)], .lit (.int .i64 v), .agg [.lit (.int .i64 a), .lit (.int .i64 b)]] => some fun K => ∃ _u : Unit, WaveV g lo hi v ∧ (0 ≤ a ∧ a ≤ b ∧ b ≤ 10000) ∧ K (I (S.wver g lo hi v a b))
  | _ => none
def eWver2 (S : Sp3) : List AV → Option ((AV → Prop) → Prop)
  | [pl, .agg [.lit (.int .i64 a), .lit (.int .i64 b)], .lit (.int .i64 n), .lit (.int .i64 v)] => match asPl pl with
    | some x => some fun K => ∃ p, PlIs p x ∧ PlateV p ∧ (0 ≤ v ∧ v ≤ 1000) ∧ (0 ≤ a ∧ a ≤ b ∧ b ≤ 10000) ∧ K (I (S.wver p.grav (S.band p n).1 (S.band p n).2 v a b))
    | none => none
  | _ => none
def eSpeed (S : Sp3) : List AV → Option ((AV → Prop) → Prop)
  | [pl, .agg [.lit (.int .i64 a), .lit (.int .i64 b)], .lit (.int .i64 n), .lit (.int .i64 v)] => match asPl pl with
    | some x => some fun K => ∃ p, PlIs p x ∧ Big p.shares ∧ Big p.creep ∧ K (.tup [I (S.speed p a b n v).1, I (S.speed p a b n v).2])
    | none => none
  | _ => none
end Go.Sas
