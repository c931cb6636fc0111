/-
When a truck may be over first: contracts; the example of trucks.
The example of trucks holds: contract.
Conditions: none.
-/
import Derived.Test.YtndnjmpebpampaaGreatDoorWK
import Derived.Test.YtndnjmpebpampaaGreatDoorQLC
import Derived.Test.YtndnjmpebpampaaGreatDoorP8
import Derived.Test.YtndnjmpebpampaaGreatDoorVG
import Derived.Test.YtndnjmpebpampaaGreatDoorJB
set_option linter.unusedVariables false
set_option linter.unusedSimpArgs false
namespace Go.Sas
open Go.Proofs
set_option maxRecDepth 100000
abbrev trkX (w s lo hi L : Int) (ys xs : List AV) : AObj := .own 0 [I w, I s, I lo, I hi, .vs 2 ys, I L, .vs 2 xs]
theorem trkX_lt {w s lo hi L : Int} {ys xs : List AV} (hy : AV.nidL ys = true) (hx : AV.nidL xs = true) : ltHB 1 [trkX w s lo hi L ys xs] = true := by
  simp [ltHB, AV.ltLB, AV.ltB, nidL_ltBn hy, nidL_ltBn hx]
def eHit : List AV → AHeap → Option PT
  | [.agg [.lit (.int .i64 a), .lit (.int .i64 b)], .mp 0 0 0], [.own 0 [.lit (.int .i64 w), .lit (.int .i64 s), .lit (.int .i64 lo), .lit (.int .i64 hi), .vs 2 ys, .lit (.int .i64 L), .vs 2 xs]] =>
    some fun K => ∃ _u : Unit, (AV.nidL ys = true ∧ AV.nidL xs = true) ∧ ∀ q, q = decide (b = L) → K (B q) [trkX w s lo hi L ys xs]
  | _, _ => none
theorem p82 (a b w s lo hi L : Int) (ys xs : List AV) (hy : AV.nidL ys = true) (hx : AV.nidL xs = true) {Kk : AV → AHeap → Prop} (h : Kk (B (decide (b = L))) [trkX w s lo hi L ys xs]) :
    ACalls Tryz.prog 82 [.agg [I a, I b], .mp 0 0 0] [trkX w s lo hi L ys xs] Kk := by
  have hlt := trkX_lt (w := w) (s := s) (lo := lo) (hi := hi) (L := L) hy hx
  obtain ⟨A, hA⟩ : ∃ A, A = std := ⟨_, rfl⟩
  have hee : ∀ x y, A.eq x y = decide (x = y) := by subst hA; intro x y; exact iEqd _ _
  refine go82 rfl (AGo.weaken (SGo_run (R := RetH _ [trkX w s lo hi L ys xs] Kk) hA ⟨[], [], [], []⟩ .nil .nil 200 fun T TD hT hTD => ?_) (fun _ _ _ h => RetH.p hlt h) (by simp))
  cbv
  exact leaf h (congrArg B (hee _ _).symm) rfl
theorem eHit_ok : ∀ args H pt, eHit args H = some pt → ∀ (Kk : AV → AHeap → Prop), pt Kk → ACalls Tryz.prog 82 args H Kk := by
  intro args H pt h Kk hk
  unfold eHit at h
  split at h
  · cases h
    obtain ⟨_, ⟨h1, h2⟩, h3⟩ := hk
    exact p82 _ _ _ _ _ _ _ _ _ h1 h2 (h3 _ rfl)
  · cases h
def eFind : List AV → AHeap → Option PT
  | [.vs 2 zs, .fn 82 [.mp 0 0 0]], [.own 0 [.lit (.int .i64 w), .lit (.int .i64 s), .lit (.int .i64 lo), .lit (.int .i64 hi), .vs 2 ys, .lit (.int .i64 L), .vs 2 xs]] =>
    some fun K => ∃ (gs : List (Int × Int)) (k : Nat), (AV.nidL ys = true ∧ xs = gs.map sp2 ∧ zs = xs ∧ gs.length ≤ 20000 ∧ (∃ g, gs[k]? = some (g, L)) ∧ ∀ j, j < k → ∀ g, gs[j]? = some g → g.2 ≠ L) ∧ ∀ q, q = iLen k → K (I q) [trkX w s lo hi L ys xs]
  | _, _ => none
theorem p81 (gs : List (Int × Int)) (k : Nat) (w s lo hi L : Int) (ys xs : List AV) (hy : AV.nidL ys = true) (hxs : xs = gs.map sp2) (hl : gs.length ≤ 20000) (hk : ∃ g, gs[k]? = some (g, L)) (hj : ∀ j, j < k → ∀ g, gs[j]? = some g → g.2 ≠ L) {Kk : AV → AHeap → Prop}
    (h : Kk (I (iLen k)) [trkX w s lo hi L ys xs]) : ACalls Tryz.prog 81 [.vs 2 xs, .fn 82 [.mp 0 0 0]] [trkX w s lo hi L ys xs] Kk := by
  have hx : AV.nidL xs = true := by rw [hxs]; exact nidL_map (fun _ => rfl) _
  have hlt := trkX_lt (w := w) (s := s) (lo := lo) (hi := hi) (L := L) hy hx
  have hxl : xs.length = gs.length := by rw [hxs, List.length_map]
  have hkl : k < gs.length := by obtain ⟨g, hg⟩ := hk; exact (List.getElem?_eq_some_iff.1 hg).1
  have hl1 : ∀ n, AV.ltL n ys := fun n => AV.ltL_nid hy
  have hl2 : ∀ n, AV.ltL n xs := fun n => AV.ltL_nid hx
  obtain ⟨A, hA⟩ : ∃ A, A = std := ⟨_, rfl⟩
  refine go81 rfl (AGo.weaken (SGo_run (R := RetH _ [trkX w s lo hi L ys xs] Kk) hA ⟨[], [], [], []⟩ .nil .nil 200 fun T TD hT hTD => ?_) (fun _ _ _ h => RetH.p hlt h) (by simp))
  cbv
  rw [hT]
  refine AGo_upE [0, 1, 7] gs.length (fun j (_ : Unit) => j ≤ k) (fun j _ i => [(8, I i)]) (fun _ _ => [trkX w s lo hi L ys xs]) () (Nat.zero_le _) ⟨rfl, trivial⟩ (.inl rfl) fun j _ i hi2 hjN hP Bk hB => ?_
  have hlt : A.lt i (A.vlen xs) = decide (j < gs.length) := by subst hA; exact lt_len (by simp [hxs]) hi2
  have hadd : ∀ N, j < N → N ≤ 9223372036854775807 → A.add .i64 i 1 = iLen (j + 1) := fun N hj hN => by subst hA; exact add_one hi2 hj hN
  refine SGo_run hA ⟨[], [], [], (82, eHit) :: []⟩ .nil (.cons eHit_ok .nil) 200 fun T TD hT hTD => ?_
  cbv
  split <;> cbv
  · rename_i hk0
    have hk1 : j < gs.length := by have hz := hlt.symm.trans hk0; simpa using hz
    clear hk0
    obtain ⟨⟨x, y⟩, hg⟩ : ∃ x, gs[j]? = some x := ⟨_, List.getElem?_eq_getElem hk1⟩
    have hix : A.ix 2 2 xs i [I x, I y] := by subst hA; exact ix_map hxs hi2 hg rfl
    refine Exists.intro _ (And.intro hix ?_); cbv
    refine Exists.intro () (And.intro ⟨hy, hx⟩ ?_)
    intro q hq; cbv
    split <;> cbv
    · rename_i hz
      have hz : y = L := by simpa using hq.symm
      have : j = k := by
        rcases Nat.lt_or_ge j k with h' | h'
        · exact absurd hz (hj j h' _ hg)
        · omega
      refine leaf h (congrArg I ?_) rfl
      rw [hi2, this]
    · rename_i hz
      have hz : ¬ y = L := by simpa using hq.symm
      have : j ≠ k := by
        rintro rfl
        obtain ⟨g, hg2⟩ := hk
        rw [hg] at hg2
        cases hg2
        exact hz rfl
      refine hB () _ _ hk1 (by omega) ⟨congrArg I (hadd _ hk1 (by omega)), trivial⟩ ⟨rfl, rfl, rfl, trivial⟩ (.inl rfl)
  · rename_i hk0
    have hk1 : ¬ j < gs.length := by have hz := hlt.symm.trans hk0; simpa using hz
    clear hk0
    omega
theorem eFind_ok : ∀ args H pt, eFind args H = some pt → ∀ (Kk : AV → AHeap → Prop), pt Kk → ACalls Tryz.prog 81 args H Kk := by
  intro args H pt h Kk hk
  unfold eFind at h
  split at h
  · cases h
    obtain ⟨gs, k, ⟨h1, h2, h3, h4, h5, h6⟩, h7⟩ := hk
    rw [h3]
    exact p81 gs k _ _ _ _ _ _ _ h1 h2 h4 h5 h6 (h7 _ rfl)
  · cases h
theorem p71 (gs : List (Int × Int)) (k : Nat) (w s lo hi L : Int) (ys xs : List AV) (hy : AV.nidL ys = true) (hxs : xs = gs.map sp2) (hl : gs.length ≤ 20000) (hk : ∃ g, gs[k]? = some (g, L)) (hj : ∀ j, j < k → ∀ g, gs[j]? = some g → g.2 ≠ L) (hs : 0 ≤ s ∧ s ≤ 100000) (H : AHeap) {Kk : AV → AHeap → Prop}
    (h : Kk (I (s + iLen k)) H) : ACalls Tryz.prog 71 [tkX w s lo hi L ys xs] H Kk := by
  have hkl : k < gs.length := by obtain ⟨g, hg⟩ := hk; exact (List.getElem?_eq_some_iff.1 hg).1
  refine (fun q => pureC (by rfl) (by rfl) q H h) ?_
  clear h
  intro Kk h
  obtain ⟨A, hA⟩ : ∃ A, A = std := ⟨_, rfl⟩
  have hadd : A.add .i64 s (iLen k) = s + iLen k := by subst hA; unfold iLen; exact iAdd_id (by omega) (by omega)
  refine go71 rfl (SGo_run hA ⟨[], [], [], (81, eFind) :: []⟩ .nil (.cons eFind_ok .nil) 200 fun T TD hT hTD => ?_)
  cbv
  refine Exists.intro gs (Exists.intro k (And.intro ⟨hy, hxs, rfl, hl, hk, hj⟩ ?_))
  intro q hq; cbv
  refine And.intro (by subst hA; simp [std, Keep, SubH, ResK]) ?_; cbv
  refine leaf h (congrArg I ?_) rfl
  rw [hq, ← hadd]
end Go.Sas
namespace Go.Sas
open Go.Proofs
set_option maxRecDepth 100000
/-- what is known of some arguments -/
def asc : List (List AV × AV) → List AV → Option AV
  | [], _ => none
  | (a, r) :: t, args => match avEqL a args with
    | true => some r
    | false => asc t args
def AscOk (P : Program) (f : Nat) (l : List (List AV × AV)) : Prop := ∀ p ∈ l, ∀ (H : AHeap) (Kk : AV → AHeap → Prop), Kk p.2 H → ACalls P f p.1 H Kk
theorem asc_ok {P : Program} {f : Nat} : ∀ {l : List (List AV × AV)}, AscOk P f l → ∀ args r, asc l args = some r → ∀ (H : AHeap) (Kk : AV → AHeap → Prop), Kk r H → ACalls P f args H Kk
  | [], _, args, r, h, _, _, _ => by simp [asc] at h
  | (a, q) :: t, hl, args, r, h, H, Kk, hk => by
    simp only [asc] at h
    split at h
    · rename_i hb
      have h := Option.some.inj h
      have := hl (a, q) (List.mem_cons_self ..) H Kk (by rw [h]; exact hk)
      rw [avEqL_spec hb] at this
      exact this
    · exact asc_ok (fun p hp => hl p (List.mem_cons_of_mem _ hp)) args r h H Kk hk
def eAsc (l : List (List AV × AV)) : List AV → Option ((AV → Prop) → Prop) := fun args => match asc l args with
  | some r => some fun K => K r
  | none => none
theorem eAsc_ok {P : Program} {f : Nat} {l : List (List AV × AV)} (hl : AscOk P f l) : ∀ args pt, eAsc l args = some pt → ∀ (H : AHeap) (Kk : AV → AHeap → Prop), pt (fun r => Kk r H) → ACalls P f args H Kk := by
  intro args pt h H Kk hk
  unfold eAsc at h
  split at h
  · rename_i r hr
    cases h
    exact asc_ok hl _ _ hr H Kk hk
  · cases h
theorem AscOk.nil {P : Program} {f : Nat} : AscOk P f [] := fun p hp => by cases hp
theorem AscOk.cons {P : Program} {f : Nat} {a : List AV} {r : AV} {l : List (List AV × AV)} (h : ∀ (H : AHeap) (Kk : AV → AHeap → Prop), Kk r H → ACalls P f a H Kk) (hl : AscOk P f l) : AscOk P f ((a, r) :: l) := by
  intro p hp H Kk hk
  rcases List.mem_cons.1 hp with rfl | hp
  · exact h H Kk hk
  · exact hl p hp H Kk hk
/-- the trucks of the example -/
def awT (w : Int) : Tck := ⟨w, 0, 50, 100, []⟩
def awG : List (Int × Int) := (List.range 21).map fun k : Nat => (50 * (k : Int), min (100 * (k : Int)) 1000)
theorem awV {w : Int} (hw : w = 1 ∨ w = 2) : TckV 1000 200 (awT w) := ⟨hw, (by decide : (0 : Int) ≤ 0 ∧ (0 : Int) ≤ 10000), (by decide : (1 : Int) ≤ 50 ∧ (50 : Int) ≤ 100), (by decide : (100 : Int) ≤ 1000), (by decide : (1000 : Int) ≤ 1000 * 50), (by decide : (2 : Int) * 100 ≤ 200), ⟨Nat.zero_le _, fun _ h => by simp [awT] at h, List.Pairwise.nil⟩⟩
theorem aw_way {w : Int} : ∀ m : Nat, m ≤ 20 → waysT 1000 (awT w) m = (50 * (m : Int), min (100 * (m : Int)) 1000)
  | 0, _ => rfl
  | m + 1, h => by
    have ih := aw_way (w := w) m (by omega)
    rw [waysT, ih]
    show (if (0 : Int) < (m : Int) + 1 then (min (50 * (m : Int) + 50) 1000, min (min (100 * (m : Int)) 1000 + 100) 1000) else (50 * (m : Int), min (100 * (m : Int)) 1000)) = _
    rw [if_pos (by omega)]
    refine Prod.ext ?_ ?_
    · show min (50 * (m : Int) + 50) 1000 = 50 * ((m + 1 : Nat) : Int); omega
    · show min (min (100 * (m : Int)) 1000 + 100) 1000 = min (100 * ((m + 1 : Nat) : Int)) 1000; omega
theorem aw_arr {w : Int} : Arr 1000 (awT w) 20 := ⟨by rw [aw_way 20 (Nat.le_refl _)]; rfl, fun k hk => by rw [aw_way k (by omega)]; show 50 * (k : Int) < 1000; omega⟩
theorem aw_n {w : Int} (hw : w = 1 ∨ w = 2) : arrN 1000 (awT w) = 20 := (arrN_arr (awV hw) (by decide)).uniq aw_arr
theorem aw_gon {w : Int} (hw : w = 1 ∨ w = 2) : gonL 1000 (awT w) = awG := by
  unfold gonL goL gonN
  rw [aw_n hw]
  refine List.map_congr_left fun k hk => ?_
  have := List.mem_range.1 hk
  show waysT 1000 (awT w) (0 + k) = _
  rw [Nat.zero_add]
  exact aw_way k (by have : k < 20 - 0 + 1 := this; omega)
abbrev awA (w : Int) : AV := .agg [I w, I 0, I 50, I 100, .vs 2 []]
abbrev awR (w : Int) : AV := .agg [I w, I 0, I 50, I 100, .vs 2 [], I 1000]
theorem awTrk {w : Int} (hw : w = 1 ∨ w = 2) : TrkV 1000 (awT w) w 0 50 100 [] (awG.map sp2) := ⟨rfl, rfl, rfl, by rw [aw_gon hw], ⟨200, awV hw⟩, by decide⟩
abbrev cvK : AV := .agg [I 1000, I 200, I 0, .vs 5 [awA 1, awA 2]]
def cvT : Cvy := ⟨1000, 200, 0, [awT 1, awT 2]⟩
theorem cvTV : CvyV cvT := ⟨by decide, by decide, by decide, by decide, fun t ht => by
  have ht : t ∈ [awT 1, awT 2] := ht
  rcases List.mem_cons.1 ht with rfl | ht
  · exact awV (.inl rfl)
  · rcases List.mem_cons.1 ht with rfl | ht
    · exact awV (.inr rfl)
    · cases ht⟩
def tab25 : List (List AV × AV) := [([cvK], I 0)]
theorem tab25_ok : AscOk Tryz.prog 25 tab25 := .cons (fun H Kk hk => p25 cvT cvTV H hk) .nil
def tab69 : List (List AV × AV) := [([cvK, I 0, B false], awR 1), ([cvK, I 0, B true], awR 1), ([cvK, I 1, B false], awR 2), ([cvK, I 1, B true], awR 2)]
theorem tab69_ok : AscOk Tryz.prog 69 tab69 := by
  refine .cons ?_ (.cons ?_ (.cons ?_ (.cons ?_ .nil)))
  · exact fun H Kk hk => eRideO_ok _ _ rfl H Kk ⟨[awT 1, awT 2], 0, awT 1, ⟨rfl, rfl, rfl, by decide⟩, fun zs hz => by rw [hz]; exact hk⟩
  · exact fun H Kk hk => eRideO_ok _ _ rfl H Kk ⟨[awT 1, awT 2], 0, awT 1, ⟨rfl, rfl, rfl, by decide⟩, fun zs hz => by rw [hz]; exact hk⟩
  · exact fun H Kk hk => eRideO_ok _ _ rfl H Kk ⟨[awT 1, awT 2], 1, awT 2, ⟨rfl, rfl, rfl, by decide⟩, fun zs hz => by rw [hz]; exact hk⟩
  · exact fun H Kk hk => eRideO_ok _ _ rfl H Kk ⟨[awT 1, awT 2], 1, awT 2, ⟨rfl, rfl, rfl, by decide⟩, fun zs hz => by rw [hz]; exact hk⟩
def tab68 (X : List AV) : List (List AV × AV) := [([awR 1], .agg [I 1, I 0, I 50, I 100, .vs 2 [], I 1000, .vs 2 X]), ([awR 2], .agg [I 2, I 0, I 50, I 100, .vs 2 [], I 1000, .vs 2 X])]
theorem tab68_ok : AscOk Tryz.prog 68 (tab68 (awG.map sp2)) := by
  refine .cons ?_ (.cons ?_ .nil)
  · exact fun H Kk hk => eTrk_ok _ _ rfl H Kk ⟨[], 200, ⟨rfl, awV (.inl rfl), by decide⟩, fun zs hz => by rw [hz, show gonL 1000 ⟨1, 0, 50, 100, []⟩ = awG from aw_gon (.inl rfl)]; exact hk⟩
  · exact fun H Kk hk => eTrk_ok _ _ rfl H Kk ⟨[], 200, ⟨rfl, awV (.inr rfl), by decide⟩, fun zs hz => by rw [hz, show gonL 1000 ⟨2, 0, 50, 100, []⟩ = awG from aw_gon (.inr rfl)]; exact hk⟩
theorem aw_hit : ∀ j, j < 10 → ∀ g, awG[j]? = some g → g.2 ≠ 1000 := by
  intro j hj g hg
  unfold awG at hg
  rw [List.getElem?_map, List.getElem?_range (by omega)] at hg
  cases hg
  show min (100 * (j : Int)) 1000 ≠ 1000
  omega
/-- an entry of a table of what is known of the tracks of the example -/
def eAw (X : List AV) (n : Int) : List AV → Option ((AV → Prop) → Prop)
  | [.agg [.lit (.int .i64 w), .lit (.int .i64 s), .lit (.int .i64 lo), .lit (.int .i64 hi), .vs 2 ys, .lit (.int .i64 L), .vs 2 xs]] => some fun K => ∃ _u : Unit, ((w = 1 ∨ w = 2) ∧ s = 0 ∧ lo = 50 ∧ hi = 100 ∧ ys = [] ∧ L = 1000 ∧ xs = X) ∧ K (I n)
  | _ => none
theorem eAw71_ok : ∀ args pt, eAw (awG.map sp2) 10 args = some pt → ∀ (H : AHeap) (Kk : AV → AHeap → Prop), pt (fun r => Kk r H) → ACalls Tryz.prog 71 args H Kk := by
  intro args pt h H Kk hk
  unfold eAw at h
  split at h
  · cases h
    obtain ⟨_, ⟨hw, rfl, rfl, rfl, rfl, rfl, rfl⟩, hk⟩ := hk
    exact p71 awG 10 _ 0 50 100 1000 [] _ rfl rfl (by simp [awG]) ⟨500, rfl⟩ aw_hit (by decide) H hk
  · cases h
theorem eAw52_ok : ∀ args pt, eAw (awG.map sp2) 20 args = some pt → ∀ (H : AHeap) (Kk : AV → AHeap → Prop), pt (fun r => Kk r H) → ACalls Tryz.prog 52 args H Kk := by
  intro args pt h H Kk hk
  unfold eAw at h
  split at h
  · cases h
    obtain ⟨_, ⟨hw, rfl, rfl, rfl, rfl, rfl, rfl⟩, hk⟩ := hk
    exact p52 1000 (awT _) _ _ _ _ _ _ (awTrk hw) H (by rw [aw_n hw]; exact hk)
  · cases h
def awC : Nat → List AV
  | 0 => []
  | 1 => [I 10]
  | _ => [I 10, I 10]
def awH (A : Ar) (n : Int) : Nat → Int
  | 0 => 0
  | 1 => A.max 0 n
  | _ => A.max (A.max 0 n) n
theorem app10 {c : List AV} {j : Nat} (hj : j ≤ 1) (h : c = awC j) {A : Ar} (hA : A = std) : A.app 1 1 8 c 0 j [I 10] (awC (j + 1)) (j + 1) := by
  subst hA h
  have : j = 0 ∨ j = 1 := by omega
  rcases this with rfl | rfl
  · exact app_one (sz := 1) rfl rfl (by omega)
  · exact app_one (sz := 1) rfl rfl (by omega)
set_option maxHeartbeats 4000000 in
theorem p58 (H : AHeap) {Kk : AV → AHeap → Prop} (h : Kk (.agg [I 10, I 20]) H) : ACalls Tryz.prog 58 [cvK] H Kk := by
  refine (fun q => pureF (by rfl) (by rfl) q H h) ?_
  clear h
  intro Kk h
  have e71 := eAw71_ok
  have e52 := eAw52_ok
  have e68 := tab68_ok
  obtain ⟨X, hX⟩ : ∃ X, X = awG.map sp2 := ⟨_, rfl⟩
  rw [← hX] at e71 e52 e68
  clear hX
  obtain ⟨F, hF⟩ : ∃ F, F = Frees 0 Kk := ⟨_, rfl⟩
  rw [← hF]
  obtain ⟨A, hA⟩ : ∃ A, A = std := ⟨_, rfl⟩
  have hsg : ∀ g, A.sg g g := by subst hA; exact fun _ => rfl
  refine go58 rfl (SGo_run hA ⟨[], [], (69, eAsc tab69) :: (68, eAsc (tab68 X)) :: (71, eAw X 10) :: (52, eAw X 20) :: [], []⟩ (.cons (eAsc_ok tab69_ok) (.cons (eAsc_ok e68) (.cons e71 (.cons e52 .nil)))) .nil 200 fun T TD hT hTD => ?_)
  cbv
  rw [hT]
  refine AGo_nilms 4 1 rfl ?_
  refine AGo_nilms 5 1 rfl ?_
  refine AGo_upE [1, 2, 3, 15] 2 (fun _ (_ : Unit) => True) (fun j _ i => [(16, I i), (4, .ms 1 3 j 0 j), (5, .ms 1 4 j 0 j)]) (fun j _ => [.own 0 [I 1000, I 200, I 0, .vs 5 [awA 1, awA 2]], .own 0 [I 0, I 0], .own 0 [I 0, I (awH A 20 j)], .own j (awC j), .own j (awC j)]) () trivial ⟨rfl, rfl, rfl, trivial⟩ (.inl rfl) fun j _ i hi2 hj hP Bk hB => ?_
  have hc : j = 0 ∨ j = 1 ∨ j = 2 := by omega
  rcases hc with rfl | rfl | rfl
  · have hi3 : i = 0 := hi2
    subst hi3
    have hl4 : A.lt 0 (A.vlen [awA 1, awA 2]) = true := by subst hA; rfl
    have hnx : A.add .i64 0 1 = iLen 1 := by subst hA; rfl
    refine SGo_run hA ⟨[3, 4], [1003, 1004], (69, eAsc tab69) :: (68, eAsc (tab68 X)) :: (71, eAw X 10) :: (52, eAw X 20) :: [], []⟩ (.cons (eAsc_ok tab69_ok) (.cons (eAsc_ok e68) (.cons e71 (.cons e52 .nil)))) .nil 200 fun T TD hT hTD => ?_
    cbv
    split <;> cbv
    rotate_left
    · rename_i hz; exact Bool.noConfusion (hl4.symm.trans hz)
    repeat (first | (refine And.intro (hsg _) (Exists.intro _ (Exists.intro _ (And.intro (app10 (j := 0) (by omega) rfl hA) (And.intro rfl ?_)))); cbv) | (refine Exists.intro () (And.intro ⟨.inl rfl, rfl, rfl, rfl, rfl, rfl, rfl⟩ ?_); cbv) | (refine And.intro (by subst hA; simp [std, Keep, SubH, ResK]; done) ?_; cbv))
    exact hB () _ _ (by decide) trivial ⟨congrArg I hnx, rfl, rfl, trivial⟩ ⟨rfl, rfl, rfl, rfl, trivial⟩ (hf_drop [_, _] rfl (Nat.zero_le _) rfl)
  · have hi3 : i = 1 := hi2
    subst hi3
    have hl4 : A.lt 1 (A.vlen [awA 1, awA 2]) = true := by subst hA; rfl
    have hnx : A.add .i64 1 1 = iLen 2 := by subst hA; rfl
    refine SGo_run hA ⟨[3, 4], [1003, 1004], (69, eAsc tab69) :: (68, eAsc (tab68 X)) :: (71, eAw X 10) :: (52, eAw X 20) :: [], []⟩ (.cons (eAsc_ok tab69_ok) (.cons (eAsc_ok e68) (.cons e71 (.cons e52 .nil)))) .nil 200 fun T TD hT hTD => ?_
    cbv
    split <;> cbv
    rotate_left
    · rename_i hz; exact Bool.noConfusion (hl4.symm.trans hz)
    repeat (first | (refine And.intro (hsg _) (Exists.intro _ (Exists.intro _ (And.intro (app10 (j := 1) (by omega) rfl hA) (And.intro rfl ?_)))); cbv) | (refine Exists.intro () (And.intro ⟨.inr rfl, rfl, rfl, rfl, rfl, rfl, rfl⟩ ?_); cbv) | (refine And.intro (by subst hA; simp [std, Keep, SubH, ResK]; done) ?_; cbv))
    exact hB () _ _ (by decide) trivial ⟨congrArg I hnx, rfl, rfl, trivial⟩ ⟨rfl, rfl, rfl, rfl, trivial⟩ (hf_drop [_, _] rfl (Nat.zero_le _) rfl)
  · have hi3 : i = 2 := hi2
    subst hi3
    have hl4 : A.lt 2 (A.vlen [awA 1, awA 2]) = false := by subst hA; rfl
    refine SGo_run hA ⟨[3, 4], [1003, 1004], [], []⟩ .nil .nil 200 fun T TD hT hTD => ?_
    cbv
    split <;> cbv
    · rename_i hz; exact Bool.noConfusion (hl4.symm.trans hz)
    rw [hT]
    refine AGo_upE [1, 2, 3, 4, 5] 0 (fun _ (_ : Unit) => True) (fun j _ i => [(9, I i)]) (fun j _ => [.own 0 [I 1000, I 200, I 0, .vs 5 [awA 1, awA 2]], .own 0 [I 0, I 0], .own 0 [I 0, I (awH A 20 2)], .own 2 [I 10, I 10], .own 2 [I 10, I 10]]) () trivial ⟨rfl, trivial⟩ (.inl rfl) fun j1 _ i1 hi1 hj1 hP1 Bk1 hB1 => ?_
    have hc1 : j1 = 0 := by omega
    subst hc1
    have hi3 : i1 = 0 := hi1
    subst hi3
    have hl5 : ∀ n, 0 ≤ n → A.lt 0 (A.min 0 n) = false := by subst hA; intro n hn; show decide ((0 : Int) < iMin 0 n) = false; rw [iMinE, decide_eq_false_iff_not]; omega
    refine SGo_run hA ⟨[], [], [], []⟩ .nil .nil 200 fun T TD hT hTD => ?_
    cbv
    split <;> cbv
    · rename_i hz; exact Bool.noConfusion ((hl5 _ (by subst hA; show (0 : Int) ≤ iLen 2; decide)).symm.trans hz)
    rw [hT]
    refine AGo_upE [2, 3, 68, 69] 2 (fun _ (_ : Unit) => True) (fun j _ i => [(70, I i)]) (fun j _ => [.own 0 [I 1000, I 200, I 0, .vs 5 [awA 1, awA 2]], .own 0 [I 0, I 0], .own 0 [I (awH A 10 j), I (awH A 20 2)], .own 2 [I 10, I 10], .own 2 [I 10, I 10]]) () trivial ⟨rfl, trivial⟩ (.inl rfl) fun j2 _ i2 hi2 hj2 hP2 Bk2 hB2 => ?_
    have hc2 : j2 = 0 ∨ j2 = 1 ∨ j2 = 2 := by omega
    rcases hc2 with rfl | rfl | rfl
    · have hi3 : i2 = 0 := hi2
      subst hi3
      have hl6 : A.lt 0 (A.len 2) = true := by subst hA; rfl
      have hnx : A.add .i64 0 1 = iLen 1 := by subst hA; rfl
      refine SGo_run hA ⟨[], [], [], []⟩ .nil .nil 200 fun T TD hT hTD => ?_
      cbv
      split <;> cbv
      rotate_left
      · rename_i hz; exact Bool.noConfusion (hl6.symm.trans hz)
      exact hB2 () _ _ (by decide) trivial ⟨congrArg I hnx, trivial⟩ ⟨rfl, rfl, rfl, rfl, trivial⟩ (.inl rfl)
    · have hi3 : i2 = 1 := hi2
      subst hi3
      have hl6 : A.lt 1 (A.len 2) = true := by subst hA; rfl
      have hnx : A.add .i64 1 1 = iLen 2 := by subst hA; rfl
      refine SGo_run hA ⟨[], [], [], []⟩ .nil .nil 200 fun T TD hT hTD => ?_
      cbv
      split <;> cbv
      rotate_left
      · rename_i hz; exact Bool.noConfusion (hl6.symm.trans hz)
      exact hB2 () _ _ (by decide) trivial ⟨congrArg I hnx, trivial⟩ ⟨rfl, rfl, rfl, rfl, trivial⟩ (.inl rfl)
    · have hi3 : i2 = 2 := hi2
      subst hi3
      have hl6 : A.lt 2 (A.len 2) = false := by subst hA; rfl
      refine SGo_run hA ⟨[], [], [], []⟩ .nil .nil 200 fun T TD hT hTD => ?_
      cbv
      split <;> cbv
      · rename_i hz; exact Bool.noConfusion (hl6.symm.trans hz)
      rw [hF]
      subst hA
      exact Frees.drop0 h rfl
theorem p34 (H : AHeap) {Kk : AV → AHeap → Prop} (h : Kk (.tup [.agg [I 10, I 20], I 0]) H) : ACalls Tryz.prog 34 [cvK] H Kk := by
  refine (fun q => pureC (by rfl) (by rfl) q H h) ?_
  clear h
  intro Kk h
  obtain ⟨A, hA⟩ : ∃ A, A = std := ⟨_, rfl⟩
  have hn : A.ne 0 0 = false := by subst hA; rfl
  refine go34 rfl (SGo_run hA ⟨[], [], (25, eAsc tab25) :: (58, eAsc [([cvK], .agg [I 10, I 20])]) :: [], []⟩ (.cons (eAsc_ok tab25_ok) (.cons (eAsc_ok (.cons (fun H Kk hk => p58 H hk) .nil)) .nil)) .nil 200 fun T TD hT hTD => ?_)
  cbv
  split <;> cbv
  · rename_i hz; exact Bool.noConfusion (hn.symm.trans hz)
  exact h
theorem Wk.vs {sz : Nat} {xs ys : List AV} (h : WkL xs ys) : Wk (.vs sz xs) (.vs sz ys) := fun st v hv => by
  simp only [RelV] at hv ⊢
  obtain ⟨a, cap, us, h1, h2, h3, h4, h5⟩ := hv
  have h6 := h.rel h3
  have h7 := h3.length
  have h8 := h6.length
  have h9 : ys.length = xs.length := by omega
  exact ⟨a, cap, us, by rw [h9]; exact h1, by rw [h9]; exact h2, h6, h4, fun hne => h5 fun he => hne (List.length_eq_zero_iff.1 (by rw [h9, he]; rfl))⟩
abbrev cvN : AV := .agg [I 1000, I 200, I 0, .vs 5 [.agg [I 1, I 0, I 50, I 100, .lit (.slice none 0 0)], .agg [I 2, I 0, I 50, I 100, .lit (.slice none 0 0)]]]
theorem p12 (H : AHeap) {Kk : AV → AHeap → Prop} (h : Kk (B true) H) : ACalls Tryz.prog 12 [] H Kk := by
  have e34 : AscOk Tryz.prog 34 [([cvN], .tup [.agg [I 10, I 20], I 0])] := .cons (fun H Kk hk => (p34 H hk).wk ⟨Wk.agg ⟨Wk.rfl, Wk.rfl, Wk.rfl, Wk.vs ⟨Wk.agg ⟨Wk.rfl, Wk.rfl, Wk.rfl, Wk.rfl, Wk.nil, trivial⟩, Wk.agg ⟨Wk.rfl, Wk.rfl, Wk.rfl, Wk.rfl, Wk.nil, trivial⟩, trivial⟩, trivial⟩, trivial⟩) .nil
  refine (fun q => pureC (by rfl) (by rfl) q H h) ?_
  clear h
  intro Kk h
  have hA : std = std := rfl
  refine go12 rfl (SGo_run hA ⟨[], [], (34, eAsc [([cvN], .tup [.agg [I 10, I 20], I 0])]) :: (35, eAsc [([], B true)]) :: [], []⟩ (.cons (eAsc_ok e34) (.cons (eAsc_ok (.cons (fun H Kk hk => p35 H hk) .nil)) .nil)) .nil 200 fun T TD hT hTD => ?_)
  cbv
  exact h
def eAwk4 : List AV → Option ((AV → Prop) → Prop)
  | [] => some fun K => K (B true)
  | _ => none
theorem eAwk4_ok : ∀ args pt, eAwk4 args = some pt → ∀ (H : AHeap) (Kk : AV → AHeap → Prop), pt (fun r => Kk r H) → ACalls Tryz.prog 12 args H Kk := by
  intro args pt h H Kk hk
  unfold eAwk4 at h
  split at h
  · cases h; exact p12 H hk
  · cases h
end Go.Sas
