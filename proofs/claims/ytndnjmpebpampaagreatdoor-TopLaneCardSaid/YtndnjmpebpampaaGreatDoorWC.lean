/-
Trucks: between which numbers lies how far one has gone, minute by minute: contract of the reference's function.
Trucks: when one has arrived: contracts of the reference's functions.
Convoys: when all have arrived: contract of the reference's function; what is accepted.
Conditions: none.
-/
import Derived.Test.YtndnjmpebpampaaGreatDoorWA
import Derived.Test.YtndnjmpebpampaaGreatDoorP7
import Derived.Test.YtndnjmpebpampaaGreatDoorP8
import Derived.Test.YtndnjmpebpampaaGreatDoorWB
set_option linter.unusedVariables false
set_option linter.unusedSimpArgs false
namespace Go.Sas
open Go.Proofs
set_option maxRecDepth 100000
abbrev sp2 (x : Int × Int) : AV := .agg [I x.1, I x.2]
abbrev sp2C (x : Int × Int) : List AV := [I x.1, I x.2]
theorem Elems_sp2 (l : List (Int × Int)) : Elems 2 (l.map sp2) (l.flatMap sp2C) := Elems_map (f := sp2) (g := sp2C) (sz := 2) (fun _ => rfl) (fun _ => rfl) (fun _ => rfl) l
theorem sp2C_len : ∀ l : List (Int × Int), (l.flatMap sp2C).length = l.length * 2
  | [] => rfl
  | x :: l => by rw [List.flatMap_cons, List.length_append, sp2C_len l, List.length_cons]; simp; omega
theorem sp2C_nid : ∀ l : List (Int × Int), AV.nidL (l.flatMap sp2C) = true
  | [] => rfl
  | x :: l => by simpa [AV.nidL, AV.nid, List.flatMap_cons] using sp2C_nid l
theorem TckV.hldS {L gap : Int} {t : Tck} (h : TckV L gap t) (hL : L ≤ 100000) : HldS t.hs := fun x hx => by have := (h.hs.all x hx).1; omega
/-- before a minute -/
def wPre (L : Int) (t : Tck) : Nat → Int × Int
  | 0 => (0, 0)
  | m + 1 => waysT L t m
/-- minute by minute -/
def waysL (L : Int) (t : Tck) (n : Nat) : List (Int × Int) := (List.range n).map (waysT L t)
theorem waysL_succ {L : Int} {t : Tck} {n : Nat} : waysL L t (n + 1) = waysL L t n ++ [waysT L t n] := by unfold waysL; rw [List.range_succ, List.map_append]; rfl
theorem waysL_len {L : Int} {t : Tck} {n : Nat} : (waysL L t n).length = n := by simp [waysL]
theorem wPre_go {L gap : Int} {t : Tck} (hV : TckV L gap t) (hL : 1 ≤ L) {j : Nat} (hj : t.st < (j : Int)) : waysT L t j = (min ((wPre L t j).1 + t.lo) (stopG L t.way (wPre L t j).1 ((j : Int) - 1) t.hs), min ((wPre L t j).2 + t.hi) (stopG L t.way (wPre L t j).2 ((j : Int) - 1) t.hs)) := by
  have h0 := hV.st
  obtain ⟨k, rfl⟩ : ∃ k, j = k + 1 := ⟨j - 1, by omega⟩
  have hb := waysT_bnd hV hL k
  have e : ((k + 1 : Nat) : Int) - 1 = (k : Int) := by omega
  simp only [wPre, waysT]
  rw [if_pos (by omega), e, stopG_eq (m := (k : Int)) (by unfold stopT at hb; omega), stopG_eq (m := (k : Int)) (by unfold stopT at hb; omega)]
  rfl
theorem wPre_stay {L : Int} {t : Tck} {j : Nat} (hj : ¬ t.st < (j : Int)) : waysT L t j = wPre L t j := by
  cases j with
  | zero => rfl
  | succ k =>
    simp only [wPre, waysT]
    rw [if_neg (by omega)]
theorem wPre_bnd {L gap : Int} {t : Tck} (hV : TckV L gap t) (hL : 1 ≤ L) (j : Nat) : 0 ≤ (wPre L t j).1 ∧ (wPre L t j).1 ≤ (wPre L t j).2 ∧ (wPre L t j).2 ≤ L := by
  cases j with
  | zero => simp only [wPre]; omega
  | succ k => have h1 := waysT_bnd hV hL k; have h2 := stopT_bnd hV hL k; simp only [wPre]; omega
set_option maxHeartbeats 4000000 in
theorem p43 (L gp f : Int) (ts : List AV) (t : Tck) (n : Nat) (hV : TckV L gp t) (hL : 1 ≤ L ∧ L ≤ 100000) (hn : n ≤ 100000) (H : AHeap) {Kk : AV → AHeap → Prop} (h : Kk (.vs 2 ((waysL L t (n + 1)).map sp2)) H) :
    ACalls Tryz.prog 43 [cvyV L gp f (.vs 5 ts), tckV t.way t.st t.lo t.hi (.vs 2 (t.hs.map hdV)), I n] H Kk := by
  refine (fun q => pureF (by rfl) (by rfl) q H h) ?_
  clear h
  intro Kk h
  have hS := hV.hldS hL.2
  have hl8 := hV.hs.n
  have hlo := hV.lo
  have hhi := hV.hi
  have hst := hV.st
  obtain ⟨w, s, lo, hi, hs⟩ := t
  dsimp only at hS hl8 hlo hhi hst ⊢
  obtain ⟨ys, hys⟩ : ∃ ys, ys = hs.map hdV := ⟨_, rfl⟩
  rw [← hys]
  obtain ⟨t, ht⟩ : ∃ t : Tck, t = ⟨w, s, lo, hi, hs⟩ := ⟨_, rfl⟩
  rw [← ht] at h hV
  have tw : t.way = w := by rw [ht]
  have ts1 : t.st = s := by rw [ht]
  have tl : t.lo = lo := by rw [ht]
  have th : t.hi = hi := by rw [ht]
  have ths : t.hs = hs := by rw [ht]
  clear ht
  obtain ⟨A, hA⟩ : ∃ A, A = std := ⟨_, rfl⟩
  have hll : ∀ x y, A.lt x y = decide (x < y) := by subst hA; intro x y; rfl
  have hle : ∀ x y, A.le x y = decide (x ≤ y) := by subst hA; intro x y; rfl
  have hsg : ∀ g, A.sg g g := by subst hA; exact fun _ => rfl
  obtain ⟨N, hN⟩ : ∃ N : Int, N = iLen n := ⟨_, rfl⟩
  rw [show ((n : Nat) : Int) = iLen n from rfl, ← hN]
  obtain ⟨F, hF⟩ : ∃ F, F = Frees 0 Kk := ⟨_, rfl⟩
  rw [← hF]
  refine go43 rfl (SGo_run hA ⟨[], [], [], []⟩ .nil .nil 200 fun T TD hT hTD => ?_)
  cbv
  rw [hT]
  refine AGo_nilms 7 2 rfl ?_
  refine AGo_upE [0, 1, 2, 3, 4, 8] (n + 1) (fun _ (_ : Unit) => True) (fun j _ i => [(9, I i), (7, .ms 2 3 j 0 j)]) (fun j _ => [.own 0 [I L, I gp, I f, .vs 5 ts], .own 0 [I w, I s, I lo, I hi, .vs 2 ys], .own 0 [I (wPre L t j).1, I (wPre L t j).2], .own j ((waysL L t j).flatMap sp2C)]) () trivial ⟨rfl, rfl, trivial⟩ (.inl rfl) fun j _ i hi2 hj hP Bk hB => ?_
  have hlt : A.le i N = decide (j < n + 1) := by rw [hle, hi2, hN, Bool.eq_iff_iff]; unfold iLen; simp only [decide_eq_true_eq]; omega
  have hadd : ∀ N, j < N → N ≤ 9223372036854775807 → A.add .i64 i 1 = iLen (j + 1) := fun N hj hN => by subst hA; exact add_one hi2 hj hN
  have hsub : A.sub .i64 i 1 = i - 1 := by subst hA; exact iSub_id (by rw [hi2]; unfold iLen; omega) (by rw [hi2]; unfold iLen; omega)
  have hpb := wPre_bnd hV hL.1 j
  have hgo := wPre_go hV hL.1 (j := j)
  have hsy := wPre_stay (L := L) (t := t) (j := j)
  rw [tw, tl, th, ths, ts1] at hgo
  rw [ts1] at hsy
  have hnx : wPre L t (j + 1) = waysT L t j := rfl
  have hwl := waysL_succ (L := L) (t := t) (n := j)
  have hwn := waysL_len (L := L) (t := t) (n := j)
  obtain ⟨⟨g1, g2⟩, hg⟩ : ∃ g, g = wPre L t j := ⟨_, rfl⟩
  rw [← hg] at hgo hsy hpb ⊢
  obtain ⟨⟨u1, u2⟩, hu⟩ : ∃ g, g = waysT L t j := ⟨_, rfl⟩
  rw [← hu] at hgo hsy hnx hwl
  obtain ⟨cc, hcc⟩ : ∃ c, c = (waysL L t j).flatMap sp2C := ⟨_, rfl⟩
  rw [← hcc]
  have hc2 : (waysL L t (j + 1)).flatMap sp2C = cc ++ [I u1, I u2] := by rw [hwl, hcc]; simp
  dsimp only at hgo hpb ⊢
  have happ : A.app 2 2 16 cc 0 j [.agg [I u1, I u2]] (cc ++ [I u1, I u2]) (j + 1) := by subst hA; exact app_one (by rw [hcc, sp2C_len, hwn]) rfl (by omega)
  obtain ⟨c3, hc3⟩ : ∃ c, c = cc ++ [I u1, I u2] := ⟨_, rfl⟩
  rw [← hc3] at happ hc2
  have hsi : A.lt s i = decide (s < (j : Int)) := by rw [hll, hi2]; rfl
  have hend : HFits 0 [(9, I (iLen (j + 1))), (7, .ms 2 3 (j + 1) 0 (j + 1))] [] [] → True := fun _ => trivial
  clear hend
  refine SGo_run hA ⟨[3], [], (36, eNextR) :: [], []⟩ (.cons eNextR_ok .nil) .nil 200 fun T TD hT hTD => ?_
  cbv
  split <;> cbv
  · rename_i hk0
    have hk1 : j < (n + 1) := by have hz := hlt.symm.trans hk0; simpa using hz
    clear hk0
    split <;> cbv
    · rename_i hz
      have hz : s < (j : Int) := by simpa using hsi.symm.trans hz
      have hgo := hgo hz
      refine Exists.intro hs (And.intro ⟨hys, ⟨⟨by omega, by omega⟩, hS, by omega⟩, ⟨by omega, by omega⟩, by omega, by omega⟩ ?_)
      intro q1 hq1; cbv
      refine Exists.intro hs (And.intro ⟨hys, ⟨⟨by omega, by omega⟩, hS, by omega⟩, ⟨by omega, by omega⟩, by omega, by omega⟩ ?_)
      intro q2 hq2; cbv
      have hm : A.sub .i64 i 1 = (j : Int) - 1 := by rw [hsub, hi2]; rfl
      have e1 : q1 = u1 := by rw [hq1]; show min _ (stopG L w g1 (A.sub .i64 i 1) hs) = _; rw [hm]; exact (congrArg Prod.fst hgo).symm
      have e2 : q2 = u2 := by rw [hq2]; show min _ (stopG L w g2 (A.sub .i64 i 1) hs) = _; rw [hm]; exact (congrArg Prod.snd hgo).symm
      clear hq1 hq2
      subst e1 e2
      refine And.intro (hsg _) (Exists.intro c3 (Exists.intro (j + 1) (And.intro happ (And.intro rfl ?_)))); cbv
      refine hB () _ _ hk1 trivial ⟨congrArg I (hadd _ hk1 (by omega)), rfl, trivial⟩ ⟨rfl, rfl, rfl, rfl, rfl, rfl, trivial⟩ (.inl (by rw [hnx, hc2]))
    · rename_i hz
      have hz : ¬ s < (j : Int) := by simpa using hsi.symm.trans hz
      have hsy := hsy hz
      cases hsy
      refine And.intro (hsg _) (Exists.intro c3 (Exists.intro (j + 1) (And.intro happ (And.intro rfl ?_)))); cbv
      refine hB () _ _ hk1 trivial ⟨congrArg I (hadd _ hk1 (by omega)), rfl, trivial⟩ ⟨rfl, rfl, rfl, rfl, rfl, rfl, trivial⟩ (.inl (by rw [hnx, hc2]))
  · rename_i hk0
    have hk1 : ¬ j < (n + 1) := by have hz := hlt.symm.trans hk0; simpa using hz
    clear hk0
    have hjn : j = n + 1 := by omega
    subst hjn
    rw [hF]
    have hxl : ((waysL L t (n + 1)).map sp2).length = n + 1 := by rw [List.length_map, hwn]
    obtain ⟨xs, hxs⟩ : ∃ xs, xs = (waysL L t (n + 1)).map sp2 := ⟨_, rfl⟩
    have hEl : Elems 2 xs cc := by rw [hxs, hcc]; exact Elems_sp2 _
    rw [← hxs] at h hxl
    refine Frees.frz 3 (n + 1) 2 xs rfl hEl ?_
    have e1 : AV.frz 3 (n + 1) 2 xs (.ms 2 3 (n + 1) 0 (n + 1)) = .vs 2 xs := frz_self hxl
    show Frees 0 Kk (AV.frz 3 (n + 1) 2 xs (.ms 2 3 (n + 1) 0 (n + 1))) _
    rw [e1]
    exact Frees.drop0 h rfl
def eWaysR : List AV → Option ((AV → Prop) → Prop)
  | [.agg [.lit (.int .i64 L), .lit (.int .i64 gp), .lit (.int .i64 _), .vs 5 _], .agg [.lit (.int .i64 w), .lit (.int .i64 s), .lit (.int .i64 lo), .lit (.int .i64 hi), .vs 2 ys], .lit (.int .i64 N)] =>
    some fun K => ∃ (hs : List Hld) (n : Nat), (ys = hs.map hdV ∧ N = iLen n ∧ TckV L gp ⟨w, s, lo, hi, hs⟩ ∧ (1 ≤ L ∧ L ≤ 100000) ∧ n ≤ 100000) ∧ ∀ zs, zs = (waysL L ⟨w, s, lo, hi, hs⟩ (n + 1)).map sp2 → K (.vs 2 zs)
  | _ => none
theorem eWaysR_ok : ∀ args pt, eWaysR args = some pt → ∀ (H : AHeap) (Kk : AV → AHeap → Prop), pt (fun r => Kk r H) → ACalls Tryz.prog 43 args H Kk := by
  intro args pt h H Kk hk
  unfold eWaysR at h
  split at h
  · cases h
    obtain ⟨hs, n, ⟨rfl, rfl, h1, h2, h4⟩, h3⟩ := hk
    exact p43 _ _ _ _ ⟨_, _, _, _, hs⟩ n h1 h2 h4 H (h3 _ rfl)
  · cases h
end Go.Sas
namespace Go.Sas
open Go.Proofs
set_option maxRecDepth 100000
theorem waysT_lt {L gap : Int} {t : Tck} (hV : TckV L gap t) (hL : 1 ≤ L) {k : Nat} (h : ∀ j, j < k → (waysT L t j).1 < L) : k ≤ 11001 := by
  rcases Nat.lt_or_ge 11001 k with h1 | h1
  · have := h 11001 h1
    rw [waysT_end hV hL (Nat.le_refl _)] at this; omega
  · exact h1
set_option maxHeartbeats 8000000 in
theorem p66 (L gp f : Int) (ts : List AV) (t : Tck) (hV : TckV L gp t) (hL : 1 ≤ L ∧ L ≤ 100000) (H : AHeap) {Kk : AV → AHeap → Prop} (h : ∀ (a : Int) (n : Nat), Arr L t n → Kk (.agg [I a, I (iLen n)]) H) :
    ACalls Tryz.prog 66 [cvyV L gp f (.vs 5 ts), tckV t.way t.st t.lo t.hi (.vs 2 (t.hs.map hdV))] H Kk := by
  have h2 : ACalls Tryz.prog 66 [cvyV L gp f (.vs 5 ts), tckV t.way t.st t.lo t.hi (.vs 2 (t.hs.map hdV))] [] fun r H' => ∃ (a : Int) (n : Nat), Arr L t n ∧ r = .agg [I a, I (iLen n)] ∧ H' = [] := by
    clear h Kk
    obtain ⟨Kk, hKk⟩ : ∃ Kk : AV → AHeap → Prop, Kk = fun r H' => ∃ (a : Int) (n : Nat), Arr L t n ∧ r = .agg [I a, I (iLen n)] ∧ H' = [] := ⟨_, rfl⟩
    rw [← hKk]
    have h : ∀ (a : Int) (n : Nat), Arr L t n → Kk (.agg [I a, I (iLen n)]) [] := fun a n hn => by rw [hKk]; exact ⟨a, n, hn, rfl, rfl⟩
    clear hKk
    have hS := hV.hldS hL.2
    have hl8 := hV.hs.n
    have hlo := hV.lo
    have hhi := hV.hi
    have hst := hV.st
    obtain ⟨w, s, lo, hi, hs⟩ := t
    dsimp only at hS hl8 hlo hhi hst ⊢
    obtain ⟨ys, hys⟩ : ∃ ys, ys = hs.map hdV := ⟨_, rfl⟩
    rw [← hys]
    obtain ⟨t, ht⟩ : ∃ t : Tck, t = ⟨w, s, lo, hi, hs⟩ := ⟨_, rfl⟩
    rw [← ht] at h hV
    have tw : t.way = w := by rw [ht]
    have ts1 : t.st = s := by rw [ht]
    have tl : t.lo = lo := by rw [ht]
    have th : t.hi = hi := by rw [ht]
    have ths : t.hs = hs := by rw [ht]
    clear ht
    have hst0 : wPre L t s.toNat = (0, 0) := by
      have : waysT L t s.toNat = (0, 0) := waysT_wait (by rw [ts1]; omega)
      rw [← wPre_stay (by rw [ts1]; omega)]; exact this
    have hs0 : ∀ j, j < s.toNat → (waysT L t j).1 < L := fun j hj => by rw [waysT_wait (by rw [ts1]; omega)]; show (0 : Int) < L; omega
    have hsn : s = iLen s.toNat := by unfold iLen; omega
    obtain ⟨A, hA⟩ : ∃ A, A = std := ⟨_, rfl⟩
    have hll : ∀ x y, A.lt x y = decide (x < y) := by subst hA; intro x y; rfl
    have hee : ∀ x y, A.eq x y = decide (x = y) := by subst hA; intro x y; exact iEqd _ _
    refine go66 rfl (SGo_run hA ⟨[], [], [], []⟩ .nil .nil 200 fun T TD hT hTD => ?_)
    cbv
    rw [hT]
    refine AGo_whileE (σ := Int × Nat × Int × Int × Int) [0, 1, 2, 3, 4, 5, 6] (fun x => if x.2.2.1 < 0 then (if x.2.1 ≤ 11002 then 11004 - x.2.1 else 1) else 0) (fun x => (x.2.2.1 = -1 ∧ (x.2.2.2.1, x.2.2.2.2) = wPre L t x.2.1 ∧ s.toNat ≤ x.2.1 ∧ ∀ j, j < x.2.1 → (waysT L t j).1 < L) ∨ ∃ n : Nat, x.2.2.1 = iLen n ∧ (waysT L t n).1 = L ∧ ∀ j, j < n → (waysT L t j).1 < L)
      (fun x => [(7, I (iLen x.2.1))]) (fun x => [.own 0 [I L, I gp, I f, .vs 5 ts], .own 0 [I w, I s, I lo, I hi, .vs 2 ys], .own 0 [I 0, I 0], .own 0 [I x.1, I x.2.2.1], .own 0 [I x.2.2.2.1, I x.2.2.2.2]]) (-1, s.toNat, -1, 0, 0) (.inl ⟨rfl, hst0.symm, Nat.le_refl _, hs0⟩) ⟨congrArg I hsn, trivial⟩ (.inl rfl) fun x hP Bk hB => ?_
    obtain ⟨a, k, b, g1, g2⟩ := x
    dsimp only at hP ⊢
    rcases hP with ⟨rfl, hg, hsk, hlt⟩ | ⟨n, rfl, hn1, hn2⟩
    · have hk := waysT_lt hV hL.1 hlt
      have hpb := wPre_bnd hV hL.1 k
      have hgo := wPre_go hV hL.1 (j := k)
      have hsy := wPre_stay (L := L) (t := t) (j := k)
      rw [tw, tl, th, ths, ts1] at hgo
      rw [ts1] at hsy
      rw [← hg] at hgo hsy hpb
      have hwu0 : wPre L t (k + 1) = waysT L t k := rfl
      obtain ⟨⟨u1, u2⟩, hu⟩ : ∃ g, g = waysT L t k := ⟨_, rfl⟩
      have hwx : (waysT L t k).1 = u1 := by rw [← hu]
      have hub := waysT_bnd hV hL.1 k
      have hus := stopT_bnd hV hL.1 k
      rw [← hu] at hgo hsy hwu0 hub
      dsimp only at hgo hpb hub
      have hwu : (u1, u2) = wPre L t (k + 1) := hwu0.symm
      have hnx : ¬ u1 = L → ∀ j, j < k + 1 → (waysT L t j).1 < L := fun hne j hj => by
        rcases Nat.lt_or_ge j k with h1 | h1
        · exact hlt j h1
        · rw [show j = k by omega, hwx]; omega
      clear hwu0 hu hg hus
      obtain ⟨i, hi2⟩ : ∃ i, i = iLen k := ⟨_, rfl⟩
      rw [← hi2]
      have hadd : A.add .i64 i 1 = iLen (k + 1) := by subst hA; exact add_one hi2 (N := 20000) (by omega) (by omega)
      have hsub : A.sub .i64 i 1 = (k : Int) - 1 := by subst hA; rw [hi2]; exact iSub_id (by unfold iLen; omega) (by unfold iLen; omega)
      have hsi : A.lt s i = decide (s < (k : Int)) := by rw [hll, hi2]; rfl
      have hneg : A.lt (-1) 0 = true := by rw [hll]; rfl
      have hm0 : (if (-1 : Int) < 0 then (if k + 1 ≤ 11002 then 11004 - (k + 1) else 1) else 0) < (if (-1 : Int) < 0 then (if k ≤ 11002 then 11004 - k else 1) else 0) := by
        rw [if_pos (by omega), if_pos (by omega), if_pos (by omega), if_pos (by omega)]; omega
      have hm1 : (if i < 0 then (if k + 1 ≤ 11002 then 11004 - (k + 1) else 1) else 0) < (if (-1 : Int) < 0 then (if k ≤ 11002 then 11004 - k else 1) else 0) := by
        rw [if_neg (by rw [hi2]; unfold iLen; omega), if_pos (by omega), if_pos (by omega)]; omega
      refine SGo_run hA ⟨[], [], (36, eNextR) :: [], []⟩ (.cons eNextR_ok .nil) .nil 200 fun T TD hT hTD => ?_
      cbv
      split <;> cbv
      · rename_i hz
        clear hz
        split <;> cbv
        · rename_i hz
          have hz : s < (k : Int) := by simpa using hsi.symm.trans hz
          have hgo := hgo hz
          refine Exists.intro hs (And.intro ⟨hys, ⟨⟨by omega, by omega⟩, hS, by omega⟩, ⟨by omega, by omega⟩, by omega, by omega⟩ ?_)
          intro q1 hq1; cbv
          refine Exists.intro hs (And.intro ⟨hys, ⟨⟨by omega, by omega⟩, hS, by omega⟩, ⟨by omega, by omega⟩, by omega, by omega⟩ ?_)
          intro q2 hq2; cbv
          have e1 : q1 = u1 := by rw [hq1]; show min _ (stopG L w g1 (A.sub .i64 i 1) hs) = _; rw [hsub]; exact (congrArg Prod.fst hgo).symm
          have e2 : q2 = u2 := by rw [hq2]; show min _ (stopG L w g2 (A.sub .i64 i 1) hs) = _; rw [hsub]; exact (congrArg Prod.snd hgo).symm
          clear hq1 hq2
          subst e1 e2
          split <;> cbv
          · rename_i hz
            have hz1 : q2 = L := by simpa using (hee _ _).symm.trans hz
            clear hz
            split <;> cbv
            · rename_i hz
              clear hz
              split <;> cbv
              · rename_i hz
                have hz3 : q1 = L := by simpa using (hee _ _).symm.trans hz
                exact hB (i, k + 1, i, q1, q2) _ _ hm1 (.inr ⟨k, hi2, hwx.trans hz3, hlt⟩) ⟨congrArg I hadd, trivial⟩ ⟨rfl, rfl, rfl, rfl, rfl, rfl, rfl, trivial⟩ (.inl rfl)
              · rename_i hz
                have hz3 : ¬ q1 = L := by simpa using (hee _ _).symm.trans hz
                exact hB (i, k + 1, -1, q1, q2) _ _ hm0 (.inl ⟨rfl, hwu, Nat.le_succ_of_le hsk, hnx hz3⟩) ⟨congrArg I hadd, trivial⟩ ⟨rfl, rfl, rfl, rfl, rfl, rfl, rfl, trivial⟩ (.inl rfl)
            · rename_i hz
              clear hz
              split <;> cbv
              · rename_i hz
                have hz3 : q1 = L := by simpa using (hee _ _).symm.trans hz
                exact hB (a, k + 1, i, q1, q2) _ _ hm1 (.inr ⟨k, hi2, hwx.trans hz3, hlt⟩) ⟨congrArg I hadd, trivial⟩ ⟨rfl, rfl, rfl, rfl, rfl, rfl, rfl, trivial⟩ (.inl rfl)
              · rename_i hz
                have hz3 : ¬ q1 = L := by simpa using (hee _ _).symm.trans hz
                exact hB (a, k + 1, -1, q1, q2) _ _ hm0 (.inl ⟨rfl, hwu, Nat.le_succ_of_le hsk, hnx hz3⟩) ⟨congrArg I hadd, trivial⟩ ⟨rfl, rfl, rfl, rfl, rfl, rfl, rfl, trivial⟩ (.inl rfl)
          · rename_i hz
            have hz1 : ¬ q2 = L := by simpa using (hee _ _).symm.trans hz
            clear hz
            split <;> cbv
            · rename_i hz
              have hz3 : q1 = L := by simpa using (hee _ _).symm.trans hz
              exact hB (a, k + 1, i, q1, q2) _ _ hm1 (.inr ⟨k, hi2, hwx.trans hz3, hlt⟩) ⟨congrArg I hadd, trivial⟩ ⟨rfl, rfl, rfl, rfl, rfl, rfl, rfl, trivial⟩ (.inl rfl)
            · rename_i hz
              have hz3 : ¬ q1 = L := by simpa using (hee _ _).symm.trans hz
              exact hB (a, k + 1, -1, q1, q2) _ _ hm0 (.inl ⟨rfl, hwu, Nat.le_succ_of_le hsk, hnx hz3⟩) ⟨congrArg I hadd, trivial⟩ ⟨rfl, rfl, rfl, rfl, rfl, rfl, rfl, trivial⟩ (.inl rfl)
        · rename_i hz
          have hz : ¬ s < (k : Int) := by simpa using hsi.symm.trans hz
          have hsy := hsy hz
          cases hsy
          split <;> cbv
          · rename_i hz
            have hz1 : g2 = L := by simpa using (hee _ _).symm.trans hz
            clear hz
            split <;> cbv
            · rename_i hz
              clear hz
              split <;> cbv
              · rename_i hz
                have hz3 : g1 = L := by simpa using (hee _ _).symm.trans hz
                exact hB (i, k + 1, i, g1, g2) _ _ hm1 (.inr ⟨k, hi2, hwx.trans hz3, hlt⟩) ⟨congrArg I hadd, trivial⟩ ⟨rfl, rfl, rfl, rfl, rfl, rfl, rfl, trivial⟩ (.inl rfl)
              · rename_i hz
                have hz3 : ¬ g1 = L := by simpa using (hee _ _).symm.trans hz
                exact hB (i, k + 1, -1, g1, g2) _ _ hm0 (.inl ⟨rfl, hwu, Nat.le_succ_of_le hsk, hnx hz3⟩) ⟨congrArg I hadd, trivial⟩ ⟨rfl, rfl, rfl, rfl, rfl, rfl, rfl, trivial⟩ (.inl rfl)
            · rename_i hz
              clear hz
              split <;> cbv
              · rename_i hz
                have hz3 : g1 = L := by simpa using (hee _ _).symm.trans hz
                exact hB (a, k + 1, i, g1, g2) _ _ hm1 (.inr ⟨k, hi2, hwx.trans hz3, hlt⟩) ⟨congrArg I hadd, trivial⟩ ⟨rfl, rfl, rfl, rfl, rfl, rfl, rfl, trivial⟩ (.inl rfl)
              · rename_i hz
                have hz3 : ¬ g1 = L := by simpa using (hee _ _).symm.trans hz
                exact hB (a, k + 1, -1, g1, g2) _ _ hm0 (.inl ⟨rfl, hwu, Nat.le_succ_of_le hsk, hnx hz3⟩) ⟨congrArg I hadd, trivial⟩ ⟨rfl, rfl, rfl, rfl, rfl, rfl, rfl, trivial⟩ (.inl rfl)
          · rename_i hz
            have hz1 : ¬ g2 = L := by simpa using (hee _ _).symm.trans hz
            clear hz
            split <;> cbv
            · rename_i hz
              have hz3 : g1 = L := by simpa using (hee _ _).symm.trans hz
              exact hB (a, k + 1, i, g1, g2) _ _ hm1 (.inr ⟨k, hi2, hwx.trans hz3, hlt⟩) ⟨congrArg I hadd, trivial⟩ ⟨rfl, rfl, rfl, rfl, rfl, rfl, rfl, trivial⟩ (.inl rfl)
            · rename_i hz
              have hz3 : ¬ g1 = L := by simpa using (hee _ _).symm.trans hz
              exact hB (a, k + 1, -1, g1, g2) _ _ hm0 (.inl ⟨rfl, hwu, Nat.le_succ_of_le hsk, hnx hz3⟩) ⟨congrArg I hadd, trivial⟩ ⟨rfl, rfl, rfl, rfl, rfl, rfl, rfl, trivial⟩ (.inl rfl)
      · rename_i hz
        exact Bool.noConfusion (hz.symm.trans hneg)
    · have hbn : A.lt (iLen n) 0 = false := by rw [hll]; unfold iLen; simp
      obtain ⟨N, hN⟩ : ∃ N, N = iLen n := ⟨_, rfl⟩
      have hf := h a n ⟨hn1, hn2⟩
      rw [← hN] at hbn hf ⊢
      refine SGo_run hA ⟨[], [], (36, eNextR) :: [], []⟩ (.cons eNextR_ok .nil) .nil 200 fun T TD hT hTD => ?_
      cbv
      split <;> cbv
      · rename_i hz
        exact Bool.noConfusion (hbn.symm.trans hz)
      · exact hf
  have h3 : PCalls Tryz.prog 66 [cvyV L gp f (.vs 5 ts), tckV t.way t.st t.lo t.hi (.vs 2 (t.hs.map hdV))] (fun r => ∃ (a : Int) (n : Nat), Arr L t n ∧ r = .agg [I a, I (iLen n)]) := h2.mono fun r H' hh => by obtain ⟨a, n, h1, h2, rfl⟩ := hh; exact ⟨rfl, by rw [h2]; rfl, a, n, h1, h2⟩
  exact (h3.calls rfl H).mono fun r H' hh => by obtain ⟨rfl, _, a, n, h1, rfl⟩ := hh; exact h a n h1
end Go.Sas
namespace Go.Sas
open Go.Proofs
set_option maxRecDepth 100000
def eArrR : List AV → Option ((AV → Prop) → Prop)
  | [.agg [.lit (.int .i64 L), .lit (.int .i64 gp), .lit (.int .i64 _), .vs 5 _], .agg [.lit (.int .i64 w), .lit (.int .i64 s), .lit (.int .i64 lo), .lit (.int .i64 hi), .vs 2 ys]] =>
    some fun K => ∃ (hs : List Hld), (ys = hs.map hdV ∧ TckV L gp ⟨w, s, lo, hi, hs⟩ ∧ 1 ≤ L ∧ L ≤ 100000) ∧ ∀ a N (n : Nat), (Arr L ⟨w, s, lo, hi, hs⟩ n ∧ N = iLen n) → K (.agg [I a, I N])
  | _ => none
theorem eArrR_ok : ∀ args pt, eArrR args = some pt → ∀ (H : AHeap) (Kk : AV → AHeap → Prop), pt (fun r => Kk r H) → ACalls Tryz.prog 66 args H Kk := by
  intro args pt h H Kk hk
  unfold eArrR at h
  split at h
  · cases h
    obtain ⟨hs, ⟨rfl, h1, h2⟩, h3⟩ := hk
    exact p66 _ _ _ _ ⟨_, _, _, _, hs⟩ h1 h2 H (fun a n hn => h3 a _ n ⟨hn, rfl⟩)
  · cases h
theorem waysT_stay {L gap : Int} {t : Tck} (hV : TckV L gap t) (hL : 1 ≤ L) {m k : Nat} (h : m ≤ k) (hm : (waysT L t m).1 = L) : (waysT L t k).1 = L := by
  have h1 := waysT_up hV hL h
  have h2 := waysT_bnd hV hL k
  have h3 := stopT_bnd hV hL k
  omega
theorem p42 (c : Cvy) (hV : CvyV c) (H : AHeap) {Kk : AV → AHeap → Prop} (h : ∀ e : Nat, e ≤ 11001 → EndT c.len c.trs e → Kk (I (iLen e)) H) :
    ACalls Tryz.prog 42 [cvyV c.len c.gap c.fails (.vs 5 (c.trs.map tkA))] H Kk := by
  have h2 : ACalls Tryz.prog 42 [cvyV c.len c.gap c.fails (.vs 5 (c.trs.map tkA))] [] fun r H' => ∃ e : Nat, e ≤ 11001 ∧ EndT c.len c.trs e ∧ r = I (iLen e) ∧ H' = [] := by
    clear h Kk
    obtain ⟨Kk, hKk⟩ : ∃ Kk : AV → AHeap → Prop, Kk = fun r H' => ∃ e : Nat, e ≤ 11001 ∧ EndT c.len c.trs e ∧ r = I (iLen e) ∧ H' = [] := ⟨_, rfl⟩
    rw [← hKk]
    have h : ∀ e : Nat, e ≤ 11001 → EndT c.len c.trs e → Kk (I (iLen e)) [] := fun e h1 h2 => by rw [hKk]; exact ⟨e, h1, h2, rfl, rfl⟩
    clear hKk
    have hL := hV.len
    have hn := hV.n
    have hall := hV.all
    obtain ⟨L, gp, f, trs⟩ := c
    dsimp only at hL hn hall h ⊢
    obtain ⟨ys, hys⟩ : ∃ ys, ys = trs.map tkA := ⟨_, rfl⟩
    rw [← hys]
    obtain ⟨A, hA⟩ : ∃ A, A = std := ⟨_, rfl⟩
    have hmx : ∀ x y, A.max x y = max x y := by subst hA; intro x y; exact iMaxE _ _
    refine go42 rfl (SGo_run hA ⟨[], [], [], []⟩ .nil .nil 200 fun T TD hT hTD => ?_)
    cbv
    rw [hT]
    refine AGo_upE [0, 1, 2] trs.length (fun j (e : Nat) => e ≤ 11001 ∧ ∀ t ∈ trs.take j, (waysT L t e).1 = L) (fun _ e i => [(3, I (iLen e)), (4, I i)]) (fun _ _ => [.own 0 [I L, I gp, I f, .vs 5 ys]]) 0 ⟨by omega, by simp⟩ ⟨rfl, rfl, trivial⟩ (.inl rfl) fun j e i hi2 hj hP Bk hB => ?_
    obtain ⟨hP1, hP2⟩ := hP
    have hlt : A.lt i (A.vlen ys) = decide (j < trs.length) := by subst hA; exact lt_len (by simp [hys]) hi2
    have hadd : ∀ N, j < N → N ≤ 9223372036854775807 → A.add .i64 i 1 = iLen (j + 1) := fun N hj hN => by subst hA; exact add_one hi2 hj hN
    refine SGo_run hA ⟨[], [], (66, eArrR) :: [], []⟩ (.cons eArrR_ok .nil) .nil 200 fun T TD hT hTD => ?_
    cbv
    split <;> cbv
    · rename_i hk0
      have hk1 : j < trs.length := by have hz := hlt.symm.trans hk0; simpa using hz
      clear hk0
      obtain ⟨t, hx⟩ : ∃ x, trs[j]? = some x := ⟨_, List.getElem?_eq_getElem hk1⟩
      have ht := hall _ (List.mem_of_getElem? hx)
      have htk : trs.take (j + 1) = trs.take j ++ [t] := by rw [List.take_succ_eq_append_getElem hk1]; simp [(List.getElem?_eq_some_iff.1 hx).2]
      obtain ⟨w, s, lo, hi, hs⟩ := t
      obtain ⟨zs, hzs⟩ : ∃ z, z = hs.map hdV := ⟨_, rfl⟩
      have hix : A.ix 5 5 ys i [I w, I s, I lo, I hi, .vs 2 zs] := by subst hA; rw [hzs]; exact ix_map hys hi2 hx rfl
      refine Exists.intro _ (And.intro hix ?_); cbv
      refine Exists.intro hs (And.intro ⟨hzs, ht, hL⟩ ?_)
      intro a N n hh
      obtain ⟨hn1, hN⟩ := hh
      cbv
      have hn2 := waysT_lt ht hL.1 hn1.2
      have hmm : A.max (iLen e) N = iLen (max e n) := by rw [hmx, hN]; unfold iLen; omega
      refine hB (max e n) _ _ hk1 ⟨by omega, fun t' ht' => ?_⟩ ⟨congrArg I hmm, congrArg I (hadd _ hk1 (by omega)), trivial⟩ ⟨rfl, rfl, rfl, trivial⟩ (.inl rfl)
      rw [htk] at ht'
      rcases List.mem_append.1 ht' with h1 | h1
      · exact waysT_stay (hall _ (List.mem_of_mem_take h1)) hL.1 (by omega) (hP2 _ h1)
      · rw [List.mem_singleton.1 h1]; exact waysT_stay ht hL.1 (by omega) hn1.1
    · rename_i hk0
      have hk1 : ¬ j < trs.length := by have hz := hlt.symm.trans hk0; simpa using hz
      clear hk0
      rw [List.take_of_length_le (by omega)] at hP2
      exact h e hP1 hP2
  have h3 : PCalls Tryz.prog 42 [cvyV c.len c.gap c.fails (.vs 5 (c.trs.map tkA))] (fun r => ∃ e : Nat, e ≤ 11001 ∧ EndT c.len c.trs e ∧ r = I (iLen e)) := h2.mono fun r H' hh => by obtain ⟨e, h1, h2, h3, rfl⟩ := hh; exact ⟨rfl, by rw [h3]; rfl, e, h1, h2, h3⟩
  exact (h3.calls rfl H).mono fun r H' hh => by obtain ⟨rfl, _, e, h1, h2, rfl⟩ := hh; exact h e h1 h2
def eLastR : List AV → Option ((AV → Prop) → Prop)
  | [.agg [.lit (.int .i64 L), .lit (.int .i64 gp), .lit (.int .i64 f), .vs 5 ys]] =>
    some fun K => ∃ (trs : List Tck), (ys = trs.map tkA ∧ CvyV ⟨L, gp, f, trs⟩) ∧ ∀ E (e : Nat), (e ≤ 11001 ∧ EndT L trs e ∧ E = iLen e) → K (I E)
  | _ => none
theorem eLastR_ok : ∀ args pt, eLastR args = some pt → ∀ (H : AHeap) (Kk : AV → AHeap → Prop), pt (fun r => Kk r H) → ACalls Tryz.prog 42 args H Kk := by
  intro args pt h H Kk hk
  unfold eLastR at h
  split at h
  · cases h
    obtain ⟨trs, ⟨rfl, h1⟩, h3⟩ := hk
    exact p42 ⟨_, _, _, trs⟩ h1 H (fun e h4 h5 => h3 _ e ⟨h4, h5, rfl⟩)
  · cases h
/-- accepted -/
structure AccQ (c : Cvy) : Prop where
  v : CvyV c
  e : ∃ e : Nat, e ≤ 11001 ∧ EndT c.len c.trs e ∧ Acc c.len c.gap c.fails c.trs e
theorem fstE_ne {f : Nat → Int} {q : Int} (hq : q ≠ 0) (h : ∀ i, f i ≠ q) : ∀ n, fstE f n ≠ q
  | 0 => by simp only [fstE]; omega
  | n + 1 => by
    simp only [fstE]
    split
    · exact fstE_ne hq h n
    · exact h n
theorem cvyE_ne7 (c : Cvy) : cvyE c ≠ 7 := by
  unfold cvyE
  split
  · omega
  split
  · omega
  refine fstE_ne (by omega) (fun i => ?_) _
  unfold tckE
  split
  · omega
  split
  · omega
  split
  · omega
  split
  · omega
  split
  · omega
  split
  · omega
  refine fstE_ne (by omega) (fun i => ?_) _
  unfold hldE
  split
  · omega
  split <;> omega
end Go.Sas
