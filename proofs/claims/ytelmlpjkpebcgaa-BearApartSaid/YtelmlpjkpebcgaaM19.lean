/-
Lists that are built in a loop and then frozen.
The law that the gap is the least one answers true.
Conditions: none.
-/
import Derived.Test.YtelmlpjkpebcgaaM14
import Derived.Test.YtelmlpjkpebcgaaM18
import Derived.Test.YtelmlpjkpebcgaaM12
import Derived.Test.YtelmlpjkpebcgaaNT6
set_option linter.unusedVariables false
set_option linter.unusedSimpArgs false
namespace Go.Sas
variable {cx : Cx} {m : Nat} {k : List AItm} {R : Env → AHeap → Prop} {e : Env} {H H' : AHeap}
theorem AGo_frz1 (t : Nat) {id g sz n : Nat} {xs cs : List AV} (hX : H[id]? = some (.own g cs)) (ht : look e.g t = .ms sz id g 0 n) (hn : xs.length = n) (hE : Elems sz xs cs) (h : AGo cx m k R ⟨e.l, gset e.g t (.vs sz xs)⟩ (H.set id .gone)) : AGo cx m k R e H := by
  have hok := hE.2
  simp only [elemsOk, Bool.and_eq_true] at hok
  have hl := cellsL_len hE.1 hok.2
  refine AGo_freeze t hX ht ?_ (by rw [hl, hn]; omega) hn hE.2 h
  rw [cellsL_eq, hE.1, List.drop_zero, List.take_of_length_le (by rw [← hn]; omega)]
/-- one element more -/
theorem app_map {α : Type} {g : α → List AV} {sz by_ n : Nat} {l : List α} {x : α} {cs c : List AV} {v : AV} (hcs : cs = l.flatMap g) (hn : l.length = n) (hg : ∀ x, (g x).length = sz) (hv : v.cells = some c) (hc : c = g x) (hb : (n + 1) * by_ ≤ 140737488355328) :
    appS sz sz by_ cs 0 n [v] ((l ++ [x]).flatMap g) (n + 1) := by
  have hl : cs.length = n * sz := by rw [hcs, len_flat hg, hn]
  have := app_one (by_ := by_) hl hv hb
  rw [hc, hcs] at this
  rw [hcs]
  simpa using this
/-- loads of a row -/
def rowF (ws : List (Int × Int)) (g : Int) (i : Nat) : Load := ⟨g * iLen i, ws.getD i (0, 0), 0⟩
def rowL (ws : List (Int × Int)) (g : Int) : List Load := (List.range ws.length).map (rowF ws g)
theorem burd_row {p : Plate} {ws : List (Int × Int)} {g : Int} (hg : 0 ≤ g) (i : Nat) : ∀ n : Nat, (((List.range n).map (rowF ws g)).map (burdF true p (g * iLen i))).sum = rowTo p ws g (iLen i) n
  | 0 => rfl
  | n + 1 => by
    rw [List.range_succ, List.map_append, List.map_append, sum_app, burd_row hg i n]
    simp only [List.map_cons, List.map_nil, List.sum_cons, List.sum_nil, burdF, rowF, hevS, if_true, rowTo, Int.add_zero]
    have : farS (g * iLen i) (g * iLen n) = g * farS (iLen i) (iLen n) := by
      simp only [farS, iMax_eq]
      rw [← Int.mul_sub, ← Int.mul_sub]
      rcases Int.le_total (iLen i - iLen n) (iLen n - iLen i) with h | h
      · rw [Int.max_eq_right h, Int.max_eq_right (Int.mul_le_mul_of_nonneg_left h hg)]
      · rw [Int.max_eq_left h, Int.max_eq_left (Int.mul_le_mul_of_nonneg_left h hg)]
    rw [this]
/-- places enough for a row -/
def iceN (ws : List (Int × Int)) (g : Nat) : Nat := g * ws.length / 100 + 1
theorem row_load {ws : List (Int × Int)} (hR : RowV ws) {g i : Nat} (hi : i < ws.length) : LoadV (iceN ws g) (rowF ws (iLen g) i) := by
  have hb := hR.bnd (ws.getD i (0, 0)) (by rw [List.getD_eq_getElem?_getD, List.getElem?_eq_getElem hi]; simp)
  have h1 : g * i ≤ g * ws.length := Nat.mul_le_mul_left g (by omega)
  have h2 : (iLen g * iLen i : Int) = ((g * i : Nat) : Int) := by unfold iLen; simp
  unfold iceN
  constructor
  · show 0 ≤ iLen g * iLen i; rw [h2]; omega
  · show iLen g * iLen i ≤ _; rw [h2]; omega
  · exact hb.1
  · exact hb.2.1
  · exact hb.2.2
  · exact Int.le_refl 0
  · show (0 : Int) ≤ 10000; omega
theorem row_ve {p : Plate} (hV : PlateV p) {ws : List (Int × Int)} (hR : RowV ws) {g i : Nat} {t : Int} (hi : i < ws.length) : veS p (List.replicate (iceN ws g) (t, t)) [] (rowL ws (iLen g)) (rowF ws (iLen g) i) = 1 ↔ enS true p (rowTo p ws (iLen g) (iLen i) ws.length) t 0 = true := by
  have h := row_load hR (g := g) hi
  have h1 := h.at1
  have h2 := h.at2
  have hN : ((rowF ws (iLen g) i).at_ / 100).toNat < iceN ws g := by omega
  rw [ve_one]
  unfold beS burdS
  rw [show (rowF ws (iLen g) i).at_ = iLen g * iLen i from rfl] at hN ⊢
  rw [rowL, burd_row (by unfold iLen; omega) i ws.length]
  have : thickS true p (List.replicate (iceN ws g) (t, t)) [] (iLen g * iLen i) = t := by
    unfold thickS
    rw [List.getD_eq_getElem?_getD, List.getElem?_replicate_of_lt hN]
    simp [cutS, strS]
  rw [this]
  rfl
theorem row_holds {p : Plate} (hc : checkS p = 0) {ws : List (Int × Int)} (hR : RowV ws) {g : Nat} {t : Int} (ht : 0 ≤ t ∧ t ≤ 5000) (hg : iceN ws g ≤ 1000) :
    holdsS p (List.replicate (iceN ws g) (t, t)) [] (rowL ws (iLen g)) = ((rowL ws (iLen g)).map (veS p (List.replicate (iceN ws g) (t, t)) [] (rowL ws (iLen g))), 0) := by
  have hroad : checkAllS p (List.replicate (iceN ws g) (t, t)) [] = 0 := roadS_of hc (by simpa using hg) (fun x hx => by rw [(List.mem_replicate.1 hx).2]; simp only; omega) (by simp) (fun x hx => by simp at hx)
  have hl : loadsS (List.replicate (iceN ws g) (t, t)).length (rowL ws (iLen g)) = 0 := by
    refine loadsS_of (by simp [rowL]; exact hR.len) fun x hx => ?_
    simp only [rowL, List.mem_map, List.mem_range] at hx
    obtain ⟨i, hi, rfl⟩ := hx
    rw [List.length_replicate]
    exact row_load hR hi
  unfold holdsS
  rw [if_neg (by simp [hroad]), if_neg (by simp only [ne_eq, Decidable.not_not]; exact hl)]
end Go.Sas
namespace Go.Sas
open Go.Proofs
set_option maxRecDepth 100000
theorem p128 (ws : List (Int × Int)) (g : Int) (hg : 0 ≤ g ∧ g ≤ 10000) (hR : RowV ws) (H : AHeap) {Kk : AV → AHeap → Prop} (h : Kk (.vs 4 ((rowL ws g).map ldV)) H) : ACalls Try.prog 128 [.vs 2 (ws.map sp), I g] H Kk := by
  refine (fun q => pureF (by rfl) (by rfl) q H h) ?_
  clear h
  intro Kk h
  obtain ⟨A, hA⟩ : ∃ A, A = std := ⟨_, rfl⟩
  have hlen := hR.len
  obtain ⟨xw, hxw⟩ : ∃ v, v = ws.map sp := ⟨_, rfl⟩
  rw [← hxw]
  obtain ⟨F, hF⟩ : ∃ F, F = Frees 0 Kk := ⟨_, rfl⟩
  rw [← hF]
  have hsg : ∀ g, A.sg g g := by subst hA; exact fun _ => rfl
  refine go128 rfl (SGo_run hA ⟨[], [], [], []⟩ .nil .nil 200 fun T TD hT hTD => ?_)
  cbv
  rw [hT]
  refine AGo_nilms 5 4 rfl ?_
  refine AGo_up ws.length (fun _ => True) (fun j i => [(0, .vs 2 xw), (1, I g), (5, .ms 4 0 j 0 j), (6, I i)]) (fun j => [.own j (((List.range j).map (rowF ws g)).flatMap ldC)]) trivial ⟨rfl, rfl, rfl, rfl, trivial⟩ (.inl rfl) fun j i hij hj _ Bk hB => ?_
  have hlt : A.lt i (A.vlen xw) = decide (j < ws.length) := by subst hA; exact lt_len (by simp [hxw]) hij
  have hadd : j < ws.length → A.add .i64 i 1 = iLen (j + 1) := fun hj => by subst hA; exact add_one hij hj (by omega)
  have hmul : j < ws.length → A.mul .i64 g i = g * iLen j := fun hj => by subst hA; rw [hij]; exact (mulB hg (b := iLen j) (B := 30) (by unfold iLen; omega) (by omega)).1
  obtain ⟨cs, hcs⟩ : ∃ cs, cs = ((List.range j).map (rowF ws g)).flatMap ldC := ⟨_, rfl⟩
  rw [← hcs]
  obtain ⟨cs2, hcs2⟩ : ∃ cs, cs = ((List.range j).map (rowF ws g) ++ [rowF ws g j]).flatMap ldC := ⟨_, rfl⟩
  have hcs3 : ((List.range (j + 1)).map (rowF ws g)).flatMap ldC = cs2 := by rw [hcs2, List.range_succ, List.map_append]; rfl
  refine SGo_run hA ⟨[0], [], [], []⟩ .nil .nil 200 fun T TD hT hTD => ?_
  cbv
  split <;> cbv
  · rename_i z
    have hj1 : j < ws.length := by have z := hlt.symm.trans z; simpa using z
    obtain ⟨⟨x, y⟩, hx⟩ : ∃ x, ws[j]? = some x := ⟨_, List.getElem?_eq_getElem hj1⟩
    have hix : A.ix 2 2 xw i [I x, I y] := by subst hA; exact ix_map hxw hij hx rfl
    refine Exists.intro _ (And.intro hix ?_)
    cbv
    have hm := hmul hj1
    have happ : A.app 4 4 32 cs 0 j [.agg [I (A.mul .i64 g i), I x, I y, I 0]] cs2 (j + 1) := by
      subst hA
      rw [hcs2]
      refine app_map hcs (by simp) (fun _ => rfl) rfl ?_ (by omega)
      show [I (std.mul .i64 g i), I x, I y, I 0] = ldC (rowF ws g j)
      rw [hm]
      simp [rowF, ldC, List.getD_eq_getElem?_getD, hx]
    refine And.intro (hsg _) (Exists.intro cs2 (Exists.intro (j + 1) (And.intro happ (And.intro rfl ?_))))
    cbv
    exact hB _ _ hj1 trivial ⟨rfl, rfl, rfl, congrArg I (hadd hj1), trivial⟩ (.inl (by rw [hcs3]))
  · rename_i z
    have hj1 : j = ws.length := by have z := hlt.symm.trans z; simp at z; omega
    rw [hF]
    refine Frees.frz 0 j 4 ((rowL ws g).map ldV) rfl (by rw [hcs, hj1]; exact Elems_ldC _) (Frees.drop0 ?_ ?_)
    · simp only [aTup]
      rw [frz_self (by simp [rowL, hj1])]; exact h
    · simp only [aTup]
      rw [frz_self (by simp [rowL, hj1])]; rfl
def eRowL : List AV → Option ((AV → Prop) → Prop)
  | [x, .lit (.int .i64 g)] => match asVs 2 x with
    | some xw => some fun K => ∃ ws, xw = ws.map sp ∧ RowV ws ∧ (0 ≤ g ∧ g ≤ 10000) ∧ ∀ ys, ys = (rowL ws g).map ldV → K (.vs 4 ys)
    | none => none
  | _ => none
theorem eRowL_ok : ∀ args pt, eRowL args = some pt → ∀ (H : AHeap) (Kk : AV → AHeap → Prop), pt (fun r => Kk r H) → ACalls Try.prog 128 args H Kk := by
  intro args pt h H Kk hk
  unfold eRowL at h
  split at h
  · split at h
    · rename_i xw hz
      cases h
      obtain ⟨ws, rfl, g1, g2, g3⟩ := hk
      exact (p128 ws _ g2 g1 H (g3 _ rfl)).wk ⟨asVs_wk hz, Wk.rfl, trivial⟩
    · cases h
  · cases h
theorem p77 (x : Int) (H : AHeap) {Kk : AV → AHeap → Prop} (h : ∀ r : Int, 0 ≤ r → r < 1000 → Kk (I r) H) : ACalls Try.prog 77 [I x, I 1000] H Kk := by
  have h1 : ACalls Try.prog 77 [I x, I 1000] [] fun r H' => H' = [] ∧ ∃ q : Int, r = I q ∧ 0 ≤ q ∧ q < 1000 := by
    clear h Kk
    obtain ⟨Kk, hKk⟩ : ∃ K : AV → AHeap → Prop, K = fun r H' => H' = [] ∧ ∃ q : Int, r = I q ∧ 0 ≤ q ∧ q < 1000 := ⟨_, rfl⟩
    rw [← hKk]
    obtain ⟨A, hA⟩ : ∃ A, A = std := ⟨_, rfl⟩
    have hlt : A.lt 1000 2 = false := by subst hA; rfl
    have hv : 0 ≤ A.rem .i64 (A.add .i64 (A.rem .i64 x 1000) 1000) 1000 ∧ A.rem .i64 (A.add .i64 (A.rem .i64 x 1000) 1000) 1000 < 1000 := by
      subst hA
      simp only [std, iRem]
      have e1 : -1000 < x.tmod 1000 := by have := Int.lt_tmod_of_pos x (b := 1000) (by decide); omega
      have e2 : x.tmod 1000 < 1000 := Int.tmod_lt_of_pos x (by decide)
      rw [iAdd_id (by omega) (by omega)]
      have e3 : 0 ≤ (x.tmod 1000 + 1000).tmod 1000 := Int.tmod_nonneg _ (by omega)
      have e4 : (x.tmod 1000 + 1000).tmod 1000 < 1000 := Int.tmod_lt_of_pos _ (by decide)
      exact ⟨e3, e4⟩
    have hnz : A.nz 1000 := by subst hA; show (1000 : Int) ≠ 0; decide
    refine go77 rfl (SGo_run hA ⟨[], [], [], []⟩ .nil .nil 200 fun T TD hT hTD => ?_)
    cbv
    split <;> cbv
    · rename_i hq; exact Bool.noConfusion (hq.symm.trans hlt)
    refine And.intro hnz (And.intro hnz ?_)
    rw [hKk]
    exact ⟨rfl, _, rfl, hv.1, hv.2⟩
  have h2 := ACalls.frame (H := H) [] h1 List.nodup_nil rfl (AV.ltL_nid (by rfl)) (by simp [ltH]) (fun k X hk => by simp at hk)
  rw [AV.renL_nid (by rfl)] at h2
  refine h2.mono fun r H' hx => ?_
  obtain ⟨r0, H1, ⟨rfl, q, rfl, q1, q2⟩, _, rfl, rfl⟩ := hx
  simpa [merge, updL, AV.ren] using h q q1 q2
def eWrap : List AV → Option ((AV → Prop) → Prop)
  | [.lit (.int .i64 x), .lit (.int .i64 1000)] => some fun K => ∀ r : Int, 0 ≤ r → r < 1000 → K (I r)
  | _ => none
theorem eWrap_ok : ∀ args pt, eWrap args = some pt → ∀ (H : AHeap) (Kk : AV → AHeap → Prop), pt (fun r => Kk r H) → ACalls Try.prog 77 args H Kk := by
  intro args pt h H Kk hk
  unfold eWrap at h
  split at h
  · cases h
    exact p77 _ H hk
  · cases h
set_option maxHeartbeats 4000000 in
theorem p78 (p : Plate) {a b : Int} {xs ec : List AV} {ne ed gr lo hi sh wi : Int} (hp : PlateIs p a b xs ec ne ed gr lo hi sh wi) (hc : checkS p = 0) (t : Int) (ht : 0 ≤ t ∧ t ≤ 5000) (ws : List (Int × Int)) (hR : RowV ws) (g : Nat) (hg : g ≤ 10000) (hN : iceN ws g ≤ 1000) (H : AHeap) {Kk : AV → AHeap → Prop} (h : Kk (B (rowQ p t ws g)) H) :
    ACalls Try.prog 78 [plV a b (.vs 2 xs) (.vs 2 ec) ne ed gr lo hi sh wi, I t, .vs 2 (ws.map sp), I (iLen g)] H Kk := by
  refine (fun q => pureC (by rfl) (by rfl) q H h) ?_
  clear h
  intro Kk h
  obtain ⟨A, hA⟩ : ∃ A, A = std := ⟨_, rfl⟩
  have hV := checkS_ok hc
  obtain ⟨W, hW⟩ : ∃ W, W = rowQ p t ws g := ⟨_, rfl⟩
  rw [← hW] at h
  obtain ⟨gv, hgv⟩ : ∃ v, v = iLen g := ⟨_, rfl⟩
  obtain ⟨xw, hxw⟩ : ∃ v, v = ws.map sp := ⟨_, rfl⟩
  have hgb : 0 ≤ gv ∧ gv ≤ 10000 := by rw [hgv]; unfold iLen; omega
  have hlen := hR.len
  have hvl : xw.length = ws.length := by rw [hxw]; simp
  have hb1 : Big p.shares := by have := hV.sh.len; unfold Big; omega
  have hb2 : Big p.creep := by have := hV.cr.len; unfold Big; omega
  have hsg : ∀ g, A.sg g g := by subst hA; exact fun _ => rfl
  have hne0 : A.ne 0 0 = false := by subst hA; rfl
  obtain ⟨N, hNN⟩ : ∃ N, N = iceN ws g := ⟨_, rfl⟩
  rw [← hNN] at hN
  have hquo : A.quo .i64 (A.mul .i64 gv (A.vlen xw)) 100 = iLen N - 1 := by
    subst hA
    show iQuo .i64 (iMul .i64 gv (iLen xw.length)) 100 = _
    rw [hvl]
    obtain ⟨e1, e2, e3⟩ := mulB hgb (b := iLen ws.length) (B := 30) (by unfold iLen; omega) (by omega)
    rw [e1, iQuo_id e2 (by omega) (by omega), hNN, hgv]
    unfold iceN iLen
    have : ((g : Int) * (ws.length : Int)) = ((g * ws.length : Nat) : Int) := by simp
    rw [this]; omega
  have hho := row_holds hc hR (g := g) ht (by omega)
  rw [← hNN, ← hgv] at hho
  rw [← hgv, ← hxw]
  refine go78 rfl (SGo_run hA ⟨[], [], (128, eRowL) :: [], []⟩ (.cons eRowL_ok .nil) .nil 200 fun T TD hT hTD => ?_)
  cbv
  refine Exists.intro ws (And.intro hxw (And.intro hR (And.intro hgb ?_)))
  rintro xl hxl
  cbv
  rw [hT]
  refine AGo_nilms 10 2 rfl ?_
  refine AGo_up N (fun _ => True) (fun j i => [(0, plV a b (.vs 2 xs) (.vs 2 ec) ne ed gr lo hi sh wi), (1, I t), (2, .vs 2 xw), (3, I gv), (4, .mp 0 0 0), (8, B false), (9, .vs 4 xl), (10, .ms 2 1 j 0 j), (11, I i)]) (fun j => [.own 0 (plC a b xs ec ne ed gr lo hi sh wi), .own j ((List.replicate j (t, t)).flatMap fun x => [I x.1, I x.2])]) trivial ⟨rfl, rfl, rfl, rfl, rfl, rfl, rfl, rfl, rfl, trivial⟩ (.inl rfl) fun j i hij hj _ Bk hB => ?_
  have hle : A.le i (A.quo .i64 (A.mul .i64 gv (A.vlen xw)) 100) = decide (j < N) := by rw [hquo]; subst hA; simp only [std, iLe, hij]; unfold iLen; rw [decide_eq_decide]; omega
  have hadd : j < N → A.add .i64 i 1 = iLen (j + 1) := fun hj => by subst hA; exact add_one hij hj (by omega)
  obtain ⟨cs, hcs⟩ : ∃ cs, cs = (List.replicate j (t, t)).flatMap fun x : Int × Int => [I x.1, I x.2] := ⟨_, rfl⟩
  rw [← hcs]
  obtain ⟨cs2, hcs2⟩ : ∃ cs, cs = (List.replicate j (t, t) ++ [(t, t)]).flatMap fun x : Int × Int => [I x.1, I x.2] := ⟨_, rfl⟩
  have hcs3 : ((List.replicate (j + 1) (t, t)).flatMap fun x : Int × Int => [I x.1, I x.2]) = cs2 := by rw [hcs2, List.replicate_succ']
  refine SGo_run hA ⟨[1], [], [], []⟩ .nil .nil 14 fun T TD hT hTD => ?_
  cbv
  split <;> cbv
  · rename_i z
    have hj1 : j < N := by have z := hle.symm.trans z; simpa using z
    rw [hT]
    refine SGo_run hA ⟨[1], [], (61, eOne) :: [], []⟩ (.cons eOne_ok .nil) .nil 200 fun T TD hT hTD => ?_
    cbv
    have happ : A.app 2 2 16 cs 0 j [.agg [I t, I t]] cs2 (j + 1) := by
      subst hA
      rw [hcs2]
      exact app_map hcs (by simp) (fun _ => rfl) rfl rfl (by omega)
    refine And.intro (hsg _) (Exists.intro cs2 (Exists.intro (j + 1) (And.intro happ (And.intro rfl ?_))))
    cbv
    exact hB _ _ hj1 trivial ⟨rfl, rfl, rfl, rfl, rfl, rfl, rfl, rfl, congrArg I (hadd hj1), trivial⟩ (.inl (by rw [hcs3]))
  · rename_i z
    have hj1 : j = N := by have z := hle.symm.trans z; simp at z; omega
    rw [hT]
    obtain ⟨xi, hxi⟩ : ∃ v, v = (List.replicate N (t, t)).map sp := ⟨_, rfl⟩
    refine AGo_frz1 10 (id := 1) (g := j) (sz := 2) (n := j) (xs := xi) (cs := cs) rfl rfl (by rw [hxi, hj1]; simp) (by rw [hcs, hxi, hj1]; exact Elems_sp _) ?_
    obtain ⟨ys, hys⟩ : ∃ ys, ys = (rowL ws gv).map (veS p (List.replicate N (t, t)) [] (rowL ws gv)) := ⟨_, rfl⟩
    have hysl : ys.length = ws.length := by rw [hys]; simp [rowL]
    refine SGo_run hA ⟨[], [], (25, eHolds) :: [], []⟩ (.cons (eHolds_ok p25) .nil) .nil 200 fun T TD hT hTD => ?_
    cbv
    refine Exists.intro p (Exists.intro (List.replicate N (t, t)) (Exists.intro [] (Exists.intro (rowL ws gv) (And.intro hp (And.intro hb1 (And.intro hb2 (And.intro ⟨hxi, by simp; omega⟩ (And.intro ⟨rfl, by simp⟩ (And.intro ⟨hxl, by simp [rowL]; omega⟩ ?_)))))))))
    rintro r e zs hre hzs
    rw [hho] at hre
    obtain ⟨rfl, rfl⟩ := Prod.mk.inj hre
    rw [← hys] at hzs
    have hzl : A.ne (A.vlen zs) (A.vlen xl) = false := by subst hA hzs hxl; simp [std, iNe, hysl, rowL]
    cbv
    split <;> cbv
    · rename_i hq; exact Bool.noConfusion (hq.symm.trans hne0)
    split <;> cbv
    · rename_i hq; exact Bool.noConfusion (hq.symm.trans hzl)
    rw [hT]
    have hve : ∀ q, q < ws.length → ∃ v, ys[q]? = some v ∧ (v = 1 ↔ enS true p (rowTo p ws gv (iLen q) ws.length) t 0 = true) := fun q hq => by
      refine ⟨veS p (List.replicate N (t, t)) [] (rowL ws gv) (rowF ws gv q), ?_, ?_⟩
      · rw [hys, rowL, List.getElem?_map, List.getElem?_map, List.getElem?_range hq]; rfl
      · rw [hNN, hgv]; exact row_ve hV hR hq
    refine AGo_up ws.length (fun q => ∀ i, i < q → enS true p (rowTo p ws gv (iLen i) ws.length) t 0 = true) (fun _ i => [(8, B false), (12, .vs 1 zs), (14, I i)]) (fun _ => []) (fun i hi => absurd hi (by omega)) ⟨rfl, rfl, rfl, trivial⟩ (hf_drop _ rfl (Nat.le_refl _) rfl) fun q i2 hiq hq hP Bk2 hB2 => ?_
    have hlt2 : A.lt i2 (A.vlen zs) = decide (q < ws.length) := by subst hA; exact lt_len (by rw [hzs]; simp [hysl]) hiq
    have hadd2 : q < ws.length → A.add .i64 i2 1 = iLen (q + 1) := fun hj => by subst hA; exact add_one hiq hj (by omega)
    refine SGo_run hA ⟨[], [], [], []⟩ .nil .nil 200 fun T TD hT hTD => ?_
    cbv
    split <;> cbv
    · rename_i z
      have hq1 : q < ws.length := by have z := hlt2.symm.trans z; simpa using z
      obtain ⟨v, hv1, hv2⟩ := hve q hq1
      have hix : A.ix 1 1 zs i2 [I v] := by subst hA; exact ix_map hzs hiq hv1 rfl
      refine Exists.intro _ (And.intro hix ?_)
      cbv
      split <;> cbv
      · rename_i z
        have z : v ≠ 1 := by have z : A.ne v 1 = true := z; subst hA; simpa [std, iNe] using z
        refine leaf h (congrArg B ?_) rfl
        rw [hW, rowQ, decide_eq_false_iff_not]
        intro hall
        have := hall q hq1
        rw [← hgv] at this
        exact z (hv2.2 this)
      · rename_i z
        have z : v = 1 := by have z : A.ne v 1 = false := z; subst hA; simpa [std, iNe] using z
        refine hB2 _ _ hq1 (fun i hi => ?_) ⟨rfl, rfl, congrArg I (hadd2 hq1), trivial⟩ (.inl rfl)
        rcases Nat.lt_succ_iff_lt_or_eq.1 hi with h | h
        · exact hP i h
        · rw [h]; exact hv2.1 z
    · rename_i z
      have hq1 : ¬ q < ws.length := by have z := hlt2.symm.trans z; simpa using z
      refine leaf h (congrArg B ?_) rfl
      rw [hW, rowQ, decide_eq_true_eq]
      intro i hi
      rw [← hgv]; exact hP i (by omega)
def eSure : List AV → Option ((AV → Prop) → Prop)
  | [pl, .lit (.int .i64 t), x, .lit (.int .i64 g)] => match asPl pl, asVs 2 x with
    | some x, some xw => some fun K => ∃ p ws k, PlIs p x ∧ checkS p = 0 ∧ (0 ≤ t ∧ t ≤ 5000) ∧ xw = ws.map sp ∧ RowV ws ∧ (g = iLen k ∧ k ≤ 10000 ∧ iceN ws k ≤ 1000) ∧ ∀ q, q = rowQ p t ws k → K (B q)
    | _, _ => none
  | _ => none
theorem eSure_ok : ∀ args pt, eSure args = some pt → ∀ (H : AHeap) (Kk : AV → AHeap → Prop), pt (fun r => Kk r H) → ACalls Try.prog 78 args H Kk := by
  intro args pt h H Kk hk
  unfold eSure at h
  split at h
  · split at h
    · rename_i x xw hy hz
      cases h
      obtain ⟨a, b, xs, ec, ne, ed, gr, lo, hi, sh, wi⟩ := x
      obtain ⟨p, ws, k, g1, g2, g3, rfl, g4, ⟨rfl, g5, g6⟩, g7⟩ := hk
      exact (p78 p g1 g2 _ g3 ws g4 k g5 g6 H (g7 _ rfl)).wk ⟨asPl_wk hy, Wk.rfl, asVs_wk hz, Wk.rfl, trivial⟩
    · cases h
  · cases h
set_option maxHeartbeats 8000000 in
theorem core16 (nums : List Int) (by_ : Int) (hn1 : BigL nums) : ACalls Try.prog 16 [.vs 1 (nums.map I), I by_] [] fun r _ => r = B true := by
  obtain ⟨Kk, hKk⟩ : ∃ K : AV → AHeap → Prop, K = fun r _ => r = B true := ⟨_, rfl⟩
  rw [← hKk]
  have hk : ∀ H, Kk (B true) H := fun H => by rw [hKk]
  clear hKk
  obtain ⟨xn, hxn⟩ : ∃ ys, ys = nums.map I := ⟨_, rfl⟩
  rw [← hxn]
  obtain ⟨A, hA⟩ : ∃ A, A = std := ⟨_, rfl⟩
  have hne0 : A.ne 0 0 = false := by subst hA; rfl
  have hnb : ∀ b, A.bnot b = !b := by subst hA; intro b; rfl
  refine go16 rfl (SGo_run hA ⟨[], [], (19, eTrue) :: (63, eGapA) :: (77, eWrap) :: (78, eSure) :: [], (62, eDraw sRow) :: edl⟩ (.cons eTrue_ok (.cons (eGapA_ok p63) (.cons eWrap_ok (.cons eSure_ok .nil)))) (.cons (eDraw_ok sRow_ok) edl_ok) 600 fun T TD hT hTD => ?_)
  cbv
  refine Exists.intro nums (And.intro ⟨hxn, hn1⟩ ?_)
  intro w1
  cbv
  refine Exists.intro () (And.intro trivial ?_)
  rintro w2 _ ⟨p2, a2, b2, xs2, ec2, ne2, ed2, gr2, lo2, hi2, sh2, wi2, rfl, hp2, hv2⟩
  cbv
  have hV := checkS_ok hv2
  have hb21 : Big p2.shares := by have := hV.sh.len; unfold Big; omega
  have hb22 : Big p2.creep := by have := hV.cr.len; unfold Big; omega
  refine Exists.intro () (And.intro (by omega) ?_)
  rintro w3 _ ⟨t, rfl, ht1, ht2⟩
  replace ht2 : t ≤ 1200 := by omega
  cbv
  refine Exists.intro () (And.intro (by omega) ?_)
  rintro w4 _ ⟨ws, xw, rfl, hxw, hwl, hwb⟩
  have hl5 : ws.length ≤ 5 := by unfold iLen at hwl; omega
  have hR : RowV ws := ⟨by omega, fun x hx => by have := hwb x hx; omega⟩
  have hwB : BigL ws := by unfold BigL; omega
  have hfs : faultsS ws 30 200000 = 0 := faultsS_of (by omega) fun x hx => by have := hwb x hx; omega
  have hice : ∀ k, k ≤ 5000 → iceN ws k ≤ 1000 := fun k hk => by
    unfold iceN
    have : k * ws.length ≤ 5000 * 5 := Nat.mul_le_mul hk hl5
    omega
  have htb : 0 ≤ t ∧ t ≤ 5000 := by omega
  obtain ⟨F, hF⟩ : ∃ F, F = firstN (rowQ p2 t ws) 10001 := ⟨_, rfl⟩
  have hgp : gapS p2 t ws = if F < 10001 then (iLen F, 0) else (-1, 0) := by
    unfold gapS
    rw [if_neg (by simp [hv2]), if_neg (by omega), if_neg (by simp [hfs]), ← hF]
  cbv
  refine Exists.intro p2 (Exists.intro ws (And.intro hp2 (And.intro hb21 (And.intro hb22 (And.intro ⟨hxw, hwB⟩ ?_)))))
  rintro gv e0 hg
  rw [hgp] at hg
  by_cases hF1 : F < 10001
  · rw [if_pos hF1] at hg
    obtain ⟨hgv, rfl⟩ := Prod.mk.inj hg
    have hFat : rowQ p2 t ws F = true := by rw [hF]; exact firstN_at (by omega)
    have hFlt : ∀ i, i < F → rowQ p2 t ws i = false := fun i hi => firstN_lt (n := 10001) (by omega)
    have hmono := rowQ_mono hV hR (t := t)
    have hx1 : A.lt gv (-1) = false := by subst hA; simp only [std, iLt]; rw [decide_eq_false_iff_not, hgv]; unfold iLen; omega
    have hx2 : A.lt 10000 gv = false := by subst hA; simp only [std, iLt]; rw [decide_eq_false_iff_not, hgv]; unfold iLen; omega
    have hx3 : A.lt gv 0 = false := by subst hA; simp only [std, iLt]; rw [decide_eq_false_iff_not, hgv]; unfold iLen; omega
    cbv
    split <;> cbv
    · rename_i hq; exact Bool.noConfusion (hq.symm.trans hne0)
    split <;> cbv
    · rename_i hq; exact Bool.noConfusion (hq.symm.trans hx1)
    split <;> cbv
    · rename_i hq; exact Bool.noConfusion (hq.symm.trans hx2)
    rintro r hr1 hr2
    cbv
    split <;> cbv
    · rename_i hq; exact Bool.noConfusion (hq.symm.trans hx3)
    split <;> cbv
    · exact hk _
    rename_i z
    have hF4 : F ≤ 4000 := by
      have z : A.lt 4000 gv = false := z
      subst hA; simp only [std, iLt, decide_eq_false_iff_not] at z; rw [hgv] at z; unfold iLen at z; omega
    have hadd : A.add .i64 gv r = iLen (F + r.toNat) := by subst hA; rw [hgv]; exact (iAdd_id (by unfold iLen; omega) (by unfold iLen; omega)).trans (by unfold iLen; omega)
    refine Exists.intro p2 (Exists.intro ws (Exists.intro F (And.intro hp2 (And.intro hv2 (And.intro htb (And.intro hxw (And.intro hR (And.intro ⟨hgv, by omega, hice F (by omega)⟩ ?_))))))))
    rintro q1 hq1
    rw [hFat] at hq1; subst hq1
    cbv
    refine Exists.intro p2 (Exists.intro ws (Exists.intro (F + r.toNat) (And.intro hp2 (And.intro hv2 (And.intro htb (And.intro hxw (And.intro hR (And.intro ⟨hadd, by omega, hice _ (by omega)⟩ ?_))))))))
    rintro q2 hq2
    rw [hmono F (F + r.toNat) (by omega) hFat] at hq2; subst hq2
    cbv
    split <;> cbv
    · exact hk _
    rename_i z
    have hF0 : F ≠ 0 := by
      have z : A.eq gv 0 = false := z
      intro h0
      subst hA; simp only [std, iEq, hgv, h0] at z; cases z
    have hsub : A.sub .i64 gv 1 = iLen (F - 1) := by subst hA; rw [hgv]; exact (iSub_id (by unfold iLen; omega) (by unfold iLen; omega)).trans (by unfold iLen; omega)
    refine Exists.intro p2 (Exists.intro ws (Exists.intro (F - 1) (And.intro hp2 (And.intro hv2 (And.intro htb (And.intro hxw (And.intro hR (And.intro ⟨hsub, by omega, hice _ (by omega)⟩ ?_))))))))
    rintro q3 hq3
    rw [hFlt (F - 1) (by omega)] at hq3; subst hq3
    have hb : A.bnot false = true := hnb false
    cbv
    split <;> cbv
    · exact hk _
    · rename_i hq; exact Bool.noConfusion (hq.symm.trans hb)
  · rw [if_neg hF1] at hg
    obtain ⟨rfl, rfl⟩ := Prod.mk.inj hg
    have hFlt : ∀ i, i < 10001 → rowQ p2 t ws i = false := fun i hi => firstN_lt (n := 10001) (by omega)
    have hx1 : A.lt (-1) (-1) = false := by subst hA; rfl
    have hx2 : A.lt 10000 (-1) = false := by subst hA; rfl
    have hx3 : A.lt (-1) 0 = true := by subst hA; rfl
    cbv
    split <;> cbv
    · rename_i hq; exact Bool.noConfusion (hq.symm.trans hne0)
    split <;> cbv
    · rename_i hq; exact Bool.noConfusion (hq.symm.trans hx1)
    split <;> cbv
    · rename_i hq; exact Bool.noConfusion (hq.symm.trans hx2)
    rintro r hr1 hr2
    have hri : r = iLen r.toNat := by unfold iLen; omega
    cbv
    split <;> cbv
    · refine Exists.intro p2 (Exists.intro ws (Exists.intro r.toNat (And.intro hp2 (And.intro hv2 (And.intro htb (And.intro hxw (And.intro hR (And.intro ⟨hri, by omega, hice _ (by omega)⟩ ?_))))))))
      rintro q1 hq1
      rw [hFlt _ (by omega)] at hq1; subst hq1
      have hb : A.bnot false = true := hnb false
      cbv
      split <;> cbv
      · exact hk _
      · rename_i hq; exact Bool.noConfusion (hq.symm.trans hb)
    · rename_i hq; exact Bool.noConfusion (hq.symm.trans hx3)
end Go.Sas
