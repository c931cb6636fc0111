/-
The code of some functions with its types resolved, printed by a program; that it is the code is checked by the kernel.
Freight: a copy of a row of spans, to be written to: contract.
Freight: a copy of a freight whose capacities may be written to: contract.
Conditions: none.
-/
import Derived.Test.YthpjckoklnhbcaaZ4
import Derived.Test.YthpjckoklnhbcaaProg
import Derived.Test.YthpjckoklnhbcaaY19
set_option linter.unusedVariables false
set_option linter.unusedSimpArgs false
namespace Go.Sas
open Go.Proofs
set_option maxRecDepth 100000
/-- sastrugi/sastrugikit.OwnSpans -/
def c63m : ACode :=
  (.seq
(.reg [
  ⟨(some (true, 2)), .mv (.c (.lit (.slice none 0 0))), none⟩])
(.seq
(.reg [
  ⟨(some (false, 3)), .mks true 2 [], none⟩,
  ⟨(some (false, 4)), .mv (.g 0), none⟩,
  ⟨(some (false, 5)), .app 2 16 (.l 3) (.l 4), none⟩,
  ⟨(some (true, 2)), .mv (.l 5), none⟩])
.ret))
def K63m : List Nat := [0, 2]
noncomputable def b63m : Code := match Try.f63.body with | some c => c | none => .skip
theorem t63m : trCode ⟨Try.prog, K63m, [3], 6, none⟩ b63m = some c63m := by kernel_rfl
theorem go63m {args : List AV} {H : AHeap} {Kk : AV → AHeap → Prop} (hn : args.length = 1) (h : AGo ⟨Try.prog, K63m, [3], 6, none⟩ H.length [.code c63m] (RetP [.t (.g 2)] H.length Kk) ⟨[], argsG 0 args⟩ H) : ACalls Try.prog 63 args H Kk :=
  ACalls_of Try.func63 (c := b63m) rfl (by kernel_rfl) t63m (rs := [.t (.g 2)]) (by kernel_rfl) (by rw [hn]; exact Nat.le_of_ble_eq_true rfl) (by rw [hn]; rfl) (h.weaken (fun _ _ => RetP.hands) (by simp))

end Go.Sas
namespace Go.Sas
open Go.Proofs
set_option maxRecDepth 100000
theorem p63m (cs : List (Int × Int)) (hc : cs.length ≤ 1000000) (H : AHeap) {Kk : AV → AHeap → Prop} (h : Kk (.ms 2 H.length 1 0 cs.length) (H ++ [.own 1 (cs.flatMap spC)])) : ACalls Try.prog 63 [.vs 2 (cs.map sp)] H Kk := by
  have h1 : ACalls Try.prog 63 [.vs 2 (cs.map sp)] [] fun r H' => r = .ms 2 0 1 0 cs.length ∧ H' = [.own 1 (cs.flatMap spC)] := by
    clear h Kk
    obtain ⟨Kk, hKk⟩ : ∃ K : AV → AHeap → Prop, K = fun r H' => r = .ms 2 0 1 0 cs.length ∧ H' = [.own 1 (cs.flatMap spC)] := ⟨_, rfl⟩
    rw [← hKk]
    have hk : Kk (.ms 2 0 1 0 cs.length) [.own 1 (cs.flatMap spC)] := by rw [hKk]; exact ⟨rfl, rfl⟩
    clear hKk
    have hEl := Elems_map (f := sp) (g := spC) (sz := 2) (fun _ => rfl) (fun _ => rfl) (fun _ => rfl) cs
    have hap := app_all (sz := 2) (by_ := 16) (n := 0) (cs := []) (es := cs.map sp) rfl hEl.1 (by simp; omega)
    obtain ⟨xs, hxs⟩ : ∃ xs, xs = cs.map sp := ⟨_, rfl⟩
    obtain ⟨xc, hxc⟩ : ∃ ys, ys = cs.flatMap spC := ⟨_, rfl⟩
    obtain ⟨N, hN⟩ : ∃ N, N = 0 + xs.length := ⟨_, rfl⟩
    rw [← hxs, ← hxc] at hap
    rw [← hN] at hap
    have hNl : N = cs.length := by rw [hN, hxs]; simp
    rw [← hxc, ← hNl] at hk
    rw [← hxs]
    obtain ⟨A, hA⟩ : ∃ A, A = std := ⟨_, rfl⟩
    have happ : A.app 2 2 16 [] 0 0 xs xc N := by subst hA; exact hap
    refine go63m rfl (SGo_run hA ⟨[0], [], [], []⟩ .nil .nil 200 fun T TD hT hTD => ?_)
    cbv
    refine And.intro (by subst hA; rfl) (Exists.intro xc (Exists.intro N (And.intro happ (And.intro rfl ?_)))); cbv
    exact hk
  have h2 := ACalls.frame (H := H) [] h1 List.nodup_nil rfl (AV.ltL_nid (by rfl)) (by simp [ltH]) (fun k X hk => by simp at hk)
  rw [AV.renL_nid (by rfl)] at h2
  refine h2.mono fun r H' hx => ?_
  obtain ⟨r0, H1, ⟨rfl, rfl⟩, _, rfl, rfl⟩ := hx
  have hnid : AV.nidL (cs.flatMap spC) = true := nidL_flat (fun _ => rfl) _
  simpa [merge, updL, AObj.ren, AV.renL, AV.ren, more, at_, AV.renL_nid hnid] using h
end Go.Sas
namespace Go.Sas
open Go.Proofs
set_option maxRecDepth 100000
def eOwnSpM : List AV → AHeap → Option PT
  | [.vs 2 xs], H => some fun K => ∃ cs : List (Int × Int), (xs = cs.map sp ∧ cs.length ≤ 1000000) ∧ ∀ n cc, n = cs.length → cc = cs.flatMap spC → K (.ms 2 H.length 1 0 n) (H ++ [.own 1 cc])
  | _, _ => none
theorem eOwnSpM_ok : ∀ args H pt, eOwnSpM args H = some pt → ∀ (Kk : AV → AHeap → Prop), pt Kk → ACalls Try.prog 63 args H Kk := by
  intro args H pt h Kk hk
  unfold eOwnSpM at h
  split at h
  · cases h
    obtain ⟨cs, ⟨rfl, h1⟩, h2⟩ := hk
    exact p63m _ h1 H (h2 _ _ rfl rfl)
  · cases h
theorem Frees.weak {m : Nat} {Kk : AV → AHeap → Prop} {r : AV} {H : AHeap} (q : Nat) {gg : Nat} {cs : List AV} (hX : H[q]? = some (.own gg cs)) (h : Frees m Kk r (H.set q (.own gg []))) : Frees m Kk r H :=
  fun st0 w0 st w v hm he hH hr => h st0 w0 st w v hm he (hH.weak hX) hr
theorem p18m (a b c d : Int) (cs : List (Int × Int)) (os : List Ord) (hc : cs.length ≤ 1000000) (ho : os.length ≤ 1000000) (H : AHeap) {Kk : AV → AHeap → Prop}
    (h : Kk (frV a b c d (.ms 2 (H.length + 2) 1 0 cs.length) (.vs 4 (os.map orV))) (H ++ [.own 0 [], .own 0 [], .own 1 (cs.flatMap spC)])) : ACalls Try.prog 18 [frV a b c d (.vs 2 (cs.map sp)) (.vs 4 (os.map orV))] H Kk := by
  have h1 : ACalls Try.prog 18 [frV a b c d (.vs 2 (cs.map sp)) (.vs 4 (os.map orV))] [] fun r H' => r = frV a b c d (.ms 2 2 1 0 cs.length) (.vs 4 (os.map orV)) ∧ H' = [.own 0 [], .own 0 [], .own 1 (cs.flatMap spC)] := by
    clear h Kk
    obtain ⟨Kk, hKk⟩ : ∃ K : AV → AHeap → Prop, K = fun r H' => r = frV a b c d (.ms 2 2 1 0 cs.length) (.vs 4 (os.map orV)) ∧ H' = [.own 0 [], .own 0 [], .own 1 (cs.flatMap spC)] := ⟨_, rfl⟩
    rw [← hKk]
    have h : Kk (frV a b c d (.ms 2 2 1 0 cs.length) (.vs 4 (os.map orV))) [.own 0 [], .own 0 [], .own 1 (cs.flatMap spC)] := by rw [hKk]; exact ⟨rfl, rfl⟩
    clear hKk
    refine ACalls.frees ?_
    have hEl := Elems_map (f := orV) (g := orC) (sz := 4) (fun _ => rfl) (fun _ => rfl) (fun _ => rfl) os
    have hap := app_all (sz := 4) (by_ := 32) (n := 0) (cs := []) (es := os.map orV) rfl hEl.1 (by simp; omega)
    obtain ⟨xs, hxs⟩ : ∃ xs, xs = cs.map sp := ⟨_, rfl⟩
    obtain ⟨ys, hys⟩ : ∃ ys, ys = os.map orV := ⟨_, rfl⟩
    obtain ⟨yc, hyc⟩ : ∃ ys, ys = os.flatMap orC := ⟨_, rfl⟩
    obtain ⟨xc, hxc⟩ : ∃ ys, ys = cs.flatMap spC := ⟨_, rfl⟩
    obtain ⟨M, hM⟩ : ∃ M, M = cs.length := ⟨_, rfl⟩
    have hnx : AV.nidL xc = true := by rw [hxc]; exact nidL_flat (fun _ => rfl) _
    obtain ⟨N, hN⟩ : ∃ N, N = 0 + ys.length := ⟨_, rfl⟩
    rw [← hys, ← hyc] at hEl hap
    rw [← hN] at hap
    rw [← hys, ← hxc, ← hM] at h
    rw [← hxs, ← hys]
    obtain ⟨A, hA⟩ : ∃ A, A = std := ⟨_, rfl⟩
    obtain ⟨F, hF⟩ : ∃ F, F = Frees 0 Kk := ⟨_, rfl⟩
    rw [show Frees ([] : AHeap).length Kk = F from hF.symm]
    have happ : A.app 4 4 32 [] 0 0 ys yc N := by subst hA; exact hap
    refine go18 rfl (SGo_run hA ⟨[2, 3], [2000000], [], (63, eOwnSpM) :: []⟩ .nil (.cons eOwnSpM_ok .nil) 200 fun T TD hT hTD => ?_)
    cbv
    refine Exists.intro cs (And.intro ⟨hxs, hc⟩ ?_)
    intro n cc hn hcc; cbv
    refine And.intro (by subst hA; first | (simp [std, Keep, SubH, ResK]; done) | exact .inr ⟨⟨rfl, SubH.self _⟩, trivial, .inr fun _ => ⟨rfl, SubH.self _⟩⟩ | exact .inr ⟨SubH.self _, trivial, .inr fun _ => SubH.self _⟩ | exact .inr ⟨by simp [SubH], trivial, .inl rfl⟩ | exact .inr ⟨by simp [SubH], trivial, .inr fun _ => by simp [SubH]⟩) ?_
    cbv
    refine Exists.intro yc (Exists.intro N (And.intro happ (And.intro rfl ?_))); cbv
    refine And.intro (by subst hA; first | (simp [std, Keep, SubH, ResK]; done) | exact .inr ⟨⟨rfl, SubH.self _⟩, trivial, .inr fun _ => ⟨rfl, SubH.self _⟩⟩ | exact .inr ⟨SubH.self _, trivial, .inr fun _ => SubH.self _⟩ | exact .inr ⟨by simp [SubH], trivial, .inl rfl⟩ | exact .inr ⟨by simp [SubH], trivial, .inr fun _ => by simp [SubH]⟩) ?_
    cbv
    refine And.intro (by subst hA; exact .inr ⟨by simp [SubH], trivial, .inl rfl⟩) ?_; cbv
    rw [hF]
    rw [← hxc] at hcc; rw [← hM] at hn; subst hn hcc
    have hNl : N = ys.length := by omega
    have e1 : AV.frz 3 0 4 ys (.ms 4 3 0 0 N) = .vs 4 ys := frz_self hNl.symm
    have e2 : AV.frz 3 0 4 ys (.ms 2 2 1 0 n) = .ms 2 2 1 0 n := by simp [AV.frz]
    refine Frees.weak 0 rfl (Frees.weak 1 rfl (Frees.frz 3 0 4 ys rfl hEl ?_))
    have hr : AV.frz 3 0 4 ys (aTup [.agg [I a, I b, I c, I d, .ms 2 2 1 0 n, .ms 4 3 0 0 N]]) = frV a b c d (.ms 2 2 1 0 n) (.vs 4 ys) := by
      simp only [aTup, AV.frz, AV.frzL] at e1 e2 ⊢
      rw [e1, e2]
    have hH : frzH 3 0 4 ys [.own 0 [], .own 0 [], .own 1 cc, .gone] = [.own 0 [], .own 0 [], .own 1 cc] ++ [.gone] := by simp [frzH, AObj.frz, AV.frzL, AV.frzL_nid hnx]
    show Frees 0 Kk (AV.frz 3 0 4 ys (aTup [.agg [I a, I b, I c, I d, .ms 2 2 1 0 n, .ms 4 3 0 0 N]])) (frzH 3 0 4 ys [.own 0 [], .own 0 [], .own 1 cc, .gone])
    rw [hr, hH]
    exact Frees.drop (by simp) (by rfl) (by simp only [ltHB, AV.ltLB, List.length_cons, List.length_nil, nidL_ltBn hnx, Bool.and_true]) (Frees.now h)
  have h2 := ACalls.frame (H := H) [] h1 List.nodup_nil rfl (AV.ltL_nid (by rfl)) (by simp [ltH]) (fun k X hk => by simp at hk)
  rw [AV.renL_nid (by rfl)] at h2
  refine h2.mono fun r H' hx => ?_
  obtain ⟨r0, H1, ⟨rfl, rfl⟩, _, rfl, rfl⟩ := hx
  have hnid : AV.nidL (cs.flatMap spC) = true := nidL_flat (fun _ => rfl) _
  simpa [merge, updL, AObj.ren, AV.renL, AV.ren, more, at_, AV.renL_nid hnid] using h
def eOwnFrM : List AV → AHeap → Option PT
  | [.agg [.lit (.int .i64 a), .lit (.int .i64 b), .lit (.int .i64 c), .lit (.int .i64 d), .vs 2 xs, .vs 4 ys]], H =>
    some fun K => ∃ (cs : List (Int × Int)) (os : List Ord), (xs = cs.map sp ∧ ys = os.map orV ∧ cs.length ≤ 1000000 ∧ os.length ≤ 1000000) ∧ ∀ n cc, n = cs.length → cc = cs.flatMap spC → K (frV a b c d (.ms 2 (H.length + 2) 1 0 n) (.vs 4 ys)) (H ++ [.own 0 [], .own 0 [], .own 1 cc])
  | _, _ => none
theorem eOwnFrM_ok : ∀ args H pt, eOwnFrM args H = some pt → ∀ (Kk : AV → AHeap → Prop), pt Kk → ACalls Try.prog 18 args H Kk := by
  intro args H pt h Kk hk
  unfold eOwnFrM at h
  split at h
  · cases h
    obtain ⟨cs, os, ⟨rfl, rfl, h1, h2⟩, h3⟩ := hk
    exact p18m _ _ _ _ _ _ h1 h2 H (h3 _ _ rfl rfl)
  · cases h
end Go.Sas
