/-
  What is proved here: contracts on numbers of which nothing is known: the document's sums and its Power, wave.Forward and wave.Power; and of lists whose length does not fit. contracts of wave.Forward and wave.Power on numbers of which nothing is known, and on lists whose length does not fit. the loops of the law WavePower. the loops of the law WavePower behind its calls. the last loops of the law WavePower. the whole runs of the law WavePower. the contract of the laws' helper list. A text to be imported.
-/
import Derived.Test.YthddkcoflnbjbaaDoorQCon33
import Derived.Test.YthddkcoflnbjbaaDoorQCon30
namespace Go.Proofs.YthddkcoflnbjbaaDoor
open Sm Go Go.RowKit Fl Ieee
set_option maxRecDepth 1000000
set_option linter.unusedVariables false
def FU : C1 := .fl .f64
def UU (_ : Nat) : List C1 := [FU, FU]
def prU (n : Nat) : AV := .one (.lst n n 2 UU)
def bxU : Blk := { body := .li [FU, FU], elem := 45, live := true, ro := false }
theorem zero2 {E : Env} {vs : List Value} (h : RCs E [.sc (.float .f64 0) true, .sc (.float .f64 0) true] vs) : RCs E [FU, FU] vs := ⟨h.1, fun j c v hc hv => by
  match j, hc, hv with
  | 0, hc, hv => simp at hc; subst hc; exact ⟨0, (h.2 0 _ v rfl hv).1⟩
  | 1, hc, hv => simp at hc; subst hc; exact ⟨0, (h.2 1 _ v rfl hv).1⟩
  | j + 2, hc, hv => simp at hc⟩
/-! the sums -/
def hp47iU (k : Nat) : List Blk := [deadB, deadB, gB 45 k 2 UU, bxU, deadB]
theorem bxU_ren {a z : Nat} {js : List Nat} {hp : List Blk} : renB a z js hp bxU bxU := .inr ⟨rfl, rfl, rfl, rfl, rfl, trivial⟩
def hp47oU (k : Nat) : List Blk := [deadB, deadB, gB 45 k 2 UU]
def hBoU (k : Nat) : List Blk := [deadB, deadB, { gB 45 k 2 UU with live := false }, bxU, deadB, bxU, { body := .rs (k + 1) 2 (catR k UU fun _ => [FU, FU]), elem := 45, live := true, ro := false }]
/-! the document's Power -/
end Go.Proofs.YthddkcoflnbjbaaDoor
namespace Go.Proofs.YthddkcoflnbjbaaDoor
open Sm Go Go.RowKit Fl Ieee
set_option maxRecDepth 1000000
set_option linter.unusedVariables false
/-! wave.Power -/
/-! lengths that do not fit -/
end Go.Proofs.YthddkcoflnbjbaaDoor
namespace Go.Proofs.YthddkcoflnbjbaaDoor
open Sm Go Go.RowKit Fl Ieee
set_option maxRecDepth 1000000
set_option linter.unusedVariables false
def nq (x y : Nat) : Bool := FloatKind.f64.format.order x y != some .eq
def alk (x y : Nat) : Bool := bif feq x y then true else bif nq x x then nq y y else false
theorem run30 (x y : Nat) (u : Value) : runK Tryd.prog T FT 300 Tryd.f30 [AFl x, AFl y] [] [] (fun r _ => resW r = some u) = (some (Value.bool (alk x y)) = some u) := by kernel_rfl
def GAlk : List ArgV → Option Value
  | [.val (.float .f64 x), .val (.float .f64 y)] => some (.bool (alk x y))
  | _ => none
theorem con30 : Con Tryd.prog 30 GAlk := by
  refine con_of_runW hm hT FTok Tryd.func30 Tryd.call30 fun avs u h => ?_
  unfold GAlk at h
  split at h
  · simp only [Option.some.injEq] at h; subst h
    exact ⟨[false, false], 300, [], _, _, rfl, of_run (run30 _ _ _) rfl⟩
  · cases h
theorem alk_self (x : Nat) : alk x x = true := by
  unfold alk feq nq
  cases h : FloatKind.f64.format.order x x == some .eq with
  | true => rfl
  | false =>
    have : (FloatKind.f64.format.order x x != some .eq) = true := by simp only [bne, h, Bool.not_false]
    rw [this]; rfl
noncomputable def FAk : Fns := FT.add 30 GAlk
theorem FAkok : FnsOk Tryd.prog FAk := FTok.add con30
/-! the first loop -/
def w1e100 : Nat := 6103021453049119613
theorem blt_t {i n : Nat} (h : i < n) : Nat.blt i n = true := by rw [blt_eq]; exact decide_eq_true h
theorem blt_f {i n : Nat} (h : n ≤ i) : Nat.blt i n = false := by rw [blt_eq]; exact decide_eq_false (by omega)
end Go.Proofs.YthddkcoflnbjbaaDoor
namespace Go.Proofs.YthddkcoflnbjbaaDoor
open Sm Go Go.RowKit Fl Ieee
set_option maxRecDepth 1000000
set_option linter.unusedVariables false
/-! tame: the bound, the comparison -/
def k2e9 : Nat := 4476910133257361045
/-! the first result, written over -/
/-! the second result, looked at once more -/
end Go.Proofs.YthddkcoflnbjbaaDoor
namespace Go.Proofs.YthddkcoflnbjbaaDoor
open Sm Go Go.RowKit Fl Ieee
set_option maxRecDepth 1000000
set_option linter.unusedVariables false
/-! nine appends -/
end Go.Proofs.YthddkcoflnbjbaaDoor
namespace Go.Proofs.YthddkcoflnbjbaaDoor
open Sm Go Go.RowKit Fl Ieee
set_option maxRecDepth 1000000
set_option linter.unusedVariables false
noncomputable def c39a : Code := pathC (bodyC Tryd.f39) [0]
noncomputable def c39b : Code := pathC (bodyC Tryd.f39) [1]
def W77 : Nat := 4635118810238550016
def l39a (n : Nat) (x : Nat → Nat × Nat) (i : Nat) : List (Nat × AV) := [(0, prL n x), (3, .one (.gr 1 i 1)), (4, iv i)]
def l39c (n : Nat) (x : Nat → Nat × Nat) (b i : Nat) : List (Nat × AV) := [(0, prL n x), (3, .one (.gr b (n + i) 1)), (5, iv i)]
def h39a (i : Nat) (x : Nat → Nat × Nat) : List Blk := [deadB, gB 28 i 1 (fX x)]
theorem round39a (n : Nat) (x : Nat → Nat × Nat) (i : Nat) (X : Ex → Nat → List AV → List Blk → Prop) : roundK Tryd.prog T FT 300 c39a (tmL 40 (l39a n x i)) (h39a i x) [.b true, .d 12] [0, 3, 4] X =
  (decide ((i : Int) < n) = true ∧ (0 ≤ (i : Int) ∧ (i : Int) < n) ∧ (0 ≤ (i : Int) ∧ (i : Int) < n) ∧ ((i = i ∧ (i = 0 ∨ Nat.blt 0 i = true)) ∧ True ∧ (∀ k : Nat, 1 = 1 ∧ 1 = 1) ∧ (i + 1) * 16 ≤ 140737488355328 ∧ i + 1 ≤ maxLen) ∧
   X .normal 40 [prL n x, .one (.gr 3 (i + 1) 1), iv (W (i + 1))] [deadB, { gB 28 i 1 (fX x) with live := false }, { body := .li [CC (x (i : Int).toNat)], elem := 28, live := true, ro := false }, { body := .rs (i + 1) 1 (catR i (fX x) fun _ => [CC (x (i : Int).toNat)]), elem := 28, live := true, ro := false }]) := by kernel_rfl
theorem exit39a (n : Nat) (x : Nat → Nat × Nat) (i : Nat) (X : Ex → Nat → List AV → List Blk → Prop) : roundK Tryd.prog T FT 300 c39a (tmL 40 (l39a n x i)) (h39a i x) [.b false] [0, 3] X =
  (decide ((i : Int) < n) = false ∧ X (.exit 0) 40 [prL n x, .one (.gr 1 i 1)] (h39a i x)) := by kernel_rfl
def oneL (m : Nat) : Prop := (m = m ∧ (m = 0 ∨ Nat.blt 0 m = true)) ∧ True ∧ (∀ k : Nat, 1 = 1 ∧ 1 = 1) ∧ (m + 1) * 16 ≤ 140737488355328 ∧ m + 1 ≤ maxLen
def one77c (i : Nat) : Blk := { body := .li [CC (W77, i2f i)], elem := 28, live := true, ro := false }
theorem round39b (n : Nat) (x y : Nat → Nat × Nat) (i : Nat) (X : Ex → Nat → List AV → List Blk → Prop) : roundK Tryd.prog T FT 300 c39b (tmL 40 (l39c n x 2 (i + 1))) [deadB, deadB, gB 28 (n + (i + 1)) 1 (fX y)] [.b true] [0, 3, 5] X =
  (decide (((i + 1 : Nat) : Int) < 12) = true ∧ oneL (n + (i + 1)) ∧ X .normal 40 [prL n x, .one (.gr 4 (n + (i + 1) + 1) 1), iv (W ((i + 1 : Nat) + 1))]
    [deadB, deadB, { gB 28 (n + (i + 1)) 1 (fX y) with live := false }, one77c (i + 1), { body := .rs (n + (i + 1) + 1) 1 (catR (n + (i + 1)) (fX y) fun _ => [CC (W77, i2f (i + 1))]), elem := 28, live := true, ro := false }]) := by kernel_rfl
theorem round39b0 (n : Nat) (x : Nat → Nat × Nat) (X : Ex → Nat → List AV → List Blk → Prop) : roundK Tryd.prog T FT 300 c39b (tmL 40 (l39c n x 1 0)) [deadB, gB 28 (n + 0) 1 (fX x), deadB] [.b true] [0, 3, 5] X =
  (decide (((0 : Nat) : Int) < 12) = true ∧ oneL (n + 0) ∧ X .normal 40 [prL n x, .one (.gr 4 (n + 0 + 1) 1), iv (W ((0 : Nat) + 1))]
    [deadB, { gB 28 (n + 0) 1 (fX x) with live := false }, deadB, one77c 0, { body := .rs (n + 0 + 1) 1 (catR (n + 0) (fX x) fun _ => [CC (W77, i2f (0 : Nat))]), elem := 28, live := true, ro := false }]) := by kernel_rfl
theorem exit39b (n : Nat) (x y : Nat → Nat × Nat) (X : Ex → Nat → List AV → List Blk → Prop) : roundK Tryd.prog T FT 300 c39b (tmL 40 (l39c n x 2 12)) [deadB, deadB, gB 28 (n + 12) 1 (fX y)] [.b false] [0, 3] X =
  (decide (((12 : Nat) : Int) < 12) = false ∧ X (.exit 2) 40 [prL n x, .one (.gr 2 (n + 12) 1)] [deadB, deadB, gB 28 (n + 12) 1 (fX y)]) := by kernel_rfl
def pC (n : Nat) (x : Nat → Nat × Nat) (k : Nat) : Nat × Nat := if k < n then x k else (W77, i2f ((k - n : Nat) : Int))
def l39 (n : Nat) (x : Nat → Nat × Nat) : Nat → List (Nat × AV)
  | 0 => l39c n x 1 0
  | i + 1 => l39c n x 2 (i + 1)
def h39 (n : Nat) (x : Nat → Nat × Nat) : Nat → List Blk
  | 0 => [deadB, gB 28 (n + 0) 1 (fX x), deadB]
  | i + 1 => [deadB, deadB, gB 28 (n + (i + 1)) 1 (fX (pC n x))]
def cLst (n : Nat) (x : Nat → Nat × Nat) : AV := .one (.lst (n + 12) (n + 12) 1 (fX (pC n x)))
theorem prL_ren {a z : Nat} {js : List Nat} {hp : List Blk} (n : Nat) (x : Nat → Nat × Nat) : renA a z js hp (prL n x) (prL n x) := ⟨rfl, rfl, rfl, fun _ _ => rfl⟩
theorem renC_CC {a z : Nat} {js : List Nat} {hp : List Blk} {x y : Nat × Nat} (h : x = y) : renC a z js hp (CC x) (CC y) := by subst h; rfl
theorem pC_lt {n k : Nat} {x : Nat → Nat × Nat} (h : k < n) : pC n x k = x k := if_pos h
theorem pC_ge {n i : Nat} {x : Nat → Nat × Nat} : pC n x (n + i) = (W77, i2f (i : Int)) := by
  unfold pC
  rw [if_neg (by omega), show n + i - n = i by omega]
theorem loop39a {n : Nat} {x : Nat → Nat × Nat} (hn : n * 16 ≤ 140737488355328) : LoopOkB Tryd.prog 1 c39a (tmL 40 (l39a n x 0)) (h39a 0 x) (.exit 0) (tmL 40 [(0, prL n x), (3, .one (.gr 1 n 1))]) (h39a n x) := by
  refine grow_rounds hm hT 1 40 n (l39a n x) (fun i => h39a i x) (.exit 0) _ _ (by simp) (fun i _ => by simp [h39a]) (fun i hi => ⟨FT, FTok, 300, [.b true, .d 12], [], ?_⟩) ⟨FT, FTok, 300, [.b false], [], ?_⟩ 0 (Nat.zero_le _)
  · show roundK Tryd.prog T FT 300 c39a (tmL 40 (l39a n x i)) (h39a i x) [.b true, .d 12] [0, 3, 4] _
    have h0 : (i : Int).toNat = i := by omega
    have hr : 0 ≤ (i : Int) ∧ (i : Int) < n := ⟨by omega, by omega⟩
    rw [round39a, h0]
    refine ⟨decide_eq_true (by omega), hr, hr, ⟨⟨rfl, live0 i⟩, trivial, fun k => ⟨rfl, rfl⟩, by omega, by show i + 1 ≤ 9223372036854775807; omega⟩, rfl, rfl, _, [deadB], [_, _], _, [deadB], gB 28 (i + 1) 1 (fX x), .inl rfl, rfl, rfl, rfl, noFroz, ⟨prL_ren _ _, ⟨rfl, rfl, rfl⟩, sc_eq ?_, trivial⟩, ⟨.inl rfl, trivial⟩, gB_cat (fun k => rfl) rfl (fun k hk => renCs_L ⟨renC_CC rfl, trivial⟩) (renCs_L ⟨renC_CC rfl, trivial⟩)⟩
    rw [Wid (by omega) (by omega)]; rfl
  · show roundK Tryd.prog T FT 300 c39a (tmL 40 (l39a n x n)) (h39a n x) [.b false] [0, 3] _
    rw [exit39a]
    exact ⟨decide_eq_false (by omega), rfl, rfl, _, [deadB], [], _, [deadB], _, .inl rfl, rfl, rfl, rfl, noFroz, ⟨prL_ren _ _, ⟨rfl, rfl, rfl⟩, trivial⟩, ⟨.inl rfl, trivial⟩, gB_same fun k hk => renCs_L ⟨renC_CC rfl, trivial⟩⟩
theorem loop39b {n : Nat} {x : Nat → Nat × Nat} (hn : (n + 12) * 16 ≤ 140737488355328) : LoopOkB Tryd.prog 2 c39b (tmL 40 (l39 n x 0)) (h39 n x 0) (.exit 2) (tmL 40 [(0, prL n x), (3, cLst n x)]) [deadB, deadB, deadB] := by
  have hA : ∀ m, m < n + 12 → oneL m := fun m hm => ⟨⟨rfl, live0 m⟩, trivial, fun k => ⟨rfl, rfl⟩, by omega, by show m + 1 ≤ 9223372036854775807; omega⟩
  refine grow_rounds hm hT 2 40 12 (l39 n x) (h39 n x) (.exit 2) _ _ (by simp) (fun i _ => by cases i <;> simp [h39]) (fun i hi => ?_) ⟨FT, FTok, 300, [.b false], [2], ?_⟩ 0 (Nat.zero_le _)
  · cases i with
    | zero =>
      refine ⟨FT, FTok, 300, [.b true], [], ?_⟩
      show roundK Tryd.prog T FT 300 c39b (tmL 40 (l39c n x 1 0)) [deadB, gB 28 (n + 0) 1 (fX x), deadB] [.b true] [0, 3, 5] _
      rw [round39b0]
      exact ⟨rfl, hA _ (by omega), rfl, rfl, _, [deadB, _], [deadB, one77c 0], _, [deadB, deadB], gB 28 (n + 0 + 1) 1 (fX (pC n x)), .inl rfl, rfl, rfl, rfl, noFroz, ⟨prL_ren _ _, ⟨rfl, rfl, rfl⟩, sc_eq rfl, trivial⟩, ⟨.inl rfl, .inl rfl, trivial⟩,
        gB_cat (fun k => rfl) rfl (fun k hk => renCs_L ⟨renC_CC (pC_lt hk).symm, trivial⟩) (renCs_L ⟨renC_CC (pC_ge (i := 0)).symm, trivial⟩)⟩
    | succ i =>
      refine ⟨FT, FTok, 300, [.b true], [], ?_⟩
      show roundK Tryd.prog T FT 300 c39b (tmL 40 (l39c n x 2 (i + 1))) [deadB, deadB, gB 28 (n + (i + 1)) 1 (fX (pC n x))] [.b true] [0, 3, 5] _
      rw [round39b]
      refine ⟨decide_eq_true (by omega), hA _ (by omega), rfl, rfl, _, [deadB, deadB], [_, one77c (i + 1)], _, [deadB, deadB], gB 28 (n + (i + 1) + 1) 1 (fX (pC n x)), .inl rfl, rfl, rfl, rfl, noFroz, ⟨prL_ren _ _, ⟨rfl, rfl, rfl⟩, sc_eq ?_, trivial⟩, ⟨.inl rfl, .inl rfl, trivial⟩,
        gB_cat (fun k => rfl) rfl (fun k hk => renCs_L ⟨renC_CC rfl, trivial⟩) (renCs_L ⟨renC_CC (pC_ge (i := i + 1)).symm, trivial⟩)⟩
      rw [Wid (by omega) (by omega)]; rfl
  · show roundK Tryd.prog T FT 300 c39b (tmL 40 (l39c n x 2 12)) [deadB, deadB, gB 28 (n + 12) 1 (fX (pC n x))] [.b false] [0, 3] _
    rw [exit39b]
    refine ⟨rfl, rfl, rfl, [deadB, deadB, gB 28 (n + 12) 1 (fX (pC n x)), deadB], [deadB, deadB], [_], deadB, [deadB, deadB], deadB, .inr rfl, rfl, rfl, rfl, fun j hj => ?_, ⟨prL_ren _ _, ⟨rfl, rfl, rfl, froz_gB (by simp) rfl fun k => rfl⟩, trivial⟩, ⟨.inl rfl, .inl rfl, trivial⟩, .inl rfl⟩
    obtain rfl := List.mem_singleton.1 hj
    refine ⟨Nat.le_refl _, by simp, fun y hy => ?_⟩
    obtain rfl := Option.some.inj hy
    exact ⟨rfl, gB_free fun k => free1 trivial⟩
noncomputable def F39 (n : Nat) (x : Nat → Nat × Nat) (q q2 : Prop) : Fns := (FT.addLoop 1 c39a (loopC 40 (l39a n x 0) [deadB] q (.exit 0) [(0, prL n x), (3, .one (.gr 1 n 1))] (h39a n x))).addLoop 2 c39b (loopC 40 (l39 n x 0) [deadB, gB 28 (n + 0) 1 (fX x)] q2 (.exit 2) [(0, prL n x), (3, cLst n x)] [deadB, deadB, deadB])
theorem run39 (n : Nat) (x : Nat → Nat × Nat) (q q2 : Prop) (K : Option AV → List Blk → Prop) : runK Tryd.prog T (F39 n x q q2) 300 Tryd.f39 [prL n x] [deadB] [.l 1, .l 2] K =
  (c39a = c39a ∧ ((40 = 40 ∧ startLs [prL n x, .one (.sc (.slice none 0 0) true), .one (.sc (.int .i64 0) true)] ((l39a n x 0).map (·.2)) ∧ startBs [deadB] [deadB]) ∧ q) ∧
   c39b = c39b ∧ ((40 = 40 ∧ startLs [prL n x, .one (.gr 1 n 1), .one (.sc (.int .i64 0) true)] ((l39 n x 0).map (·.2)) ∧ startBs (h39a n x) [deadB, gB 28 (n + 0) 1 (fX x)]) ∧ q2) ∧
   (0 ≤ (n : Int) ∧ (n : Int) ≤ (n + 12 : Nat)) ∧ K (some (.one (.lst n (n + 12) 1 (fX (pC n x))))) [deadB, deadB, deadB]) := by kernel_rfl
def GList : List AV → Option (Prop × AV × Blk)
  | [.one (.lst n N 2 f)] => some (n ≤ N ∧ (n + 12) * 16 ≤ 140737488355328 ∧ ∀ k, k < n → f k = pF (wd2 f) k, .one (.lst n (n + 12) 1 (fX (pC n (wd2 f)))), deadB)
  | _ => none
theorem gcon39 : GCon Tryd.prog 39 GList := by
  refine gcon_of_runA hm hT Tryd.func39 Tryd.call39 fun args p v b h hp => ?_
  unfold GList at h
  split at h
  · rename_i n N f
    simp only [Option.some.injEq, Prod.mk.injEq] at h
    obtain ⟨rfl, rfl, rfl⟩ := h
    obtain ⟨hnN, hz, hf⟩ := hp
    generalize wd2 f = x at *
    refine ⟨.inl rfl, dead_free, F39 n x True True, [prL n x], (FTok.addGrow 1 (a := 1) (b0 := gB 28 0 1 (fX x)) rfl rfl fun _ => loop39a (by omega)).addGrow 2 (a := 2) (b0 := deadB) rfl rfl (fun _ => loop39b hz), fun E us hr => ?_, 300, [.l 1, .l 2], [], ?_⟩
    · obtain ⟨u, us, rfl, h1, h2⟩ := hr.cons
      exact .mk (lst_less (Nat.le_refl _) hnN hf h1) h2
    · exact of_run (run39 n x _ _ _) ⟨rfl, ⟨⟨rfl, ⟨rfl, trivial, rfl, trivial⟩, startBs.refl _⟩, trivial⟩, rfl, ⟨⟨rfl, ⟨rfl, rfl, rfl, trivial⟩, startBs.refl _⟩, trivial⟩, ⟨by omega, by omega⟩, _, rfl, nothing_left noFroz ⟨rfl, rfl, rfl, fun _ _ => rfl⟩⟩
  · cases h
end Go.Proofs.YthddkcoflnbjbaaDoor
