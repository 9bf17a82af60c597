/-
  What is proved here: the contract of the laws' helper kept. contracts chosen by the place of a call; what the law WaveForward asks of its helpers. A text to be imported.
-/
import Derived.Test.YthddkcoflnbjbaaDoorQCon56
import Derived.Test.YthddkcoflnbjbaaDoorQCon50
namespace Go.Proofs.YthddkcoflnbjbaaDoor
open Sm Go Go.RowKit Fl Ieee
set_option maxRecDepth 1000000
set_option linter.unusedVariables false
noncomputable def c43 : Code := pathC (bodyC Tryd.f43) [0]
def mLst (n : Nat) (x : Nat → Nat × Nat) : AV := .one (.lst n (n + 12) 1 (fX (pC n x)))
def l43 (n : Nat) (x : Nat → Nat × Nat) (i : Nat) : List (Nat × AV) := [(0, mLst n x), (1, prL n x), (5, cLst n x), (6, iv i)]
def sg43a : List Sg := [.b true, .b false, .b true, .b false, .b false]
def sg43b : List Sg := [.b true, .b true, .b false, .b false, .b false]
theorem round43a (n i : Nat) (x : Nat → Nat × Nat) (X : Ex → Nat → List AV → List Blk → Prop) : roundK Tryd.prog T0 FAk 300 c43 (tmL 74 (l43 n x i)) [deadB] sg43a [0, 1, 5, 6] X =
  (decide ((i : Int) < (n + 12 : Nat)) = true ∧ decide ((i : Int) ≥ n) = false ∧ decide ((i : Int) < n) = true ∧ (0 ≤ (i : Int) ∧ (i : Int) < (n + 12 : Nat)) ∧ (0 ≤ (i : Int) ∧ (i : Int) < n) ∧ (!alk (pC n x (i : Int).toNat).1 (x (i : Int).toNat).1) = false ∧
   (0 ≤ (i : Int) ∧ (i : Int) < (n + 12 : Nat)) ∧ (0 ≤ (i : Int) ∧ (i : Int) < n) ∧ (!alk (pC n x (i : Int).toNat).2 (x (i : Int).toNat).2) = false ∧
   X .normal 74 [mLst n x, prL n x, cLst n x, iv (W (i + 1))] [deadB]) := by kernel_rfl
def eqC (y : Nat × Nat) (k : Int) : Bool := FloatKind.f64.format.order y.1 W77 == some .eq && FloatKind.f64.format.order y.2 (FloatKind.f64.nearest k) == some .eq
theorem round43b (n i : Nat) (x : Nat → Nat × Nat) (X : Ex → Nat → List AV → List Blk → Prop) : roundK Tryd.prog T0 FAk 300 c43 (tmL 74 (l43 n x i)) [deadB] sg43b [0, 1, 5, 6] X =
  (decide ((i : Int) < (n + 12 : Nat)) = true ∧ decide ((i : Int) ≥ n) = true ∧ (0 ≤ (i : Int) ∧ (i : Int) < (n + 12 : Nat)) ∧ (!eqC (pC n x (i : Int).toNat) (W ((i : Int) - n))) = false ∧ decide ((i : Int) < n) = false ∧
   X .normal 74 [mLst n x, prL n x, cLst n x, iv (W (i + 1))] [deadB]) := by kernel_rfl
theorem exit43 (n i : Nat) (x : Nat → Nat × Nat) (X : Ex → Nat → List AV → List Blk → Prop) : roundK Tryd.prog T0 FAk 300 c43 (tmL 74 (l43 n x i)) [deadB] [.b false] [0, 1] X =
  (decide ((i : Int) < (n + 12 : Nat)) = false ∧ X (.exit 0) 74 [mLst n x, prL n x] [deadB]) := by kernel_rfl
theorem eq12 : ∀ j : Nat, j < 12 → eqC (W77, i2f (j : Int)) (j : Int) = true := by
  intro j hj
  match j, hj with
  | 0, _ | 1, _ | 2, _ | 3, _ | 4, _ | 5, _ | 6, _ | 7, _ | 8, _ | 9, _ | 10, _ | 11, _ => decide +kernel
theorem loop43 {n : Nat} {x : Nat → Nat × Nat} (hn : n ≤ 17592186044416) : LoopOk Tryd.prog c43 (tmL 74 (l43 n x 0)) [deadB] (.exit 0) (tmL 74 [(0, mLst n x), (1, prL n x)]) [deadB] := by
  refine loop_rounds hm hT0 FAkok 74 (n + 12) (fun i => l43 n x i) (fun _ => [deadB]) (.exit 0) _ _ (fun e => by cases e) (fun i hi => ?_) ⟨300, [.b false], ?_⟩ 0 (Nat.zero_le _)
  · have h0 : (i : Int).toNat = i := by omega
    have hr12 : 0 ≤ (i : Int) ∧ (i : Int) < (n + 12 : Nat) := ⟨by omega, by omega⟩
    by_cases hin : i < n
    · have hr : 0 ≤ (i : Int) ∧ (i : Int) < n := ⟨by omega, by omega⟩
      refine ⟨300, sg43a, ?_⟩
      show roundK Tryd.prog T0 FAk 300 c43 (tmL 74 (l43 n x i)) [deadB] sg43a [0, 1, 5, 6] _
      rw [round43a, h0]
      refine ⟨decide_eq_true (by omega), decide_eq_false (by omega), decide_eq_true (by omega), hr12, hr, by rw [pC_lt hin, alk_self]; rfl, hr12, hr, by rw [pC_lt hin, alk_self]; rfl, rfl, rfl, ⟨sameV.refl _, sameV.refl _, sameV.refl _, iv_same _ _ ?_, trivial⟩, HpLe.refl _⟩
      rw [Wid (by omega) (by omega)]; omega
    · refine ⟨300, sg43b, ?_⟩
      show roundK Tryd.prog T0 FAk 300 c43 (tmL 74 (l43 n x i)) [deadB] sg43b [0, 1, 5, 6] _
      obtain ⟨j, rfl⟩ : ∃ j, i = n + j := ⟨i - n, by omega⟩
      rw [round43b, h0]
      refine ⟨decide_eq_true (by omega), decide_eq_true (by omega), hr12, ?_, decide_eq_false (by omega), rfl, rfl, ⟨sameV.refl _, sameV.refl _, sameV.refl _, iv_same _ _ ?_, trivial⟩, HpLe.refl _⟩
      · rw [pC_ge, show (((n + j : Nat) : Int) - n) = (j : Int) by omega, Wid (by omega) (by omega), eq12 j (by omega)]; rfl
      · rw [Wid (by omega) (by omega)]; omega
  · show roundK Tryd.prog T0 FAk 300 c43 (tmL 74 (l43 n x (n + 12))) [deadB] [.b false] [0, 1] _
    rw [exit43]
    exact ⟨decide_eq_false (by omega), rfl, rfl, ⟨sameV.refl _, sameV.refl _, trivial⟩, HpLe.refl _⟩
noncomputable def F43 (n : Nat) (x : Nat → Nat × Nat) (q : Prop) : Fns := FT.addLoop 0 c43 (loopC 74 (l43 n x 0) [deadB] q (.exit 0) [(0, mLst n x), (1, prL n x)] [deadB])
theorem run43 (n : Nat) (x : Nat → Nat × Nat) (q : Prop) (K : Option AV → List Blk → Prop) : runK Tryd.prog T (F43 n x q) 300 Tryd.f43 [mLst n x, prL n x] [deadB] [.n ((n + 12 : Nat) : Int), .l 0] K =
  ((W ((n : Int) + 12) == ((n + 12 : Nat) : Int)) = true ∧ (0 ≤ ((n + 12 : Nat) : Int) ∧ ((n + 12 : Nat) : Int) ≤ ((n + 12 : Nat) : Int)) ∧ c43 = c43 ∧
   ((74 = 74 ∧ startLs [mLst n x, prL n x, cLst n x, .one (.sc (.int .i64 0) true)] ((l43 n x 0).map (·.2)) ∧ startBs [deadB] [deadB]) ∧ q) ∧ K (some (.one (.sc (.bool ((n : Int) == n)) false))) [deadB]) := by kernel_rfl
def GKept : List AV → Option (Prop × AV × Blk)
  | [.one (.lst n N 1 f), .one (.lst m M 2 g)] => some (n = m ∧ N = n + 12 ∧ n ≤ M ∧ n ≤ 17592186044416 ∧ (∀ k, k < n + 12 → f k = fX (pC n (wd2 g)) k) ∧ ∀ k, k < n → g k = pF (wd2 g) k, .one (.sc (.bool true) true), deadB)
  | _ => none
theorem gcon43 : GCon Tryd.prog 43 GKept := by
  refine gcon_of_runA hm hT Tryd.func43 Tryd.call43 fun args p v b h hp => ?_
  unfold GKept at h
  split at h
  · rename_i n N f m M g
    simp only [Option.some.injEq, Prod.mk.injEq] at h
    obtain ⟨rfl, rfl, rfl⟩ := h
    obtain ⟨rfl, rfl, hM, hn, hf, hg⟩ := hp
    generalize wd2 g = x at *
    refine ⟨.inl rfl, dead_free, F43 n x True, [mLst n x, prL n x], FTok.addKeep 0 fun _ => loop43 hn, fun E us hr => ?_, 300, [.n ((n + 12 : Nat) : Int), .l 0], [], ?_⟩
    · obtain ⟨u, us, rfl, h1, h2⟩ := hr.cons
      obtain ⟨u2, us, rfl, h3, h4⟩ := h2.cons
      exact .mk (lst_less (by omega) (Nat.le_refl _) hf h1) (.mk (lst_less (Nat.le_refl _) hM hg h3) h4)
    · refine of_run (run43 n x _ _) ⟨beq_iff_eq.2 (Wid (by omega) (by omega)), ⟨by omega, Int.le_refl _⟩, rfl, ⟨⟨rfl, ⟨rfl, rfl, rfl, rfl, trivial⟩, startBs.refl _⟩, trivial⟩, _, rfl, nothing_left noFroz ?_⟩
      show Value.bool ((n : Int) == n) = Value.bool true
      rw [beq_self_eq_true]
  · cases h
end Go.Proofs.YthddkcoflnbjbaaDoor
namespace Sm
open Go Go.RowKit
def Fns.addGs (F : Fns) (f : FuncId) (G : Nat → List AV → Option (Prop × AV × Blk)) : Fns :=
  { F with gnp := fun g args hp => match Nat.beq g f with
      | true => match argsF hp args with
        | some (q, args', js) => match G hp.length args' with
          | some (p, v, b) => some (q ∧ p, shiftA hp.length v, killL hp js ++ [b])
          | .none => .none
        | .none => .none
      | false => F.gnp g args hp }
theorem FnsOk.addGs {P : Program} {F : Fns} {f : FuncId} {G : Nat → List AV → Option (Prop × AV × Blk)} (hF : FnsOk P F) (hc : ∀ k, GCon P f (G k)) : FnsOk P (F.addGs f G) :=
  ⟨hF.pr, hF.pure, hF.pre, hF.ext, hF.gen, fun g args hp p v hp' h hp1 => (hF.addG (hc hp.length)).gnp g args hp p v hp' h hp1, hF.cal, hF.loops⟩
theorem gcon_more {P : Program} {f : FuncId} {G G' : List AV → Option (Prop × AV × Blk)} (h : GCon P f G) (hle : ∀ args p v b, G' args = some (p, v, b) → p → ∃ p' v', G args = some (p', v', b) ∧ p' ∧ ∀ (E : Env) (u : Value), RV E v' u → RV E v u) : GCon P f G' := by
  refine ⟨h.1, fun args p v b hG hp => ?_⟩
  obtain ⟨p', v', h1, h2, h3⟩ := hle args p v b hG hp
  obtain ⟨g1, g2, g3⟩ := h.2 args p' v' b h1 h2
  refine ⟨g1, g2, fun w e0 us hh hra => (g3 w e0 us hh hra).mono ?_⟩
  rintro e w' ⟨u, e', rfl, hrv, hrest⟩
  exact ⟨u, e', rfl, h3 _ _ hrv, hrest⟩
def Fns.withCo (F : Fns) (co : FuncId → Option (List Sg)) : Fns := { F with co := co }
theorem FnsOk.withCo {P : Program} {F : Fns} (h : FnsOk P F) (co : FuncId → Option (List Sg)) : FnsOk P (F.withCo co) := ⟨h.pr, h.pure, h.pre, h.ext, h.gen, h.gnp, h.cal, h.loops⟩
end Sm
namespace Go.Proofs.YthddkcoflnbjbaaDoor
open Sm Go Go.RowKit Fl Ieee
set_option maxRecDepth 1000000
set_option linter.unusedVariables false
theorem bool_RC {E : Env} {a b s t : Bool} {u : Value} (h : a = b) (hr : RC E (.sc (.bool a) s) u) : RC E (.sc (.bool b) t) u := by subst h; exact hr
def GWtT : List AV → Option (Prop × AV × Blk)
  | [.one (.lst n N 2 f)] => some (tmC (wd2 f) n = true ∧ n ≤ 17592186044416 ∧ n ≤ N ∧ (∀ k, k < n → f k = pF (wd2 f) k) ∧ okWt n (wd2 f), .tup [(false, [FC (smC (wd2 f) n)]), (false, [.sc (.bool true) true])], deadB)
  | _ => none
def GWtG (g : Bool) : List AV → Option (Prop × AV × Blk)
  | [.one (.lst n N 2 f)] => some (tmC (wd2 f) n = g ∧ n ≤ 17592186044416 ∧ n ≤ N ∧ (∀ k, k < n → f k = pF (wd2 f) k), .tup [(false, [FU]), (false, [.sc (.bool g) true])], deadB)
  | _ => none
theorem gcon40T : GCon Tryd.prog 40 GWtT := by
  refine gcon_more gcon40 fun args p v b h hp => ?_
  unfold GWtT at h
  split at h
  · rename_i n N f
    simp only [Option.some.injEq, Prod.mk.injEq] at h
    obtain ⟨rfl, rfl, rfl⟩ := h
    refine ⟨_, _, rfl, hp.2, fun E u hr => ?_⟩
    obtain ⟨vs, hv, hl, h2⟩ := hr
    refine ⟨vs, hv, hl, fun j q v hq hv => ?_⟩
    match j, hq with
    | 0, hq => exact h2 0 _ v rfl hv |> fun h => by cases hq; exact h
    | 1, hq => cases hq; obtain ⟨c, hc, hr⟩ := h2 1 _ v rfl hv; exact ⟨_, rfl, bool_RC hp.1 (by cases hc; exact hr)⟩
  · cases h
theorem gcon40G (g : Bool) : GCon Tryd.prog 40 (GWtG g) := by
  refine gcon_more gcon40K fun args p v b h hp => ?_
  unfold GWtG at h
  split at h
  · rename_i n N f
    simp only [Option.some.injEq, Prod.mk.injEq] at h
    obtain ⟨rfl, rfl, rfl⟩ := h
    refine ⟨_, _, rfl, hp.2, fun E u hr => ?_⟩
    obtain ⟨vs, hv, hl, h2⟩ := hr
    refine ⟨vs, hv, hl, fun j q v hq hv => ?_⟩
    match j, hq with
    | 0, hq => exact h2 0 _ v rfl hv |> fun h => by cases hq; exact h
    | 1, hq => cases hq; obtain ⟨c, hc, hr⟩ := h2 1 _ v rfl hv; exact ⟨_, rfl, bool_RC hp.1 (by cases hc; exact hr)⟩
  · cases h
end Go.Proofs.YthddkcoflnbjbaaDoor
