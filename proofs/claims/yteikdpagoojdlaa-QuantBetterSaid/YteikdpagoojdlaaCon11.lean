/-
  What is proved here: contracts of Table, of the program and of the reference (second part). A text to be imported.
-/
import Derived.Test.YteikdpagoojdlaaCon10
namespace Go.Proofs.Yteikdpagoojdlaa
open Sm Go Go.RowKit
set_option maxRecDepth 1000000
set_option linter.unusedSimpArgs false
set_option linter.unusedVariables false
noncomputable def LS : Code := pathC (bodyC Try.f21) [0, 0]
def condS (x : Nat) (s : Int) : Bool := bif decide (s < 255) then leF (FloatKind.f64.nearest (W (s + 1))) x else false
/-- How many steps up. -/
def cnt (x : Nat) : Nat → Nat → Nat
  | 0, _ => 0
  | n + 1, s => if condS x (s : Nat) = true then cnt x n (s + 1) + 1 else 0
theorem cnt_spec (x : Nat) : ∀ (n s : Nat), s + n = 256 → 1 ≤ s → cnt x n s ≤ 255 - s + 1 ∧ (∀ i, i < cnt x n s → condS x ((s + i : Nat) : Int) = true) ∧ (n ≠ 0 → condS x ((s + cnt x n s : Nat) : Int) = false)
  | 0, s, h, h1 => by
    simp only [cnt]
    exact ⟨by omega, fun i hi => by omega, fun h0 => absurd rfl h0⟩
  | n + 1, s, h, h1 => by
    simp only [cnt]
    split
    · rename_i hc
      obtain ⟨a1, a2, a3⟩ := cnt_spec x n (s + 1) (by omega) (by omega)
      have hs : s < 255 := by
        unfold condS at hc
        by_cases hs : ((s : Nat) : Int) < 255
        · omega
        · rw [decide_eq_false hs] at hc; cases hc
      refine ⟨by omega, fun i hi => ?_, fun _ => ?_⟩
      · cases i with
        | zero => exact hc
        | succ i => rw [show s + (i + 1) = s + 1 + i from by omega]; exact a2 i (by omega)
      · rw [show s + (cnt x n (s + 1) + 1) = s + 1 + cnt x n (s + 1) from by omega]
        exact a3 (by omega)
    · rename_i hc
      exact ⟨by omega, fun i hi => by omega, fun _ => by simpa using hc⟩
def stN (x : Nat) : Nat := 1 + cnt x 255 1
def stR (x : Nat) : Int := (stN x : Nat)
def ii (s : Int) : AV := .one (.sc (.int .i64 s) false)
theorem rS (hp : List Blk) (v0 v1 v4 v5 v6 v8 v9 : AV) (x : Nat) (s : Int) (X : Ex → Nat → List AV → List Blk → Prop) :
    roundK Try.prog T Fns.none 300 LS (tmL 77 [(0, v0), (1, v1), (4, v4), (5, v5), (6, v6), (8, v8), (9, v9), (15, fx x), (16, ii s)]) hp [.b true] [0, 1, 4, 5, 6, 8, 9, 15, 16] X =
    (condS x s = true ∧ X .normal 77 [v0, v1, v4, v5, v6, v8, v9, fx x, ii (W (s + 1))] hp) := by kernel_rfl
theorem eS (hp : List Blk) (v0 v1 v4 v5 v6 v8 v9 : AV) (x : Nat) (s : Int) (X : Ex → Nat → List AV → List Blk → Prop) :
    roundK Try.prog T Fns.none 300 LS (tmL 77 [(0, v0), (1, v1), (4, v4), (5, v5), (6, v6), (8, v8), (9, v9), (15, fx x), (16, ii s)]) hp [.b false] [0, 1, 4, 5, 6, 8, 9, 15, 16] X =
    (condS x s = false ∧ X (.exit 2) 77 [v0, v1, v4, v5, v6, v8, v9, fx x, ii s] hp) := by kernel_rfl
theorem roundS (hp : List Blk) (v0 v1 v4 v5 v6 v8 v9 : AV) (x n : Nat) (hn : n < 255) (a2 : condS x ((1 + n : Nat) : Int) = true) :
    roundK Try.prog T Fns.none 300 LS (tmL 77 [(0, v0), (1, v1), (4, v4), (5, v5), (6, v6), (8, v8), (9, v9), (15, fx x), (16, ii ((1 + n : Nat) : Int))]) hp [.b true] [0, 1, 4, 5, 6, 8, 9, 15, 16] (After .normal 77 [(0, v0), (1, v1), (4, v4), (5, v5), (6, v6), (8, v8), (9, v9), (15, fx x), (16, ii ((1 + (n + 1) : Nat) : Int))] hp) := by
  rw [rS]
  refine ⟨a2, rfl, rfl, ?_, HpLe.refl _⟩
  refine ⟨sameV.refl _, sameV.refl _, sameV.refl _, sameV.refl _, sameV.refl _, sameV.refl _, sameV.refl _, sameV.refl _, ?_, trivial⟩
  show Value.int .i64 (W (((1 + n : Nat) : Int) + 1)) = Value.int .i64 ((1 + (n + 1) : Nat) : Int)
  rw [show W (((1 + n : Nat) : Int) + 1) = ((1 + n : Nat) : Int) + 1 from w64 (by omega) (by omega)]
  rfl
theorem exitS (hp : List Blk) (v0 v1 v4 v5 v6 v8 v9 : AV) (x n : Nat) (a3 : condS x ((1 + n : Nat) : Int) = false) :
    roundK Try.prog T Fns.none 300 LS (tmL 77 [(0, v0), (1, v1), (4, v4), (5, v5), (6, v6), (8, v8), (9, v9), (15, fx x), (16, ii ((1 + n : Nat) : Int))]) hp [.b false] [0, 1, 4, 5, 6, 8, 9, 15, 16] (After (.exit 2) 77 [(0, v0), (1, v1), (4, v4), (5, v5), (6, v6), (8, v8), (9, v9), (15, fx x), (16, ii ((1 + n : Nat) : Int))] hp) := by
  rw [eS]
  refine ⟨a3, rfl, rfl, ?_, HpLe.refl _⟩
  exact ⟨sameV.refl _, sameV.refl _, sameV.refl _, sameV.refl _, sameV.refl _, sameV.refl _, sameV.refl _, sameV.refl _, sameV.refl _, trivial⟩
theorem loopS (hp : List Blk) (v0 v1 v4 v5 v6 v8 v9 : AV) (x N : Nat) (hN : N ≤ 255) (a2 : ∀ i, i < N → condS x ((1 + i : Nat) : Int) = true) (a3 : condS x ((1 + N : Nat) : Int) = false) :
    LoopOk Try.prog LS (tmL 77 [(0, v0), (1, v1), (4, v4), (5, v5), (6, v6), (8, v8), (9, v9), (15, fx x), (16, ii ((1 + 0 : Nat) : Int))]) hp (.exit 2) (tmL 77 [(0, v0), (1, v1), (4, v4), (5, v5), (6, v6), (8, v8), (9, v9), (15, fx x), (16, ii ((1 + N : Nat) : Int))]) hp :=
  loop_rounds hm hT FnsOk.none 77 N (fun n => [(0, v0), (1, v1), (4, v4), (5, v5), (6, v6), (8, v8), (9, v9), (15, fx x), (16, ii ((1 + n : Nat) : Int))]) (fun _ => hp) (.exit 2) [(0, v0), (1, v1), (4, v4), (5, v5), (6, v6), (8, v8), (9, v9), (15, fx x), (16, ii ((1 + N : Nat) : Int))] hp (fun h => by cases h)
    (fun n hn => ⟨300, [.b true], roundS hp v0 v1 v4 v5 v6 v8 v9 x n (by omega) (a2 n hn)⟩) ⟨300, [.b false], exitS hp v0 v1 v4 v5 v6 v8 v9 x N a3⟩ 0 (by omega)
def cS (tm : Tm) (hp : List Blk) : Option (Prop × Ex × Tm × List Blk) :=
  match getT tm 15, getT tm 16 with
  | .one (.sc (.float .f64 x) _), .one (.sc (.int .i64 s) _) =>
    some (tm.n = 77 ∧ s = 1, .exit 2, tmL 77 [(0, getT tm 0), (1, getT tm 1), (4, getT tm 4), (5, getT tm 5), (6, getT tm 6), (8, getT tm 8), (9, getT tm 9), (15, fx x), (16, ii (stR x))], hp)
  | _, _ => none
theorem cS_ok (tm : Tm) (hp : List Blk) (p : Prop) (x : Ex) (tm' : Tm) (hp' : List Blk) (h : cS tm hp = some (p, x, tm', hp')) (hp1 : p) : LoopOk Try.prog LS tm hp x tm' hp' := by
  unfold cS at h
  split at h
  · rename_i y st s st' h15 h16
    simp only [Option.some.injEq, Prod.mk.injEq] at h
    obtain ⟨rfl, rfl, rfl, rfl⟩ := h
    obtain ⟨hn, rfl⟩ := hp1
    obtain ⟨a1, a2, a3⟩ := cnt_spec y 255 1 rfl (by omega)
    refine (loopS hp (getT tm 0) (getT tm 1) (getT tm 4) (getT tm 5) (getT tm 6) (getT tm 8) (getT tm 9) y (cnt y 255 1) (by omega) a2 (a3 (by omega))).weak (Weak.of hn ⟨sameV.refl _, sameV.refl _, sameV.refl _, sameV.refl _, sameV.refl _, sameV.refl _, sameV.refl _, ?_, ?_, trivial⟩ (HpLe.refl _)) (Weak.refl _ _)
    · rw [h15]; exact rfl
    · rw [h16]; exact rfl
  · cases h
noncomputable def FM : Fns := FE.addLoop 0 LS cS
theorem FMok : FnsOk Try.prog FM := FEok.addLoop 0 LS cS cS_ok
def rAsks (q : Nat) (c : Bool) : Nat → Nat → Prop → Prop
  | 0, _, r => r
  | n + 1, k, r => xAsk q c k (LS = LS ∧ (((77 : Nat) = 77 ∧ (1 : Int) = 1) ∧ rAsks q c n (k + 1) r))
def tabR (q : Nat) (c : Bool) (k : Nat) : Int := IntKind.u16.wrap (stR (xK q c k))
theorem bad21 (q : Nat) (c : Bool) (u : Value) : runK Try.prog T FM 9000 Try.f21 [fx q, .one (.sc (.bool c) false)] [] [.b true] (fun r _ => resW r = some u) = ((!inQ q) = true ∧ (some (Value.tuple #[vU16 (fun _ => 0), .int .i64 81]) = some u)) := by kernel_rfl
theorem run21_false (q : Nat) (u : Value) : runK Try.prog T FM 9000 Try.f21 [fx q, bx false] [] ([.b false, .m] ++ ((List.replicate 64 [Sg.u, Sg.l 0]).flatten ++ [.u])) (fun r _ => resW r = some u) = ((!inQ q) = false ∧ (fok .mul .f64 c2 q = true ∧ (fok .sub .f64 c200 (q2 q) = true ∧ (fok .quo .f64 c5000 q = true ∧ rAsks q false 64 0 (some (Value.tuple #[vU16 (tabR q false), .int .i64 0]) = some u))))) := by kernel_rfl
theorem run21_true (q : Nat) (u : Value) : runK Try.prog T FM 9000 Try.f21 [fx q, bx true] [] ([.b false, .m] ++ ((List.replicate 64 [Sg.u, Sg.l 0]).flatten ++ [.u])) (fun r _ => resW r = some u) = ((!inQ q) = false ∧ (fok .mul .f64 c2 q = true ∧ (fok .sub .f64 c200 (q2 q) = true ∧ (fok .quo .f64 c5000 q = true ∧ rAsks q true 64 0 (some (Value.tuple #[vU16 (tabR q true), .int .i64 0]) = some u))))) := by kernel_rfl
end Go.Proofs.Yteikdpagoojdlaa
