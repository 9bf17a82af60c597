/-
  What is proved here: the runs of the laws WaveThere, WaveSquares, WaveMoved. A text to be imported.
-/
import Derived.Test.YthddkcoflnbjbaaDoorCon20
namespace Go.Proofs.YthddkcoflnbjbaaDoor
open Sm Go Go.RowKit Fl Ieee
set_option maxRecDepth 1000000
set_option linter.unusedVariables false
noncomputable def FQ0 : Fns := ((((FD1.addG 15 GFit).addG 17 GTwin).addG 20 GClose).addG 21 GBack).addG 23 GPow
theorem FQ0ok : FnsOk Tryd.prog FQ0 := ((((FD1ok.addG gcon15).addG gcon17).addG gcon20).addG gcon21).addG gcon23
noncomputable def FQ : Fns := FQ0.add 14 GAlive
theorem FQok : FnsOk Tryd.prog FQ := FQ0ok.add con14

def nF (m : Nat) : Nat := 2 ^ pFit m
def thF (m : Nat) (X : Nat → Nat × Nat) : Nat → Nat × Nat := trY 1 (nF m).log2 X
def s1W (m : Nat) (x : Nat → Nat) : Nat := fbin .add .f64 kOne (sW m x (nF m))
def bdW (m : Nat) (x : Nat → Nat) : Nat := fbin .mul .f64 (fbin .mul .f64 c8 (s1W m x)) (i2f (nF m))
def frX (m : Nat) (X : Nat → Nat × Nat) : Prop := (nF m ≤ nF m ∧ ∀ k : Nat, freeC (CC (X k))) ∧ True
def frX2 (m : Nat) (X : Nat → Nat × Nat) : Prop := (nF m ≤ nF m ∧ ∀ k : Nat, freeC (CC (X k))) ∧ True ∧ True ∧ True
def obF (m : Nat) (x : Nat → Nat) : Prop := (True ∧ True) ∧ m = m ∧ (∀ k : Nat, fF x k = fF x k) ∧ m ≤ 9223372036854775807
def obTw (m : Nat) (x : Nat → Nat) : Prop := (True ∧ True) ∧ isX (nF m) (nF m) (fX (XW m x)) ∧ nF m ≤ 4096
def obB3 (m : Nat) (x : Nat → Nat) (r : Prop) : Prop := fok .add .f64 kOne (sW m x (nF m)) = true ∧ fok .mul .f64 c8 (s1W m x) = true ∧ fok .mul .f64 (fbin .mul .f64 c8 (s1W m x)) (i2f (nF m)) = true ∧ r
def obCl (m : Nat) (b : Nat) (X Y : Nat → Nat × Nat) : Prop := isX (nF m) (nF m) (fX X) ∧ isX (nF m) (nF m) (fX Y) ∧ nF m = nF m ∧ nF m ≤ 4096 ∧ ∀ k, k < nF m → wi2 b (X k).1 (Y k).1 ∧ wi2 b (X k).2 (Y k).2
theorem run5 (m : Nat) (x : Nat → Nat) (u : Value) : runK Tryd.prog T FQ 600 Tryd.f5 [xF m x] [deadB] [] (fun r _ => resW r = some u) =
    (obF m x ∧ obTw m x ∧ ((True ∧ True) ∧ okP 1 (nF m) (nF m) (fX (XW m x))) ∧ (frX m (thF m (XW m x)) ∧ isX (nF m) (nF m) (fX (thF m (XW m x))) ∧ okBk (nF m) (thF m (XW m x))) ∧
     obTw m x ∧ ((True ∧ True) ∧ isX (nF m) (nF m) (fX (XW m x)) ∧ okBk (nF m) (XW m x)) ∧ (frX m (bckY (nF m) (XW m x)) ∧ okP 1 (nF m) (nF m) (fX (bckY (nF m) (XW m x)))) ∧
     obB3 m x ((frX2 m (bckY (nF m) (thF m (XW m x))) ∧ obCl m (bdW m x) (bckY (nF m) (thF m (XW m x))) (XW m x)) ∧
     obB3 m x ((frX2 m (thF m (bckY (nF m) (XW m x))) ∧ obCl m (bdW m x) (thF m (bckY (nF m) (XW m x))) (XW m x)) ∧ some (Value.bool true) = some u))) := by kernel_rfl

/-! Squares -/
noncomputable def cS1 : Code := pathC (bodyC Tryd.f6) [0]
noncomputable def cS2 : Code := pathC (bodyC Tryd.f6) [1]
def lS1 (n : Nat) (X : Nat → Nat × Nat) (s q i : Nat) : List (Nat × AV) := [(3, bt), (4, xL n X), (6, .one (.gr 2 i 1)), (7, AFl s), (8, AFl q), (9, iv i)]
def hS1 (i : Nat) (y : Nat → Nat) : List Blk := [deadB, deadB, gB 25 i 1 (fF y)]
def lS2 (n : Nat) (s q f t i : Nat) : List (Nat × AV) := [(7, AFl s), (8, AFl q), (11, .one (.sl 3 0 n 1)), (13, AFl f), (14, AFl t), (15, iv i)]
def sA6 (X : Nat → Nat × Nat) (k : Nat) : Nat := fsum (fun j => absW (X j).1) 0 k
def sQ6 (X : Nat → Nat × Nat) (k : Nat) : Nat := fsum (fun j => fbin .mul .f64 (X j).1 (X j).1) 0 k
def re6 (X : Nat → Nat × Nat) (k : Nat) : Nat := (X k).1
def hS1n (i : Nat) (y : Nat → Nat) (c : C1) : List Blk := [deadB, deadB, { gB 25 i 1 (fF y) with live := false }, { body := .li [c], elem := 25, live := true, ro := false }, { body := .rs (i + 1) 1 (catR i (fF y) fun _ => [c]), elem := 25, live := true, ro := false }]
theorem roundS1 (n : Nat) (X : Nat → Nat × Nat) (y : Nat → Nat) (s q i : Nat) (Q : Ex → Nat → List AV → List Blk → Prop) : roundK Tryd.prog T FT 300 cS1 (tmL 92 (lS1 n X s q i)) (hS1 i y) [.b true] [3, 4, 6, 7, 8, 9] Q =
    (decide ((i : Int) < n) = true ∧ (0 ≤ (i : Int) ∧ (i : Int) < n) ∧ ((i = i ∧ (i = 0 ∨ Nat.blt 0 i = true)) ∧ True ∧ (∀ k : Nat, (fF y k).length = 1 ∧ ([FC (X (i : Int).toNat).1] : List C1).length = 1) ∧ (i + 1) * 8 ≤ 140737488355328 ∧ i + 1 ≤ maxLen) ∧
     fok .add .f64 s (absW (X (i : Int).toNat).1) = true ∧ fok .mul .f64 (X (i : Int).toNat).1 (X (i : Int).toNat).1 = true ∧ fok .add .f64 q (fbin .mul .f64 (X (i : Int).toNat).1 (X (i : Int).toNat).1) = true ∧
     Q .normal 92 [bt, xL n X, .one (.gr 4 (i + 1) 1), AFl (fbin .add .f64 s (absW (X (i : Int).toNat).1)), AFl (fbin .add .f64 q (fbin .mul .f64 (X (i : Int).toNat).1 (X (i : Int).toNat).1)), iv (W (i + 1))] (hS1n i y (FC (X (i : Int).toNat).1))) := by kernel_rfl
theorem exitS1 (n : Nat) (X : Nat → Nat × Nat) (y : Nat → Nat) (s q i : Nat) (Q : Ex → Nat → List AV → List Blk → Prop) : roundK Tryd.prog T FT 300 cS1 (tmL 92 (lS1 n X s q i)) (hS1 i y) [.b false] [3, 6, 7, 8] Q =
    (decide ((i : Int) < n) = false ∧ Q (.exit 0) 92 [bt, .one (.gr 2 i 1), AFl s, AFl q] (hS1 i y)) := by kernel_rfl
theorem roundS2 (n : Nat) (y : Nat → Nat) (s q f t i : Nat) (Q : Ex → Nat → List AV → List Blk → Prop) : roundK Tryd.prog T FT 300 cS2 (tmL 92 (lS2 n s q f t i)) [deadB, deadB, deadB, pB n y] [.b true] [7, 8, 11, 13, 14, 15] Q =
    (decide ((i : Int) < n) = true ∧ (0 ≤ (i : Int) ∧ (i : Int) < n) ∧ 0 + (i : Int).toNat < n ∧ fok .add .f64 t (y (0 + (i : Int).toNat)) = true ∧
     Q .normal 92 [AFl s, AFl q, .one (.sl 3 0 n 1), AFl f, AFl (fbin .add .f64 t (y (0 + (i : Int).toNat))), iv (W (i + 1))] [deadB, deadB, deadB, pB n y]) := by kernel_rfl
theorem exitS2 (n : Nat) (y : Nat → Nat) (s q f t i : Nat) (Q : Ex → Nat → List AV → List Blk → Prop) : roundK Tryd.prog T FT 300 cS2 (tmL 92 (lS2 n s q f t i)) [deadB, deadB, deadB, pB n y] [.b false] [7, 8, 13, 14] Q =
    (decide ((i : Int) < n) = false ∧ Q (.exit 2) 92 [AFl s, AFl q, AFl f, AFl t] [deadB, deadB, deadB, pB n y]) := by kernel_rfl
def okS1 (n : Nat) (X : Nat → Nat × Nat) : Prop := ∀ i, i < n → fok .add .f64 (sA6 X i) (absW (X i).1) = true ∧ fok .mul .f64 (X i).1 (X i).1 = true ∧ fok .add .f64 (sQ6 X i) (fbin .mul .f64 (X i).1 (X i).1) = true
def lS1f (n : Nat) (X : Nat → Nat × Nat) : List (Nat × AV) := [(3, bt), (6, .one (.gr 2 n 1)), (7, AFl (sA6 X n)), (8, AFl (sQ6 X n))]
theorem loopS1 {n : Nat} {X : Nat → Nat × Nat} (hn : n ≤ 4096) (hok : okS1 n X) : LoopOkB Tryd.prog 2 cS1 (tmL 92 (lS1 n X 0 0 0)) (hS1 0 (re6 X)) (.exit 0) (tmL 92 (lS1f n X)) (hS1 n (re6 X)) := by
  refine grow_rounds hm hT 2 92 n (fun i => lS1 n X (sA6 X i) (sQ6 X i) i) (fun i => hS1 i (re6 X)) (.exit 0) _ _ (by simp) (fun i _ => by simp [hS1]) (fun i hi => ⟨FT, FTok, 300, [.b true], [], ?_⟩) ⟨FT, FTok, 300, [.b false], [], ?_⟩ 0 (Nat.zero_le _)
  · show roundK Tryd.prog T FT 300 cS1 (tmL 92 (lS1 n X (sA6 X i) (sQ6 X i) i)) (hS1 i (re6 X)) [.b true] [3, 4, 6, 7, 8, 9] _
    have h1 : (i : Int).toNat = i := by omega
    obtain ⟨k1, k2, k3⟩ := hok i hi
    rw [roundS1, h1]
    refine ⟨decide_eq_true (by omega), ⟨by omega, by omega⟩, ⟨⟨rfl, live0 i⟩, trivial, fun k => ⟨rfl, rfl⟩, by omega, by show i + 1 ≤ 9223372036854775807; omega⟩, k1, k2, k3, rfl, rfl, _, [deadB, deadB], [_, _], _, [deadB, deadB], gB 25 (i + 1) 1 (fF (re6 X)), .inl rfl, rfl, rfl, rfl, noFroz, ⟨rfl, ⟨rfl, rfl, rfl, fun _ _ => rfl⟩, ⟨rfl, rfl, rfl⟩, sc_eq rfl, sc_eq rfl, sc_eq ?_, trivial⟩, ⟨.inl rfl, .inl rfl, trivial⟩, gB_cat (fun k => rfl) rfl (fun k hk => renCs_L ⟨rfl, trivial⟩) (renCs_L ⟨rfl, trivial⟩)⟩
    rw [Wid (by omega) (by omega)]; rfl
  · show roundK Tryd.prog T FT 300 cS1 (tmL 92 (lS1 n X (sA6 X n) (sQ6 X n) n)) (hS1 n (re6 X)) [.b false] [3, 6, 7, 8] _
    rw [exitS1]
    exact ⟨decide_eq_false (by omega), rfl, rfl, _, [deadB, deadB], [], _, [deadB, deadB], _, .inl rfl, rfl, rfl, rfl, noFroz, ⟨rfl, ⟨rfl, rfl, rfl⟩, rfl, rfl, trivial⟩, ⟨.inl rfl, .inl rfl, trivial⟩, gB_same fun k hk => renCs_L ⟨rfl, trivial⟩⟩
theorem loopS2 {n : Nat} {y : Nat → Nat} {s q f : Nat} (hn : n ≤ 4096) (hok : ∀ i, i < n → fok .add .f64 (fsum y 0 i) (y i) = true) :
    LoopOk Tryd.prog cS2 (tmL 92 (lS2 n s q f 0 0)) [deadB, deadB, deadB, pB n y] (.exit 2) (tmL 92 [(7, AFl s), (8, AFl q), (13, AFl f), (14, AFl (fsum y 0 n))]) [deadB, deadB, deadB, pB n y] := by
  refine loop_rounds hm hT FTok 92 n (fun i => lS2 n s q f (fsum y 0 i) i) (fun i => [deadB, deadB, deadB, pB n y]) (.exit 2) _ _ (fun e => by cases e) (fun i hi => ⟨300, [.b true], ?_⟩) ⟨300, [.b false], ?_⟩ 0 (Nat.zero_le _)
  · show roundK Tryd.prog T FT 300 cS2 (tmL 92 (lS2 n s q f (fsum y 0 i) i)) [deadB, deadB, deadB, pB n y] [.b true] [7, 8, 11, 13, 14, 15] _
    have h0 : 0 + (i : Int).toNat = i := by omega
    rw [roundS2, h0]
    refine ⟨decide_eq_true (by omega), ⟨by omega, by omega⟩, hi, hok i hi, rfl, rfl, ⟨sameV.refl _, sameV.refl _, sameV.refl _, sameV.refl _, sameV.refl _, iv_same _ _ ?_, trivial⟩, HpLe.refl _⟩
    rw [Wid (by omega) (by omega)]; omega
  · show roundK Tryd.prog T FT 300 cS2 (tmL 92 (lS2 n s q f (fsum y 0 n) n)) [deadB, deadB, deadB, pB n y] [.b false] [7, 8, 13, 14] _
    rw [exitS2]
    exact ⟨decide_eq_false (by omega), rfl, rfl, ⟨sameV.refl _, sameV.refl _, sameV.refl _, sameV.refl _, trivial⟩, HpLe.refl _⟩
def pwY (n : Nat) (x : Nat → Nat) (k : Nat) : Nat := pwW (pY n x k)
noncomputable def F6 (n : Nat) (X : Nat → Nat × Nat) (s q f : Nat) (q1 q2 : Prop) : Fns :=
  (FQ.addLoop 0 cS1 (loopC 92 (lS1 n X 0 0 0) [deadB, deadB] q1 (.exit 0) (lS1f n X) (hS1 n (re6 X)))).addLoop 1 cS2 (loopC 92 (lS2 n s q f 0 0) [deadB, deadB, deadB, pB n (pwY n (re6 X))] q2 (.exit 2) [(7, AFl s), (8, AFl q), (13, AFl f), (14, AFl (fsum (pwY n (re6 X)) 0 n))] [deadB, deadB, deadB, pB n (pwY n (re6 X))])

def f1W (s : Nat) : Nat := fbin .add .f64 kOne s
def b6a (s : Nat) : Nat := fbin .mul .f64 c8 (f1W s)
def b6b (s : Nat) : Nat := fbin .mul .f64 (b6a s) (f1W s)
def b6 (s f : Nat) : Nat := fbin .mul .f64 (b6b s) f
def st6 (m : Nat) (x : Nat → Nat) (s q f : Nat) (q2 : Prop) : Prop := (92 = 92 ∧ startLs [AFl (sA6 (XW m x) (nF m)), AFl (sQ6 (XW m x) (nF m)), .one (.sl 3 0 (nF m) 1), AFl (i2f (nF m)), .one (.sc (.float .f64 0) true), .one (.sc (.int .i64 0) true)] ((lS2 (nF m) s q f 0 0).map (·.2)) ∧
  startBs [deadB, deadB, { gB 25 (nF m) 1 (fF (re6 (XW m x))) with live := false }, pB (nF m) (pwY (nF m) (re6 (XW m x)))] [deadB, deadB, deadB, pB (nF m) (pwY (nF m) (re6 (XW m x)))]) ∧ q2
theorem run6 (m : Nat) (x : Nat → Nat) (s q f : Nat) (q1 q2 : Prop) (u : Value) : runK Tryd.prog T (F6 (nF m) (XW m x) s q f q1 q2) 600 Tryd.f6 [xF m x] [deadB] [.l 0, .b false, .l 1] (fun r _ => resW r = some u) =
    (obF m x ∧ cS1 = cS1 ∧ ((92 = 92 ∧ startLs [.one (.sc (.bool true) true), xL (nF m) (XW m x), .one (.sc (.slice none 0 0) true), .one (.sc (.float .f64 0) true), .one (.sc (.float .f64 0) true), .one (.sc (.int .i64 0) true)] ((lS1 (nF m) (XW m x) 0 0 0).map (·.2)) ∧ startBs [deadB, deadB] [deadB, deadB]) ∧ q1) ∧
     (((nF m = nF m ∧ (nF m = 0 ∨ (gB 25 (nF m) 1 (fF (re6 (XW m x)))).live = true) ∧ (∀ k : Nat, (fF (re6 (XW m x)) k).length = 1) ∧ ∀ (k : Nat) (c : C1), c ∈ fF (re6 (XW m x)) k → freeC c) ∧ True) ∧ isF (nF m) (nF m) (fF (re6 (XW m x))) ∧ okPow (nF m) (re6 (XW m x))) ∧
     (bif false then true else (nF m : Int) != (nF m : Int)) = false ∧ cS2 = cS2 ∧ st6 m x s q f q2 ∧
     fok .mul .f64 f q = true ∧ fok .add .f64 kOne s = true ∧ fok .mul .f64 c8 (f1W s) = true ∧ fok .add .f64 kOne s = true ∧ fok .mul .f64 (b6a s) (f1W s) = true ∧ fok .mul .f64 (b6b s) f = true ∧
     fok .sub .f64 (fsum (pwY (nF m) (re6 (XW m x))) 0 (nF m)) (fbin .mul .f64 f q) = true ∧
     some (Value.bool (fle (absW (fbin .sub .f64 (fsum (pwY (nF m) (re6 (XW m x))) 0 (nF m)) (fbin .mul .f64 f q))) (b6 s f))) = some u) := by kernel_rfl
end Go.Proofs.YthddkcoflnbjbaaDoor
