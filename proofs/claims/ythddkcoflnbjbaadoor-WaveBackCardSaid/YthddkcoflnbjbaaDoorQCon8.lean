/-
  What is proved here: the rounds of wave.transform. A text to be imported.
-/
import Derived.Test.YthddkcoflnbjbaaDoorQCon7
namespace Go.Proofs.YthddkcoflnbjbaaDoor
open Sm Go Go.RowKit Fl Ieee
set_option maxRecDepth 1000000
set_option linter.unusedVariables false
def CC (x : Nat × Nat) : C1 := .sc (.complex .f64 x.1 x.2) false
def fX (X : Nat → Nat × Nat) (k : Nat) : List C1 := [CC (X k)]
def bY (n : Nat) (Y : Nat → Nat × Nat) : Blk := { body := .sy n fun j => CC (Y j), elem := 28, live := true, ro := false, full := true }
def bU (n : Nat) (Y : Nat → Nat × Nat) (o : Nat) (a : Nat × Nat) : Blk := { body := .sy n (updG (fun j => CC (Y j)) o (CC a)), elem := 28, live := true, ro := false, full := true }
def slY (n : Nat) : AV := .one (.sl 1 0 n 1)
def xL (n : Nat) (X : Nat → Nat × Nat) : AV := .one (.lst n n 1 (fX X))
noncomputable def cZ : Code := pathC (bodyC Tryd.f32) [0]
noncomputable def cS : Code := pathC (bodyC Tryd.f32) [1]
noncomputable def cF : Code := pathC (bodyC Tryd.f32) [1, 0]
noncomputable def cK : Code := pathC (bodyC Tryd.f32) [1, 0, 0]
def lZ (n : Nat) (X : Nat → Nat × Nat) (way sh : Int) (i : Nat) : List (Nat × AV) := [(1, iv way), (5, iv n), (6, slY n), (7, iv sh), (24, xL n X), (25, iv n), (26, iv i)]
def plZ (sh : Int) (i : Nat) : Int := (rv64 (U i)).fdiv (2 ^ (min sh.toNat 64))
theorem roundZ (n : Nat) (X Y : Nat → Nat × Nat) (way sh : Int) (i : Nat) (Q : Ex → Nat → List AV → List Blk → Prop) : roundK Tryd.prog T FB 300 cZ (tmL 104 (lZ n X way sh i)) [deadB, bY n Y] [.b true, .b true] [1, 5, 6, 7, 24, 25, 26] Q =
  (decide ((i : Int) < n) = true ∧ (0 ≤ (i : Int) ∧ (i : Int) < n) ∧ decide ((n : Int) > 1) = true ∧ decide (sh < 0) = false ∧ (0 ≤ plZ sh i ∧ plZ sh i < n) ∧ 0 + (plZ sh i).toNat < n ∧
   Q .normal 104 [iv way, iv n, slY n, iv sh, xL n X, iv n, iv (W (i + 1))] [deadB, bU n Y (0 + (plZ sh i).toNat) (X i)]) := by kernel_rfl
theorem round1 (n : Nat) (X Y : Nat → Nat × Nat) (way sh : Int) (i : Nat) (Q : Ex → Nat → List AV → List Blk → Prop) : roundK Tryd.prog T FB 300 cZ (tmL 104 (lZ n X way sh i)) [deadB, bY n Y] [.b true, .b false] [1, 5, 6, 7, 24, 25, 26] Q =
  (decide ((i : Int) < n) = true ∧ (0 ≤ (i : Int) ∧ (i : Int) < n) ∧ decide ((n : Int) > 1) = false ∧ (0 ≤ (i : Int) ∧ (i : Int) < n) ∧ 0 + ((i : Int)).toNat < n ∧
   Q .normal 104 [iv way, iv n, slY n, iv sh, xL n X, iv n, iv (W (i + 1))] [deadB, bU n Y (0 + ((i : Int)).toNat) (X i)]) := by kernel_rfl
theorem exitZ (n : Nat) (X Y : Nat → Nat × Nat) (way sh : Int) (i : Nat) (Q : Ex → Nat → List AV → List Blk → Prop) : roundK Tryd.prog T FB 300 cZ (tmL 104 (lZ n X way sh i)) [deadB, bY n Y] [.b false] [1, 5, 6] Q =
  (decide ((i : Int) < n) = false ∧ Q (.exit 0) 104 [iv way, iv n, slY n] [deadB, bY n Y]) := by kernel_rfl
/-! the innermost loop -/
def lK (n : Nat) (way size : Int) (fr hf : Int) (k : Nat) : List (Nat × AV) := [(1, iv way), (5, iv n), (6, slY n), (10, iv size), (11, iv fr), (58, iv hf), (59, iv k)]
def pl0 (fr : Int) (k : Nat) : Int := W (fr + k)
def pl1 (size fr : Int) (k : Nat) : Int := W (W (fr + k) + W (size.tdiv 2))
def bfT (t b : Nat × Nat) : Nat × Nat := (cmRe b.1 b.2 t.1 t.2, cmIm b.1 b.2 t.1 t.2)
def cadd (a b : Nat × Nat) : Nat × Nat := (fbin .add .f64 a.1 b.1, fbin .add .f64 a.2 b.2)
def csub (a b : Nat × Nat) : Nat × Nat := (fbin .sub .f64 a.1 b.1, fbin .sub .f64 a.2 b.2)
def okBf (t a b : Nat × Nat) : Prop := cmOk b.1 b.2 t.1 t.2 ∧ (fok .add .f64 a.1 (bfT t b).1 = true ∧ fok .add .f64 a.2 (bfT t b).2 = true) ∧ (fok .sub .f64 a.1 (bfT t b).1 = true ∧ fok .sub .f64 a.2 (bfT t b).2 = true)
def bU2 (n : Nat) (Y : Nat → Nat × Nat) (o : Nat) (a : Nat × Nat) (o' : Nat) (a' : Nat × Nat) : Blk := { body := .sy n (updG (updG (fun j => CC (Y j)) o (CC a)) o' (CC a')), elem := 28, live := true, ro := false, full := true }
theorem roundKK (n : Nat) (Y : Nat → Nat × Nat) (way size fr hf : Int) (k : Nat) (Q : Ex → Nat → List AV → List Blk → Prop) : roundK Tryd.prog T FB 300 cK (tmL 104 (lK n way size fr hf k)) [deadB, bY n Y] [.b true] [1, 5, 6, 10, 11, 58, 59] Q =
  (decide ((k : Int) < hf) = true ∧ (0 ≤ pl0 fr k ∧ pl0 fr k < n) ∧ 0 + (pl0 fr k).toNat < n ∧ (0 ≤ pl1 size fr k ∧ pl1 size fr k < n) ∧ 0 + (pl1 size fr k).toNat < n ∧
    cmOk (Y (0 + (pl1 size fr k).toNat)).1 (Y (0 + (pl1 size fr k).toNat)).2 (turnP (W (way * k)) size).1 (turnP (W (way * k)) size).2 ∧
    (fok .add .f64 (Y (0 + (pl0 fr k).toNat)).1 (bfT (turnP (W (way * k)) size) (Y (0 + (pl1 size fr k).toNat))).1 = true ∧ fok .add .f64 (Y (0 + (pl0 fr k).toNat)).2 (bfT (turnP (W (way * k)) size) (Y (0 + (pl1 size fr k).toNat))).2 = true) ∧
    (fok .sub .f64 (Y (0 + (pl0 fr k).toNat)).1 (bfT (turnP (W (way * k)) size) (Y (0 + (pl1 size fr k).toNat))).1 = true ∧ fok .sub .f64 (Y (0 + (pl0 fr k).toNat)).2 (bfT (turnP (W (way * k)) size) (Y (0 + (pl1 size fr k).toNat))).2 = true) ∧
    (0 ≤ pl0 fr k ∧ pl0 fr k < n) ∧ 0 + (pl0 fr k).toNat < n ∧ (0 ≤ pl1 size fr k ∧ pl1 size fr k < n) ∧ 0 + (pl1 size fr k).toNat < n ∧
   Q .normal 104 [iv way, iv n, slY n, iv size, iv fr, iv hf, iv (W (k + 1))] [deadB, bU2 n Y (0 + (pl0 fr k).toNat) (cadd (Y (0 + (pl0 fr k).toNat)) (bfT (turnP (W (way * k)) size) (Y (0 + (pl1 size fr k).toNat)))) (0 + (pl1 size fr k).toNat) (csub (Y (0 + (pl0 fr k).toNat)) (bfT (turnP (W (way * k)) size) (Y (0 + (pl1 size fr k).toNat))))]) := by kernel_rfl
def lKf (n : Nat) (way size fr : Int) : List (Nat × AV) := [(1, iv way), (5, iv n), (6, slY n), (10, iv size), (11, iv fr)]
theorem exitKK (n : Nat) (Y : Nat → Nat × Nat) (way size fr hf : Int) (k : Nat) (Q : Ex → Nat → List AV → List Blk → Prop) : roundK Tryd.prog T FB 300 cK (tmL 104 (lK n way size fr hf k)) [deadB, bY n Y] [.b false] [1, 5, 6, 10, 11] Q =
  (decide ((k : Int) < hf) = false ∧ Q (.exit 6) 104 [iv way, iv n, slY n, iv size, iv fr] [deadB, bY n Y]) := by kernel_rfl
/-! the middle loop -/
def half (size : Int) : Int := W (size.tdiv 2)
noncomputable def FK (n : Nat) (Y Y' : Nat → Nat × Nat) (way size fr : Int) (q : Prop) : Fns := FB.addLoop 2 cK (loopC 104 (lK n way size fr (half size) 0) [deadB, bY n Y] q (.exit 6) (lKf n way size fr) [deadB, bY n Y'])
theorem roundF (n : Nat) (Y Y' : Nat → Nat × Nat) (way size fr : Int) (q : Prop) (Q : Ex → Nat → List AV → List Blk → Prop) : roundK Tryd.prog T (FK n Y Y' way size fr q) 300 cF (tmL 104 (lKf n way size fr)) [deadB, bY n Y] [.b true, .l 2] [1, 5, 6, 10, 11] Q =
  (decide (fr < n) = true ∧ cK = cK ∧ ((104 = 104 ∧ startLs [iv way, iv n, slY n, iv size, iv fr, iv (half size), .one (.sc (.int .i64 0) true)] ((lK n way size fr (half size) 0).map (·.2)) ∧ startBs [deadB, bY n Y] [deadB, bY n Y]) ∧ q) ∧
   Q .normal 104 [iv way, iv n, slY n, iv size, iv (W (fr + size))] [deadB, bY n Y']) := by kernel_rfl
theorem exitF (n : Nat) (Y : Nat → Nat × Nat) (way size fr : Int) (Q : Ex → Nat → List AV → List Blk → Prop) : roundK Tryd.prog T FB 300 cF (tmL 104 (lKf n way size fr)) [deadB, bY n Y] [.b false] [1, 5, 6, 10] Q =
  (decide (fr < n) = false ∧ Q (.exit 4) 104 [iv way, iv n, slY n, iv size] [deadB, bY n Y]) := by kernel_rfl
/-! the outer loop -/
def lS (n : Nat) (way size : Int) : List (Nat × AV) := [(1, iv way), (5, iv n), (6, slY n), (10, iv size)]
noncomputable def FF (n : Nat) (Y Y' : Nat → Nat × Nat) (way size : Int) (q : Prop) : Fns := FB.addLoop 1 cF (loopC 104 (lKf n way size 0) [deadB, bY n Y] q (.exit 4) (lS n way size) [deadB, bY n Y'])
theorem roundS (n : Nat) (Y Y' : Nat → Nat × Nat) (way size : Int) (q : Prop) (Q : Ex → Nat → List AV → List Blk → Prop) : roundK Tryd.prog T (FF n Y Y' way size q) 300 cS (tmL 104 (lS n way size)) [deadB, bY n Y] [.b true, .l 1] [1, 5, 6, 10] Q =
  (decide (size ≤ n) = true ∧ cF = cF ∧ ((104 = 104 ∧ startLs [iv way, iv n, slY n, iv size, .one (.sc (.int .i64 0) true)] ((lKf n way size 0).map (·.2)) ∧ startBs [deadB, bY n Y] [deadB, bY n Y]) ∧ q) ∧
   Q .normal 104 [iv way, iv n, slY n, iv (W (size * 2 ^ 1))] [deadB, bY n Y']) := by kernel_rfl
theorem exitS (n : Nat) (Y : Nat → Nat × Nat) (way size : Int) (Q : Ex → Nat → List AV → List Blk → Prop) : roundK Tryd.prog T FB 300 cS (tmL 104 (lS n way size)) [deadB, bY n Y] [.b false] [6] Q =
  (decide (size ≤ n) = false ∧ Q (.exit 2) 104 [slY n] [deadB, bY n Y]) := by kernel_rfl
/-! the whole -/
def lenV (x : Int) : Int := if x = 0 then 0 else (x.toNat.log2 : Int) + 1
def shOf (n : Nat) : Int := W (64 - lenV (U (W ((n : Int) - 1))))
def zeroY : Nat → Nat × Nat := fun _ => (0, 0)
noncomputable def FW (n : Nat) (X Y Y' : Nat → Nat × Nat) (way : Int) (q q' : Prop) : Fns :=
  (FB.addLoop 0 cZ (loopC 104 (lZ n X way (shOf n) 0) [deadB, bY n zeroY] q (.exit 0) [(1, iv way), (5, iv n), (6, slY n)] [deadB, bY n Y])).addLoop 3 cS (loopC 104 (lS n way 2) [deadB, bY n Y] q' (.exit 2) [(6, slY n)] [deadB, bY n Y'])
def zB (n : Nat) : Blk := { body := .sy n fun _ => .sc (.complex .f64 0 0) true, elem := 28, live := true, ro := false, full := true }
theorem runW (n : Nat) (X Y Y' : Nat → Nat × Nat) (way : Int) (q q' : Prop) (K : Option AV → List Blk → Prop) : runK Tryd.prog T (FW n X Y Y' way q q') 400 Tryd.f32 [xL n X, iv way] [deadB] [.l 0, .l 3] K =
  ((0 ≤ (n : Int) ∧ (n : Int) ≤ n ∧ (16 : Int) * n ≤ 281474976710656 ∧ (n : Int) ≤ 9223372036854775807) ∧ (∃ p : Nat, p ≤ 12 ∧ U (W ((n : Int) - 1)) = mask p) ∧
   cZ = cZ ∧ ((104 = 104 ∧ startLs [iv way, iv n, .one (.sl 1 0 ((n : Int)).toNat 1), iv (shOf n), xL n X, iv n, .one (.sc (.int .i64 0) true)] ((lZ n X way (shOf n) 0).map (·.2)) ∧ startBs [deadB, zB n] [deadB, bY n zeroY]) ∧ q) ∧
   cS = cS ∧ ((104 = 104 ∧ startLs [iv way, iv n, slY n, .one (.sc (.int .i64 2) true)] ((lS n way 2).map (·.2)) ∧ startBs [deadB, bY n Y] [deadB, bY n Y]) ∧ q') ∧ K (some (slY n)) [deadB, bY n Y']) := by kernel_rfl
end Go.Proofs.YthddkcoflnbjbaaDoor
