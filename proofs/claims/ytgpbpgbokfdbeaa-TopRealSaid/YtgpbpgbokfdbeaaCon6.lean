/-
  What is proved here: the run of TopReal. A text to be imported.
-/
import Derived.Test.YtgpbpgbokfdbeaaCon5
namespace Go.Proofs.Ytgpbpgbokfdbeaa
open Sm Go Go.RowKit
set_option maxRecDepth 1000000
set_option linter.unusedVariables false
noncomputable def FT : Fns := ((((((Fns.none.add 6 GSteady).addG 7 GSmall).add 8 GP_13).add 9 GClamp).addP 10 GReal).addP 11 GApart).add 12 GRgb
theorem FTok : FnsOk Try.prog FT := ((((((FnsOk.none.add conSteady).addG gcon7).add conP_13).add conClamp).addP conReal).addP conApart).add conRgb
noncomputable def LT : Code := pathC (bodyC Try.f3) [0]
def lsI (s : Nat → Int) (i : Nat) : Int := ((List.range 64).map s).getD i 0
theorem lsI_eq (s : Nat → Int) (i : Nat) (h : i < 64) : lsI s i = s i := by simp [lsI, h]
def cfB (f : Nat → Int) : Blk := { body := syI .i32 64 f, elem := 24, live := true, ro := false }
def pxB (f : Nat → Int) : Blk := { body := syI .u8 64 f, elem := 26, live := true, ro := false }
def hTp (f g h y cb cr : Nat → Int) : List Blk := [deadB, deadB, deadB, deadB, cfB f, cfB g, cfB h, pxB y, pxB cb, pxB cr]
def pt (i : Nat) : AV := .one (.ptr i 0)
def bF : AV := .one (.sc (.bool false) true)
def bT : AV := .one (.sc (.bool true) true)
def lT (i : Nat) : List (Nat × AV) := [(6, bF), (7, bT), (8, pt 4), (9, pt 5), (10, pt 6), (11, pt 7), (12, pt 8), (13, pt 9), (14, iv i)]
def rr (i : Nat) : Nat := (W ((i : Int).tdiv 8)).toNat
def cl8 (i : Nat) : Nat := ((i : Int).tmod 8).toNat
def okA (f : Nat → Int) (i : Nat) : Prop := 0 ≤ W ((i : Int).tdiv 8) ∧ W ((i : Int).tdiv 8) < 8 ∧ 0 ≤ (i : Int).tmod 8 ∧ (i : Int).tmod 8 < 8 ∧ okReal (lsI f) (rr i) (cl8 i)
def k128 : Nat := 4638707616191610880
def sum0 (f : Nat → Int) (i : Nat) : Nat := sumR (lsI f) (rr i) (cl8 i) 64
def fad (x y : Nat) : Nat := fbin .add .f64 x y
def fmu (x y : Nat) : Nat := fbin .mul .f64 x y
/-- A real sample, clamped. -/
def SA (f : Nat → Int) (i : Nat) : Nat := clampW (fad (sum0 f i) k128)
def PI (i : Nat) : Nat := placeN 0 (i : Int) 1
def ap (n : Int) (x : Nat) : Nat := awayF (fsub (i2f n) x)
def m1 : Nat := 4607182423303617035
def m4 : Nat := 4616189619180658307
def kR : Nat := 4608992865850220347
def kG1 : Nat := 4599871028115482986
def kG2 : Nat := 4604607587368319116
def kB : Nat := 4610659197712347431
/-- The real colours, before they are clamped. -/
def xR (A C : Nat) : Nat := fad A (fmu kR (fsub C k128))
def xG (A B C : Nat) : Nat := fsub (fsub A (fmu kG1 (fsub B k128))) (fmu kG2 (fsub C k128))
def xB (A B : Nat) : Nat := fad A (fmu kB (fsub B k128))
def or3 (a b c : Bool) : Bool := bif (bif a then true else b) then true else c
def inP (i : Nat) (q : Prop) : Prop := (0 ≤ (i : Int) ∧ (i : Int) < (64 : Nat)) ∧ PI i < 64 ∧ q
def okCol (A B C : Nat) (q : Prop) : Prop :=
  fok .sub .f64 C k128 = true ∧ fok .mul .f64 kR (fsub C k128) = true ∧ fok .add .f64 A (fmu kR (fsub C k128)) = true ∧ fok .sub .f64 B k128 = true ∧ fok .mul .f64 kG1 (fsub B k128) = true ∧ fok .sub .f64 A (fmu kG1 (fsub B k128)) = true ∧
  fok .sub .f64 C k128 = true ∧ fok .mul .f64 kG2 (fsub C k128) = true ∧ fok .sub .f64 (fsub A (fmu kG1 (fsub B k128))) (fmu kG2 (fsub C k128)) = true ∧ fok .sub .f64 B k128 = true ∧ fok .mul .f64 kB (fsub B k128) = true ∧ fok .add .f64 A (fmu kB (fsub B k128)) = true ∧ q
theorem roundT (f g h y cb cr : Nat → Int) (i : Nat) (Q : Ex → Nat → List AV → List Blk → Prop) : roundK Try.prog T FT 3000 LT (tmL 134 (lT i)) (hTp f g h y cb cr) [.b true, .b false, .b false] [6, 7, 8, 9, 10, 11, 12, 13, 14] Q =
  (decide ((i : Int) < 64) = true ∧ okA f i ∧ fok .add .f64 (sum0 f i) k128 = true ∧ okA g i ∧ fok .add .f64 (sum0 g i) k128 = true ∧ okA h i ∧ fok .add .f64 (sum0 h i) k128 = true ∧
   inP i (fok .sub .f64 (i2f (y (PI i))) (SA f i) = true ∧ inP i (fok .sub .f64 (i2f (cb (PI i))) (SA g i) = true ∧ inP i (fok .sub .f64 (i2f (cr (PI i))) (SA h i) = true ∧
   or3 (fgt (ap (y (PI i)) (SA f i)) m1) (fgt (ap (cb (PI i)) (SA g i)) m1) (fgt (ap (cr (PI i)) (SA h i)) m1) = false ∧
   inP i (inP i (inP i (okCol (SA f i) (SA g i) (SA h i) (
   fok .sub .f64 (i2f (redI (y (PI i)) (cr (PI i)))) (clampW (xR (SA f i) (SA h i))) = true ∧ fok .sub .f64 (i2f (grnI (y (PI i)) (cb (PI i)) (cr (PI i)))) (clampW (xG (SA f i) (SA g i) (SA h i))) = true ∧ fok .sub .f64 (i2f (bluI (y (PI i)) (cb (PI i)))) (clampW (xB (SA f i) (SA g i))) = true ∧
   or3 (fgt (ap (redI (y (PI i)) (cr (PI i))) (clampW (xR (SA f i) (SA h i)))) m4) (fgt (ap (grnI (y (PI i)) (cb (PI i)) (cr (PI i))) (clampW (xG (SA f i) (SA g i) (SA h i)))) m4) (fgt (ap (bluI (y (PI i)) (cb (PI i))) (clampW (xB (SA f i) (SA g i)))) m4) = false ∧
   Q .normal 134 [bF, bT, pt 4, pt 5, pt 6, pt 7, pt 8, pt 9, iv (W ((i : Int) + 1))] (hTp f g h y cb cr))))))))) := by kernel_rfl
theorem exitT (f g h y cb cr : Nat → Int) (i : Nat) (Q : Ex → Nat → List AV → List Blk → Prop) : roundK Try.prog T FT 3000 LT (tmL 134 (lT i)) (hTp f g h y cb cr) [.b false] [7] Q =
  (decide ((i : Int) < 64) = false ∧ Q (.exit 0) 134 [bT] (hTp f g h y cb cr)) := by kernel_rfl
/-- What a round asks. -/
structure okRd (f g h y cb cr : Nat → Int) (i : Nat) : Prop where
  rf : okReal (lsI f) (i / 8) (i % 8)
  rg : okReal (lsI g) (i / 8) (i % 8)
  rh : okReal (lsI h) (i / 8) (i % 8)
  sf : fok .add .f64 (sumR (lsI f) (i / 8) (i % 8) 64) k128 = true
  sg : fok .add .f64 (sumR (lsI g) (i / 8) (i % 8) 64) k128 = true
  sh : fok .add .f64 (sumR (lsI h) (i / 8) (i % 8) 64) k128 = true
  ay : fok .sub .f64 (i2f (y i)) (SA f i) = true ∧ fgt (ap (y i) (SA f i)) m1 = false
  ab : fok .sub .f64 (i2f (cb i)) (SA g i) = true ∧ fgt (ap (cb i) (SA g i)) m1 = false
  ar : fok .sub .f64 (i2f (cr i)) (SA h i) = true ∧ fgt (ap (cr i) (SA h i)) m1 = false
  col : okCol (SA f i) (SA g i) (SA h i) True
  red : fok .sub .f64 (i2f (redI (y i) (cr i))) (clampW (xR (SA f i) (SA h i))) = true ∧ fgt (ap (redI (y i) (cr i)) (clampW (xR (SA f i) (SA h i)))) m4 = false
  grn : fok .sub .f64 (i2f (grnI (y i) (cb i) (cr i))) (clampW (xG (SA f i) (SA g i) (SA h i))) = true ∧ fgt (ap (grnI (y i) (cb i) (cr i)) (clampW (xG (SA f i) (SA g i) (SA h i)))) m4 = false
  blu : fok .sub .f64 (i2f (bluI (y i) (cb i))) (clampW (xB (SA f i) (SA g i))) = true ∧ fgt (ap (bluI (y i) (cb i)) (clampW (xB (SA f i) (SA g i)))) m4 = false
theorem rc_eq (i : Nat) (hi : i < 64) : rr i = i / 8 ∧ cl8 i = i % 8 ∧ 0 ≤ W ((i : Int).tdiv 8) ∧ W ((i : Int).tdiv 8) < 8 ∧ 0 ≤ (i : Int).tmod 8 ∧ (i : Int).tmod 8 < 8 := by
  have e1 : ((i : Int).tmod 8) = ((i % 8 : Nat) : Int) := by rw [Int.tmod_eq_emod_of_nonneg (by omega)]; omega
  have e3 : W ((i : Int).tdiv 8) = ((i / 8 : Nat) : Int) := by rw [Int.tdiv_eq_ediv_of_nonneg (by omega), show (i : Int) / 8 = ((i / 8 : Nat) : Int) by omega]; exact w64 (by omega) (by omega)
  unfold rr cl8
  rw [e1, e3]
  refine ⟨by omega, by omega, by omega, by omega, by omega, by omega⟩
theorem loopT (f g h y cb cr : Nat → Int) (hok : ∀ i, i < 64 → okRd f g h y cb cr i) : LoopOk Try.prog LT (tmL 134 (lT 0)) (hTp f g h y cb cr) (.exit 0) (tmL 134 [(7, bT)]) (hTp f g h y cb cr) := by
  refine loop_rounds hm hT FTok 134 64 lT (fun _ => hTp f g h y cb cr) (.exit 0) _ _ (fun e => by cases e) (fun i hi => ⟨3000, [.b true, .b false, .b false], ?_⟩) ⟨3000, [.b false], ?_⟩ 0 (Nat.zero_le _)
  · show roundK Try.prog T FT 3000 LT (tmL 134 (lT i)) (hTp f g h y cb cr) [.b true, .b false, .b false] [6, 7, 8, 9, 10, 11, 12, 13, 14] _
    have k := hok i hi
    obtain ⟨e1, e2, a1, a2, a3, a4⟩ := rc_eq i hi
    have ep : PI i = i := pl1 i
    rw [roundT, ep]
    have hP : ∀ q, q → inP i q := fun q hq => ⟨⟨by omega, by omega⟩, by rw [ep]; exact hi, hq⟩
    have hA : ∀ z, okReal (lsI z) (i / 8) (i % 8) → okA z i := fun z hz => ⟨a1, a2, a3, a4, by rw [e1, e2]; exact hz⟩
    have s0 : ∀ z, sum0 z i = sumR (lsI z) (i / 8) (i % 8) 64 := fun z => by unfold sum0; rw [e1, e2]
    obtain ⟨c1, c2, c3, c4, c5, c6, c7, c8, c9, c10, c11, c12, _⟩ := k.col
    refine ⟨decide_eq_true (by omega), hA _ k.rf, by rw [s0]; exact k.sf, hA _ k.rg, by rw [s0]; exact k.sg, hA _ k.rh, by rw [s0]; exact k.sh, hP _ ⟨k.ay.1, hP _ ⟨k.ab.1, hP _ ⟨k.ar.1, by rw [k.ay.2, k.ab.2, k.ar.2]; rfl, hP _ (hP _ (hP _ ⟨c1, c2, c3, c4, c5, c6, c7, c8, c9, c10, c11, c12, k.red.1, k.grn.1, k.blu.1, by rw [k.red.2, k.grn.2, k.blu.2]; rfl, rfl, rfl, ⟨sameV.refl _, sameV.refl _, sameV.refl _, sameV.refl _, sameV.refl _, sameV.refl _, sameV.refl _, sameV.refl _, congrArg (Value.int .i64) (W1 (by omega)), trivial⟩, HpLe.refl _⟩))⟩⟩⟩⟩
  · show roundK Try.prog T FT 3000 LT (tmL 134 (lT 64)) (hTp f g h y cb cr) [.b false] [7] _
    rw [exitT]
    exact ⟨decide_eq_false (by omega), rfl, rfl, ⟨sameV.refl _, trivial⟩, HpLe.refl _⟩
noncomputable def FTn (f g h y cb cr : Nat → Int) (q : Prop) : Fns := FT.addLoop 0 LT (loopC 134 (lT 0) (hTp f g h y cb cr) q (.exit 0) [(7, bT)] (hTp f g h y cb cr))
def cfL (f : Nat → Int) : Blk := { body := .li ((List.range 64).map fun j => .sc (.int .i32 (f j)) false), elem := 24, live := true, ro := false }
def pxL (f : Nat → Int) : Blk := { body := .li ((List.range 64).map fun j => .sc (.int .u8 (f j)) false), elem := 26, live := true, ro := false }
def argOk (n : Nat) (l : Nat → Int) : Prop := (True ∧ True) ∧ n = n ∧ ∀ k, fI l k = fI (zO (fI l)) k
def sv (n : Nat) (l : Nat → Int) : Nat → Int := smV n (zO (fI l))
def pxv (f : Nat → Int) : Nat → Int := resP_13 (lsI f)
theorem run3 (n1 n2 n3 : Nat) (l1 l2 l3 : Nat → Int) (q : Prop) (u : Value) :
    runK Try.prog T (FTn (sv n1 l1) (sv n2 l2) (sv n3 l3) (pxv (sv n1 l1)) (pxv (sv n2 l2)) (pxv (sv n3 l3)) q) 3000 Try.f3 [lst n1 l1, lst n2 l2, lst n3 l3] [deadB] [.l 0] (fun r _ => resW r = some u) =
    (argOk n1 l1 ∧ argOk n2 l2 ∧ argOk n3 l3 ∧ LT = LT ∧ ((134 = 134 ∧ startLs [bF, bT, pt 4, pt 5, pt 6, pt 7, pt 8, pt 9, .one (.sc (.int .i64 0) true)] ((lT 0).map (·.2)) ∧
      startBs [deadB, deadB, deadB, deadB, cfL (sv n1 l1), cfL (sv n2 l2), cfL (sv n3 l3), pxL (pxv (sv n1 l1)), pxL (pxv (sv n2 l2)), pxL (pxv (sv n3 l3))] (hTp (sv n1 l1) (sv n2 l2) (sv n3 l3) (pxv (sv n1 l1)) (pxv (sv n2 l2)) (pxv (sv n3 l3)))) ∧ q) ∧
     some (Value.bool true) = some u) := by kernel_rfl
end Go.Proofs.Ytgpbpgbokfdbeaa
