/-
  What is proved here: contracts of the laws' own helpers: fit. contracts of the laws' own helpers: twin, close; of wave.Back, wave.Power. A text to be imported.
-/
import Derived.Test.YthddkcoflnbjbaaDoorLaw17
namespace Go.Proofs.YthddkcoflnbjbaaDoor
open Sm Go Go.RowKit Fl Ieee
set_option maxRecDepth 1000000
set_option linter.unusedVariables false
noncomputable def cA : Code := pathC (bodyC Tryd.f15) [0]
noncomputable def cB : Code := pathC (bodyC Tryd.f15) [1]
def fF (xs : Nat → Nat) (k : Nat) : List C1 := [FC (xs k)]
def xF (m : Nat) (xs : Nat → Nat) : AV := .one (.lst m m 1 (fF xs))
def AFl (x : Nat) : AV := .one (FC x)
def lA (m : Nat) (xs : Nat → Nat) (n : Int) : List (Nat × AV) := [(0, xF m xs), (4, iv n)]
def lB (m : Nat) (xs : Nat → Nat) (n : Int) (i : Nat) (s : Nat) : List (Nat × AV) := [(0, xF m xs), (4, iv n), (5, .one (.gr 1 i 1)), (6, AFl s), (7, iv i)]
def hB (i : Nat) (X : Nat → Nat × Nat) : List Blk := [deadB, gB 28 i 1 (fX X)]
def fitR (m : Nat) (xs : Nat → Nat) (J : Int) : Nat := bif (bif decide (J < m) then fle (absW (xs J.toNat)) bigW else false) then xs J.toNat else 0
def fitR1 (xs : Nat → Nat) (J : Int) : Nat := bif fle (absW (xs J.toNat)) bigW then xs J.toNat else 0
def oneN (i : Nat) (X : Nat → Nat × Nat) (a b : Nat) (q : Prop) : Prop := ((i = i ∧ (i = 0 ∨ Nat.blt 0 i = true)) ∧ True ∧ (∀ k : Nat, (fX X k).length = 1 ∧ ([CC (a, b)] : List C1).length = 1) ∧ (i + 1) * 16 ≤ 140737488355328 ∧ i + 1 ≤ maxLen) ∧ q
def hBn (i : Nat) (X : Nat → Nat × Nat) (c : C1) : List Blk := [deadB, { gB 28 i 1 (fX X) with live := false }, { body := .li [c], elem := 28, live := true, ro := false }, { body := .rs (i + 1) 1 (catR i (fX X) fun _ => [c]), elem := 28, live := true, ro := false }]
theorem roundA (m : Nat) (xs : Nat → Nat) (n : Int) (Q : Ex → Nat → List AV → List Blk → Prop) : roundK Tryd.prog T FT 300 cA (tmL 83 (lA m xs n)) [deadB] [.b true] [0, 4] Q =
  ((bif decide (W (2 * n) ≤ W ((m : Int).tdiv 2)) then decide (n < 2048) else false) = true ∧ Q .normal 83 [xF m xs, iv (W (2 * n))] [deadB]) := by kernel_rfl
theorem exitA (m : Nat) (xs : Nat → Nat) (n : Int) (Q : Ex → Nat → List AV → List Blk → Prop) : roundK Tryd.prog T FT 300 cA (tmL 83 (lA m xs n)) [deadB] [.b false] [0, 4] Q =
  ((bif decide (W (2 * n) ≤ W ((m : Int).tdiv 2)) then decide (n < 2048) else false) = false ∧ Q (.exit 0) 83 [xF m xs, iv n] [deadB]) := by kernel_rfl
theorem roundB (m : Nat) (xs : Nat → Nat) (n : Int) (i s : Nat) (X : Nat → Nat × Nat) (Q : Ex → Nat → List AV → List Blk → Prop) : roundK Tryd.prog T FT 300 cB (tmL 83 (lB m xs n i s)) (hB i X) [.b true, .m, .m] [0, 4, 5, 6, 7] Q =
  (decide ((i : Int) < n) = true ∧ (0 ≤ W (2 * (i : Int)) ∧ W (2 * (i : Int)) < m) ∧ (0 ≤ W (2 * (i : Int)) ∧ W (2 * (i : Int)) < m) ∧ (0 ≤ W (W (2 * (i : Int)) + 1) ∧ W (W (2 * (i : Int)) + 1) < m) ∧ (0 ≤ W (W (2 * (i : Int)) + 1) ∧ W (W (2 * (i : Int)) + 1) < m) ∧
   oneN i X (fitR m xs (W (2 * (i : Int)))) (fitR m xs (W (W (2 * (i : Int)) + 1))) (fok .add .f64 s (absW (fitR m xs (W (2 * (i : Int))))) = true ∧ fok .add .f64 (fbin .add .f64 s (absW (fitR m xs (W (2 * (i : Int)))))) (absW (fitR m xs (W (W (2 * (i : Int)) + 1)))) = true ∧
   Q .normal 83 [xF m xs, iv n, .one (.gr 3 (i + 1) 1), AFl (fbin .add .f64 (fbin .add .f64 s (absW (fitR m xs (W (2 * (i : Int)))))) (absW (fitR m xs (W (W (2 * (i : Int)) + 1))))), iv (W (i + 1))] (hBn i X (CC (fitR m xs (W (2 * (i : Int))), fitR m xs (W (W (2 * (i : Int)) + 1))))))) := by kernel_rfl
theorem roundB0 (xs : Nat → Nat) (n : Int) (i s : Nat) (X : Nat → Nat × Nat) (Q : Ex → Nat → List AV → List Blk → Prop) : roundK Tryd.prog T0 FT 300 cB (tmL 83 (lB 0 xs n i s)) (hB i X) [.b true, .b false, .b false] [0, 4, 5, 6, 7] Q =
  (decide ((i : Int) < n) = true ∧ decide (W (2 * (i : Int)) < (0 : Nat)) = false ∧ decide (W (W (2 * (i : Int)) + 1) < (0 : Nat)) = false ∧ oneN i X 0 0 (fok .add .f64 s 0 = true ∧ fok .add .f64 (fbin .add .f64 s 0) 0 = true ∧
   Q .normal 83 [xF 0 xs, iv n, .one (.gr 3 (i + 1) 1), AFl (fbin .add .f64 (fbin .add .f64 s 0) 0), iv (W (i + 1))] (hBn i X (.sc (.complex .f64 0 0) true)))) := by kernel_rfl
theorem roundB1 (xs : Nat → Nat) (n : Int) (i s : Nat) (X : Nat → Nat × Nat) (Q : Ex → Nat → List AV → List Blk → Prop) : roundK Tryd.prog T0 FT 300 cB (tmL 83 (lB 1 xs n i s)) (hB i X) [.b true, .b true, .m, .b false] [0, 4, 5, 6, 7] Q =
  (decide ((i : Int) < n) = true ∧ decide (W (2 * (i : Int)) < (1 : Nat)) = true ∧ (0 ≤ W (2 * (i : Int)) ∧ W (2 * (i : Int)) < (1 : Nat)) ∧ (0 ≤ W (2 * (i : Int)) ∧ W (2 * (i : Int)) < (1 : Nat)) ∧ decide (W (W (2 * (i : Int)) + 1) < (1 : Nat)) = false ∧
   oneN i X (fitR1 xs (W (2 * (i : Int)))) 0 (fok .add .f64 s (absW (fitR1 xs (W (2 * (i : Int))))) = true ∧ fok .add .f64 (fbin .add .f64 s (absW (fitR1 xs (W (2 * (i : Int)))))) 0 = true ∧
   Q .normal 83 [xF 1 xs, iv n, .one (.gr 3 (i + 1) 1), AFl (fbin .add .f64 (fbin .add .f64 s (absW (fitR1 xs (W (2 * (i : Int)))))) 0), iv (W (i + 1))] (hBn i X (.sc (.complex .f64 (fitR1 xs (W (2 * (i : Int)))) 0) false)))) := by kernel_rfl
theorem exitB (m : Nat) (xs : Nat → Nat) (n : Int) (i s : Nat) (X : Nat → Nat × Nat) (Q : Ex → Nat → List AV → List Blk → Prop) : roundK Tryd.prog T FT 300 cB (tmL 83 (lB m xs n i s)) (hB i X) [.b false] [5, 6] Q =
  (decide ((i : Int) < n) = false ∧ Q (.exit 2) 83 [.one (.gr 1 i 1), AFl s] (hB i X)) := by kernel_rfl
theorem exitB' (m : Nat) (xs : Nat → Nat) (n : Int) (i s : Nat) (X : Nat → Nat × Nat) (Q : Ex → Nat → List AV → List Blk → Prop) : roundK Tryd.prog T0 FT 300 cB (tmL 83 (lB m xs n i s)) (hB i X) [.b false] [5, 6] Q =
  (decide ((i : Int) < n) = false ∧ Q (.exit 2) 83 [.one (.gr 1 i 1), AFl s] (hB i X)) := by kernel_rfl
/-! what fit makes -/
def gW (m : Nat) (xs : Nat → Nat) (j : Nat) : Nat := bif decide (j < m) then (bif fle (absW (xs j)) bigW then xs j else 0) else 0
def XW (m : Nat) (xs : Nat → Nat) (k : Nat) : Nat × Nat := (gW m xs (2 * k), gW m xs (2 * k + 1))
def sW (m : Nat) (xs : Nat → Nat) (n : Nat) : Nat := fsum (fun j => absW (gW m xs j)) 0 (2 * n)
def pFit (m : Nat) : Nat := min 11 (m / 2).log2
theorem sW_succ (m : Nat) (xs : Nat → Nat) (n : Nat) : sW m xs (n + 1) = fbin .add .f64 (fbin .add .f64 (sW m xs n) (absW (gW m xs (2 * n)))) (absW (gW m xs (2 * n + 1))) := rfl
theorem fitR_eq {m : Nat} {xs : Nat → Nat} {J : Int} {j : Nat} (h : J = j) (hj : j < m) : fitR m xs J = gW m xs j := by
  subst h
  unfold fitR gW
  rw [decide_eq_true (show (j : Int) < m by omega), decide_eq_true hj]
  rfl
theorem gW_tm (m : Nat) (xs : Nat → Nat) (j : Nat) : fnum .f64 (gW m xs j) ∧ ab (fv .f64 (gW m xs j)) ≤ BB := by
  unfold gW
  cases decide (j < m) with
  | false => exact zero_tm
  | true =>
    show fnum .f64 (bif fle (absW (xs j)) bigW then xs j else 0) ∧ _
    have e : (bif fle (absW (xs j)) bigW then xs j else 0) = cl (xs j) := by
      unfold cl
      cases fle (absW (xs j)) bigW <;> rfl
    show fnum .f64 (bif fle (absW (xs j)) bigW then xs j else 0) ∧ ab (fv .f64 (bif fle (absW (xs j)) bigW then xs j else 0)) ≤ BB
    rw [e]
    exact cl_tm _
/-- The sizes of the parts. -/
def aW (m : Nat) (xs : Nat → Nat) (j : Nat) : Rat := ab (fv .f64 (gW m xs j))
def SW (m : Nat) (xs : Nat → Nat) (n : Nat) : Rat := RS (aW m xs) (2 * n)
theorem RS_mono {T : Nat → Rat} (h : ∀ j, 0 ≤ T j) : ∀ {n m : Nat}, n ≤ m → RS T n ≤ RS T m
  | n, 0, hn => by obtain rfl : n = 0 := by omega
                   exact Rat.le_refl
  | n, m + 1, hn => by
    by_cases e : n = m + 1
    · subst e; exact Rat.le_refl
    · have := RS_mono h (show n ≤ m by omega)
      have := h m
      show RS T n ≤ RS T m + T m
      grind
theorem RS_nn {T : Nat → Rat} (h : ∀ j, 0 ≤ T j) (n : Nat) : 0 ≤ RS T n := RS_mono h (Nat.zero_le n)
theorem RS_mem {T : Nat → Rat} (h : ∀ j, 0 ≤ T j) {n j : Nat} (hj : j < n) : T j ≤ RS T n := by
  have h1 := RS_mono h (show j + 1 ≤ n by omega)
  have h2 := RS_nn h j
  have h3 : RS T (j + 1) = RS T j + T j := rfl
  grind
theorem aW0 (m : Nat) (xs : Nat → Nat) (j : Nat) : 0 ≤ aW m xs j := (ab_bd _).1
theorem SW_bd (m : Nat) (xs : Nat → Nat) {n : Nat} (hn : n ≤ 4096) : 0 ≤ SW m xs n ∧ SW m xs n ≤ 8192 * BB := by
  refine ⟨RS_nn (aW0 m xs) _, ?_⟩
  have h1 := RS_mono (aW0 m xs) (show 2 * n ≤ 8192 by omega)
  have h2 := RS_le (T := aW m xs) (D := fun _ => BB) 8192 fun i _ => (gW_tm m xs i).2
  rw [RS_const] at h2
  have h3 : ((8192 : Nat) : Rat) = 8192 := rfl
  rw [h3] at h2
  unfold SW
  grind
theorem BB3_GG : 1000000000000 * BB ≤ GG := by unfold BB GG; decide +kernel
/-- The sum, and its additions. -/
theorem sW_ok (m : Nat) (xs : Nat → Nat) {n : Nat} (hn : n ≤ 4096) : (∀ i, i < 2 * n → fok .add .f64 (fsum (fun j => absW (gW m xs j)) 0 i) (absW (gW m xs i)) = true) ∧
    Ap (sW m xs n) (SW m xs n) (1 / 100000000 * SW m xs n + 1 / 100000000000000000000) := by
  obtain ⟨s0, s1⟩ := SW_bd m xs hn
  have hg := BB3_GG
  have hg2 : (1000000000000 : Rat) ≤ GG := by unfold GG; decide +kernel
  have hN : (((2 * n : Nat) : Rat)) ≤ 8192 := by
    have : ((2 * n : Nat) : Rat) ≤ ((8192 : Nat) : Rat) := Rat.natCast_le_natCast.2 (by omega)
    exact this
  have hN0 : 0 ≤ (((2 * n : Nat) : Rat)) := Rat.natCast_nonneg
  have := fsum_ap (t := fun j => absW (gW m xs j)) (T := aW m xs) (τ := 0) (M := SW m xs n) (B := 0) (S := 0) (e := 0) (c := 8200 * SW m xs n + 1 / 100000000000000000) (s := 0) (N := 2 * n) (fun i hi => by
      show Ap (absW (gW m xs i)) (ab (fv .f64 (gW m xs i))) 0
      exact ab_ap (gW_tm m xs i).1) (fun i hi => by
      have h1 := RS_mem (aW0 m xs) hi
      have h2 := aW0 m xs i
      have h3 : RS (aW m xs) (2 * n) = SW m xs n := rfl
      constructor <;> grind) (Ap.of zero_val) (by grind) (by grind) s0 (by grind) (by grind) (by
      have m1 := Rat.mul_le_mul_of_nonneg_right hN s0
      have m2 := Rat.mul_le_mul_of_nonneg_right hN (show 0 ≤ 0 + dl (8200 * SW m xs n + 1 / 100000000000000000) by unfold dl; grind)
      unfold dl at *
      grind) (tp_GG _ (by grind)) (2 * n) (Nat.le_refl _)
  refine ⟨this.1, ?_⟩
  have h2 := this.2
  have h3 : RS (aW m xs) (2 * n) = SW m xs n := rfl
  rw [h3] at h2
  refine (h2.mv (v' := SW m xs n) (d := 0) (by grind) (by grind)).le ?_
  have m2 := Rat.mul_le_mul_of_nonneg_right hN (show 0 ≤ 0 + dl (8200 * SW m xs n + 1 / 100000000000000000) by unfold dl; grind)
  unfold dl at *
  grind

theorem pFit_bd (m : Nat) : pFit m ≤ 11 ∧ 2 ^ pFit m ≤ 2048 ∧ 1 ≤ 2 ^ pFit m ∧ (2 ≤ m → 2 * 2 ^ pFit m ≤ m) ∧ (m < 2 → pFit m = 0) := by
  have h1 : pFit m ≤ 11 := Nat.min_le_left _ _
  refine ⟨h1, Nat.pow_le_pow_right (by omega) h1, Nat.two_pow_pos _, fun h => ?_, fun h => ?_⟩
  · have h2 : 2 ^ pFit m ≤ 2 ^ (m / 2).log2 := Nat.pow_le_pow_right (by omega) (Nat.min_le_right _ _)
    have h3 := Nat.log2_self_le (show m / 2 ≠ 0 by omega)
    omega
  · unfold pFit
    rw [show m / 2 = 0 by omega]
    decide
theorem loopA (m : Nat) (xs : Nat → Nat) (hm2 : m ≤ 9223372036854775807) :
    LoopOk Tryd.prog cA (tmL 83 (lA m xs 1)) [deadB] (.exit 0) (tmL 83 (lA m xs (2 ^ pFit m : Nat))) [deadB] := by
  refine loop_rounds hm hT FTok 83 (pFit m) (fun i => lA m xs (2 ^ i : Nat)) (fun _ => [deadB]) (.exit 0) _ _ (fun e => by cases e) (fun i hi => ⟨300, [.b true], ?_⟩) ⟨300, [.b false], ?_⟩ 0 (Nat.zero_le _)
  · show roundK Tryd.prog T FT 300 cA (tmL 83 (lA m xs (2 ^ i : Nat))) [deadB] [.b true] [0, 4] _
    rw [roundA]
    have h1 := (pFit_bd m).1
    have h2 : 2 ^ (i + 1) ≤ 2 ^ 11 := Nat.pow_le_pow_right (by omega) (by omega)
    have h3' : pFit m ≤ (m / 2).log2 := Nat.min_le_right _ _
    have h3 : 2 ^ (i + 1) ≤ 2 ^ (m / 2).log2 := Nat.pow_le_pow_right (by omega) (by omega)
    have h0 : m / 2 ≠ 0 := fun h => by
      have : pFit m = 0 := by unfold pFit; rw [h]; decide
      omega
    have h4 := Nat.log2_self_le h0
    rw [Nat.pow_succ] at h2 h3
    have e1 : W (2 * ((2 ^ i : Nat) : Int)) = ((2 * 2 ^ i : Nat) : Int) := by rw [Wid (by omega) (by omega)]; omega
    have e2 : W ((m : Int).tdiv 2) = ((m / 2 : Nat) : Int) := by rw [Int.tdiv_eq_ediv_of_nonneg (by omega), Wid (by omega) (by omega)]; omega
    rw [e1, e2]
    refine ⟨by rw [decide_eq_true (by omega), decide_eq_true (by omega)]; rfl, rfl, rfl, ⟨sameV.refl _, iv_same _ _ ?_, trivial⟩, HpLe.refl _⟩
    rw [Nat.pow_succ]; omega
  · show roundK Tryd.prog T FT 300 cA (tmL 83 (lA m xs (2 ^ pFit m : Nat))) [deadB] [.b false] [0, 4] _
    rw [exitA]
    obtain ⟨h1, h2, h3, _, _⟩ := pFit_bd m
    have e1 : W (2 * ((2 ^ pFit m : Nat) : Int)) = ((2 * 2 ^ pFit m : Nat) : Int) := by rw [Wid (by omega) (by omega)]; omega
    have e2 : W ((m : Int).tdiv 2) = ((m / 2 : Nat) : Int) := by rw [Int.tdiv_eq_ediv_of_nonneg (by omega), Wid (by omega) (by omega)]; omega
    rw [e1, e2]
    refine ⟨?_, rfl, rfl, ⟨sameV.refl _, sameV.refl _, trivial⟩, HpLe.refl _⟩
    by_cases h : pFit m = 11
    · rw [h]
      cases decide ((2 * 2 ^ 11 : Nat) ≤ ((m / 2 : Nat) : Int)) <;> rfl
    · have h4 : pFit m = (m / 2).log2 := by unfold pFit at *; omega
      have h5 := Nat.lt_log2_self (n := m / 2)
      rw [← h4, Nat.pow_succ] at h5
      rw [decide_eq_false (by omega)]
      rfl
theorem absW0 : absW 0 = 0 := by kernel_rfl
theorem g00 (xs : Nat → Nat) : absW (gW 0 xs 0) = 0 ∧ absW (gW 0 xs 1) = 0 ∧ absW (gW 1 xs 1) = 0 := ⟨absW0, absW0, absW0⟩
theorem loopB (m : Nat) (xs : Nat → Nat) : LoopOkB Tryd.prog 1 cB (tmL 83 (lB m xs (2 ^ pFit m : Nat) 0 0)) (hB 0 (XW m xs)) (.exit 2) (tmL 83 [(5, .one (.gr 1 (2 ^ pFit m) 1)), (6, AFl (sW m xs (2 ^ pFit m)))]) (hB (2 ^ pFit m) (XW m xs)) := by
  obtain ⟨h1, h2, h3, h4, h5⟩ := pFit_bd m
  have hw : ∀ i : Nat, i < 2 ^ pFit m → W (2 * (i : Int)) = ((2 * i : Nat) : Int) ∧ W (W (2 * (i : Int)) + 1) = ((2 * i + 1 : Nat) : Int) := fun i hi => by
    have e1 : W (2 * (i : Int)) = ((2 * i : Nat) : Int) := by rw [Wid (by omega) (by omega)]; omega
    exact ⟨e1, by rw [e1, Wid (by omega) (by omega)]; omega⟩
  have hok := (sW_ok m xs (n := 2 ^ pFit m) (by omega)).1
  have one : ∀ (i : Nat) (a b : Nat) (q : Prop), i < 2 ^ pFit m → q → oneN i (XW m xs) a b q := fun i a b q hi hq => ⟨⟨⟨rfl, live0 i⟩, trivial, fun k => ⟨rfl, rfl⟩, by omega, by show i + 1 ≤ 9223372036854775807; omega⟩, hq⟩
  have aft : ∀ (i : Nat) (c : C1) (v w : Nat), i < 2 ^ pFit m → renC 1 2 [] (hBn i (XW m xs) c) c (CC (XW m xs i)) → v = sW m xs (i + 1) →
      AfterG .normal 1 83 [] (lB m xs (2 ^ pFit m : Nat) (i + 1) (sW m xs (i + 1))) (hB (i + 1) (XW m xs)) .normal 83 [xF m xs, iv (2 ^ pFit m : Nat), .one (.gr 3 (i + 1) 1), AFl v, iv (W (i + 1))] (hBn i (XW m xs) c) := fun i c v w hi hc hv => by
    refine ⟨rfl, rfl, _, [deadB], [_, _], _, [deadB], gB 28 (i + 1) 1 (fX (XW m xs)), .inl rfl, rfl, rfl, rfl, noFroz, ⟨⟨rfl, rfl, rfl, fun _ _ => rfl⟩, rfl, ⟨rfl, rfl, rfl⟩, sc_eq (by rw [hv]), sc_eq ?_, trivial⟩, ⟨.inl rfl, trivial⟩, gB_cat (fun k => rfl) rfl (fun k hk => renCs_L ⟨rfl, trivial⟩) (renCs_L ⟨hc, trivial⟩)⟩
    rw [Wid (by omega) (by omega)]; rfl
  by_cases hm2 : 2 ≤ m
  · have hle := h4 hm2
    refine grow_rounds hm hT 1 83 (2 ^ pFit m) (fun i => lB m xs (2 ^ pFit m : Nat) i (sW m xs i)) (fun i => hB i (XW m xs)) (.exit 2) _ _ (by simp) (fun i _ => by simp [hB]) (fun i hi => ⟨FT, FTok, 300, [.b true, .m, .m], [], ?_⟩) ⟨FT, FTok, 300, [.b false], [], ?_⟩ 0 (Nat.zero_le _)
    · show roundK Tryd.prog T FT 300 cB (tmL 83 (lB m xs (2 ^ pFit m : Nat) i (sW m xs i))) (hB i (XW m xs)) [.b true, .m, .m] [0, 4, 5, 6, 7] _
      rw [roundB]
      obtain ⟨e1, e2⟩ := hw i hi
      rw [fitR_eq e1 (by omega), fitR_eq e2 (by omega), e2, e1]
      refine ⟨decide_eq_true (by omega), ⟨by omega, by omega⟩, ⟨by omega, by omega⟩, ⟨by omega, by omega⟩, ⟨by omega, by omega⟩, one i _ _ _ hi ⟨hok (2 * i) (by omega), hok (2 * i + 1) (by omega), ?_⟩⟩
      exact aft i _ _ 0 hi rfl (sW_succ m xs i).symm
    · show roundK Tryd.prog T FT 300 cB (tmL 83 (lB m xs (2 ^ pFit m : Nat) (2 ^ pFit m) (sW m xs (2 ^ pFit m)))) (hB (2 ^ pFit m) (XW m xs)) [.b false] [5, 6] _
      rw [exitB]
      exact ⟨decide_eq_false (by omega), rfl, rfl, _, [deadB], [], _, [deadB], _, .inl rfl, rfl, rfl, rfl, noFroz, ⟨⟨rfl, rfl, rfl⟩, rfl, trivial⟩, ⟨.inl rfl, trivial⟩, gB_same fun k hk => renCs_L ⟨rfl, trivial⟩⟩
  · have hp := h5 (by omega)
    have hin : ∀ i, i < 2 ^ pFit m → i = 0 := fun i hi => by rw [hp] at hi; simpa using hi
    refine grow_rounds hm hT0 1 83 (2 ^ pFit m) (fun i => lB m xs (2 ^ pFit m : Nat) i (sW m xs i)) (fun i => hB i (XW m xs)) (.exit 2) _ _ (by simp) (fun i _ => by simp [hB]) (fun i hi => ?_) ⟨FT, FTok, 300, [.b false], [], ?_⟩ 0 (Nat.zero_le _)
    · obtain ⟨e1, e2⟩ := hw i hi
      obtain rfl := hin i hi
      have k1 := hok 0 (by omega)
      have k2 := hok 1 (by omega)
      have mz : m = 0 ∨ m = 1 := by omega
      rcases mz with rfl | rfl
      · rw [(g00 xs).1] at k1
        rw [(g00 xs).2.1] at k2
        have k2' : fok .add .f64 (fbin .add .f64 (sW 0 xs 0) (absW (gW 0 xs 0))) 0 = true := k2
        rw [(g00 xs).1] at k2'
        refine ⟨FT, FTok, 300, [.b true, .b false, .b false], [], ?_⟩
        show roundK Tryd.prog T0 FT 300 cB (tmL 83 (lB 0 xs (2 ^ pFit 0 : Nat) (0 : Nat) (sW 0 xs 0))) (hB 0 (XW 0 xs)) [.b true, .b false, .b false] [0, 4, 5, 6, 7] _
        rw [roundB0, e2, e1]
        refine ⟨decide_eq_true (by omega), decide_eq_false (by omega), decide_eq_false (by omega), one 0 _ _ _ hi ⟨k1, k2', ?_⟩⟩
        exact aft 0 _ _ 0 hi rfl (by rw [sW_succ, (g00 xs).1, (g00 xs).2.1])
      · rw [(g00 xs).2.2] at k2
        refine ⟨FT, FTok, 300, [.b true, .b true, .m, .b false], [], ?_⟩
        show roundK Tryd.prog T0 FT 300 cB (tmL 83 (lB 1 xs (2 ^ pFit 1 : Nat) (0 : Nat) (sW 1 xs 0))) (hB 0 (XW 1 xs)) [.b true, .b true, .m, .b false] [0, 4, 5, 6, 7] _
        rw [roundB1, e2, e1]
        refine ⟨decide_eq_true (by omega), decide_eq_true (by omega), ⟨by omega, by omega⟩, ⟨by omega, by omega⟩, decide_eq_false (by omega), one 0 _ _ _ hi ⟨k1, k2, ?_⟩⟩
        exact aft 0 _ _ 0 hi rfl (by rw [sW_succ, (g00 xs).2.2]; rfl)
    · show roundK Tryd.prog T0 FT 300 cB (tmL 83 (lB m xs (2 ^ pFit m : Nat) (2 ^ pFit m) (sW m xs (2 ^ pFit m)))) (hB (2 ^ pFit m) (XW m xs)) [.b false] [5, 6] _
      rw [exitB']
      exact ⟨decide_eq_false (by omega), rfl, rfl, _, [deadB], [], _, [deadB], _, .inl rfl, rfl, rfl, rfl, noFroz, ⟨⟨rfl, rfl, rfl⟩, rfl, trivial⟩, ⟨.inl rfl, trivial⟩, gB_same fun k hk => renCs_L ⟨rfl, trivial⟩⟩
noncomputable def F15 (m : Nat) (xs : Nat → Nat) : Fns := (FT.addLoop 0 cA (loopC 83 (lA m xs 1) [deadB] (m ≤ 9223372036854775807) (.exit 0) (lA m xs (2 ^ pFit m : Nat)) [deadB])).addLoop 1 cB (loopC 83 (lB m xs (2 ^ pFit m : Nat) 0 0) [deadB] True (.exit 2) [(5, .one (.gr 1 (2 ^ pFit m) 1)), (6, AFl (sW m xs (2 ^ pFit m)))] (hB (2 ^ pFit m) (XW m xs)))
theorem F15ok (m : Nat) (xs : Nat → Nat) : FnsOk Tryd.prog (F15 m xs) := (FTok.addKeep 0 fun h => loopA m xs h).addGrow 1 (a := 1) (b0 := gB 28 0 1 (fX (XW m xs))) rfl rfl fun _ => loopB m xs
theorem run15 (m : Nat) (xs : Nat → Nat) (K : Option AV → List Blk → Prop) : runK Tryd.prog T (F15 m xs) 300 Tryd.f15 [xF m xs] [deadB] [.l 0, .l 1] K =
    (cA = cA ∧ ((83 = 83 ∧ startLs [xF m xs, .one (.sc (.int .i64 1) true)] ((lA m xs 1).map (·.2)) ∧ startBs [deadB] [deadB]) ∧ m ≤ 9223372036854775807) ∧
     cB = cB ∧ ((83 = 83 ∧ startLs [xF m xs, iv (2 ^ pFit m : Nat), .one (.sc (.slice none 0 0) true), .one (.sc (.float .f64 0) true), .one (.sc (.int .i64 0) true)] ((lB m xs (2 ^ pFit m : Nat) 0 0).map (·.2)) ∧ startBs [deadB] [deadB]) ∧ True) ∧
     K (some (.tup [(false, [.gr 1 (2 ^ pFit m) 1]), (false, [FC (sW m xs (2 ^ pFit m))])])) (hB (2 ^ pFit m) (XW m xs))) := by kernel_rfl
def wdC : C1 → Nat
  | .sc (.float _ a) _ => a
  | _ => 0
def wdF (f : Nat → List C1) (k : Nat) : Nat := wdC ((f k).getD 0 .em)
def GFit : List AV → Option (Prop × AV × Blk)
  | [.one (.lst m M 1 f)] => some (m = M ∧ (∀ k, f k = fF (wdF f) k) ∧ m ≤ 9223372036854775807, .tup [(false, [.lst (2 ^ pFit m) (2 ^ pFit m) 1 (fX (XW m (wdF f)))]), (false, [FC (sW m (wdF f) (2 ^ pFit m))])], deadB)
  | _ => none
theorem gcon15 : GCon Tryd.prog 15 GFit := by
  refine gcon_of_run hm hT Tryd.func15 Tryd.call15 fun args p v b h hp => ?_
  unfold GFit at h
  split at h
  · rename_i m M f
    simp only [Option.some.injEq, Prod.mk.injEq] at h
    obtain ⟨rfl, rfl, rfl⟩ := h
    obtain ⟨rfl, hf, hm2⟩ := hp
    have ef : f = fF (wdF f) := funext hf
    refine ⟨.inl rfl, dead_free, F15 m (wdF f), F15ok m (wdF f), 300, [.l 0, .l 1], [1], ?_⟩
    have := run15 m (wdF f)
    unfold xF at this
    rw [← ef] at this
    have hst : startA (.one (.lst m m 1 f)) (xF m (wdF f)) := by
      unfold xF
      rw [← ef]
      rfl
    refine of_run (this _) ⟨rfl, ⟨⟨rfl, ⟨hst, rfl, trivial⟩, startBs.refl _⟩, hm2⟩, rfl, ⟨⟨rfl, ⟨hst, rfl, trivial, rfl, rfl, trivial⟩, startBs.refl _⟩, trivial⟩, _, rfl, ?_⟩
    · have hget : ([deadB, gB 28 (2 ^ pFit m) 1 (fX (XW m (wdF f)))] ++ [deadB])[1]? = some (gB 28 (2 ^ pFit m) 1 (fX (XW m (wdF f)))) := rfl
      refine nothing_left (fun j hj => ?_) ⟨⟨rfl, ⟨rfl, rfl, rfl, froz_gB (by simp) hget fun k => rfl⟩, trivial⟩, ⟨rfl, rfl, trivial⟩, trivial⟩
      obtain rfl := List.mem_singleton.1 hj
      refine ⟨Nat.zero_le _, by simp [hB], fun x hx => ?_⟩
      rw [show (hB (2 ^ pFit m) (XW m (wdF f)) ++ [deadB])[1]? = some (gB 28 (2 ^ pFit m) 1 (fX (XW m (wdF f)))) from rfl] at hx
      obtain rfl := Option.some.inj hx
      exact ⟨rfl, gB_free fun k => free1 trivial⟩
  · cases h
end Go.Proofs.YthddkcoflnbjbaaDoor
namespace Go.Proofs.YthddkcoflnbjbaaDoor
open Sm Go Go.RowKit Fl Ieee
set_option maxRecDepth 1000000
set_option linter.unusedVariables false
noncomputable def cBk : Code := pathC (bodyC Tryd.f21) [0]
noncomputable def cCl : Code := pathC (bodyC Tryd.f20) [0]

/-! twin -/
theorem run17 (n : Nat) (X : Nat → Nat × Nat) (K : Option AV → List Blk → Prop) : runK Tryd.prog T FT 300 Tryd.f17 [xL n X] [deadB] [] K =
    ((n * 16 ≤ 140737488355328 ∧ n ≤ maxLen) ∧ K (some (xL n X)) [deadB, deadB]) := by kernel_rfl
def isX (n N : Nat) (f : Nat → List C1) : Prop := n = N ∧ ∀ k, f k = fX (ofC f) k
theorem isX.eq {n N : Nat} {f : Nat → List C1} (h : isX n N f) : f = fX (ofC f) := funext h.2
theorem isX_fX (n : Nat) (X : Nat → Nat × Nat) : isX n n (fX X) := ⟨rfl, fun _ => rfl⟩
theorem isX.av {n N : Nat} {f : Nat → List C1} (h : isX n N f) : AV.one (.lst n N 1 f) = xL n (ofC f) := by
  obtain ⟨rfl, _⟩ := id h
  unfold xL
  rw [← h.eq]
theorem renL_lst {a z : Nat} {js : List Nat} {hp : List Blk} (n : Nat) (X : Nat → Nat × Nat) : renA a z js hp (xL n X) (xL n X) := ⟨rfl, rfl, rfl, fun _ _ => rfl⟩
def GTwin : List AV → Option (Prop × AV × Blk)
  | [.one (.lst n N 1 f)] => some (isX n N f ∧ n ≤ 4096, xL n (ofC f), deadB)
  | _ => none
theorem gcon17 : GCon Tryd.prog 17 GTwin := by
  refine gcon_of_run hm hT Tryd.func17 Tryd.call17 fun args p v b h hp => ?_
  unfold GTwin at h
  split at h
  · rename_i n N f
    simp only [Option.some.injEq, Prod.mk.injEq] at h
    obtain ⟨rfl, rfl, rfl⟩ := h
    rw [hp.1.av]
    refine ⟨.inl rfl, dead_free, FT, FTok, 300, [], [], ?_⟩
    exact of_run (run17 n (ofC f) _) ⟨⟨by have := hp.2; omega, by have := hp.2; show n ≤ 9223372036854775807; omega⟩, _, rfl, nothing_left noFroz (renL_lst _ _)⟩
  · cases h
/-! Back -/
def bkP (n : Nat) (y : Nat × Nat) : Nat × Nat := (cqRe y.1 y.2 (i2f n) 0, cqIm y.1 y.2 (i2f n) 0)
/-- The list, divided as far as one has come. -/
def bkY (n : Nat) (Y : Nat → Nat × Nat) (i k : Nat) : Nat × Nat := if k < i then bkP n (Y k) else Y k
def lBk (n i : Nat) : List (Nat × AV) := [(4, slY n), (13, iv n), (14, iv i)]
theorem roundBk (n : Nat) (Y : Nat → Nat × Nat) (i : Nat) (Q : Ex → Nat → List AV → List Blk → Prop) : roundK Tryd.prog T FT 300 cBk (tmL 29 (lBk n i)) [deadB, bY n Y] [.b true] [4, 13, 14] Q =
   (decide ((i : Int) < n) = true ∧ (0 ≤ (i : Int) ∧ (i : Int) < n) ∧ 0 + (i : Int).toNat < n ∧ cqOk (Y (0 + (i : Int).toNat)).1 (Y (0 + (i : Int).toNat)).2 (i2f n) 0 ∧ (0 ≤ (i : Int) ∧ (i : Int) < n) ∧ 0 + (i : Int).toNat < n ∧
    Q .normal 29 [slY n, iv n, iv (W (i + 1))] [deadB, bU n Y (0 + (i : Int).toNat) (bkP n (Y (0 + (i : Int).toNat)))]) := by kernel_rfl
theorem exitBk (n : Nat) (Y : Nat → Nat × Nat) (i : Nat) (Q : Ex → Nat → List AV → List Blk → Prop) : roundK Tryd.prog T FT 300 cBk (tmL 29 (lBk n i)) [deadB, bY n Y] [.b false] [4] Q =
   (decide ((i : Int) < n) = false ∧ Q (.exit 0) 29 [slY n] [deadB, bY n Y]) := by kernel_rfl
theorem loopBk {n : Nat} {Y : Nat → Nat × Nat} (hn : n ≤ 4096) (hok : ∀ k, k < n → cqOk (Y k).1 (Y k).2 (i2f n) 0) : LoopOk Tryd.prog cBk (tmL 29 (lBk n 0)) [deadB, bY n Y] (.exit 0) (tmL 29 [(4, slY n)]) [deadB, bY n (bkY n Y n)] := by
  have e0 : bY n Y = bY n (bkY n Y 0) := by
    unfold bY bkY
    simp
  rw [e0]
  refine loop_rounds hm hT FTok 29 n (fun i => lBk n i) (fun i => [deadB, bY n (bkY n Y i)]) (.exit 0) _ _ (fun e => by cases e) (fun i hi => ⟨300, [.b true], ?_⟩) ⟨300, [.b false], ?_⟩ 0 (Nat.zero_le _)
  · show roundK Tryd.prog T FT 300 cBk (tmL 29 (lBk n i)) [deadB, bY n (bkY n Y i)] [.b true] [4, 13, 14] _
    have h0 : 0 + (i : Int).toNat = i := by omega
    have h1 : bkY n Y i i = Y i := by unfold bkY; rw [if_neg (by omega)]
    rw [roundBk, h0, h1]
    refine ⟨decide_eq_true (by omega), ⟨by omega, by omega⟩, hi, hok i hi, ⟨by omega, by omega⟩, hi, rfl, rfl, ⟨sameV.refl _, sameV.refl _, iv_same _ _ ?_, trivial⟩, .refl _, bU_le _ _ _ _ _ fun j hj => ?_, trivial⟩
    · rw [Wid (by omega) (by omega)]; omega
    · by_cases h : j = i
      · subst h
        rw [beqS]
        show bkY n Y (j + 1) j = bkP n (Y j)
        unfold bkY
        rw [if_pos (by omega)]
      · rw [beqN h]
        show bkY n Y (i + 1) j = bkY n Y i j
        unfold bkY
        by_cases h2 : j < i
        · rw [if_pos (by omega), if_pos h2]
        · rw [if_neg (by omega), if_neg h2]
  · show roundK Tryd.prog T FT 300 cBk (tmL 29 (lBk n n)) [deadB, bY n (bkY n Y n)] [.b false] [4] _
    rw [exitBk]
    exact ⟨decide_eq_false (by omega), rfl, rfl, ⟨sameV.refl _, trivial⟩, HpLe.refl _⟩

noncomputable def FBk (n : Nat) (Y Y' : Nat → Nat × Nat) (q : Prop) : Fns := FD0.addLoop 0 cBk (loopC 29 (lBk n 0) [deadB, bY n Y] q (.exit 0) [(4, slY n)] [deadB, bY n Y'])
theorem run21 (n : Nat) (X Y Y' : Nat → Nat × Nat) (q : Prop) (K : Option AV → List Blk → Prop) : runK Tryd.prog T (FBk n Y Y' q) 300 Tryd.f21 [xL n X] [deadB] [.b false, .l 0] K =
    ((!(fitB n)) = false ∧ ((True ∧ True ∧ True) ∧ okP (-1) n n (fX X)) ∧ cBk = cBk ∧ ((29 = 29 ∧ startLs [slY n, iv n, .one (.sc (.int .i64 0) true)] ((lBk n 0).map (·.2)) ∧ startBs [deadB, bY n (trY (-1) n.log2 (ofC (fX X)))] [deadB, bY n Y]) ∧ q) ∧
     K (some (two 1 n 0)) [deadB, bY n Y']) := by kernel_rfl
def bckY (n : Nat) (X : Nat → Nat × Nat) (k : Nat) : Nat × Nat := bkP n (trY (-1) n.log2 X k)
def okBk (n : Nat) (X : Nat → Nat × Nat) : Prop := (∃ p, p ≤ 12 ∧ n = 2 ^ p ∧ okTr (-1) p X) ∧ ∀ k, k < n → cqOk (trY (-1) n.log2 X k).1 (trY (-1) n.log2 X k).2 (i2f n) 0
def GBack : List AV → Option (Prop × AV × Blk)
  | [.one (.lst n N 1 f)] => some (isX n N f ∧ okBk n (ofC f), two 0 n 0, bY n (bckY n (ofC f)))
  | _ => none
theorem gcon21 : GCon Tryd.prog 21 GBack := by
  refine gcon_of_run hm hT Tryd.func21 Tryd.call21 fun args p v b h hp => ?_
  unfold GBack at h
  split at h
  · rename_i n N f
    simp only [Option.some.injEq, Prod.mk.injEq] at h
    obtain ⟨rfl, rfl, rfl⟩ := h
    obtain ⟨h1, ⟨p, hp12, hn, ht⟩, hq⟩ := hp
    rw [h1.av]
    have hpn : 2 ^ p ≤ 4096 := Nat.pow_le_pow_right (by omega) hp12
    have hb : bY n (bkY n (trY (-1) n.log2 (ofC f)) n) = bY n (bckY n (ofC f)) ∨ True := .inr trivial
    refine ⟨.inr rfl, sym_free fun k => trivial, FBk n (trY (-1) n.log2 (ofC f)) (bkY n (trY (-1) n.log2 (ofC f)) n) True, FD0ok.addKeep 0 fun _ => loopBk (by omega) hq, 300, [.b false, .l 0], [], ?_⟩
    refine of_run (run21 n (ofC f) _ _ _ _) ⟨?_, ⟨⟨trivial, trivial, trivial⟩, ⟨p, hp12, hn, ht⟩, .inr rfl, Nat.le_refl _, fun k hk => rfl⟩, rfl, ⟨⟨rfl, ⟨rfl, rfl, rfl, trivial⟩, startBs.refl _⟩, trivial⟩, _, rfl, ?_⟩
    · rw [hn, fit_pow hp12]; rfl
    · refine one_left (D := [deadB]) noFroz ⟨⟨rfl, ⟨rfl, rfl, rfl, rfl⟩, trivial⟩, ⟨rfl, scC_eq rfl, trivial⟩, trivial⟩ (.inr ⟨rfl, rfl, rfl, rfl, fun j hj => ?_⟩)
      have e : bkY n (trY (-1) n.log2 (ofC f)) n j = bckY n (ofC f) j := by
        unfold bkY
        rw [if_pos hj]
        rfl
      show renS _ _ _ _ (CC (bkY n (trY (-1) n.log2 (ofC f)) n j)) (CC (bckY n (ofC f) j))
      rw [e]
      exact renC_S rfl
  · cases h
/-! close -/
def wi2 (b x y : Nat) : Prop := fok .sub .f64 x y = true ∧ fle (absW (fbin .sub .f64 x y)) b = true
def lCl (n : Nat) (X Y : Nat → Nat × Nat) (b i : Nat) : List (Nat × AV) := [(0, xL n X), (1, xL n Y), (2, AFl b), (7, iv i)]
def clB (b : Nat) (x y : Nat × Nat) : Bool := bif !fle (absW (fbin .sub .f64 x.1 y.1)) b then true else !fle (absW (fbin .sub .f64 x.2 y.2)) b
theorem roundCl (n : Nat) (X Y : Nat → Nat × Nat) (b i : Nat) (Q : Ex → Nat → List AV → List Blk → Prop) : roundK Tryd.prog T FT 300 cCl (tmL 47 (lCl n X Y b i)) [deadB] [.b true, .b false] [0, 1, 2, 7] Q =
   (decide ((i : Int) < n) = true ∧ (0 ≤ (i : Int) ∧ (i : Int) < n) ∧ (0 ≤ (i : Int) ∧ (i : Int) < n) ∧ fok .sub .f64 (X (i : Int).toNat).1 (Y (i : Int).toNat).1 = true ∧ (0 ≤ (i : Int) ∧ (i : Int) < n) ∧ (0 ≤ (i : Int) ∧ (i : Int) < n) ∧ fok .sub .f64 (X (i : Int).toNat).2 (Y (i : Int).toNat).2 = true ∧
    clB b (X (i : Int).toNat) (Y (i : Int).toNat) = false ∧ Q .normal 47 [xL n X, xL n Y, AFl b, iv (W (i + 1))] [deadB]) := by kernel_rfl
theorem exitCl (n : Nat) (X Y : Nat → Nat × Nat) (b i : Nat) (Q : Ex → Nat → List AV → List Blk → Prop) : roundK Tryd.prog T FT 300 cCl (tmL 47 (lCl n X Y b i)) [deadB] [.b false] [] Q =
   (decide ((i : Int) < n) = false ∧ Q (.exit 0) 47 [] [deadB]) := by kernel_rfl
theorem loopCl {n : Nat} {X Y : Nat → Nat × Nat} {b : Nat} (hn : n ≤ 4096) (hok : ∀ k, k < n → wi2 b (X k).1 (Y k).1 ∧ wi2 b (X k).2 (Y k).2) : LoopOk Tryd.prog cCl (tmL 47 (lCl n X Y b 0)) [deadB] (.exit 0) (tmL 47 []) [deadB] := by
  refine loop_rounds hm hT FTok 47 n (lCl n X Y b) (fun i => [deadB]) (.exit 0) _ _ (fun e => by cases e) (fun i hi => ⟨300, [.b true, .b false], ?_⟩) ⟨300, [.b false], ?_⟩ 0 (Nat.zero_le _)
  · show roundK Tryd.prog T FT 300 cCl (tmL 47 (lCl n X Y b i)) [deadB] [.b true, .b false] [0, 1, 2, 7] _
    have h0 : (i : Int).toNat = i := by omega
    obtain ⟨⟨a1, a2⟩, a3, a4⟩ := hok i hi
    rw [roundCl, h0]
    have hr : 0 ≤ (i : Int) ∧ (i : Int) < n := ⟨by omega, by omega⟩
    refine ⟨decide_eq_true (by omega), hr, hr, a1, hr, hr, a3, by unfold clB; rw [a2, a4]; rfl, rfl, rfl, ⟨sameV.refl _, sameV.refl _, sameV.refl _, iv_same _ _ ?_, trivial⟩, HpLe.refl _⟩
    rw [Wid (by omega) (by omega)]; omega
  · show roundK Tryd.prog T FT 300 cCl (tmL 47 (lCl n X Y b n)) [deadB] [.b false] [] _
    rw [exitCl]
    exact ⟨decide_eq_false (by omega), rfl, rfl, trivial, HpLe.refl _⟩
noncomputable def FCl (n : Nat) (X Y : Nat → Nat × Nat) (b : Nat) (q : Prop) : Fns := FT.addLoop 0 cCl (loopC 47 (lCl n X Y b 0) [deadB] q (.exit 0) [] [deadB])
theorem run20 (n : Nat) (X Y : Nat → Nat × Nat) (b : Nat) (q : Prop) (K : Option AV → List Blk → Prop) : runK Tryd.prog T (FCl n X Y b q) 300 Tryd.f20 [xL n X, xL n Y, AFl b] [deadB] [.b false, .l 0] K =
    (((n : Int) != n) = false ∧ cCl = cCl ∧ ((47 = 47 ∧ startLs [xL n X, xL n Y, AFl b, .one (.sc (.int .i64 0) true)] ((lCl n X Y b 0).map (·.2)) ∧ startBs [deadB] [deadB]) ∧ q) ∧ K (some (.one (.sc (.bool true) true))) [deadB]) := by kernel_rfl
def GClose : List AV → Option (Prop × AV × Blk)
  | [.one (.lst n N 1 f), .one (.lst m M 1 g), .one (.sc (.float .f64 b) false)] => some (isX n N f ∧ isX m M g ∧ n = m ∧ n ≤ 4096 ∧ ∀ k, k < n → wi2 b (ofC f k).1 (ofC g k).1 ∧ wi2 b (ofC f k).2 (ofC g k).2, .one (.sc (.bool true) true), deadB)
  | _ => none
theorem gcon20 : GCon Tryd.prog 20 GClose := by
  refine gcon_of_run hm hT Tryd.func20 Tryd.call20 fun args p v b h hp => ?_
  unfold GClose at h
  split at h
  · rename_i n N f m M g b
    simp only [Option.some.injEq, Prod.mk.injEq] at h
    obtain ⟨rfl, rfl, rfl⟩ := h
    obtain ⟨h1, h2, rfl, hn, hok⟩ := hp
    rw [h1.av, h2.av]
    refine ⟨.inl rfl, dead_free, FCl n (ofC f) (ofC g) b True, FTok.addKeep 0 fun _ => loopCl hn hok, 300, [.b false, .l 0], [], ?_⟩
    exact of_run (run20 n _ _ b _ _) ⟨by simp, rfl, ⟨⟨rfl, ⟨rfl, rfl, rfl, rfl, trivial⟩, startBs.refl _⟩, trivial⟩, _, rfl, nothing_left noFroz (sc_eq rfl)⟩
  · cases h

/-! Power -/
def syB (t : TypeId) (n : Nat) (g : Nat → C1) : Blk := { body := .sy n g, elem := t, live := true, ro := false }
theorem startB_sc {t : TypeId} {n : Nat} {g g' : Nat → C1} (h : ∀ j, j < n → ∃ v s s', g j = .sc v s ∧ g' j = .sc v s') : startB (syB t n g) (syB t n g') := by
  refine .inr ⟨rfl, rfl, rfl, fun E vs hr => ⟨?_, fun j c v hc hv => ?_⟩⟩
  · rw [← hr.1]
    show (symC _ _).length = (symC _ _).length
    rw [symC_length, symC_length]
  · have hj : j < n := by
      have := (List.getElem?_eq_some_iff.1 hc).1
      rwa [show (syB t n g').cells = symC n g' from rfl, symC_length] at this
    rw [show (syB t n g').cells = symC n g' from rfl, symC_get _ _ hj] at hc
    simp only [Option.some.injEq] at hc
    obtain ⟨u, s, s', e1, e2⟩ := h j hj
    have := hr.2 j (g j) v (by show (symC n g)[j]? = _; rw [symC_get _ _ hj]) hv
    rw [e1] at this
    rw [← hc, e2]
    exact this
noncomputable def cP1 : Code := pathC (bodyC Tryd.f23) [0]
noncomputable def cP2 : Code := pathC (bodyC Tryd.f23) [1]
def lP1 (n : Nat) (x : Nat → Nat) (i : Nat) : List (Nat × AV) := [(4, slY n), (14, xF n x), (15, iv n), (16, iv i)]
def lP2 (n : Nat) (i : Nat) : List (Nat × AV) := [(8, .one (.sl 3 0 n 1)), (38, .one (.sl 2 0 n 1)), (39, iv n), (40, iv i)]
def pB (n : Nat) (y : Nat → Nat) : Blk := syB 25 n fun j => FC (y j)
def pwW (y : Nat × Nat) : Nat := fbin .add .f64 (fbin .mul .f64 y.1 y.1) (fbin .mul .f64 y.2 y.2)
def okPw (y : Nat × Nat) : Prop := fok .mul .f64 y.1 y.1 = true ∧ fok .mul .f64 y.2 y.2 = true ∧ fok .add .f64 (fbin .mul .f64 y.1 y.1) (fbin .mul .f64 y.2 y.2) = true
theorem roundP1 (n : Nat) (x : Nat → Nat) (Y : Nat → Nat × Nat) (i : Nat) (Q : Ex → Nat → List AV → List Blk → Prop) : roundK Tryd.prog T FT 300 cP1 (tmL 61 (lP1 n x i)) [deadB, bY n Y] [.b true] [4, 14, 15, 16] Q =
   (decide ((i : Int) < n) = true ∧ (0 ≤ (i : Int) ∧ (i : Int) < n) ∧ (0 ≤ (i : Int) ∧ (i : Int) < n) ∧ 0 + (i : Int).toNat < n ∧ Q .normal 61 [slY n, xF n x, iv n, iv (W (i + 1))] [deadB, bU n Y (0 + (i : Int).toNat) (x (i : Int).toNat, 0)]) := by kernel_rfl
theorem exitP1 (n : Nat) (x : Nat → Nat) (Y : Nat → Nat × Nat) (i : Nat) (Q : Ex → Nat → List AV → List Blk → Prop) : roundK Tryd.prog T FT 300 cP1 (tmL 61 (lP1 n x i)) [deadB, bY n Y] [.b false] [4] Q =
   (decide ((i : Int) < n) = false ∧ Q (.exit 0) 61 [slY n] [deadB, bY n Y]) := by kernel_rfl
def fU (n : Nat) (y : Nat → Nat) (o : Nat) (a : Nat) : Blk := syB 25 n (updG (fun j => FC (y j)) o (FC a))
theorem fU_le (n : Nat) (Y Y' : Nat → Nat) (o : Nat) (a : Nat) (h : ∀ j, j < n → Y' j = bif Nat.beq j o then a else Y j) : BlkLe (fU n Y o a) (pB n Y') :=
  sy_le fun j hj => by
    show pickC (Nat.beq j o) (FC a) (FC (Y j)) = FC (Y' j)
    rw [h j hj]
    cases Nat.beq j o <;> rfl
theorem roundP2 (n : Nat) (y : Nat → Nat) (Y : Nat → Nat × Nat) (i : Nat) (Q : Ex → Nat → List AV → List Blk → Prop) : roundK Tryd.prog T FT 300 cP2 (tmL 61 (lP2 n i)) [deadB, deadB, bY n Y, pB n y] [.b true] [8, 38, 39, 40] Q =
   (decide ((i : Int) < n) = true ∧ (0 ≤ (i : Int) ∧ (i : Int) < n) ∧ 0 + (i : Int).toNat < n ∧ fok .mul .f64 (Y (0 + (i : Int).toNat)).1 (Y (0 + (i : Int).toNat)).1 = true ∧ fok .mul .f64 (Y (0 + (i : Int).toNat)).2 (Y (0 + (i : Int).toNat)).2 = true ∧
    fok .add .f64 (fbin .mul .f64 (Y (0 + (i : Int).toNat)).1 (Y (0 + (i : Int).toNat)).1) (fbin .mul .f64 (Y (0 + (i : Int).toNat)).2 (Y (0 + (i : Int).toNat)).2) = true ∧ (0 ≤ (i : Int) ∧ (i : Int) < n) ∧ 0 + (i : Int).toNat < n ∧
    Q .normal 61 [.one (.sl 3 0 n 1), .one (.sl 2 0 n 1), iv n, iv (W (i + 1))] [deadB, deadB, bY n Y, fU n y (0 + (i : Int).toNat) (pwW (Y (0 + (i : Int).toNat)))]) := by kernel_rfl
theorem exitP2 (n : Nat) (y : Nat → Nat) (Y : Nat → Nat × Nat) (i : Nat) (Q : Ex → Nat → List AV → List Blk → Prop) : roundK Tryd.prog T FT 300 cP2 (tmL 61 (lP2 n i)) [deadB, deadB, bY n Y, pB n y] [.b false] [8] Q =
   (decide ((i : Int) < n) = false ∧ Q (.exit 2) 61 [.one (.sl 3 0 n 1)] [deadB, deadB, bY n Y, pB n y]) := by kernel_rfl
def p1Y (x : Nat → Nat) (i k : Nat) : Nat × Nat := if k < i then (x k, 0) else (0, 0)
def p2Y (Y : Nat → Nat × Nat) (i k : Nat) : Nat := if k < i then pwW (Y k) else 0
theorem beq_cases (j o : Nat) : (j = o ∧ Nat.beq j o = true) ∨ (j ≠ o ∧ Nat.beq j o = false) := by
  by_cases h : j = o
  · subst h; exact .inl ⟨rfl, beqS j⟩
  · exact .inr ⟨h, beqN h⟩
theorem loopP1 {n : Nat} {x : Nat → Nat} (hn : n ≤ 4096) : LoopOk Tryd.prog cP1 (tmL 61 (lP1 n x 0)) [deadB, bY n (p1Y x 0)] (.exit 0) (tmL 61 [(4, slY n)]) [deadB, bY n (p1Y x n)] := by
  refine loop_rounds hm hT FTok 61 n (lP1 n x) (fun i => [deadB, bY n (p1Y x i)]) (.exit 0) _ _ (fun e => by cases e) (fun i hi => ⟨300, [.b true], ?_⟩) ⟨300, [.b false], ?_⟩ 0 (Nat.zero_le _)
  · show roundK Tryd.prog T FT 300 cP1 (tmL 61 (lP1 n x i)) [deadB, bY n (p1Y x i)] [.b true] [4, 14, 15, 16] _
    have h0 : 0 + (i : Int).toNat = i := by omega
    have h1 : (i : Int).toNat = i := by omega
    rw [roundP1, h0, h1]
    have hr : 0 ≤ (i : Int) ∧ (i : Int) < n := ⟨by omega, by omega⟩
    refine ⟨decide_eq_true (by omega), hr, hr, hi, rfl, rfl, ⟨sameV.refl _, sameV.refl _, sameV.refl _, iv_same _ _ ?_, trivial⟩, .refl _, bU_le _ _ _ _ _ fun j hj => ?_, trivial⟩
    · rw [Wid (by omega) (by omega)]; omega
    · unfold p1Y
      rcases beq_cases j i with ⟨rfl, e⟩ | ⟨h, e⟩ <;> rw [e]
      · rw [if_pos (by omega)]; rfl
      · by_cases h2 : j < i
        · rw [if_pos (by omega), if_pos h2]; rfl
        · rw [if_neg (by omega), if_neg h2]; rfl
  · show roundK Tryd.prog T FT 300 cP1 (tmL 61 (lP1 n x n)) [deadB, bY n (p1Y x n)] [.b false] [4] _
    rw [exitP1]
    exact ⟨decide_eq_false (by omega), rfl, rfl, ⟨sameV.refl _, trivial⟩, HpLe.refl _⟩
theorem loopP2 {n : Nat} {Y : Nat → Nat × Nat} (hn : n ≤ 4096) (hok : ∀ k, k < n → okPw (Y k)) : LoopOk Tryd.prog cP2 (tmL 61 (lP2 n 0)) [deadB, deadB, bY n Y, pB n (p2Y Y 0)] (.exit 2) (tmL 61 [(8, .one (.sl 3 0 n 1))]) [deadB, deadB, bY n Y, pB n (p2Y Y n)] := by
  refine loop_rounds hm hT FTok 61 n (lP2 n) (fun i => [deadB, deadB, bY n Y, pB n (p2Y Y i)]) (.exit 2) _ _ (fun e => by cases e) (fun i hi => ⟨300, [.b true], ?_⟩) ⟨300, [.b false], ?_⟩ 0 (Nat.zero_le _)
  · show roundK Tryd.prog T FT 300 cP2 (tmL 61 (lP2 n i)) [deadB, deadB, bY n Y, pB n (p2Y Y i)] [.b true] [8, 38, 39, 40] _
    have h0 : 0 + (i : Int).toNat = i := by omega
    rw [roundP2, h0]
    have hr : 0 ≤ (i : Int) ∧ (i : Int) < n := ⟨by omega, by omega⟩
    obtain ⟨k1, k2, k3⟩ := hok i hi
    refine ⟨decide_eq_true (by omega), hr, hi, k1, k2, k3, hr, hi, rfl, rfl, ⟨sameV.refl _, sameV.refl _, sameV.refl _, iv_same _ _ ?_, trivial⟩, .refl _, .refl _, .refl _, fU_le _ _ _ _ _ fun j hj => ?_, trivial⟩
    · rw [Wid (by omega) (by omega)]; omega
    · unfold p2Y
      rcases beq_cases j i with ⟨rfl, e⟩ | ⟨h, e⟩ <;> rw [e]
      · rw [if_pos (by omega)]; rfl
      · by_cases h2 : j < i
        · rw [if_pos (by omega), if_pos h2]; rfl
        · rw [if_neg (by omega), if_neg h2]; rfl
  · show roundK Tryd.prog T FT 300 cP2 (tmL 61 (lP2 n n)) [deadB, deadB, bY n Y, pB n (p2Y Y n)] [.b false] [8] _
    rw [exitP2]
    exact ⟨decide_eq_false (by omega), rfl, rfl, ⟨sameV.refl _, trivial⟩, HpLe.refl _⟩
noncomputable def FPw (n : Nat) (x : Nat → Nat) (Y Y' : Nat → Nat × Nat) (y : Nat → Nat) (q q2 : Prop) : Fns :=
  (FD1.addLoop 0 cP1 (loopC 61 (lP1 n x 0) [deadB, bY n (p1Y x 0)] q (.exit 0) [(4, slY n)] [deadB, bY n Y])).addLoop 1 cP2 (loopC 61 (lP2 n 0) [deadB, deadB, bY n Y', pB n (p2Y Y' 0)] q2 (.exit 2) [(8, .one (.sl 3 0 n 1))] [deadB, deadB, bY n Y', pB n y])

def wz25 (n : Nat) : Blk := syB 25 n fun _ => .sc (.float .f64 0) true
def Zok (n : Nat) : Prop := 0 ≤ (n : Int) ∧ (n : Int) ≤ n ∧ (16 : Int) * n ≤ 281474976710656 ∧ (n : Int) ≤ 9223372036854775807
def Zok8 (n : Nat) : Prop := 0 ≤ (n : Int) ∧ (n : Int) ≤ n ∧ (8 : Int) * n ≤ 281474976710656 ∧ (n : Int) ≤ 9223372036854775807
def slY2 (n : Nat) : AV := .one (.sl 2 0 n 1)
theorem run23 (n : Nat) (x : Nat → Nat) (Y Y' : Nat → Nat × Nat) (y : Nat → Nat) (q q2 : Prop) (K : Option AV → List Blk → Prop) : runK Tryd.prog T (FPw n x Y Y' y q q2) 300 Tryd.f23 [xF n x] [deadB] [.l 0, .l 1] K =
    (Zok n ∧ cP1 = cP1 ∧ ((61 = 61 ∧ startLs [.one (.sl 1 0 ((n : Int)).toNat 1), xF n x, iv n, .one (.sc (.int .i64 0) true)] ((lP1 n x 0).map (·.2)) ∧ startBs [deadB, zB ((n : Int)).toNat] [deadB, bY n (p1Y x 0)]) ∧ q) ∧
     (((n ≤ n ∧ ∀ k : Nat, freeC (CC (Y k))) ∧ True) ∧ okP 1 n n (fX Y)) ∧ Zok8 n ∧ cP2 = cP2 ∧
     ((61 = 61 ∧ startLs [.one (.sl 3 0 ((n : Int)).toNat 1), slY2 n, iv n, .one (.sc (.int .i64 0) true)] ((lP2 n 0).map (·.2)) ∧ startBs [deadB, { bY n Y with live := false }, bY n (trY 1 n.log2 (ofC (fX Y))), wz25 ((n : Int)).toNat] [deadB, deadB, bY n Y', pB n (p2Y Y' 0)]) ∧ q2) ∧
     K (some (.tup [(false, [.sl 3 0 n 1]), (false, [.sc (.int .i64 0) true])])) [deadB, deadB, bY n Y', pB n y]) := by kernel_rfl

theorem startB_eq {b b' : Blk} (h : b = b') : startB b b' := by subst h; exact .refl b
def isF (n N : Nat) (f : Nat → List C1) : Prop := n = N ∧ ∀ k, f k = fF (wdF f) k
theorem isF.av {n N : Nat} {f : Nat → List C1} (h : isF n N f) : AV.one (.lst n N 1 f) = xF n (wdF f) := by
  obtain ⟨rfl, h2⟩ := h
  have : f = fF (wdF f) := funext h2
  unfold xF
  rw [← this]
def pY (n : Nat) (x : Nat → Nat) (k : Nat) : Nat × Nat := trY 1 n.log2 (p1Y x n) k
def okPow (n : Nat) (x : Nat → Nat) : Prop := (∃ p, p ≤ 12 ∧ n = 2 ^ p ∧ okTr 1 p (p1Y x n)) ∧ ∀ k, k < n → okPw (pY n x k)
def GPow : List AV → Option (Prop × AV × Blk)
  | [.one (.lst n N 1 f)] => some (isF n N f ∧ okPow n (wdF f), .tup [(false, [.sl 0 0 n 1]), (false, [.sc (.int .i64 0) true])], pB n fun k => pwW (pY n (wdF f) k))
  | _ => none
theorem gcon23 : GCon Tryd.prog 23 GPow := by
  refine gcon_of_run hm hT Tryd.func23 Tryd.call23 fun args p v b h hp => ?_
  unfold GPow at h
  split at h
  · rename_i n N f
    simp only [Option.some.injEq, Prod.mk.injEq] at h
    obtain ⟨rfl, rfl, rfl⟩ := h
    obtain ⟨h1, ⟨p, hp12, hn, ht⟩, hq⟩ := hp
    rw [h1.av]
    generalize wdF f = x at *
    have hpn : 2 ^ p ≤ 4096 := Nat.pow_le_pow_right (by omega) hp12
    refine ⟨.inr rfl, sym_free fun k => trivial, FPw n x (p1Y x n) (pY n x) (p2Y (pY n x) n) True True, (FD1ok.addKeep 0 fun _ => loopP1 (by omega)).addKeep 1 fun _ => loopP2 (by omega) hq, 300, [.l 0, .l 1], [], ?_⟩
    refine of_run (run23 n x _ _ _ _ _ _) ⟨⟨by omega, by omega, by omega, by omega⟩, rfl, ⟨⟨rfl, ⟨?_, rfl, rfl, rfl, trivial⟩, ⟨.refl _, ?_, trivial⟩⟩, trivial⟩, ⟨⟨⟨Nat.le_refl _, fun k => trivial⟩, trivial⟩, ⟨p, hp12, hn, ht⟩, .inl rfl, Nat.le_refl _, fun k hk => rfl⟩, ⟨by omega, by omega, by omega, by omega⟩, rfl, ⟨⟨rfl, ⟨?_, rfl, rfl, rfl, trivial⟩, ⟨.refl _, .inl rfl, startB_eq ?_, ?_, trivial⟩⟩, trivial⟩, _, rfl, ?_⟩
    · show AV.one (.sl 1 0 ((n : Nat) : Int).toNat 1) = _
      rw [Int.toNat_natCast]; rfl
    · show startB (zB ((n : Nat) : Int).toNat) _
      rw [Int.toNat_natCast]
      refine startB_sc (t := 28) fun j _ => ⟨.complex .f64 0 0, true, false, rfl, ?_⟩
      show CC (p1Y x 0 j) = _
      unfold p1Y
      rw [if_neg (by omega)]
      rfl
    · show AV.one (.sl 3 0 ((n : Nat) : Int).toNat 1) = _
      rw [Int.toNat_natCast]
    · rfl
    · show startB (wz25 ((n : Nat) : Int).toNat) _
      rw [Int.toNat_natCast]
      refine startB_sc (t := 25) fun j _ => ⟨.float .f64 0, true, false, rfl, ?_⟩
      show FC (p2Y (pY n x) 0 j) = _
      unfold p2Y
      rw [if_neg (by omega)]
      rfl
    · refine one_left (D := [deadB, deadB, bY n (pY n x)]) noFroz ⟨⟨rfl, ⟨rfl, rfl, rfl, rfl⟩, trivial⟩, ⟨rfl, scC_eq rfl, trivial⟩, trivial⟩ (.inr ⟨rfl, rfl, rfl, rfl, fun j hj => ?_⟩)
      have e : p2Y (pY n x) n j = pwW (pY n x j) := by
        unfold p2Y
        rw [if_pos hj]
      show renS _ _ _ _ (FC (p2Y (pY n x) n j)) (FC (pwW (pY n x j)))
      rw [e]
      exact renC_S rfl
  · cases h
end Go.Proofs.YthddkcoflnbjbaaDoor
