/-
  What is proved here: plain facts on the program's sums of the transforms. A text to be imported.
-/
import Derived.Test.YtcfbhlpmhlmekaaDoorCon5
namespace Go.Proofs.YtcfbhlpmhlmekaaDoor
open Sm Go Go.RowKit
set_option maxRecDepth 100000
set_option linter.unusedVariables false
def S : Nat → (Nat → Int) → Int
  | 0, _ => 0
  | n + 1, g => S n g + g n
theorem S_congr {n : Nat} {g h : Nat → Int} (e : ∀ i, i < n → g i = h i) : S n g = S n h := by
  induction n with
  | zero => rfl
  | succ n ih => rw [S, S, ih fun i hi => e i (by omega), e n (by omega)]
theorem S_bound {n : Nat} {g : Nat → Int} {B : Int} (hb : ∀ i, i < n → -B ≤ g i ∧ g i ≤ B) : -((n : Int) * B) ≤ S n g ∧ S n g ≤ (n : Int) * B := by
  induction n with
  | zero => simp [S]
  | succ n ih =>
    have h1 := ih fun i hi => hb i (by omega)
    have h2 := hb n (by omega)
    rw [S, show ((n + 1 : Nat) : Int) * B = (n : Int) * B + B by rw [Int.natCast_succ, Int.add_mul, Int.one_mul]]
    omega
theorem S_mul (c : Int) (n : Nat) (g : Nat → Int) : S n (fun i => c * g i) = c * S n g := by
  induction n with
  | zero => simp [S]
  | succ n ih => rw [S, S, ih, Int.mul_add]
theorem S_add (n : Nat) (g h : Nat → Int) : S n (fun i => g i + h i) = S n g + S n h := by
  induction n with
  | zero => rfl
  | succ n ih => rw [S, S, S, ih]; omega
theorem S_swap (n m : Nat) (g : Nat → Nat → Int) : S n (fun i => S m (g i)) = S m (fun j => S n fun i => g i j) := by
  induction n with
  | zero =>
    have : ∀ m, S m (fun j => S 0 fun i => g i j) = 0 := fun m => by
      induction m with
      | zero => rfl
      | succ m ih => rw [S, ih]; rfl
    rw [this]; rfl
  | succ n ih => rw [S, ih, ← S_add]; rfl
theorem sumW_eq {n : Nat} {g : Nat → Int} {B : Int} (hB : (n : Int) * B ≤ 4611686018427387904) (h0 : 0 ≤ B) (hb : ∀ i, i < n → -B ≤ g i ∧ g i ≤ B) : sumW n g = S n g := by
  induction n with
  | zero => rfl
  | succ n ih =>
    rw [show ((n + 1 : Nat) : Int) * B = (n : Int) * B + B by rw [Int.natCast_succ, Int.add_mul, Int.one_mul]] at hB
    have hnB : 0 ≤ (n : Int) * B := Int.mul_nonneg (by omega) h0
    have h1 := S_bound (n := n) (g := g) (B := B) fun i hi => hb i (by omega)
    have h2 := hb n (by omega)
    rw [sumW, S, ih (by omega) fun i hi => hb i (by omega), show W (g n) = g n from w64 (by omega) (by omega), show W (S n g + g n) = S n g + g n from w64 (by omega) (by omega)]
theorem wF_bound (i : Nat) : -514214 ≤ wF i ∧ wF i ≤ 514214 := by
  by_cases h : i < 64
  · have : ∀ i, i < 64 → -514214 ≤ wF i ∧ wF i ≤ 514214 := by decide
    exact this i h
  · have : wF i = 0 := by
      unfold wF wL
      rw [List.getD_eq_getElem?_getD, List.getElem?_eq_none (by simp; omega)]; rfl
    rw [this]; omega
theorem weight_eq (u x : Nat) (hu : u < 8) (hx : x < 8) : weightI (u : Nat) (x : Nat) = wF (8 * u + x) := by
  unfold weightI inR
  rw [if_pos (by simp; omega), show ((8 : Int) * (u : Int) + (x : Int)).toNat = 8 * u + x from by omega]
  rfl
theorem mul_bound {a b A B : Int} (ha : -A ≤ a ∧ a ≤ A) (hb : -B ≤ b ∧ b ≤ B) : -(A * B) ≤ a * b ∧ a * b ≤ A * B := by
  have hA : 0 ≤ A := by omega
  have hB : 0 ≤ B := by omega
  have h : (a * b).natAbs ≤ (A * B).natAbs := by
    rw [Int.natAbs_mul, Int.natAbs_mul]
    exact Nat.mul_le_mul (by omega) (by omega)
  have h2 : 0 ≤ A * B := Int.mul_nonneg hA hB
  omega
def clipI (v lo hi : Int) : Int := mn (mx v lo) hi
theorem clip_bound {v lo hi : Int} (h : lo ≤ hi) : lo ≤ clipI v lo hi ∧ clipI v lo hi ≤ hi := by
  unfold clipI mn mx
  split <;> split <;> omega
theorem settled_eq {v : Int} (h1 : -4611686018427387904 ≤ v) (h2 : v ≤ 4611686018427387904) : settledI v = (v + 549755813888).fdiv 1099511627776 := by
  unfold settledI
  rw [show W (v + 549755813888) = v + 549755813888 from w64 (by omega) (by omega)]
theorem W_clip {x lo hi : Int} (h1 : -32767 ≤ lo) (h2 : lo ≤ hi) (h3 : hi ≤ 32767) : W (mn (mx x lo) hi) = clipI x lo hi := by
  have := clip_bound (v := x) h2
  exact w64 (by unfold clipI at this; omega) (by unfold clipI at this; omega)
def dbl (w1 w2 : Nat → Int) (x : Nat → Nat → Int) : Int := S 8 fun i => S 8 fun j => w1 i * w2 j * x i j
theorem dbl_bound {w1 w2 : Nat → Int} {x : Nat → Nat → Int} (h1 : ∀ i, -514214 ≤ w1 i ∧ w1 i ≤ 514214) (h2 : ∀ i, -514214 ≤ w2 i ∧ w2 i ≤ 514214) (hx : ∀ i j, -32767 ≤ x i j ∧ x i j ≤ 32767) : -1000000000000000000 ≤ dbl w1 w2 x ∧ dbl w1 w2 x ≤ 1000000000000000000 := by
  have hb : ∀ i, -((8 : Nat) * (514214 * 514214 * 32767) : Int) ≤ S 8 (fun j => w1 i * w2 j * x i j) ∧ S 8 (fun j => w1 i * w2 j * x i j) ≤ ((8 : Nat) * (514214 * 514214 * 32767) : Int) := fun i => S_bound fun j _ => mul_bound (mul_bound (h1 i) (h2 j)) (hx i j)
  have := S_bound (n := 8) (g := fun i => S 8 fun j => w1 i * w2 j * x i j) fun i _ => hb i
  unfold dbl
  omega
theorem prog_sum {w1 w2 : Nat → Int} {x : Nat → Nat → Int} (h1 : ∀ i, -514214 ≤ w1 i ∧ w1 i ≤ 514214) (h2 : ∀ i, -514214 ≤ w2 i ∧ w2 i ≤ 514214) (hx : ∀ i j, -32767 ≤ x i j ∧ x i j ≤ 32767) :
    sumW 8 (fun i => w1 i * sumW 8 fun j => w2 j * x i j) = dbl w1 w2 x := by
  have e : ∀ i, sumW 8 (fun j => w2 j * x i j) = S 8 fun j => w2 j * x i j := fun i => sumW_eq (B := 514214 * 32767) (by omega) (by omega) fun j _ => mul_bound (h2 j) (hx i j)
  have hb : ∀ i, -((8 : Nat) * (514214 * 32767) : Int) ≤ S 8 (fun j => w2 j * x i j) ∧ S 8 (fun j => w2 j * x i j) ≤ ((8 : Nat) * (514214 * 32767) : Int) := fun i => S_bound fun j _ => mul_bound (h2 j) (hx i j)
  rw [sumW_eq (B := 514214 * ((8 : Nat) * (514214 * 32767) : Int)) (by omega) (by omega) fun i _ => by rw [e]; exact mul_bound (h1 i) (hb i)]
  unfold dbl
  refine S_congr fun i _ => ?_
  rw [e, ← S_mul]
  exact S_congr fun j _ => (Int.mul_assoc _ _ _).symm
theorem dbl_swap (w1 w2 : Nat → Int) (x : Nat → Nat → Int) : dbl w1 w2 x = dbl w2 w1 fun i j => x j i := by
  unfold dbl
  rw [S_swap]
  exact S_congr fun i _ => S_congr fun j _ => by rw [Int.mul_comm (w1 j)]
def fwdS (x : Nat → Int) (v u : Nat) : Int := dbl (fun y => wF (8 * v + y)) (fun k => wF (8 * u + k)) fun y k => clipI (x (8 * y + k)) (-255) 255
def invS (x : Nat → Int) (y k : Nat) : Int := dbl (fun v => wF (8 * v + y)) (fun u => wF (8 * u + k)) fun v u => clipI (x (8 * v + u)) (-32767) 32767
theorem fwdS_bound (x : Nat → Int) (v u : Nat) : -1000000000000000000 ≤ fwdS x v u ∧ fwdS x v u ≤ 1000000000000000000 :=
  dbl_bound (fun _ => wF_bound _) (fun _ => wF_bound _) fun _ _ => by have := clip_bound (v := x (8 * 0 + 0)) (lo := -255) (hi := 255) (by omega); exact ⟨Int.le_trans (by omega) (clip_bound (by omega)).1, Int.le_trans (clip_bound (by omega)).2 (by omega)⟩
theorem invS_bound (x : Nat → Int) (y k : Nat) : -1000000000000000000 ≤ invS x y k ∧ invS x y k ≤ 1000000000000000000 :=
  dbl_bound (fun _ => wF_bound _) (fun _ => wF_bound _) fun _ _ => clip_bound (by omega)
def roundS (s : Int) : Int := (s + 549755813888).fdiv 1099511627776
theorem clip_b {v lo hi : Int} (h1 : -32767 ≤ lo) (h2 : lo ≤ hi) (h3 : hi ≤ 32767) : -32767 ≤ clipI v lo hi ∧ clipI v lo hi ≤ 32767 := by
  have := clip_bound (v := v) h2
  omega
theorem sum_11 (x : Nat → Int) (p q : Nat) (hq : q < 8) : sumW 8 (gB_11 (half_11 x) p q) = fwdS x p q := by
  have e := prog_sum (w1 := fun y => wF (8 * p + y)) (w2 := fun k => wF (8 * q + k)) (x := fun y k => clipI (x (8 * y + k)) (-255) 255) (fun _ => wF_bound _) (fun _ => wF_bound _) fun _ _ => clip_b (by omega) (by omega) (by omega)
  rw [fwdS, ← e]
  congr 1
  funext r
  unfold gB_11 half_11 iH_11
  rw [show (8 * r + q) / 8 = r from by omega, show (8 * r + q) % 8 = q from by omega, Nat.mul_comm p 8]
  congr 2
  funext n
  unfold gA_11
  rw [W_clip (by omega) (by omega) (by omega), Nat.mul_comm q 8]
theorem sum_13 (x : Nat → Int) (p q : Nat) : sumW 8 (gB_13 (half_13 x) p q) = sumW 8 fun r => wF (8 * r + q) * half_13 x (8 * p + r) := by
  congr 1
  funext r
  unfold gB_13
  rw [Nat.mul_comm r 8]
theorem sumW_congr {n : Nat} {g h : Nat → Int} (e : ∀ i, i < n → g i = h i) : sumW n g = sumW n h := by
  induction n with
  | zero => rfl
  | succ n ih => rw [sumW, sumW, ih fun i hi => e i (by omega), e n (by omega)]
theorem sum_13b (x : Nat → Int) (p q : Nat) : sumW 8 (gB_13 (half_13 x) p q) = invS x p q := by
  have e := prog_sum (w1 := fun u => wF (8 * u + q)) (w2 := fun v => wF (8 * v + p)) (x := fun u v => clipI (x (8 * v + u)) (-32767) 32767) (fun _ => wF_bound _) (fun _ => wF_bound _) fun _ _ => clip_b (by omega) (by omega) (by omega)
  rw [invS, dbl_swap, ← e, sum_13]
  refine sumW_congr fun r hr => ?_
  unfold half_13 iH_13
  rw [show (8 * p + r) / 8 = p from by omega, show (8 * p + r) % 8 = r from by omega]
  congr 2
  funext n
  unfold gA_13
  rw [W_clip (by omega) (by omega) (by omega), Nat.mul_comm n 8]
theorem prog_fwd (x : Nat → Int) (j : Nat) : resP_11 x j = IntKind.i32.wrap (roundS (fwdS x (j / 8) (j % 8))) := by
  have hb := fwdS_bound x (j / 8) (j % 8)
  show outP_11 (half_11 x) (j / 8) (j % 8) = _
  unfold outP_11
  rw [sum_11 x _ _ (by omega), settled_eq (by omega) (by omega)]
  rfl
def sampS (s : Int) : Int := IntKind.u8.wrap (clipI (W (roundS s + 128)) 0 255)
theorem prog_inv (x : Nat → Int) (j : Nat) : resP_13 x j = sampS (invS x (j / 8) (j % 8)) := by
  have hb := invS_bound x (j / 8) (j % 8)
  show outP_13 (half_13 x) (j / 8) (j % 8) = _
  unfold outP_13
  rw [sum_13b x _ _, settled_eq (by omega) (by omega)]
  rfl
end Go.Proofs.YtcfbhlpmhlmekaaDoor
