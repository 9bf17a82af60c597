/-
  What is proved here: Flat is Inverse of the one coefficient. A text to be imported.
-/
import Derived.Test.YtcfbhlpmhlmekaaCon6
import Derived.Test.YtcfbhlpmhlmekaaLaw0
namespace Go.Proofs.Ytcfbhlpmhlmekaa
open Sm Go Go.RowKit
set_option maxRecDepth 100000
theorem onlyD_pos (d : Int) (j : Nat) (h : j ≠ 0) : onlyD d j = 0 := by
  cases j with
  | zero => exact absurd rfl h
  | succ j =>
    show (List.replicate 63 (0 : Int)).getD j 0 = 0
    rw [List.getD_eq_getElem?_getD, List.getElem?_replicate]
    split <;> rfl
theorem S_zero {n : Nat} {g : Nat → Int} (h : ∀ i, i < n → g i = 0) : S n g = 0 := by
  induction n with
  | zero => rfl
  | succ n ih => rw [S, ih fun i hi => h i (by omega), h n (by omega)]; rfl
theorem S_first (n : Nat) (g : Nat → Int) (h : ∀ i, i < n → g (i + 1) = 0) : S (n + 1) g = g 0 := by
  induction n with
  | zero => rw [S, S]; omega
  | succ n ih => rw [S, ih fun i hi => h i (by omega), h n (by omega)]; omega
theorem clip0 : clipI 0 (-32767) 32767 = 0 := by decide
theorem invS_only (d : Int) : invS (onlyD d) 0 0 = 137439249984 * clipI d (-32767) 32767 := by
  unfold invS dbl
  rw [S_first 7 _ fun i _ => S_zero fun j _ => by
    show _ * clipI (onlyD d (8 * (i + 1) + j)) (-32767) 32767 = 0
    rw [onlyD_pos d _ (by omega), clip0, Int.mul_zero]]
  rw [S_first 7 _ fun j _ => by
    show _ * clipI (onlyD d (8 * 0 + (j + 1))) (-32767) 32767 = 0
    rw [onlyD_pos d _ (by omega), clip0, Int.mul_zero]]
  rfl
theorem flat_samp (d : Int) : flatV d = sampS (137439249984 * clipI d (-32767) 32767) := by
  have hc := clip_b (v := d) (lo := -32767) (hi := 32767) (by omega) (by omega) (by omega)
  unfold flatV
  rw [W_clip (by omega) (by omega) (by omega), show W (weightI 0 0 * weightI 0 0) = 137439249984 from by decide, show W (137439249984 * clipI d (-32767) 32767) = 137439249984 * clipI d (-32767) 32767 from w64 (by omega) (by omega), settled_eq (by omega) (by omega)]
  rfl
theorem flat_same {d : Int} (h : -2147483648 ≤ d ∧ d ≤ 2147483647) : flatV d = res_14 (onlyD d) 0 := by
  rw [ref_inv _ (fun j hj => ?_) 0 (by omega), flat_samp, ← invS_only]
  by_cases h0 : j = 0
  · subst h0; exact h
  · rw [onlyD_pos d j h0]; omega
end Go.Proofs.Ytcfbhlpmhlmekaa
