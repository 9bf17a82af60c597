/-
  What is proved here: DctEnergy, with no program in sight but the floats: every operation has a word and the answer is true. A text to be imported.
-/
import Derived.Test.YtcfbhlpmhlmekaaDoorLaw5
namespace Go.Proofs.YtcfbhlpmhlmekaaDoor
open Sm Go Go.RowKit Fl Ieee
set_option maxRecDepth 100000
set_option linter.unusedVariables false
theorem kst2 {x m n : Nat} {q : Rat} (hr : FloatKind.f64.format.read x = .number false m (-(n : Int))) (hq : q * ((2 ^ n : Nat) : Rat) = (m : Rat)) : fnum .f64 x ∧ fv .f64 x = q := by
  refine ⟨⟨_, _, _, hr⟩, ?_⟩
  have e1 : fv .f64 x = sg false * (m : Rat) * pw (-(n : Int)) := by
    show dv (FloatKind.f64.format.read x) = _
    rw [hr]; rfl
  have h := pw_down n
  rw [e1, ← hq]
  unfold sg
  grind
theorem w101_ap : Ap w101 (101 / 100000000000) (1 / 1000000000000000000000000) := by
  have h : fnum .f64 w101 ∧ fv .f64 w101 = 4884060311243102 / 4835703278458516698824704 := kst2 (m := 4884060311243102) (n := 82) (by kernel_rfl) (by decide +kernel)
  exact ⟨h.1, by rw [h.2]; decide +kernel, by rw [h.2]; decide +kernel⟩
theorem w9_ap : Ap w9 (1 / 1000000000) (1 / 1000000000000000000000000) := by
  have h : fnum .f64 w9 ∧ fv .f64 w9 = 4835703278458517 / 4835703278458516698824704 := kst2 (m := 4835703278458517) (n := 82) (by kernel_rfl) (by decide +kernel)
  exact ⟨h.1, by rw [h.2]; decide +kernel, by rw [h.2]; decide +kernel⟩
theorem w1_ap : Ap w1 1 0 := .of (kst (z := 1208925819614629174706176) (by decide +kernel) (by decide +kernel))
theorem w2_ap : Ap w2 2 0 := .of (kst (z := 2417851639229258349412352) (by decide +kernel) (by decide +kernel))
theorem w17_ap : Ap w17 17 0 := .of (kst (z := 20551738933448695970004992) (by decide +kernel) (by decide +kernel))
theorem w64_ap : Ap w64f 64 0 := .of (kst (z := 77371252455336267181195264) (by decide +kernel) (by decide +kernel))
theorem RS_single {T : Nat → Rat} : ∀ n, (∀ j, j < n → 0 ≤ T j) → ∀ i, i < n → T i ≤ RS T n
  | 0, _, i, h => by omega
  | n + 1, h0, i, h => by
    show T i ≤ RS T n + T n
    have hn := h0 n (by omega)
    by_cases e : i = n
    · subst e
      have := RS_le (T := fun _ => (0 : Rat)) (D := T) i fun j hj => h0 j (by omega)
      rw [RS_const] at this
      grind
    · have := RS_single n (fun j hj => h0 j (by omega)) i (by omega)
      grind
/-- Words that are numbers of a size the law lets in. -/
def Tm (y : Nat → Nat) : Prop := ∀ k, k < 64 → fnum .f64 (y k) ∧ fv .f64 (y k) ≤ 1000000 ∧ -1000000 ≤ fv .f64 (y k)
def aY (y : Nat → Nat) (k : Nat) : Rat := ab (fv .f64 (y k))
def Lh (y : Nat → Nat) : Rat := RS (aY y) 64
theorem L_bd {y : Nat → Nat} (h : Tm y) : 0 ≤ Lh y ∧ Lh y ≤ 64000000 ∧ ∀ k, k < 64 → fv .f64 (y k) ≤ Lh y ∧ -Lh y ≤ fv .f64 (y k) ∧ aY y k ≤ Lh y := by
  have p0 : ∀ k, 0 ≤ aY y k := fun k => (ab_bd _).1
  have hs := RS_single (T := aY y) 64 fun j _ => p0 j
  refine ⟨?_, ?_, fun k hk => ?_⟩
  · have := hs 0 (by decide)
    have := p0 0
    unfold Lh; grind
  · have := RS_le (T := aY y) (D := fun _ => 1000000) 64 fun i hi => ab_le (h i hi).2.1 (h i hi).2.2
    rw [RS_const] at this
    rw [show ((64 : Nat) : Rat) = 64 from rfl] at this
    unfold Lh; grind
  · have := hs k hk
    have := ab_bd (fv .f64 (y k))
    unfold Lh
    unfold aY at *
    refine ⟨?_, ?_, ?_⟩ <;> grind
theorem lenS_eq (y : Nat → Nat) : ∀ k, lenS y k = fsum (fun i => awayF (y i)) 0 k
  | 0 => rfl
  | k + 1 => by show fbin _ _ _ _ = fbin _ _ _ _; rw [lenS_eq y k]
theorem lenS_congr {y z : Nat → Nat} : ∀ k, (∀ i, i < k → y i = z i) → lenS y k = lenS z k
  | 0, _ => rfl
  | k + 1, h => by show fbin _ _ _ _ = fbin _ _ _ _; rw [lenS_congr k fun i hi => h i (by omega), h k (by omega)]
/-- A length. -/
theorem len_ok {y : Nat → Nat} {S : Rat} (h : ∀ k, k < 64 → fnum .f64 (y k) ∧ aY y k ≤ S) (h0 : 0 ≤ S) (hS : S ≤ 100000000000) : (∀ k, k < 64 → okLen y k) ∧ Ap (lenS y 64) (Lh y) (1 / 1000000000000 * S + 1 / 1000000000000000000000000000) ∧ 0 ≤ Lh y ∧ Lh y ≤ 64 * S := by
  have p0 : ∀ k, 0 ≤ aY y k := fun k => (ab_bd _).1
  have hl : 0 ≤ Lh y ∧ Lh y ≤ 64 * S := by
    have a := RS_le (T := aY y) (D := fun _ => S) 64 fun i hi => (h i hi).2
    have b := RS_le (T := fun _ => (0 : Rat)) (D := aY y) 64 fun i _ => p0 i
    rw [RS_const, show ((64 : Nat) : Rat) = 64 from rfl] at a b
    unfold Lh
    constructor <;> grind
  have := fsum_ap (t := fun i => awayF (y i)) (T := aY y) (τ := 0) (M := S) (B := 0) (S := 0) (e := 0) (c := 65 * S + 1 / 1000000000000000000000) (s := 0) (N := 64) (fun i hi => away_ap (h i hi).1) (fun i hi => ⟨(h i hi).2, by have := p0 i; grind⟩) (Ap.of zero_val) (by grind) (by grind) h0 (by grind) (by grind) (by rw [show ((64 : Nat) : Rat) = 64 from rfl]; unfold dl; grind) (tp_30 _ (by grind)) 64 (Nat.le_refl _)
  rw [show ((64 : Nat) : Rat) = 64 from rfl] at this
  refine ⟨fun i hi => by unfold okLen; rw [lenS_eq]; exact this.1 i hi, ?_, hl⟩
  rw [lenS_eq]
  exact (this.2.mv (v' := Lh y) (d := 0) (by unfold Lh; grind) (by unfold Lh; grind)).le (by unfold dl; grind)
theorem Lh_congr {y z : Nat → Nat} (h : ∀ i, i < 64 → y i = z i) : Lh y = Lh z := RS_congr 64 fun i hi => by unfold aY; rw [h i hi]
/-- The bound that a length gives. -/
theorem off_ok {y : Nat → Nat} {S : Rat} (h : ∀ k, k < 64 → fnum .f64 (y k) ∧ aY y k ≤ S) (h0 : 0 ≤ S) (hS : S ≤ 100000000000) : (∀ p ∈ okOff y, p) ∧ Ap (offW y) (101 / 100000000000 * (1 + Lh y)) (1 / 100000000000000000000 * (1 + S)) ∧ Ap (lenS (lstN y) 64) (Lh y) (1 / 1000000000000 * S + 1 / 1000000000000000000000000000) ∧ 0 ≤ Lh y ∧ Lh y ≤ 64 * S := by
  have el : ∀ i, i < 64 → lstN y i = y i := fun i hi => lstN_eq y i hi
  obtain ⟨k1, a1, b1, b2⟩ := len_ok (y := lstN y) (S := S) (fun k hk => by unfold aY; rw [el k hk]; exact h k hk) h0 hS
  rw [Lh_congr el] at a1 b1 b2
  generalize Lh y = L at *
  obtain ⟨k2, a2⟩ := w1_ap.add a1 (66 * S + 2) (by grind) (by grind) (tp_30 _ (by grind))
  have a2' := a2.le (e' := 2 / 1000000000000 * (1 + S)) (by unfold dl; grind)
  obtain ⟨k3, a3⟩ := w101_ap.mul a2' (U := 101 / 100000000000) (V := 1 + L) (by grind) (by grind) (by grind) (by grind) (1 / 10000000 * (1 + S)) (by grind) (tp_30 _ (by grind))
  refine ⟨fun p hp => ?_, a3.le (by unfold dl; grind), a1, b1, b2⟩
  simp only [okOff, List.mem_cons, List.not_mem_nil, or_false] at hp
  rcases hp with rfl | rfl | rfl
  · exact k1
  · exact k2
  · exact k3
/-! ### the transforms -/
def sT (y : Nat → Nat) (k : Nat) : Rat := RS (fun i => CM i k * fv .f64 (y i)) 64
def gT (y : Nat → Nat) (i : Nat) : Rat := RS (fun k => CM i k * sT y k) 64
theorem sT_bd {y : Nat → Nat} (h : Tm y) {k : Nat} (hk : k < 64) : sT y k ≤ 1 / 4 * Lh y ∧ -(1 / 4 * Lh y) ≤ sT y k := by
  have := RS_abs (T := fun i => CM i k * fv .f64 (y i)) (D := fun i => 1 / 4 * aY y i) (n := 64) fun i hi => by
    obtain ⟨m1, m2⟩ := CM_bd i k hi hk
    obtain ⟨a1, a2, a3⟩ := ab_bd (fv .f64 (y i))
    exact rmul_le (by grind) a1 m1 m2 a2 a3
  rw [RS_mul] at this
  exact this
theorem s_ok {y : Nat → Nat} (h : Tm y) : (∀ k, k < 64 → okR (lstN y) k) ∧ ∀ k, k < 64 → Ap (sF y k) (sT y k) (eL (Lh y) 0) := by
  obtain ⟨l0, l1, l2⟩ := L_bd h
  have key : ∀ k, k < 64 → _ := fun k hk => lin_ok (w := fun i => wcI i k) (f := lstN y) (C := fun i => CM i k) (F := fun i => fv .f64 (y i)) (S := Lh y) (e := 0)
    (fun i hi => ⟨(wc_ok i k hi hk).2, CM_bd i k hi hk⟩) (fun i hi => ⟨by rw [lstN_eq y i hi]; exact Ap.self (h i hi).1, (l2 i hi).1, (l2 i hi).2.1⟩) l0 (by grind) (by grind)
  refine ⟨fun k hk j hj => ⟨(wc_ok j k hj hk).1, ((key k hk).1 j hj).1, ((key k hk).1 j hj).2⟩, fun k hk => ?_⟩
  have e : sF y k = sR (lstN y) k 64 := by unfold sF SR; rw [if_pos hk]
  rw [e]
  exact (key k hk).2
theorem g_ok {y : Nat → Nat} (h : Tm y) : (∀ k, k < 64 → okWv (lstN (sF y)) k) ∧ ∀ k, k < 64 → Ap (gF y k) (gT y k) (eL (1 / 4 * Lh y) (eL (Lh y) 0)) := by
  obtain ⟨l0, l1, l2⟩ := L_bd h
  obtain ⟨_, hs⟩ := s_ok h
  have key : ∀ k, k < 64 → _ := fun k hk => lin_ok (w := fun i => wcI k i) (f := lstN (sF y)) (C := fun i => CM k i) (F := sT y) (S := 1 / 4 * Lh y) (e := eL (Lh y) 0)
    (fun i hi => ⟨(wc_ok k i hk hi).2, CM_bd k i hk hi⟩) (fun i hi => ⟨by rw [lstN_eq (sF y) i hi]; exact hs i hi, sT_bd h hi⟩) (by grind) (by grind) (by unfold eL; grind)
  refine ⟨fun k hk j hj => ⟨(wc_ok k j hk hj).1, ((key k hk).1 j hj).1, ((key k hk).1 j hj).2⟩, fun k hk => ?_⟩
  have e : gF y k = sV (lstN (sF y)) k 64 := by unfold gF SV; rw [if_pos hk]
  rw [e]
  exact (key k hk).2
/-- There and back. -/
theorem g_near {y : Nat → Nat} (h : Tm y) {i : Nat} (hi : i < 64) : gT y i - fv .f64 (y i) ≤ 3 / 100000000000000 * Lh y ∧ -(3 / 100000000000000 * Lh y) ≤ gT y i - fv .f64 (y i) := by
  have e1 : gT y i = RS (fun j => RS (fun k => CM i k * CM j k) 64 * fv .f64 (y j)) 64 := by
    unfold gT sT
    rw [RS_congr (T' := fun k => RS (fun j => fv .f64 (y j) * (CM i k * CM j k)) 64) 64 fun k _ => by
      rw [← RS_mul]
      exact RS_congr 64 fun j _ => by grind]
    rw [RS_swap]
    exact RS_congr 64 fun j _ => by rw [RS_mul]; grind
  have e2 : fv .f64 (y i) = RS (fun j => dlt i j * fv .f64 (y j)) 64 := by
    rw [RS_one i 64 hi fun j _ hne => by unfold dlt; rw [if_neg (fun e => hne e.symm)]; grind]
    unfold dlt
    rw [if_pos rfl]; grind
  rw [e1, e2, ← RS_sub]
  have := RS_abs (T := fun j => RS (fun k => CM i k * CM j k) 64 * fv .f64 (y j) - dlt i j * fv .f64 (y j)) (D := fun j => 3 / 100000000000000 * aY y j) (n := 64) fun j hj => by
    obtain ⟨m1, m2⟩ := gram64 i j hi hj
    obtain ⟨a1, a2, a3⟩ := ab_bd (fv .f64 (y j))
    have := rmul_le (a := RS (fun k => CM i k * CM j k) 64 - dlt i j) (b := fv .f64 (y j)) (A := 3 / 100000000000000) (B := ab (fv .f64 (y j))) (by grind) a1 m1 m2 a2 a3
    generalize RS (fun k => CM i k * CM j k) 64 = g at *
    unfold aY
    constructor <;> grind
  rw [RS_mul] at this
  exact this
/-- The sums of squares. -/
def QQ (y : Nat → Nat) : Rat := RS (fun i => fv .f64 (y i) * fv .f64 (y i)) 64
theorem pars {y : Nat → Nat} (h : Tm y) : RS (fun k => sT y k * sT y k) 64 - QQ y ≤ 3 / 100000000000000 * (Lh y * Lh y) ∧ -(3 / 100000000000000 * (Lh y * Lh y)) ≤ RS (fun k => sT y k * sT y k) 64 - QQ y := by
  have e1 : RS (fun k => sT y k * sT y k) 64 = RS (fun i => RS (fun j => fv .f64 (y i) * fv .f64 (y j) * RS (fun k => CM i k * CM j k) 64) 64) 64 := by
    rw [RS_congr (T' := fun k => RS (fun i => RS (fun j => fv .f64 (y i) * fv .f64 (y j) * (CM i k * CM j k)) 64) 64) 64 fun k _ => by
      unfold sT
      rw [RS_prod]
      exact RS_congr 64 fun i _ => RS_congr 64 fun j _ => by grind]
    rw [RS_swap]
    refine RS_congr 64 fun n _ => ?_
    rw [RS_swap]
    exact RS_congr 64 fun m _ => RS_mul _ _ 64
  have e2 : QQ y = RS (fun n => RS (fun m => fv .f64 (y n) * fv .f64 (y m) * dlt n m) 64) 64 := RS_congr 64 fun n hn => by
    rw [RS_one n 64 hn fun j _ hne => by unfold dlt; rw [if_neg (fun e => hne e.symm), Rat.mul_zero]]
    unfold dlt
    rw [if_pos rfl, Rat.mul_one]
  have e3 : 3 / 100000000000000 * (Lh y * Lh y) = RS (fun n => RS (fun m => 3 / 100000000000000 * (aY y n * aY y m)) 64) 64 := by
    unfold Lh
    rw [RS_prod, ← RS_mul]
    exact RS_congr 64 fun n _ => (RS_mul _ _ 64).symm
  rw [e1, e2, ← RS_sub, e3]
  refine RS_abs fun n hn => ?_
  rw [← RS_sub]
  refine RS_abs fun m hm' => ?_
  obtain ⟨g1, g2⟩ := gram64 n m hn hm'
  obtain ⟨a0, a1, a2⟩ := ab_bd (fv .f64 (y n))
  obtain ⟨c0, c1', c2⟩ := ab_bd (fv .f64 (y m))
  have x1 := rmul_le (a := fv .f64 (y n)) (b := fv .f64 (y m)) (A := aY y n) (B := aY y m) a0 c0 a1 a2 c1' c2
  have x0 : 0 ≤ aY y n * aY y m := Rat.mul_nonneg a0 c0
  generalize RS (fun k => CM n k * CM m k) 64 = g at *
  have k := rmul_le (a := fv .f64 (y n) * fv .f64 (y m)) (b := g - dlt n m) (A := aY y n * aY y m) (B := 3 / 100000000000000) x0 (by grind) x1.1 x1.2 g1 g2
  constructor <;> grind
/-- The square of a length against the sum of squares. -/
theorem cauchy (y : Nat → Nat) : Lh y * Lh y ≤ 64 * QQ y := by
  have e : 64 * QQ y = RS (fun i => RS (fun j => 1 / 2 * (aY y i * aY y i) + 1 / 2 * (aY y j * aY y j)) 64) 64 := by
    have hq : QQ y = RS (fun i => aY y i * aY y i) 64 := RS_congr 64 fun i _ => by unfold aY; rw [ab_sq]
    rw [RS_congr (T' := fun i => 32 * (aY y i * aY y i) + 1 / 2 * QQ y) 64 fun i _ => by
      rw [RS_add, RS_const, RS_mul, ← hq, show ((64 : Nat) : Rat) = 64 from rfl]; grind]
    rw [RS_add, RS_const, RS_mul, ← hq, show ((64 : Nat) : Rat) = 64 from rfl]
    grind
  rw [e]
  unfold Lh
  rw [RS_prod]
  refine RS_le 64 fun i _ => RS_le 64 fun j _ => ?_
  have := sq_nn' (aY y i - aY y j)
  grind
theorem QQ_bd {y : Nat → Nat} (h : Tm y) : 0 ≤ QQ y ∧ QQ y ≤ 64 * (Lh y * Lh y) := by
  obtain ⟨l0, l1, l2⟩ := L_bd h
  have a := RS_le (T := fun i => fv .f64 (y i) * fv .f64 (y i)) (D := fun _ => Lh y * Lh y) 64 fun i hi => (rmul_le l0 l0 (l2 i hi).1 (l2 i hi).2.1 (l2 i hi).1 (l2 i hi).2.1).1
  have b := RS_le (T := fun _ => (0 : Rat)) (D := fun i => fv .f64 (y i) * fv .f64 (y i)) 64 fun i _ => sq_nn' _
  rw [RS_const, show ((64 : Nat) : Rat) = 64 from rfl] at a b
  unfold QQ
  constructor <;> grind
end Go.Proofs.YtcfbhlpmhlmekaaDoor
