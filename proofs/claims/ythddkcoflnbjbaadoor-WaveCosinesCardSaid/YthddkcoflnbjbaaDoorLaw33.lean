/-
  What is proved here: the law WaveCosines, its whole runs, and that it holds. A text to be imported.
-/
import Derived.Test.YthddkcoflnbjbaaDoorCon32
import Derived.Test.YthddkcoflnbjbaaDoorLaw17
namespace Go.Proofs.YthddkcoflnbjbaaDoor
open Sm Go Go.RowKit Fl Ieee
set_option maxRecDepth 1000000
set_option linter.unusedVariables false
def w100 : Nat := 6103021453049119613
def w2e9 : Nat := 4476910133257361045
def x8 (x : Nat → Nat) (k : Nat) : Nat := [x 0, x 1, x 2, x 3, x 4, x 5, x 6, x 7].getD k 0
def sA8 (x : Nat → Nat) : Nat → Nat
  | 0 => 0
  | k + 1 => fbin .add .f64 (sA8 x k) (absW (x k))
def bd8 (x : Nat → Nat) : Nat := fbin .mul .f64 w2e9 (fbin .add .f64 kOne (sA8 x 8))
def okA (x : Nat → Nat) (k : Nat) (r : Prop) : Prop := (!fle (absW (x k)) w100) = false ∧ fok .add .f64 (sA8 x k) (absW (x k)) = true ∧ r
def okW8 (x : Nat → Nat) (u : Nat) (r : Prop) : Prop := fok .add .f64 kOne (sA8 x 8) = true ∧ fok .mul .f64 w2e9 (fbin .add .f64 kOne (sA8 x 8)) = true ∧ fok .sub .f64 (cosB (x8 x) u) (zQ (x8 x) u) = true ∧ (!fle (absW (fbin .sub .f64 (cosB (x8 x) u) (zQ (x8 x) u))) (bd8 x)) = false ∧ r
theorem run10 (x : Nat → Nat) (u : Value) : runK Tryd.prog T FT10 2000 Tryd.f10 [aF x] [] [.b false, .b false, .b false, .b false, .b false, .b false, .b false, .b false, .b false, .b false, .b false, .b false, .b false, .b false, .b false, .b false] (fun r _ => resW r = some u) =
  (okCos (x8 x) ∧ okRc (x8 x) ∧ okA x 0 (okA x 1 (okA x 2 (okA x 3 (okA x 4 (okA x 5 (okA x 6 (okA x 7 (okW8 x 0 (okW8 x 1 (okW8 x 2 (okW8 x 3 (okW8 x 4 (okW8 x 5 (okW8 x 6 (okW8 x 7 (some (Value.bool true) = some u))))))))))))))))) := by kernel_rfl
def any8 : Prop := (True ∧ True) ∧ (8 : Nat) = 8 ∧ true = true
theorem run10U0 (x : Nat → Nat) (u : Value) : runK Tryd.prog T FU10 2000 Tryd.f10 [aF x] [] [.b true] (fun r _ => resW r = some u) =
  (any8 ∧ any8 ∧ (!fle (absW (x 0)) w100) = true ∧ some (Value.bool true) = some u) := by kernel_rfl
theorem run10U1 (x : Nat → Nat) (u : Value) : runK Tryd.prog T FU10 2000 Tryd.f10 [aF x] [] [.b false, .b true] (fun r _ => resW r = some u) =
  (any8 ∧ any8 ∧ okA x 0 ((!fle (absW (x 1)) w100) = true ∧ some (Value.bool true) = some u)) := by kernel_rfl
theorem run10U2 (x : Nat → Nat) (u : Value) : runK Tryd.prog T FU10 2000 Tryd.f10 [aF x] [] [.b false, .b false, .b true] (fun r _ => resW r = some u) =
  (any8 ∧ any8 ∧ okA x 0 (okA x 1 ((!fle (absW (x 2)) w100) = true ∧ some (Value.bool true) = some u))) := by kernel_rfl
theorem run10U3 (x : Nat → Nat) (u : Value) : runK Tryd.prog T FU10 2000 Tryd.f10 [aF x] [] [.b false, .b false, .b false, .b true] (fun r _ => resW r = some u) =
  (any8 ∧ any8 ∧ okA x 0 (okA x 1 (okA x 2 ((!fle (absW (x 3)) w100) = true ∧ some (Value.bool true) = some u)))) := by kernel_rfl
theorem run10U4 (x : Nat → Nat) (u : Value) : runK Tryd.prog T FU10 2000 Tryd.f10 [aF x] [] [.b false, .b false, .b false, .b false, .b true] (fun r _ => resW r = some u) =
  (any8 ∧ any8 ∧ okA x 0 (okA x 1 (okA x 2 (okA x 3 ((!fle (absW (x 4)) w100) = true ∧ some (Value.bool true) = some u))))) := by kernel_rfl
theorem run10U5 (x : Nat → Nat) (u : Value) : runK Tryd.prog T FU10 2000 Tryd.f10 [aF x] [] [.b false, .b false, .b false, .b false, .b false, .b true] (fun r _ => resW r = some u) =
  (any8 ∧ any8 ∧ okA x 0 (okA x 1 (okA x 2 (okA x 3 (okA x 4 ((!fle (absW (x 5)) w100) = true ∧ some (Value.bool true) = some u)))))) := by kernel_rfl
theorem run10U6 (x : Nat → Nat) (u : Value) : runK Tryd.prog T FU10 2000 Tryd.f10 [aF x] [] [.b false, .b false, .b false, .b false, .b false, .b false, .b true] (fun r _ => resW r = some u) =
  (any8 ∧ any8 ∧ okA x 0 (okA x 1 (okA x 2 (okA x 3 (okA x 4 (okA x 5 ((!fle (absW (x 6)) w100) = true ∧ some (Value.bool true) = some u))))))) := by kernel_rfl
theorem run10U7 (x : Nat → Nat) (u : Value) : runK Tryd.prog T FU10 2000 Tryd.f10 [aF x] [] [.b false, .b false, .b false, .b false, .b false, .b false, .b false, .b true] (fun r _ => resW r = some u) =
  (any8 ∧ any8 ∧ okA x 0 (okA x 1 (okA x 2 (okA x 3 (okA x 4 (okA x 5 (okA x 6 ((!fle (absW (x 7)) w100) = true ∧ some (Value.bool true) = some u)))))))) := by kernel_rfl
/-! the numbers -/
def BX : Rat := 100000000000000000000000000000000000000000000000000000000000000000000000000000000000000000000000000000
theorem BX_GG : 10000 * (BX * BX) ≤ GG ∧ 1000000 ≤ BX := by unfold BX GG; decide +kernel
theorem w100_val : fnum .f64 w100 ∧ fv .f64 w100 ≤ BX := by
  have h := vB_ap (x := w100) (by decide +kernel)
  have h2 : vB w100 ≤ BX := by unfold BX; decide +kernel
  exact ⟨h.num, by have := h.hi; grind⟩
theorem tame1 {y : Nat} (h : fle (absW y) w100 = true) : fnum .f64 y ∧ ab (fv .f64 y) ≤ BX := by
  obtain ⟨h1, h2, h3⟩ := abs_le_num w100_val.1 h
  have hb := w100_val.2
  exact ⟨h1, ab_le (by grind) (by grind)⟩
theorem sA8_eq (x : Nat → Nat) : ∀ k, sA8 x k = fsum (fun i => absW (x i)) 0 k
  | 0 => rfl
  | k + 1 => by show fbin _ _ _ _ = fbin _ _ _ _; rw [sA8_eq x k]
theorem sA8_pre {x : Nat → Nat} {m : Nat} (hm : m ≤ 8) (h : ∀ k, k < m → fle (absW (x k)) w100 = true) : ∀ k, k < m → fok .add .f64 (sA8 x k) (absW (x k)) = true := by
  have hAp : ∀ i, i < m → Ap (absW (x i)) (ab (fv .f64 (x i))) 0 := fun i hi => ab_ap (tame1 (h i hi)).1
  obtain ⟨g1, g2⟩ := BX_GG
  have gb : 1000000 * BX ≤ BX * BX := Rat.mul_le_mul_of_nonneg_right g2 (by grind)
  have hmr : (m : Rat) ≤ 8 := Rat.natCast_le_natCast.2 hm
  have hm0 : (0 : Rat) ≤ m := Rat.natCast_nonneg
  have k1 : (m : Rat) * BX ≤ 8 * BX := Rat.mul_le_mul_of_nonneg_right hmr (by grind)
  have k2 : (m : Rat) * (0 + dl (10 * BX + 1)) ≤ 8 * (0 + dl (10 * BX + 1)) := Rat.mul_le_mul_of_nonneg_right hmr (by unfold dl; grind)
  have := fsum_ap (t := fun i => absW (x i)) (T := fun i => ab (fv .f64 (x i))) (τ := 0) (M := BX) (B := 0) (S := 0) (e := 0) (c := 10 * BX + 1) (s := 0) (N := m) hAp (fun i hi => ⟨(tame1 (h i hi)).2, by have := (ab_bd (fv .f64 (x i))).1; grind⟩) (Ap.of zero_val) (by grind) (by grind) (by grind) (by grind) (by grind) (by unfold dl at k2 ⊢; grind) (tp_GG _ (by grind)) m (Nat.le_refl _)
  exact fun k hk => by rw [sA8_eq]; exact this.1 k hk
/-- Tame words. -/
def TmX (y : Nat → Nat) : Prop := ∀ k, fnum .f64 (y k) ∧ ab (fv .f64 (y k)) ≤ BX
theorem x8_eq (x : Nat → Nat) : ∀ k, k < 8 → x8 x k = x k
  | 0, _ => rfl
  | 1, _ => rfl
  | 2, _ => rfl
  | 3, _ => rfl
  | 4, _ => rfl
  | 5, _ => rfl
  | 6, _ => rfl
  | 7, _ => rfl
  | n + 8, h => by omega
theorem x8_tm {x : Nat → Nat} (h : ∀ k, k < 8 → fle (absW (x k)) w100 = true) : TmX (x8 x) := fun k => by
  by_cases hk : k < 8
  · rw [x8_eq x k hk]; exact tame1 (h k hk)
  · have e : x8 x k = 0 := by
      obtain ⟨n, rfl⟩ : ∃ n, k = n + 8 := ⟨k - 8, by omega⟩
      rfl
    rw [e]
    have hz := zero_val
    have := BX_GG.2
    exact ⟨hz.1, ab_le (by rw [hz.2]; grind) (by rw [hz.2]; grind)⟩
theorem SX_bd {y : Nat → Nat} (h : TmX y) : 0 ≤ S8 y ∧ S8 y ≤ 8 * BX ∧ ∀ k, k < 8 → aN y k ≤ S8 y := by
  have p0 : ∀ k, 0 ≤ aN y k := fun k => (ab_bd _).1
  refine ⟨?_, ?_, fun k hk => ?_⟩
  · have := RS_le (T := fun _ => (0 : Rat)) (D := aN y) 8 fun i _ => p0 i
    rw [RS_const] at this
    unfold S8; grind
  · have := RS_le (T := aN y) (D := fun _ => BX) 8 fun i _ => (h i).2
    rw [RS_const] at this
    exact this
  · have q0 := p0 0; have q1 := p0 1; have q2 := p0 2; have q3 := p0 3; have q4 := p0 4; have q5 := p0 5; have q6 := p0 6; have q7 := p0 7
    unfold S8
    simp only [RS]
    match k, hk with
    | 0, _ => grind
    | 1, _ => grind
    | 2, _ => grind
    | 3, _ => grind
    | 4, _ => grind
    | 5, _ => grind
    | 6, _ => grind
    | 7, _ => grind
    | n + 8, h => omega
theorem SX_GG {y : Nat → Nat} (h : TmX y) : 0 ≤ S8 y ∧ 100000 * S8 y + 100000 ≤ GG := by
  obtain ⟨h0, h1, _⟩ := SX_bd h
  obtain ⟨g1, g2⟩ := BX_GG
  have gb : 1000000 * BX ≤ BX * BX := Rat.mul_le_mul_of_nonneg_right g2 (by grind)
  exact ⟨h0, by grind⟩
theorem cosX {y : Nat → Nat} (h : TmX y) : okCos y ∧ ∀ u, u < 8 → Ap (cosB y u) (tC (fun k => fv .f64 (y k)) u) (eC (S8 y)) := by
  obtain ⟨h1, h2⟩ := cos_near (x := y) (ax := aN y) (fun k _ => (h k).1) (fun k => (ab_bd _).2.1) (fun k => (ab_bd _).2.2) (fun k => (h k).2)
  refine ⟨h1, fun u hu => (h2 u hu).le ?_⟩
  rw [mir_sum]
  have := (SX_bd h).1
  unfold eC
  show _ * (2 * S8 y) + _ ≤ _
  grind
theorem sA8_all {x : Nat → Nat} (h : ∀ k, k < 8 → fle (absW (x k)) w100 = true) : Ap (sA8 x 8) (S8 (x8 x)) (8 * dl (10 * S8 (x8 x) + 1)) := by
  have ht := x8_tm h
  obtain ⟨h0, hG⟩ := SX_GG ht
  have hb := (SX_bd ht).2.2
  have hAp : ∀ i, i < 8 → Ap (absW (x i)) (aN (x8 x) i) 0 := fun i hi => by
    unfold aN
    rw [x8_eq x i hi]
    exact ab_ap (tame1 (h i hi)).1
  have p0 : ∀ k, 0 ≤ aN (x8 x) k := fun k => (ab_bd _).1
  have hE : S8 (x8 x) = 0 + RS (aN (x8 x)) 8 := by unfold S8; grind
  generalize hS : S8 (x8 x) = S at *
  have := fsum_ap (t := fun i => absW (x i)) (T := aN (x8 x)) (τ := 0) (M := S) (B := 0) (S := 0) (e := 0) (c := 10 * S + 1) (s := 0) (N := 8) hAp (fun i hi => ⟨hb i hi, by have := p0 i; grind⟩) (Ap.of zero_val) (by grind) (by grind) h0 (by grind) (by grind) (by rw [show ((8 : Nat) : Rat) = 8 from rfl]; unfold dl; grind) (tp_GG _ (by grind)) 8 (Nat.le_refl _)
  rw [show ((8 : Nat) : Rat) = 8 from rfl, ← hE] at this
  rw [sA8_eq]
  exact this.2.le (by grind)
theorem w2e9_ap : Ap w2e9 (2 / 1000000000) (1 / 1000000000000000000) := by
  have h := vB_ap (x := w2e9) (by decide +kernel)
  have h1 : vB w2e9 - 2 / 1000000000 ≤ 1 / 1000000000000000000 ∧ 2 / 1000000000 - vB w2e9 ≤ 1 / 1000000000000000000 := by decide +kernel
  exact (h.mv h1.1 h1.2).le (by decide +kernel)
theorem bd8_ok {x : Nat → Nat} (h : ∀ k, k < 8 → fle (absW (x k)) w100 = true) : fok .add .f64 kOne (sA8 x 8) = true ∧ fok .mul .f64 w2e9 (fbin .add .f64 kOne (sA8 x 8)) = true ∧ fnum .f64 (bd8 x) ∧ 19 / 10000000000 * (1 + S8 (x8 x)) ≤ fv .f64 (bd8 x) := by
  obtain ⟨h0, hG⟩ := SX_GG (x8_tm h)
  have a := sA8_all h
  generalize S8 (x8 x) = S at *
  have a' := a.le (e' := 1 / 100000000000 * S + 1 / 100000000000) (by unfold dl; grind)
  obtain ⟨k1, b⟩ := one_ap.add a' (2 * S + 2) (by grind) (by grind) (tp_GG _ (by grind))
  have b' := b.le (e' := 1 / 10000000000 * S + 1 / 10000000000) (by unfold dl; grind)
  obtain ⟨k2, c⟩ := w2e9_ap.mul b' (U := 2 / 1000000000) (V := 1 + S) (by grind) (by grind) (by grind) (by grind) (S + 1) (by grind) (tp_GG _ (by grind))
  refine ⟨k1, k2, c.num, ?_⟩
  have := c.lo
  have e : fv .f64 (bd8 x) = fv .f64 (fbin .mul .f64 w2e9 (fbin .add .f64 kOne (sA8 x 8))) := rfl
  rw [e]
  unfold dl at this
  grind
/-! the reference -/
def Wz (u n : Nat) : Rat := match u with
  | 0 => vB (cw 0 n) / 2 / vB (rootF w2)
  | u + 1 => vB (cw (u + 1) n) / 2
theorem Wz_near : ∀ u, u < 8 → ∀ n, n < 8 → Mc u n - Wz u n ≤ 1 / 1000000000000000 ∧ -(1 / 1000000000000000) ≤ Mc u n - Wz u n := by decide +kernel
theorem cw_ap : ∀ u, u < 8 → ∀ n, n < 8 → (zofB (cw u n)).isSome = true ∧ vB (cw u n) ≤ 1 ∧ -1 ≤ vB (cw u n) := by decide +kernel
theorem w2_ap : fnum .f64 w2 ∧ fv .f64 w2 = 2 := kst (z := 2417851639229258349412352) (by decide +kernel) (by decide +kernel)
theorem rt_ap : rtO w2 ∧ (fnum .f64 (rootF w2) ∧ fv .f64 (rootF w2) = vB (rootF w2)) ∧ 1 ≤ vB (rootF w2) := by
  refine ⟨by unfold rtO; decide +kernel, ?_, by decide +kernel⟩
  have h := vB_ap (x := rootF w2) (by decide +kernel)
  exact ⟨h.num, by have := h.hi; have := h.lo; grind⟩
theorem sK_eq (x : Nat → Nat) (u : Nat) : ∀ k, sK x u k = fsum (tK x u) 0 k
  | 0 => rfl
  | k + 1 => by show fbin _ _ _ _ = fbin _ _ _ _; rw [sK_eq x u k]
def eZ (S : Rat) : Rat := 1 / 1000000000000 * S + 1 / 1000000000000
def tz (xv : Nat → Rat) (u : Nat) : Rat := RS (fun n => xv n * Wz u n) 8
theorem rc_near {y : Nat → Nat} (h : TmX y) : okRc y ∧ ∀ u, u < 8 → Ap (zQ y u) (tz (fun k => fv .f64 (y k)) u) (eZ (S8 y)) := by
  obtain ⟨h0, hG⟩ := SX_GG h
  have hb := (SX_bd h).2.2
  have main : ∀ u, u < 8 → (∀ n, n < 8 → fok .mul .f64 (y n) (cw u n) = true ∧ fok .add .f64 (sK y u n) (tK y u n) = true) ∧ fok .quo .f64 (sK y u 8) w2 = true ∧ Ap (zK y u) (RS (fun n => fv .f64 (y n) * vB (cw u n)) 8 / 2) (1 / 10000000000000 * S8 y + 1 / 10000000000000) ∧
      RS (fun n => fv .f64 (y n) * vB (cw u n)) 8 ≤ S8 y ∧ -S8 y ≤ RS (fun n => fv .f64 (y n) * vB (cw u n)) 8 := fun u hu => by
    have term : ∀ n, n < 8 → fok .mul .f64 (y n) (cw u n) = true ∧ Ap (tK y u n) (fv .f64 (y n) * vB (cw u n)) (dl (S8 y)) ∧ fv .f64 (y n) * vB (cw u n) ≤ aN y n ∧ -aN y n ≤ fv .f64 (y n) * vB (cw u n) := fun n hn => by
      obtain ⟨c0, c1, c2⟩ := cw_ap u hu n hn
      obtain ⟨p0, p1, p2⟩ := ab_bd (fv .f64 (y n))
      have hbn := hb n hn
      have hbd := rmul_le (a := fv .f64 (y n)) (b := vB (cw u n)) (A := ab (fv .f64 (y n))) (B := 1) p0 (by grind) p1 p2 c1 c2
      unfold aN at hbn ⊢
      generalize S8 y = S at *
      obtain ⟨k, a⟩ := (Ap.self (h n).1).mul (vB_ap c0) (U := ab (fv .f64 (y n))) (V := 1) p1 p2 c1 c2 S (by grind) (tp_GG _ (by grind))
      exact ⟨k, a.le (by unfold dl; grind), by grind, by grind⟩
    have hsum := RS_abs (T := fun n => fv .f64 (y n) * vB (cw u n)) (D := aN y) (n := 8) fun n hn => (term n hn).2.2
    have hS : RS (aN y) 8 = S8 y := rfl
    rw [hS] at hsum
    have hf := fsum_ap (t := tK y u) (T := fun n => fv .f64 (y n) * vB (cw u n)) (τ := dl (S8 y)) (M := S8 y) (B := 0) (S := 0) (e := 0) (c := 10 * S8 y + 1) (s := 0) (N := 8) (fun i hi => (term i hi).2.1)
      (fun i hi => by have a := (term i hi).2.2; have b := hb i hi; exact ⟨by grind, by grind⟩) (Ap.of zero_val) (by grind) (by grind) h0 (by unfold dl; grind) (by grind) (by rw [show ((8 : Nat) : Rat) = 8 from rfl]; unfold dl; grind) (tp_GG _ (by grind)) 8 (Nat.le_refl _)
    rw [show ((8 : Nat) : Rat) = 8 from rfl] at hf
    have hf2 : Ap (sK y u 8) (RS (fun n => fv .f64 (y n) * vB (cw u n)) 8) (1 / 20000000000000 * S8 y + 1 / 20000000000000) := by
      rw [sK_eq]
      exact (hf.2.mv (v' := RS (fun n => fv .f64 (y n) * vB (cw u n)) 8) (d := 0) (by grind) (by grind)).le (by unfold dl; grind)
    generalize RS (fun n => fv .f64 (y n) * vB (cw u n)) 8 = R at *
    generalize S8 y = S at *
    obtain ⟨k, a⟩ := hf2.quo (q := 2) w2_ap (by grind) (2 * S + 2) (by grind) (by grind) (tp_GG _ (by grind))
    exact ⟨fun n hn => ⟨(term n hn).1, by rw [sK_eq]; exact hf.1 n hn⟩, k, a.le (by unfold dl; grind), hsum.1, hsum.2⟩
  obtain ⟨r1, r2, r3⟩ := rt_ap
  have last : fok .quo .f64 (zK y 0) (rootF w2) = true ∧ Ap (zQ y 0) (RS (fun n => fv .f64 (y n) * vB (cw 0 n)) 8 / 2 / vB (rootF w2)) (eZ (S8 y)) := by
    obtain ⟨_, _, a, b1, b2⟩ := main 0 (by decide)
    generalize RS (fun n => fv .f64 (y n) * vB (cw 0 n)) 8 = R at *
    generalize S8 y = S at *
    obtain ⟨k, a⟩ := a.quo r2 r3 (2 * S + 2) (by grind) (by grind) (tp_GG _ (by grind))
    exact ⟨k, a.le (by unfold eZ dl; grind)⟩
  refine ⟨⟨fun u hu => ⟨(main u hu).1, (main u hu).2.1⟩, r1, last.1⟩, fun u hu => ?_⟩
  match u, hu with
  | 0, _ =>
    have e : tz (fun k => fv .f64 (y k)) 0 = RS (fun n => fv .f64 (y n) * vB (cw 0 n)) 8 / 2 / vB (rootF w2) := by
      unfold tz
      simp only [RS, Wz]
      grind
    rw [e]
    exact last.2
  | u + 1, hu =>
    have e : tz (fun k => fv .f64 (y k)) (u + 1) = RS (fun n => fv .f64 (y n) * vB (cw (u + 1) n)) 8 / 2 := by
      unfold tz
      simp only [RS, Wz]
      grind
    rw [e]
    have := h0
    exact ((main (u + 1) hu).2.2.1).le (by unfold eZ; grind)
theorem cz_near {y : Nat → Nat} (h : TmX y) {u : Nat} (hu : u < 8) : tC (fun k => fv .f64 (y k)) u - tz (fun k => fv .f64 (y k)) u ≤ 1 / 1000000000000000 * S8 y ∧ -(1 / 1000000000000000 * S8 y) ≤ tC (fun k => fv .f64 (y k)) u - tz (fun k => fv .f64 (y k)) u := by
  rw [tC_lin]
  have := RS_abs (T := fun n => fv .f64 (y n) * (Mc u n - Wz u n)) (D := fun n => 1 / 1000000000000000 * aN y n) (n := 8) fun n hn => by
    obtain ⟨m1, m2⟩ := Wz_near u hu n hn
    obtain ⟨a1, a2, a3⟩ := ab_bd (fv .f64 (y n))
    have k := rmul_le (a := fv .f64 (y n)) (b := Mc u n - Wz u n) (A := ab (fv .f64 (y n))) (B := 1 / 1000000000000000) a1 (by grind) a2 a3 m1 m2
    unfold aN
    constructor <;> grind
  rw [RS_mul] at this
  have e : RS (fun n => fv .f64 (y n) * Mc u n) 8 - tz (fun k => fv .f64 (y k)) u = RS (fun n => fv .f64 (y n) * (Mc u n - Wz u n)) 8 := by
    unfold tz
    rw [← RS_sub]
    exact RS_congr 8 fun n _ => by grind
  rw [e]
  exact this
theorem one_cos {x : Nat → Nat} (h : ∀ k, k < 8 → fle (absW (x k)) w100 = true) {u : Nat} (hu : u < 8) : fok .sub .f64 (cosB (x8 x) u) (zQ (x8 x) u) = true ∧ (!fle (absW (fbin .sub .f64 (cosB (x8 x) u) (zQ (x8 x) u))) (bd8 x)) = false := by
  have ht := x8_tm h
  obtain ⟨h0, hG⟩ := SX_GG ht
  have c := (cosX ht).2 u hu
  have z := (rc_near ht).2 u hu
  obtain ⟨_, _, b1, b2⟩ := bd8_ok h
  obtain ⟨d1, d2⟩ := cz_near ht hu
  generalize S8 (x8 x) = S at *
  generalize tC (fun k => fv .f64 (x8 x k)) u = A at *
  generalize tz (fun k => fv .f64 (x8 x k)) u = Z at *
  obtain ⟨k, f⟩ := within_ok (B := 0) c z b1 (18 / 10000000000 * S + 18 / 10000000000) (by unfold eC eZ; grind) (by unfold eC eZ; grind) (tp_GG _ (by grind)) (by unfold dl; grind)
  exact ⟨k, by rw [f]; rfl⟩
theorem okA_of {x : Nat → Nat} {m k : Nat} (hm : m ≤ 8) (h : ∀ k, k < m → fle (absW (x k)) w100 = true) (hk : k < m) {r : Prop} (hr : r) : okA x k r := ⟨by rw [h k hk]; rfl, sA8_pre hm h k hk, hr⟩
theorem okW8_of {x : Nat → Nat} (h : ∀ k, k < 8 → fle (absW (x k)) w100 = true) {u : Nat} (hu : u < 8) {r : Prop} (hr : r) : okW8 x u r :=
  ⟨(bd8_ok h).1, (bd8_ok h).2.1, (one_cos h hu).1, (one_cos h hu).2, hr⟩
theorem law10 (x : Nat → Nat) (u : Value) (hu : some (Value.bool true) = some u) : ∃ F, FnsOk Tryd.prog F ∧ ∃ n orc, runK Tryd.prog T F n Tryd.f10 [aF x] [] orc (fun r _ => resW r = some u) := by
  have step : ∀ k, (∀ j, j < k → fle (absW (x j)) w100 = true) → fle (absW (x k)) w100 = true → ∀ j, j < k + 1 → fle (absW (x j)) w100 = true := fun k h hk j hj => by
    rcases Nat.lt_or_eq_of_le (Nat.le_of_lt_succ hj) with h1 | rfl
    · exact h j h1
    · exact hk
  have a8 : any8 := ⟨⟨trivial, trivial⟩, rfl, rfl⟩
  have h0 : ∀ j, j < 0 → fle (absW (x j)) w100 = true := fun j hj => absurd hj (Nat.not_lt_zero j)
  cases e0 : fle (absW (x 0)) w100 with
  | false =>
    refine ⟨FU10, FU10ok, 2000, [.b true], of_run (run10U0 x u) ⟨a8, a8, ⟨by rw [e0]; rfl, hu⟩⟩⟩
  | true =>
  have h1 := step 0 h0 e0
  cases e1 : fle (absW (x 1)) w100 with
  | false =>
    refine ⟨FU10, FU10ok, 2000, [.b false, .b true], of_run (run10U1 x u) ⟨a8, a8, okA_of (m := 1) (by decide) h1 (by decide) (⟨by rw [e1]; rfl, hu⟩)⟩⟩
  | true =>
  have h2 := step 1 h1 e1
  cases e2 : fle (absW (x 2)) w100 with
  | false =>
    refine ⟨FU10, FU10ok, 2000, [.b false, .b false, .b true], of_run (run10U2 x u) ⟨a8, a8, okA_of (m := 2) (by decide) h2 (by decide) (okA_of (m := 2) (by decide) h2 (by decide) (⟨by rw [e2]; rfl, hu⟩))⟩⟩
  | true =>
  have h3 := step 2 h2 e2
  cases e3 : fle (absW (x 3)) w100 with
  | false =>
    refine ⟨FU10, FU10ok, 2000, [.b false, .b false, .b false, .b true], of_run (run10U3 x u) ⟨a8, a8, okA_of (m := 3) (by decide) h3 (by decide) (okA_of (m := 3) (by decide) h3 (by decide) (okA_of (m := 3) (by decide) h3 (by decide) (⟨by rw [e3]; rfl, hu⟩)))⟩⟩
  | true =>
  have h4 := step 3 h3 e3
  cases e4 : fle (absW (x 4)) w100 with
  | false =>
    refine ⟨FU10, FU10ok, 2000, [.b false, .b false, .b false, .b false, .b true], of_run (run10U4 x u) ⟨a8, a8, okA_of (m := 4) (by decide) h4 (by decide) (okA_of (m := 4) (by decide) h4 (by decide) (okA_of (m := 4) (by decide) h4 (by decide) (okA_of (m := 4) (by decide) h4 (by decide) (⟨by rw [e4]; rfl, hu⟩))))⟩⟩
  | true =>
  have h5 := step 4 h4 e4
  cases e5 : fle (absW (x 5)) w100 with
  | false =>
    refine ⟨FU10, FU10ok, 2000, [.b false, .b false, .b false, .b false, .b false, .b true], of_run (run10U5 x u) ⟨a8, a8, okA_of (m := 5) (by decide) h5 (by decide) (okA_of (m := 5) (by decide) h5 (by decide) (okA_of (m := 5) (by decide) h5 (by decide) (okA_of (m := 5) (by decide) h5 (by decide) (okA_of (m := 5) (by decide) h5 (by decide) (⟨by rw [e5]; rfl, hu⟩)))))⟩⟩
  | true =>
  have h6 := step 5 h5 e5
  cases e6 : fle (absW (x 6)) w100 with
  | false =>
    refine ⟨FU10, FU10ok, 2000, [.b false, .b false, .b false, .b false, .b false, .b false, .b true], of_run (run10U6 x u) ⟨a8, a8, okA_of (m := 6) (by decide) h6 (by decide) (okA_of (m := 6) (by decide) h6 (by decide) (okA_of (m := 6) (by decide) h6 (by decide) (okA_of (m := 6) (by decide) h6 (by decide) (okA_of (m := 6) (by decide) h6 (by decide) (okA_of (m := 6) (by decide) h6 (by decide) (⟨by rw [e6]; rfl, hu⟩))))))⟩⟩
  | true =>
  have h7 := step 6 h6 e6
  cases e7 : fle (absW (x 7)) w100 with
  | false =>
    refine ⟨FU10, FU10ok, 2000, [.b false, .b false, .b false, .b false, .b false, .b false, .b false, .b true], of_run (run10U7 x u) ⟨a8, a8, okA_of (m := 7) (by decide) h7 (by decide) (okA_of (m := 7) (by decide) h7 (by decide) (okA_of (m := 7) (by decide) h7 (by decide) (okA_of (m := 7) (by decide) h7 (by decide) (okA_of (m := 7) (by decide) h7 (by decide) (okA_of (m := 7) (by decide) h7 (by decide) (okA_of (m := 7) (by decide) h7 (by decide) (⟨by rw [e7]; rfl, hu⟩)))))))⟩⟩
  | true =>
  have h8 := step 7 h7 e7
  exact ⟨FT10, FT10ok, 2000, [.b false, .b false, .b false, .b false, .b false, .b false, .b false, .b false, .b false, .b false, .b false, .b false, .b false, .b false, .b false, .b false], of_run (run10 x u) ⟨(cosX (x8_tm h8)).1, (rc_near (x8_tm h8)).1, okA_of (Nat.le_refl 8) h8 (show 0 < 8 by decide) (okA_of (Nat.le_refl 8) h8 (show 1 < 8 by decide) (okA_of (Nat.le_refl 8) h8 (show 2 < 8 by decide) (okA_of (Nat.le_refl 8) h8 (show 3 < 8 by decide) (okA_of (Nat.le_refl 8) h8 (show 4 < 8 by decide) (okA_of (Nat.le_refl 8) h8 (show 5 < 8 by decide) (okA_of (Nat.le_refl 8) h8 (show 6 < 8 by decide) (okA_of (Nat.le_refl 8) h8 (show 7 < 8 by decide) (okW8_of h8 (show 0 < 8 by decide) (okW8_of h8 (show 1 < 8 by decide) (okW8_of h8 (show 2 < 8 by decide) (okW8_of h8 (show 3 < 8 by decide) (okW8_of h8 (show 4 < 8 by decide) (okW8_of h8 (show 5 < 8 by decide) (okW8_of h8 (show 6 < 8 by decide) (okW8_of h8 (show 7 < 8 by decide) (hu))))))))))))))))⟩⟩
def GCos10 : List ArgV → Option Value
  | [.val (.agg a)] => fltsK .f64 a.toList fun xs => if xs.length = 8 then some (.bool true) else none
  | _ => none
theorem con10 : Con Tryd.prog 10 GCos10 := by
  refine con_of_each hm hT Tryd.func10 Tryd.call10 fun avs u h => ?_
  unfold GCos10 at h
  split at h
  · rename_i a
    obtain ⟨xs, ha, h⟩ := fltsK_spec _ _ _ h
    split at h
    · rename_i hl
      obtain ⟨a⟩ := a
      have ha' : a = xs.map (Value.float .f64) := ha
      subst ha'
      match xs, hl with
      | [x0, x1, x2, x3, x4, x5, x6, x7], _ =>
        obtain ⟨F, hF, n, orc, hr⟩ := law10 ([x0, x1, x2, x3, x4, x5, x6, x7].getD · 0) u h
        exact ⟨F, hF, [false], n, orc, _, _, rfl, hr⟩
    · cases h
  · cases h
end Go.Proofs.YthddkcoflnbjbaaDoor
