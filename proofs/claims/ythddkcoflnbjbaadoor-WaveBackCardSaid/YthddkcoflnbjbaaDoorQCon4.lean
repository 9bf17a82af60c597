/-
  What is proved here: of an angle above 0 and below the whole circle the circular functions have words. contracts of the turning numbers, the program's and the document's. A text to be imported.
-/
import Derived.Test.YthddkcoflnbjbaaDoorQCon3
namespace Go.Proofs.YthddkcoflnbjbaaDoor
open Sm Go Go.RowKit Fl Ieee
set_option maxRecDepth 100000
set_option linter.unusedVariables false
theorem zero_val : fnum .f64 0 ∧ fv .f64 0 = 0 := by
  have e : FloatKind.f64.format.read 0 = .number false 0 FloatKind.f64.format.leastPlace := by kernel_rfl
  refine ⟨⟨_, _, _, e⟩, ?_⟩
  show dv (FloatKind.f64.format.read 0) = 0
  rw [e]
  simp [dv]
theorem p_half : P2 kHalf 0 := P2.kst (by decide +kernel)
theorem p_one : P2 kOne 0 := P2.kst (by decide +kernel)
theorem p_c4 : P2 c4pi 1 := P2.kst (by decide +kernel)
theorem p_yA : ∀ h, h < 5 → P2 (yA h) 3 := by
  have : ∀ h, h < 5 → (match FloatKind.f64.format.read (yA h) with | .number _ m p => decide (p ≤ 0 ∧ m ≤ 2 ^ (3 + (-p).toNat)) | _ => false) = true := by decide +kernel
  exact fun h hh => P2.kst (this h hh)
theorem p_yB : ∀ h, h < 5 → P2 (yB h) 3 := by
  have : ∀ h, h < 5 → (match FloatKind.f64.format.read (yB h) with | .number _ m p => decide (p ≤ 0 ∧ m ≤ 2 ^ (3 + (-p).toNat)) | _ => false) = true := by decide +kernel
  exact fun h hh => P2.kst (this h hh)
theorem p_yC : ∀ h, h < 5 → P2 (yC h) 3 := by
  have : ∀ h, h < 5 → (match FloatKind.f64.format.read (yC h) with | .number _ m p => decide (p ≤ 0 ∧ m ≤ 2 ^ (3 + (-p).toNat)) | _ => false) = true := by decide +kernel
  exact fun h hh => P2.kst (this h hh)
theorem p_kC : ∀ h, h < 6 → P2 (kC h) 0 := by
  have : ∀ h, h < 6 → (match FloatKind.f64.format.read (kC h) with | .number _ m p => decide (p ≤ 0 ∧ m ≤ 2 ^ (0 + (-p).toNat)) | _ => false) = true := by decide +kernel
  exact fun h hh => P2.kst (this h hh)
theorem p_kS : ∀ h, h < 6 → P2 (kS h) 0 := by
  have : ∀ h, h < 6 → (match FloatKind.f64.format.read (kS h) with | .number _ m p => decide (p ≤ 0 ∧ m ≤ 2 ^ (0 + (-p).toNat)) | _ => false) = true := by decide +kernel
  exact fun h hh => P2.kst (this h hh)
theorem hor_ok {k : Nat → Nat} (hk : ∀ h, h < 6 → P2 (k h) 0) {q : Nat} (hq : P2 q 12) : (∀ p ∈ okN k q 4, p) ∧ P2 (hN k q 4) 70 := by
  obtain ⟨a1, b1⟩ := (hk 0 (by omega)).mul hq (by omega)
  obtain ⟨a2, b2⟩ := b1.add (hk 1 (by omega)) 13 (by omega) (by omega) (by omega)
  obtain ⟨a3, b3⟩ := b2.mul hq (by omega)
  obtain ⟨a4, b4⟩ := b3.add (hk 2 (by omega)) 26 (by omega) (by omega) (by omega)
  obtain ⟨a5, b5⟩ := b4.mul hq (by omega)
  obtain ⟨a6, b6⟩ := b5.add (hk 3 (by omega)) 39 (by omega) (by omega) (by omega)
  obtain ⟨a7, b7⟩ := b6.mul hq (by omega)
  obtain ⟨a8, b8⟩ := b7.add (hk 4 (by omega)) 52 (by omega) (by omega) (by omega)
  obtain ⟨a9, b9⟩ := b8.mul hq (by omega)
  obtain ⟨a10, b10⟩ := b9.add (hk 5 (by omega)) 70 (by omega) (by omega) (by omega)
  refine ⟨?_, b10⟩
  exact all_app (all_app (all_app (all_app (all_cons a1 (all_one a2)) (all_cons a3 (all_one a4))) (all_cons a5 (all_one a6))) (all_cons a7 (all_one a8))) (all_cons a9 (all_one a10))
theorem cosP_ok {q : Nat} (hq : P2 q 12) : (∀ p ∈ okC q, p) ∧ P2 (cosP q) 100 := by
  obtain ⟨a1, b1⟩ := p_half.mul hq (by omega)
  obtain ⟨a2, b2⟩ := p_one.sub b1 13 (by omega) (by omega) (by omega)
  obtain ⟨a3, b3⟩ := hq.mul hq (by omega)
  obtain ⟨a4, b4⟩ := hor_ok p_kC hq
  obtain ⟨a5, b5⟩ := b3.mul b4 (by omega)
  obtain ⟨a6, b6⟩ := b2.add b5 100 (by omega) (by omega) (by omega)
  exact ⟨all_app (all_app (all_cons a1 (all_cons a2 (all_one a3))) a4) (all_cons a5 (all_one a6)), b6⟩
theorem sinP_ok {z q : Nat} (hz : P2 z 6) (hq : P2 q 12) : (∀ p ∈ okS z q, p) ∧ P2 (sinP z q) 100 := by
  obtain ⟨a3, b3⟩ := hz.mul hq (by omega)
  obtain ⟨a4, b4⟩ := hor_ok p_kS hq
  obtain ⟨a5, b5⟩ := b3.mul b4 (by omega)
  obtain ⟨a6, b6⟩ := hz.add b5 100 (by omega) (by omega) (by omega)
  exact ⟨all_app (all_app (all_one a3) a4) (all_cons a5 (all_one a6)), b6⟩
theorem zR_ok {x h : Nat} (hx : P2 x 3) (hh : h < 5) : (∀ p ∈ okR x h, p) ∧ P2 (zR x h) 6 := by
  obtain ⟨a1, b1⟩ := hx.sub (p_yA h hh) 4 (by omega) (by omega) (by omega)
  obtain ⟨a2, b2⟩ := b1.sub (p_yB h hh) 5 (by omega) (by omega) (by omega)
  obtain ⟨a3, b3⟩ := b2.sub (p_yC h hh) 6 (by omega) (by omega) (by omega)
  exact ⟨all_cons a1 (all_cons a2 (all_one a3)), b3⟩
theorem c4_val : fnum .f64 c4pi ∧ fv .f64 c4pi * 1208925819614629174706176 = 1539252160184713954197504 := by
  have := zof_val (x := c4pi) (z := 1539252160184713954197504) (by decide +kernel)
  exact this
theorem okX_of {x : Nat} (hn : fnum .f64 x) (h0 : 0 < fv .f64 x) (h1 : fv .f64 x ≤ 6283 / 1000) (hw : x < 2 ^ 63) : OkX x := by
  have hp3 : P2 x 3 := by
    have e : pw ((3 : Nat) : Int) = 8 := by
      have := pw_nat 3
      rw [show (2 ^ 3 : Nat) = 8 from rfl, Rat.natCast_ofNat] at this
      exact this
    exact ⟨hn, by rw [e]; grind, by rw [e]; grind⟩
  have hz := zero_val
  obtain ⟨o1, o2, o3, o4⟩ := order_val hn hz.1
  obtain ⟨s1, s2, s3, s4⟩ := order_val hn hn
  have ha : absW x = x := abs_word hw
  have hmax : fnum .f64 maxW ∧ 10 ≤ fv .f64 maxW := by
    have hr : FloatKind.f64.format.read maxW = .number false 9007199254740991 971 := by kernel_rfl
    refine ⟨⟨_, _, _, hr⟩, ?_⟩
    show 10 ≤ dv (FloatKind.f64.format.read maxW)
    rw [hr]
    have h1 := pw_mono (a := 0) (b := 971) (by omega)
    rw [pw_zero] at h1
    simp only [dv, sg, Bool.false_eq_true, if_false]
    have h2 : ((9007199254740991 : Nat) : Rat) = 9007199254740991 := rfl
    rw [h2]
    grind
  obtain ⟨t1, t2, t3, t4⟩ := order_val hn hmax.1
  have hthr : fnum .f64 kThr ∧ fv .f64 kThr = 536870912 := kst (z := 649037107316853453566312041152512) (by decide +kernel) (by rw [show ((649037107316853453566312041152512 : Int) : Rat) = 649037107316853453566312041152512 from rfl]; grind)
  obtain ⟨u1, u2, u3, u4⟩ := order_val hn hthr.1
  obtain ⟨k1, b1⟩ := hp3.mul p_c4 (by omega)
  have c4 := c4_val.2
  have hc1 : fv .f64 c4pi ≤ 12732396 / 10000000 := by grind
  have hc0 : 1 ≤ fv .f64 c4pi := by grind
  have hv1 : fv .f64 x * fv .f64 c4pi ≤ 79998 / 10000 := by
    have q := rmul_le (a := fv .f64 x) (b := fv .f64 c4pi) (A := 6283 / 1000) (B := 12732396 / 10000000) (by grind) (by grind) h1 (by grind) hc1 (by grind)
    grind
  have hv0 : 0 ≤ fv .f64 x * fv .f64 c4pi := Rat.mul_nonneg (by grind) (by grind)
  have ht := tp_ge .f64
  obtain ⟨_, r⟩ := fbin_mul hn c4_val.1 (by grind) (by grind)
  have rA := Ap.rnd r (c := 8) (by grind) (by grind)
  have hd : dl 8 ≤ 1 / 1000000 := by unfold dl; grind
  have q0 : 0 ≤ fv .f64 (mul4 x) := by
    have := r.ge 0 ⟨false, 0, 0, by decide, by decide, by simp [sg]⟩ hv0
    exact this
  have q1 : fv .f64 (mul4 x) < 8 := by have := rA.hi; show fv .f64 (fbin .mul .f64 x c4pi) < 8; grind
  obtain ⟨c, d1, d2, d3, d4⟩ := f2i_floor (x := mul4 x) b1.num q0
  have hc8 : c < 8 := by
    refine Nat.lt_of_not_le fun h => ?_
    have : ((8 : Nat) : Rat) ≤ (c : Rat) := Rat.natCast_le_natCast.2 h
    have e8 : ((8 : Nat) : Rat) = 8 := rfl
    rw [e8] at this
    grind
  have hm : mOf x = (c : Int) := d3
  have hh : hOf x < 5 := by unfold hOf; rw [hm]; omega
  obtain ⟨r1, r2⟩ := zR_ok hp3 hh
  obtain ⟨z1, z2⟩ := r2.mul r2 (by omega)
  have hge : ∀ y, fnum .f64 y → fv .f64 x < fv .f64 y → fge x y = false := fun y hy hl => by
    obtain ⟨v1, v2, v3, v4⟩ := order_val hn hy
    unfold fge
    rw [v1.2 hl]
    rfl
  refine ⟨?_, ?_, ?_, ?_, ha, ?_, by rw [hm]; omega, by rw [hm]; omega, r1, z1, (cosP_ok z2).1, (sinP_ok r2 z2).1⟩
  · have : FloatKind.f64.format.order x 0 = some .gt := o3.2 (by rw [show vl FloatKind.f64.format 0 = 0 from hz.2]; exact h0)
    unfold feq
    rw [this]
    rfl
  · unfold nanB
    rw [s2.2 rfl]
    rfl
  · unfold infB
    rw [ha, t1.2 (by show fv .f64 x < fv .f64 maxW; have := hmax.2; grind)]
    rfl
  · have : FloatKind.f64.format.order x 0 = some .gt := o3.2 (by rw [show vl FloatKind.f64.format 0 = 0 from hz.2]; exact h0)
    unfold flt
    rw [this]
    rfl
  · exact all_cons (hge _ hthr.1 (by rw [hthr.2]; grind)) (all_cons k1 (all_one (d4 .u64 (by decide) (by show (c : Int) ≤ 18446744073709551615; omega))))
end Go.Proofs.YthddkcoflnbjbaaDoor
namespace Go.Proofs.YthddkcoflnbjbaaDoor
open Sm Go Go.RowKit Fl Ieee
set_option maxRecDepth 1000000
set_option linter.unusedVariables false
def AI (n : Int) : AV := .one (.sc (.int .i64 n) false)
def W (x : Int) : Int := IntKind.i64.wrap x
def c2pi : Nat := 4618760256179416344
def mOne : Nat := 13830554455654793216
def i2f (n : Int) : Nat := FloatKind.f64.nearest n
def outB (n : Int) : Bool := bif decide (n < 1) then true else decide (n > 4096)
def angW (m n : Int) : Nat := fbin .quo .f64 (fbin .mul .f64 c2pi (i2f m)) (i2f n)
def okAng (m n : Int) : List Prop := [fok .mul .f64 c2pi (i2f m) = true, fok .quo .f64 (fbin .mul .f64 c2pi (i2f m)) (i2f n) = true, OkX (angW m n)]
def cx (a b : Nat) : Value := .complex .f64 a b
def c2 (a b : Nat) : Value := .agg #[.float .f64 a, .float .f64 b]
theorem runT (k n : Int) (u : Value) : runK Tryd.prog T FT1 300 Tryd.f18 [AI k, AI n] [] [.b true] (fun r _ => resW r = some u) = (outB n = true ∧ some (cx 0 0) = some u) := by kernel_rfl
theorem runU (k n : Int) (u : Value) : runK Tryd.prog T FT1 300 Tryd.f26 [AI k, AI n] [] [.b true] (fun r _ => resW r = some u) = (outB n = true ∧ some (c2 0 0) = some u) := by kernel_rfl
theorem runT_false_0 (k n : Int) (u : Value) : runK Tryd.prog T FT1 300 Tryd.f18 [AI k, AI n] [] [.b false, .b false, .b true] (fun r _ => resW r = some u) = obsP ([outB n = false, (n == 0) = false, decide (k.tmod n < 0) = false, (W (4 * k.tmod n) == 0) = true]) (some (cx kOne 0) = some u) := by kernel_rfl
theorem runT_false_1 (k n : Int) (u : Value) : runK Tryd.prog T FT1 300 Tryd.f18 [AI k, AI n] [] [.b false, .b false, .b false, .b true] (fun r _ => resW r = some u) = obsP ([outB n = false, (n == 0) = false, decide (k.tmod n < 0) = false, (W (4 * k.tmod n) == 0) = false, (W (4 * k.tmod n) == n) = true]) (some (cx 0 mOne) = some u) := by kernel_rfl
theorem runT_false_2 (k n : Int) (u : Value) : runK Tryd.prog T FT1 300 Tryd.f18 [AI k, AI n] [] [.b false, .b false, .b false, .b false, .b true] (fun r _ => resW r = some u) = obsP ([outB n = false, (n == 0) = false, decide (k.tmod n < 0) = false, (W (4 * k.tmod n) == 0) = false, (W (4 * k.tmod n) == n) = false, (W (4 * k.tmod n) == W (2 * n)) = true]) (some (cx mOne 0) = some u) := by kernel_rfl
theorem runT_false_3 (k n : Int) (u : Value) : runK Tryd.prog T FT1 300 Tryd.f18 [AI k, AI n] [] [.b false, .b false, .b false, .b false, .b false, .b true] (fun r _ => resW r = some u) = obsP ([outB n = false, (n == 0) = false, decide (k.tmod n < 0) = false, (W (4 * k.tmod n) == 0) = false, (W (4 * k.tmod n) == n) = false, (W (4 * k.tmod n) == W (2 * n)) = false, (W (4 * k.tmod n) == W (3 * n)) = true]) (some (cx 0 kOne) = some u) := by kernel_rfl
theorem runT_false_4 (k n : Int) (u : Value) : runK Tryd.prog T FT1 300 Tryd.f18 [AI k, AI n] [] [.b false, .b false, .b false, .b false, .b false, .b false] (fun r _ => resW r = some u) = obsP ([outB n = false, (n == 0) = false, decide (k.tmod n < 0) = false, (W (4 * k.tmod n) == 0) = false, (W (4 * k.tmod n) == n) = false, (W (4 * k.tmod n) == W (2 * n)) = false, (W (4 * k.tmod n) == W (3 * n)) = false] ++ okAng (k.tmod n) n) (some (cx (cosV (angW (k.tmod n) n)) (ng (sinV (angW (k.tmod n) n)))) = some u) := by kernel_rfl
theorem runT_true_0 (k n : Int) (u : Value) : runK Tryd.prog T FT1 300 Tryd.f18 [AI k, AI n] [] [.b false, .b true, .b true] (fun r _ => resW r = some u) = obsP ([outB n = false, (n == 0) = false, decide (k.tmod n < 0) = true, (W (4 * (W (k.tmod n + n))) == 0) = true]) (some (cx kOne 0) = some u) := by kernel_rfl
theorem runT_true_1 (k n : Int) (u : Value) : runK Tryd.prog T FT1 300 Tryd.f18 [AI k, AI n] [] [.b false, .b true, .b false, .b true] (fun r _ => resW r = some u) = obsP ([outB n = false, (n == 0) = false, decide (k.tmod n < 0) = true, (W (4 * (W (k.tmod n + n))) == 0) = false, (W (4 * (W (k.tmod n + n))) == n) = true]) (some (cx 0 mOne) = some u) := by kernel_rfl
theorem runT_true_2 (k n : Int) (u : Value) : runK Tryd.prog T FT1 300 Tryd.f18 [AI k, AI n] [] [.b false, .b true, .b false, .b false, .b true] (fun r _ => resW r = some u) = obsP ([outB n = false, (n == 0) = false, decide (k.tmod n < 0) = true, (W (4 * (W (k.tmod n + n))) == 0) = false, (W (4 * (W (k.tmod n + n))) == n) = false, (W (4 * (W (k.tmod n + n))) == W (2 * n)) = true]) (some (cx mOne 0) = some u) := by kernel_rfl
theorem runT_true_3 (k n : Int) (u : Value) : runK Tryd.prog T FT1 300 Tryd.f18 [AI k, AI n] [] [.b false, .b true, .b false, .b false, .b false, .b true] (fun r _ => resW r = some u) = obsP ([outB n = false, (n == 0) = false, decide (k.tmod n < 0) = true, (W (4 * (W (k.tmod n + n))) == 0) = false, (W (4 * (W (k.tmod n + n))) == n) = false, (W (4 * (W (k.tmod n + n))) == W (2 * n)) = false, (W (4 * (W (k.tmod n + n))) == W (3 * n)) = true]) (some (cx 0 kOne) = some u) := by kernel_rfl
theorem runT_true_4 (k n : Int) (u : Value) : runK Tryd.prog T FT1 300 Tryd.f18 [AI k, AI n] [] [.b false, .b true, .b false, .b false, .b false, .b false] (fun r _ => resW r = some u) = obsP ([outB n = false, (n == 0) = false, decide (k.tmod n < 0) = true, (W (4 * (W (k.tmod n + n))) == 0) = false, (W (4 * (W (k.tmod n + n))) == n) = false, (W (4 * (W (k.tmod n + n))) == W (2 * n)) = false, (W (4 * (W (k.tmod n + n))) == W (3 * n)) = false] ++ okAng (W (k.tmod n + n)) n) (some (cx (cosV (angW (W (k.tmod n + n)) n)) (ng (sinV (angW (W (k.tmod n + n)) n)))) = some u) := by kernel_rfl
theorem runU_0 (k n : Int) (u : Value) : runK Tryd.prog T FT1 300 Tryd.f26 [AI k, AI n] [] [.b false, .b true] (fun r _ => resW r = some u) = obsP ([outB n = false, (n == 0) = false, (n == 0) = false, (W (4 * (W (k.tmod n + n)).tmod n) == 0) = true]) (some (c2 kOne 0) = some u) := by kernel_rfl
theorem runU_1 (k n : Int) (u : Value) : runK Tryd.prog T FT1 300 Tryd.f26 [AI k, AI n] [] [.b false, .b false, .b true] (fun r _ => resW r = some u) = obsP ([outB n = false, (n == 0) = false, (n == 0) = false, (W (4 * (W (k.tmod n + n)).tmod n) == 0) = false, (W (4 * (W (k.tmod n + n)).tmod n) == n) = true]) (some (c2 0 mOne) = some u) := by kernel_rfl
theorem runU_2 (k n : Int) (u : Value) : runK Tryd.prog T FT1 300 Tryd.f26 [AI k, AI n] [] [.b false, .b false, .b false, .b true] (fun r _ => resW r = some u) = obsP ([outB n = false, (n == 0) = false, (n == 0) = false, (W (4 * (W (k.tmod n + n)).tmod n) == 0) = false, (W (4 * (W (k.tmod n + n)).tmod n) == n) = false, (W (4 * (W (k.tmod n + n)).tmod n) == W (2 * n)) = true]) (some (c2 mOne 0) = some u) := by kernel_rfl
theorem runU_3 (k n : Int) (u : Value) : runK Tryd.prog T FT1 300 Tryd.f26 [AI k, AI n] [] [.b false, .b false, .b false, .b false, .b true] (fun r _ => resW r = some u) = obsP ([outB n = false, (n == 0) = false, (n == 0) = false, (W (4 * (W (k.tmod n + n)).tmod n) == 0) = false, (W (4 * (W (k.tmod n + n)).tmod n) == n) = false, (W (4 * (W (k.tmod n + n)).tmod n) == W (2 * n)) = false, (W (4 * (W (k.tmod n + n)).tmod n) == W (3 * n)) = true]) (some (c2 0 kOne) = some u) := by kernel_rfl
theorem runU_4 (k n : Int) (u : Value) : runK Tryd.prog T FT1 300 Tryd.f26 [AI k, AI n] [] [.b false, .b false, .b false, .b false, .b false] (fun r _ => resW r = some u) = obsP ([outB n = false, (n == 0) = false, (n == 0) = false, (W (4 * (W (k.tmod n + n)).tmod n) == 0) = false, (W (4 * (W (k.tmod n + n)).tmod n) == n) = false, (W (4 * (W (k.tmod n + n)).tmod n) == W (2 * n)) = false, (W (4 * (W (k.tmod n + n)).tmod n) == W (3 * n)) = false] ++ okAng ((W (k.tmod n + n)).tmod n) n ++ [OkX (angW ((W (k.tmod n + n)).tmod n) n)]) (some (c2 (cosV (angW ((W (k.tmod n + n)).tmod n) n)) (ng (sinV (angW ((W (k.tmod n + n)).tmod n) n)))) = some u) := by kernel_rfl
theorem c2pi_val : fnum .f64 c2pi ∧ fv .f64 c2pi * 1208925819614629174706176 = 7595904947272676865474560 := zof_val (x := c2pi) (by decide +kernel)
end Go.Proofs.YthddkcoflnbjbaaDoor
