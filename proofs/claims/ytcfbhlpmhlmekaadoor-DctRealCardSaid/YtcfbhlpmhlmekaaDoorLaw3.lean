/-
  What is proved here: plain facts on the waves as floats; the real sample as DctNear makes it is near the whole number's. A text to be imported.
-/
import Derived.Test.YtcfbhlpmhlmekaaDoorCon10
import Derived.Test.YtcfbhlpmhlmekaaDoorLaw0
import Derived.Test.YtcfbhlpmhlmekaaDoorSimY
namespace Go.Proofs.YtcfbhlpmhlmekaaDoor
open Sm Go Go.RowKit Fl Ieee
set_option maxRecDepth 100000
set_option linter.unusedVariables false
/-- A wave's value, in 2^-80ths. -/
def cz (n : Nat) : Int := (zof (cosW.getD n 0)).getD 0
theorem cz_all : ∀ n, n < 64 → zof (cosW.getD n 0) = some (cz n) ∧ cz n ≤ 1208925819614629174706176 ∧ -1208925819614629174706176 ≤ cz n ∧
    100 * (wF n * 2305843009213693952 - cz n) ≤ 51 * 2305843009213693952 ∧ -(51 * 2305843009213693952) ≤ 100 * (wF n * 2305843009213693952 - cz n) := by decide +kernel
def C (n : Nat) : Rat := fv .f64 (cosW.getD n 0)
theorem C_num {n : Nat} (h : n < 64) : fnum .f64 (cosW.getD n 0) := (zof_val (cz_all n h).1).1
theorem C_ap {n : Nat} (h : n < 64) : Ap (cosW.getD n 0) (C n) 0 := Ap.self (C_num h)
theorem C_le {n : Nat} (h : n < 64) : C n ≤ 1 ∧ -1 ≤ C n := by
  obtain ⟨h1, h2, h3, _⟩ := cz_all n h
  have e := (zof_val h1).2
  have q1 : (cz n : Rat) ≤ ((1208925819614629174706176 : Int) : Rat) := Rat.intCast_le_intCast.2 h2
  have q2 : ((-1208925819614629174706176 : Int) : Rat) ≤ (cz n : Rat) := Rat.intCast_le_intCast.2 h3
  have n1 : ((1208925819614629174706176 : Int) : Rat) = 1208925819614629174706176 := rfl
  have n2 : ((-1208925819614629174706176 : Int) : Rat) = -1208925819614629174706176 := rfl
  rw [n1] at q1
  rw [n2] at q2
  unfold C
  constructor <;> grind
/-- The whole number's weight is near. -/
theorem C_w {n : Nat} (h : n < 64) : (wF n : Rat) - 524288 * C n ≤ 51 / 100 ∧ -(51 / 100) ≤ (wF n : Rat) - 524288 * C n := by
  obtain ⟨h1, _, _, h2, h3⟩ := cz_all n h
  have e := (zof_val h1).2
  have q1 : ((100 * (wF n * 2305843009213693952 - cz n) : Int) : Rat) ≤ ((51 * 2305843009213693952 : Int) : Rat) := Rat.intCast_le_intCast.2 h2
  have q2 : ((-(51 * 2305843009213693952) : Int) : Rat) ≤ ((100 * (wF n * 2305843009213693952 - cz n) : Int) : Rat) := Rat.intCast_le_intCast.2 h3
  have n1 : ((51 * 2305843009213693952 : Int) : Rat) = 51 * 2305843009213693952 := by rw [Rat.intCast_mul]; rfl
  have n2 : ((-(51 * 2305843009213693952) : Int) : Rat) = -(51 * 2305843009213693952) := by rw [Rat.intCast_neg, Rat.intCast_mul]; rfl
  have n3 : ((100 * (wF n * 2305843009213693952 - cz n) : Int) : Rat) = 100 * ((wF n : Rat) * 2305843009213693952 - (cz n : Rat)) := by
    rw [Rat.intCast_mul, Rat.intCast_sub, Rat.intCast_mul]
    rfl
  rw [n1, n3] at q1
  rw [n2, n3] at q2
  unfold C
  constructor <;> grind
theorem wv_eq {u x : Nat} : wv (u : Nat) (x : Nat) = cosW.getD (8 * u + x) 0 := by
  unfold wv
  rw [show (8 * (u : Int) + (x : Int)).toNat = 8 * u + x from by omega]
/-- A whole number as a float. -/
theorem i2f_ap {n : Int} (h1 : -9007199254740992 ≤ n) (h2 : n ≤ 9007199254740992) : fnum .f64 (i2f n) ∧ fv .f64 (i2f n) = (n : Rat) := by
  have q1 : (n : Rat) ≤ ((9007199254740992 : Int) : Rat) := Rat.intCast_le_intCast.2 h2
  have q2 : ((-9007199254740992 : Int) : Rat) ≤ (n : Rat) := Rat.intCast_le_intCast.2 h1
  have hb : (9007199254740993 : Rat) < tp .f64 := by
    have h := pw_nat 60
    rw [show (2 ^ 60 : Nat) = 1152921504606846976 from rfl, Rat.natCast_ofNat] at h
    have : pw ((60 : Nat) : Int) ≤ tp .f64 := by unfold tp; rw [top64]; exact pw_mono (by decide)
    grind
  have n1 : ((9007199254740992 : Int) : Rat) = 9007199254740992 := rfl
  have n2 : ((-9007199254740992 : Int) : Rat) = -9007199254740992 := rfl
  rw [n1] at q1
  rw [n2] at q2
  have r := fint (k := .f64) n (by grind) (by grind)
  exact ⟨r.num, r.exact (rep_int (by decide) (by rw [show FloatKind.f64.format.fractionBits + 1 = 53 from rfl]; omega) (by rw [show FloatKind.f64.format.fractionBits + 1 = 53 from rfl]; omega))⟩

/-! ### the chain of sums -/
def tF (f : Nat → Int) (y x j : Nat) : Nat := tN f (y : Nat) (x : Nat) ((j / 8 : Nat) : Int) ((j % 8 : Nat) : Int)
theorem s4_eq (f : Nat → Int) (y x v : Int) (s : Nat) : ∀ n, s4N f y x v s n = fsum (fun i => tN f y x v (i : Nat)) s n
  | 0 => rfl
  | n + 1 => by rw [s4N, fsum, s4_eq f y x v s n]
theorem row_at (f : Nat → Int) (y x n m s : Nat) (hm : m ≤ 8) : s4N f (y : Nat) (x : Nat) (n : Nat) (fsum (tF f y x) s (8 * n)) m = fsum (tF f y x) s (8 * n + m) := by
  rw [s4_eq, fsum_add]
  refine fsum_congr m fun i hi => ?_
  unfold tF
  rw [show (8 * n + i) / 8 = n from by omega, show (8 * n + i) % 8 = i from by omega]
theorem s3_eq (f : Nat → Int) (y x : Nat) : ∀ n, s3N f (y : Nat) (x : Nat) n = fsum (tF f y x) 0 (8 * n)
  | 0 => rfl
  | n + 1 => by rw [s3N, s3_eq f y x n, row_at f y x n 8 0 (by omega)]; rfl
theorem s4_at (f : Nat → Int) (y x n m : Nat) (hm : m ≤ 8) : s4N f (y : Nat) (x : Nat) (n : Nat) (s3N f (y : Nat) (x : Nat) n) m = fsum (tF f y x) 0 (8 * n + m) := by rw [s3_eq, row_at f y x n m 0 hm]
/-- The number that a term is near to. -/
def TT (f : Nat → Int) (y x j : Nat) : Rat := C (8 * (j % 8) + x) * C (8 * (j / 8) + y) * (f j : Rat)
theorem tp_big : (200000 : Rat) < tp .f64 := by have := tp_ge .f64; grind
def tau : Rat := 2048 * dl 1 + dl 2049
theorem term_ap {f : Nat → Int} (hf : ∀ i, i < 64 → -2048 ≤ f i ∧ f i ≤ 2048) {y x j : Nat} (hy : y < 8) (hx : x < 8) (hj : j < 64) :
    fok .mul .f64 (wv ((j % 8 : Nat) : Int) (x : Nat)) (wv ((j / 8 : Nat) : Int) (y : Nat)) = true ∧ fok .mul .f64 (wwN (y : Nat) (x : Nat) ((j / 8 : Nat) : Int) ((j % 8 : Nat) : Int)) (i2f (f (0 + (ix ((j / 8 : Nat) : Int) ((j % 8 : Nat) : Int)).toNat))) = true ∧
    Ap (tF f y x j) (TT f y x j) tau ∧ (TT f y x j ≤ 2048 ∧ -2048 ≤ TT f y x j) := by
  have hix : 0 + (ix ((j / 8 : Nat) : Int) ((j % 8 : Nat) : Int)).toNat = j := by
    rw [ix_eq (by omega) (by omega) (by omega) (by omega)]
    omega
  have ht := tp_big
  have h1 := C_ap (n := 8 * (j % 8) + x) (by omega)
  have h2 := C_ap (n := 8 * (j / 8) + y) (by omega)
  obtain ⟨b1, b2⟩ := C_le (n := 8 * (j % 8) + x) (by omega)
  obtain ⟨b3, b4⟩ := C_le (n := 8 * (j / 8) + y) (by omega)
  obtain ⟨f1, f2⟩ := hf j hj
  have g1 : (f j : Rat) ≤ 2048 := by
    have : (f j : Rat) ≤ ((2048 : Int) : Rat) := Rat.intCast_le_intCast.2 f2
    exact this
  have g2 : -2048 ≤ (f j : Rat) := by
    have : ((-2048 : Int) : Rat) ≤ (f j : Rat) := Rat.intCast_le_intCast.2 f1
    exact this
  obtain ⟨k1, a1⟩ := h1.mul h2 b1 b2 b3 b4 1 (by grind) (by grind)
  have p := rmul_le (A := 1) (B := 1) (by grind) (by grind) b1 b2 b3 b4
  have hi := Ap.of (i2f_ap (n := f j) (by omega) (by omega))
  have p2 := rmul_le (a := C (8 * (j % 8) + x) * C (8 * (j / 8) + y)) (b := (f j : Rat)) (A := 1) (B := 2048) (by grind) (by grind) (by grind) (by grind) g1 g2
  have hd : dl 1 ≤ 1 / 1000000 := by unfold dl; grind
  obtain ⟨k2, a2⟩ := a1.mul hi (U := 1) (V := 2048) (by grind) (by grind) g1 g2 2049 (by grind) (by grind)
  have e0 : wwN (y : Nat) (x : Nat) ((j / 8 : Nat) : Int) ((j % 8 : Nat) : Int) = fbin .mul .f64 (cosW.getD (8 * (j % 8) + x) 0) (cosW.getD (8 * (j / 8) + y) 0) := by
    unfold wwN
    rw [wv_eq, wv_eq]
  refine ⟨by rw [wv_eq, wv_eq]; exact k1, by rw [hix, e0]; exact k2, ?_, ⟨by unfold TT; grind, by unfold TT; grind⟩⟩
  have e1 : tF f y x j = fbin .mul .f64 (fbin .mul .f64 (cosW.getD (8 * (j % 8) + x) 0) (cosW.getD (8 * (j / 8) + y) 0)) (i2f (f j)) := by
    unfold tF tN
    rw [hix, e0]
  rw [e1]
  exact a2.le (by unfold tau; grind)
theorem zero_val : fnum .f64 0 ∧ fv .f64 0 = 0 := by
  have e : FloatKind.f64.format.read 0 = .number false 0 FloatKind.f64.format.leastPlace := by kernel_rfl
  refine ⟨⟨_, _, _, e⟩, ?_⟩
  show dv (FloatKind.f64.format.read 0) = 0
  rw [e]
  simp [dv]
theorem zero_ap : Ap 0 0 0 := Ap.of zero_val
theorem sum_ap {f : Nat → Int} (hf : ∀ i, i < 64 → -2048 ≤ f i ∧ f i ≤ 2048) {y x : Nat} (hy : y < 8) (hx : x < 8) :
    (∀ i, i < 64 → fok .add .f64 (fsum (tF f y x) 0 i) (tF f y x i) = true) ∧ Ap (fsum (tF f y x) 0 64) (RS (TT f y x) 64) (1 / 1000000) := by
  have ht := tp_big
  have h64 : ((64 : Nat) : Rat) = 64 := rfl
  have hta : 0 ≤ tau := by unfold tau dl; grind
  obtain ⟨h1, h2⟩ := fsum_ap (N := 64) (τ := tau) (M := 2048) (B := 0) (c := 131073) (fun i hi => (term_ap hf hy hx hi).2.2.1) (fun i hi => (term_ap hf hy hx hi).2.2.2) zero_ap (by grind) (by grind) (by grind) hta (by grind)
    (by rw [h64]; unfold tau dl; grind) (by grind) 64 (by omega)
  refine ⟨h1, ?_⟩
  have := h2.mv (v' := RS (TT f y x) 64) (d := 0) (by grind) (by grind)
  refine this.le ?_
  rw [h64]
  unfold tau dl
  grind
theorem ok3_ok {f : Nat → Int} (hf : ∀ i, i < 64 → -2048 ≤ f i ∧ f i ≤ 2048) {y x : Nat} (hy : y < 8) (hx : x < 8) : ok3N f (y : Nat) (x : Nat) := by
  intro n hn m hm
  obtain ⟨k1, k2, _⟩ := term_ap hf hy hx (j := 8 * n + m) (by omega)
  have k3 := (sum_ap hf hy hx).1 (8 * n + m) (by omega)
  rw [show (8 * n + m) / 8 = n from by omega, show (8 * n + m) % 8 = m from by omega] at k1 k2
  refine ⟨k1, k2, ?_⟩
  rw [s4_at f y x n m (by omega)]
  unfold tF at k3
  rw [show (8 * n + m) / 8 = n from by omega, show (8 * n + m) % 8 = m from by omega] at k3
  exact k3

/-! ### the whole number's sum -/
theorem S_cast (g : Nat → Int) : ∀ n, ((S n g : Int) : Rat) = RS (fun i => (g i : Rat)) n
  | 0 => rfl
  | n + 1 => by rw [S, RS, Rat.intCast_add, S_cast g n]
def WT (f : Nat → Int) (y x j : Nat) : Int := wF (8 * (j / 8) + y) * wF (8 * (j % 8) + x) * f j
theorem inv_cast {f : Nat → Int} (hf : ∀ i, i < 64 → -2048 ≤ f i ∧ f i ≤ 2048) {y x : Nat} : ((invS f y x : Int) : Rat) = RS (fun j => (WT f y x j : Rat)) 64 := by
  have e := RS_nest (fun j => (WT f y x j : Rat)) 8 8
  rw [show (64 : Nat) = 8 * 8 from rfl, ← e]
  unfold invS dbl
  rw [S_cast]
  refine RS_congr 8 fun i hi => ?_
  rw [S_cast]
  refine RS_congr 8 fun j hj => ?_
  have := hf (8 * i + j) (by omega)
  have hc : clipI (f (8 * i + j)) (-32767) 32767 = f (8 * i + j) := by
    unfold clipI mn mx
    rw [if_neg (by omega), if_neg (by omega)]
  show ((wF (8 * i + y) * wF (8 * j + x) * clipI (f (8 * i + j)) (-32767) 32767 : Int) : Rat) = _
  unfold WT
  rw [hc, show (8 * i + j) / 8 = i from by omega, show (8 * i + j) % 8 = j from by omega]
theorem w_term {f : Nat → Int} (hf : ∀ i, i < 64 → -2048 ≤ f i ∧ f i ≤ 2048) {y x j : Nat} (hy : y < 8) (hx : x < 8) (hj : j < 64) :
    (WT f y x j : Rat) - 274877906944 * TT f y x j ≤ 1105920000 ∧ -1105920000 ≤ (WT f y x j : Rat) - 274877906944 * TT f y x j := by
  obtain ⟨a1, a2⟩ := C_w (n := 8 * (j / 8) + y) (by omega)
  obtain ⟨b1, b2⟩ := C_w (n := 8 * (j % 8) + x) (by omega)
  obtain ⟨c1, c2⟩ := C_le (n := 8 * (j / 8) + y) (by omega)
  obtain ⟨d1, d2⟩ := C_le (n := 8 * (j % 8) + x) (by omega)
  obtain ⟨f1, f2⟩ := hf j hj
  have g1 : (f j : Rat) ≤ 2048 := by
    have : (f j : Rat) ≤ ((2048 : Int) : Rat) := Rat.intCast_le_intCast.2 f2
    exact this
  have g2 : -2048 ≤ (f j : Rat) := by
    have : ((-2048 : Int) : Rat) ≤ (f j : Rat) := Rat.intCast_le_intCast.2 f1
    exact this
  unfold WT TT
  rw [Rat.intCast_mul, Rat.intCast_mul]
  generalize (wF (8 * (j / 8) + y) : Rat) = w at *
  generalize (wF (8 * (j % 8) + x) : Rat) = w' at *
  generalize C (8 * (j / 8) + y) = c at *
  generalize C (8 * (j % 8) + x) = c' at *
  generalize (f j : Rat) = g at *
  have p1 := rmul_le (a := w) (b := w' - 524288 * c') (A := 524289) (B := 51 / 100) (by grind) (by grind) (by grind) (by grind) (by grind) (by grind)
  have p2 := rmul_le (a := 524288 * c') (b := w - 524288 * c) (A := 524288) (B := 51 / 100) (by grind) (by grind) (by grind) (by grind) (by grind) (by grind)
  have e : w * w' - 274877906944 * (c' * c) = w * (w' - 524288 * c') + 524288 * c' * (w - 524288 * c) := by grind
  have p3 := rmul_le (a := w * w' - 274877906944 * (c' * c)) (b := g) (A := 540000) (B := 2048) (by grind) (by grind) (by grind) (by grind) g1 g2
  have e2 : w * w' * g - 274877906944 * (c' * c * g) = (w * w' - 274877906944 * (c' * c)) * g := by grind
  constructor <;> grind
theorem inv_near {f : Nat → Int} (hf : ∀ i, i < 64 → -2048 ≤ f i ∧ f i ≤ 2048) {y x : Nat} (hy : y < 8) (hx : x < 8) :
    (invS f y x : Rat) - 274877906944 * RS (TT f y x) 64 ≤ 70778880000 ∧ -70778880000 ≤ (invS f y x : Rat) - 274877906944 * RS (TT f y x) 64 := by
  rw [inv_cast hf, ← RS_mul, ← RS_sub]
  have h := RS_abs (T := fun i => (WT f y x i : Rat) - 274877906944 * TT f y x i) (D := fun _ => 1105920000) (n := 64) fun i hi => w_term hf hy hx hi
  rw [RS_const] at h
  have h64 : ((64 : Nat) : Rat) = 64 := rfl
  rw [h64] at h
  constructor <;> grind
end Go.Proofs.YtcfbhlpmhlmekaaDoor
