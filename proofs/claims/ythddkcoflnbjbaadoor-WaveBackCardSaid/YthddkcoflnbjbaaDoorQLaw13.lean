/-
  What is proved here: what one butterfly in floats errs. what transform in floats does, stage by stage. the sums of turning numbers, stage by stage. transform in floats is near the sums of turning numbers.
-/
import Derived.Test.YthddkcoflnbjbaaDoorQLaw9
import Derived.Test.YthddkcoflnbjbaaDoorQCon9
namespace Go.Proofs.YthddkcoflnbjbaaDoor
open Sm Go Go.RowKit Fl Ieee
set_option maxRecDepth 100000
set_option linter.unusedVariables false
theorem tp_400 : (2582249878086908589655919172003011874329705792829223512830659356540647622016841194629645353280137831435903171972747493376 : Rat) ≤ tp .f64 := by
  have h := pw_nat 200
  rw [show (2 ^ 200 : Nat) = 1606938044258990275541962092341162602522202993782792835301376 from rfl, Rat.natCast_ofNat] at h
  have h2 : pw 400 = pw ((200 : Nat) : Int) * pw ((200 : Nat) : Int) := by rw [← pw_add]; rfl
  have : pw 400 ≤ tp .f64 := by unfold tp; rw [top64]; exact pw_mono (by decide)
  rw [h2, h] at this
  grind
theorem tp_huge : ∀ c : Rat, c ≤ (10000000000000000000000000000000000000000000000000000000000000000000000000000000000000000000000000000000000000000000 : Rat) → c < tp .f64 := fun c h => by have := tp_400; grind
theorem part_ap {y t : Nat} {v u w e : Rat} (hy : Ap y v e) (ht : Ap t u eW) (v1 : v ≤ 2 * w) (v2 : -(2 * w) ≤ v) (u1 : u ≤ 1) (u2 : -1 ≤ u) (w0 : 0 ≤ w) (w1 : w ≤ (100000000000000000000000000000000000000000000000000000000000000000000000000000000000000000000000000000000000000 : Rat)) (he : e ≤ w + 1) :
    fok .mul .f64 y t = true ∧ Ap (fbin .mul .f64 y t) (v * u) ((10001 / 10000 : Rat) * e + (203 / 10000000000000000 : Rat) * w + (1 / 1000000000000000000000000000000 : Rat)) ∧ v * u ≤ 2 * w ∧ -(2 * w) ≤ v * u := by
  have e0 := hy.pos
  obtain ⟨k, a⟩ := hy.mul ht (U := 2 * w) (V := 1) v1 v2 u1 u2 ((2 * w + e) * (1 + eW)) Rat.le_refl (tp_huge _ (by unfold eW; grind))
  have b := rmul_le (a := v) (b := u) (A := 2 * w) (B := 1) (by grind) (by grind) v1 v2 u1 u2
  exact ⟨k, a.le (by unfold eW dl; grind), by grind, by grind⟩
theorem bf_ap {t a y : Nat × Nat} {U A Y : Cx} {wa wy ea ey : Rat} (ht : CAp t U eW) (ha : CAp a A ea) (hy : CAp y Y ey) (hU : Cx.Wi U 1) (hA : Cx.Wi A (2 * wa)) (hY : Cx.Wi Y (2 * wy))
    (wa0 : 0 ≤ wa) (wa1 : wa ≤ (100000000000000000000000000000000000000000000000000000000000000000000000000000000000000000000000000000000000000 : Rat)) (wy0 : 0 ≤ wy) (wy1 : wy ≤ (100000000000000000000000000000000000000000000000000000000000000000000000000000000000000000000000000000000000000 : Rat)) (hea : ea ≤ wa + 1) (hey : ey ≤ wy + 1) :
    okBf t a y ∧ CAp (cadd a (bfT t y)) (Cx.add A (Cx.mul U Y)) ((10001 / 10000 : Rat) * ea + (20005 / 10000 : Rat) * ey + (43 / 1000000000000000 : Rat) * (wa + wy) + (3 / 10000000000000000 : Rat)) ∧ CAp (csub a (bfT t y)) (Cx.sub A (Cx.mul U Y)) ((10001 / 10000 : Rat) * ea + (20005 / 10000 : Rat) * ey + (43 / 1000000000000000 : Rat) * (wa + wy) + (3 / 10000000000000000 : Rat)) := by
  have ea0 := ha.re.pos
  have ey0 := hy.re.pos
  obtain ⟨a1, b1, c1, d1⟩ := part_ap hy.re ht.re hY.r1 hY.r2 hU.r1 hU.r2 wy0 wy1 hey
  obtain ⟨a2, b2, c2, d2⟩ := part_ap hy.im ht.im hY.i1 hY.i2 hU.i1 hU.i2 wy0 wy1 hey
  obtain ⟨a3, b3, c3, d3⟩ := part_ap hy.re ht.im hY.r1 hY.r2 hU.i1 hU.i2 wy0 wy1 hey
  obtain ⟨a4, b4, c4, d4⟩ := part_ap hy.im ht.re hY.i1 hY.i2 hU.r1 hU.r2 wy0 wy1 hey
  obtain ⟨k1, s1⟩ := b1.sub b2 ((5 : Rat) * wy + 3 * ey + 1) (by grind) (by grind) (tp_huge _ (by grind))
  obtain ⟨k2, s2⟩ := b3.add b4 ((5 : Rat) * wy + 3 * ey + 1) (by grind) (by grind) (tp_huge _ (by grind))
  have s1' := s1.le (e' := (20003 / 10000 : Rat) * ey + (413 / 10000000000000000 : Rat) * wy + (13 / 100000000000000000 : Rat)) (by unfold dl; grind)
  have s2' := s2.le (e' := (20003 / 10000 : Rat) * ey + (413 / 10000000000000000 : Rat) * wy + (13 / 100000000000000000 : Rat)) (by unfold dl; grind)
  have q1 : Cx.mul U Y = ⟨Y.re * U.re - Y.im * U.im, Y.re * U.im + Y.im * U.re⟩ := Cx.ext' (by simp only [Cx.mul]; grind) (by simp only [Cx.mul]; grind)
  have h1 := hA.r1; have h2 := hA.r2; have h3 := hA.i1; have h4 := hA.i2
  obtain ⟨m1, t1⟩ := ha.re.add s1' (2 * wa + (5 : Rat) * wy + 3 * ey + 2 * ea + 1) (by grind) (by grind) (tp_huge _ (by grind))
  obtain ⟨m2, t2⟩ := ha.im.add s2' (2 * wa + (5 : Rat) * wy + 3 * ey + 2 * ea + 1) (by grind) (by grind) (tp_huge _ (by grind))
  obtain ⟨m3, t3⟩ := ha.re.sub s1' (2 * wa + (5 : Rat) * wy + 3 * ey + 2 * ea + 1) (by grind) (by grind) (tp_huge _ (by grind))
  obtain ⟨m4, t4⟩ := ha.im.sub s2' (2 * wa + (5 : Rat) * wy + 3 * ey + 2 * ea + 1) (by grind) (by grind) (tp_huge _ (by grind))
  rw [q1]
  exact ⟨⟨⟨a1, a2, k1, a3, a4, k2⟩, ⟨m1, m2⟩, ⟨m3, m4⟩⟩, ⟨t1.le (by unfold dl; grind), t2.le (by unfold dl; grind)⟩, ⟨t3.le (by unfold dl; grind), t4.le (by unfold dl; grind)⟩⟩
end Go.Proofs.YthddkcoflnbjbaaDoor
namespace Go.Proofs.YthddkcoflnbjbaaDoor
open Sm Go Go.RowKit Fl Ieee
set_option maxRecDepth 100000
set_option linter.unusedVariables false
theorem beqN {a b : Nat} (h : a ≠ b) : Nat.beq a b = false := by
  cases hb : Nat.beq a b with
  | false => rfl
  | true => exact absurd (Nat.eq_of_beq_eq_true hb) h
theorem beqS (a : Nat) : Nat.beq a a = true := Nat.beq_refl a
theorem bfly_o {t : Nat × Nat} {Y : Nat → Nat × Nat} {o o' : Nat} (h : o ≠ o') : bfly t Y o o' o = cadd (Y o) (bfT t (Y o')) := by
  unfold bfly; rw [beqN h, beqS]; rfl
theorem bfly_o' {t : Nat × Nat} {Y : Nat → Nat × Nat} {o o' : Nat} : bfly t Y o o' o' = csub (Y o) (bfT t (Y o')) := by
  unfold bfly; rw [beqS]; rfl
theorem bfly_ne {t : Nat × Nat} {Y : Nat → Nat × Nat} {o o' j : Nat} (h : j ≠ o) (h' : j ≠ o') : bfly t Y o o' j = Y j := by
  unfold bfly; rw [beqN h, beqN h']; rfl
theorem YK_spec (way : Int) (h fr : Nat) (Y : Nat → Nat × Nat) : ∀ K, K ≤ h →
    (∀ i, i < K → YK way h fr Y K (fr + i) = cadd (Y (fr + i)) (bfT (turnP (way * i) (2 * h : Nat)) (Y (fr + i + h))) ∧ YK way h fr Y K (fr + i + h) = csub (Y (fr + i)) (bfT (turnP (way * i) (2 * h : Nat)) (Y (fr + i + h)))) ∧
    (∀ i, K ≤ i → i < h → YK way h fr Y K (fr + i) = Y (fr + i) ∧ YK way h fr Y K (fr + i + h) = Y (fr + i + h)) ∧ (∀ j, j < fr ∨ fr + 2 * h ≤ j → YK way h fr Y K j = Y j)
  | 0, _ => ⟨fun i h => by omega, fun i _ _ => ⟨rfl, rfl⟩, fun j _ => rfl⟩
  | K + 1, hK => by
    obtain ⟨h1, h2, h3⟩ := YK_spec way h fr Y K (by omega)
    obtain ⟨g1, g2⟩ := h2 K (Nat.le_refl _) (by omega)
    have e : ∀ j, YK way h fr Y (K + 1) j = bfly (turnP (way * K) (2 * h : Nat)) (YK way h fr Y K) (fr + K) (fr + K + h) j := fun j => rfl
    refine ⟨fun i hi => ?_, fun i hi hh => ?_, fun j hj => ?_⟩
    · by_cases hc : i = K
      · subst hc
        rw [e, e, bfly_o (by omega), bfly_o', g1, g2]
        exact ⟨rfl, rfl⟩
      · rw [e, e, bfly_ne (by omega) (by omega), bfly_ne (by omega) (by omega)]
        exact h1 i (by omega)
    · rw [e, e, bfly_ne (by omega) (by omega), bfly_ne (by omega) (by omega)]
      exact h2 i (by omega) hh
    · rw [e, bfly_ne (by omega) (by omega)]
      exact h3 j hj
theorem YF_spec (way : Int) (h : Nat) (Y : Nat → Nat × Nat) : ∀ m,
    (∀ b, b < m → ∀ i, i < h → YF way h Y m (2 * h * b + i) = cadd (Y (2 * h * b + i)) (bfT (turnP (way * i) (2 * h : Nat)) (Y (2 * h * b + i + h))) ∧ YF way h Y m (2 * h * b + i + h) = csub (Y (2 * h * b + i)) (bfT (turnP (way * i) (2 * h : Nat)) (Y (2 * h * b + i + h)))) ∧
    (∀ j, 2 * h * m ≤ j → YF way h Y m j = Y j)
  | 0 => ⟨fun b hb => by omega, fun j _ => rfl⟩
  | m + 1 => by
    obtain ⟨h1, h2⟩ := YF_spec way h Y m
    obtain ⟨k1, k2, k3⟩ := YK_spec way h (2 * h * m) (YF way h Y m) h (Nat.le_refl _)
    have e : ∀ j, YF way h Y (m + 1) j = YK way h (2 * h * m) (YF way h Y m) h j := fun j => rfl
    have hm : 2 * h * (m + 1) = 2 * h * m + 2 * h := by rw [Nat.mul_add, Nat.mul_one]
    refine ⟨fun b hb i hi => ?_, fun j hj => ?_⟩
    · by_cases hc : b = m
      · subst hc
        rw [e, e]
        obtain ⟨q1, q2⟩ := k1 i hi
        rw [q1, q2, h2 _ (by omega), h2 _ (by omega)]
        exact ⟨rfl, rfl⟩
      · have hle : 2 * h * b + 2 * h ≤ 2 * h * m := by
          have := Nat.mul_le_mul_left (2 * h) (show b + 1 ≤ m by omega)
          rwa [Nat.mul_add, Nat.mul_one] at this
        rw [e, e, k3 _ (.inl (by omega)), k3 _ (.inl (by omega))]
        exact h1 b (by omega) i hi
    · rw [e, k3 j (.inr (by omega)), h2 j (by omega)]
theorem okF_of (way : Int) (h : Nat) (Y : Nat → Nat × Nat) (m : Nat) (H : ∀ b, b < m → ∀ i, i < h → okBf (turnP (way * i) (2 * h : Nat)) (Y (2 * h * b + i)) (Y (2 * h * b + i + h))) : okF way h Y m := by
  intro b hb i hi
  obtain ⟨_, h2⟩ := YF_spec way h Y b
  obtain ⟨_, k2, _⟩ := YK_spec way h (2 * h * b) (YF way h Y b) i (by omega)
  obtain ⟨q1, q2⟩ := k2 i (Nat.le_refl _) hi
  rw [q1, q2, h2 _ (by omega), h2 _ (by omega)]
  exact H b hb i hi
theorem scat_at {r : Nat → Nat} {X : Nat → Nat × Nat} : ∀ {n i : Nat}, i < n → (∀ a b, a < n → b < n → r a = r b → a = b) → scat r X n (r i) = X i
  | 0, i, h, _ => by omega
  | n + 1, i, h, hr => by
    unfold scat
    by_cases e : i = n
    · subst e; rw [beqS]; rfl
    · rw [beqN (fun he => e (hr i n (by omega) (by omega) he))]
      exact scat_at (by omega) fun a b ha hb => hr a b (by omega) (by omega)
end Go.Proofs.YthddkcoflnbjbaaDoor
namespace Go.Proofs.YthddkcoflnbjbaaDoor
open Sm
set_option maxRecDepth 100000
set_option linter.unusedVariables false
def rho (p s b i : Nat) : Nat := rev p (2 ^ s * b + rev s i)
theorem rho_even (p s b i : Nat) : rho p (s + 1) b (2 * i) = rho p s (2 * b) i := by
  unfold rho
  congr 1
  rw [show rev (s + 1) (2 * i) = rev s (2 * i / 2) + 2 * i % 2 * 2 ^ s from rfl, show 2 * i / 2 = i by omega, show 2 * i % 2 = 0 by omega, Nat.zero_mul, Nat.pow_succ, Nat.mul_assoc]
  omega
theorem rho_odd (p s b i : Nat) : rho p (s + 1) b (2 * i + 1) = rho p s (2 * b + 1) i := by
  unfold rho
  congr 1
  rw [show rev (s + 1) (2 * i + 1) = rev s ((2 * i + 1) / 2) + (2 * i + 1) % 2 * 2 ^ s from rfl, show (2 * i + 1) / 2 = i by omega, show (2 * i + 1) % 2 = 1 by omega, Nat.one_mul, Nat.pow_succ, Nat.mul_add, Nat.mul_one, Nat.mul_assoc]
  omega
def exs (s : Nat) : Int := ((2 ^ (12 - s) : Nat) : Int)
theorem exs_two {s : Nat} (h : s < 12) : exs s = 2 * exs (s + 1) := by
  unfold exs
  rw [show 12 - s = (12 - (s + 1)) + 1 by omega, Nat.pow_succ, Int.natCast_mul]
  omega
theorem exs_all {s : Nat} (h : s ≤ 12) : ((2 ^ s : Nat) : Int) * exs s = 4096 := by
  unfold exs
  rw [← Int.natCast_mul, ← Nat.pow_add, show s + (12 - s) = 12 by omega]
  rfl
def FS (way : Int) (x : Nat → Cx) (p s b : Nat) (k : Int) : Cx := Cx.sum (fun i => Cx.mul (x (rho p s b i)) (U4 (way * i * k * exs s))) (2 ^ s)
def WS (m : Nat → Rat) (p s b : Nat) : Rat := RS (fun i => m (rho p s b i)) (2 ^ s)
theorem RS_two (T : Nat → Rat) : ∀ n, RS T (2 * n) = RS (fun j => T (2 * j)) n + RS (fun j => T (2 * j + 1)) n
  | 0 => by simp only [RS]; grind
  | n + 1 => by
    rw [show 2 * (n + 1) = 2 * n + 1 + 1 by omega]
    simp only [RS]
    rw [RS_two T n]
    grind
theorem WS_two (m : Nat → Rat) (p s b : Nat) : WS m p (s + 1) b = WS m p s (2 * b) + WS m p s (2 * b + 1) := by
  unfold WS
  rw [Nat.pow_succ, Nat.mul_comm (2 ^ s) 2, RS_two]
  rw [RS_congr (T' := fun j => m (rho p s (2 * b) j)) _ fun i _ => by rw [rho_even], RS_congr (T := fun j => m (rho p (s + 1) b (2 * j + 1))) (T' := fun j => m (rho p s (2 * b + 1) j)) _ fun i _ => by rw [rho_odd]]
theorem FS_wi {way : Int} {x : Nat → Cx} {m : Nat → Rat} (hx : ∀ j, Cx.Wi (x j) (m j)) (p s b : Nat) (k : Int) : Cx.Wi (FS way x p s b k) (2 * WS m p s b) := by
  have h := Cx.sum_wi (T := fun i => Cx.mul (x (rho p s b i)) (U4 (way * i * k * exs s))) (D := fun i => 2 * m (rho p s b i)) (2 ^ s) fun i _ => ((hx _).mul (U4_wi _)).le (by grind)
  rw [RS_mul] at h
  exact h
theorem WS_nn {m : Nat → Rat} (hm : ∀ j, 0 ≤ m j) (p s b : Nat) : 0 ≤ WS m p s b := by
  have := RS_le (T := fun _ => (0 : Rat)) (D := fun i => m (rho p s b i)) (2 ^ s) fun i _ => hm _
  rw [RS_const] at this
  unfold WS
  grind
theorem WS_le {m : Nat → Rat} {B : Rat} (hm : ∀ j, m j ≤ B) (p s b : Nat) : WS m p s b ≤ ((2 ^ s : Nat) : Rat) * B := by
  have := RS_le (T := fun i => m (rho p s b i)) (D := fun _ => B) (2 ^ s) fun i _ => hm _
  rw [RS_const] at this
  exact this
theorem FS_step {way : Int} (hw : way = 1 ∨ way = -1) {x : Nat → Cx} {m : Nat → Rat} (hx : ∀ j, Cx.Wi (x j) (m j)) (p s b : Nat) (hs : s < 12) (k : Int) :
    Cx.Wi (Cx.sub (Cx.add (FS way x p s (2 * b) k) (Cx.mul (U4 (way * k * exs (s + 1))) (FS way x p s (2 * b + 1) k))) (FS way x p (s + 1) b k)) (2 * io * WS m p s (2 * b + 1)) ∧
    Cx.Wi (Cx.sub (Cx.sub (FS way x p s (2 * b) k) (Cx.mul (U4 (way * k * exs (s + 1))) (FS way x p s (2 * b + 1) k))) (FS way x p (s + 1) b (k + (2 ^ s : Nat)))) (4 * io * WS m p s (2 * b + 1)) := by
  have e2 := exs_two hs
  have e4 := exs_all (show s ≤ 12 by omega)
  have hio := io_pos
  -- the even terms
  have ev : ∀ kk : Int, (kk = k ∨ kk = k + (2 ^ s : Nat)) → Cx.sum (fun j => Cx.mul (x (rho p (s + 1) b (2 * j))) (U4 (way * (2 * j : Nat) * kk * exs (s + 1)))) (2 ^ s) = FS way x p s (2 * b) k := fun kk hk => by
    refine Cx.sum_congr _ fun j _ => ?_
    rw [rho_even]
    congr 1
    have e : way * (2 * j : Nat) * kk * exs (s + 1) = way * j * kk * exs s := by
      rw [e2, Int.natCast_mul]
      grind
    rw [e]
    rcases hk with rfl | rfl
    · rfl
    · have : way * j * (k + (2 ^ s : Nat)) * exs s = way * j * k * exs s + 4096 * (way * j) := by
        rw [← e4]
        grind
      rw [this, U4_per]
  have two : ∀ kk : Int, FS way x p (s + 1) b kk = Cx.add (Cx.sum (fun j => Cx.mul (x (rho p (s + 1) b (2 * j))) (U4 (way * (2 * j : Nat) * kk * exs (s + 1)))) (2 ^ s)) (Cx.sum (fun j => Cx.mul (x (rho p (s + 1) b (2 * j + 1))) (U4 (way * (2 * j + 1 : Nat) * kk * exs (s + 1)))) (2 ^ s)) := fun kk => by
    unfold FS
    rw [Nat.pow_succ, Nat.mul_comm (2 ^ s) 2, Cx.sum_two]
  -- the odd terms
  have od : ∀ j : Nat, Cx.Wi (Cx.sub (Cx.mul (U4 (way * k * exs (s + 1))) (Cx.mul (x (rho p s (2 * b + 1) j)) (U4 (way * j * k * exs s)))) (Cx.mul (x (rho p (s + 1) b (2 * j + 1))) (U4 (way * (2 * j + 1 : Nat) * k * exs (s + 1))))) (2 * io * m (rho p s (2 * b + 1) j)) := fun j => by
    rw [rho_odd]
    have e : way * (2 * j + 1 : Nat) * k * exs (s + 1) = way * k * exs (s + 1) + way * j * k * exs s := by
      rw [e2, Int.natCast_add, Int.natCast_mul]
      grind
    rw [e]
    have h1 := (hx (rho p s (2 * b + 1) j)).mul (U4_add (way * k * exs (s + 1)) (way * j * k * exs s))
    generalize U4 (way * k * exs (s + 1) + way * j * k * exs s) = u at *
    generalize U4 (way * k * exs (s + 1)) = v at *
    generalize U4 (way * j * k * exs s) = w at *
    generalize x (rho p s (2 * b + 1) j) = z at *
    obtain ⟨a1, a2, a3, a4⟩ := h1
    simp only [Cx.sub, Cx.mul] at *
    exact ⟨by grind, by grind, by grind, by grind⟩
  have od2 : ∀ j : Nat, Cx.Wi (Cx.add (Cx.mul (x (rho p (s + 1) b (2 * j + 1))) (U4 (way * (2 * j + 1 : Nat) * (k + (2 ^ s : Nat)) * exs (s + 1)))) (Cx.mul (x (rho p (s + 1) b (2 * j + 1))) (U4 (way * (2 * j + 1 : Nat) * k * exs (s + 1))))) (2 * io * m (rho p s (2 * b + 1) j)) := fun j => by
    rw [rho_odd]
    obtain ⟨t, ht⟩ : ∃ t : Int, way * (2 * j + 1 : Nat) = 2 * t + 1 := by
      rcases hw with rfl | rfl
      · exact ⟨j, by omega⟩
      · exact ⟨-(j : Int) - 1, by omega⟩
    have e : way * (2 * j + 1 : Nat) * (k + (2 ^ s : Nat)) * exs (s + 1) = way * (2 * j + 1 : Nat) * k * exs (s + 1) + 2048 + 4096 * t := by
      have h1 : ((2 ^ s : Nat) : Int) * exs (s + 1) = 2048 := by
        rw [e2] at e4
        grind
      have h2 : way * (2 * j + 1 : Nat) * (k + (2 ^ s : Nat)) * exs (s + 1) = way * (2 * j + 1 : Nat) * k * exs (s + 1) + way * (2 * j + 1 : Nat) * (((2 ^ s : Nat) : Int) * exs (s + 1)) := by grind
      rw [h2, h1, ht]
      grind
    rw [e, U4_per]
    have h1 := (hx (rho p s (2 * b + 1) j)).mul (U4_half (way * (2 * j + 1 : Nat) * k * exs (s + 1)))
    generalize U4 (way * (2 * j + 1 : Nat) * k * exs (s + 1) + 2048) = u at *
    generalize U4 (way * (2 * j + 1 : Nat) * k * exs (s + 1)) = v at *
    generalize x (rho p s (2 * b + 1) j) = z at *
    obtain ⟨a1, a2, a3, a4⟩ := h1
    simp only [Cx.add, Cx.mul] at *
    exact ⟨by grind, by grind, by grind, by grind⟩
  have s1 := Cx.sum_wi (2 ^ s) fun j (_ : j < 2 ^ s) => od j
  have s2 := Cx.sum_wi (2 ^ s) fun j (_ : j < 2 ^ s) => od2 j
  rw [RS_mul, ← Cx.sub_sum, Cx.sum_mul] at s1
  rw [RS_mul, Cx.sum_add] at s2
  have hW : RS (fun j => m (rho p s (2 * b + 1) j)) (2 ^ s) = WS m p s (2 * b + 1) := rfl
  rw [hW] at s1 s2
  have hF : Cx.sum (fun j => Cx.mul (x (rho p s (2 * b + 1) j)) (U4 (way * j * k * exs s))) (2 ^ s) = FS way x p s (2 * b + 1) k := rfl
  rw [hF] at s1
  rw [two k, two (k + (2 ^ s : Nat)), ev k (.inl rfl), ev _ (.inr rfl)]
  generalize Cx.sum (fun j => Cx.mul (x (rho p (s + 1) b (2 * j + 1))) (U4 (way * (2 * j + 1 : Nat) * k * exs (s + 1)))) (2 ^ s) = o at *
  generalize Cx.sum (fun j => Cx.mul (x (rho p (s + 1) b (2 * j + 1))) (U4 (way * (2 * j + 1 : Nat) * (k + (2 ^ s : Nat)) * exs (s + 1)))) (2 ^ s) = o' at *
  generalize Cx.mul (U4 (way * k * exs (s + 1))) (FS way x p s (2 * b + 1) k) = g at *
  generalize FS way x p s (2 * b) k = f at *
  generalize WS m p s (2 * b + 1) = W at *
  obtain ⟨a1, a2, a3, a4⟩ := s1
  obtain ⟨b1, b2, b3, b4⟩ := s2
  simp only [Cx.sub, Cx.add] at *
  exact ⟨⟨by grind, by grind, by grind, by grind⟩, ⟨by grind, by grind, by grind, by grind⟩⟩
end Go.Proofs.YthddkcoflnbjbaaDoor
namespace Go.Proofs.YthddkcoflnbjbaaDoor
open Sm Go Go.RowKit Fl Ieee
set_option maxRecDepth 100000
set_option linter.unusedVariables false
def eps : Nat → Rat
  | 0 => 0
  | s + 1 => (20005 / 10000 : Rat) * eps s + (44 / 1000000000000000 : Rat)
def eta : Nat → Rat
  | 0 => 0
  | s + 1 => (3002 / 1000 : Rat) * eta s + (3 / 10000000000000000 : Rat)
theorem eps_bd : ∀ s, s ≤ 12 → 0 ≤ eps s ∧ eps s ≤ (2 / 10000000000 : Rat) ∧ 0 ≤ eta s ∧ eta s ≤ (1 / 10000000000 : Rat) := by decide +kernel
theorem rev_lt : ∀ p a, rev p a < 2 ^ p
  | 0, a => Nat.one_pos
  | p + 1, a => by
    have := rev_lt p (a / 2)
    show rev p (a / 2) + a % 2 * 2 ^ p < 2 ^ (p + 1)
    rw [Nat.pow_succ]
    rcases (show a % 2 = 0 ∨ a % 2 = 1 by omega) with h | h <;> rw [h] <;> omega
theorem scat_rev {p : Nat} (hp : p ≤ 12) (X : Nat → Nat × Nat) {j : Nat} (hj : j < 2 ^ p) : scat (rev p) X (2 ^ p) j = X (rev p j) := by
  obtain ⟨_, r2, r3⟩ := rev_at hp hj
  have h := scat_at (r := rev p) (X := X) (n := 2 ^ p) (i := rev p j) r3 fun a b ha hb he => by
    have h1 := (rev_at hp ha).2.1
    have h2 := (rev_at hp hb).2.1
    rw [← h1, ← h2, he]
  rwa [r2] at h
theorem stage {way : Int} (hw : way = 1 ∨ way = -1) {p : Nat} (hp : p ≤ 12) {X : Nat → Nat × Nat} {x : Nat → Cx} {m : Nat → Rat} (hX : ∀ j, j < 2 ^ p → CAp (X j) (x j) 0) (hx : ∀ j, Cx.Wi (x j) (m j)) (hm : ∀ j, m j ≤ (10000000000000000000000000000000000000000000000000000000000000000000000000000000000000000000000000000000000 : Rat)) :
    ∀ s, s ≤ p → (∀ b, b < 2 ^ (p - s) → ∀ k, k < 2 ^ s → CAp (YS way p (scat (rev p) X (2 ^ p)) s (2 ^ s * b + k)) (FS way x p s b (k : Nat)) (eps s * WS m p s b + eta s)) ∧
      ∀ r, r < s → okF way (2 ^ r) (YS way p (scat (rev p) X (2 ^ p)) r) (2 ^ (p - r - 1))
  | 0, _ => by
    refine ⟨fun b hb k hk => ?_, fun r hr => by omega⟩
    obtain rfl : k = 0 := by simpa using hk
    rw [Nat.sub_zero] at hb
    have e1 : 2 ^ 0 * b + 0 = b := by omega
    have e2 : FS way x p 0 b ((0 : Nat) : Int) = x (rev p b) := by
      show Cx.add Cx.zero (Cx.mul (x (rho p 0 b 0)) (U4 (way * ((0 : Nat) : Int) * ((0 : Nat) : Int) * exs 0))) = _
      have : way * ((0 : Nat) : Int) * ((0 : Nat) : Int) * exs 0 = 0 := by simp
      rw [this, U4_zero, Cx.mul_one, Cx.add_comm, Cx.add_zero]
      unfold rho
      rw [show 2 ^ 0 * b + rev 0 0 = b by show 1 * b + 0 = b; omega]
    rw [e1, e2]
    show CAp (scat (rev p) X (2 ^ p) b) (x (rev p b)) (eps 0 * WS m p 0 b + eta 0)
    rw [scat_rev hp X hb]
    exact (hX _ (rev_lt p b)).le (by unfold eps eta; grind)
  | s + 1, hs => by
    obtain ⟨ih, ok⟩ := stage hw hp hX hx hm s (by omega)
    obtain ⟨v1, v2, v3, v4⟩ := eps_bd s (by omega)
    have m0 : ∀ j, 0 ≤ m j := fun j => (hx j).pos
    have hps : 2 ^ (p - s) = 2 * 2 ^ (p - s - 1) := by rw [← Nat.pow_succ', show p - s = (p - s - 1) + 1 by omega]; rfl
    have wle : ∀ b, WS m p s b ≤ (100000000000000000000000000000000000000000000000000000000000000000000000000000000000000000000000000000000000000 : Rat) := fun b => by
      have h1 := WS_le hm p s b
      have h2 : ((2 ^ s : Nat) : Rat) ≤ 4096 := by
        have : (2 : Nat) ^ s ≤ 2 ^ 12 := Nat.pow_le_pow_right (by omega) (by omega)
        exact Rat.natCast_le_natCast.2 this
      have h3 := Rat.mul_le_mul_of_nonneg_right h2 (show (0 : Rat) ≤ (10000000000000000000000000000000000000000000000000000000000000000000000000000000000000000000000000000000000 : Rat) by decide +kernel)
      grind
    -- one butterfly
    have bf : ∀ b : Nat, b < 2 ^ (p - s - 1) → ∀ i : Nat, i < 2 ^ s →
        okBf (turnP (way * i) (2 * 2 ^ s : Nat)) (YS way p (scat (rev p) X (2 ^ p)) s (2 * 2 ^ s * b + i)) (YS way p (scat (rev p) X (2 ^ p)) s (2 * 2 ^ s * b + i + 2 ^ s)) ∧
        CAp (cadd (YS way p (scat (rev p) X (2 ^ p)) s (2 * 2 ^ s * b + i)) (bfT (turnP (way * i) (2 * 2 ^ s : Nat)) (YS way p (scat (rev p) X (2 ^ p)) s (2 * 2 ^ s * b + i + 2 ^ s)))) (FS way x p (s + 1) b (i : Nat)) (eps (s + 1) * WS m p (s + 1) b + eta (s + 1)) ∧
        CAp (csub (YS way p (scat (rev p) X (2 ^ p)) s (2 * 2 ^ s * b + i)) (bfT (turnP (way * i) (2 * 2 ^ s : Nat)) (YS way p (scat (rev p) X (2 ^ p)) s (2 * 2 ^ s * b + i + 2 ^ s)))) (FS way x p (s + 1) b ((i : Nat) + (2 ^ s : Nat))) (eps (s + 1) * WS m p (s + 1) b + eta (s + 1)) := fun b hb i hi => by
      have ea : 2 * 2 ^ s * b + i = 2 ^ s * (2 * b) + i := by rw [Nat.mul_comm 2 (2 ^ s), Nat.mul_assoc]
      have ey : 2 * 2 ^ s * b + i + 2 ^ s = 2 ^ s * (2 * b + 1) + i := by rw [ea, Nat.mul_add, Nat.mul_one]; omega
      rw [ey, ea]
      have ha := ih (2 * b) (by omega) i hi
      have hy := ih (2 * b + 1) (by omega) i hi
      have h12 : 2 * 2 ^ s ≤ 4096 := by
        have : (2 : Nat) ^ (s + 1) ≤ 2 ^ 12 := Nat.pow_le_pow_right (by omega) (by omega)
        rw [Nat.pow_succ, show (2 : Nat) ^ 12 = 4096 from rfl] at this
        omega
      have hpos := Nat.two_pow_pos s
      have ht := turn_near (k := way * i) (n := ((2 * 2 ^ s : Nat) : Int)) (D := exs (s + 1)) (by omega) (by omega) (by
        have := exs_all (show s + 1 ≤ 12 by omega)
        rw [Nat.pow_succ] at this
        rw [Int.mul_comm, Nat.mul_comm 2]
        exact this)
      have w1 := WS_nn m0 p s (2 * b)
      have w2 := WS_nn m0 p s (2 * b + 1)
      have g1 := wle (2 * b)
      have g2 := wle (2 * b + 1)
      have q1 := Rat.mul_le_mul_of_nonneg_right v2 w1
      have q2 := Rat.mul_le_mul_of_nonneg_right v2 w2
      obtain ⟨r1, r2, r3⟩ := bf_ap ht ha hy (U4_wi _) (FS_wi hx p s (2 * b) _) (FS_wi hx p s (2 * b + 1) _) w1 g1 w2 g2 (by grind) (by grind)
      obtain ⟨f1, f2⟩ := FS_step hw hx p s b (by omega) ((i : Nat) : Int)
      have hW := WS_two m p s b
      have hio : 4 * io ≤ (1 / 100000000000000000000 : Rat) := by unfold io; decide +kernel
      have hio0 := io_pos
      have q3 := Rat.mul_le_mul_of_nonneg_right hio w2
      have q5 := Rat.mul_le_mul_of_nonneg_right (Rat.le_of_lt hio0) w2
      have q4 := Rat.mul_nonneg v1 w1
      have q6 := Rat.mul_nonneg v1 w2
      refine ⟨r1, (r2.mv f1).le ?_, (r3.mv f2).le ?_⟩
      · rw [hW]; show _ ≤ ((20005 / 10000 : Rat) * eps s + (44 / 1000000000000000 : Rat)) * _ + ((3002 / 1000 : Rat) * eta s + (3 / 10000000000000000 : Rat)); grind
      · rw [hW]; show _ ≤ ((20005 / 10000 : Rat) * eps s + (44 / 1000000000000000 : Rat)) * _ + ((3002 / 1000 : Rat) * eta s + (3 / 10000000000000000 : Rat)); grind
    have hok : okF way (2 ^ s) (YS way p (scat (rev p) X (2 ^ p)) s) (2 ^ (p - s - 1)) := okF_of _ _ _ _ fun b hb i hi => (bf b hb i hi).1
    refine ⟨fun b hb k hk => ?_, fun r hr => ?_⟩
    · have hb' : b < 2 ^ (p - s - 1) := by rw [show p - s - 1 = p - (s + 1) by omega]; exact hb
      obtain ⟨sp, _⟩ := YF_spec way (2 ^ s) (YS way p (scat (rev p) X (2 ^ p)) s) (2 ^ (p - s - 1))
      have eY : ∀ j, YS way p (scat (rev p) X (2 ^ p)) (s + 1) j = YF way (2 ^ s) (YS way p (scat (rev p) X (2 ^ p)) s) (2 ^ (p - s - 1)) j := fun j => rfl
      have e1 : 2 ^ (s + 1) * b = 2 * 2 ^ s * b := by rw [Nat.pow_succ, Nat.mul_comm (2 ^ s) 2]
      rw [eY, e1]
      by_cases hlt : k < 2 ^ s
      · obtain ⟨s1, _⟩ := sp b hb' k hlt
        rw [s1]
        exact (bf b hb' k hlt).2.1
      · rw [Nat.pow_succ] at hk
        obtain ⟨_, s2⟩ := sp b hb' (k - 2 ^ s) (by omega)
        have e2 : 2 * 2 ^ s * b + k = 2 * 2 ^ s * b + (k - 2 ^ s) + 2 ^ s := by omega
        rw [e2, s2]
        have h := (bf b hb' (k - 2 ^ s) (by omega)).2.2
        have e3 : (((k - 2 ^ s : Nat) : Nat) : Int) + ((2 ^ s : Nat) : Int) = (k : Int) := by omega
        rw [e3] at h
        exact h
    · by_cases hc : r = s
      · subst hc; exact hok
      · exact ok r (by omega)
def dft (way : Int) (x : Nat → Cx) (p : Nat) (k : Int) : Cx := Cx.sum (fun i => Cx.mul (x i) (U4 (way * i * k * exs p))) (2 ^ p)
theorem rho_id {p i : Nat} (hp : p ≤ 12) (hi : i < 2 ^ p) : rho p p 0 i = i := by
  unfold rho
  rw [Nat.mul_zero, Nat.zero_add]
  exact (rev_at hp hi).2.1
theorem tr_near {way : Int} (hw : way = 1 ∨ way = -1) {p : Nat} (hp : p ≤ 12) {X : Nat → Nat × Nat} {x : Nat → Cx} {m : Nat → Rat} (hX : ∀ j, j < 2 ^ p → CAp (X j) (x j) 0) (hx : ∀ j, Cx.Wi (x j) (m j)) (hm : ∀ j, m j ≤ (10000000000000000000000000000000000000000000000000000000000000000000000000000000000000000000000000000000000 : Rat)) :
    okTr way p X ∧ ∀ k, k < 2 ^ p → CAp (trY way p X k) (dft way x p (k : Nat)) ((2 / 10000000000 : Rat) * RS m (2 ^ p) + (1 / 10000000000 : Rat)) := by
  obtain ⟨h1, h2⟩ := stage hw hp hX hx hm p (Nat.le_refl _)
  refine ⟨fun s hs => h2 s hs, fun k hk => ?_⟩
  have h := h1 0 (by rw [Nat.sub_self]; decide) k hk
  rw [Nat.mul_zero, Nat.zero_add] at h
  have e1 : FS way x p p 0 (k : Nat) = dft way x p (k : Nat) := Cx.sum_congr _ fun i hi => by rw [rho_id hp hi]
  have e2 : WS m p p 0 = RS m (2 ^ p) := RS_congr _ fun i hi => by rw [rho_id hp hi]
  rw [e1, e2] at h
  obtain ⟨v1, v2, v3, v4⟩ := eps_bd p hp
  have w : 0 ≤ RS m (2 ^ p) := by
    have := RS_le (T := fun _ => (0 : Rat)) (D := m) (2 ^ p) fun i _ => (hx i).pos
    rw [RS_const] at this
    grind
  have q := Rat.mul_le_mul_of_nonneg_right v2 w
  exact h.le (by grind)
end Go.Proofs.YthddkcoflnbjbaaDoor
