/-
  What is proved here: float operations of the abstract evaluator by what they stand for. A text to be imported.
-/
import Derived.Test.YthddkcoflnbjbaaDoorSimQ
import Derived.Test.YthddkcoflnbjbaaDoorSimFl
namespace Sm
open Go Go.RowKit Fl

/-- A float of a kind is a number. -/
abbrev fnum (k : FloatKind) (x : Nat) : Prop := Fl.num k.format x
/-- Its value. -/
abbrev fv (k : FloatKind) (x : Nat) : Rat := Fl.vl k.format x

theorem eb_ok (k : FloatKind) : 2 ≤ k.format.exponentBits := by cases k <;> decide
def tp (k : FloatKind) : Rat := pw (topE k.format)
theorem top64 : topE FloatKind.f64.format = ((1023 : Nat) : Int) := by kernel_rfl
theorem top32 : topE FloatKind.f32.format = ((127 : Nat) : Int) := by kernel_rfl
theorem tp_ge (k : FloatKind) : (1099511627776 : Rat) ≤ tp k := by
  have h := pw_nat 40
  rw [show (2 ^ 40 : Nat) = 1099511627776 from rfl, Rat.natCast_ofNat] at h
  rw [← h]
  unfold tp
  cases k
  · rw [top32]; exact pw_mono (by decide)
  · rw [top64]; exact pw_mono (by decide)
theorem lp0 (k : FloatKind) : k.format.leastPlace ≤ 0 := by cases k <;> decide

theorem fbin_add {k : FloatKind} {x y : Nat} (hx : fnum k x) (hy : fnum k y) (h1 : fv k x + fv k y < tp k) (h2 : -tp k < fv k x + fv k y) : fok .add k x y = true ∧ Rnd k.format (fbin .add k x y) (fv k x + fv k y) := by
  obtain ⟨r, hr, h⟩ := add_rnd (eb_ok k) hx hy h1 h2
  unfold fok fbin floatBits?
  rw [hr]
  exact ⟨rfl, h⟩
theorem fbin_sub {k : FloatKind} {x y : Nat} (hx : fnum k x) (hy : fnum k y) (h1 : fv k x - fv k y < tp k) (h2 : -tp k < fv k x - fv k y) : fok .sub k x y = true ∧ Rnd k.format (fbin .sub k x y) (fv k x - fv k y) := by
  obtain ⟨r, hr, h⟩ := sub_rnd (eb_ok k) hx hy h1 h2
  unfold fok fbin floatBits?
  rw [hr]
  exact ⟨rfl, h⟩
theorem fbin_mul {k : FloatKind} {x y : Nat} (hx : fnum k x) (hy : fnum k y) (h1 : fv k x * fv k y < tp k) (h2 : -tp k < fv k x * fv k y) : fok .mul k x y = true ∧ Rnd k.format (fbin .mul k x y) (fv k x * fv k y) := by
  obtain ⟨r, hr, h⟩ := mul_rnd (eb_ok k) hx hy h1 h2
  unfold fok fbin floatBits?
  rw [hr]
  exact ⟨rfl, h⟩
theorem fbin_quo {k : FloatKind} {x y : Nat} (hx : fnum k x) (hy : fnum k y) (h0 : fv k y ≠ 0) (h1 : fv k x / fv k y < tp k) (h2 : -tp k < fv k x / fv k y) : fok .quo k x y = true ∧ Rnd k.format (fbin .quo k x y) (fv k x / fv k y) := by
  obtain ⟨r, hr, h⟩ := div_rnd (eb_ok k) hx hy h0 h1 h2
  unfold fok fbin floatBits?
  rw [hr]
  exact ⟨rfl, h⟩
theorem fint {k : FloatKind} (n : Int) (h1 : (n : Rat) < tp k) (h2 : -tp k < (n : Rat)) : Rnd k.format (k.nearest n) (n : Rat) := ofInt_rnd (eb_ok k) n h1 h2
theorem feq_self {k : FloatKind} {x : Nat} (hx : fnum k x) : Op.floatEq k x x = true := by
  unfold Op.floatEq
  rw [((order_val hx hx).2.1).2 rfl]
  rfl
theorem ford_ok {k : FloatKind} {x y : Nat} (hx : fnum k x) (hy : fnum k y) : ford k x y = true := (order_val hx hy).2.2.2

/-- Two rows of floats alike at so many places. -/
def eqF (k : FloatKind) (f g : Nat → Nat) : Nat → Nat → Bool
  | 0, _ => true
  | n + 1, i => Op.floatEq k (f i) (g i) && eqF k f g n (i + 1)
theorem eqF_same {k : FloatKind} {f : Nat → Nat} : ∀ (n i : Nat), (∀ j, j < i + n → fnum k (f j)) → eqF k f f n i = true
  | 0, _, _ => rfl
  | n + 1, i, h => by
    simp only [eqF, Bool.and_eq_true]
    exact ⟨feq_self (h i (by omega)), eqF_same n (i + 1) fun j hj => h j (by omega)⟩
end Sm
