/-
  What is proved here: sums of turning numbers over a whole circle; there and back; the squares; lists moved on; mirror images: with no program in sight. there and back, the squares, lists moved on, mirror images: in floats. A text to be imported.
-/
import Derived.Test.YthddkcoflnbjbaaDoorLaw13
import Derived.Test.YthddkcoflnbjbaaDoorCon22
namespace Go.Proofs.YthddkcoflnbjbaaDoor
open Sm Go Go.RowKit Fl Ieee
set_option maxRecDepth 100000
set_option linter.unusedVariables false
theorem half_turn : ∀ p, p ≤ 12 → ∀ d : Int, ¬ ((2 ^ p : Nat) : Int) ∣ d → ∃ (h : Nat) (t : Int), d * h * exs p = 2048 + 4096 * t
  | 0, _, d, hd => absurd (show ((2 ^ 0 : Nat) : Int) ∣ d from ⟨d, by simp⟩) hd
  | p + 1, hp, d, hd => by
    have e2 := exs_two (show p < 12 by omega)
    have e4 := exs_all (show p ≤ 12 by omega)
    by_cases ho : d % 2 = 0
    · obtain ⟨d', rfl⟩ : ∃ d', d = 2 * d' := ⟨d / 2, by omega⟩
      obtain ⟨h, t, ht⟩ := half_turn p (by omega) d' fun ⟨c, hc⟩ => hd ⟨c, by rw [hc, Nat.pow_succ, Int.natCast_mul]; grind⟩
      exact ⟨h, t, by rw [← ht, e2]; grind⟩
    · obtain ⟨o, rfl⟩ : ∃ o, d = 2 * o + 1 := ⟨d / 2, by omega⟩
      refine ⟨2 ^ p, o, ?_⟩
      have h1 : ((2 ^ p : Nat) : Int) * exs (p + 1) = 2048 := by
        rw [e2] at e4
        grind
      rw [Int.mul_assoc, h1]
      grind
theorem cx_shift {f : Nat → Cx} {N : Nat} (hf : ∀ k, f (k + N) = f k) : ∀ h, Cx.sum (fun k => f (k + h)) N = Cx.sum f N
  | 0 => rfl
  | h + 1 => by
    have ih := cx_shift hf h
    have a1 := Cx.sum_append (fun k => f (k + h)) 1 N
    have a2 := Cx.sum_append (fun k => f (k + h)) N 1
    rw [Nat.add_comm N 1] at a2
    rw [a2] at a1
    have s1 : ∀ g : Nat → Cx, Cx.sum g 1 = g 0 := fun g => by
      show Cx.add Cx.zero (g 0) = g 0
      rw [Cx.add_comm, Cx.add_zero]
    rw [s1, s1] at a1
    have e0 : f (N + 0 + h) = f (0 + h) := by rw [show N + 0 + h = (0 + h) + N by omega, hf]
    rw [e0] at a1
    have e1 : Cx.sum (fun j => f (1 + j + h)) N = Cx.sum (fun k => f (k + (h + 1))) N := Cx.sum_congr _ fun j _ => by rw [show 1 + j + h = j + (h + 1) by omega]
    rw [e1] at a1
    rw [← ih]
    have := congrArg Cx.re a1
    have := congrArg Cx.im a1
    simp only [Cx.add] at *
    exact Cx.ext' (by grind) (by grind)
theorem orth {p : Nat} (hp : p ≤ 12) {d : Int} (hd : ¬ ((2 ^ p : Nat) : Int) ∣ d) : Cx.Wi (Cx.sum (fun k => U4 (d * k * exs p)) (2 ^ p)) ((2 ^ p : Nat) * io) := by
  obtain ⟨h, t, ht⟩ := half_turn p hp d hd
  have e4 := exs_all hp
  have hs := cx_shift (f := fun k => U4 (d * k * exs p)) (N := 2 ^ p) (fun k => by
    show U4 (d * ((k + 2 ^ p : Nat) : Int) * exs p) = U4 (d * k * exs p)
    have e : d * ((k + 2 ^ p : Nat) : Int) * exs p = d * k * exs p + 4096 * d := by rw [Int.natCast_add, ← e4]; grind
    rw [e, U4_per]) h
  have ha := Cx.sum_wi (T := fun k => Cx.add (U4 (d * ((k + h : Nat) : Int) * exs p)) (U4 (d * k * exs p))) (D := fun _ => io) (2 ^ p) fun k _ => by
    have e : d * ((k + h : Nat) : Int) * exs p = d * k * exs p + 2048 + 4096 * t := by rw [Int.natCast_add, Int.add_assoc, ← ht]; grind
    rw [e, U4_per]
    exact U4_half _
  rw [Cx.sum_add, RS_const] at ha
  have hs' : Cx.sum (fun k => U4 (d * ((k + h : Nat) : Int) * exs p)) (2 ^ p) = Cx.sum (fun k => U4 (d * k * exs p)) (2 ^ p) := hs
  rw [hs'] at ha
  have hn : (0 : Rat) ≤ ((2 ^ p : Nat) : Rat) * io := Rat.mul_nonneg Rat.natCast_nonneg (Rat.le_of_lt io_pos)
  generalize Cx.sum (fun k => U4 (d * k * exs p)) (2 ^ p) = S at *
  generalize ((2 ^ p : Nat) : Rat) * io = b at *
  obtain ⟨a1, a2, a3, a4⟩ := ha
  simp only [Cx.add] at *
  exact ⟨by grind, by grind, by grind, by grind⟩
theorem cx_const (n : Nat) : Cx.sum (fun _ => Cx.one) n = ⟨(n : Rat), 0⟩ := by
  induction n with
  | zero => exact Cx.ext' rfl rfl
  | succ n ih =>
    show Cx.add (Cx.sum _ n) Cx.one = _
    rw [ih]
    exact Cx.ext' (by show (n : Rat) + 1 = ((n + 1 : Nat) : Rat); rw [Rat.natCast_add]; rfl) (by show (0 : Rat) + 0 = 0; grind)
theorem dft_wi {way : Int} {x : Nat → Cx} {m : Nat → Rat} (hx : ∀ j, Cx.Wi (x j) (m j)) (p : Nat) (k : Int) : Cx.Wi (dft way x p k) (2 * RS m (2 ^ p)) := by
  have h := Cx.sum_wi (T := fun i => Cx.mul (x i) (U4 (way * i * k * exs p))) (D := fun i => 2 * m i) (2 ^ p) fun i _ => ((hx _).mul (U4_wi _)).le (by grind)
  rw [RS_mul] at h
  exact h
theorem wi_sub_zero {a : Cx} {e : Rat} (h : Cx.Wi a e) : Cx.Wi (Cx.sub a Cx.zero) e := by
  obtain ⟨h1, h2, h3, h4⟩ := h
  simp only [Cx.sub, Cx.zero] at *
  exact ⟨by grind, by grind, by grind, by grind⟩
/-- There and back. -/
theorem there {way : Int} (hw : way = 1 ∨ way = -1) {p : Nat} (hp : p ≤ 12) {x : Nat → Cx} {m : Nat → Rat} (hx : ∀ j, Cx.Wi (x j) (m j)) {j : Nat} (hj : j < 2 ^ p) :
    Cx.Wi (Cx.sub (dft (-way) (fun k => dft way x p (k : Nat)) p (j : Nat)) (Cx.smul ((2 ^ p : Nat) : Rat) (x j))) (4 * ((2 ^ p : Nat) * io) * RS m (2 ^ p)) := by
  have hio := io_pos
  -- the sum over k, for one i
  have one : ∀ i : Nat, i < 2 ^ p → Cx.Wi (Cx.sub (Cx.sum (fun k => Cx.mul (U4 (way * i * k * exs p)) (U4 (-way * k * j * exs p))) (2 ^ p)) (if i = j then ⟨((2 ^ p : Nat) : Rat), 0⟩ else Cx.zero)) (2 * ((2 ^ p : Nat) * io)) := fun i hi => by
    have h1 := Cx.sum_wi (T := fun k => Cx.sub (U4 (way * (i - j) * k * exs p)) (Cx.mul (U4 (way * i * k * exs p)) (U4 (-way * k * j * exs p)))) (D := fun _ => io) (2 ^ p) fun k _ => by
      have := U4_add (way * i * k * exs p) (-way * k * j * exs p)
      rw [show way * i * k * exs p + -way * k * j * exs p = way * (i - j) * k * exs p by grind] at this
      exact this
    rw [← Cx.sub_sum, RS_const] at h1
    have h2 : Cx.Wi (Cx.sub (Cx.sum (fun k => U4 (way * (i - j) * k * exs p)) (2 ^ p)) (if i = j then ⟨((2 ^ p : Nat) : Rat), 0⟩ else Cx.zero)) ((2 ^ p : Nat) * io) := by
      by_cases e : i = j
      · subst e
        rw [if_pos rfl]
        have : Cx.sum (fun k : Nat => U4 (way * ((i : Int) - i) * k * exs p)) (2 ^ p) = ⟨((2 ^ p : Nat) : Rat), 0⟩ := by
          rw [← cx_const]
          exact Cx.sum_congr _ fun k _ => by rw [show way * ((i : Int) - i) * k * exs p = 0 by grind]; rfl
        rw [this]
        exact wi_self _ (Rat.mul_nonneg Rat.natCast_nonneg (Rat.le_of_lt hio))
      · rw [if_neg e]
        refine wi_sub_zero (orth hp fun hd => ?_)
        have hd2 : ((2 ^ p : Nat) : Int) ∣ ((i : Int) - j) := by
          rcases hw with rfl | rfl
          · simpa using hd
          · have := Int.dvd_neg.2 hd
            simpa using this
        obtain ⟨c, hc⟩ := hd2
        have hb : ((2 ^ p : Nat) : Int) > 0 := by have := Nat.two_pow_pos p; omega
        have h1 : c < 1 := by
          refine Int.not_le.1 fun h => ?_
          have := Int.mul_le_mul_of_nonneg_left h (Int.le_of_lt hb)
          omega
        have h2 : -1 < c := by
          refine Int.not_le.1 fun h => ?_
          have := Int.mul_le_mul_of_nonneg_left h (Int.le_of_lt hb)
          omega
        obtain rfl : c = 0 := by omega
        omega
    have h3 := h2
    generalize Cx.sum (fun k : Nat => U4 (way * (i - j) * k * exs p)) (2 ^ p) = S at *
    generalize Cx.sum (fun k : Nat => Cx.mul (U4 (way * i * k * exs p)) (U4 (-way * k * j * exs p))) (2 ^ p) = R at *
    generalize (if i = j then (⟨((2 ^ p : Nat) : Rat), 0⟩ : Cx) else Cx.zero) = q at *
    obtain ⟨a1, a2, a3, a4⟩ := h1
    obtain ⟨b1, b2, b3, b4⟩ := h3
    simp only [Cx.sub] at *
    exact ⟨by grind, by grind, by grind, by grind⟩
  -- exchange the sums
  have ex : dft (-way) (fun k => dft way x p (k : Nat)) p (j : Nat) = Cx.sum (fun i => Cx.mul (x i) (Cx.sum (fun k => Cx.mul (U4 (way * i * k * exs p)) (U4 (-way * k * j * exs p))) (2 ^ p))) (2 ^ p) := by
    unfold dft
    rw [Cx.sum_congr (T' := fun k : Nat => Cx.sum (fun i : Nat => Cx.mul (x i) (Cx.mul (U4 (way * i * k * exs p)) (U4 (-way * k * j * exs p)))) (2 ^ p)) _ fun k _ => by
      rw [Cx.mul_comm, ← Cx.sum_mul]
      exact Cx.sum_congr _ fun i _ => by rw [Cx.mul_comm, Cx.mul_assoc]]
    rw [Cx.sum_swap]
    exact Cx.sum_congr _ fun i _ => Cx.sum_mul _ _ _
  have want : Cx.sum (fun i => Cx.mul (x i) (if i = j then ⟨((2 ^ p : Nat) : Rat), 0⟩ else Cx.zero)) (2 ^ p) = Cx.smul ((2 ^ p : Nat) : Rat) (x j) := by
    rw [Cx.sum_one _ j _ hj fun i _ hne => by rw [if_neg hne, Cx.mul_zero], if_pos rfl]
    exact Cx.ext' (by simp only [Cx.mul, Cx.smul]; grind) (by simp only [Cx.mul, Cx.smul]; grind)
  rw [ex, ← want, Cx.sub_sum]
  have := Cx.sum_wi (T := fun i => Cx.sub (Cx.mul (x i) (Cx.sum (fun k => Cx.mul (U4 (way * i * k * exs p)) (U4 (-way * k * j * exs p))) (2 ^ p))) (Cx.mul (x i) (if i = j then ⟨((2 ^ p : Nat) : Rat), 0⟩ else Cx.zero))) (D := fun i => 4 * ((2 ^ p : Nat) * io) * m i) (2 ^ p) fun i hi => by
    have h1 := (hx i).mul (one i hi)
    have e : ∀ a b c : Cx, Cx.sub (Cx.mul a b) (Cx.mul a c) = Cx.mul a (Cx.sub b c) := fun a b c => Cx.ext' (by simp only [Cx.sub, Cx.mul]; grind) (by simp only [Cx.sub, Cx.mul]; grind)
    rw [e]
    exact h1.le (by grind)
  rw [RS_mul] at this
  exact this
/-- The squares. -/
theorem squares {p : Nat} (hp : p ≤ 12) {x : Nat → Cx} {m : Nat → Rat} (hx : ∀ j, Cx.Wi (x j) (m j)) :
    RS (fun k => Cx.nrm (dft 1 x p (k : Nat))) (2 ^ p) - ((2 ^ p : Nat) : Rat) * RS (fun j => Cx.nrm (x j)) (2 ^ p) ≤ 32 * ((2 ^ p : Nat) * io) * (RS m (2 ^ p) * RS m (2 ^ p)) ∧
    -(32 * ((2 ^ p : Nat) * io) * (RS m (2 ^ p) * RS m (2 ^ p))) ≤ RS (fun k => Cx.nrm (dft 1 x p (k : Nat))) (2 ^ p) - ((2 ^ p : Nat) : Rat) * RS (fun j => Cx.nrm (x j)) (2 ^ p) := by
  have hio := io_pos
  have m0 : ∀ j, 0 ≤ m j := fun j => (hx j).pos
  have M0 : 0 ≤ RS m (2 ^ p) := by
    have := RS_le (T := fun _ => (0 : Rat)) (D := m) (2 ^ p) fun i _ => m0 i
    rw [RS_const] at this
    grind
  have nm : ∀ a : Cx, Cx.mul a (Cx.conj a) = ⟨Cx.nrm a, 0⟩ := fun a => Cx.ext' (by simp only [Cx.mul, Cx.conj, Cx.nrm]; grind) (by simp only [Cx.mul, Cx.conj]; grind)
  have re_sum : ∀ (T : Nat → Cx) (n : Nat), (Cx.sum T n).re = RS (fun j => (T j).re) n := fun T n => by
    induction n with
    | zero => rfl
    | succ n ih => show (Cx.sum T n).re + (T n).re = RS _ n + _; rw [ih]
  have conj_sum : ∀ (T : Nat → Cx) (n : Nat), Cx.conj (Cx.sum T n) = Cx.sum (fun j => Cx.conj (T j)) n := fun T n => by
    induction n with
    | zero => exact Cx.ext' rfl (by show -(0 : Rat) = 0; grind)
    | succ n ih =>
      show Cx.conj (Cx.add (Cx.sum T n) (T n)) = Cx.add _ _
      rw [← ih]
      exact Cx.ext' rfl (by simp only [Cx.conj, Cx.add]; grind)
  -- the conjugate sums, j by j
  have one : ∀ j : Nat, j < 2 ^ p → Cx.Wi (Cx.sub (Cx.sum (fun k => Cx.mul (dft 1 x p (k : Nat)) (Cx.conj (U4 (1 * j * k * exs p)))) (2 ^ p)) (Cx.smul ((2 ^ p : Nat) : Rat) (x j))) (16 * ((2 ^ p : Nat) * io) * RS m (2 ^ p)) := fun j hj => by
    have h1 := there (way := 1) (.inl rfl) hp hx hj
    have h2 := Cx.sum_wi (T := fun k => Cx.sub (Cx.mul (dft 1 x p (k : Nat)) (U4 (-1 * k * j * exs p))) (Cx.mul (dft 1 x p (k : Nat)) (Cx.conj (U4 (1 * j * k * exs p))))) (D := fun _ => 2 * (2 * RS m (2 ^ p) * (3 * io))) (2 ^ p) fun k _ => by
      have := U4_conj (1 * j * k * exs p)
      rw [show -(1 * (j : Int) * k * exs p) = -1 * k * j * exs p by grind] at this
      have h := (dft_wi (way := 1) hx p (k : Nat)).mul this
      have e : ∀ a b c : Cx, Cx.sub (Cx.mul a b) (Cx.mul a c) = Cx.mul a (Cx.sub b c) := fun a b c => Cx.ext' (by simp only [Cx.sub, Cx.mul]; grind) (by simp only [Cx.sub, Cx.mul]; grind)
      rw [e]
      exact h
    rw [← Cx.sub_sum, RS_const] at h2
    have hd : dft (-1) (fun k => dft 1 x p (k : Nat)) p (j : Nat) = Cx.sum (fun k => Cx.mul (dft 1 x p (k : Nat)) (U4 (-1 * k * j * exs p))) (2 ^ p) := rfl
    rw [hd] at h1
    generalize Cx.sum (fun k => Cx.mul (dft 1 x p (k : Nat)) (U4 (-1 * k * j * exs p))) (2 ^ p) = A at *
    generalize Cx.sum (fun k => Cx.mul (dft 1 x p (k : Nat)) (Cx.conj (U4 (1 * j * k * exs p)))) (2 ^ p) = B at *
    generalize Cx.smul ((2 ^ p : Nat) : Rat) (x j) = C at *
    have hc : 16 * (((2 ^ p : Nat) : Rat) * io) * RS m (2 ^ p) = 4 * (((2 ^ p : Nat) : Rat) * io) * RS m (2 ^ p) + ((2 ^ p : Nat) : Rat) * (2 * (2 * RS m (2 ^ p) * (3 * io))) := by grind
    rw [hc]
    generalize 4 * (((2 ^ p : Nat) : Rat) * io) * RS m (2 ^ p) = u at *
    generalize ((2 ^ p : Nat) : Rat) * (2 * (2 * RS m (2 ^ p) * (3 * io))) = v at *
    obtain ⟨a1, a2, a3, a4⟩ := h1
    obtain ⟨b1, b2, b3, b4⟩ := h2
    simp only [Cx.sub] at *
    exact ⟨by grind, by grind, by grind, by grind⟩
  -- exchange the sums
  have ex : Cx.sum (fun k => Cx.mul (dft 1 x p (k : Nat)) (Cx.conj (dft 1 x p (k : Nat)))) (2 ^ p) = Cx.sum (fun j => Cx.mul (Cx.conj (x j)) (Cx.sum (fun k => Cx.mul (dft 1 x p (k : Nat)) (Cx.conj (U4 (1 * j * k * exs p)))) (2 ^ p))) (2 ^ p) := by
    rw [Cx.sum_congr (T' := fun k : Nat => Cx.sum (fun j : Nat => Cx.mul (Cx.conj (x j)) (Cx.mul (dft 1 x p (k : Nat)) (Cx.conj (U4 (1 * j * k * exs p))))) (2 ^ p)) _ fun k _ => by
      conv => lhs; arg 2; unfold dft
      rw [conj_sum, ← Cx.sum_mul]
      exact Cx.sum_congr _ fun j _ => by rw [Cx.conj_mul, ← Cx.mul_assoc, Cx.mul_comm _ (Cx.conj (x j)), Cx.mul_assoc]]
    rw [Cx.sum_swap]
    exact Cx.sum_congr _ fun j _ => Cx.sum_mul _ _ _
  have el : RS (fun k => Cx.nrm (dft 1 x p (k : Nat))) (2 ^ p) = (Cx.sum (fun k => Cx.mul (dft 1 x p (k : Nat)) (Cx.conj (dft 1 x p (k : Nat)))) (2 ^ p)).re := by
    rw [re_sum]
    exact RS_congr _ fun k _ => by rw [nm]
  have er : ((2 ^ p : Nat) : Rat) * RS (fun j => Cx.nrm (x j)) (2 ^ p) = (Cx.sum (fun j => Cx.mul (Cx.conj (x j)) (Cx.smul ((2 ^ p : Nat) : Rat) (x j))) (2 ^ p)).re := by
    rw [re_sum, ← RS_mul]
    exact RS_congr _ fun k _ => by simp only [Cx.mul, Cx.conj, Cx.smul, Cx.nrm]; grind
  have fin := Cx.sum_wi (T := fun j => Cx.sub (Cx.mul (Cx.conj (x j)) (Cx.sum (fun k => Cx.mul (dft 1 x p (k : Nat)) (Cx.conj (U4 (1 * j * k * exs p)))) (2 ^ p))) (Cx.mul (Cx.conj (x j)) (Cx.smul ((2 ^ p : Nat) : Rat) (x j)))) (D := fun j => 32 * (((2 ^ p : Nat) : Rat) * io) * RS m (2 ^ p) * m j) (2 ^ p) fun j hj => by
    have hc : Cx.Wi (Cx.conj (x j)) (m j) := by
      obtain ⟨a1, a2, a3, a4⟩ := hx j
      exact ⟨a1, a2, by simp only [Cx.conj]; grind, by simp only [Cx.conj]; grind⟩
    have h := hc.mul (one j hj)
    have e : ∀ a b c : Cx, Cx.sub (Cx.mul a b) (Cx.mul a c) = Cx.mul a (Cx.sub b c) := fun a b c => Cx.ext' (by simp only [Cx.sub, Cx.mul]; grind) (by simp only [Cx.sub, Cx.mul]; grind)
    rw [e]
    exact h.le (by grind)
  rw [← Cx.sub_sum, RS_mul, ← ex] at fin
  rw [el, er]
  have hq : 32 * (((2 ^ p : Nat) : Rat) * io) * RS m (2 ^ p) * RS m (2 ^ p) = 32 * (((2 ^ p : Nat) : Rat) * io) * (RS m (2 ^ p) * RS m (2 ^ p)) := by grind
  rw [hq] at fin
  generalize Cx.sum (fun k => Cx.mul (dft 1 x p (k : Nat)) (Cx.conj (dft 1 x p (k : Nat)))) (2 ^ p) = A at *
  generalize Cx.sum (fun j => Cx.mul (Cx.conj (x j)) (Cx.smul ((2 ^ p : Nat) : Rat) (x j))) (2 ^ p) = B at *
  obtain ⟨a1, a2, a3, a4⟩ := fin
  simp only [Cx.sub] at *
  exact ⟨a1, a2⟩
/-- A list moved on. -/
def mvd {α : Type} (N : Nat) (x : Nat → α) (j : Nat) : α := if j = 0 then x (N - 1) else x (j - 1)
theorem moved {p : Nat} (hp : p ≤ 12) {x : Nat → Cx} {m : Nat → Rat} (hx : ∀ j, Cx.Wi (x j) (m j)) (k : Nat) :
    Cx.Wi (Cx.sub (dft 1 (mvd (2 ^ p) x) p (k : Nat)) (Cx.mul (dft 1 x p (k : Nat)) (U4 (k * exs p)))) (2 * io * RS m (2 ^ p)) := by
  have e4 := exs_all hp
  have hN := Nat.two_pow_pos p
  have e1 : dft 1 (mvd (2 ^ p) x) p (k : Nat) = Cx.sum (fun i : Nat => Cx.mul (x i) (U4 (1 * ((i + 1 : Nat) : Int) * k * exs p))) (2 ^ p) := by
    unfold dft
    obtain ⟨n, hn⟩ : ∃ n, 2 ^ p = 1 + n := ⟨2 ^ p - 1, by omega⟩
    have s1 : ∀ g : Nat → Cx, Cx.sum g 1 = g 0 := fun g => by
      show Cx.add Cx.zero (g 0) = g 0
      rw [Cx.add_comm, Cx.add_zero]
    have lhs : Cx.sum (fun i : Nat => Cx.mul (mvd (2 ^ p) x i) (U4 (1 * i * k * exs p))) (1 + n) = Cx.add (Cx.mul (x n) (U4 0)) (Cx.sum (fun i : Nat => Cx.mul (x i) (U4 (1 * ((i + 1 : Nat) : Int) * k * exs p))) n) := by
      rw [Cx.sum_append, s1]
      congr 1
      · unfold mvd
        rw [if_pos rfl, show 2 ^ p - 1 = n by omega]
        congr 2
        simp
      · refine Cx.sum_congr _ fun i _ => ?_
        unfold mvd
        rw [if_neg (by omega), show 1 + i - 1 = i by omega, Nat.add_comm 1 i]
    have rhs : Cx.sum (fun i : Nat => Cx.mul (x i) (U4 (1 * ((i + 1 : Nat) : Int) * k * exs p))) (n + 1) = Cx.add (Cx.sum (fun i : Nat => Cx.mul (x i) (U4 (1 * ((i + 1 : Nat) : Int) * k * exs p))) n) (Cx.mul (x n) (U4 0)) := by
      show Cx.add _ (Cx.mul (x n) (U4 (1 * ((n + 1 : Nat) : Int) * k * exs p))) = _
      have e : 1 * ((n + 1 : Nat) : Int) * k * exs p = 0 + 4096 * k := by
        rw [← e4, hn]
        grind
      rw [e, U4_per]
    rw [hn] at lhs ⊢
    rw [lhs, Nat.add_comm 1 n, rhs, Cx.add_comm]
  have e2 : Cx.mul (dft 1 x p (k : Nat)) (U4 (k * exs p)) = Cx.sum (fun i : Nat => Cx.mul (x i) (Cx.mul (U4 (1 * i * k * exs p)) (U4 (k * exs p)))) (2 ^ p) := by
    unfold dft
    rw [Cx.mul_comm, ← Cx.sum_mul]
    exact Cx.sum_congr _ fun i _ => by rw [Cx.mul_comm, Cx.mul_assoc]
  rw [e1, e2, Cx.sub_sum]
  have := Cx.sum_wi (T := fun i : Nat => Cx.sub (Cx.mul (x i) (U4 (1 * ((i + 1 : Nat) : Int) * k * exs p))) (Cx.mul (x i) (Cx.mul (U4 (1 * i * k * exs p)) (U4 (k * exs p))))) (D := fun i => 2 * io * m i) (2 ^ p) fun i _ => by
    have h := U4_add (1 * i * k * exs p) (k * exs p)
    have e : 1 * (i : Int) * k * exs p + k * exs p = 1 * ((i + 1 : Nat) : Int) * k * exs p := by
      rw [Int.natCast_add]
      grind
    rw [e] at h
    have h2 := (hx i).mul h
    have e : ∀ a b c : Cx, Cx.sub (Cx.mul a b) (Cx.mul a c) = Cx.mul a (Cx.sub b c) := fun a b c => Cx.ext' (by simp only [Cx.sub, Cx.mul]; grind) (by simp only [Cx.sub, Cx.mul]; grind)
    rw [e]
    exact h2.le (by grind)
  rw [RS_mul] at this
  exact this
/-- Real numbers: the mirror image, turned. -/
theorem mirror {p : Nat} (hp : p ≤ 12) {x : Nat → Cx} {m : Nat → Rat} (hx : ∀ j, Cx.Wi (x j) (m j)) (hr : ∀ j, (x j).im = 0) {k k' : Nat} {t : Int} (hk : (k' : Int) = -k + (2 ^ p : Nat) * t) :
    Cx.Wi (Cx.sub (dft 1 x p (k : Nat)) (Cx.conj (dft 1 x p (k' : Nat)))) (6 * io * RS m (2 ^ p)) := by
  have e4 := exs_all hp
  have conj_sum : ∀ (T : Nat → Cx) (n : Nat), Cx.conj (Cx.sum T n) = Cx.sum (fun j => Cx.conj (T j)) n := fun T n => by
    induction n with
    | zero => exact Cx.ext' rfl (by show -(0 : Rat) = 0; grind)
    | succ n ih =>
      show Cx.conj (Cx.add (Cx.sum T n) (T n)) = Cx.add _ _
      rw [← ih]
      exact Cx.ext' rfl (by simp only [Cx.conj, Cx.add]; grind)
  unfold dft
  rw [conj_sum, Cx.sub_sum]
  have := Cx.sum_wi (T := fun i : Nat => Cx.sub (Cx.mul (x i) (U4 (1 * i * k * exs p))) (Cx.conj (Cx.mul (x i) (U4 (1 * i * k' * exs p))))) (D := fun i => 6 * io * m i) (2 ^ p) fun i _ => by
    have h := U4_conj (1 * i * k' * exs p)
    have e : -(1 * (i : Int) * k' * exs p) = 1 * i * k * exs p + 4096 * (-(i * t)) := by
      rw [hk, ← e4]
      grind
    rw [e, U4_per] at h
    have h2 := (hx i).mul h
    have hri := hr i
    generalize U4 (1 * i * k * exs p) = u at *
    generalize U4 (1 * i * k' * exs p) = v at *
    generalize x i = z at *
    obtain ⟨a1, a2, a3, a4⟩ := h2
    simp only [Cx.sub, Cx.mul, Cx.conj] at *
    rw [hri] at *
    exact ⟨by grind, by grind, by grind, by grind⟩
  rw [RS_mul] at this
  exact this
end Go.Proofs.YthddkcoflnbjbaaDoor
namespace Go.Proofs.YthddkcoflnbjbaaDoor
open Sm Go Go.RowKit Fl Ieee
set_option maxRecDepth 100000
set_option linter.unusedVariables false
def HH : Rat := 10000000000000000000000000000000000000000000000000000000000000000000000000000000000000000000000000000000000
theorem rep0 : rep FloatKind.f64.format (0 : Rat) := rep_nat (k := .f64) (c := 0) (by decide)
theorem tp_pos : (0 : Rat) < tp .f64 := by have := tp_ge .f64; grind
/-- Products with nought, quotients of nought. -/
theorem mul_zero_w {x z : Nat} (hx : fnum .f64 x) (hz : fnum .f64 z ∧ fv .f64 z = 0) : fok .mul .f64 x z = true ∧ fnum .f64 (fbin .mul .f64 x z) ∧ fv .f64 (fbin .mul .f64 x z) = 0 := by
  have ht := tp_pos
  have e : fv .f64 x * fv .f64 z = 0 := by rw [hz.2, Rat.mul_zero]
  obtain ⟨k, r⟩ := fbin_mul hx hz.1 (by rw [e]; exact ht) (by rw [e]; grind)
  rw [e] at r
  exact ⟨k, r.num, r.exact rep0⟩
theorem quo_zero_w {z y : Nat} (hz : fnum .f64 z ∧ fv .f64 z = 0) (hy : fnum .f64 y) (h0 : fv .f64 y ≠ 0) : fok .quo .f64 z y = true ∧ fnum .f64 (fbin .quo .f64 z y) ∧ fv .f64 (fbin .quo .f64 z y) = 0 := by
  have ht := tp_pos
  have e : fv .f64 z / fv .f64 y = 0 := by rw [hz.2, Rat.div_def, Rat.zero_mul]
  obtain ⟨k, r⟩ := fbin_quo hz.1 hy h0 (by rw [e]; exact ht) (by rw [e]; grind)
  rw [e] at r
  exact ⟨k, r.num, r.exact rep0⟩
theorem nanW_num {x : Nat} (h : fnum .f64 x) : nanW x = false := by
  obtain ⟨s, m, p, hr⟩ := h
  unfold nanW FloatKind.decode
  rw [hr]
  rfl
theorem geqW_of {x y : Nat} (hx : fnum .f64 x) (hy : fnum .f64 y) (h : fv .f64 y ≤ fv .f64 x) : geqW x y = true := by
  obtain ⟨o1, o2, o3, o4⟩ := order_val hx hy
  unfold geqW
  by_cases e : fv .f64 x = fv .f64 y
  · rw [o2.2 e]; rfl
  · have : FloatKind.f64.format.order x y = some .gt := o3.2 (by
      refine Rat.not_le.1 fun hle => e ?_
      exact Rat.le_antisymm hle h)
    rw [this]; rfl
theorem i2f_n {n : Nat} (h1 : 1 ≤ n) (h2 : n ≤ 4096) : fnum .f64 (i2f n) ∧ fv .f64 (i2f n) = (n : Rat) := by
  have := i2f_ap (n := (n : Int)) (by omega) (by omega)
  rw [Rat.intCast_natCast] at this
  exact this
/-- A complex number divided by how many there are. -/
theorem cq_near {n : Nat} (h1 : 1 ≤ n) (h2 : n ≤ 4096) {y : Nat × Nat} {z : Cx} {d C : Rat} (hy : CAp y (Cx.smul (n : Rat) z) d) (hz : Cx.Wi z C) (hC : 5000 * (C + d) ≤ GG) :
    cqOk y.1 y.2 (i2f n) 0 ∧ CAp (bkP n y) z (d + 3 * dl (5000 * (C + d))) := by
  obtain ⟨n1, n2⟩ := i2f_n h1 h2
  have q1 : (1 : Rat) ≤ (n : Rat) := Rat.natCast_le_natCast.2 h1
  have q2 : (n : Rat) ≤ 4096 := Rat.natCast_le_natCast.2 h2
  have hv0 : fv .f64 (i2f n) ≠ 0 := by rw [n2]; exact Rat.ne_of_gt (by grind)
  have C0 := hz.pos
  have d0 := hy.re.pos
  have hz0 := zero_val
  obtain ⟨m1, m2, m3⟩ := absW_num n1
  rw [absW_eq] at m1 m2 m3
  have mz : magW 0 = 0 := by decide
  have g0 : geqW (magW (i2f n)) (magW 0) = true := by
    rw [mz]
    refine geqW_of m1 hz0.1 ?_
    rw [hz0.2]; exact m2
  obtain ⟨a1, a2, a3⟩ := quo_zero_w hz0 n1 hv0
  obtain ⟨b1, b2, b3⟩ := mul_zero_w a2 hz0
  -- the divisor
  have ad : fok .add .f64 (i2f n) (fbin .mul .f64 (cqR (i2f n) 0) 0) = true ∧ fnum .f64 (cqD (i2f n) 0) ∧ fv .f64 (cqD (i2f n) 0) = (n : Rat) := by
    have e : fv .f64 (i2f n) + fv .f64 (fbin .mul .f64 (cqR (i2f n) 0) 0) = (n : Rat) := by
      show fv .f64 (i2f n) + fv .f64 (fbin .mul .f64 (fbin .quo .f64 0 (i2f n)) 0) = _
      rw [b3, n2]; grind
    have ht := tp_ge .f64
    obtain ⟨k, r⟩ := fbin_add n1 b2 (by show fv .f64 (i2f n) + fv .f64 (fbin .mul .f64 (cqR (i2f n) 0) 0) < _; rw [e]; grind) (by show _ < fv .f64 (i2f n) + fv .f64 (fbin .mul .f64 (cqR (i2f n) 0) 0); rw [e]; grind)
    have r' : Rnd FloatKind.f64.format (cqD (i2f n) 0) (n : Rat) := by rw [← e]; exact r
    exact ⟨k, r'.num, r'.exact (rep_nat (k := .f64) (by omega))⟩
  obtain ⟨c1, c2, c3⟩ := ad
  -- bounds of n z
  have w1 := rmul_le (a := (n : Rat)) (b := z.re) (A := 4096) (B := C) (by grind) C0 q2 (by grind) hz.r1 hz.r2
  have w2 := rmul_le (a := (n : Rat)) (b := z.im) (A := 4096) (B := C) (by grind) C0 q2 (by grind) hz.i1 hz.i2
  have part : ∀ {a b : Nat} {u : Rat}, Ap a ((n : Rat) * u) d → fnum .f64 b → (n : Rat) * u ≤ 4096 * C → -(4096 * C) ≤ (n : Rat) * u → ∀ op : BinOp, (op = .add ∨ op = .sub) →
      fok .mul .f64 b (cqR (i2f n) 0) = true ∧ fok op .f64 a (fbin .mul .f64 b (cqR (i2f n) 0)) = true ∧ fok .quo .f64 (fbin op .f64 a (fbin .mul .f64 b (cqR (i2f n) 0))) (cqD (i2f n) 0) = true ∧
      Ap (fbin .quo .f64 (fbin op .f64 a (fbin .mul .f64 b (cqR (i2f n) 0))) (cqD (i2f n) 0)) u (d + 3 * dl (5000 * (C + d))) := fun {a b u} ha hb u1 u2 op hop => by
    obtain ⟨k1, k2, k3⟩ := mul_zero_w hb (z := cqR (i2f n) 0) ⟨a2, a3⟩
    have hd : dl (4500 * (C + d)) ≤ dl (5000 * (C + d)) := by unfold dl; grind
    have hd2 : dl (5000 * (C + d)) ≤ 1 / 1000000000000 * (C + d) + 1 / 1000000000000000000000000000000 := by unfold dl; grind
    have hd0 : 0 ≤ dl (5000 * (C + d)) := by unfold dl; grind
    have sum : fok op .f64 a (fbin .mul .f64 b (cqR (i2f n) 0)) = true ∧ Ap (fbin op .f64 a (fbin .mul .f64 b (cqR (i2f n) 0))) ((n : Rat) * u) (d + dl (5000 * (C + d))) := by
      have hzz : Ap (fbin .mul .f64 b (cqR (i2f n) 0)) 0 0 := .of ⟨k2, k3⟩
      rcases hop with rfl | rfl
      · obtain ⟨s1, s2⟩ := ha.add hzz (4500 * (C + d)) (by grind) (by grind) (tp_GG _ (by grind))
        exact ⟨s1, (s2.mv (v' := (n : Rat) * u) (d := 0) (by grind) (by grind)).le (by grind)⟩
      · obtain ⟨s1, s2⟩ := ha.sub hzz (4500 * (C + d)) (by grind) (by grind) (tp_GG _ (by grind))
        exact ⟨s1, (s2.mv (v' := (n : Rat) * u) (d := 0) (by grind) (by grind)).le (by grind)⟩
    obtain ⟨s1, s2⟩ := sum
    have hgg : (1 : Rat) ≤ GG := by unfold GG; decide +kernel
    obtain ⟨t1, t2⟩ := s2.quo ⟨c2, c3⟩ q1 (4500 * (C + d) + 1 / 1000000000000000000000000000000) (by grind) (by grind) (tp_GG _ (by grind))
    have e : (n : Rat) * u / (n : Rat) = u := by
      rw [Rat.div_def, Rat.mul_comm (n : Rat) u, Rat.mul_assoc, Rat.mul_inv_cancel _ (Rat.ne_of_gt (by grind)), Rat.mul_one]
    rw [e] at t2
    refine ⟨k1, s1, t1, t2.le ?_⟩
    unfold dl
    grind
  obtain ⟨p1, p2, p3, p4⟩ := part hy.re hy.im.num w1.1 w1.2 .add (.inl rfl)
  obtain ⟨r1, r2, r3, r4⟩ := part hy.im hy.re.num w2.1 w2.2 .sub (.inr rfl)
  exact ⟨⟨g0, a1, b1, c1, p1, p2, p3, r1, r2, r3, nanW_num p4.num⟩, p4, r4⟩
/-- Words, as numbers. -/
def vC (N : Nat) (Y : Nat → Nat × Nat) (j : Nat) : Cx := if j < N then ⟨fv .f64 (Y j).1, fv .f64 (Y j).2⟩ else Cx.zero
theorem tr_words {way : Int} (hw : way = 1 ∨ way = -1) {p : Nat} (hp : p ≤ 12) {X : Nat → Nat × Nat} {m : Nat → Rat} (hX : ∀ j, j < 2 ^ p → fnum .f64 (X j).1 ∧ fnum .f64 (X j).2) (hx : ∀ j, Cx.Wi (vC (2 ^ p) X j) (m j)) (hm : ∀ j, m j ≤ HH) :
    okTr way p X ∧ ∀ k, k < 2 ^ p → CAp (trY way p X k) (dft way (vC (2 ^ p) X) p (k : Nat)) ((2 / 10000000000 : Rat) * RS m (2 ^ p) + (1 / 10000000000 : Rat)) :=
  tr_near hw hp (fun j hj => by
    unfold vC
    rw [if_pos hj]
    exact ⟨Ap.self (hX j hj).1, Ap.self (hX j hj).2⟩) hx fun j => hm j
theorem vC_wi {N : Nat} {Y : Nat → Nat × Nat} {z : Nat → Cx} {e C : Rat} (h : ∀ j, j < N → CAp (Y j) (z j) e) (hz : ∀ j, Cx.Wi (z j) C) (he : 0 ≤ C + e) (j : Nat) : Cx.Wi (vC N Y j) (C + e) := by
  unfold vC
  split
  · rename_i hj
    obtain ⟨a, b⟩ := h j hj
    obtain ⟨h1, h2, h3, h4⟩ := hz j
    have := a.hi; have := a.lo; have := b.hi; have := b.lo
    exact ⟨by show fv .f64 (Y j).1 ≤ _; grind, by show _ ≤ fv .f64 (Y j).1; grind, by show fv .f64 (Y j).2 ≤ _; grind, by show _ ≤ fv .f64 (Y j).2; grind⟩
  · exact ⟨he, by show _ ≤ (0 : Rat); grind, he, by show _ ≤ (0 : Rat); grind⟩
theorem dft_close {way : Int} {x y : Nat → Cx} {d : Rat} {p : Nat} (h : ∀ j, j < 2 ^ p → Cx.Wi (Cx.sub (x j) (y j)) d) (k : Int) : Cx.Wi (Cx.sub (dft way x p k) (dft way y p k)) (((2 ^ p : Nat) : Rat) * (2 * d)) := by
  unfold dft
  rw [Cx.sub_sum]
  have := Cx.sum_wi (T := fun i : Nat => Cx.sub (Cx.mul (x i) (U4 (way * i * k * exs p))) (Cx.mul (y i) (U4 (way * i * k * exs p)))) (D := fun _ => 2 * d) (2 ^ p) fun i hi => by
    have h2 := (h i hi).mul (U4_wi (way * i * k * exs p))
    have e : ∀ a b c : Cx, Cx.sub (Cx.mul a c) (Cx.mul b c) = Cx.mul (Cx.sub a b) c := fun a b c => Cx.ext' (by simp only [Cx.sub, Cx.mul]; grind) (by simp only [Cx.sub, Cx.mul]; grind)
    rw [e]
    exact h2.le (by grind)
  rw [RS_const] at this
  exact this
theorem vC_sub {N : Nat} {Y : Nat → Nat × Nat} {z : Nat → Cx} {e : Rat} (h : ∀ j, j < N → CAp (Y j) (z j) e) (j : Nat) (hj : j < N) : Cx.Wi (Cx.sub (vC N Y j) (z j)) e := by
  unfold vC
  rw [if_pos hj]
  obtain ⟨a, b⟩ := h j hj
  have := a.hi; have := a.lo; have := b.hi; have := b.lo
  exact ⟨by simp only [Cx.sub]; grind, by simp only [Cx.sub]; grind, by simp only [Cx.sub]; grind, by simp only [Cx.sub]; grind⟩
theorem cap_mv {x : Nat × Nat} {z z' : Cx} {e d : Rat} (h : CAp x z e) (hd : Cx.Wi (Cx.sub z z') d) : CAp x z' (e + d) := h.mv hd
theorem dft_smul {way : Int} (r : Rat) (x : Nat → Cx) (p : Nat) (k : Int) : dft way (fun j => Cx.smul r (x j)) p k = Cx.smul r (dft way x p k) := by
  unfold dft
  have : ∀ a : Cx, Cx.smul r a = Cx.mul ⟨r, 0⟩ a := fun a => Cx.ext' (by simp only [Cx.smul, Cx.mul]; grind) (by simp only [Cx.smul, Cx.mul]; grind)
  rw [this, ← Cx.sum_mul]
  exact Cx.sum_congr _ fun i _ => by show Cx.mul (Cx.smul r (x i)) _ = _; rw [this, Cx.mul_assoc]
/-! ### the list of the laws -/
theorem BB_HH : 100000 * BB ≤ HH := by unfold BB HH; decide +kernel
def qN (m : Nat) : Rat := ((nF m : Nat) : Rat)
def MW (m : Nat) (x : Nat → Nat) : Rat := SW m x (nF m)
def xV (m : Nat) (x : Nat → Nat) : Nat → Cx := vC (nF m) (XW m x)
def mX (m : Nat) (x : Nat → Nat) (j : Nat) : Rat := if j < nF m then aW m x (2 * j) + aW m x (2 * j + 1) else 0
def e1M (M : Rat) : Rat := 2 / 10000000000 * M + 1 / 10000000000
theorem nF_bd (m : Nat) : pFit m ≤ 12 ∧ 1 ≤ nF m ∧ nF m ≤ 2048 ∧ nF m = 2 ^ pFit m ∧ (nF m).log2 = pFit m := by
  obtain ⟨h1, h2, h3, _, _⟩ := pFit_bd m
  exact ⟨by omega, h3, h2, rfl, Nat.log2_two_pow⟩
theorem qN_bd (m : Nat) : 1 ≤ qN m ∧ qN m ≤ 2048 := by
  obtain ⟨_, h1, h2, _, _⟩ := nF_bd m
  exact ⟨Rat.natCast_le_natCast.2 h1, Rat.natCast_le_natCast.2 h2⟩
theorem MW_bd (m : Nat) (x : Nat → Nat) : 0 ≤ MW m x ∧ MW m x ≤ 8192 * BB ∧ MW m x ≤ qN m * MW m x ∧ qN m * MW m x ≤ 2048 * MW m x := by
  obtain ⟨_, h1, h2, _, _⟩ := nF_bd m
  obtain ⟨a, b⟩ := SW_bd m x (n := nF m) (by omega)
  obtain ⟨c, d⟩ := qN_bd m
  have e := Rat.mul_le_mul_of_nonneg_right c a
  have f := Rat.mul_le_mul_of_nonneg_right d a
  unfold MW
  exact ⟨a, b, by grind, f⟩
theorem mX_sum (m : Nat) (x : Nat → Nat) : RS (mX m x) (nF m) = MW m x := by
  unfold MW SW
  rw [RS_two, ← RS_add]
  exact RS_congr _ fun j hj => by unfold mX; rw [if_pos hj]
theorem mX_le (m : Nat) (x : Nat → Nat) (j : Nat) : 0 ≤ mX m x j ∧ mX m x j ≤ MW m x ∧ mX m x j ≤ HH := by
  have h0 : ∀ j, 0 ≤ mX m x j := fun j => by
    unfold mX
    have := aW0 m x (2 * j); have := aW0 m x (2 * j + 1)
    split <;> grind
  obtain ⟨M0, M1, _⟩ := MW_bd m x
  have hB := BB_HH
  have hb : (0 : Rat) ≤ BB := by unfold BB; decide +kernel
  have h1 : mX m x j ≤ MW m x := by
    by_cases hj : j < nF m
    · rw [← mX_sum]; exact RS_mem h0 hj
    · unfold mX; rw [if_neg hj]; exact M0
  exact ⟨h0 j, h1, by grind⟩
theorem xV_wi (m : Nat) (x : Nat → Nat) (j : Nat) : Cx.Wi (xV m x j) (mX m x j) := by
  unfold xV vC mX
  split
  · obtain ⟨a0, a1, a2⟩ := ab_bd (fv .f64 (gW m x (2 * j)))
    obtain ⟨b0, b1, b2⟩ := ab_bd (fv .f64 (gW m x (2 * j + 1)))
    unfold aW
    exact ⟨by show fv .f64 (gW m x (2 * j)) ≤ _; grind, by show _ ≤ fv .f64 (gW m x (2 * j)); grind, by show fv .f64 (gW m x (2 * j + 1)) ≤ _; grind, by show _ ≤ fv .f64 (gW m x (2 * j + 1)); grind⟩
  · exact ⟨Rat.le_refl, by show _ ≤ (0 : Rat); grind, Rat.le_refl, by show _ ≤ (0 : Rat); grind⟩
theorem XW_num (m : Nat) (x : Nat → Nat) (j : Nat) : fnum .f64 (XW m x j).1 ∧ fnum .f64 (XW m x j).2 := ⟨(gW_tm m x _).1, (gW_tm m x _).1⟩
theorem trX {way : Int} (hw : way = 1 ∨ way = -1) (m : Nat) (x : Nat → Nat) : okTr way (pFit m) (XW m x) ∧ ∀ k, k < nF m → CAp (trY way (nF m).log2 (XW m x) k) (dft way (xV m x) (pFit m) (k : Nat)) (e1M (MW m x)) := by
  obtain ⟨h1, h2, h3, h4, h5⟩ := nF_bd m
  obtain ⟨a, b⟩ := tr_words hw h1 (X := XW m x) (m := mX m x) (fun j _ => XW_num m x j) (xV_wi m x) (fun j => (mX_le m x j).2.2)
  refine ⟨a, fun k hk => ?_⟩
  rw [h5]
  have := b k hk
  rw [show RS (mX m x) (2 ^ pFit m) = MW m x from mX_sum m x] at this
  exact this
theorem okP_X (m : Nat) (x : Nat → Nat) : okP 1 (nF m) (nF m) (fX (XW m x)) := by
  obtain ⟨h1, h2, h3, h4, h5⟩ := nF_bd m
  exact ⟨⟨pFit m, h1, rfl, (trX (.inl rfl) m x).1⟩, .inl rfl, Nat.le_refl _, fun k _ => rfl⟩
/-- The bound. -/
theorem sW_near (m : Nat) (x : Nat → Nat) : Ap (sW m x (nF m)) (MW m x) (1 / 100000000 * MW m x + 1 / 100000000000000000000) := by
  obtain ⟨_, h1, h2, _, _⟩ := nF_bd m
  exact (sW_ok m x (n := nF m) (by omega)).2
theorem bd1_ok (m : Nat) (x : Nat → Nat) : fok .add .f64 kOne (sW m x (nF m)) = true ∧ fok .mul .f64 c8 (s1W m x) = true ∧ Ap (fbin .mul .f64 c8 (s1W m x)) (1 / 100000000 * (1 + MW m x)) (1 / 1000000000000000 * (1 + MW m x)) := by
  obtain ⟨M0, M1, _⟩ := MW_bd m x
  have hg := BB3_GG
  have hg2 : (1000000000000 : Rat) ≤ GG := by unfold GG; decide +kernel
  have a := sW_near m x
  generalize MW m x = M at *
  obtain ⟨k1, b⟩ := one_ap.add a (2 * M + 2) (by grind) (by grind) (tp_GG _ (by grind))
  have b' : Ap (s1W m x) (1 + M) (2 / 100000000 * (1 + M)) := b.le (by unfold dl; grind)
  obtain ⟨k2, c⟩ := w1e8_ap.mul b' (U := 1 / 100000000) (V := 1 + M) (by grind) (by grind) (by grind) (by grind) (1 + M) (by grind) (tp_GG _ (by grind))
  refine ⟨k1, k2, c.le ?_⟩
  unfold dl
  grind
theorem bdW_ok (m : Nat) (x : Nat → Nat) : (∀ r, r → obB3 m x r) ∧ fnum .f64 (bdW m x) ∧ 98 / 10000000000 * (qN m * (1 + MW m x)) ≤ fv .f64 (bdW m x) := by
  obtain ⟨_, h1, h2, _, _⟩ := nF_bd m
  obtain ⟨n1, n2⟩ := i2f_n h1 (by omega)
  obtain ⟨k1, k2, c⟩ := bd1_ok m x
  obtain ⟨M0, M1, M2, M3⟩ := MW_bd m x
  obtain ⟨q1, q2⟩ := qN_bd m
  have hg := BB3_GG
  have hg2 : (1000000000000 : Rat) ≤ GG := by unfold GG; decide +kernel
  have e : (1 / 100000000 : Rat) * (1 + MW m x) * ((nF m : Nat) : Rat) = 1 / 100000000 * (qN m * (1 + MW m x)) := by unfold qN; grind
  obtain ⟨k3, d⟩ := c.mul (Ap.of ⟨n1, n2⟩) (U := 1 / 100000000 * (1 + MW m x)) (V := qN m) (by grind) (by grind) Rat.le_refl (by show -qN m ≤ qN m; grind) (2 * (1 + MW m x) * qN m) (by grind) (tp_GG _ (by grind))
  refine ⟨fun r hr => ⟨k1, k2, k3, hr⟩, d.num, ?_⟩
  have := d.lo
  have e2 : fv .f64 (bdW m x) = fv .f64 (fbin .mul .f64 (fbin .mul .f64 c8 (s1W m x)) (i2f (nF m))) := rfl
  have e3 : fv .f64 (fbin .mul .f64 c8 (s1W m x)) * 1 = fv .f64 (fbin .mul .f64 c8 (s1W m x)) := Rat.mul_one _
  rw [e] at this
  rw [e2]
  unfold dl at this
  grind
theorem near_wi2 {b : Nat} {y w : Nat × Nat} {z : Cx} {e c : Rat} (h : CAp y z e) (hw : CAp w z 0) (hb : fnum .f64 b) (hc : e ≤ c) (hg : c ≤ GG) (hbc : c + dl c ≤ fv .f64 b) : wi2 b y.1 w.1 ∧ wi2 b y.2 w.2 := by
  have e0 := h.re.pos
  exact ⟨within_ok (B := 0) h.re hw.re hb c (by grind) (by grind) (tp_GG _ hg) hbc, within_ok (B := 0) h.im hw.im hb c (by grind) (by grind) (tp_GG _ hg) hbc⟩
theorem X_self (m : Nat) (x : Nat → Nat) {j : Nat} (hj : j < nF m) : CAp (XW m x j) (xV m x j) 0 := by
  unfold xV vC
  rw [if_pos hj]
  exact ⟨Ap.self (XW_num m x j).1, Ap.self (XW_num m x j).2⟩
/-- There, and back. -/
theorem there_ok (m : Nat) (x : Nat → Nat) : okBk (nF m) (thF m (XW m x)) ∧ ∀ k, k < nF m → wi2 (bdW m x) (bckY (nF m) (thF m (XW m x)) k).1 (XW m x k).1 ∧ wi2 (bdW m x) (bckY (nF m) (thF m (XW m x)) k).2 (XW m x k).2 := by
  obtain ⟨h1, h2, h3, h4, h5⟩ := nF_bd m
  obtain ⟨M0, M1, M2, M3⟩ := MW_bd m x
  obtain ⟨q1, q2⟩ := qN_bd m
  obtain ⟨_, hF⟩ := trX (way := 1) (.inl rfl) m x
  have hF' : ∀ k, k < 2 ^ pFit m → CAp (thF m (XW m x) k) (dft 1 (xV m x) (pFit m) (k : Nat)) (e1M (MW m x)) := hF
  have hY : ∀ k : Nat, Cx.Wi (dft 1 (xV m x) (pFit m) (k : Nat)) (2 * MW m x) := fun k => by
    have := dft_wi (way := 1) (xV_wi m x) (pFit m) (k : Nat)
    rw [show RS (mX m x) (2 ^ pFit m) = MW m x from mX_sum m x] at this
    exact this
  have hg := BB3_GG
  have hg2 : (1000000000000 : Rat) ≤ GG := by unfold GG; decide +kernel
  have hB := BB_HH
  have hb1 : (1 : Rat) ≤ BB := by unfold BB; decide +kernel
  have ht : ∀ k, k < nF m → CAp (trY (-1) (pFit m) (thF m (XW m x)) k) (Cx.smul (qN m) (xV m x k)) (9 / 10000000000 * (qN m * MW m x) + 4 / 10000000000 * qN m) ∧ okTr (-1) (pFit m) (thF m (XW m x)) := fun k hk => by
    obtain ⟨t1, t2⟩ := tr_words (way := -1) (.inr rfl) h1 (X := thF m (XW m x)) (m := fun _ => 2 * MW m x + e1M (MW m x)) (fun j hj => ⟨(hF' j hj).re.num, (hF' j hj).im.num⟩) (vC_wi hF' hY (by unfold e1M; grind)) (fun j => by unfold e1M; grind)
    have a := t2 k hk
    rw [RS_const] at a
    have b := cap_mv a (dft_close (fun j hj => vC_sub hF' j hj) k)
    have c := there (way := 1) (.inl rfl) h1 (xV_wi m x) hk
    rw [show RS (mX m x) (2 ^ pFit m) = MW m x from mX_sum m x] at c
    have d := cap_mv b c
    have eq : ((2 ^ pFit m : Nat) : Rat) = qN m := rfl
    rw [eq] at d
    refine ⟨d.le ?_, t1⟩
    have hio : io ≤ 1 / 100000000000000000000 := by unfold io; decide +kernel
    have hm := Rat.mul_le_mul_of_nonneg_right hio (show 0 ≤ qN m * MW m x by grind)
    unfold e1M
    grind
  have hC : 5000 * (MW m x + (9 / 10000000000 * (qN m * MW m x) + 4 / 10000000000 * qN m)) ≤ GG := by grind
  have hq : ∀ k, k < nF m → cqOk (trY (-1) (nF m).log2 (thF m (XW m x)) k).1 (trY (-1) (nF m).log2 (thF m (XW m x)) k).2 (i2f (nF m)) 0 ∧ CAp (bckY (nF m) (thF m (XW m x)) k) (xV m x k) (9 / 10000000000 * (qN m * MW m x) + 4 / 10000000000 * qN m + 3 * dl (5000 * (MW m x + (9 / 10000000000 * (qN m * MW m x) + 4 / 10000000000 * qN m)))) := fun k hk => by
    unfold bckY
    rw [h5]
    exact cq_near h2 (by omega) (ht k hk).1 ((xV_wi m x k).le (mX_le m x k).2.1) hC
  obtain ⟨_, b1, b2⟩ := bdW_ok m x
  refine ⟨⟨⟨pFit m, h1, rfl, (ht 0 (by omega)).2⟩, fun k hk => (hq k hk).1⟩, fun k hk => near_wi2 (hq k hk).2 (X_self m x hk) b1 (c := 96 / 10000000000 * (qN m * (1 + MW m x))) ?_ ?_ ?_⟩
  · unfold dl; grind
  · grind
  · unfold dl; grind
theorem smul_smul (a b : Rat) (z : Cx) (h : a * b = 1) : Cx.smul a (Cx.smul b z) = z := by
  refine Cx.ext' ?_ ?_
  · show a * (b * z.re) = z.re
    rw [← Rat.mul_assoc, h, Rat.one_mul]
  · show a * (b * z.im) = z.im
    rw [← Rat.mul_assoc, h, Rat.one_mul]
theorem smul_wi {r : Rat} (h0 : 0 ≤ r) (h1 : r ≤ 1) {z : Cx} {e : Rat} (h : Cx.Wi z e) : Cx.Wi (Cx.smul r z) e := by
  have e0 := h.pos
  have a := rmul_le (a := r) (b := z.re) (A := 1) (B := e) (by grind) e0 h1 (by grind) h.r1 h.r2
  have b := rmul_le (a := r) (b := z.im) (A := 1) (B := e) (by grind) e0 h1 (by grind) h.i1 h.i2
  exact ⟨by show r * z.re ≤ _; grind, by show _ ≤ r * z.re; grind, by show r * z.im ≤ _; grind, by show _ ≤ r * z.im; grind⟩
/-- Back, and there. -/
theorem back_ok (m : Nat) (x : Nat → Nat) : okBk (nF m) (XW m x) ∧ okP 1 (nF m) (nF m) (fX (bckY (nF m) (XW m x))) ∧ ∀ k, k < nF m → wi2 (bdW m x) (thF m (bckY (nF m) (XW m x)) k).1 (XW m x k).1 ∧ wi2 (bdW m x) (thF m (bckY (nF m) (XW m x)) k).2 (XW m x k).2 := by
  obtain ⟨h1, h2, h3, h4, h5⟩ := nF_bd m
  obtain ⟨M0, M1, M2, M3⟩ := MW_bd m x
  obtain ⟨q1, q2⟩ := qN_bd m
  obtain ⟨hT0, hT⟩ := trX (way := -1) (.inr rfl) m x
  have hY : ∀ k : Nat, Cx.Wi (dft (-1) (xV m x) (pFit m) (k : Nat)) (2 * MW m x) := fun k => by
    have := dft_wi (way := -1) (xV_wi m x) (pFit m) (k : Nat)
    rw [show RS (mX m x) (2 ^ pFit m) = MW m x from mX_sum m x] at this
    exact this
  have hg := BB3_GG
  have hg2 : (1000000000000 : Rat) ≤ GG := by unfold GG; decide +kernel
  have hB := BB_HH
  have hb1 : (1 : Rat) ≤ BB := by unfold BB; decide +kernel
  have qi : qN m * (qN m)⁻¹ = 1 := Rat.mul_inv_cancel _ (Rat.ne_of_gt (by grind))
  have qi2 : (qN m)⁻¹ * qN m = 1 := Rat.inv_mul_cancel _ (Rat.ne_of_gt (by grind))
  have qi0 : 0 ≤ (qN m)⁻¹ := Rat.le_of_lt (Rat.inv_pos.2 (by grind))
  have qi1 : (qN m)⁻¹ ≤ 1 := by
    have := Rat.mul_le_mul_of_nonneg_right q1 qi0
    grind
  have hz : ∀ k : Nat, Cx.Wi (Cx.smul (qN m)⁻¹ (dft (-1) (xV m x) (pFit m) (k : Nat))) (2 * MW m x) := fun k => smul_wi qi0 qi1 (hY k)
  have hC : 5000 * (2 * MW m x + e1M (MW m x)) ≤ GG := by unfold e1M; grind
  have hq : ∀ k, k < nF m → cqOk (trY (-1) (nF m).log2 (XW m x) k).1 (trY (-1) (nF m).log2 (XW m x) k).2 (i2f (nF m)) 0 ∧ CAp (bckY (nF m) (XW m x) k) (Cx.smul (qN m)⁻¹ (dft (-1) (xV m x) (pFit m) (k : Nat))) (3 / 10000000000 * MW m x + 2 / 10000000000) := fun k hk => by
    have a := hT k hk
    rw [← smul_smul (qN m) (qN m)⁻¹ (dft (-1) (xV m x) (pFit m) (k : Nat)) qi] at a
    obtain ⟨c1, c2⟩ := cq_near h2 (by omega) a (hz k) hC
    exact ⟨c1, c2.le (by unfold dl e1M; grind)⟩
  have hq' : ∀ k, k < 2 ^ pFit m → CAp (bckY (nF m) (XW m x) k) (Cx.smul (qN m)⁻¹ (dft (-1) (xV m x) (pFit m) (k : Nat))) (3 / 10000000000 * MW m x + 2 / 10000000000) := fun k hk => (hq k hk).2
  obtain ⟨t1, t2⟩ := tr_words (way := 1) (.inl rfl) h1 (X := bckY (nF m) (XW m x)) (m := fun _ => 2 * MW m x + (3 / 10000000000 * MW m x + 2 / 10000000000)) (fun j hj => ⟨(hq' j hj).re.num, (hq' j hj).im.num⟩) (vC_wi hq' hz (by grind)) (fun j => by grind)
  obtain ⟨_, b1, b2⟩ := bdW_ok m x
  refine ⟨⟨⟨pFit m, h1, rfl, hT0⟩, fun k hk => (hq k hk).1⟩, ⟨⟨pFit m, h1, rfl, t1⟩, .inl rfl, Nat.le_refl _, fun k _ => rfl⟩, fun k hk => ?_⟩
  have a := t2 k hk
  rw [RS_const] at a
  have b := cap_mv a (dft_close (fun j hj => vC_sub hq' j hj) k)
  have c := there (way := -1) (.inr rfl) h1 (xV_wi m x) hk
  rw [show (-(-1) : Int) = 1 from rfl, show RS (mX m x) (2 ^ pFit m) = MW m x from mX_sum m x] at c
  have eq : ((2 ^ pFit m : Nat) : Rat) = qN m := rfl
  rw [eq] at c b
  have c2 := smul_wi qi0 qi1 c
  have es : Cx.smul (qN m)⁻¹ (Cx.sub (dft 1 (fun k => dft (-1) (xV m x) (pFit m) (k : Nat)) (pFit m) (k : Nat)) (Cx.smul (qN m) (xV m x k))) = Cx.sub (dft 1 (fun j => Cx.smul (qN m)⁻¹ (dft (-1) (xV m x) (pFit m) (j : Nat))) (pFit m) (k : Nat)) (xV m x k) := by
    rw [dft_smul]
    have := smul_smul (qN m)⁻¹ (qN m) (xV m x k) qi2
    conv => rhs; rw [← this]
    exact Cx.ext' (by simp only [Cx.smul, Cx.sub]; grind) (by simp only [Cx.smul, Cx.sub]; grind)
  rw [es] at c2
  have d := cap_mv b c2
  have hd : CAp (thF m (bckY (nF m) (XW m x)) k) (xV m x k) (2 / 1000000000 * (qN m * (1 + MW m x))) := by
    unfold thF
    rw [h5]
    refine d.le ?_
    have hio : io ≤ 1 / 100000000000000000000 := by unfold io; decide +kernel
    have hm := Rat.mul_le_mul_of_nonneg_right hio (show 0 ≤ qN m * MW m x by grind)
    grind
  exact near_wi2 hd (X_self m x hk) b1 (c := 96 / 10000000000 * (qN m * (1 + MW m x))) (by grind) (by grind) (by unfold dl; grind)
end Go.Proofs.YthddkcoflnbjbaaDoor
