/-
  What is proved here: the run of wave.Cosines. wave.Cosines in floats is near sums with closed weights. A text to be imported.
-/
import Derived.Test.YthddkcoflnbjbaaDoorCon12
import Derived.Test.YthddkcoflnbjbaaDoorLaw13
import Derived.Test.YthddkcoflnbjbaaDoorCon15
namespace Go.Proofs.YthddkcoflnbjbaaDoor
open Sm Go Go.RowKit Fl Ieee
set_option maxRecDepth 1000000
set_option linter.unusedVariables false
def aF (x : Nat → Nat) : AV := .agg [FC (x 0), FC (x 1), FC (x 2), FC (x 3), FC (x 4), FC (x 5), FC (x 6), FC (x 7)]
def LB (x : Nat → Nat) : List C1 := [.sc (.complex .f64 (x 0) 0) false, .sc (.complex .f64 (x 1) 0) false, .sc (.complex .f64 (x 2) 0) false, .sc (.complex .f64 (x 3) 0) false, .sc (.complex .f64 (x 4) 0) false, .sc (.complex .f64 (x 5) 0) false, .sc (.complex .f64 (x 6) 0) false, .sc (.complex .f64 (x 7) 0) false, .sc (.complex .f64 (x 7) 0) false, .sc (.complex .f64 (x 6) 0) false, .sc (.complex .f64 (x 5) 0) false, .sc (.complex .f64 (x 4) 0) false, .sc (.complex .f64 (x 3) 0) false, .sc (.complex .f64 (x 2) 0) false, .sc (.complex .f64 (x 1) 0) false, .sc (.complex .f64 (x 0) 0) false]
def fB (x : Nat → Nat) (k : Nat) : List C1 := [normC ((LB x).getD k .em)]
def YB (x : Nat → Nat) : Nat → Nat × Nat := trY 1 4 (ofC (fB x))
def tu (k : Int) : Nat × Nat := turnP k 32
def four : Nat := 4616189618054758400
def rt2 : Nat := 4609047870845172685
def reB (x : Nat → Nat) (k : Nat) : Nat := cmRe (YB x k).1 (YB x k).2 (tu k).1 (tu k).2
def cB1 (x : Nat → Nat) (k : Nat) : Nat := fbin .quo .f64 (reB x k) four
def cosB (x : Nat → Nat) (k : Nat) : Nat := match k with
  | 0 => fbin .quo .f64 (cB1 x 0) rt2
  | k + 1 => cB1 x (k + 1)
def okB (x : Nat → Nat) (k : Nat) (r : Prop) : Prop := decide ((k : Int) < 8) = true ∧ (0 ≤ (k : Int) ∧ (k : Int) < 8) ∧ k < 16 ∧ cmOk (YB x k).1 (YB x k).2 (tu k).1 (tu k).2 ∧ fok .quo .f64 (reB x k) four = true ∧ r
theorem run24 (x : Nat → Nat) (u : Value) : runK Tryd.prog T FD0 900 Tryd.f24 [aF x] [] [.b true, .b true, .b true, .b true, .b true, .b true, .b true, .b true, .b false] (fun r _ => resW r = some u) =
  ((0 ≤ (16 : Int) ∧ (16 : Int) ≤ 16 ∧ (16 : Int) * 16 ≤ 281474976710656 ∧ (16 : Int) ≤ 9223372036854775807) ∧ ((True ∧ True ∧ True) ∧ okP 1 16 16 (fB x)) ∧ (0 ≤ (0 : Int) ∧ (0 : Int) ≤ 8 ∧ (8 : Int) ≤ 16 ∧ ((0 : Int) < 16 ∨ (0 : Int) = 0)) ∧
   okB x 0 (okB x 1 (okB x 2 (okB x 3 (okB x 4 (okB x 5 (okB x 6 (okB x 7 ( decide ((8 : Int) < 8) = false ∧ fok .quo .f64 (cB1 x 0) rt2 = true ∧ some (Value.agg #[.float .f64 (cosB x 0), .float .f64 (cosB x 1), .float .f64 (cosB x 2), .float .f64 (cosB x 3), .float .f64 (cosB x 4), .float .f64 (cosB x 5), .float .f64 (cosB x 6), .float .f64 (cosB x 7)]) = some u))))))))) := by kernel_rfl
def okCos (x : Nat → Nat) : Prop := okTr 1 4 (ofC (fB x)) ∧ (∀ k, k < 8 → cmOk (YB x k).1 (YB x k).2 (tu k).1 (tu k).2 ∧ fok .quo .f64 (reB x k) four = true) ∧ fok .quo .f64 (cB1 x 0) rt2 = true
def cosA (x : Nat → Nat) : Value := .agg #[.float .f64 (cosB x 0), .float .f64 (cosB x 1), .float .f64 (cosB x 2), .float .f64 (cosB x 3), .float .f64 (cosB x 4), .float .f64 (cosB x 5), .float .f64 (cosB x 6), .float .f64 (cosB x 7)]
def GCosn : List ArgV → Option (Prop × Value)
  | [.val (.agg a)] => fltsK .f64 a.toList fun xs => if xs.length = 8 then some (okCos (xs.getD · 0), cosA (xs.getD · 0)) else none
  | _ => none
theorem fB_fX (x : Nat → Nat) : ∀ k, k < 16 → fB x k = fX (ofC (fB x)) k
  | 0, _ => rfl
  | 1, _ => rfl
  | 2, _ => rfl
  | 3, _ => rfl
  | 4, _ => rfl
  | 5, _ => rfl
  | 6, _ => rfl
  | 7, _ => rfl
  | 8, _ => rfl
  | 9, _ => rfl
  | 10, _ => rfl
  | 11, _ => rfl
  | 12, _ => rfl
  | 13, _ => rfl
  | 14, _ => rfl
  | 15, _ => rfl
  | n + 16, h => by omega
theorem con24 : ConP Tryd.prog 24 GCosn := by
  refine conP_of_runW hm hT FD0ok Tryd.func24 Tryd.call24 fun avs p u h hp => ?_
  unfold GCosn at h
  split at h
  · rename_i a
    obtain ⟨xs, ha, h⟩ := fltsK_spec _ _ _ h
    split at h
    · rename_i hl
      simp only [Option.some.injEq, Prod.mk.injEq] at h
      obtain ⟨rfl, rfl⟩ := h
      obtain ⟨a⟩ := a
      have ha' : a = xs.map (Value.float .f64) := ha
      subst ha'
      match xs, hl, hp with
      | [x0, x1, x2, x3, x4, x5, x6, x7], _, hp =>
        obtain ⟨h1, h2, h3⟩ := hp
        refine ⟨[false], 900, [.b true, .b true, .b true, .b true, .b true, .b true, .b true, .b true, .b false], _, _, rfl, of_run (run24 ([x0, x1, x2, x3, x4, x5, x6, x7].getD · 0) _) ?_⟩
        refine ⟨⟨by decide, by decide, by decide, by decide⟩, ⟨⟨trivial, trivial, trivial⟩, ⟨4, by decide, rfl, h1⟩, .inl rfl, Nat.le_refl _, fB_fX _⟩, ⟨by decide, by decide, by decide, .inl (by decide)⟩, by decide, ⟨by decide, by decide⟩, by decide, (h2 0 (by decide)).1, (h2 0 (by decide)).2, by decide, ⟨by decide, by decide⟩, by decide, (h2 1 (by decide)).1, (h2 1 (by decide)).2, by decide, ⟨by decide, by decide⟩, by decide, (h2 2 (by decide)).1, (h2 2 (by decide)).2, by decide, ⟨by decide, by decide⟩, by decide, (h2 3 (by decide)).1, (h2 3 (by decide)).2, by decide, ⟨by decide, by decide⟩, by decide, (h2 4 (by decide)).1, (h2 4 (by decide)).2, by decide, ⟨by decide, by decide⟩, by decide, (h2 5 (by decide)).1, (h2 5 (by decide)).2, by decide, ⟨by decide, by decide⟩, by decide, (h2 6 (by decide)).1, (h2 6 (by decide)).2, by decide, ⟨by decide, by decide⟩, by decide, (h2 7 (by decide)).1, (h2 7 (by decide)).2,  by decide, h3, rfl⟩
    · cases h
  · cases h
end Go.Proofs.YthddkcoflnbjbaaDoor
namespace Go.Proofs.YthddkcoflnbjbaaDoor
open Sm Go Go.RowKit Fl Ieee
set_option maxRecDepth 100000
set_option linter.unusedVariables false
/-- Real parts of turning numbers, as closed numbers. -/
def ra (l : Nat) : Rat := (cxI (pw2 13 (l % 4096))).re
theorem ra_near (l : Nat) : (U4 (l : Int)).re - ra l ≤ 1 / 100000000000000000000 ∧ ra l - (U4 (l : Int)).re ≤ 1 / 100000000000000000000 := by
  have h := (pw2_near 13 (Nat.le_refl _) (l % 4096) (show l % 4096 < 8192 by omega)).1
  have he := eP_le
  have e : U4 (l : Int) = pow wz (l % 4096) := by unfold U4; congr 1
  rw [e]
  unfold ra
  obtain ⟨a1, a2, a3, a4⟩ := h
  simp only [Cx.sub] at *
  exact ⟨by grind, by grind⟩
def mir (j : Nat) : Nat := if j < 8 then j else 15 - j
def dC (xv : Nat → Rat) (u : Nat) : Rat := RS (fun j => xv (mir j) * ra (128 * u * (2 * j + 1))) 16
/-- The sum's real part after the half place. -/
theorem dft_re {xv ax : Nat → Rat} (h1 : ∀ k, xv k ≤ ax k) (h2 : ∀ k, -ax k ≤ xv k) (u : Nat) :
    (Cx.mul (dft 1 (fun j => ⟨xv (mir j), 0⟩) 4 (u : Int)) (U4 ((u : Int) * 128))).re - dC xv u ≤ 1 / 1000000000000000000 * RS (fun j => ax (mir j)) 16 ∧
    dC xv u - (Cx.mul (dft 1 (fun j => ⟨xv (mir j), 0⟩) 4 (u : Int)) (U4 ((u : Int) * 128))).re ≤ 1 / 1000000000000000000 * RS (fun j => ax (mir j)) 16 := by
  have hio : io ≤ 1 / 100000000000000000000 := by unfold io; decide +kernel
  -- term by term
  have term : ∀ j : Nat, (Cx.mul (U4 ((u : Int) * 128)) (Cx.mul (⟨xv (mir j), 0⟩ : Cx) (U4 (1 * (j : Int) * (u : Int) * exs 4)))).re - xv (mir j) * ra (128 * u * (2 * j + 1)) ≤ 1 / 1000000000000000000 * ax (mir j) ∧
      -(1 / 1000000000000000000 * ax (mir j)) ≤ (Cx.mul (U4 ((u : Int) * 128)) (Cx.mul (⟨xv (mir j), 0⟩ : Cx) (U4 (1 * (j : Int) * (u : Int) * exs 4)))).re - xv (mir j) * ra (128 * u * (2 * j + 1)) := fun j => by
    have hU := U4_add ((u : Int) * 128) (1 * (j : Int) * (u : Int) * exs 4)
    have e : (u : Int) * 128 + 1 * (j : Int) * (u : Int) * exs 4 = ((128 * u * (2 * j + 1) : Nat) : Int) := by
      rw [show exs 4 = 256 from rfl, Int.natCast_mul, Int.natCast_add, Int.natCast_mul, Int.natCast_mul]
      grind
    rw [e] at hU
    obtain ⟨r1, r2⟩ := ra_near (128 * u * (2 * j + 1))
    generalize U4 (((128 * u * (2 * j + 1) : Nat) : Int)) = w at *
    generalize U4 ((u : Int) * 128) = p at *
    generalize U4 (1 * (j : Int) * (u : Int) * exs 4) = q at *
    generalize ra (128 * u * (2 * j + 1)) = r at *
    have b1 := h1 (mir j)
    have b2 := h2 (mir j)
    generalize xv (mir j) = x at *
    generalize ax (mir j) = a at *
    obtain ⟨a1, a2, a3, a4⟩ := hU
    simp only [Cx.sub, Cx.mul] at *
    have k := rmul_le (a := x) (b := p.re * q.re - p.im * q.im - r) (A := a) (B := 1 / 10000000000000000000) (by grind) (by grind) b1 b2 (by grind) (by grind)
    constructor <;> grind
  have hs := RS_abs (T := fun j => (Cx.mul (U4 ((u : Int) * 128)) (Cx.mul (⟨xv (mir j), 0⟩ : Cx) (U4 (1 * (j : Int) * (u : Int) * exs 4)))).re - xv (mir j) * ra (128 * u * (2 * j + 1))) (D := fun j => 1 / 1000000000000000000 * ax (mir j)) (n := 16) fun j _ => term j
  rw [RS_sub, RS_mul] at hs
  have re_sum : ∀ (T : Nat → Cx) (n : Nat), (Cx.sum T n).re = RS (fun j => (T j).re) n := fun T n => by
    induction n with
    | zero => rfl
    | succ n ih => show (Cx.sum T n).re + (T n).re = RS _ n + _; rw [ih]
  have e2 : (Cx.mul (dft 1 (fun j => ⟨xv (mir j), 0⟩) 4 (u : Int)) (U4 ((u : Int) * 128))).re = RS (fun j => (Cx.mul (U4 ((u : Int) * 128)) (Cx.mul (⟨xv (mir j), 0⟩ : Cx) (U4 (1 * (j : Int) * (u : Int) * exs 4)))).re) 16 := by
    rw [Cx.mul_comm, ← re_sum]
    unfold dft
    rw [← Cx.sum_mul]
  rw [e2]
  unfold dC
  exact ⟨hs.1, by grind⟩
theorem fB_of (x : Nat → Nat) : ∀ j, j < 16 → ofC (fB x) j = (x (mir j), 0)
  | 0, _ => rfl
  | 1, _ => rfl
  | 2, _ => rfl
  | 3, _ => rfl
  | 4, _ => rfl
  | 5, _ => rfl
  | 6, _ => rfl
  | 7, _ => rfl
  | 8, _ => rfl
  | 9, _ => rfl
  | 10, _ => rfl
  | 11, _ => rfl
  | 12, _ => rfl
  | 13, _ => rfl
  | 14, _ => rfl
  | 15, _ => rfl
  | n + 16, h => by omega
theorem mir_lt {j : Nat} (h : j < 16) : mir j < 8 := by unfold mir; split <;> omega
/-- The target: closed weights. -/
def tC (xv : Nat → Rat) (u : Nat) : Rat := match u with
  | 0 => dC xv 0 / 4 / vB rt2
  | u + 1 => dC xv (u + 1) / 4
theorem four_ap : fnum .f64 four ∧ fv .f64 four = 4 := kst (z := 4835703278458516698824704) (by decide +kernel) (by decide +kernel)
theorem rt2_ap : fnum .f64 rt2 ∧ fv .f64 rt2 = vB rt2 := by
  have h := vB_ap (x := rt2) (by decide +kernel)
  exact ⟨h.num, by have := h.hi; have := h.lo; grind⟩
theorem cos_near {x : Nat → Nat} {ax : Nat → Rat} (hx : ∀ k, k < 8 → fnum .f64 (x k)) (h1 : ∀ k, fv .f64 (x k) ≤ ax k) (h2 : ∀ k, -ax k ≤ fv .f64 (x k)) (hb : ∀ k, ax k ≤ (100000000000000000000000000000000000000000000000000000000000000000000000000000000000000000000000000000 : Rat)) :
    okCos x ∧ ∀ u, u < 8 → Ap (cosB x u) (tC (fun k => fv .f64 (x k)) u) ((406 / 1000000000000 : Rat) * RS (fun j => ax (mir j)) 16 + (205 / 1000000000000 : Rat)) := by
  obtain ⟨t1, t2⟩ := tr_near (way := 1) (.inl rfl) (show 4 ≤ 12 by decide) (X := ofC (fB x)) (x := fun j => ⟨fv .f64 (x (mir j)), 0⟩) (m := fun j => ax (mir j))
    (fun j hj => by rw [fB_of x j hj]; exact ⟨Ap.self (hx _ (mir_lt hj)), ap_zero⟩)
    (fun j => by
      have a1 := h1 (mir j)
      have a2 := h2 (mir j)
      exact ⟨a1, a2, by show (0 : Rat) ≤ _; grind, by show _ ≤ (0 : Rat); grind⟩)
    (fun j => by have := hb (mir j); grind)
  have ax0 : ∀ k, 0 ≤ ax k := fun k => by have := h1 k; have := h2 k; grind
  have S0 : 0 ≤ RS (fun j => ax (mir j)) 16 := by
    have := RS_le (T := fun _ => (0 : Rat)) (D := fun j => ax (mir j)) 16 fun i _ => ax0 _
    rw [RS_const] at this
    grind
  have S1 : RS (fun j => ax (mir j)) 16 ≤ 16 * (100000000000000000000000000000000000000000000000000000000000000000000000000000000000000000000000000000 : Rat) := by
    have := RS_le (T := fun j => ax (mir j)) (D := fun _ => (100000000000000000000000000000000000000000000000000000000000000000000000000000000000000000000000000000 : Rat)) 16 fun i _ => hb _
    rw [RS_const] at this
    exact this
  have dw : ∀ u : Nat, Cx.Wi (dft 1 (fun j => ⟨fv .f64 (x (mir j)), 0⟩) 4 (u : Int)) (2 * RS (fun j => ax (mir j)) 16) := fun u => by
    have h := Cx.sum_wi (T := fun i => Cx.mul (⟨fv .f64 (x (mir i)), 0⟩ : Cx) (U4 (1 * (i : Int) * (u : Int) * exs 4))) (D := fun i => 2 * ax (mir i)) 16 fun i _ => by
      have a1 := h1 (mir i)
      have a2 := h2 (mir i)
      have hw : Cx.Wi (⟨fv .f64 (x (mir i)), 0⟩ : Cx) (ax (mir i)) := ⟨a1, a2, by show (0 : Rat) ≤ _; grind, by show _ ≤ (0 : Rat); grind⟩
      exact (hw.mul (U4_wi _)).le (by grind)
    rw [RS_mul] at h
    exact h
  have main : ∀ u, u < 8 → cmOk (YB x u).1 (YB x u).2 (tu u).1 (tu u).2 ∧ fok .quo .f64 (reB x u) four = true ∧ Ap (cB1 x u) (dC (fun k => fv .f64 (x k)) u / 4) ((405 / 1000000000000 : Rat) * RS (fun j => ax (mir j)) 16 + (204 / 1000000000000 : Rat)) ∧
      dC (fun k => fv .f64 (x k)) u / 4 ≤ 2 * RS (fun j => ax (mir j)) 16 ∧ -(2 * RS (fun j => ax (mir j)) 16) ≤ dC (fun k => fv .f64 (x k)) u / 4 := fun u hu => by
    have hy := t2 u (by show u < 16; omega)
    have hy' : CAp (YB x u) (dft 1 (fun j => ⟨fv .f64 (x (mir j)), 0⟩) 4 (u : Int)) ((2 / 10000000000 : Rat) * RS (fun j => ax (mir j)) (2 ^ 4) + (1 / 10000000000 : Rat)) := hy
    rw [show (2 ^ 4 : Nat) = 16 from rfl] at hy'
    have ht := turn_near (k := (u : Int)) (n := 32) (D := 128) (by decide) (by decide) (by decide)
    have hre := dft_re (xv := fun k => fv .f64 (x k)) h1 h2 u
    have hY := dw u
    have hU := U4_wi ((u : Int) * 128)
    have e0 : (Cx.mul (dft 1 (fun j => ⟨fv .f64 (x (mir j)), 0⟩) 4 (u : Int)) (U4 ((u : Int) * 128))).re = (dft 1 (fun j => ⟨fv .f64 (x (mir j)), 0⟩) 4 (u : Int)).re * (U4 ((u : Int) * 128)).re - (dft 1 (fun j => ⟨fv .f64 (x (mir j)), 0⟩) 4 (u : Int)).im * (U4 ((u : Int) * 128)).im := rfl
    rw [e0] at hre
    generalize dft 1 (fun j => ⟨fv .f64 (x (mir j)), 0⟩) 4 (u : Int) = Y at *
    generalize U4 ((u : Int) * 128) = U at *
    generalize dC (fun k => fv .f64 (x k)) u = d at *
    generalize RS (fun j => ax (mir j)) 16 = S at *
    obtain ⟨p1, p2⟩ := hre
    obtain ⟨a1, b1, c1, d1⟩ := part_ap hy'.re ht.re hY.r1 hY.r2 hU.r1 hU.r2 S0 (by grind) (by grind)
    obtain ⟨a2, b2, c2, d2⟩ := part_ap hy'.im ht.im hY.i1 hY.i2 hU.i1 hU.i2 S0 (by grind) (by grind)
    obtain ⟨a3, b3, c3, d3⟩ := part_ap hy'.re ht.im hY.r1 hY.r2 hU.i1 hU.i2 S0 (by grind) (by grind)
    obtain ⟨a4, b4, c4, d4⟩ := part_ap hy'.im ht.re hY.i1 hY.i2 hU.r1 hU.r2 S0 (by grind) (by grind)
    have b1' := b1.le (e' := (201 / 1000000000000 : Rat) * S + (101 / 1000000000000 : Rat)) (by grind)
    have b2' := b2.le (e' := (201 / 1000000000000 : Rat) * S + (101 / 1000000000000 : Rat)) (by grind)
    have b3' := b3.le (e' := (201 / 1000000000000 : Rat) * S + (101 / 1000000000000 : Rat)) (by grind)
    have b4' := b4.le (e' := (201 / 1000000000000 : Rat) * S + (101 / 1000000000000 : Rat)) (by grind)
    obtain ⟨k1, s1⟩ := b1'.sub b2' (5 * S + 1) (by grind) (by grind) (tp_huge _ (by grind))
    obtain ⟨k2, s2⟩ := b3'.add b4' (5 * S + 1) (by grind) (by grind) (tp_huge _ (by grind))
    have s1' := (s1.mv p1 p2).le (e' := (404 / 1000000000000 : Rat) * S + (203 / 1000000000000 : Rat)) (by unfold dl; grind)
    obtain ⟨k3, s3⟩ := s1'.quo four_ap (by decide) (6 * S + 1) (by grind) (by grind) (tp_huge _ (by grind))
    have e4 : d / 4 = d * (1 / 4) := by grind
    exact ⟨⟨a1, a2, k1, a3, a4, k2⟩, k3, s3.le (by unfold dl; grind), by grind, by grind⟩
  obtain ⟨m1, m2, m3, m4, m5⟩ := main 0 (by decide)
  have r1 : (1 : Rat) ≤ vB rt2 := by decide +kernel
  obtain ⟨k4, s4⟩ := m3.quo rt2_ap r1 (3 * RS (fun j => ax (mir j)) 16 + 1) (by grind) (by grind) (tp_huge _ (by grind))
  refine ⟨⟨t1, fun k hk => ⟨(main k hk).1, (main k hk).2.1⟩, k4⟩, fun u hu => ?_⟩
  cases u with
  | zero => exact s4.le (by unfold dl; grind)
  | succ u => exact (main (u + 1) hu).2.2.1.le (by grind)
end Go.Proofs.YthddkcoflnbjbaaDoor
