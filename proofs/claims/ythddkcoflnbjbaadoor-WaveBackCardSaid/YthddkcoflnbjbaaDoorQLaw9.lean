/-
  What is proved here: the polynomials of the circular functions: floats near numbers. the polynomials at the places that are asked are near the turning numbers. turning numbers in floats are near turning numbers. turning numbers in floats are near turning numbers.
-/
import Derived.Test.YthddkcoflnbjbaaDoorQLaw3
import Derived.Test.YthddkcoflnbjbaaDoorQLaw5
namespace Go.Proofs.YthddkcoflnbjbaaDoor
open Sm Go Go.RowKit Fl Ieee
set_option maxRecDepth 100000
set_option linter.unusedVariables false
def zofB (x : Nat) : Option Int :=
  match FloatKind.f64.format.read x with
  | .number s m p => if -120 ≤ p then some (signed s m (p + 120).toNat) else if m = 0 then some 0 else none
  | _ => none
def sB : Rat := 1329227995784915872903807060280344576
theorem zofB_val {x : Nat} {z : Int} (h : zofB x = some z) : fnum .f64 x ∧ fv .f64 x * sB = (z : Rat) := by
  unfold zofB at h
  split at h
  · rename_i s m p hr
    split at h
    · rename_i hp
      simp only [Option.some.injEq] at h
      subst h
      refine ⟨⟨s, m, p, hr⟩, ?_⟩
      have e1 : fv .f64 x = dv (.number s m p) := by
        show dv (FloatKind.f64.format.read x) = _
        rw [hr]
      have e2 := dv_scaled (s := s) (m := m) (p := p) (b := -120) hp
      have h80 := pw_down 120
      rw [show (2 ^ 120 : Nat) = 1329227995784915872903807060280344576 from rfl, Rat.natCast_ofNat] at h80
      have e3 : (-120 : Int) = -((120 : Nat) : Int) := rfl
      unfold sB
      rw [e1, e2, show p - -120 = p + 120 by omega, e3]
      rw [Rat.mul_assoc, h80]
      grind
    · split at h
      · rename_i hm
        simp only [Option.some.injEq] at h
        subst h
        subst hm
        refine ⟨⟨s, 0, p, hr⟩, ?_⟩
        have e1 : fv .f64 x = dv (.number s 0 p) := by
          show dv (FloatKind.f64.format.read x) = _
          rw [hr]
        rw [e1]
        simp [dv]
      · cases h
  · cases h
def vB (x : Nat) : Rat := (((zofB x).getD 0 : Int) : Rat) / sB
theorem vB_ap {x : Nat} (h : (zofB x).isSome = true) : Ap x (vB x) 0 := by
  obtain ⟨z, hz⟩ := Option.isSome_iff_exists.1 h
  obtain ⟨h1, h2⟩ := zofB_val hz
  refine .of ⟨h1, ?_⟩
  unfold vB
  rw [hz, Option.getD_some, ← h2, Rat.div_def, Rat.mul_assoc, Rat.mul_inv_cancel _ (by unfold sB; decide), Rat.mul_one]
def HR (c : Nat → Rat) (r : Rat) : Nat → Rat
  | 0 => c 0 * r + c 1
  | n + 1 => HR c r n * r + c (n + 2)
theorem tp_big : ∀ c : Rat, c ≤ 1000 → c < tp .f64 := fun c h => by have := tp_ge .f64; grind
structure Cf (k : Nat → Nat) : Prop where
  ap : ∀ i, i < 6 → Ap (k i) (vB (k i)) 0
  hi : ∀ i, i < 6 → vB (k i) ≤ 17 / 100
  lo : ∀ i, i < 6 → -(17 / 100) ≤ vB (k i)
theorem cf_C : Cf kC := by
  refine ⟨fun i hi => vB_ap ?_, ?_, ?_⟩
  · have : ∀ i, i < 6 → (zofB (kC i)).isSome = true := by decide +kernel
    exact this i hi
  · decide +kernel
  · decide +kernel
theorem cf_S : Cf kS := by
  refine ⟨fun i hi => vB_ap ?_, ?_, ?_⟩
  · have : ∀ i, i < 6 → (zofB (kS i)).isSome = true := by decide +kernel
    exact this i hi
  · decide +kernel
  · decide +kernel
theorem hor_step {h q kk : Nat} {H r c : Rat} (hh : Ap h H (46 / 10000000000000000 : Rat)) (H1 : H ≤ 45 / 100) (H2 : -(45 / 100) ≤ H) (hq : Ap q r (35 / 10000000000000000 : Rat)) (r0 : 0 ≤ r) (r1 : r ≤ 62 / 100) (hk : Ap kk c 0) (c1 : c ≤ 17 / 100) (c2 : -(17 / 100) ≤ c) :
    Ap (fbin .add .f64 (fbin .mul .f64 h q) kk) (H * r + c) (46 / 10000000000000000 : Rat) ∧ H * r + c ≤ 45 / 100 ∧ -(45 / 100) ≤ H * r + c := by
  obtain ⟨_, a⟩ := hh.mul hq (U := 45 / 100) (V := 62 / 100) H1 H2 r1 (by grind) (3 / 10) (by decide +kernel) (tp_big _ (by decide +kernel))
  have b := rmul_le (a := H) (b := r) (A := 45 / 100) (B := 62 / 100) (by grind) (by grind) H1 H2 r1 (by grind)
  have a' := a.le (e' := (451 / 100000000000000000 : Rat)) (by decide +kernel)
  obtain ⟨_, s⟩ := a'.add hk (46 / 100) (by grind) (by grind) (tp_big _ (by decide +kernel))
  exact ⟨s.le (by decide +kernel), by grind, by grind⟩
theorem hor_ap {k : Nat → Nat} (hk : Cf k) {q : Nat} {r : Rat} (hq : Ap q r (35 / 10000000000000000 : Rat)) (r0 : 0 ≤ r) (r1 : r ≤ 62 / 100) : ∀ n, n ≤ 4 → Ap (hN k q n) (HR (fun i => vB (k i)) r n) (46 / 10000000000000000 : Rat) ∧ HR (fun i => vB (k i)) r n ≤ 45 / 100 ∧ -(45 / 100) ≤ HR (fun i => vB (k i)) r n
  | 0, _ => by
    have h0 := (hk.ap 0 (by omega)).le (e' := (46 / 10000000000000000 : Rat)) (by decide +kernel)
    have h1 := hk.hi 0 (by omega)
    have h2 := hk.lo 0 (by omega)
    exact hor_step h0 (by grind) (by grind) hq r0 r1 (hk.ap 1 (by omega)) (hk.hi 1 (by omega)) (hk.lo 1 (by omega))
  | n + 1, hn => by
    obtain ⟨a1, a2, a3⟩ := hor_ap hk hq r0 r1 n (by omega)
    exact hor_step a1 a2 a3 hq r0 r1 (hk.ap (n + 2) (by omega)) (hk.hi (n + 2) (by omega)) (hk.lo (n + 2) (by omega))
def HC (r : Rat) : Rat := HR (fun i => vB (kC i)) r 4
def HS (r : Rat) : Rat := HR (fun i => vB (kS i)) r 4
def CR (r : Rat) : Rat := 1 - 1 / 2 * r + r * r * HC r
def SR (x : Rat) : Rat := x + x * (x * x) * HS (x * x)
theorem sq_nn' (x : Rat) : 0 ≤ x * x := by
  by_cases h0 : 0 ≤ x
  · exact Rat.mul_nonneg h0 h0
  · have := Rat.mul_nonneg (a := -x) (b := -x) (by grind) (by grind)
    grind
theorem half_ap : Ap kHalf (1 / 2) 0 := .of (kst (z := 604462909807314587353088) (by decide +kernel) (by decide +kernel))
theorem one_ap : Ap kOne 1 0 := .of (kst (z := 1208925819614629174706176) (by decide +kernel) (by decide +kernel))
theorem cosP_ap {q : Nat} {r : Rat} (hq : Ap q r (35 / 10000000000000000 : Rat)) (r0 : 0 ≤ r) (r1 : r ≤ 62 / 100) : Ap (cosP q) (CR r) (6 / 1000000000000000 : Rat) := by
  obtain ⟨h1, h2, h3⟩ := hor_ap cf_C hq r0 r1 4 (Nat.le_refl _)
  obtain ⟨_, a⟩ := half_ap.mul hq (U := 1 / 2) (V := 62 / 100) (by grind) (by grind) r1 (by grind) (32 / 100) (by decide +kernel) (tp_big _ (by decide +kernel))
  have a' := a.le (e' := (18 / 10000000000000000 : Rat)) (by decide +kernel)
  obtain ⟨_, b⟩ := one_ap.sub a' (101 / 100) (by grind) (by grind) (tp_big _ (by decide +kernel))
  obtain ⟨_, d⟩ := hq.mul hq (U := 62 / 100) (V := 62 / 100) r1 (by grind) r1 (by grind) (39 / 100) (by decide +kernel) (tp_big _ (by decide +kernel))
  have d' := d.le (e' := (44 / 10000000000000000 : Rat)) (by decide +kernel)
  have rr := rmul_le (a := r) (b := r) (A := 62 / 100) (B := 62 / 100) (by grind) (by grind) r1 (by grind) r1 (by grind)
  obtain ⟨_, f⟩ := d'.mul h1 (U := 3844 / 10000) (V := 45 / 100) (by grind) (by grind) h2 h3 (2 / 10) (by decide +kernel) (tp_big _ (by decide +kernel))
  have f' := f.le (e' := (38 / 10000000000000000 : Rat)) (by decide +kernel)
  have ff := rmul_le (a := r * r) (b := HR (fun i => vB (kC i)) r 4) (A := 3844 / 10000) (B := 45 / 100) (by grind) (by grind) (by grind) (by grind) h2 h3
  have b' := b.le (e' := (195 / 100000000000000000 : Rat)) (by decide +kernel)
  have p0 := Rat.mul_nonneg r0 r0
  obtain ⟨_, g⟩ := b'.add f' (13 / 10) (by grind) (by grind) (tp_big _ (by decide +kernel))
  exact g.le (by decide +kernel)
theorem sinP_ap {z q : Nat} {x : Rat} (hz : Ap z x (21 / 10000000000000000 : Rat)) (x1 : x ≤ 786 / 1000) (x2 : -(786 / 1000) ≤ x) (hq : Ap q (x * x) (35 / 10000000000000000 : Rat)) : Ap (sinP z q) (SR x) (66 / 10000000000000000 : Rat) := by
  have r0 := sq_nn' x
  have r1' := rmul_le (a := x) (b := x) (A := 786 / 1000) (B := 786 / 1000) (by grind) (by grind) x1 x2 x1 x2
  have r1 : x * x ≤ 62 / 100 := by grind
  obtain ⟨h1, h2, h3⟩ := hor_ap cf_S hq r0 r1 4 (Nat.le_refl _)
  obtain ⟨_, a⟩ := hz.mul hq (U := 786 / 1000) (V := 62 / 100) x1 x2 r1 (by grind) (49 / 100) (by decide +kernel) (tp_big _ (by decide +kernel))
  have a' := a.le (e' := (42 / 10000000000000000 : Rat)) (by decide +kernel)
  have aa := rmul_le (a := x) (b := x * x) (A := 786 / 1000) (B := 62 / 100) (by grind) (by grind) x1 x2 r1 (by grind)
  obtain ⟨_, f⟩ := a'.mul h1 (U := 48732 / 100000) (V := 45 / 100) (by grind) (by grind) h2 h3 (23 / 100) (by decide +kernel) (tp_big _ (by decide +kernel))
  have f' := f.le (e' := (42 / 10000000000000000 : Rat)) (by decide +kernel)
  have ff := rmul_le (a := x * (x * x)) (b := HR (fun i => vB (kS i)) (x * x) 4) (A := 48732 / 100000) (B := 45 / 100) (by grind) (by grind) (by grind) (by grind) h2 h3
  obtain ⟨_, g⟩ := hz.add f' (11 / 10) (by grind) (by grind) (tp_big _ (by decide +kernel))
  exact g.le (by decide +kernel)
theorem sq_ap {z : Nat} {x : Rat} (hz : Ap z x (21 / 10000000000000000 : Rat)) (x1 : x ≤ 786 / 1000) (x2 : -(786 / 1000) ≤ x) : Ap (sq z) (x * x) (35 / 10000000000000000 : Rat) := by
  obtain ⟨_, a⟩ := hz.mul hz (U := 786 / 1000) (V := 786 / 1000) x1 x2 x1 x2 (62 / 100) (by decide +kernel) (tp_big _ (by decide +kernel))
  exact a.le (by decide +kernel)
end Go.Proofs.YthddkcoflnbjbaaDoor
namespace Go.Proofs.YthddkcoflnbjbaaDoor
open Sm Go Go.RowKit Fl Ieee
set_option maxRecDepth 100000
set_option linter.unusedVariables false
def tI : Int := 2039010208253797050208435770343534
def th : Rat := (tI : Rat) / sB
def inR (a e : Rat) : Bool := decide (a ≤ e) && decide (-e ≤ a)
def tabOk (l : Nat) : Bool :=
  let y := (l : Rat) * th
  let v := cxI (pw2 13 l)
  inR (CR (y * y) - v.re) (1 / 1000000000000000) && inR (SR y + v.im) (1 / 1000000000000000)
def tabAll : Nat → Bool
  | 0 => true
  | n + 1 => tabOk n && tabAll n
theorem tab_all : tabAll 513 = true := by decide +kernel
theorem tab_of : ∀ {n l : Nat}, tabAll n = true → l < n → tabOk l = true
  | 0, l, _, h => by omega
  | n + 1, l, ht, h => by
    unfold tabAll at ht
    rw [Bool.and_eq_true] at ht
    by_cases e : l = n
    · rw [e]; exact ht.1
    · exact tab_of ht.2 (by omega)
theorem inR_of {a e : Rat} (h : inR a e = true) : a ≤ e ∧ -e ≤ a := by
  unfold inR at h
  rw [Bool.and_eq_true, decide_eq_true_eq, decide_eq_true_eq] at h
  exact h
def PC (y : Rat) : Cx := ⟨CR (y * y), -SR y⟩
theorem eP_le : eP 13 ≤ 1 / 100000000000000000000 := by decide +kernel
def eT : Rat := 11 / 10000000000000000
theorem tab_pos {l : Nat} (h : l ≤ 512) : Cx.Wi (Cx.sub (PC ((l : Rat) * th)) (pow wz l)) eT := by
  have ht := tab_of tab_all (show l < 513 by omega)
  unfold tabOk at ht
  rw [Bool.and_eq_true] at ht
  obtain ⟨a1, a2⟩ := inR_of ht.1
  obtain ⟨b1, b2⟩ := inR_of ht.2
  obtain ⟨c1, c2, c3, c4⟩ := (pw2_near 13 (Nat.le_refl _) l (show l < 8192 by omega)).1
  have hp := eP_le
  generalize eP 13 = ee at *
  generalize cxI (pw2 13 l) = v at *
  generalize pow wz l = w at *
  generalize hx : CR ((l : Rat) * th * ((l : Rat) * th)) = x at *
  generalize hs : SR ((l : Rat) * th) = s at *
  unfold PC eT
  simp only [Cx.sub] at *
  rw [hx, hs]
  exact ⟨by grind, by grind, by grind, by grind⟩
theorem SR_neg (x : Rat) : SR (-x) = -SR x := by
  unfold SR
  rw [show -x * -x = x * x by grind]
  grind
theorem PC_neg (x : Rat) : PC (-x) = Cx.conj (PC x) := by
  unfold PC Cx.conj
  rw [SR_neg, show -x * -x = x * x by grind]
def eT2 : Rat := 12 / 10000000000000000
theorem tab_int {l : Int} (h1 : -512 ≤ l) (h2 : l ≤ 512) : Cx.Wi (Cx.sub (PC ((l : Rat) * th)) (U4 l)) eT2 := by
  have hio : 3 * io ≤ 1 / 10000000000000000 := by unfold io; decide +kernel
  by_cases h : 0 ≤ l
  · obtain ⟨n, rfl⟩ := Int.eq_ofNat_of_zero_le h
    have e : U4 ((n : Nat) : Int) = pow wz n := by unfold U4; congr 1; omega
    rw [e]
    refine (tab_pos (l := n) (by omega)).le (by unfold eT eT2; decide +kernel)
  · obtain ⟨n, hn⟩ := Int.eq_ofNat_of_zero_le (show 0 ≤ -l by omega)
    obtain rfl : l = -((n : Nat) : Int) := by omega
    have e : U4 ((n : Nat) : Int) = pow wz n := by unfold U4; congr 1; omega
    have t := tab_pos (l := n) (by omega)
    have c := U4_conj ((n : Nat) : Int)
    rw [e] at c
    have e2 : ((-((n : Nat) : Int) : Int) : Rat) * th = -((n : Rat) * th) := by rw [Rat.intCast_neg, Rat.intCast_natCast, Rat.neg_mul]
    rw [e2, PC_neg]
    generalize PC ((n : Rat) * th) = x at *
    generalize pow wz n = w at *
    generalize U4 (-((n : Nat) : Int)) = z at *
    generalize io = i at *
    obtain ⟨t1, t2, t3, t4⟩ := t
    obtain ⟨c1, c2, c3, c4⟩ := c
    unfold eT at *
    unfold eT2
    simp only [Cx.sub, Cx.conj] at *
    exact ⟨by grind, by grind, by grind, by grind⟩
end Go.Proofs.YthddkcoflnbjbaaDoor
namespace Go.Proofs.YthddkcoflnbjbaaDoor
open Sm Go Go.RowKit Fl Ieee
set_option maxRecDepth 100000
set_option linter.unusedVariables false
theorem c2_ap : Ap c2pi (4096 * th) (25 / 100000000000000000) := by
  have h := vB_ap (x := c2pi) (by decide +kernel)
  have h1 : vB c2pi - 4096 * th ≤ 25 / 100000000000000000 ∧ 4096 * th - vB c2pi ≤ 25 / 100000000000000000 := by decide +kernel
  exact (h.mv h1.1 h1.2).le (by decide +kernel)
theorem c4_ap : Ap c4pi (vB c4pi) 0 := vB_ap (by decide +kernel)
theorem th_bd : 4096 * th ≤ 62831854 / 10000000 ∧ 62831852 / 10000000 ≤ 4096 * th := by decide +kernel
theorem ang_ap {m n D : Int} (h0 : 0 < m) (h1 : m < n) (hD : D * n = 4096) (hn : n ≤ 4096) : Ap (angW m n) (((m * D : Int) : Rat) * th) (165 / 100000000000000000) := by
  have cm := i2f_ap (n := m) (by omega) (by omega)
  have cn := i2f_ap (n := n) (by omega) (by omega)
  have ht := tp_ge .f64
  have m1 : (1 : Rat) ≤ (m : Rat) := by
    have := Rat.intCast_le_intCast.2 (show (1 : Int) ≤ m by omega)
    exact this
  have mn : (m : Rat) ≤ (n : Rat) := Rat.intCast_le_intCast.2 (by omega)
  have n4 : (n : Rat) ≤ 4096 := by
    have := Rat.intCast_le_intCast.2 hn
    exact this
  have hDn : (D : Rat) * (n : Rat) = 4096 := by rw [← Rat.intCast_mul, hD]; rfl
  have hm : fv .f64 (i2f m) = (m : Rat) := cm.2
  have hnv : fv .f64 (i2f n) = (n : Rat) := cn.2
  have q0 : (0 : Rat) < (n : Rat) := by grind
  have ei : (n : Rat)⁻¹ * (n : Rat) = 1 := Rat.inv_mul_cancel _ (Rat.ne_of_gt q0)
  have hi0 : 0 < (n : Rat)⁻¹ := Rat.inv_pos.2 q0
  have hc := c2_ap
  obtain ⟨t1, t2⟩ := th_bd
  have hx1 := hc.hi
  have hx2 := hc.lo
  have b1 : fv .f64 c2pi ≤ 62831855 / 10000000 := by grind
  have b2 : 6 ≤ fv .f64 c2pi := by grind
  have p1 : fv .f64 c2pi * (m : Rat) ≤ 62831855 / 10000000 * (n : Rat) := by
    have := Rat.mul_le_mul_of_nonneg_right b1 (show 0 ≤ (m : Rat) by grind)
    grind
  have p2 : 0 ≤ fv .f64 c2pi * (m : Rat) := Rat.mul_nonneg (by grind) (by grind)
  obtain ⟨k1, r1⟩ := fbin_mul hc.num cm.1 (by rw [hm]; grind) (by rw [hm]; grind)
  rw [hm] at r1
  have a1 := Ap.rnd r1 (c := 62831855 / 10000000 * (n : Rat)) p1 (by grind)
  generalize hX : fbin .mul .f64 c2pi (i2f m) = X at *
  have g1 := a1.hi
  have g2 := a1.lo
  have ediv : fv .f64 X / (n : Rat) = fv .f64 X * (n : Rat)⁻¹ := Rat.div_def _ _
  -- the quotient before rounding
  have eD : (D : Rat) = 4096 * (n : Rat)⁻¹ := by
    have : (D : Rat) * (n : Rat) * (n : Rat)⁻¹ = 4096 * (n : Rat)⁻¹ := by rw [hDn]
    rw [Rat.mul_assoc, Rat.mul_comm (n : Rat), ei, Rat.mul_one] at this
    exact this
  have eK : ((m * D : Int) : Rat) * th = 4096 * th * (m : Rat) * (n : Rat)⁻¹ := by rw [Rat.intCast_mul, eD]; grind
  have mi1 : (m : Rat) * (n : Rat)⁻¹ ≤ 1 := by
    have := Rat.mul_le_mul_of_nonneg_right mn (Rat.le_of_lt hi0)
    rw [Rat.mul_comm (n : Rat), ei] at this
    exact this
  have mi0 : 0 ≤ (m : Rat) * (n : Rat)⁻¹ := Rat.mul_nonneg (by grind) (Rat.le_of_lt hi0)
  have hi1 : (n : Rat)⁻¹ ≤ 1 := by
    have := Rat.mul_le_mul_of_nonneg_right (show (1 : Rat) ≤ (n : Rat) by grind) (Rat.le_of_lt hi0)
    rw [Rat.mul_comm (n : Rat), ei, Rat.one_mul] at this
    exact this
  have s1 := Rat.mul_le_mul_of_nonneg_right g1 (Rat.le_of_lt hi0)
  have s2 := Rat.mul_le_mul_of_nonneg_right g2 (Rat.le_of_lt hi0)
  have hdl : dl (62831855 / 10000000 * (n : Rat)) * (n : Rat)⁻¹ ≤ 6976 / 10000000000000000000 := by
    have e : dl (62831855 / 10000000 * (n : Rat)) * (n : Rat)⁻¹ = 62831855 / 10000000 * (1 / 9007199254740992) * ((n : Rat)⁻¹ * (n : Rat)) + 1 / 1267650600228229401496703205376 * (n : Rat)⁻¹ := by unfold dl; grind
    rw [e, ei]
    have := Rat.mul_le_mul_of_nonneg_left hi1 (show (0 : Rat) ≤ 1 / 1267650600228229401496703205376 by decide +kernel)
    grind
  have v1 := Rat.mul_le_mul_of_nonneg_right hx1 mi0
  have v2 := Rat.mul_le_mul_of_nonneg_right hx2 mi0
  have v3 := Rat.mul_le_mul_of_nonneg_left mi1 (show (0 : Rat) ≤ 25 / 100000000000000000 by decide +kernel)
  have w1 : fv .f64 X * (n : Rat)⁻¹ - ((m * D : Int) : Rat) * th ≤ 9477 / 10000000000000000000 := by rw [eK]; grind
  have w2 : ((m * D : Int) : Rat) * th - fv .f64 X * (n : Rat)⁻¹ ≤ 9477 / 10000000000000000000 := by rw [eK]; grind
  have k4 : ((m * D : Int) : Rat) * th ≤ 62831854 / 10000000 := by
    rw [eK]
    have := Rat.mul_le_mul_of_nonneg_left mi1 (show (0 : Rat) ≤ 4096 * th by grind)
    grind
  have k5 : 0 ≤ ((m * D : Int) : Rat) * th := by
    rw [eK]
    have := Rat.mul_nonneg (show (0 : Rat) ≤ 4096 * th by grind) mi0
    grind
  obtain ⟨k2, r2⟩ := fbin_quo a1.num cn.1 (by rw [hnv]; exact Rat.ne_of_gt q0) (by rw [hnv, ediv]; grind) (by rw [hnv, ediv]; grind)
  rw [hnv, ediv] at r2
  have a2 := Ap.rnd r2 (c := 62831856 / 10000000) (by grind) (by grind)
  have hA : angW m n = fbin .quo .f64 X (i2f n) := by unfold angW; rw [hX]
  rw [hA]
  exact (a2.mv w1 w2).le (by decide +kernel)
theorem yC_ok : ∀ h, h < 5 → (zofB (yA h)).isSome = true ∧ (zofB (yB h)).isSome = true ∧ (zofB (yC h)).isSome = true ∧
    vB (yA h) - ((1024 * h : Nat) : Rat) * th ≤ 1 / 1000000 ∧ ((1024 * h : Nat) : Rat) * th - vB (yA h) ≤ 1 / 1000000 ∧ vB (yB h) ≤ 1 / 1000000 ∧ -(1 / 1000000) ≤ vB (yB h) ∧ vB (yC h) ≤ 1 / 1000000 ∧ -(1 / 1000000) ≤ vB (yC h) ∧
    vB (yA h) + vB (yB h) + vB (yC h) - ((1024 * h : Nat) : Rat) * th ≤ 1 / 100000000000000000000 ∧ ((1024 * h : Nat) : Rat) * th - (vB (yA h) + vB (yB h) + vB (yC h)) ≤ 1 / 100000000000000000000 := by decide +kernel
theorem q4_bd : th * vB c4pi - 1 / 512 ≤ 1 / 1000000000000000000 ∧ 1 / 512 - th * vB c4pi ≤ 1 / 1000000000000000000 ∧ vB c4pi ≤ 12733 / 10000 ∧ 0 ≤ vB c4pi := by decide +kernel
theorem z_ap {x : Nat} {K : Int} (k : OkX x) (hx : Ap x ((K : Rat) * th) (165 / 100000000000000000)) (K0 : 0 ≤ K) (K1 : K ≤ 4096) :
    ∃ (h : Nat) (l : Int), hOf x = h ∧ h < 5 ∧ K = 1024 * h + l ∧ -512 ≤ l ∧ l ≤ 512 ∧ Ap (zV x) ((l : Rat) * th) (21 / 10000000000000000) := by
  obtain ⟨t1, t2⟩ := th_bd
  obtain ⟨q1, q2, q3, q4⟩ := q4_bd
  have k0 : (0 : Rat) ≤ (K : Rat) := Rat.intCast_le_intCast.2 K0
  have k4 : (K : Rat) ≤ 4096 := Rat.intCast_le_intCast.2 K1
  have th0 : 0 ≤ th := by grind
  have kt0 : 0 ≤ (K : Rat) * th := Rat.mul_nonneg k0 th0
  have kt1 : (K : Rat) * th ≤ 62831854 / 10000000 := by
    have := Rat.mul_le_mul_of_nonneg_right k4 th0
    grind
  obtain ⟨_, a⟩ := hx.mul c4_ap (U := 62831854 / 10000000) (V := 12733 / 10000) kt1 (by grind) q3 (by grind) (9 : Rat) (by decide +kernel) (tp_big _ (by decide +kernel))
  have e1 : (K : Rat) * th * vB c4pi - (K : Rat) * (1 / 512) ≤ 5 / 1000000000000000 := by
    have := Rat.mul_le_mul_of_nonneg_left q1 k0
    grind
  have e2 : (K : Rat) * (1 / 512) - (K : Rat) * th * vB c4pi ≤ 5 / 1000000000000000 := by
    have := Rat.mul_le_mul_of_nonneg_left q2 k0
    grind
  have am := (a.mv e1 e2).le (e' := 1 / 100000000000000) (by decide +kernel)
  have a1 := am.hi
  have a2 := am.lo
  have hm4 : mul4 x = fbin .mul .f64 x c4pi := rfl
  rw [← hm4] at a1 a2 am
  have m0 := k.m0
  have m7 := k.m7
  -- the number of the eighth
  obtain ⟨c, hmc, d1, d2⟩ : ∃ c : Nat, mOf x = (c : Int) ∧ (512 * c : Int) ≤ K ∧ K ≤ 512 * (c + 1) := by
    by_cases hneg : 0 ≤ fv .f64 (mul4 x)
    · obtain ⟨c, d1, d2, d3, d4⟩ := f2i_floor am.num hneg
      refine ⟨c, d3, ?_, ?_⟩
      · have : (512 : Rat) * (c : Rat) < (K : Rat) + 1 := by grind
        have h2 : ((512 * (c : Int) : Int) : Rat) < ((K + 1 : Int) : Rat) := by
          rw [Rat.intCast_mul, Rat.intCast_add, Rat.intCast_natCast]
          exact this
        have := Rat.intCast_lt_intCast.1 h2
        omega
      · have : (K : Rat) < 512 * ((c : Rat) + 1) + 1 := by grind
        have h2 : ((K : Int) : Rat) < ((512 * ((c : Int) + 1) + 1 : Int) : Rat) := by
          rw [Rat.intCast_add, Rat.intCast_mul, Rat.intCast_add, Rat.intCast_natCast]
          exact this
        have := Rat.intCast_lt_intCast.1 h2
        omega
    · exfalso
      have hz := zero_val
      obtain ⟨o1, o2, o3, o4⟩ := order_val hx.num hz.1
      have hlt := k.lt
      have hxn : 0 ≤ fv .f64 x := by
        refine Rat.not_lt.1 fun h => ?_
        have : FloatKind.f64.format.order x 0 = some .lt := o1.2 (by rw [show vl FloatKind.f64.format 0 = 0 from hz.2]; exact h)
        unfold flt at hlt
        rw [this] at hlt
        exact absurd hlt (by decide)
      have hr : 0 ≤ fv .f64 x * fv .f64 c4pi := Rat.mul_nonneg hxn (by have := c4_val.2; grind)
      have ht := tp_ge .f64
      have c5 := c4_val.2
      have hb := rmul_le (a := fv .f64 x) (b := fv .f64 c4pi) (A := 7) (B := 2) (by grind) (by grind) (by have := hx.hi; grind) (by grind) (by grind) (by grind)
      obtain ⟨_, r⟩ := fbin_mul hx.num c4_val.1 (by grind) (by grind)
      have := r.ge 0 ⟨false, 0, 0, by decide, by decide, by simp [sg]⟩ hr
      exact hneg this
  have hh : hOf x = (c + 1) / 2 := by unfold hOf; rw [hmc]; omega
  refine ⟨(c + 1) / 2, K - 1024 * (((c + 1) / 2 : Nat) : Int), hh, by omega, by omega, by omega, by omega, ?_⟩
  have hlb : -512 ≤ K - 1024 * (((c + 1) / 2 : Nat) : Int) ∧ K - 1024 * (((c + 1) / 2 : Nat) : Int) ≤ 512 := ⟨by omega, by omega⟩
  have hc5 : (c + 1) / 2 < 5 := by omega
  unfold zV zR
  rw [hh]
  generalize (c + 1) / 2 = h at *
  generalize hl : K - 1024 * (h : Int) = l at *
  obtain ⟨y1, y2, y3, y4, y5, y6, y7, y8, y9, y10, y11⟩ := yC_ok h hc5
  have l1 : (l : Rat) ≤ 512 := Rat.intCast_le_intCast.2 hlb.2
  have l2 : (-512 : Rat) ≤ (l : Rat) := Rat.intCast_le_intCast.2 hlb.1
  have lt1 : (l : Rat) * th ≤ 785399 / 1000000 := by
    have := Rat.mul_le_mul_of_nonneg_right l1 th0
    grind
  have lt2 : -(785399 / 1000000) ≤ (l : Rat) * th := by
    have := Rat.mul_le_mul_of_nonneg_right l2 th0
    grind
  have eK : (K : Rat) * th = (l : Rat) * th + ((1024 * h : Nat) : Rat) * th := by
    have : K = l + ((1024 * h : Nat) : Int) := by omega
    rw [this, Rat.intCast_add, Rat.intCast_natCast]
    grind
  generalize ((1024 * h : Nat) : Rat) * th = H at *
  obtain ⟨_, s1⟩ := hx.sub (vB_ap y1) (786 / 1000) (by grind) (by grind) (tp_big _ (by decide +kernel))
  have s1' := s1.le (e' := 174 / 100000000000000000) (by decide +kernel)
  obtain ⟨_, s2⟩ := s1'.sub (vB_ap y2) (786 / 1000) (by grind) (by grind) (tp_big _ (by decide +kernel))
  have s2' := s2.le (e' := 183 / 100000000000000000) (by decide +kernel)
  obtain ⟨_, s3⟩ := s2'.sub (vB_ap y3) (786 / 1000) (by grind) (by grind) (tp_big _ (by decide +kernel))
  exact (s3.mv (v' := (l : Rat) * th) (d := 1 / 100000000000000000000) (by grind) (by grind)).le (by decide +kernel)
end Go.Proofs.YthddkcoflnbjbaaDoor
namespace Go.Proofs.YthddkcoflnbjbaaDoor
open Sm Go Go.RowKit Fl Ieee
set_option maxRecDepth 100000
set_option linter.unusedVariables false
structure CAp (x : Nat × Nat) (z : Cx) (e : Rat) : Prop where
  re : Ap x.1 z.re e
  im : Ap x.2 z.im e
theorem CAp.le {x : Nat × Nat} {z : Cx} {e e' : Rat} (h : CAp x z e) (he : e ≤ e') : CAp x z e' := ⟨h.re.le he, h.im.le he⟩
theorem CAp.mv {x : Nat × Nat} {z z' : Cx} {e d : Rat} (h : CAp x z e) (hd : Cx.Wi (Cx.sub z z') d) : CAp x z' (e + d) := by
  obtain ⟨a1, a2, a3, a4⟩ := hd
  simp only [Cx.sub] at *
  exact ⟨h.re.mv (by grind) (by grind), h.im.mv (by grind) (by grind)⟩
theorem ap_neg {x : Nat} {v e : Rat} (h : Ap x v e) : Ap (ng x) (-v) e := by
  obtain ⟨n1, n2⟩ := neg_val h.num
  have := h.hi
  have := h.lo
  exact ⟨n1, by show fv .f64 (Op.negFloat .f64 x) - _ ≤ _; rw [n2]; grind, by show _ - fv .f64 (Op.negFloat .f64 x) ≤ _; rw [n2]; grind⟩
theorem ap_zero : Ap 0 0 0 := .of zero_val
theorem ap_mone : Ap mOne (-1) 0 := .of (kst (z := -1208925819614629174706176) (by decide +kernel) (by decide +kernel))
def eW : Rat := 1 / 100000000000000
def io2 : Rat := 4 * io
theorem mi_mul (a : Int) : Cx.Wi (Cx.sub (Cx.mul mi (U4 a)) (U4 (1024 + a))) io2 := by
  have h1 := U4_add 1024 a
  have h2 : Cx.Wi (Cx.sub (U4 1024) mi) half1 := p1024
  have h3 := h2.mul (U4_wi a)
  have hi := io_pos
  generalize U4 1024 = u at *
  generalize U4 (1024 + a) = w at *
  generalize U4 a = z at *
  obtain ⟨a1, a2, a3, a4⟩ := h1
  obtain ⟨b1, b2, b3, b4⟩ := h3
  unfold half1 io2 at *
  simp only [Cx.sub, Cx.mul] at *
  exact ⟨by grind, by grind, by grind, by grind⟩
theorem neg_half (a : Int) : Cx.Wi (Cx.sub (Cx.neg (U4 a)) (U4 (a + 2048))) io2 := by
  have h := U4_half a
  have hi := io_pos
  obtain ⟨a1, a2, a3, a4⟩ := h
  unfold io2
  simp only [Cx.sub, Cx.add, Cx.neg] at *
  exact ⟨by grind, by grind, by grind, by grind⟩
theorem wi_neg {a b : Cx} {e : Rat} (h : Cx.Wi (Cx.sub a b) e) : Cx.Wi (Cx.sub (Cx.neg a) (Cx.neg b)) e := by
  obtain ⟨a1, a2, a3, a4⟩ := h
  simp only [Cx.sub, Cx.neg] at *
  exact ⟨by grind, by grind, by grind, by grind⟩
theorem quarters {z : Cx} {l : Int} {e : Rat} (h : Cx.Wi (Cx.sub z (U4 l)) e) : Cx.Wi (Cx.sub (Cx.mul mi z) (U4 (1024 * 1 + l))) (e + io2) ∧ Cx.Wi (Cx.sub (Cx.neg z) (U4 (1024 * 2 + l))) (e + io2) ∧ Cx.Wi (Cx.sub (Cx.neg (Cx.mul mi z)) (U4 (1024 * 3 + l))) (e + io2 + io2) := by
  have h1 : Cx.Wi (Cx.sub (Cx.mul mi z) (Cx.mul mi (U4 l))) e := by
    obtain ⟨a1, a2, a3, a4⟩ := h
    simp only [Cx.sub, Cx.mul, mi] at *
    exact ⟨by grind, by grind, by grind, by grind⟩
  have h2 := sub_tri h1 (mi_mul l)
  have e1 : (1024 * 1 + l : Int) = 1024 + l := by omega
  have e2 : (1024 * 2 + l : Int) = l + 2048 := by omega
  have e3 : (1024 * 3 + l : Int) = 1024 + l + 2048 := by omega
  refine ⟨by rw [e1]; exact h2, ?_, ?_⟩
  · rw [e2]
    exact sub_tri (wi_neg h) (neg_half l)
  · rw [e3]
    exact sub_tri (wi_neg h2) (neg_half (1024 + l))
theorem ng2 {x : Nat} {v e : Rat} (h : Ap x v e) : Ap (ng (ng x)) v e := by
  have := ap_neg (ap_neg h)
  rwa [Rat.neg_neg] at this
theorem turn_near {k n D : Int} (hn0 : 1 ≤ n) (hn : n ≤ 4096) (hD : D * n = 4096) : CAp (turnP k n) (U4 (k * D)) eW := by
  have hm0 := Int.emod_nonneg k (show n ≠ 0 by omega)
  have hm1 := Int.emod_lt_of_pos k (show 0 < n by omega)
  have hkm : k * D = k % n * D + 4096 * (k / n) := by
    have h1 := Int.mul_ediv_add_emod k n
    have h2 : k * D = (n * (k / n) + k % n) * D := by rw [h1]
    rw [h2, Int.add_mul, ← hD]
    have : n * (k / n) * D = D * n * (k / n) := by rw [Int.mul_comm D n, Int.mul_assoc, Int.mul_comm (k / n) D, ← Int.mul_assoc]
    omega
  rw [hkm, U4_per]
  generalize hm : k % n = m at *
  have hio : io2 ≤ 1 / 100000000000000000 := by unfold io2 io; decide +kernel
  have hio0 : 0 ≤ io2 := by unfold io2 io; decide +kernel
  have z0 := ap_zero
  have o1 := one_ap
  have o2 := ap_mone
  have base : Cx.Wi (Cx.sub Cx.one (U4 0)) 0 := by rw [U4_zero]; exact wi_self _ (by decide)
  obtain ⟨b1, b2, b3⟩ := quarters base
  unfold turnP
  rw [if_neg (by omega), hm]
  by_cases c0 : 4 * m = 0
  · rw [if_pos c0, show m * D = 0 by rw [show m = 0 by omega, Int.zero_mul], U4_zero]
    exact (CAp.mk o1 z0).le (by unfold eW; decide +kernel)
  rw [if_neg c0]
  by_cases c1 : 4 * m = n
  · have e : m * D = 1024 * 1 + 0 := by
      have : 4 * (m * D) = 4096 := by rw [← hD, ← c1, Int.mul_comm D, Int.mul_assoc]
      omega
    rw [if_pos c1, e]
    have : CAp (0, mOne) (Cx.mul mi Cx.one) 0 := by rw [Cx.mul_one]; exact ⟨z0, o2⟩
    exact (this.mv b1).le (by unfold eW; grind)
  rw [if_neg c1]
  by_cases c2 : 4 * m = 2 * n
  · have e : m * D = 1024 * 2 + 0 := by
      have : 4 * (m * D) = 2 * 4096 := by rw [← hD, ← Int.mul_assoc, c2, Int.mul_assoc, Int.mul_comm n]
      omega
    rw [if_pos c2, e]
    have : CAp (mOne, 0) (Cx.neg Cx.one) 0 := ⟨o2, by simpa [Cx.neg, Cx.one] using z0⟩
    exact (this.mv b2).le (by unfold eW; grind)
  rw [if_neg c2]
  by_cases c3 : 4 * m = 3 * n
  · have e : m * D = 1024 * 3 + 0 := by
      have : 4 * (m * D) = 3 * 4096 := by rw [← hD, ← Int.mul_assoc, c3, Int.mul_assoc, Int.mul_comm n]
      omega
    rw [if_pos c3, e]
    have : CAp (0, kOne) (Cx.neg (Cx.mul mi Cx.one)) 0 := by
      rw [Cx.mul_one, show Cx.neg mi = ⟨0, 1⟩ from Cx.ext' (by show -(0 : Rat) = 0; decide) (by show -(-1 : Rat) = 1; decide)]
      exact ⟨z0, o1⟩
    exact (this.mv b3).le (by unfold eW; grind)
  rw [if_neg c3]
  have D0 : 0 ≤ D := by
    refine Int.not_lt.1 fun h => ?_
    have := Int.mul_le_mul_of_nonneg_right (show D ≤ -1 by omega) (show 0 ≤ n by omega)
    omega
  have mp : 0 < m := by omega
  obtain ⟨_, f1, f2, f3, f4⟩ := ang_ok mp hm1 hn
  have kx := okX_of f1 f2 f3 f4
  have hx := ang_ap mp hm1 hD hn
  have K0 : 0 ≤ m * D := Int.mul_nonneg (by omega) D0
  have K1 : m * D ≤ 4096 := by
    have := Int.mul_le_mul_of_nonneg_right (show m ≤ n by omega) D0
    rw [Int.mul_comm n D, hD] at this
    exact this
  obtain ⟨h, l, hh, h5, hK, l1, l2, hz⟩ := z_ap kx hx K0 K1
  obtain ⟨t1, t2⟩ := th_bd
  have th0 : 0 ≤ th := by grind
  have r1 : (l : Rat) ≤ 512 := Rat.intCast_le_intCast.2 l2
  have r2 : (-512 : Rat) ≤ (l : Rat) := Rat.intCast_le_intCast.2 l1
  have y1 : (l : Rat) * th ≤ 786 / 1000 := by
    have := Rat.mul_le_mul_of_nonneg_right r1 th0
    grind
  have y2 : -(786 / 1000) ≤ (l : Rat) * th := by
    have := Rat.mul_le_mul_of_nonneg_right r2 th0
    grind
  have hq := sq_ap hz y1 y2
  have yy := rmul_le (a := (l : Rat) * th) (b := (l : Rat) * th) (A := 786 / 1000) (B := 786 / 1000) (by grind) (by grind) y1 y2 y1 y2
  have hc := cosP_ap hq (sq_nn' _) (by grind)
  have hs := sinP_ap hz y1 y2 hq
  have ht := tab_int l1 l2
  obtain ⟨u1, u2, u3⟩ := quarters ht
  have hc' := hc.le (e' := 66 / 10000000000000000) (by decide +kernel)
  have hs' := hs.le (e' := 66 / 10000000000000000) (by decide +kernel)
  have hsum : 66 / 10000000000000000 + (eT2 + io2 + io2) ≤ eW := by unfold eT2 eW; grind
  rw [hK]
  unfold cosV sinV
  rw [hh]
  have qv : qV (angW m n) = sq (zV (angW m n)) := rfl
  rw [qv]
  have hPC : PC ((l : Rat) * th) = ⟨CR ((l : Rat) * th * ((l : Rat) * th)), -SR ((l : Rat) * th)⟩ := rfl
  have g0 : CAp (cosP (sq (zV (angW m n))), ng (sinP (zV (angW m n)) (sq (zV (angW m n))))) (PC ((l : Rat) * th)) (66 / 10000000000000000) := ⟨hc', ap_neg hs'⟩
  have g1 : CAp (ng (sinP (zV (angW m n)) (sq (zV (angW m n)))), ng (cosP (sq (zV (angW m n))))) (Cx.mul mi (PC ((l : Rat) * th))) (66 / 10000000000000000) := by
    constructor
    · have : (Cx.mul mi (PC ((l : Rat) * th))).re = -SR ((l : Rat) * th) := by rw [hPC]; simp only [Cx.mul, mi]; grind
      rw [this]; exact ap_neg hs'
    · have : (Cx.mul mi (PC ((l : Rat) * th))).im = -CR ((l : Rat) * th * ((l : Rat) * th)) := by rw [hPC]; simp only [Cx.mul, mi]; grind
      rw [this]; exact ap_neg hc'
  have neg1 : ∀ {x y : Nat} {z : Cx} {e : Rat}, CAp (x, y) z e → CAp (ng x, ng y) (Cx.neg z) e := fun h => ⟨ap_neg h.re, ap_neg h.im⟩
  have nn : ∀ {x y : Nat} {z : Cx} {e : Rat}, CAp (ng x, y) z e → CAp (ng (ng x), y) (⟨-z.re, z.im⟩ : Cx) e := fun h => ⟨ap_neg h.re, h.im⟩
  match h, h5 with
  | 0, _ =>
    rw [show (1024 * ((0 : Nat) : Int) + l) = l by omega]
    exact (g0.mv ht).le (by grind)
  | 1, _ => exact (g1.mv u1).le (by grind)
  | 2, _ => exact ((neg1 g0).mv u2).le (by grind)
  | 3, _ =>
    have g3 : CAp (sinP (zV (angW m n)) (sq (zV (angW m n))), ng (ng (cosP (sq (zV (angW m n)))))) (Cx.neg (Cx.mul mi (PC ((l : Rat) * th)))) (66 / 10000000000000000) := by
      constructor
      · have : (Cx.neg (Cx.mul mi (PC ((l : Rat) * th)))).re = SR ((l : Rat) * th) := by rw [hPC]; simp only [Cx.neg, Cx.mul, mi]; grind
        rw [this]; exact hs'
      · have : (Cx.neg (Cx.mul mi (PC ((l : Rat) * th)))).im = CR ((l : Rat) * th * ((l : Rat) * th)) := by rw [hPC]; simp only [Cx.neg, Cx.mul, mi]; grind
        rw [this]; exact ng2 hc'
    exact (g3.mv u3).le (by grind)
  | 4, _ =>
    rw [show (1024 * ((4 : Nat) : Int) + l) = l + 4096 * 1 by omega, U4_per]
    exact (g0.mv ht).le (by grind)
end Go.Proofs.YthddkcoflnbjbaaDoor
