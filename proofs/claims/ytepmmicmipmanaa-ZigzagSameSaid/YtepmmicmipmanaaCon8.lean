/-
  What is proved here: contracts of Same, of the program and of the reference. A text to be imported.
-/
import Derived.Test.YtepmmicmipmanaaBase
import Derived.Test.YtepmmicmipmanaaSimV
namespace Go.Proofs.Ytepmmicmipmanaa
open Sm Go Go.RowKit
set_option maxRecDepth 1000000
set_option linter.unusedVariables false
set_option linter.unusedSimpArgs false
abbrev W8 (x : Int) : Int := IntKind.i64.wrap x
def lB (n : Nat) (f : Nat → Int) (t : TypeId) : Blk := lvB .i16 64 n f t
def s0 (n : Nat) : AV := .one (.sl 0 0 n 64)
def s1 (n : Nat) : AV := .one (.sl 1 0 n 64)
def dn8 (n : Nat) : AV := .one (.sc (.int .i64 (n : Int)) false)
def di8 (i : Int) : AV := .one (.sc (.int .i64 i) false)
def bF : AV := .one (.sc (.bool false) true)
def eqA (f g : Nat → Int) (o : Nat) : Bool := eqN (fun j => f (o + j)) (fun j => g (o + j)) 64 0
noncomputable def L11 : Code := pathC (bodyC Try.f11) [0]
theorem r11 (n : Nat) (i : Int) (f g : Nat → Int) (t1 t2 : TypeId) (X : Ex → Nat → List AV → List Blk → Prop) :
    roundK Try.prog T Fns.none 400 L11 (tmL 26 [(0, s0 n), (1, s1 n), (12, dn8 n), (13, di8 i)]) [lB n f t1, lB n g t2] [.b true, .b false] [0, 1, 12, 13] X =
    (decide (i < (n : Int)) = true ∧ ((0 ≤ i ∧ i < (n : Int)) ∧ (0 + i.toNat * 64 + 64 ≤ n * 64 ∧ ((0 ≤ i ∧ i < (n : Int)) ∧ (0 + i.toNat * 64 + 64 ≤ n * 64 ∧ ((!eqA f g (0 + i.toNat * 64)) = false ∧ X .normal 26 [s0 n, s1 n, dn8 n, di8 (W8 (i + 1))] [lB n f t1, lB n g t2])))))) := by kernel_rfl
theorem d11 (n : Nat) (i : Int) (f g : Nat → Int) (t1 t2 : TypeId) (X : Ex → Nat → List AV → List Blk → Prop) :
    roundK Try.prog T Fns.none 400 L11 (tmL 26 [(0, s0 n), (1, s1 n), (12, dn8 n), (13, di8 i)]) [lB n f t1, lB n g t2] [.b true, .b true] [4] X =
    (decide (i < (n : Int)) = true ∧ ((0 ≤ i ∧ i < (n : Int)) ∧ (0 + i.toNat * 64 + 64 ≤ n * 64 ∧ ((0 ≤ i ∧ i < (n : Int)) ∧ (0 + i.toNat * 64 + 64 ≤ n * 64 ∧ ((!eqA f g (0 + i.toNat * 64)) = true ∧ X .ret 26 [bF] [lB n f t1, lB n g t2])))))) := by kernel_rfl
theorem e11 (n : Nat) (i : Int) (f g : Nat → Int) (t1 t2 : TypeId) (X : Ex → Nat → List AV → List Blk → Prop) :
    roundK Try.prog T Fns.none 400 L11 (tmL 26 [(0, s0 n), (1, s1 n), (12, dn8 n), (13, di8 i)]) [lB n f t1, lB n g t2] [.b false] [] X =
    (decide (i < (n : Int)) = false ∧ X (.exit 0) 26 [] [lB n f t1, lB n g t2]) := by kernel_rfl
noncomputable def LI : Code := pathC (bodyC Try.f12) [0, 0]
noncomputable def LO : Code := pathC (bodyC Try.f12) [0]
def iAsk (n : Nat) (i k : Int) (r : Prop) : Prop :=
  decide (k < 64) = true ∧ ((0 ≤ i ∧ i < (n : Int)) ∧ ((0 ≤ k ∧ k < ((64 : Nat) : Int)) ∧ (0 + i.toNat * 64 + k.toNat < n * 64 ∧ ((0 ≤ i ∧ i < (n : Int)) ∧ ((0 ≤ k ∧ k < ((64 : Nat) : Int)) ∧ (0 + i.toNat * 64 + k.toNat < n * 64 ∧ r))))))
def nE (f g : Nat → Int) (j : Nat) : Bool := f j != g j
theorem rI (n : Nat) (i k : Int) (f g : Nat → Int) (t1 t2 : TypeId) (X : Ex → Nat → List AV → List Blk → Prop) :
    roundK Try.prog T Fns.none 400 LI (tmL 35 [(0, s0 n), (1, s1 n), (5, di8 i), (6, di8 k)]) [lB n f t1, lB n g t2] [.b true, .b false] [0, 1, 5, 6] X =
    iAsk n i k (nE f g (0 + i.toNat * 64 + k.toNat) = false ∧ X .normal 35 [s0 n, s1 n, di8 i, di8 (W8 (k + 1))] [lB n f t1, lB n g t2]) := by kernel_rfl
theorem dI (n : Nat) (i k : Int) (f g : Nat → Int) (t1 t2 : TypeId) (X : Ex → Nat → List AV → List Blk → Prop) :
    roundK Try.prog T Fns.none 400 LI (tmL 35 [(0, s0 n), (1, s1 n), (5, di8 i), (6, di8 k)]) [lB n f t1, lB n g t2] [.b true, .b true] [4] X =
    iAsk n i k (nE f g (0 + i.toNat * 64 + k.toNat) = true ∧ X .ret 35 [bF] [lB n f t1, lB n g t2]) := by kernel_rfl
theorem eI (n : Nat) (i k : Int) (f g : Nat → Int) (t1 t2 : TypeId) (X : Ex → Nat → List AV → List Blk → Prop) :
    roundK Try.prog T Fns.none 400 LI (tmL 35 [(0, s0 n), (1, s1 n), (5, di8 i), (6, di8 k)]) [lB n f t1, lB n g t2] [.b false] [0, 1, 5] X =
    (decide (k < 64) = false ∧ X (.exit 2) 35 [s0 n, s1 n, di8 i] [lB n f t1, lB n g t2]) := by kernel_rfl
/-! ### the loops -/
def slots11 (n i : Nat) : List (Nat × AV) := [(0, s0 n), (1, s1 n), (12, dn8 n), (13, di8 (i : Nat))]
theorem w8 (i n : Nat) (h : n ≤ 9223372036854775807) (hi : i < n) : W8 ((i : Nat) + 1) = ((i + 1 : Nat) : Int) := by
  rw [show W8 (((i : Nat) : Int) + 1) = ((i : Nat) : Int) + 1 from w64 (by omega) (by omega)]
  rfl
theorem round11 {n i : Nat} {f g : Nat → Int} (t1 t2 : TypeId) (hn : n ≤ 9223372036854775807) (hi : i < n) (he : eqA f g (i * 64) = true) :
    roundK Try.prog T Fns.none 400 L11 (tmL 26 (slots11 n i)) [lB n f t1, lB n g t2] [.b true, .b false] ((slots11 n (i + 1)).map (·.1)) (After .normal 26 (slots11 n (i + 1)) [lB n f t1, lB n g t2]) := by
  show roundK Try.prog T Fns.none 400 L11 (tmL 26 [(0, s0 n), (1, s1 n), (12, dn8 n), (13, di8 (i : Nat))]) [lB n f t1, lB n g t2] [.b true, .b false] [0, 1, 12, 13] _
  rw [r11]
  have e : 0 + ((i : Nat) : Int).toNat * 64 = i * 64 := by simp
  rw [e, he]
  refine ⟨decide_eq_true (by omega), by omega, by omega, by omega, by omega, rfl, rfl, rfl, ?_, HpLe.refl _⟩
  refine ⟨sameV.refl _, sameV.refl _, sameV.refl _, ?_, trivial⟩
  show Value.int .i64 (W8 ((i : Nat) + 1)) = Value.int .i64 ((i + 1 : Nat) : Int)
  rw [w8 i n hn hi]
theorem exit11 {n : Nat} {f g : Nat → Int} (t1 t2 : TypeId) :
    roundK Try.prog T Fns.none 400 L11 (tmL 26 (slots11 n n)) [lB n f t1, lB n g t2] [.b false] (([] : List (Nat × AV)).map (·.1)) (After (.exit 0) 26 [] [lB n f t1, lB n g t2]) := by
  show roundK Try.prog T Fns.none 400 L11 (tmL 26 [(0, s0 n), (1, s1 n), (12, dn8 n), (13, di8 (n : Nat))]) [lB n f t1, lB n g t2] [.b false] [] _
  rw [e11]
  exact ⟨decide_eq_false (by omega), rfl, rfl, trivial, HpLe.refl _⟩
theorem ret11 {n i : Nat} {f g : Nat → Int} (t1 t2 : TypeId) (hi : i < n) (he : eqA f g (i * 64) = false) :
    roundK Try.prog T Fns.none 400 L11 (tmL 26 (slots11 n i)) [lB n f t1, lB n g t2] [.b true, .b true] ([((4 : Nat), bF)].map (·.1)) (After .ret 26 [(4, bF)] [lB n f t1, lB n g t2]) := by
  show roundK Try.prog T Fns.none 400 L11 (tmL 26 [(0, s0 n), (1, s1 n), (12, dn8 n), (13, di8 (i : Nat))]) [lB n f t1, lB n g t2] [.b true, .b true] [4] _
  rw [d11]
  have e : 0 + ((i : Nat) : Int).toNat * 64 = i * 64 := by simp
  rw [e, he]
  exact ⟨decide_eq_true (by omega), by omega, by omega, by omega, by omega, rfl, rfl, rfl, ⟨sameV.refl _, trivial⟩, HpLe.refl _⟩
theorem loopEq11 {n : Nat} {f g : Nat → Int} (t1 t2 : TypeId) (hn : n ≤ 9223372036854775807) (he : ∀ i, i < n → eqA f g (i * 64) = true) :
    LoopOk Try.prog L11 (tmL 26 (slots11 n 0)) [lB n f t1, lB n g t2] (.exit 0) (tmL 26 []) [lB n f t1, lB n g t2] :=
  loop_rounds hm hT FnsOk.none 26 n (slots11 n) (fun _ => [lB n f t1, lB n g t2]) (.exit 0) [] [lB n f t1, lB n g t2] (fun h => by cases h)
    (fun i hi => ⟨400, [.b true, .b false], round11 t1 t2 hn hi (he i hi)⟩) ⟨400, [.b false], exit11 t1 t2⟩ 0 (by omega)
theorem loopNe11 {n i0 : Nat} {f g : Nat → Int} (t1 t2 : TypeId) (hn : n ≤ 9223372036854775807) (hi0 : i0 < n) (he : ∀ i, i < i0 → eqA f g (i * 64) = true) (hd : eqA f g (i0 * 64) = false) :
    LoopOk Try.prog L11 (tmL 26 (slots11 n 0)) [lB n f t1, lB n g t2] .ret (tmL 26 [(4, bF)]) [lB n f t1, lB n g t2] :=
  loop_rounds hm hT FnsOk.none 26 i0 (slots11 n) (fun _ => [lB n f t1, lB n g t2]) .ret [(4, bF)] [lB n f t1, lB n g t2] (fun h => by cases h)
    (fun i hi => ⟨400, [.b true, .b false], round11 t1 t2 hn (by omega) (he i hi)⟩) ⟨400, [.b true, .b true], ret11 t1 t2 hi0 hd⟩ 0 (by omega)
/-- The reference's inner loop. -/
def slotsI (n i k : Nat) : List (Nat × AV) := [(0, s0 n), (1, s1 n), (5, di8 (i : Nat)), (6, di8 (k : Nat))]
theorem roundI {n i k : Nat} {f g : Nat → Int} (t1 t2 : TypeId) (hi : i < n) (hk : k < 64) (he : f (i * 64 + k) = g (i * 64 + k)) :
    roundK Try.prog T Fns.none 400 LI (tmL 35 (slotsI n i k)) [lB n f t1, lB n g t2] [.b true, .b false] ((slotsI n i (k + 1)).map (·.1)) (After .normal 35 (slotsI n i (k + 1)) [lB n f t1, lB n g t2]) := by
  show roundK Try.prog T Fns.none 400 LI (tmL 35 [(0, s0 n), (1, s1 n), (5, di8 (i : Nat)), (6, di8 (k : Nat))]) [lB n f t1, lB n g t2] [.b true, .b false] [0, 1, 5, 6] _
  rw [rI]
  have e : 0 + ((i : Nat) : Int).toNat * 64 + ((k : Nat) : Int).toNat = i * 64 + k := by simp
  unfold iAsk
  rw [e]
  refine ⟨decide_eq_true (by omega), by omega, by omega, by omega, by omega, by omega, by omega, by simp [nE, he], rfl, rfl, ?_, HpLe.refl _⟩
  refine ⟨sameV.refl _, sameV.refl _, sameV.refl _, ?_, trivial⟩
  show Value.int .i64 (W8 ((k : Nat) + 1)) = Value.int .i64 ((k + 1 : Nat) : Int)
  rw [w8 k 64 (by omega) hk]
theorem exitI {n i : Nat} {f g : Nat → Int} (t1 t2 : TypeId) :
    roundK Try.prog T Fns.none 400 LI (tmL 35 (slotsI n i 64)) [lB n f t1, lB n g t2] [.b false] ([((0 : Nat), s0 n), (1, s1 n), (5, di8 (i : Nat))].map (·.1)) (After (.exit 2) 35 [(0, s0 n), (1, s1 n), (5, di8 (i : Nat))] [lB n f t1, lB n g t2]) := by
  show roundK Try.prog T Fns.none 400 LI (tmL 35 [(0, s0 n), (1, s1 n), (5, di8 (i : Nat)), (6, di8 ((64 : Nat) : Int))]) [lB n f t1, lB n g t2] [.b false] [0, 1, 5] _
  rw [eI]
  exact ⟨decide_eq_false (by omega), rfl, rfl, ⟨sameV.refl _, sameV.refl _, sameV.refl _, trivial⟩, HpLe.refl _⟩
theorem retI {n i k : Nat} {f g : Nat → Int} (t1 t2 : TypeId) (hi : i < n) (hk : k < 64) (he : f (i * 64 + k) ≠ g (i * 64 + k)) :
    roundK Try.prog T Fns.none 400 LI (tmL 35 (slotsI n i k)) [lB n f t1, lB n g t2] [.b true, .b true] ([((4 : Nat), bF)].map (·.1)) (After .ret 35 [(4, bF)] [lB n f t1, lB n g t2]) := by
  show roundK Try.prog T Fns.none 400 LI (tmL 35 [(0, s0 n), (1, s1 n), (5, di8 (i : Nat)), (6, di8 (k : Nat))]) [lB n f t1, lB n g t2] [.b true, .b true] [4] _
  rw [dI]
  have e : 0 + ((i : Nat) : Int).toNat * 64 + ((k : Nat) : Int).toNat = i * 64 + k := by simp
  unfold iAsk
  rw [e]
  exact ⟨decide_eq_true (by omega), by omega, by omega, by omega, by omega, by omega, by omega, by simp [nE, he], rfl, rfl, ⟨sameV.refl _, trivial⟩, HpLe.refl _⟩
theorem loopEqI {n i : Nat} {f g : Nat → Int} (t1 t2 : TypeId) (hi : i < n) (he : ∀ k, k < 64 → f (i * 64 + k) = g (i * 64 + k)) :
    LoopOk Try.prog LI (tmL 35 (slotsI n i 0)) [lB n f t1, lB n g t2] (.exit 2) (tmL 35 [(0, s0 n), (1, s1 n), (5, di8 (i : Nat))]) [lB n f t1, lB n g t2] :=
  loop_rounds hm hT FnsOk.none 35 64 (slotsI n i) (fun _ => [lB n f t1, lB n g t2]) (.exit 2) [(0, s0 n), (1, s1 n), (5, di8 (i : Nat))] [lB n f t1, lB n g t2] (fun h => by cases h)
    (fun k hk => ⟨400, [.b true, .b false], roundI t1 t2 hi hk (he k hk)⟩) ⟨400, [.b false], exitI t1 t2⟩ 0 (by omega)
theorem loopNeI {n i k0 : Nat} {f g : Nat → Int} (t1 t2 : TypeId) (hi : i < n) (hk0 : k0 < 64) (he : ∀ k, k < k0 → f (i * 64 + k) = g (i * 64 + k)) (hd : f (i * 64 + k0) ≠ g (i * 64 + k0)) :
    LoopOk Try.prog LI (tmL 35 (slotsI n i 0)) [lB n f t1, lB n g t2] .ret (tmL 35 [(4, bF)]) [lB n f t1, lB n g t2] :=
  loop_rounds hm hT FnsOk.none 35 k0 (slotsI n i) (fun _ => [lB n f t1, lB n g t2]) .ret [(4, bF)] [lB n f t1, lB n g t2] (fun h => by cases h)
    (fun k hk => ⟨400, [.b true, .b false], roundI t1 t2 hi (by omega) (he k hk)⟩) ⟨400, [.b true, .b true], retI t1 t2 hi hk0 hd⟩ 0 (by omega)
/-- The inner loop's contracts: 0 leaves it at its end, 1 hands back. -/
def askI (n : Nat) (i : Nat) (f g : Nat → Int) (t1 t2 : TypeId) (tn : Nat) (a0 a1 a5 a6 : AV) (hp : List Blk) (what : Prop) : Prop :=
  tn = 35 ∧ a0 = s0 n ∧ a1 = s1 n ∧ sameV a5 (di8 (i : Nat)) ∧ sameV a6 (di8 0) ∧ hp = [lB n f t1, lB n g t2] ∧ i < n ∧ what
def cI0 (n i : Nat) (f g : Nat → Int) (t1 t2 : TypeId) (tm : Tm) (hp : List Blk) : Option (Prop × Ex × Tm × List Blk) :=
  some (askI n i f g t1 t2 tm.n (getT tm 0) (getT tm 1) (getT tm 5) (getT tm 6) hp (∀ k, k < 64 → f (i * 64 + k) = g (i * 64 + k)), .exit 2, tmL 35 [(0, s0 n), (1, s1 n), (5, di8 (i : Nat))], [lB n f t1, lB n g t2])
def cI1 (n i : Nat) (f g : Nat → Int) (t1 t2 : TypeId) (tm : Tm) (hp : List Blk) : Option (Prop × Ex × Tm × List Blk) :=
  some (askI n i f g t1 t2 tm.n (getT tm 0) (getT tm 1) (getT tm 5) (getT tm 6) hp (∃ k0, k0 < 64 ∧ (∀ k, k < k0 → f (i * 64 + k) = g (i * 64 + k)) ∧ f (i * 64 + k0) ≠ g (i * 64 + k0)), .ret, tmL 35 [(4, bF)], [lB n f t1, lB n g t2])
theorem sameV.of_eq {a b : AV} (h : a = b) : sameV a b := h ▸ sameV.refl _
theorem cI0_ok (n i : Nat) (f g : Nat → Int) (t1 t2 : TypeId) (tm : Tm) (hp : List Blk) (p : Prop) (x : Ex) (tm' : Tm) (hp' : List Blk) (h : cI0 n i f g t1 t2 tm hp = some (p, x, tm', hp')) (hp1 : p) : LoopOk Try.prog LI tm hp x tm' hp' := by
  unfold cI0 at h
  simp only [Option.some.injEq, Prod.mk.injEq] at h
  obtain ⟨rfl, rfl, rfl, rfl⟩ := h
  obtain ⟨hn, h0, h1, h5, h6, rfl, hi, hw⟩ := hp1
  exact (loopEqI t1 t2 hi hw).weak (Weak.of hn ⟨sameV.of_eq h0, sameV.of_eq h1, h5, h6, trivial⟩ (HpLe.refl _)) (Weak.refl _ _)
theorem cI1_ok (n i : Nat) (f g : Nat → Int) (t1 t2 : TypeId) (tm : Tm) (hp : List Blk) (p : Prop) (x : Ex) (tm' : Tm) (hp' : List Blk) (h : cI1 n i f g t1 t2 tm hp = some (p, x, tm', hp')) (hp1 : p) : LoopOk Try.prog LI tm hp x tm' hp' := by
  unfold cI1 at h
  simp only [Option.some.injEq, Prod.mk.injEq] at h
  obtain ⟨rfl, rfl, rfl, rfl⟩ := h
  obtain ⟨hn, h0, h1, h5, h6, rfl, hi, k0, hk0, he, hd⟩ := hp1
  exact (loopNeI t1 t2 hi hk0 he hd).weak (Weak.of hn ⟨sameV.of_eq h0, sameV.of_eq h1, h5, h6, trivial⟩ (HpLe.refl _)) (Weak.refl _ _)
noncomputable def FI (n i : Nat) (f g : Nat → Int) (t1 t2 : TypeId) : Fns := (Fns.none.addLoop 0 LI (cI0 n i f g t1 t2)).addLoop 1 LI (cI1 n i f g t1 t2)
theorem FIok (n i : Nat) (f g : Nat → Int) (t1 t2 : TypeId) : FnsOk Try.prog (FI n i f g t1 t2) := (FnsOk.none.addLoop 0 LI _ (cI0_ok n i f g t1 t2)).addLoop 1 LI _ (cI1_ok n i f g t1 t2)
/-- The reference's outer loop. -/
theorem rO (n i : Nat) (f g : Nat → Int) (t1 t2 : TypeId) (X : Ex → Nat → List AV → List Blk → Prop) :
    roundK Try.prog T (FI n i f g t1 t2) 400 LO (tmL 35 [(0, s0 n), (1, s1 n), (5, di8 (i : Nat))]) [lB n f t1, lB n g t2] [.b true, .l 0] [0, 1, 5] X =
    (decide (((i : Nat) : Int) < (n : Int)) = true ∧ (LI = LI ∧ (askI n i f g t1 t2 35 (s0 n) (s1 n) (di8 (i : Nat)) (.one (.sc (.int .i64 0) true)) [lB n f t1, lB n g t2] (∀ k, k < 64 → f (i * 64 + k) = g (i * 64 + k)) ∧ X .normal 35 [s0 n, s1 n, di8 (W8 ((i : Nat) + 1))] [lB n f t1, lB n g t2]))) := by kernel_rfl
theorem dO (n i : Nat) (f g : Nat → Int) (t1 t2 : TypeId) (X : Ex → Nat → List AV → List Blk → Prop) :
    roundK Try.prog T (FI n i f g t1 t2) 400 LO (tmL 35 [(0, s0 n), (1, s1 n), (5, di8 (i : Nat))]) [lB n f t1, lB n g t2] [.b true, .l 1] [4] X =
    (decide (((i : Nat) : Int) < (n : Int)) = true ∧ (LI = LI ∧ (askI n i f g t1 t2 35 (s0 n) (s1 n) (di8 (i : Nat)) (.one (.sc (.int .i64 0) true)) [lB n f t1, lB n g t2] (∃ k0, k0 < 64 ∧ (∀ k, k < k0 → f (i * 64 + k) = g (i * 64 + k)) ∧ f (i * 64 + k0) ≠ g (i * 64 + k0)) ∧ X .ret 35 [bF] [lB n f t1, lB n g t2]))) := by kernel_rfl
theorem eO (n i : Nat) (f g : Nat → Int) (t1 t2 : TypeId) (X : Ex → Nat → List AV → List Blk → Prop) :
    roundK Try.prog T (FI n i f g t1 t2) 400 LO (tmL 35 [(0, s0 n), (1, s1 n), (5, di8 (i : Nat))]) [lB n f t1, lB n g t2] [.b false] [] X =
    (decide (((i : Nat) : Int) < (n : Int)) = false ∧ X (.exit 0) 35 [] [lB n f t1, lB n g t2]) := by kernel_rfl
def slotsO (n i : Nat) : List (Nat × AV) := [(0, s0 n), (1, s1 n), (5, di8 (i : Nat))]
theorem roundO {n i : Nat} {f g : Nat → Int} (t1 t2 : TypeId) (hn : n ≤ 9223372036854775807) (hi : i < n) (he : ∀ k, k < 64 → f (i * 64 + k) = g (i * 64 + k)) :
    roundK Try.prog T (FI n i f g t1 t2) 400 LO (tmL 35 (slotsO n i)) [lB n f t1, lB n g t2] [.b true, .l 0] ((slotsO n (i + 1)).map (·.1)) (After .normal 35 (slotsO n (i + 1)) [lB n f t1, lB n g t2]) := by
  show roundK Try.prog T (FI n i f g t1 t2) 400 LO (tmL 35 [(0, s0 n), (1, s1 n), (5, di8 (i : Nat))]) [lB n f t1, lB n g t2] [.b true, .l 0] [0, 1, 5] _
  rw [rO]
  refine ⟨decide_eq_true (by omega), rfl, ⟨rfl, rfl, rfl, sameV.refl _, rfl, rfl, hi, he⟩, rfl, rfl, ?_, HpLe.refl _⟩
  refine ⟨sameV.refl _, sameV.refl _, ?_, trivial⟩
  show Value.int .i64 (W8 ((i : Nat) + 1)) = Value.int .i64 ((i + 1 : Nat) : Int)
  rw [w8 i n hn hi]
theorem exitO {n : Nat} {f g : Nat → Int} (t1 t2 : TypeId) :
    roundK Try.prog T (FI n n f g t1 t2) 400 LO (tmL 35 (slotsO n n)) [lB n f t1, lB n g t2] [.b false] (([] : List (Nat × AV)).map (·.1)) (After (.exit 0) 35 [] [lB n f t1, lB n g t2]) := by
  show roundK Try.prog T (FI n n f g t1 t2) 400 LO (tmL 35 [(0, s0 n), (1, s1 n), (5, di8 (n : Nat))]) [lB n f t1, lB n g t2] [.b false] [] _
  rw [eO]
  exact ⟨decide_eq_false (by omega), rfl, rfl, trivial, HpLe.refl _⟩
theorem retO {n i : Nat} {f g : Nat → Int} (t1 t2 : TypeId) (hi : i < n) (hd : ∃ k0, k0 < 64 ∧ (∀ k, k < k0 → f (i * 64 + k) = g (i * 64 + k)) ∧ f (i * 64 + k0) ≠ g (i * 64 + k0)) :
    roundK Try.prog T (FI n i f g t1 t2) 400 LO (tmL 35 (slotsO n i)) [lB n f t1, lB n g t2] [.b true, .l 1] ([((4 : Nat), bF)].map (·.1)) (After .ret 35 [(4, bF)] [lB n f t1, lB n g t2]) := by
  show roundK Try.prog T (FI n i f g t1 t2) 400 LO (tmL 35 [(0, s0 n), (1, s1 n), (5, di8 (i : Nat))]) [lB n f t1, lB n g t2] [.b true, .l 1] [4] _
  rw [dO]
  exact ⟨decide_eq_true (by omega), rfl, ⟨rfl, rfl, rfl, sameV.refl _, rfl, rfl, hi, hd⟩, rfl, rfl, ⟨sameV.refl _, trivial⟩, HpLe.refl _⟩
theorem loopEqO {n : Nat} {f g : Nat → Int} (t1 t2 : TypeId) (hn : n ≤ 9223372036854775807) (he : ∀ i, i < n → ∀ k, k < 64 → f (i * 64 + k) = g (i * 64 + k)) :
    LoopOk Try.prog LO (tmL 35 (slotsO n 0)) [lB n f t1, lB n g t2] (.exit 0) (tmL 35 []) [lB n f t1, lB n g t2] :=
  loop_roundsF hm hT 35 n (slotsO n) (fun _ => [lB n f t1, lB n g t2]) (.exit 0) [] [lB n f t1, lB n g t2] (fun h => by cases h)
    (fun i hi => ⟨FI n i f g t1 t2, FIok n i f g t1 t2, 400, [.b true, .l 0], roundO t1 t2 hn hi (he i hi)⟩) ⟨FI n n f g t1 t2, FIok n n f g t1 t2, 400, [.b false], exitO t1 t2⟩ 0 (by omega)
theorem loopNeO {n i0 : Nat} {f g : Nat → Int} (t1 t2 : TypeId) (hn : n ≤ 9223372036854775807) (hi0 : i0 < n) (he : ∀ i, i < i0 → ∀ k, k < 64 → f (i * 64 + k) = g (i * 64 + k)) (hd : ∃ k0, k0 < 64 ∧ (∀ k, k < k0 → f (i0 * 64 + k) = g (i0 * 64 + k)) ∧ f (i0 * 64 + k0) ≠ g (i0 * 64 + k0)) :
    LoopOk Try.prog LO (tmL 35 (slotsO n 0)) [lB n f t1, lB n g t2] .ret (tmL 35 [(4, bF)]) [lB n f t1, lB n g t2] :=
  loop_roundsF hm hT 35 i0 (slotsO n) (fun _ => [lB n f t1, lB n g t2]) .ret [(4, bF)] [lB n f t1, lB n g t2] (fun h => by cases h)
    (fun i hi => ⟨FI n i f g t1 t2, FIok n i f g t1 t2, 400, [.b true, .l 0], roundO t1 t2 hn (by omega) (he i hi)⟩) ⟨FI n i0 f g t1 t2, FIok n i0 f g t1 t2, 400, [.b true, .l 1], retO t1 t2 hi0 hd⟩ 0 (by omega)
/-! ### the functions -/
/-- Are two lists alike? -/
def allB (N : Nat) (f g : Nat → Int) : Bool := (List.range N).all fun j => f j == g j
def sameB (n m : Nat) (f g : Nat → Int) : Bool := decide (n = m) && allB (n * 64) f g
theorem allB_iff {N : Nat} {f g : Nat → Int} : allB N f g = true ↔ ∀ j, j < N → f j = g j := by
  simp [allB]
theorem least {N : Nat} {p : Nat → Prop} (h : ¬ ∀ j, j < N → p j) : ∃ j0, j0 < N ∧ ¬ p j0 ∧ ∀ j, j < j0 → p j := by
  classical
  induction N with
  | zero => exact absurd (fun j hj => absurd hj (Nat.not_lt_zero j)) h
  | succ N ih =>
    by_cases hN : ∀ j, j < N → p j
    · refine ⟨N, by omega, fun hp => h fun j hj => ?_, hN⟩
      by_cases hj' : j < N
      · exact hN j hj'
      · rw [show j = N from by omega]; exact hp
    · obtain ⟨j0, h1, h2, h3⟩ := ih hN
      exact ⟨j0, by omega, h2, h3⟩
theorem eqA_iff {f g : Nat → Int} {o : Nat} : eqA f g o = true ↔ ∀ k, k < 64 → f (o + k) = g (o + k) := by
  have key : ∀ (n i : Nat) (a b : Nat → Int), eqN a b n i = true ↔ ∀ k, k < n → a (i + k) = b (i + k) := by
    intro n
    induction n with
    | zero => intro i a b; simp [eqN]
    | succ n ih =>
      intro i a b
      simp only [eqN, Bool.and_eq_true, beq_iff_eq, ih]
      constructor
      · rintro ⟨h0, h1⟩ k hk
        cases k with
        | zero => exact h0
        | succ k => have := h1 k (by omega); rw [show i + (k + 1) = i + 1 + k from by omega]; exact this
      · intro h
        exact ⟨h 0 (by omega), fun k hk => by have := h (k + 1) (by omega); rw [show i + 1 + k = i + (k + 1) from by omega]; exact this⟩
  unfold eqA
  rw [key]
  simp
/-- The loops' contracts, and the calls. -/
def ask11 (n : Nat) (f g : Nat → Int) (t1 t2 : TypeId) (tn : Nat) (a0 a1 a12 a13 : AV) (hp : List Blk) (what : Prop) : Prop :=
  tn = 26 ∧ a0 = s0 n ∧ a1 = s1 n ∧ sameV a12 (dn8 n) ∧ sameV a13 (di8 0) ∧ hp = [lB n f t1, lB n g t2] ∧ n ≤ 9223372036854775807 ∧ what
def c11 (n : Nat) (f g : Nat → Int) (t1 t2 : TypeId) (eq : Bool) (tm : Tm) (hp : List Blk) : Option (Prop × Ex × Tm × List Blk) :=
  match eq with
  | true => some (ask11 n f g t1 t2 tm.n (getT tm 0) (getT tm 1) (getT tm 12) (getT tm 13) hp (allB (n * 64) f g = true), .exit 0, tmL 26 [], [lB n f t1, lB n g t2])
  | false => some (ask11 n f g t1 t2 tm.n (getT tm 0) (getT tm 1) (getT tm 12) (getT tm 13) hp (allB (n * 64) f g = false), .ret, tmL 26 [(4, bF)], [lB n f t1, lB n g t2])
theorem blockEq {n : Nat} {f g : Nat → Int} (h : allB (n * 64) f g = true) : ∀ i, i < n → ∀ k, k < 64 → f (i * 64 + k) = g (i * 64 + k) := fun i hi k hk => allB_iff.1 h _ (by omega)
theorem blockNe {n : Nat} {f g : Nat → Int} (h : allB (n * 64) f g = false) : ∃ i0, i0 < n ∧ (∀ i, i < i0 → ∀ k, k < 64 → f (i * 64 + k) = g (i * 64 + k)) ∧ ∃ k0, k0 < 64 ∧ (∀ k, k < k0 → f (i0 * 64 + k) = g (i0 * 64 + k)) ∧ f (i0 * 64 + k0) ≠ g (i0 * 64 + k0) := by
  have hn : ¬ ∀ j, j < n * 64 → f j = g j := fun hall => by rw [allB_iff.2 hall] at h; cases h
  obtain ⟨j0, h1, h2, h3⟩ := least hn
  refine ⟨j0 / 64, by omega, fun i hi k hk => h3 _ (by omega), j0 % 64, by omega, fun k hk => h3 _ (by omega), ?_⟩
  rw [show j0 / 64 * 64 + j0 % 64 = j0 from by omega]
  exact h2
theorem c11_ok (n : Nat) (f g : Nat → Int) (t1 t2 : TypeId) (eq : Bool) (tm : Tm) (hp : List Blk) (p : Prop) (x : Ex) (tm' : Tm) (hp' : List Blk) (h : c11 n f g t1 t2 eq tm hp = some (p, x, tm', hp')) (hp1 : p) : LoopOk Try.prog L11 tm hp x tm' hp' := by
  unfold c11 at h
  cases eq with
  | true =>
    simp only [Option.some.injEq, Prod.mk.injEq] at h
    obtain ⟨rfl, rfl, rfl, rfl⟩ := h
    obtain ⟨hn, h0, h1, h5, h6, rfl, hi, hw⟩ := hp1
    exact (loopEq11 t1 t2 hi fun i hi => eqA_iff.2 (blockEq hw i hi)).weak (Weak.of hn ⟨sameV.of_eq h0, sameV.of_eq h1, h5, h6, trivial⟩ (HpLe.refl _)) (Weak.refl _ _)
  | false =>
    simp only [Option.some.injEq, Prod.mk.injEq] at h
    obtain ⟨rfl, rfl, rfl, rfl⟩ := h
    obtain ⟨hn, h0, h1, h5, h6, rfl, hi, hw⟩ := hp1
    obtain ⟨i0, hi0, he, k0, hk0, _, hd⟩ := blockNe hw
    refine (loopNe11 t1 t2 hi hi0 (fun i hi => eqA_iff.2 (he i hi)) ?_).weak (Weak.of hn ⟨sameV.of_eq h0, sameV.of_eq h1, h5, h6, trivial⟩ (HpLe.refl _)) (Weak.refl _ _)
    rw [← Bool.not_eq_true]
    exact fun hh => hd (eqA_iff.1 hh k0 hk0)
def ask12 (n : Nat) (f g : Nat → Int) (t1 t2 : TypeId) (tn : Nat) (a0 a1 a5 : AV) (hp : List Blk) (what : Prop) : Prop :=
  tn = 35 ∧ a0 = s0 n ∧ a1 = s1 n ∧ sameV a5 (di8 0) ∧ hp = [lB n f t1, lB n g t2] ∧ n ≤ 9223372036854775807 ∧ what
def c12 (n : Nat) (f g : Nat → Int) (t1 t2 : TypeId) (eq : Bool) (tm : Tm) (hp : List Blk) : Option (Prop × Ex × Tm × List Blk) :=
  match eq with
  | true => some (ask12 n f g t1 t2 tm.n (getT tm 0) (getT tm 1) (getT tm 5) hp (allB (n * 64) f g = true), .exit 0, tmL 35 [], [lB n f t1, lB n g t2])
  | false => some (ask12 n f g t1 t2 tm.n (getT tm 0) (getT tm 1) (getT tm 5) hp (allB (n * 64) f g = false), .ret, tmL 35 [(4, bF)], [lB n f t1, lB n g t2])
theorem c12_ok (n : Nat) (f g : Nat → Int) (t1 t2 : TypeId) (eq : Bool) (tm : Tm) (hp : List Blk) (p : Prop) (x : Ex) (tm' : Tm) (hp' : List Blk) (h : c12 n f g t1 t2 eq tm hp = some (p, x, tm', hp')) (hp1 : p) : LoopOk Try.prog LO tm hp x tm' hp' := by
  unfold c12 at h
  cases eq with
  | true =>
    simp only [Option.some.injEq, Prod.mk.injEq] at h
    obtain ⟨rfl, rfl, rfl, rfl⟩ := h
    obtain ⟨hn, h0, h1, h5, rfl, hi, hw⟩ := hp1
    exact (loopEqO t1 t2 hi (blockEq hw)).weak (Weak.of hn ⟨sameV.of_eq h0, sameV.of_eq h1, h5, trivial⟩ (HpLe.refl _)) (Weak.refl _ _)
  | false =>
    simp only [Option.some.injEq, Prod.mk.injEq] at h
    obtain ⟨rfl, rfl, rfl, rfl⟩ := h
    obtain ⟨hn, h0, h1, h5, rfl, hi, hw⟩ := hp1
    obtain ⟨i0, hi0, he, hd⟩ := blockNe hw
    exact (loopNeO t1 t2 hi hi0 he hd).weak (Weak.of hn ⟨sameV.of_eq h0, sameV.of_eq h1, h5, trivial⟩ (HpLe.refl _)) (Weak.refl _ _)
noncomputable def F11 (n : Nat) (f g : Nat → Int) (t1 t2 : TypeId) (eq : Bool) : Fns := Fns.none.addLoop 0 L11 (c11 n f g t1 t2 eq)
theorem F11ok (n : Nat) (f g : Nat → Int) (t1 t2 : TypeId) (eq : Bool) : FnsOk Try.prog (F11 n f g t1 t2 eq) := FnsOk.none.addLoop 0 L11 _ (c11_ok n f g t1 t2 eq)
noncomputable def F12 (n : Nat) (f g : Nat → Int) (t1 t2 : TypeId) (eq : Bool) : Fns := Fns.none.addLoop 0 LO (c12 n f g t1 t2 eq)
theorem F12ok (n : Nat) (f g : Nat → Int) (t1 t2 : TypeId) (eq : Bool) : FnsOk Try.prog (F12 n f g t1 t2 eq) := FnsOk.none.addLoop 0 LO _ (c12_ok n f g t1 t2 eq)
end Go.Proofs.Ytepmmicmipmanaa
