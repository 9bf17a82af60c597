/-
  What is proved here: the walk of the law of one 1. the law of one 1, with no program in sight but the floats. the contract of the law of one 1. A text to be imported.
-/
import Derived.Test.YthddkcoflnbjbaaDoorCon12
import Derived.Test.YthddkcoflnbjbaaDoorLaw13
namespace Go.Proofs.YthddkcoflnbjbaaDoor
open Sm Go Go.RowKit Fl Ieee
set_option maxRecDepth 1000000
set_option linter.unusedVariables false
noncomputable def FO0 : Fns := FD1.add 14 GAlive
theorem FO0ok : FnsOk Tryd.prog FO0 := FD1ok.add con14
noncomputable def cO1 : Code := pathC (bodyC Tryd.f4) [0]
noncomputable def cO2 : Code := pathC (bodyC Tryd.f4) [1]
def bt : AV := .one (.sc (.bool true) false)
def lO1 (a b c n : Int) (i : Nat) : List (Nat × AV) := [(0, iv a), (1, iv b), (2, iv c), (7, bt), (8, iv n), (9, iv i)]
def lO1f (b c n : Int) : List (Nat × AV) := [(1, iv b), (2, iv c), (7, bt), (8, iv n)]
def lO2 (c : Int) (n : Nat) (a : Int) (i : Nat) : List (Nat × AV) := [(2, iv c), (8, iv n), (10, iv a), (12, .one (.sl 1 0 n 1)), (14, iv i)]
def lO2f (c : Int) (n : Nat) : List (Nat × AV) := [(2, iv c), (8, iv n)]
def c8 : Nat := 4487126258331716666
def fl8 (x y : Nat) : Bool := fle (absW (fbin .sub .f64 x y)) c8
def okW2 (x y : Nat) : Prop := fok .sub .f64 x y = true
theorem roundO1 (a b c n : Int) (i : Nat) (Q : Ex → Nat → List AV → List Blk → Prop) : roundK Tryd.prog T FO0 300 cO1 (tmL 129 (lO1 a b c n i)) [] [.b true] [0, 1, 2, 7, 8, 9] Q =
  (decide ((i : Int) < a.tmod 13) = true ∧ Q .normal 129 [iv a, iv b, iv c, bt, iv (W (2 * n)), iv (W (i + 1))] []) := by kernel_rfl
theorem exitO1 (a b c n : Int) (i : Nat) (Q : Ex → Nat → List AV → List Blk → Prop) : roundK Tryd.prog T FO0 300 cO1 (tmL 129 (lO1 a b c n i)) [] [.b false] [1, 2, 7, 8] Q =
  (decide ((i : Int) < a.tmod 13) = false ∧ Q (.exit 0) 129 [iv b, iv c, bt, iv n] []) := by kernel_rfl
theorem roundO2 (c a : Int) (n : Nat) (i : Nat) (d : Blk) (Y : Nat → Nat × Nat) (Q : Ex → Nat → List AV → List Blk → Prop) : roundK Tryd.prog T FO0 300 cO2 (tmL 129 (lO2 c n a i)) [d, bY n Y] [.b true, .b false] [2, 8, 10, 12, 14] Q =
  (decide ((i : Int) < n) = true ∧ (0 ≤ (i : Int) ∧ (i : Int) < n) ∧ 0 + (i : Int).toNat < n ∧ okW2 (Y (0 + (i : Int).toNat)).1 (turnP (W (i * a)) n).1 ∧ (0 ≤ (i : Int) ∧ (i : Int) < n) ∧ 0 + (i : Int).toNat < n ∧ okW2 (Y (0 + (i : Int).toNat)).2 (turnP (W (i * a)) n).2 ∧
   (bif !fl8 (Y (0 + (i : Int).toNat)).1 (turnP (W (i * a)) n).1 then true else !fl8 (Y (0 + (i : Int).toNat)).2 (turnP (W (i * a)) n).2) = false ∧ Q .normal 129 [iv c, iv n, iv a, .one (.sl 1 0 n 1), iv (W (i + 1))] [d, bY n Y]) := by kernel_rfl
theorem exitO2 (c a : Int) (n : Nat) (i : Nat) (d : Blk) (Y : Nat → Nat × Nat) (Q : Ex → Nat → List AV → List Blk → Prop) : roundK Tryd.prog T FO0 300 cO2 (tmL 129 (lO2 c n a i)) [d, bY n Y] [.b false] [2, 8] Q =
  (decide ((i : Int) < n) = false ∧ Q (.exit 2) 129 [iv c, iv n] [d, bY n Y]) := by kernel_rfl
def dZ (n at_ : Nat) : Blk := { body := .sy n (updG (fun _ => .sc (.complex .f64 0 0) true) at_ (.sc (.complex .f64 4607182418800017408 0) true)), elem := 28, live := false, ro := false }
noncomputable def FO (a b c : Int) (n at_ : Nat) (Y : Nat → Nat × Nat) (q q' : Prop) : Fns :=
  (FO0.addLoop 0 cO1 (loopC 129 (lO1 a b c 1 0) [] q (.exit 0) (lO1f b c n) [])).addLoop 1 cO2 (loopC 129 (lO2 c n at_ 0) [dZ n at_, bY n Y] q' (.exit 2) (lO2f c n) [dZ n at_, bY n Y])
def c11 : Nat := 4442235333156365461
def fl11 (x y : Nat) : Bool := fle (absW (fbin .sub .f64 x y)) c11
def zC : C1 := .sc (.complex .f64 0 0) true
def oC : C1 := .sc (.complex .f64 4607182418800017408 0) true
/-- The list that is handed over: one 1, and 0 else. -/
def fO (pl : Int) (k : Nat) : List C1 := [normC (updG (fun _ => zC) (0 + pl.toNat) oC k)]
def dZ' (n : Nat) (pl : Int) : Blk := { body := .sy ((n : Int)).toNat (updG (fun _ => zC) (0 + pl.toNat) oC), elem := 28, live := false, ro := false }
def tw (k : Int) (n : Nat) : Nat × Nat := turnP k n
def sqs (t : Nat × Nat) : Nat := fbin .add .f64 (fbin .mul .f64 t.1 t.1) (fbin .mul .f64 t.2 t.2)
def v4 (c : Int) (n : Nat) : Bool := bif (bif fl11 (cmRe (tw c n).1 (tw c n).2 (tw 1 n).1 (tw 1 n).2) (tw (W (c.tmod n + 1)) n).1 then fl11 (cmIm (tw c n).1 (tw c n).2 (tw 1 n).1 (tw 1 n).2) (tw (W (c.tmod n + 1)) n).2 else false) then fl11 (sqs (tw c n)) 4607182418800017408 else false
def ob4a (a b c : Int) (q : Prop) : Prop := cO1 = cO1 ∧ ((129 = 129 ∧ startLs [iv a, iv b, iv c, .one (.sc (.bool true) true), .one (.sc (.int .i64 1) true), .one (.sc (.int .i64 0) true)] ((lO1 a b c 1 0).map (·.2)) ∧ startBs [] []) ∧ q)
def ob4b (n : Nat) (pl : Int) : Prop := (0 ≤ (n : Int) ∧ (n : Int) ≤ n ∧ (16 : Int) * n ≤ 281474976710656 ∧ (n : Int) ≤ 9223372036854775807) ∧ (0 ≤ pl ∧ pl < (((n : Int)).toNat : Int)) ∧ 0 + pl.toNat < ((n : Int)).toNat
def ob4c (n : Nat) (pl : Int) : Prop := ((((n : Int)).toNat ≤ ((n : Int)).toNat ∧ ∀ k : Nat, freeC (updG (fun _ => zC) (0 + pl.toNat) oC k)) ∧ True) ∧ okP 1 ((n : Int)).toNat ((n : Int)).toNat (fO pl)
def ob4d (c : Int) (n : Nat) (pl : Int) (at_ : Nat) (Y : Nat → Nat × Nat) (q : Prop) : Prop := (129 = 129 ∧ startLs [iv c, iv n, iv pl, .one (.sl 1 0 ((n : Int)).toNat 1), .one (.sc (.int .i64 0) true)] ((lO2 c n at_ 0).map (·.2)) ∧ startBs [dZ' n pl, bY ((n : Int)).toNat (trY 1 ((n : Int)).toNat.log2 (ofC (fO pl)))] [dZ n at_, bY n Y]) ∧ q
def ob4e (c : Int) (n : Nat) : Prop := cmOk (tw c n).1 (tw c n).2 (tw 1 n).1 (tw 1 n).2
def ob4f (c : Int) (n : Nat) : Prop := okW2 (cmRe (tw c n).1 (tw c n).2 (tw 1 n).1 (tw 1 n).2) (tw (W (c.tmod n + 1)) n).1
def ob4g (c : Int) (n : Nat) : Prop := okW2 (cmIm (tw c n).1 (tw c n).2 (tw 1 n).1 (tw 1 n).2) (tw (W (c.tmod n + 1)) n).2
theorem run4p (a b c : Int) (n at_ : Nat) (Y : Nat → Nat × Nat) (q q2 : Prop) (u : Value) : runK Tryd.prog T (FO a b c n at_ Y q q2) 400 Tryd.f4 [iv a, iv b, iv c] [] [.l 0, .b false, .b false, .l 1] (fun r _ => resW r = some u) =
    (cO1 = cO1 ∧ ((129 = 129 ∧ startLs [iv a, iv b, iv c, .one (.sc (.bool true) true), .one (.sc (.int .i64 1) true), .one (.sc (.int .i64 0) true)] ((lO1 a b c 1 0).map (·.2)) ∧ startBs [] []) ∧ q) ∧ ((n : Int) == 0) = false ∧ decide (b.tmod n < 0) = false ∧ (0 ≤ (n : Int) ∧ (n : Int) ≤ n ∧ (16 : Int) * n ≤ 281474976710656 ∧ (n : Int) ≤ 9223372036854775807) ∧ (0 ≤ b.tmod n ∧ b.tmod n < (((n : Int)).toNat : Int)) ∧ 0 + (b.tmod n).toNat < ((n : Int)).toNat ∧
     ob4c n (b.tmod n) ∧ (bif (bif !true then true else ((0 : Int) != 0)) then true else ((((n : Int)).toNat : Int) != n)) = false ∧ cO2 = cO2 ∧ ob4d c n (b.tmod n) at_ Y q2 ∧ ((n : Int) == 0) = false ∧ ob4e c n ∧ ob4f c n ∧ ob4e c n ∧ ob4g c n ∧
     fok .mul .f64 (tw c n).1 (tw c n).1 = true ∧ fok .mul .f64 (tw c n).2 (tw c n).2 = true ∧ fok .add .f64 (fbin .mul .f64 (tw c n).1 (tw c n).1) (fbin .mul .f64 (tw c n).2 (tw c n).2) = true ∧ okW2 (sqs (tw c n)) 4607182418800017408 ∧ some (Value.bool (v4 c n)) = some u) := by kernel_rfl
theorem run4n (a b c : Int) (n at_ : Nat) (Y : Nat → Nat × Nat) (q q2 : Prop) (u : Value) : runK Tryd.prog T (FO a b c n at_ Y q q2) 400 Tryd.f4 [iv a, iv b, iv c] [] [.l 0, .b true, .b false, .l 1] (fun r _ => resW r = some u) =
    (cO1 = cO1 ∧ ((129 = 129 ∧ startLs [iv a, iv b, iv c, .one (.sc (.bool true) true), .one (.sc (.int .i64 1) true), .one (.sc (.int .i64 0) true)] ((lO1 a b c 1 0).map (·.2)) ∧ startBs [] []) ∧ q) ∧ ((n : Int) == 0) = false ∧ decide (b.tmod n < 0) = true ∧ (0 ≤ (n : Int) ∧ (n : Int) ≤ n ∧ (16 : Int) * n ≤ 281474976710656 ∧ (n : Int) ≤ 9223372036854775807) ∧ (0 ≤ (W (b.tmod n + n)) ∧ (W (b.tmod n + n)) < (((n : Int)).toNat : Int)) ∧ 0 + (W (b.tmod n + n)).toNat < ((n : Int)).toNat ∧
     ob4c n (W (b.tmod n + n)) ∧ (bif (bif !true then true else ((0 : Int) != 0)) then true else ((((n : Int)).toNat : Int) != n)) = false ∧ cO2 = cO2 ∧ ob4d c n (W (b.tmod n + n)) at_ Y q2 ∧ ((n : Int) == 0) = false ∧ ob4e c n ∧ ob4f c n ∧ ob4e c n ∧ ob4g c n ∧
     fok .mul .f64 (tw c n).1 (tw c n).1 = true ∧ fok .mul .f64 (tw c n).2 (tw c n).2 = true ∧ fok .add .f64 (fbin .mul .f64 (tw c n).1 (tw c n).1) (fbin .mul .f64 (tw c n).2 (tw c n).2) = true ∧ okW2 (sqs (tw c n)) 4607182418800017408 ∧ some (Value.bool (v4 c n)) = some u) := by kernel_rfl
end Go.Proofs.YthddkcoflnbjbaaDoor
namespace Go.Proofs.YthddkcoflnbjbaaDoor
open Sm Go Go.RowKit Fl Ieee
set_option maxRecDepth 100000
set_option linter.unusedVariables false
theorem c8_bd : fnum .f64 c8 ∧ 9 / 1000000000 ≤ fv .f64 c8 := by
  have h := vB_ap (x := c8) (by decide +kernel)
  have h2 : 9 / 1000000000 ≤ vB c8 := by decide +kernel
  exact ⟨h.num, by have := h.lo; grind⟩
theorem c11_bd : fnum .f64 c11 ∧ 9 / 1000000000000 ≤ fv .f64 c11 := by
  have h := vB_ap (x := c11) (by decide +kernel)
  have h2 : 9 / 1000000000000 ≤ vB c11 := by decide +kernel
  exact ⟨h.num, by have := h.lo; grind⟩
/-- Floats near numbers that are near one another are within a bound. -/
theorem near_in {x y m : Nat} {u v d e g : Rat} (hx : Ap x u d) (hy : Ap y v e) (h1 : u - v ≤ g) (h2 : v - u ≤ g) (hm : fnum .f64 m) (c : Rat) (hc : d + e + g ≤ c) (hc1 : c ≤ 1000) (hb : c + dl c ≤ fv .f64 m) : fok .sub .f64 x y = true ∧ fle (absW (fbin .sub .f64 x y)) m = true :=
  within_ok (B := 0) hx hy hm c (by grind) (by grind) (tp_big c hc1) hb
theorem RS_zero {T : Nat → Rat} (n : Nat) (h : ∀ j, j < n → T j = 0) : RS T n = 0 := by
  rw [RS_congr (T' := fun _ => 0) n h, RS_const]
  grind
theorem RS_one {T : Nat → Rat} (i : Nat) : ∀ n, i < n → (∀ j, j < n → j ≠ i → T j = 0) → RS T n = T i
  | 0, h, _ => by omega
  | n + 1, h, hz => by
    show RS T n + T n = T i
    by_cases e : i = n
    · subst e
      rw [RS_zero i fun j hj => hz j (by omega) (by omega)]
      grind
    · rw [RS_one i n (by omega) fun j hj hne => hz j (by omega) hne, hz n (by omega) (by omega)]
      grind
def xO (a k : Nat) : Cx := if k = a then Cx.one else Cx.zero
def mO (a k : Nat) : Rat := if k = a then 1 else 0
theorem fO_of (a k : Nat) : ofC (fO (a : Int)) k = if k = a then (4607182418800017408, 0) else (0, 0) := by
  have e : 0 + ((a : Int)).toNat = a := by omega
  unfold ofC fO
  rw [e]
  show toC (normC (pickC (Nat.beq k a) oC zC)) = _
  by_cases h : k = a
  · subst h; rw [beqS, if_pos rfl]; rfl
  · rw [beqN h, if_neg h]; rfl
theorem fO_fX (a k : Nat) : fO (a : Int) k = fX (ofC (fO (a : Int))) k := by
  unfold fX
  rw [fO_of]
  have e : 0 + ((a : Int)).toNat = a := by omega
  unfold fO
  rw [e]
  show [normC (pickC (Nat.beq k a) oC zC)] = _
  by_cases h : k = a
  · subst h; rw [beqS, if_pos rfl]; rfl
  · rw [beqN h, if_neg h]; rfl
theorem one_near {p a : Nat} (hp : p ≤ 12) (ha : a < 2 ^ p) : okTr 1 p (ofC (fO (a : Int))) ∧ ∀ k, k < 2 ^ p → CAp (trY 1 p (ofC (fO (a : Int))) k) (U4 ((k : Int) * a * exs p)) (3 / 10000000000) := by
  obtain ⟨h1, h2⟩ := tr_near (way := 1) (.inl rfl) hp (X := ofC (fO (a : Int))) (x := xO a) (m := mO a) (fun j _ => by
      rw [fO_of]
      unfold xO
      by_cases h : j = a
      · rw [if_pos h, if_pos h]; exact ⟨one_ap, ap_zero⟩
      · rw [if_neg h, if_neg h]; exact ⟨ap_zero, ap_zero⟩)
    (fun j => by
      unfold xO mO
      by_cases h : j = a
      · rw [if_pos h, if_pos h]; exact ⟨by simp only [Cx.one]; grind, by simp only [Cx.one]; grind, by simp only [Cx.one]; grind, by simp only [Cx.one]; grind⟩
      · rw [if_neg h, if_neg h]; exact ⟨by simp only [Cx.zero]; grind, by simp only [Cx.zero]; grind, by simp only [Cx.zero]; grind, by simp only [Cx.zero]; grind⟩)
    (fun j => by unfold mO; by_cases h : j = a <;> simp only [h, if_true, if_false] <;> decide +kernel)
  refine ⟨h1, fun k hk => ?_⟩
  have h := h2 k hk
  have e1 : RS (mO a) (2 ^ p) = 1 := by
    rw [RS_one a (2 ^ p) ha fun j _ hne => by unfold mO; rw [if_neg hne]]
    unfold mO
    rw [if_pos rfl]
  have e2 : dft 1 (xO a) p (k : Nat) = U4 ((k : Int) * a * exs p) := by
    unfold dft
    rw [Cx.sum_one _ a (2 ^ p) ha fun j _ hne => by
      unfold xO
      rw [if_neg hne]
      exact Cx.ext' (by simp only [Cx.mul, Cx.zero]; grind) (by simp only [Cx.mul, Cx.zero]; grind)]
    unfold xO
    rw [if_pos rfl, Cx.one_mul]
    congr 1
    rw [Int.one_mul, Int.mul_comm (a : Int)]
  rw [e1, e2] at h
  exact h.le (by decide +kernel)
theorem pow_bd {p : Nat} (hp : p ≤ 12) : 1 ≤ 2 ^ p ∧ 2 ^ p ≤ 4096 := by
  have h1 := Nat.two_pow_pos p
  have h2 : (2 : Nat) ^ p ≤ 2 ^ 12 := Nat.pow_le_pow_right (by omega) hp
  exact ⟨h1, h2⟩
theorem tw_near {p : Nat} (hp : p ≤ 12) (k : Int) : CAp (tw k (2 ^ p)) (U4 (k * exs p)) eW := by
  obtain ⟨h1, h2⟩ := pow_bd hp
  exact turn_near (by omega) (by omega) (by rw [Int.mul_comm]; exact exs_all hp)
theorem round_ok {p a i : Nat} (hp : p ≤ 12) (ha : a < 2 ^ p) (hi : i < 2 ^ p) :
    (okW2 (trY 1 p (ofC (fO (a : Int))) i).1 (turnP (W ((i : Int) * a)) (2 ^ p : Nat)).1 ∧ fl8 (trY 1 p (ofC (fO (a : Int))) i).1 (turnP (W ((i : Int) * a)) (2 ^ p : Nat)).1 = true) ∧
    okW2 (trY 1 p (ofC (fO (a : Int))) i).2 (turnP (W ((i : Int) * a)) (2 ^ p : Nat)).2 ∧ fl8 (trY 1 p (ofC (fO (a : Int))) i).2 (turnP (W ((i : Int) * a)) (2 ^ p : Nat)).2 = true := by
  obtain ⟨h1, h2⟩ := pow_bd hp
  have hb : (i : Int) * a ≤ 4096 * 4096 := by
    have h3 := Nat.mul_le_mul (show i ≤ 4096 by omega) (show a ≤ 4096 by omega)
    rw [← Int.natCast_mul]
    omega
  have hb0 : 0 ≤ (i : Int) * a := by rw [← Int.natCast_mul]; omega
  rw [Wid (by omega) (by omega)]
  have t := tw_near hp ((i : Int) * a)
  have f := (one_near hp ha).2 i hi
  obtain ⟨m1, m2⟩ := c8_bd
  have hd : 4 / 10000000000 + dl (4 / 10000000000) ≤ fv .f64 c8 := by
    have : 4 / 10000000000 + dl (4 / 10000000000) ≤ 9 / 1000000000 := by decide +kernel
    grind
  exact ⟨near_in f.re t.re (g := 0) (by grind) (by grind) m1 (4 / 10000000000) (by unfold eW; decide +kernel) (by decide +kernel) hd, near_in f.im t.im (g := 0) (by grind) (by grind) m1 (4 / 10000000000) (by unfold eW; decide +kernel) (by decide +kernel) hd⟩
theorem cm_near {s t : Nat × Nat} {A B : Cx} (hs : CAp s A eW) (ht : CAp t B eW) (hA : Cx.Wi A 1) (hB : Cx.Wi B 1) : cmOk s.1 s.2 t.1 t.2 ∧ CAp (cmRe s.1 s.2 t.1 t.2, cmIm s.1 s.2 t.1 t.2) (Cx.mul A B) (5 / 100000000000000) := by
  obtain ⟨a1, b1, c1, d1⟩ := part_ap (w := 1 / 2) hs.re ht.re (by have := hA.r1; grind) (by have := hA.r2; grind) hB.r1 hB.r2 (by grind) (by decide +kernel) (by unfold eW; decide +kernel)
  obtain ⟨a2, b2, c2, d2⟩ := part_ap (w := 1 / 2) hs.im ht.im (by have := hA.i1; grind) (by have := hA.i2; grind) hB.i1 hB.i2 (by grind) (by decide +kernel) (by unfold eW; decide +kernel)
  obtain ⟨a3, b3, c3, d3⟩ := part_ap (w := 1 / 2) hs.re ht.im (by have := hA.r1; grind) (by have := hA.r2; grind) hB.i1 hB.i2 (by grind) (by decide +kernel) (by unfold eW; decide +kernel)
  obtain ⟨a4, b4, c4, d4⟩ := part_ap (w := 1 / 2) hs.im ht.re (by have := hA.i1; grind) (by have := hA.i2; grind) hB.r1 hB.r2 (by grind) (by decide +kernel) (by unfold eW; decide +kernel)
  have b1' := b1.le (e' := 21 / 1000000000000000) (by unfold eW; decide +kernel)
  have b2' := b2.le (e' := 21 / 1000000000000000) (by unfold eW; decide +kernel)
  have b3' := b3.le (e' := 21 / 1000000000000000) (by unfold eW; decide +kernel)
  have b4' := b4.le (e' := 21 / 1000000000000000) (by unfold eW; decide +kernel)
  obtain ⟨k1, s1⟩ := b1'.sub b2' 3 (by grind) (by grind) (tp_big _ (by decide +kernel))
  obtain ⟨k2, s2⟩ := b3'.add b4' 3 (by grind) (by grind) (tp_big _ (by decide +kernel))
  exact ⟨⟨a1, a2, k1, a3, a4, k2⟩, s1.le (by decide +kernel), s2.le (by decide +kernel)⟩
theorem sqs_near {s : Nat × Nat} {A : Cx} (hs : CAp s A eW) (hA : Cx.Wi A 1) : fok .mul .f64 s.1 s.1 = true ∧ fok .mul .f64 s.2 s.2 = true ∧ fok .add .f64 (fbin .mul .f64 s.1 s.1) (fbin .mul .f64 s.2 s.2) = true ∧ Ap (sqs s) (Cx.nrm A) (5 / 100000000000000) := by
  obtain ⟨a1, b1, c1, d1⟩ := part_ap (w := 1 / 2) hs.re hs.re (by have := hA.r1; grind) (by have := hA.r2; grind) hA.r1 hA.r2 (by grind) (by decide +kernel) (by unfold eW; decide +kernel)
  obtain ⟨a2, b2, c2, d2⟩ := part_ap (w := 1 / 2) hs.im hs.im (by have := hA.i1; grind) (by have := hA.i2; grind) hA.i1 hA.i2 (by grind) (by decide +kernel) (by unfold eW; decide +kernel)
  have b1' := b1.le (e' := 21 / 1000000000000000) (by unfold eW; decide +kernel)
  have b2' := b2.le (e' := 21 / 1000000000000000) (by unfold eW; decide +kernel)
  obtain ⟨k1, s1⟩ := b1'.add b2' 3 (by grind) (by grind) (tp_big _ (by decide +kernel))
  exact ⟨a1, a2, k1, s1.le (by decide +kernel)⟩
theorem tail_ok {p : Nat} (hp : p ≤ 12) (c : Int) : ob4e c (2 ^ p) ∧ ob4f c (2 ^ p) ∧ ob4g c (2 ^ p) ∧ fok .mul .f64 (tw c (2 ^ p)).1 (tw c (2 ^ p)).1 = true ∧ fok .mul .f64 (tw c (2 ^ p)).2 (tw c (2 ^ p)).2 = true ∧
    fok .add .f64 (fbin .mul .f64 (tw c (2 ^ p)).1 (tw c (2 ^ p)).1) (fbin .mul .f64 (tw c (2 ^ p)).2 (tw c (2 ^ p)).2) = true ∧ okW2 (sqs (tw c (2 ^ p))) 4607182418800017408 ∧ v4 c (2 ^ p) = true := by
  obtain ⟨h1, h2⟩ := pow_bd hp
  have ha := tw_near hp c
  have hb := tw_near hp 1
  have hW : W (c.tmod ((2 ^ p : Nat) : Int) + 1) = c.tmod ((2 ^ p : Nat) : Int) + 1 := by
    have g1 := Int.tmod_lt_of_pos c (show (0 : Int) < ((2 ^ p : Nat) : Int) by omega)
    have g2 := Int.natAbs_tmod c ((2 ^ p : Nat) : Int)
    have g3 := Nat.mod_lt c.natAbs (show (((2 ^ p : Nat) : Int)).natAbs > 0 by omega)
    exact Wid (by omega) (by omega)
  have hc := tw_near hp (c.tmod ((2 ^ p : Nat) : Int) + 1)
  have he : (c.tmod ((2 ^ p : Nat) : Int) + 1) * exs p = c * exs p + 1 * exs p + 4096 * (-(c.tdiv ((2 ^ p : Nat) : Int))) := by
    have g := Int.mul_tdiv_add_tmod c ((2 ^ p : Nat) : Int)
    have g2 := exs_all hp
    have g3 : c * exs p = (((2 ^ p : Nat) : Int) * c.tdiv ((2 ^ p : Nat) : Int) + c.tmod ((2 ^ p : Nat) : Int)) * exs p := by rw [g]
    rw [g3, ← g2]
    grind
  rw [he, U4_per] at hc
  have hadd := U4_add (c * exs p) (1 * exs p)
  obtain ⟨k1, k2⟩ := cm_near ha hb (U4_wi _) (U4_wi _)
  obtain ⟨q1, q2, q3, q4⟩ := sqs_near ha (U4_wi _)
  have n1 := U4_nrm (c * exs p)
  have n2 := U4_len (c * exs p)
  obtain ⟨m1, m2⟩ := c11_bd
  have hio : io ≤ 1 / 100000000000000000000 ∧ 0 ≤ io := by unfold io; decide +kernel
  have hh : half1 ≤ 1 / 100000000000000000000 ∧ 0 ≤ half1 := by unfold half1 io; decide +kernel
  have hd : 1 / 10000000000000 + dl (1 / 10000000000000) ≤ fv .f64 c11 := by
    have : 1 / 10000000000000 + dl (1 / 10000000000000) ≤ 9 / 1000000000000 := by decide +kernel
    grind
  obtain ⟨b1, b2, b3, b4⟩ := hadd
  simp only [Cx.sub] at b1 b2 b3 b4
  have r1 := near_in k2.re hc.re (g := io) (by grind) (by grind) m1 (1 / 10000000000000) (by unfold eW; grind) (by decide +kernel) hd
  have r2 := near_in k2.im hc.im (g := io) (by grind) (by grind) m1 (1 / 10000000000000) (by unfold eW; grind) (by decide +kernel) hd
  have r3 := near_in q4 one_ap (g := half1) (by grind) (by grind) m1 (1 / 10000000000000) (by grind) (by decide +kernel) hd
  refine ⟨k1, ?_, ?_, q1, q2, q3, r3.1, ?_⟩
  · unfold ob4f; rw [hW]; exact r1.1
  · unfold ob4g; rw [hW]; exact r2.1
  · unfold v4 fl11
    rw [hW, r1.2, r2.2, show (4607182418800017408 : Nat) = kOne from rfl, r3.2]
    rfl
end Go.Proofs.YthddkcoflnbjbaaDoor
namespace Go.Proofs.YthddkcoflnbjbaaDoor
open Sm Go Go.RowKit Fl Ieee
set_option maxRecDepth 1000000
set_option linter.unusedVariables false
theorem loopO1 (a b c : Int) {p : Nat} (hp : p ≤ 12) (h : (p : Int) = a.tmod 13 ∨ (p = 0 ∧ a.tmod 13 ≤ 0)) :
    LoopOk Tryd.prog cO1 (tmL 129 (lO1 a b c 1 0)) [] (.exit 0) (tmL 129 (lO1f b c (2 ^ p : Nat))) [] := by
  refine loop_rounds hm hT FO0ok 129 p (fun i => lO1 a b c (2 ^ i : Nat) i) (fun _ => []) (.exit 0) _ _ (fun e => by cases e) (fun i hi => ⟨300, [.b true], ?_⟩) ⟨300, [.b false], ?_⟩ 0 (Nat.zero_le _)
  · show roundK Tryd.prog T FO0 300 cO1 (tmL 129 (lO1 a b c (2 ^ i : Nat) i)) [] [.b true] [0, 1, 2, 7, 8, 9] _
    rw [roundO1]
    have h2 := (pow_bd (show i + 1 ≤ 12 by omega)).2
    rw [Nat.pow_succ] at h2
    refine ⟨decide_eq_true (by omega), rfl, rfl, ⟨sameV.refl _, sameV.refl _, sameV.refl _, sameV.refl _, iv_same _ _ ?_, iv_same _ _ ?_, trivial⟩, HpLe.refl _⟩
    · rw [Wid (by omega) (by omega), Nat.pow_succ]; omega
    · rw [Wid (by omega) (by omega)]; omega
  · show roundK Tryd.prog T FO0 300 cO1 (tmL 129 (lO1 a b c (2 ^ p : Nat) p)) [] [.b false] [1, 2, 7, 8] _
    rw [exitO1]
    exact ⟨decide_eq_false (by omega), rfl, rfl, ⟨sameV.refl _, sameV.refl _, sameV.refl _, sameV.refl _, trivial⟩, HpLe.refl _⟩
theorem loopO2 (c : Int) {p a : Nat} (hp : p ≤ 12) (ha : a < 2 ^ p) (d : Blk) :
    LoopOk Tryd.prog cO2 (tmL 129 (lO2 c (2 ^ p) a 0)) [d, bY (2 ^ p) (trY 1 p (ofC (fO (a : Int))))] (.exit 2) (tmL 129 (lO2f c (2 ^ p))) [d, bY (2 ^ p) (trY 1 p (ofC (fO (a : Int))))] := by
  have hb := pow_bd hp
  refine loop_rounds hm hT FO0ok 129 (2 ^ p) (fun i => lO2 c (2 ^ p) a i) (fun _ => [d, bY (2 ^ p) (trY 1 p (ofC (fO (a : Int))))]) (.exit 2) _ _ (fun e => by cases e) (fun i hi => ⟨300, [.b true, .b false], ?_⟩) ⟨300, [.b false], ?_⟩ 0 (Nat.zero_le _)
  · show roundK Tryd.prog T FO0 300 cO2 (tmL 129 (lO2 c (2 ^ p) a i)) [d, bY (2 ^ p) (trY 1 p (ofC (fO (a : Int))))] [.b true, .b false] [2, 8, 10, 12, 14] _
    obtain ⟨⟨r1, r2⟩, r3, r4⟩ := round_ok hp ha hi
    have e0 : 0 + (i : Int).toNat = i := by omega
    rw [roundO2, e0]
    refine ⟨decide_eq_true (by omega), ⟨by omega, by omega⟩, by omega, r1, ⟨by omega, by omega⟩, by omega, r3, by rw [r2, r4]; rfl, rfl, rfl, ⟨sameV.refl _, sameV.refl _, sameV.refl _, sameV.refl _, iv_same _ _ ?_, trivial⟩, HpLe.refl _⟩
    rw [Wid (by omega) (by omega)]; omega
  · show roundK Tryd.prog T FO0 300 cO2 (tmL 129 (lO2 c (2 ^ p) a (2 ^ p : Nat))) [d, bY (2 ^ p) (trY 1 p (ofC (fO (a : Int))))] [.b false] [2, 8] _
    rw [exitO2]
    exact ⟨decide_eq_false (by omega), rfl, rfl, ⟨sameV.refl _, sameV.refl _, trivial⟩, HpLe.refl _⟩
theorem FOok (a b c : Int) {p at_ : Nat} (hp : p ≤ 12) (h : (p : Int) = a.tmod 13 ∨ (p = 0 ∧ a.tmod 13 ≤ 0)) (ha : at_ < 2 ^ p) : FnsOk Tryd.prog (FO a b c (2 ^ p) at_ (trY 1 p (ofC (fO (at_ : Int)))) True True) :=
  (FO0ok.addKeep 0 fun _ => loopO1 a b c hp h).addKeep 1 fun _ => loopO2 c hp ha _
def GOne : List ArgV → Option Value
  | [.val (.int .i64 _), .val (.int .i64 _), .val (.int .i64 _)] => some (.bool true)
  | _ => none
theorem obC {p a : Nat} (hp : p ≤ 12) (ha : a < 2 ^ p) : ob4c (2 ^ p) (a : Int) :=
  ⟨⟨⟨Nat.le_refl _, fun k => by
    show freeC (pickC (Nat.beq k _) oC zC)
    cases Nat.beq k _ <;> trivial⟩, trivial⟩, ⟨p, hp, rfl, (one_near hp ha).1⟩, .inl rfl, Nat.le_refl _, fun k _ => fO_fX a k⟩
theorem obD {p a : Nat} (c : Int) (hp : p ≤ 12) (ha : a < 2 ^ p) : ob4d c (2 ^ p) (a : Int) a (trY 1 p (ofC (fO (a : Int)))) True := by
  refine ⟨⟨rfl, ⟨rfl, rfl, rfl, rfl, rfl, trivial⟩, .inl rfl, ?_, trivial⟩, trivial⟩
  show startB (bY (2 ^ p) (trY 1 (2 ^ p).log2 _)) _
  rw [Nat.log2_two_pow]
  exact startB.refl _
theorem con4 : Con Tryd.prog 4 GOne := by
  refine con_of_each hm hT Tryd.func4 Tryd.call4 fun avs u h => ?_
  unfold GOne at h
  split at h
  · rename_i a b c
    simp only [Option.some.injEq] at h
    subst h
    have g1 := Int.tmod_lt_of_pos a (show (0 : Int) < 13 by decide)
    obtain ⟨p, hp⟩ : ∃ p, p = (a.tmod 13).toNat := ⟨_, rfl⟩
    have hp12 : p ≤ 12 := by omega
    obtain ⟨n1, n2⟩ := pow_bd hp12
    have hm0 := Int.emod_nonneg b (show ((2 ^ p : Nat) : Int) ≠ 0 by omega)
    have hm1 := Int.emod_lt_of_pos b (show (0 : Int) < ((2 ^ p : Nat) : Int) by omega)
    obtain ⟨at_, hat⟩ := Int.eq_ofNat_of_zero_le hm0
    have ha : at_ < 2 ^ p := by omega
    obtain ⟨t1, t2, t3, t4, t5, t6, t7, t8⟩ := tail_ok hp12 c
    have n0 : (((2 ^ p : Nat) : Int) == 0) = false := beqf (by omega)
    have ne : (bif (bif !true then true else ((0 : Int) != 0)) then true else (((((2 ^ p : Nat) : Int)).toNat : Int) != ((2 ^ p : Nat) : Int))) = false := by
      show (((2 ^ p : Nat) : Int) != ((2 ^ p : Nat) : Int)) = false
      simp
    have hd : (p : Int) = a.tmod 13 ∨ (p = 0 ∧ a.tmod 13 ≤ 0) := by omega
    refine ⟨_, FOok a b c hp12 hd ha, [false, false, false], 400, ?_⟩
    have sz : (0 ≤ ((2 ^ p : Nat) : Int) ∧ ((2 ^ p : Nat) : Int) ≤ (2 ^ p : Nat) ∧ (16 : Int) * ((2 ^ p : Nat) : Int) ≤ 281474976710656 ∧ ((2 ^ p : Nat) : Int) ≤ 9223372036854775807) := ⟨by omega, by omega, by omega, by omega⟩
    by_cases hneg : 0 ≤ b.tmod ((2 ^ p : Nat) : Int)
    · have hb : b.tmod ((2 ^ p : Nat) : Int) = at_ := by
        rw [← hat]; exact (tmod_pos (by omega) hneg).symm
      refine ⟨[.l 0, .b false, .b false, .l 1], _, _, rfl, of_run (run4p a b c (2 ^ p) at_ (trY 1 p (ofC (fO (at_ : Int)))) True True _) ?_⟩
      rw [hb]
      exact ⟨rfl, ⟨⟨rfl, ⟨rfl, rfl, rfl, rfl, rfl, rfl, trivial⟩, trivial⟩, trivial⟩, n0, decide_eq_false (by omega), sz, ⟨by omega, by omega⟩, by omega, obC hp12 ha, ne, rfl, obD c hp12 ha, n0, t1, t2, t1, t3, t4, t5, t6, t7, by rw [t8]⟩
    · have hb : W (b.tmod ((2 ^ p : Nat) : Int) + (2 ^ p : Nat)) = at_ := by
        have := tmod_neg (k := b) (n := ((2 ^ p : Nat) : Int)) (by omega) (by omega)
        rw [← this, hat]
        exact Wid (by omega) (by omega)
      refine ⟨[.l 0, .b true, .b false, .l 1], _, _, rfl, of_run (run4n a b c (2 ^ p) at_ (trY 1 p (ofC (fO (at_ : Int)))) True True _) ?_⟩
      rw [hb]
      exact ⟨rfl, ⟨⟨rfl, ⟨rfl, rfl, rfl, rfl, rfl, rfl, trivial⟩, trivial⟩, trivial⟩, n0, decide_eq_true (by omega), sz, ⟨by omega, by omega⟩, by omega, obC hp12 ha, ne, rfl, obD c hp12 ha, n0, t1, t2, t1, t3, t4, t5, t6, t7, by rw [t8]⟩
  · cases h
end Go.Proofs.YthddkcoflnbjbaaDoor
