/-
  What is proved here: contracts of Forward and Inverse of the program. A text to be imported.
-/
import Derived.Test.YtcfbhlpmhlmekaaDoorCon4
namespace Go.Proofs.YtcfbhlpmhlmekaaDoor
open Sm Go Go.RowKit
set_option maxRecDepth 1000000
set_option linter.unusedVariables false
def tB_13 (h : Nat → Int) (p q r : Int) : Int := wF (0 + r.toNat * 8 + q.toNat) * h (0 + (ix p r).toNat)
theorem rB3_13 (f h : Nat → Int) (p2 : AV) (p q s r : Int) (b1 y : Blk) (X : Ex → Nat → List AV → List Blk → Prop) :
    roundK Tryd.prog T F2 3000 LB3_13 (tmL 92 [(0, p00), (2, p2), (3, pw_13), (4, ph_13), (8, pr_13), (9, AI p), (10, AI q), (11, AI s), (54, AI p), (57, AI q), (60, AI r)]) [b_13 f, b1, w_13, h_13 h, y] [.b true] [0, 2, 3, 4, 8, 9, 10, 11, 54, 57, 60] X =
    (decide (r < 8) = true ∧ ((0 ≤ r ∧ r < ((8 : Nat) : Int)) ∧ ((0 ≤ q ∧ q < ((8 : Nat) : Int)) ∧ (0 + r.toNat * 8 + q.toNat < 64 ∧ ((0 ≤ ix p r ∧ ix p r < ((64 : Nat) : Int)) ∧ (0 + (ix p r).toNat < 64 ∧ (X .normal 92 [p00, p2, pw_13, ph_13, pr_13, AI p, AI q, AI (W (s + W (tB_13 h p q r))), AI p, AI q, AI (W (r + 1))] [b_13 f, b1, w_13, h_13 h, y]))))))) := by kernel_rfl
theorem eB3_13 (f h : Nat → Int) (p2 : AV) (p q s r : Int) (b1 y : Blk) (X : Ex → Nat → List AV → List Blk → Prop) :
    roundK Tryd.prog T F2 3000 LB3_13 (tmL 92 [(0, p00), (2, p2), (3, pw_13), (4, ph_13), (8, pr_13), (9, AI p), (10, AI q), (11, AI s), (54, AI p), (57, AI q), (60, AI r)]) [b_13 f, b1, w_13, h_13 h, y] [.b false] [0, 2, 3, 4, 8, 9, 10, 11, 54, 57] X =
    (decide (r < 8) = false ∧ X (.exit 10) 92 [p00, p2, pw_13, ph_13, pr_13, AI p, AI q, AI s, AI p, AI q] [b_13 f, b1, w_13, h_13 h, y]) := by kernel_rfl
def gB_13 (h : Nat → Int) (p q r : Nat) : Int := wF (r * 8 + q) * h (8 * p + r)
theorem tB_eq_13 (h : Nat → Int) (p q r : Nat) (hp : p < 8) (hq : q < 8) (hr : r < 8) : tB_13 h (p : Nat) (q : Nat) (r : Nat) = gB_13 h p q r := by
  unfold tB_13 gB_13
  rw [ix_eq (by omega) (by omega) (by omega) (by omega), show (0 + ((8 * (p : Int) + (r : Int)).toNat)) = 8 * p + r from by omega, Int.toNat_natCast, Int.toNat_natCast, Nat.zero_add]
theorem loopB3_13 (f h : Nat → Int) (p2 : AV) (p q : Nat) (hp8 : p < 8) (hq : q < 8) (b1 y : Blk) :
    LoopOk Tryd.prog LB3_13 (tmL 92 [(0, p00), (2, p2), (3, pw_13), (4, ph_13), (8, pr_13), (9, AI (p : Nat)), (10, AI (q : Nat)), (11, AI 0), (54, AI (p : Nat)), (57, AI (q : Nat)), (60, AI 0)]) [b_13 f, b1, w_13, h_13 h, y] (.exit 10) (tmL 92 [(0, p00), (2, p2), (3, pw_13), (4, ph_13), (8, pr_13), (9, AI (p : Nat)), (10, AI (q : Nat)), (11, AI (sumW 8 (gB_13 h p q))), (54, AI (p : Nat)), (57, AI (q : Nat))]) [b_13 f, b1, w_13, h_13 h, y] := by
  refine loop_rounds hm hT F2ok 92 8 (fun r => [(0, p00), (2, p2), (3, pw_13), (4, ph_13), (8, pr_13), (9, AI (p : Nat)), (10, AI (q : Nat)), (11, AI (sumW r (gB_13 h p q))), (54, AI (p : Nat)), (57, AI (q : Nat)), (60, AI (r : Nat))]) (fun _ => [b_13 f, b1, w_13, h_13 h, y]) (.exit 10) _ _ (fun h => by cases h) (fun r hr => ?_) ?_ 0 (by omega)
  · have e2 := ix_eq (show (0 : Int) ≤ (p : Nat) by omega) (by omega) (show (0 : Int) ≤ (r : Nat) by omega) (by omega)
    refine ⟨3000, [.b true], of_run (rB3_13 f h p2 (p : Nat) (q : Nat) _ (r : Nat) b1 y _) ⟨lt8 r hr, by omega, by omega, by omega, by rw [e2]; omega, by rw [e2]; omega, rfl, rfl, ?_, HpLe.refl _⟩⟩
    rw [tB_eq_13 h p q r hp8 hq hr]
    exact ⟨rfl, sameV.refl _, rfl, rfl, rfl, rfl, rfl, rfl, rfl, rfl, congrArg (Value.int .i64) (next_eq r hr), trivial⟩
  · exact ⟨3000, [.b false], of_run (eB3_13 f h p2 (p : Nat) (q : Nat) _ ((8 : Nat) : Int) b1 y _) ⟨not8, rfl, rfl, ⟨rfl, sameV.refl _, rfl, rfl, rfl, rfl, rfl, rfl, rfl, rfl, trivial⟩, HpLe.refl _⟩⟩
def cB3_13 (f h : Nat → Int) (tm : Tm) (hp : List Blk) : Option (Prop × Ex × Tm × List Blk) :=
  match getT tm 9, getT tm 10, hp with
  | .one (.sc (.int .i64 p) _), .one (.sc (.int .i64 q) _), [x0, b1, x2, x3, y] =>
    some ((tm.n = 92 ∧ getT tm 0 = p00 ∧ getT tm 3 = pw_13 ∧ getT tm 4 = ph_13 ∧ getT tm 8 = pr_13 ∧ getT tm 9 = AI p ∧ getT tm 10 = AI q ∧ getT tm 11 = li 0 ∧ getT tm 54 = AI p ∧ getT tm 57 = AI q ∧ getT tm 60 = li 0 ∧ (0 ≤ p ∧ p < 8) ∧ (0 ≤ q ∧ q < 8) ∧ [x0, x2, x3] = [b_13 f, w_13, h_13 h]), .exit 10, tmL 92 [(0, p00), (2, getT tm 2), (3, pw_13), (4, ph_13), (8, pr_13), (9, AI p), (10, AI q), (11, AI (sumW 8 (gB_13 h p.toNat q.toNat))), (54, AI p), (57, AI q)], [b_13 f, b1, w_13, h_13 h, y])
  | _, _, _ => none
noncomputable def FB3_13 (f h : Nat → Int) : Fns := F2.addLoop 6 LB3_13 (cB3_13 f h)
theorem FB3ok_13 (f h : Nat → Int) (G : Fns) (hG : FnsOk Tryd.prog G) : FnsOk Tryd.prog (G.addLoop 6 LB3_13 (cB3_13 f h)) := by
  refine hG.addLoop 6 _ _ fun tm hp p x tm' hp' hg hp1 => ?_
  unfold cB3_13 at hg
  split at hg
  · rename_i p sp q sq x0 b1 x2 x3 y gp gq
    simp only [Option.some.injEq, Prod.mk.injEq] at hg
    obtain ⟨rfl, rfl, rfl, rfl⟩ := hg
    obtain ⟨hn, k0, k3, k4, k8, k9, k10, k11, k54, k57, k60, ⟨qp1, qp2⟩, ⟨qq1, qq2⟩, hh⟩ := hp1
    simp only [List.cons.injEq, and_true] at hh
    obtain ⟨rfl, rfl, rfl⟩ := hh
    obtain ⟨pN, rfl⟩ := Int.eq_ofNat_of_zero_le qp1
    obtain ⟨qN, rfl⟩ := Int.eq_ofNat_of_zero_le qq1
    refine (loopB3_13 f h (getT tm 2) pN qN (by omega) (by omega) b1 y).weak (Weak.of hn ⟨by rw [k0]; rfl, sameV.refl _, by rw [k3]; rfl, by rw [k4]; rfl, by rw [k8]; rfl, by rw [k9]; rfl, by rw [k10]; rfl, by rw [k11]; rfl, by rw [k54]; rfl, by rw [k57]; rfl, by rw [k60]; rfl, trivial⟩ (by first | exact HpLe.refl _ | exact HpLe.refl _)) (Weak.refl _ _)
  · cases hg
def outP_13 (h : Nat → Int) (p q : Nat) : Int := IntKind.u8.wrap (mn (mx (W (settledI (sumW 8 (gB_13 h p q)) + 128)) 0) 255)
def rU_13 (h k : Nat → Int) (p q : Nat) : Blk := { body := .sy 64 (updG (fun j => .sc (.int .u8 (k j)) false) (0 + (ix p q).toNat) (.sc (.int .u8 (outP_13 h p q)) false)), elem := 31, live := true, ro := false }
theorem rB2_13 (f h k : Nat → Int) (p2 : AV) (p q : Nat) (b1 : Blk) (X : Ex → Nat → List AV → List Blk → Prop) :
    roundK Tryd.prog T (FB3_13 f h) 3000 LB2_13 (tmL 92 [(0, p00), (2, p2), (3, pw_13), (4, ph_13), (8, pr_13), (9, AI (p : Nat)), (54, AI (p : Nat)), (57, AI (q : Nat))]) [b_13 f, b1, w_13, h_13 h, r_13 k] [.b true, .l 6] [0, 2, 3, 4, 8, 9, 54, 57] X =
    (decide ((q : Int) < 8) = true ∧ (LB3_13 = LB3_13 ∧ ((92 : Nat) = 92 ∧ p00 = p00 ∧ pw_13 = pw_13 ∧ ph_13 = ph_13 ∧ pr_13 = pr_13 ∧ AI p = AI p ∧ AI q = AI q ∧ li 0 = li 0 ∧ AI p = AI p ∧ AI q = AI q ∧ li 0 = li 0 ∧ (0 ≤ (p : Int) ∧ (p : Int) < 8) ∧ (0 ≤ (q : Int) ∧ (q : Int) < 8) ∧ [b_13 f, w_13, h_13 h] = [b_13 f, w_13, h_13 h]) ∧ ((0 ≤ ix p q ∧ ix p q < ((64 : Nat) : Int)) ∧ (0 + (ix p q).toNat < 64 ∧ X .normal 92 [p00, p2, pw_13, ph_13, pr_13, AI (p : Nat), AI (p : Nat), AI (W ((q : Int) + 1))] [b_13 f, b1, w_13, h_13 h, rU_13 h k p q])))) := by kernel_rfl
theorem eB2_13 (f h k : Nat → Int) (p2 : AV) (p q : Int) (b1 : Blk) (X : Ex → Nat → List AV → List Blk → Prop) :
    roundK Tryd.prog T (FB3_13 f h) 3000 LB2_13 (tmL 92 [(0, p00), (2, p2), (3, pw_13), (4, ph_13), (8, pr_13), (9, AI p), (54, AI p), (57, AI q)]) [b_13 f, b1, w_13, h_13 h, r_13 k] [.b false] [0, 2, 3, 4, 8, 9, 54] X =
    (decide (q < 8) = false ∧ X (.exit 8) 92 [p00, p2, pw_13, ph_13, pr_13, AI p, AI p] [b_13 f, b1, w_13, h_13 h, r_13 k]) := by kernel_rfl
def HB_13 (h : Nat → Int) (p q j : Nat) : Int := if j < 8 * p + q then outP_13 h (j / 8) (j % 8) else 0
theorem rU_le_13 (h : Nat → Int) (p q : Nat) (hp : p < 8) (hq : q < 8) : BlkLe (rU_13 h (HB_13 h p q) p q) (r_13 (HB_13 h p (q + 1))) := by
  refine sy_le fun j hj => ?_
  rw [updG_int, ix_eq (by omega) (by omega) (by omega) (by omega), show 0 + ((8 * (p : Int) + (q : Int)).toNat) = 8 * p + q from by omega]
  congr 2
  unfold HB_13
  by_cases h1 : j = 8 * p + q
  · subst h1
    rw [if_pos rfl, if_pos (by omega), show (8 * p + q) / 8 = p from by omega, show (8 * p + q) % 8 = q from by omega]
  · rw [if_neg h1]
    by_cases h2 : j < 8 * p + q
    · rw [if_pos h2, if_pos (by omega)]
    · rw [if_neg h2, if_neg (by omega)]
theorem loopB2_13 (f h : Nat → Int) (p2 : AV) (p : Nat) (hp8 : p < 8) (b1 : Blk) :
    LoopOk Tryd.prog LB2_13 (tmL 92 [(0, p00), (2, p2), (3, pw_13), (4, ph_13), (8, pr_13), (9, AI (p : Nat)), (54, AI (p : Nat)), (57, AI 0)]) [b_13 f, b1, w_13, h_13 h, r_13 (HB_13 h p 0)] (.exit 8) (tmL 92 [(0, p00), (2, p2), (3, pw_13), (4, ph_13), (8, pr_13), (9, AI (p : Nat)), (54, AI (p : Nat))]) [b_13 f, b1, w_13, h_13 h, r_13 (HB_13 h p 8)] := by
  refine loop_rounds hm hT (FB3ok_13 f h _ F2ok) 92 8 (fun q => [(0, p00), (2, p2), (3, pw_13), (4, ph_13), (8, pr_13), (9, AI (p : Nat)), (54, AI (p : Nat)), (57, AI (q : Nat))]) (fun q => [b_13 f, b1, w_13, h_13 h, r_13 (HB_13 h p q)]) (.exit 8) _ _ (fun h => by cases h) (fun q hq => ?_) ?_ 0 (by omega)
  · have e1 := ix_eq (show (0 : Int) ≤ (p : Nat) by omega) (by omega) (show (0 : Int) ≤ (q : Nat) by omega) (by omega)
    refine ⟨3000, [.b true, .l 6], of_run (rB2_13 f h _ p2 p q b1 _) ⟨lt8 q hq, rfl, ⟨rfl, rfl, rfl, rfl, rfl, rfl, rfl, rfl, rfl, rfl, rfl, ⟨by omega, by omega⟩, ⟨by omega, by omega⟩, rfl⟩, by rw [e1]; omega, by rw [e1]; omega, rfl, rfl, ?_, ?_⟩⟩
    · exact ⟨rfl, sameV.refl _, rfl, rfl, rfl, rfl, rfl, congrArg (Value.int .i64) (next_eq q hq), trivial⟩
    · exact ⟨.refl _, .refl _, .refl _, .refl _, rU_le_13 h p q hp8 hq, trivial⟩
  · exact ⟨3000, [.b false], of_run (eB2_13 f h _ p2 (p : Nat) ((8 : Nat) : Int) b1 _) ⟨not8, rfl, rfl, ⟨rfl, sameV.refl _, rfl, rfl, rfl, rfl, rfl, trivial⟩, HpLe.refl _⟩⟩
def cB2_13 (f h : Nat → Int) (tm : Tm) (hp : List Blk) : Option (Prop × Ex × Tm × List Blk) :=
  match getT tm 9, hp with
  | .one (.sc (.int .i64 p) _), [x0, b1, x2, x3, y] =>
    some ((tm.n = 92 ∧ getT tm 0 = p00 ∧ getT tm 3 = pw_13 ∧ getT tm 4 = ph_13 ∧ getT tm 8 = pr_13 ∧ getT tm 9 = AI p ∧ getT tm 54 = AI p ∧ getT tm 57 = li 0 ∧ (0 ≤ p ∧ p < 8) ∧ [x0, x2, x3, y] = [b_13 f, w_13, h_13 h, r_13 (HB_13 h p.toNat 0)]), .exit 8, tmL 92 [(0, p00), (2, getT tm 2), (3, pw_13), (4, ph_13), (8, pr_13), (9, AI p), (54, AI p)], [b_13 f, b1, w_13, h_13 h, r_13 (HB_13 h p.toNat 8)])
  | _, _ => none
noncomputable def FB2_13 (f h : Nat → Int) : Fns := F2.addLoop 5 LB2_13 (cB2_13 f h)
theorem FB2ok_13 (f h : Nat → Int) (G : Fns) (hG : FnsOk Tryd.prog G) : FnsOk Tryd.prog (G.addLoop 5 LB2_13 (cB2_13 f h)) := by
  refine hG.addLoop 5 _ _ fun tm hp p x tm' hp' hg hp1 => ?_
  unfold cB2_13 at hg
  split at hg
  · rename_i p sp x0 b1 x2 x3 y gp
    simp only [Option.some.injEq, Prod.mk.injEq] at hg
    obtain ⟨rfl, rfl, rfl, rfl⟩ := hg
    obtain ⟨hn, k0, k3, k4, k8, k9, k54, k57, ⟨qp1, qp2⟩, hh⟩ := hp1
    simp only [List.cons.injEq, and_true] at hh
    obtain ⟨rfl, rfl, rfl, rfl⟩ := hh
    obtain ⟨pN, rfl⟩ := Int.eq_ofNat_of_zero_le qp1
    refine (loopB2_13 f h (getT tm 2) pN (by omega) b1).weak (Weak.of hn ⟨by rw [k0]; rfl, sameV.refl _, by rw [k3]; rfl, by rw [k4]; rfl, by rw [k8]; rfl, by rw [k9]; rfl, by rw [k54]; rfl, by rw [k57]; rfl, trivial⟩ (HpLe.refl _)) (Weak.refl _ _)
  · cases hg
theorem rB1_13 (f h : Nat → Int) (p2 : AV) (p : Nat) (b1 : Blk) (X : Ex → Nat → List AV → List Blk → Prop) :
    roundK Tryd.prog T (FB2_13 f h) 3000 LB1_13 (tmL 92 [(0, p00), (2, p2), (3, pw_13), (4, ph_13), (8, pr_13), (54, AI (p : Nat))]) [b_13 f, b1, w_13, h_13 h, r_13 (HB_13 h p 0)] [.b true, .l 5] [0, 2, 3, 4, 8, 54] X =
    (decide ((p : Int) < 8) = true ∧ (LB2_13 = LB2_13 ∧ ((92 : Nat) = 92 ∧ p00 = p00 ∧ pw_13 = pw_13 ∧ ph_13 = ph_13 ∧ pr_13 = pr_13 ∧ AI p = AI p ∧ AI p = AI p ∧ li 0 = li 0 ∧ (0 ≤ (p : Int) ∧ (p : Int) < 8) ∧ [b_13 f, w_13, h_13 h, r_13 (HB_13 h p 0)] = [b_13 f, w_13, h_13 h, r_13 (HB_13 h p 0)]) ∧ X .normal 92 [p00, p2, pw_13, ph_13, pr_13, AI (W ((p : Int) + 1))] [b_13 f, b1, w_13, h_13 h, r_13 (HB_13 h p 8)])) := by kernel_rfl
theorem eB1_13 (f h k : Nat → Int) (p2 : AV) (p : Int) (b1 : Blk) (X : Ex → Nat → List AV → List Blk → Prop) :
    roundK Tryd.prog T (FB2_13 f h) 3000 LB1_13 (tmL 92 [(0, p00), (2, p2), (3, pw_13), (4, ph_13), (8, pr_13), (54, AI p)]) [b_13 f, b1, w_13, h_13 h, r_13 k] [.b false] [0, 2, 3, 4, 8] X =
    (decide (p < 8) = false ∧ X (.exit 6) 92 [p00, p2, pw_13, ph_13, pr_13] [b_13 f, b1, w_13, h_13 h, r_13 k]) := by kernel_rfl
def resH_13 (h : Nat → Int) (j : Nat) : Int := outP_13 h (j / 8) (j % 8)
theorem loopB1_13 (f h : Nat → Int) (p2 : AV) (b1 : Blk) :
    LoopOk Tryd.prog LB1_13 (tmL 92 [(0, p00), (2, p2), (3, pw_13), (4, ph_13), (8, pr_13), (54, AI 0)]) [b_13 f, b1, w_13, h_13 h, r_13 (HB_13 h 0 0)] (.exit 6) (tmL 92 [(0, p00), (2, p2), (3, pw_13), (4, ph_13), (8, pr_13)]) [b_13 f, b1, w_13, h_13 h, r_13 (resH_13 h)] := by
  refine loop_rounds hm hT (FB2ok_13 f h _ F2ok) 92 8 (fun p => [(0, p00), (2, p2), (3, pw_13), (4, ph_13), (8, pr_13), (54, AI (p : Nat))]) (fun p => [b_13 f, b1, w_13, h_13 h, r_13 (HB_13 h p 0)]) (.exit 6) _ _ (fun h => by cases h) (fun p hp8 => ?_) ?_ 0 (by omega)
  · refine ⟨3000, [.b true, .l 5], of_run (rB1_13 f h p2 p b1 _) ⟨lt8 p hp8, rfl, ⟨rfl, rfl, rfl, rfl, rfl, rfl, rfl, rfl, ⟨by omega, by omega⟩, rfl⟩, rfl, rfl, ?_, ?_⟩⟩
    · exact ⟨rfl, sameV.refl _, rfl, rfl, rfl, congrArg (Value.int .i64) (next_eq p hp8), trivial⟩
    · exact ⟨.refl _, .refl _, .refl _, .refl _, sy_le fun j _ => by unfold HB_13; rw [show 8 * (p + 1) + 0 = 8 * p + 8 from by omega], trivial⟩
  · refine ⟨3000, [.b false], of_run (eB1_13 f h _ p2 ((8 : Nat) : Int) b1 _) ⟨not8, rfl, rfl, ⟨rfl, sameV.refl _, rfl, rfl, rfl, trivial⟩, ⟨.refl _, .refl _, .refl _, .refl _, sy_le fun j hj => ?_, trivial⟩⟩⟩
    unfold HB_13 resH_13
    rw [if_pos (by omega)]
def zr_13 : Blk := { body := .li (cellsK .u8 true 64 fun _ => 0), elem := 31, live := true, ro := false }
theorem zr_le_13 (h : Nat → Int) : BlkLe zr_13 (r_13 (HB_13 h 0 0)) := by
  have hz : BlkLe zr_13 { body := syI .u8 64 fun _ => 0, elem := 31, live := true, ro := false } := li_le
  exact ⟨rfl, rfl, rfl, fun E vs hr => hz.2.2.2 E vs hr⟩
def cB1_13 (f h : Nat → Int) (tm : Tm) (hp : List Blk) : Option (Prop × Ex × Tm × List Blk) :=
  match hp with
  | [x0, b1, x2, x3, y] =>
    some ((tm.n = 92 ∧ getT tm 0 = p00 ∧ getT tm 3 = pw_13 ∧ getT tm 4 = ph_13 ∧ getT tm 8 = pr_13 ∧ getT tm 54 = li 0 ∧ [x0, x2, x3, y] = [b_13 f, w_13, h_13 h, zr_13]), .exit 6, tmL 92 [(0, p00), (2, getT tm 2), (3, pw_13), (4, ph_13), (8, pr_13)], [b_13 f, b1, w_13, h_13 h, r_13 (resH_13 h)])
  | _ => none
noncomputable def FB1_13 (f h : Nat → Int) : Fns := F2.addLoop 4 LB1_13 (cB1_13 f h)
theorem FB1ok_13 (f h : Nat → Int) (G : Fns) (hG : FnsOk Tryd.prog G) : FnsOk Tryd.prog (G.addLoop 4 LB1_13 (cB1_13 f h)) := by
  refine hG.addLoop 4 _ _ fun tm hp p x tm' hp' hg hp1 => ?_
  unfold cB1_13 at hg
  split at hg
  · rename_i x0 b1 x2 x3 y
    simp only [Option.some.injEq, Prod.mk.injEq] at hg
    obtain ⟨rfl, rfl, rfl, rfl⟩ := hg
    obtain ⟨hn, k0, k3, k4, k8, k54, hh⟩ := hp1
    simp only [List.cons.injEq, and_true] at hh
    obtain ⟨rfl, rfl, rfl, rfl⟩ := hh
    refine (loopB1_13 f h (getT tm 2) b1).weak (Weak.of hn ⟨by rw [k0]; rfl, sameV.refl _, by rw [k3]; rfl, by rw [k4]; rfl, by rw [k8]; rfl, by rw [k54]; rfl, trivial⟩ (⟨.refl _, .refl _, .refl _, .refl _, zr_le_13 h, trivial⟩)) (Weak.refl _ _)
  · cases hg
def iP_13 (f : Nat → Int) : Blk := { body := .li (cellsK .i32 false 64 f), elem := 33, live := true, ro := true }
def ww_13 : Blk := { body := .li (cellsK .i64 true 64 wF), elem := 45, live := true, ro := false }
def zh_13 : Blk := { body := .li (cellsK .i64 true 64 fun _ => 0), elem := 47, live := true, ro := false }
theorem zh_le_13 (f : Nat → Int) : BlkLe zh_13 (h_13 (HA_13 f 0 0 0)) := by
  have hz : BlkLe zh_13 { body := syI .i64 64 fun _ => 0, elem := 47, live := true, ro := false } := li_le
  refine ⟨rfl, rfl, rfl, fun E vs hr => ?_⟩
  have h2 := hz.2.2.2 E vs hr
  have e : (h_13 (HA_13 f 0 0 0)).cells = symC 64 fun _ => C1.sc (.int .i64 0) false := by
    show symC 64 (fun j => C1.sc (.int .i64 (HA_13 f 0 0 0 j)) false) = _
    congr 1
    funext j
    unfold HA_13
    by_cases h1 : j < 8 * 0 + 0
    · omega
    · rw [if_neg h1]
      by_cases h3 : j = 8 * 0 + 0
      · rw [if_pos h3]; rfl
      · rw [if_neg h3]
  rw [e]
  exact h2
def cA1_13 (f : Nat → Int) (tm : Tm) (hp : List Blk) : Option (Prop × Ex × Tm × List Blk) :=
  match hp with
  | [x0, b1, x2, x3] =>
    some ((tm.n = 92 ∧ getT tm 0 = p00 ∧ getT tm 3 = pw_13 ∧ getT tm 4 = ph_13 ∧ getT tm 17 = li 0 ∧ [x0, x2, x3] = [iP_13 f, ww_13, zh_13]), .exit 0, tmL 92 [(0, p00), (2, getT tm 2), (3, pw_13), (4, ph_13)], [b_13 f, b1, w_13, h_13 (half_13 f)])
  | _ => none
noncomputable def FA1_13 (f : Nat → Int) : Fns := F2.addLoop 1 LA1_13 (cA1_13 f)
theorem FA1ok_13 (f : Nat → Int) : FnsOk Tryd.prog (FA1_13 f) := by
  refine F2ok.addLoop 1 _ _ fun tm hp p x tm' hp' hg hp1 => ?_
  unfold cA1_13 at hg
  split at hg
  · rename_i x0 b1 x2 x3
    simp only [Option.some.injEq, Prod.mk.injEq] at hg
    obtain ⟨rfl, rfl, rfl, rfl⟩ := hg
    obtain ⟨hn, k0, k3, k4, k17, hh⟩ := hp1
    simp only [List.cons.injEq, and_true] at hh
    obtain ⟨rfl, rfl, rfl⟩ := hh
    refine (loopA1_13 f (getT tm 2) b1).weak (Weak.of hn ⟨by rw [k0]; rfl, sameV.refl _, by rw [k3]; rfl, by rw [k4]; rfl, by rw [k17]; rfl, trivial⟩ (⟨li_le, .refl _, li_le, zh_le_13 f, trivial⟩)) (Weak.refl _ _)
  · cases hg
noncomputable def FP_13 (f : Nat → Int) : Fns := (FA1_13 f).addLoop 4 LB1_13 (cB1_13 f (half_13 f))
theorem FPok_13 (f : Nat → Int) : FnsOk Tryd.prog (FP_13 f) := FB1ok_13 f (half_13 f) _ (FA1ok_13 f)
def resP_13 (f : Nat → Int) : Nat → Int := resH_13 (half_13 f)
theorem runP_13 (f : Nat → Int) (u : Value) : runK Tryd.prog T (FP_13 f) 3000 Tryd.f13 [.one (.ptr 0 0)] [iP_13 f] [.l 1, .l 4] (fun r _ => resW r = some u) =
    (LA1_13 = LA1_13 ∧ ((92 : Nat) = 92 ∧ p00 = p00 ∧ pw_13 = pw_13 ∧ ph_13 = ph_13 ∧ li 0 = li 0 ∧ [iP_13 f, ww_13, zh_13] = [iP_13 f, ww_13, zh_13]) ∧ (LB1_13 = LB1_13 ∧ ((92 : Nat) = 92 ∧ p00 = p00 ∧ pw_13 = pw_13 ∧ ph_13 = ph_13 ∧ pr_13 = pr_13 ∧ li 0 = li 0 ∧ [b_13 f, w_13, h_13 (half_13 f), zr_13] = [b_13 f, w_13, h_13 (half_13 f), zr_13]) ∧ (0 + 64 ≤ 64 ∧ some (v64 .u8 (resP_13 f)) = some u))) := by kernel_rfl
def GP_13 : List ArgV → Option Value
  | [.mem e cs] => if e = 33 then intsK .i32 cs (vecN 64 fun s => some (v64 .u8 (resP_13 s))) else none
  | _ => none
theorem conP_13 : Con Tryd.prog 13 GP_13 := by
  refine con_of_each hm hT Tryd.func13 Tryd.call13 fun avs u h => ?_
  unfold GP_13 at h
  split at h
  · rename_i e cs
    split at h
    · rename_i he
      subst he
      obtain ⟨b, rfl, h2⟩ := arrK_spec h
      simp only [Option.some.injEq] at h2; subst h2
      exact ⟨FP_13 b, FPok_13 b, [], 3000, [.l 1, .l 4], _, _, by kernel_rfl, of_run (runP_13 b _) ⟨rfl, ⟨rfl, rfl, rfl, rfl, rfl, rfl⟩, rfl, ⟨rfl, rfl, rfl, rfl, rfl, rfl, rfl⟩, by omega, rfl⟩⟩
    · cases h
  · cases h
def tB_11 (h : Nat → Int) (p q r : Int) : Int := wF (0 + p.toNat * 8 + r.toNat) * h (0 + (ix r q).toNat)
theorem rB3_11 (f h : Nat → Int) (p2 : AV) (p q s r : Int) (b1 y : Blk) (X : Ex → Nat → List AV → List Blk → Prop) :
    roundK Tryd.prog T F2 3000 LB3_11 (tmL 89 [(0, p00), (2, p2), (3, pr_11), (4, pw_11), (5, ph_11), (9, AI p), (10, AI q), (11, AI s), (54, AI p), (57, AI q), (60, AI r)]) [b_11 f, b1, y, w_11, h_11 h] [.b true] [0, 2, 3, 4, 5, 9, 10, 11, 54, 57, 60] X =
    (decide (r < 8) = true ∧ ((0 ≤ p ∧ p < ((8 : Nat) : Int)) ∧ ((0 ≤ r ∧ r < ((8 : Nat) : Int)) ∧ (0 + p.toNat * 8 + r.toNat < 64 ∧ ((0 ≤ ix r q ∧ ix r q < ((64 : Nat) : Int)) ∧ (0 + (ix r q).toNat < 64 ∧ (X .normal 89 [p00, p2, pr_11, pw_11, ph_11, AI p, AI q, AI (W (s + W (tB_11 h p q r))), AI p, AI q, AI (W (r + 1))] [b_11 f, b1, y, w_11, h_11 h]))))))) := by kernel_rfl
theorem eB3_11 (f h : Nat → Int) (p2 : AV) (p q s r : Int) (b1 y : Blk) (X : Ex → Nat → List AV → List Blk → Prop) :
    roundK Tryd.prog T F2 3000 LB3_11 (tmL 89 [(0, p00), (2, p2), (3, pr_11), (4, pw_11), (5, ph_11), (9, AI p), (10, AI q), (11, AI s), (54, AI p), (57, AI q), (60, AI r)]) [b_11 f, b1, y, w_11, h_11 h] [.b false] [0, 2, 3, 4, 5, 9, 10, 11, 54, 57] X =
    (decide (r < 8) = false ∧ X (.exit 10) 89 [p00, p2, pr_11, pw_11, ph_11, AI p, AI q, AI s, AI p, AI q] [b_11 f, b1, y, w_11, h_11 h]) := by kernel_rfl
def gB_11 (h : Nat → Int) (p q r : Nat) : Int := wF (p * 8 + r) * h (8 * r + q)
theorem tB_eq_11 (h : Nat → Int) (p q r : Nat) (hp : p < 8) (hq : q < 8) (hr : r < 8) : tB_11 h (p : Nat) (q : Nat) (r : Nat) = gB_11 h p q r := by
  unfold tB_11 gB_11
  rw [ix_eq (by omega) (by omega) (by omega) (by omega), show (0 + ((8 * (r : Int) + (q : Int)).toNat)) = 8 * r + q from by omega, Int.toNat_natCast, Int.toNat_natCast, Nat.zero_add]
theorem loopB3_11 (f h : Nat → Int) (p2 : AV) (p q : Nat) (hp8 : p < 8) (hq : q < 8) (b1 y : Blk) :
    LoopOk Tryd.prog LB3_11 (tmL 89 [(0, p00), (2, p2), (3, pr_11), (4, pw_11), (5, ph_11), (9, AI (p : Nat)), (10, AI (q : Nat)), (11, AI 0), (54, AI (p : Nat)), (57, AI (q : Nat)), (60, AI 0)]) [b_11 f, b1, y, w_11, h_11 h] (.exit 10) (tmL 89 [(0, p00), (2, p2), (3, pr_11), (4, pw_11), (5, ph_11), (9, AI (p : Nat)), (10, AI (q : Nat)), (11, AI (sumW 8 (gB_11 h p q))), (54, AI (p : Nat)), (57, AI (q : Nat))]) [b_11 f, b1, y, w_11, h_11 h] := by
  refine loop_rounds hm hT F2ok 89 8 (fun r => [(0, p00), (2, p2), (3, pr_11), (4, pw_11), (5, ph_11), (9, AI (p : Nat)), (10, AI (q : Nat)), (11, AI (sumW r (gB_11 h p q))), (54, AI (p : Nat)), (57, AI (q : Nat)), (60, AI (r : Nat))]) (fun _ => [b_11 f, b1, y, w_11, h_11 h]) (.exit 10) _ _ (fun h => by cases h) (fun r hr => ?_) ?_ 0 (by omega)
  · have e2 := ix_eq (show (0 : Int) ≤ (r : Nat) by omega) (by omega) (show (0 : Int) ≤ (q : Nat) by omega) (by omega)
    refine ⟨3000, [.b true], of_run (rB3_11 f h p2 (p : Nat) (q : Nat) _ (r : Nat) b1 y _) ⟨lt8 r hr, by omega, by omega, by omega, by rw [e2]; omega, by rw [e2]; omega, rfl, rfl, ?_, HpLe.refl _⟩⟩
    rw [tB_eq_11 h p q r hp8 hq hr]
    exact ⟨rfl, sameV.refl _, rfl, rfl, rfl, rfl, rfl, rfl, rfl, rfl, congrArg (Value.int .i64) (next_eq r hr), trivial⟩
  · exact ⟨3000, [.b false], of_run (eB3_11 f h p2 (p : Nat) (q : Nat) _ ((8 : Nat) : Int) b1 y _) ⟨not8, rfl, rfl, ⟨rfl, sameV.refl _, rfl, rfl, rfl, rfl, rfl, rfl, rfl, rfl, trivial⟩, HpLe.refl _⟩⟩
def cB3_11 (f h : Nat → Int) (tm : Tm) (hp : List Blk) : Option (Prop × Ex × Tm × List Blk) :=
  match getT tm 9, getT tm 10, hp with
  | .one (.sc (.int .i64 p) _), .one (.sc (.int .i64 q) _), [x0, b1, y, x2, x3] =>
    some ((tm.n = 89 ∧ getT tm 0 = p00 ∧ getT tm 3 = pr_11 ∧ getT tm 4 = pw_11 ∧ getT tm 5 = ph_11 ∧ getT tm 9 = AI p ∧ getT tm 10 = AI q ∧ getT tm 11 = li 0 ∧ getT tm 54 = AI p ∧ getT tm 57 = AI q ∧ getT tm 60 = li 0 ∧ (0 ≤ p ∧ p < 8) ∧ (0 ≤ q ∧ q < 8) ∧ [x0, x2, x3] = [b_11 f, w_11, h_11 h]), .exit 10, tmL 89 [(0, p00), (2, getT tm 2), (3, pr_11), (4, pw_11), (5, ph_11), (9, AI p), (10, AI q), (11, AI (sumW 8 (gB_11 h p.toNat q.toNat))), (54, AI p), (57, AI q)], [b_11 f, b1, y, w_11, h_11 h])
  | _, _, _ => none
noncomputable def FB3_11 (f h : Nat → Int) : Fns := F2.addLoop 6 LB3_11 (cB3_11 f h)
theorem FB3ok_11 (f h : Nat → Int) (G : Fns) (hG : FnsOk Tryd.prog G) : FnsOk Tryd.prog (G.addLoop 6 LB3_11 (cB3_11 f h)) := by
  refine hG.addLoop 6 _ _ fun tm hp p x tm' hp' hg hp1 => ?_
  unfold cB3_11 at hg
  split at hg
  · rename_i p sp q sq x0 b1 y x2 x3 gp gq
    simp only [Option.some.injEq, Prod.mk.injEq] at hg
    obtain ⟨rfl, rfl, rfl, rfl⟩ := hg
    obtain ⟨hn, k0, k3, k4, k5, k9, k10, k11, k54, k57, k60, ⟨qp1, qp2⟩, ⟨qq1, qq2⟩, hh⟩ := hp1
    simp only [List.cons.injEq, and_true] at hh
    obtain ⟨rfl, rfl, rfl⟩ := hh
    obtain ⟨pN, rfl⟩ := Int.eq_ofNat_of_zero_le qp1
    obtain ⟨qN, rfl⟩ := Int.eq_ofNat_of_zero_le qq1
    refine (loopB3_11 f h (getT tm 2) pN qN (by omega) (by omega) b1 y).weak (Weak.of hn ⟨by rw [k0]; rfl, sameV.refl _, by rw [k3]; rfl, by rw [k4]; rfl, by rw [k5]; rfl, by rw [k9]; rfl, by rw [k10]; rfl, by rw [k11]; rfl, by rw [k54]; rfl, by rw [k57]; rfl, by rw [k60]; rfl, trivial⟩ (by first | exact HpLe.refl _ | exact HpLe.refl _)) (Weak.refl _ _)
  · cases hg
def outP_11 (h : Nat → Int) (p q : Nat) : Int := IntKind.i32.wrap (settledI (sumW 8 (gB_11 h p q)))
def rU_11 (h k : Nat → Int) (p q : Nat) : Blk := { body := .sy 64 (updG (fun j => .sc (.int .i32 (k j)) false) (0 + (ix p q).toNat) (.sc (.int .i32 (outP_11 h p q)) false)), elem := 33, live := true, ro := false }
theorem rB2_11 (f h k : Nat → Int) (p2 : AV) (p q : Nat) (b1 : Blk) (X : Ex → Nat → List AV → List Blk → Prop) :
    roundK Tryd.prog T (FB3_11 f h) 3000 LB2_11 (tmL 89 [(0, p00), (2, p2), (3, pr_11), (4, pw_11), (5, ph_11), (9, AI (p : Nat)), (54, AI (p : Nat)), (57, AI (q : Nat))]) [b_11 f, b1, r_11 k, w_11, h_11 h] [.b true, .l 6] [0, 2, 3, 4, 5, 9, 54, 57] X =
    (decide ((q : Int) < 8) = true ∧ (LB3_11 = LB3_11 ∧ ((89 : Nat) = 89 ∧ p00 = p00 ∧ pr_11 = pr_11 ∧ pw_11 = pw_11 ∧ ph_11 = ph_11 ∧ AI p = AI p ∧ AI q = AI q ∧ li 0 = li 0 ∧ AI p = AI p ∧ AI q = AI q ∧ li 0 = li 0 ∧ (0 ≤ (p : Int) ∧ (p : Int) < 8) ∧ (0 ≤ (q : Int) ∧ (q : Int) < 8) ∧ [b_11 f, w_11, h_11 h] = [b_11 f, w_11, h_11 h]) ∧ ((0 ≤ ix p q ∧ ix p q < ((64 : Nat) : Int)) ∧ (0 + (ix p q).toNat < 64 ∧ X .normal 89 [p00, p2, pr_11, pw_11, ph_11, AI (p : Nat), AI (p : Nat), AI (W ((q : Int) + 1))] [b_11 f, b1, rU_11 h k p q, w_11, h_11 h])))) := by kernel_rfl
theorem eB2_11 (f h k : Nat → Int) (p2 : AV) (p q : Int) (b1 : Blk) (X : Ex → Nat → List AV → List Blk → Prop) :
    roundK Tryd.prog T (FB3_11 f h) 3000 LB2_11 (tmL 89 [(0, p00), (2, p2), (3, pr_11), (4, pw_11), (5, ph_11), (9, AI p), (54, AI p), (57, AI q)]) [b_11 f, b1, r_11 k, w_11, h_11 h] [.b false] [0, 2, 3, 4, 5, 9, 54] X =
    (decide (q < 8) = false ∧ X (.exit 8) 89 [p00, p2, pr_11, pw_11, ph_11, AI p, AI p] [b_11 f, b1, r_11 k, w_11, h_11 h]) := by kernel_rfl
def HB_11 (h : Nat → Int) (p q j : Nat) : Int := if j < 8 * p + q then outP_11 h (j / 8) (j % 8) else 0
theorem rU_le_11 (h : Nat → Int) (p q : Nat) (hp : p < 8) (hq : q < 8) : BlkLe (rU_11 h (HB_11 h p q) p q) (r_11 (HB_11 h p (q + 1))) := by
  refine sy_le fun j hj => ?_
  rw [updG_int, ix_eq (by omega) (by omega) (by omega) (by omega), show 0 + ((8 * (p : Int) + (q : Int)).toNat) = 8 * p + q from by omega]
  congr 2
  unfold HB_11
  by_cases h1 : j = 8 * p + q
  · subst h1
    rw [if_pos rfl, if_pos (by omega), show (8 * p + q) / 8 = p from by omega, show (8 * p + q) % 8 = q from by omega]
  · rw [if_neg h1]
    by_cases h2 : j < 8 * p + q
    · rw [if_pos h2, if_pos (by omega)]
    · rw [if_neg h2, if_neg (by omega)]
theorem loopB2_11 (f h : Nat → Int) (p2 : AV) (p : Nat) (hp8 : p < 8) (b1 : Blk) :
    LoopOk Tryd.prog LB2_11 (tmL 89 [(0, p00), (2, p2), (3, pr_11), (4, pw_11), (5, ph_11), (9, AI (p : Nat)), (54, AI (p : Nat)), (57, AI 0)]) [b_11 f, b1, r_11 (HB_11 h p 0), w_11, h_11 h] (.exit 8) (tmL 89 [(0, p00), (2, p2), (3, pr_11), (4, pw_11), (5, ph_11), (9, AI (p : Nat)), (54, AI (p : Nat))]) [b_11 f, b1, r_11 (HB_11 h p 8), w_11, h_11 h] := by
  refine loop_rounds hm hT (FB3ok_11 f h _ F2ok) 89 8 (fun q => [(0, p00), (2, p2), (3, pr_11), (4, pw_11), (5, ph_11), (9, AI (p : Nat)), (54, AI (p : Nat)), (57, AI (q : Nat))]) (fun q => [b_11 f, b1, r_11 (HB_11 h p q), w_11, h_11 h]) (.exit 8) _ _ (fun h => by cases h) (fun q hq => ?_) ?_ 0 (by omega)
  · have e1 := ix_eq (show (0 : Int) ≤ (p : Nat) by omega) (by omega) (show (0 : Int) ≤ (q : Nat) by omega) (by omega)
    refine ⟨3000, [.b true, .l 6], of_run (rB2_11 f h _ p2 p q b1 _) ⟨lt8 q hq, rfl, ⟨rfl, rfl, rfl, rfl, rfl, rfl, rfl, rfl, rfl, rfl, rfl, ⟨by omega, by omega⟩, ⟨by omega, by omega⟩, rfl⟩, by rw [e1]; omega, by rw [e1]; omega, rfl, rfl, ?_, ?_⟩⟩
    · exact ⟨rfl, sameV.refl _, rfl, rfl, rfl, rfl, rfl, congrArg (Value.int .i64) (next_eq q hq), trivial⟩
    · exact ⟨.refl _, .refl _, rU_le_11 h p q hp8 hq, .refl _, .refl _, trivial⟩
  · exact ⟨3000, [.b false], of_run (eB2_11 f h _ p2 (p : Nat) ((8 : Nat) : Int) b1 _) ⟨not8, rfl, rfl, ⟨rfl, sameV.refl _, rfl, rfl, rfl, rfl, rfl, trivial⟩, HpLe.refl _⟩⟩
def cB2_11 (f h : Nat → Int) (tm : Tm) (hp : List Blk) : Option (Prop × Ex × Tm × List Blk) :=
  match getT tm 9, hp with
  | .one (.sc (.int .i64 p) _), [x0, b1, y, x2, x3] =>
    some ((tm.n = 89 ∧ getT tm 0 = p00 ∧ getT tm 3 = pr_11 ∧ getT tm 4 = pw_11 ∧ getT tm 5 = ph_11 ∧ getT tm 9 = AI p ∧ getT tm 54 = AI p ∧ getT tm 57 = li 0 ∧ (0 ≤ p ∧ p < 8) ∧ [x0, x2, x3, y] = [b_11 f, w_11, h_11 h, r_11 (HB_11 h p.toNat 0)]), .exit 8, tmL 89 [(0, p00), (2, getT tm 2), (3, pr_11), (4, pw_11), (5, ph_11), (9, AI p), (54, AI p)], [b_11 f, b1, r_11 (HB_11 h p.toNat 8), w_11, h_11 h])
  | _, _ => none
noncomputable def FB2_11 (f h : Nat → Int) : Fns := F2.addLoop 5 LB2_11 (cB2_11 f h)
theorem FB2ok_11 (f h : Nat → Int) (G : Fns) (hG : FnsOk Tryd.prog G) : FnsOk Tryd.prog (G.addLoop 5 LB2_11 (cB2_11 f h)) := by
  refine hG.addLoop 5 _ _ fun tm hp p x tm' hp' hg hp1 => ?_
  unfold cB2_11 at hg
  split at hg
  · rename_i p sp x0 b1 y x2 x3 gp
    simp only [Option.some.injEq, Prod.mk.injEq] at hg
    obtain ⟨rfl, rfl, rfl, rfl⟩ := hg
    obtain ⟨hn, k0, k3, k4, k5, k9, k54, k57, ⟨qp1, qp2⟩, hh⟩ := hp1
    simp only [List.cons.injEq, and_true] at hh
    obtain ⟨rfl, rfl, rfl, rfl⟩ := hh
    obtain ⟨pN, rfl⟩ := Int.eq_ofNat_of_zero_le qp1
    refine (loopB2_11 f h (getT tm 2) pN (by omega) b1).weak (Weak.of hn ⟨by rw [k0]; rfl, sameV.refl _, by rw [k3]; rfl, by rw [k4]; rfl, by rw [k5]; rfl, by rw [k9]; rfl, by rw [k54]; rfl, by rw [k57]; rfl, trivial⟩ (HpLe.refl _)) (Weak.refl _ _)
  · cases hg
theorem rB1_11 (f h : Nat → Int) (p2 : AV) (p : Nat) (b1 : Blk) (X : Ex → Nat → List AV → List Blk → Prop) :
    roundK Tryd.prog T (FB2_11 f h) 3000 LB1_11 (tmL 89 [(0, p00), (2, p2), (3, pr_11), (4, pw_11), (5, ph_11), (54, AI (p : Nat))]) [b_11 f, b1, r_11 (HB_11 h p 0), w_11, h_11 h] [.b true, .l 5] [0, 2, 3, 4, 5, 54] X =
    (decide ((p : Int) < 8) = true ∧ (LB2_11 = LB2_11 ∧ ((89 : Nat) = 89 ∧ p00 = p00 ∧ pr_11 = pr_11 ∧ pw_11 = pw_11 ∧ ph_11 = ph_11 ∧ AI p = AI p ∧ AI p = AI p ∧ li 0 = li 0 ∧ (0 ≤ (p : Int) ∧ (p : Int) < 8) ∧ [b_11 f, w_11, h_11 h, r_11 (HB_11 h p 0)] = [b_11 f, w_11, h_11 h, r_11 (HB_11 h p 0)]) ∧ X .normal 89 [p00, p2, pr_11, pw_11, ph_11, AI (W ((p : Int) + 1))] [b_11 f, b1, r_11 (HB_11 h p 8), w_11, h_11 h])) := by kernel_rfl
theorem eB1_11 (f h k : Nat → Int) (p2 : AV) (p : Int) (b1 : Blk) (X : Ex → Nat → List AV → List Blk → Prop) :
    roundK Tryd.prog T (FB2_11 f h) 3000 LB1_11 (tmL 89 [(0, p00), (2, p2), (3, pr_11), (4, pw_11), (5, ph_11), (54, AI p)]) [b_11 f, b1, r_11 k, w_11, h_11 h] [.b false] [0, 2, 3, 4, 5] X =
    (decide (p < 8) = false ∧ X (.exit 6) 89 [p00, p2, pr_11, pw_11, ph_11] [b_11 f, b1, r_11 k, w_11, h_11 h]) := by kernel_rfl
def resH_11 (h : Nat → Int) (j : Nat) : Int := outP_11 h (j / 8) (j % 8)
theorem loopB1_11 (f h : Nat → Int) (p2 : AV) (b1 : Blk) :
    LoopOk Tryd.prog LB1_11 (tmL 89 [(0, p00), (2, p2), (3, pr_11), (4, pw_11), (5, ph_11), (54, AI 0)]) [b_11 f, b1, r_11 (HB_11 h 0 0), w_11, h_11 h] (.exit 6) (tmL 89 [(0, p00), (2, p2), (3, pr_11), (4, pw_11), (5, ph_11)]) [b_11 f, b1, r_11 (resH_11 h), w_11, h_11 h] := by
  refine loop_rounds hm hT (FB2ok_11 f h _ F2ok) 89 8 (fun p => [(0, p00), (2, p2), (3, pr_11), (4, pw_11), (5, ph_11), (54, AI (p : Nat))]) (fun p => [b_11 f, b1, r_11 (HB_11 h p 0), w_11, h_11 h]) (.exit 6) _ _ (fun h => by cases h) (fun p hp8 => ?_) ?_ 0 (by omega)
  · refine ⟨3000, [.b true, .l 5], of_run (rB1_11 f h p2 p b1 _) ⟨lt8 p hp8, rfl, ⟨rfl, rfl, rfl, rfl, rfl, rfl, rfl, rfl, ⟨by omega, by omega⟩, rfl⟩, rfl, rfl, ?_, ?_⟩⟩
    · exact ⟨rfl, sameV.refl _, rfl, rfl, rfl, congrArg (Value.int .i64) (next_eq p hp8), trivial⟩
    · exact ⟨.refl _, .refl _, sy_le fun j _ => by unfold HB_11; rw [show 8 * (p + 1) + 0 = 8 * p + 8 from by omega], .refl _, .refl _, trivial⟩
  · refine ⟨3000, [.b false], of_run (eB1_11 f h _ p2 ((8 : Nat) : Int) b1 _) ⟨not8, rfl, rfl, ⟨rfl, sameV.refl _, rfl, rfl, rfl, trivial⟩, ⟨.refl _, .refl _, sy_le fun j hj => ?_, .refl _, .refl _, trivial⟩⟩⟩
    unfold HB_11 resH_11
    rw [if_pos (by omega)]
def zr_11 : Blk := { body := .li (cellsK .i32 true 64 fun _ => 0), elem := 33, live := true, ro := false }
theorem zr_le_11 (h : Nat → Int) : BlkLe zr_11 (r_11 (HB_11 h 0 0)) := by
  have hz : BlkLe zr_11 { body := syI .i32 64 fun _ => 0, elem := 33, live := true, ro := false } := li_le
  exact ⟨rfl, rfl, rfl, fun E vs hr => hz.2.2.2 E vs hr⟩
def cB1_11 (f h : Nat → Int) (tm : Tm) (hp : List Blk) : Option (Prop × Ex × Tm × List Blk) :=
  match hp with
  | [x0, b1, y, x2, x3] =>
    some ((tm.n = 89 ∧ getT tm 0 = p00 ∧ getT tm 3 = pr_11 ∧ getT tm 4 = pw_11 ∧ getT tm 5 = ph_11 ∧ getT tm 54 = li 0 ∧ [x0, x2, x3, y] = [b_11 f, w_11, h_11 h, zr_11]), .exit 6, tmL 89 [(0, p00), (2, getT tm 2), (3, pr_11), (4, pw_11), (5, ph_11)], [b_11 f, b1, r_11 (resH_11 h), w_11, h_11 h])
  | _ => none
noncomputable def FB1_11 (f h : Nat → Int) : Fns := F2.addLoop 4 LB1_11 (cB1_11 f h)
theorem FB1ok_11 (f h : Nat → Int) (G : Fns) (hG : FnsOk Tryd.prog G) : FnsOk Tryd.prog (G.addLoop 4 LB1_11 (cB1_11 f h)) := by
  refine hG.addLoop 4 _ _ fun tm hp p x tm' hp' hg hp1 => ?_
  unfold cB1_11 at hg
  split at hg
  · rename_i x0 b1 y x2 x3
    simp only [Option.some.injEq, Prod.mk.injEq] at hg
    obtain ⟨rfl, rfl, rfl, rfl⟩ := hg
    obtain ⟨hn, k0, k3, k4, k5, k54, hh⟩ := hp1
    simp only [List.cons.injEq, and_true] at hh
    obtain ⟨rfl, rfl, rfl, rfl⟩ := hh
    refine (loopB1_11 f h (getT tm 2) b1).weak (Weak.of hn ⟨by rw [k0]; rfl, sameV.refl _, by rw [k3]; rfl, by rw [k4]; rfl, by rw [k5]; rfl, by rw [k54]; rfl, trivial⟩ (⟨.refl _, .refl _, zr_le_11 h, .refl _, .refl _, trivial⟩)) (Weak.refl _ _)
  · cases hg
def iP_11 (f : Nat → Int) : Blk := { body := .li (cellsK .i16 false 64 f), elem := 51, live := true, ro := true }
def ww_11 : Blk := { body := .li (cellsK .i64 true 64 wF), elem := 45, live := true, ro := false }
def zh_11 : Blk := { body := .li (cellsK .i64 true 64 fun _ => 0), elem := 47, live := true, ro := false }
theorem zh_le_11 (f : Nat → Int) : BlkLe zh_11 (h_11 (HA_11 f 0 0 0)) := by
  have hz : BlkLe zh_11 { body := syI .i64 64 fun _ => 0, elem := 47, live := true, ro := false } := li_le
  refine ⟨rfl, rfl, rfl, fun E vs hr => ?_⟩
  have h2 := hz.2.2.2 E vs hr
  have e : (h_11 (HA_11 f 0 0 0)).cells = symC 64 fun _ => C1.sc (.int .i64 0) false := by
    show symC 64 (fun j => C1.sc (.int .i64 (HA_11 f 0 0 0 j)) false) = _
    congr 1
    funext j
    unfold HA_11
    by_cases h1 : j < 8 * 0 + 0
    · omega
    · rw [if_neg h1]
      by_cases h3 : j = 8 * 0 + 0
      · rw [if_pos h3]; rfl
      · rw [if_neg h3]
  rw [e]
  exact h2
def cA1_11 (f : Nat → Int) (tm : Tm) (hp : List Blk) : Option (Prop × Ex × Tm × List Blk) :=
  match hp with
  | [x0, b1, b2, x2, x3] =>
    some ((tm.n = 89 ∧ getT tm 0 = p00 ∧ getT tm 4 = pw_11 ∧ getT tm 5 = ph_11 ∧ getT tm 17 = li 0 ∧ [x0, x2, x3] = [iP_11 f, ww_11, zh_11]), .exit 0, tmL 89 [(0, p00), (2, getT tm 2), (3, getT tm 3), (4, pw_11), (5, ph_11)], [b_11 f, b1, b2, w_11, h_11 (half_11 f)])
  | _ => none
noncomputable def FA1_11 (f : Nat → Int) : Fns := F2.addLoop 1 LA1_11 (cA1_11 f)
theorem FA1ok_11 (f : Nat → Int) : FnsOk Tryd.prog (FA1_11 f) := by
  refine F2ok.addLoop 1 _ _ fun tm hp p x tm' hp' hg hp1 => ?_
  unfold cA1_11 at hg
  split at hg
  · rename_i x0 b1 b2 x2 x3
    simp only [Option.some.injEq, Prod.mk.injEq] at hg
    obtain ⟨rfl, rfl, rfl, rfl⟩ := hg
    obtain ⟨hn, k0, k4, k5, k17, hh⟩ := hp1
    simp only [List.cons.injEq, and_true] at hh
    obtain ⟨rfl, rfl, rfl⟩ := hh
    refine (loopA1_11 f (getT tm 2) (getT tm 3) b1 b2).weak (Weak.of hn ⟨by rw [k0]; rfl, sameV.refl _, sameV.refl _, by rw [k4]; rfl, by rw [k5]; rfl, by rw [k17]; rfl, trivial⟩ (⟨li_le, .refl _, .refl _, li_le, zh_le_11 f, trivial⟩)) (Weak.refl _ _)
  · cases hg
noncomputable def FP_11 (f : Nat → Int) : Fns := (FA1_11 f).addLoop 4 LB1_11 (cB1_11 f (half_11 f))
theorem FPok_11 (f : Nat → Int) : FnsOk Tryd.prog (FP_11 f) := FB1ok_11 f (half_11 f) _ (FA1ok_11 f)
def resP_11 (f : Nat → Int) : Nat → Int := resH_11 (half_11 f)
theorem runP_11 (f : Nat → Int) (u : Value) : runK Tryd.prog T (FP_11 f) 3000 Tryd.f14 [.one (.ptr 0 0)] [iP_11 f] [.l 1, .l 4] (fun r _ => resW r = some u) =
    (LA1_11 = LA1_11 ∧ ((89 : Nat) = 89 ∧ p00 = p00 ∧ pw_11 = pw_11 ∧ ph_11 = ph_11 ∧ li 0 = li 0 ∧ [iP_11 f, ww_11, zh_11] = [iP_11 f, ww_11, zh_11]) ∧ (LB1_11 = LB1_11 ∧ ((89 : Nat) = 89 ∧ p00 = p00 ∧ pr_11 = pr_11 ∧ pw_11 = pw_11 ∧ ph_11 = ph_11 ∧ li 0 = li 0 ∧ [b_11 f, w_11, h_11 (half_11 f), zr_11] = [b_11 f, w_11, h_11 (half_11 f), zr_11]) ∧ (0 + 64 ≤ 64 ∧ some (v64 .i32 (resP_11 f)) = some u))) := by kernel_rfl
def GP_11 : List ArgV → Option Value
  | [.mem e cs] => if e = 51 then intsK .i16 cs (vecN 64 fun s => some (v64 .i32 (resP_11 s))) else none
  | _ => none
theorem conP_11 : Con Tryd.prog 14 GP_11 := by
  refine con_of_each hm hT Tryd.func14 Tryd.call14 fun avs u h => ?_
  unfold GP_11 at h
  split at h
  · rename_i e cs
    split at h
    · rename_i he
      subst he
      obtain ⟨b, rfl, h2⟩ := arrK_spec h
      simp only [Option.some.injEq] at h2; subst h2
      exact ⟨FP_11 b, FPok_11 b, [], 3000, [.l 1, .l 4], _, _, by kernel_rfl, of_run (runP_11 b _) ⟨rfl, ⟨rfl, rfl, rfl, rfl, rfl, rfl⟩, rfl, ⟨rfl, rfl, rfl, rfl, rfl, rfl, rfl⟩, by omega, rfl⟩⟩
    · cases h
  · cases h
end Go.Proofs.YtcfbhlpmhlmekaaDoor
