/-
  What is proved here: contracts of Inverse, Forward, Real, Waves where no array is handed in. A text to be imported.
-/
import Derived.Test.YtcfbhlpmhlmekaaDoorCon6
namespace Go.Proofs.YtcfbhlpmhlmekaaDoor
open Sm Go Go.RowKit
set_option maxRecDepth 1000000
set_option linter.unusedVariables false
def p10n : AV := .one (.ptr 1 0)
def b_n (f : Nat → Int) : Blk := { body := syI .i32 64 f, elem := 33, live := true, ro := false }
theorem rA3_n (f h : Nat → Int) (p2 : AV) (o m n : Int) (b1 : Blk) (X : Ex → Nat → List AV → List Blk → Prop) :
    roundK Tryd.prog T F2 3000 LA3_13 (tmL 92 [(0, p10n), (2, p2), (3, pw_13), (4, ph_13), (5, AI o), (6, AI m), (17, AI o), (20, AI m), (23, AI n)]) [b1, b_n f, w_13, h_13 h] [.b true] [0, 2, 3, 4, 5, 6, 17, 20, 23] X =
    (decide (n < 8) = true ∧ ((0 ≤ ix o m ∧ ix o m < ((64 : Nat) : Int)) ∧ (0 + (ix o m).toNat < 64 ∧ ((0 ≤ n ∧ n < ((8 : Nat) : Int)) ∧ ((0 ≤ o ∧ o < ((8 : Nat) : Int)) ∧ (0 + n.toNat * 8 + o.toNat < 64 ∧ ((0 ≤ ix n m ∧ ix n m < ((64 : Nat) : Int)) ∧ (0 + (ix n m).toNat < 64 ∧ ((0 ≤ ix o m ∧ ix o m < ((64 : Nat) : Int)) ∧ (0 + (ix o m).toNat < 64 ∧ (X .normal 92 [p10n, p2, pw_13, ph_13, AI o, AI m, AI o, AI m, AI (W (n + 1))] [b1, b_n f, w_13, hU_13 f h o m n]))))))))))) := by kernel_rfl
theorem eA3_n (f h : Nat → Int) (p2 : AV) (o m n : Int) (b1 : Blk) (X : Ex → Nat → List AV → List Blk → Prop) :
    roundK Tryd.prog T F2 3000 LA3_13 (tmL 92 [(0, p10n), (2, p2), (3, pw_13), (4, ph_13), (5, AI o), (6, AI m), (17, AI o), (20, AI m), (23, AI n)]) [b1, b_n f, w_13, h_13 h] [.b false] [0, 2, 3, 4, 5, 6, 17, 20] X =
    (decide (n < 8) = false ∧ X (.exit 4) 92 [p10n, p2, pw_13, ph_13, AI o, AI m, AI o, AI m] [b1, b_n f, w_13, h_13 h]) := by kernel_rfl
theorem loopA3_n (f : Nat → Int) (p2 : AV) (o m : Nat) (ho : o < 8) (hm8 : m < 8) (b1 : Blk) :
    LoopOk Tryd.prog LA3_13 (tmL 92 [(0, p10n), (2, p2), (3, pw_13), (4, ph_13), (5, AI (o : Nat)), (6, AI (m : Nat)), (17, AI (o : Nat)), (20, AI (m : Nat)), (23, AI 0)]) [b1, b_n f, w_13, h_13 (HA_13 f o m 0)] (.exit 4) (tmL 92 [(0, p10n), (2, p2), (3, pw_13), (4, ph_13), (5, AI (o : Nat)), (6, AI (m : Nat)), (17, AI (o : Nat)), (20, AI (m : Nat))]) [b1, b_n f, w_13, h_13 (HA_13 f o m 8)] := by
  refine loop_rounds hm hT F2ok 92 8 (fun n => [(0, p10n), (2, p2), (3, pw_13), (4, ph_13), (5, AI (o : Nat)), (6, AI (m : Nat)), (17, AI (o : Nat)), (20, AI (m : Nat)), (23, AI (n : Nat))]) (fun n => [b1, b_n f, w_13, h_13 (HA_13 f o m n)]) (.exit 4) _ _ (fun h => by cases h) (fun n hn => ?_) ?_ 0 (by omega)
  · have e1 := ix_eq (show (0 : Int) ≤ (o : Nat) by omega) (by omega) (show (0 : Int) ≤ (m : Nat) by omega) (by omega)
    have e2 := ix_eq (show (0 : Int) ≤ (n : Nat) by omega) (by omega) (show (0 : Int) ≤ (m : Nat) by omega) (by omega)
    refine ⟨3000, [.b true], of_run (rA3_n f _ p2 (o : Nat) (m : Nat) (n : Nat) b1 _) ⟨lt8 n hn, by rw [e1]; omega, by rw [e1]; omega, by omega, by omega, by omega, by rw [e2]; omega, by rw [e2]; omega, by rw [e1]; omega, by rw [e1]; omega, rfl, rfl, ?_, ?_⟩⟩
    · exact ⟨rfl, sameV.refl _, rfl, rfl, rfl, rfl, rfl, rfl, congrArg (Value.int .i64) (next_eq n hn), trivial⟩
    · exact ⟨.refl _, .refl _, .refl _, hU_le_13 f o m n ho hm8 hn, trivial⟩
  · exact ⟨3000, [.b false], of_run (eA3_n f _ p2 (o : Nat) (m : Nat) ((8 : Nat) : Int) b1 _) ⟨not8, rfl, rfl, ⟨rfl, sameV.refl _, rfl, rfl, rfl, rfl, rfl, rfl, trivial⟩, HpLe.refl _⟩⟩
def cA3_n (f : Nat → Int) (tm : Tm) (hp : List Blk) : Option (Prop × Ex × Tm × List Blk) :=
  match getT tm 5, getT tm 6, hp with
  | .one (.sc (.int .i64 o) _), .one (.sc (.int .i64 m) _), [b1, x0, x2, x3] =>
    some ((tm.n = 92 ∧ getT tm 0 = p10n ∧ getT tm 3 = pw_13 ∧ getT tm 4 = ph_13 ∧ getT tm 5 = AI o ∧ getT tm 6 = AI m ∧ getT tm 17 = AI o ∧ getT tm 20 = AI m ∧ getT tm 23 = li 0 ∧ (0 ≤ o ∧ o < 8) ∧ (0 ≤ m ∧ m < 8) ∧ [x0, x2, x3] = [b_n f, w_13, h_13 (HA_13 f o.toNat m.toNat 0)]), .exit 4, tmL 92 [(0, p10n), (2, getT tm 2), (3, pw_13), (4, ph_13), (5, AI o), (6, AI m), (17, AI o), (20, AI m)], [b1, b_n f, w_13, h_13 (HA_13 f o.toNat m.toNat 8)])
  | _, _, _ => none
noncomputable def FA3_n (f : Nat → Int) : Fns := F2.addLoop 3 LA3_13 (cA3_n f)
theorem FA3ok_n (f : Nat → Int) : FnsOk Tryd.prog (FA3_n f) := by
  refine F2ok.addLoop 3 _ _ fun tm hp p x tm' hp' hg hp1 => ?_
  unfold cA3_n at hg
  split at hg
  · rename_i o so m sm b1 x0 x2 x3 go gm
    simp only [Option.some.injEq, Prod.mk.injEq] at hg
    obtain ⟨rfl, rfl, rfl, rfl⟩ := hg
    obtain ⟨hn, k0, k3, k4, k5, k6, k17, k20, k23, ⟨qo1, qo2⟩, ⟨qm1, qm2⟩, hh⟩ := hp1
    simp only [List.cons.injEq, and_true] at hh
    obtain ⟨rfl, rfl, rfl⟩ := hh
    obtain ⟨oN, rfl⟩ := Int.eq_ofNat_of_zero_le qo1
    obtain ⟨mN, rfl⟩ := Int.eq_ofNat_of_zero_le qm1
    refine (loopA3_n f (getT tm 2) oN mN (by omega) (by omega) b1).weak (Weak.of hn ⟨by rw [k0]; rfl, sameV.refl _, by rw [k3]; rfl, by rw [k4]; rfl, by rw [k5]; rfl, by rw [k6]; rfl, by rw [k17]; rfl, by rw [k20]; rfl, by rw [k23]; rfl, trivial⟩ (HpLe.refl _)) (Weak.refl _ _)
  · cases hg
theorem rA2_n (f : Nat → Int) (p2 : AV) (o m : Nat) (b1 : Blk) (X : Ex → Nat → List AV → List Blk → Prop) :
    roundK Tryd.prog T (FA3_n f) 3000 LA2_13 (tmL 92 [(0, p10n), (2, p2), (3, pw_13), (4, ph_13), (5, AI (o : Nat)), (17, AI (o : Nat)), (20, AI (m : Nat))]) [b1, b_n f, w_13, h_13 (HA_13 f o m 0)] [.b true, .l 3] [0, 2, 3, 4, 5, 17, 20] X =
    (decide ((m : Int) < 8) = true ∧ (LA3_13 = LA3_13 ∧ ((92 : Nat) = 92 ∧ p10n = p10n ∧ pw_13 = pw_13 ∧ ph_13 = ph_13 ∧ AI o = AI o ∧ AI m = AI m ∧ AI o = AI o ∧ AI m = AI m ∧ li 0 = li 0 ∧ (0 ≤ (o : Int) ∧ (o : Int) < 8) ∧ (0 ≤ (m : Int) ∧ (m : Int) < 8) ∧ [b_n f, w_13, h_13 (HA_13 f o m 0)] = [b_n f, w_13, h_13 (HA_13 f o m 0)]) ∧ X .normal 92 [p10n, p2, pw_13, ph_13, AI (o : Nat), AI (o : Nat), AI (W ((m : Int) + 1))] [b1, b_n f, w_13, h_13 (HA_13 f o m 8)])) := by kernel_rfl
theorem eA2_n (f h : Nat → Int) (p2 : AV) (o m : Int) (b1 : Blk) (X : Ex → Nat → List AV → List Blk → Prop) :
    roundK Tryd.prog T (FA3_n f) 3000 LA2_13 (tmL 92 [(0, p10n), (2, p2), (3, pw_13), (4, ph_13), (5, AI o), (17, AI o), (20, AI m)]) [b1, b_n f, w_13, h_13 h] [.b false] [0, 2, 3, 4, 5, 17] X =
    (decide (m < 8) = false ∧ X (.exit 2) 92 [p10n, p2, pw_13, ph_13, AI o, AI o] [b1, b_n f, w_13, h_13 h]) := by kernel_rfl
theorem loopA2_n (f : Nat → Int) (p2 : AV) (o : Nat) (ho : o < 8) (b1 : Blk) :
    LoopOk Tryd.prog LA2_13 (tmL 92 [(0, p10n), (2, p2), (3, pw_13), (4, ph_13), (5, AI (o : Nat)), (17, AI (o : Nat)), (20, AI 0)]) [b1, b_n f, w_13, h_13 (HA_13 f o 0 0)] (.exit 2) (tmL 92 [(0, p10n), (2, p2), (3, pw_13), (4, ph_13), (5, AI (o : Nat)), (17, AI (o : Nat))]) [b1, b_n f, w_13, h_13 (HA_13 f o 8 0)] := by
  refine loop_rounds hm hT (FA3ok_n f) 92 8 (fun m => [(0, p10n), (2, p2), (3, pw_13), (4, ph_13), (5, AI (o : Nat)), (17, AI (o : Nat)), (20, AI (m : Nat))]) (fun m => [b1, b_n f, w_13, h_13 (HA_13 f o m 0)]) (.exit 2) _ _ (fun h => by cases h) (fun m hm8 => ?_) ?_ 0 (by omega)
  · refine ⟨3000, [.b true, .l 3], of_run (rA2_n f p2 o m b1 _) ⟨lt8 m hm8, rfl, ⟨rfl, rfl, rfl, rfl, rfl, rfl, rfl, rfl, rfl, ⟨by omega, by omega⟩, ⟨by omega, by omega⟩, rfl⟩, rfl, rfl, ?_, ?_⟩⟩
    · exact ⟨rfl, sameV.refl _, rfl, rfl, rfl, rfl, congrArg (Value.int .i64) (next_eq m hm8), trivial⟩
    · exact ⟨.refl _, .refl _, .refl _, sy_le fun j _ => by rw [HA_next_13], trivial⟩
  · exact ⟨3000, [.b false], of_run (eA2_n f _ p2 (o : Nat) ((8 : Nat) : Int) b1 _) ⟨not8, rfl, rfl, ⟨rfl, sameV.refl _, rfl, rfl, rfl, rfl, trivial⟩, HpLe.refl _⟩⟩
def cA2_n (f : Nat → Int) (tm : Tm) (hp : List Blk) : Option (Prop × Ex × Tm × List Blk) :=
  match getT tm 5, hp with
  | .one (.sc (.int .i64 o) _), [b1, x0, x2, x3] =>
    some ((tm.n = 92 ∧ getT tm 0 = p10n ∧ getT tm 3 = pw_13 ∧ getT tm 4 = ph_13 ∧ getT tm 5 = AI o ∧ getT tm 17 = AI o ∧ getT tm 20 = li 0 ∧ (0 ≤ o ∧ o < 8) ∧ [x0, x2, x3] = [b_n f, w_13, h_13 (HA_13 f o.toNat 0 0)]), .exit 2, tmL 92 [(0, p10n), (2, getT tm 2), (3, pw_13), (4, ph_13), (5, AI o), (17, AI o)], [b1, b_n f, w_13, h_13 (HA_13 f o.toNat 8 0)])
  | _, _ => none
noncomputable def FA2_n (f : Nat → Int) : Fns := F2.addLoop 2 LA2_13 (cA2_n f)
theorem FA2ok_n (f : Nat → Int) : FnsOk Tryd.prog (FA2_n f) := by
  refine F2ok.addLoop 2 _ _ fun tm hp p x tm' hp' hg hp1 => ?_
  unfold cA2_n at hg
  split at hg
  · rename_i o so b1 x0 x2 x3 go
    simp only [Option.some.injEq, Prod.mk.injEq] at hg
    obtain ⟨rfl, rfl, rfl, rfl⟩ := hg
    obtain ⟨hn, k0, k3, k4, k5, k17, k20, ⟨qo1, qo2⟩, hh⟩ := hp1
    simp only [List.cons.injEq, and_true] at hh
    obtain ⟨rfl, rfl, rfl⟩ := hh
    obtain ⟨oN, rfl⟩ := Int.eq_ofNat_of_zero_le qo1
    refine (loopA2_n f (getT tm 2) oN (by omega) b1).weak (Weak.of hn ⟨by rw [k0]; rfl, sameV.refl _, by rw [k3]; rfl, by rw [k4]; rfl, by rw [k5]; rfl, by rw [k17]; rfl, by rw [k20]; rfl, trivial⟩ (HpLe.refl _)) (Weak.refl _ _)
  · cases hg
theorem rA1_n (f : Nat → Int) (p2 : AV) (o : Nat) (b1 : Blk) (X : Ex → Nat → List AV → List Blk → Prop) :
    roundK Tryd.prog T (FA2_n f) 3000 LA1_13 (tmL 92 [(0, p10n), (2, p2), (3, pw_13), (4, ph_13), (17, AI (o : Nat))]) [b1, b_n f, w_13, h_13 (HA_13 f o 0 0)] [.b true, .l 2] [0, 2, 3, 4, 17] X =
    (decide ((o : Int) < 8) = true ∧ (LA2_13 = LA2_13 ∧ ((92 : Nat) = 92 ∧ p10n = p10n ∧ pw_13 = pw_13 ∧ ph_13 = ph_13 ∧ AI o = AI o ∧ AI o = AI o ∧ li 0 = li 0 ∧ (0 ≤ (o : Int) ∧ (o : Int) < 8) ∧ [b_n f, w_13, h_13 (HA_13 f o 0 0)] = [b_n f, w_13, h_13 (HA_13 f o 0 0)]) ∧ X .normal 92 [p10n, p2, pw_13, ph_13, AI (W ((o : Int) + 1))] [b1, b_n f, w_13, h_13 (HA_13 f o 8 0)])) := by kernel_rfl
theorem eA1_n (f h : Nat → Int) (p2 : AV) (o : Int) (b1 : Blk) (X : Ex → Nat → List AV → List Blk → Prop) :
    roundK Tryd.prog T (FA2_n f) 3000 LA1_13 (tmL 92 [(0, p10n), (2, p2), (3, pw_13), (4, ph_13), (17, AI o)]) [b1, b_n f, w_13, h_13 h] [.b false] [0, 2, 3, 4] X =
    (decide (o < 8) = false ∧ X (.exit 0) 92 [p10n, p2, pw_13, ph_13] [b1, b_n f, w_13, h_13 h]) := by kernel_rfl
theorem loopA1_n (f : Nat → Int) (p2 : AV) (b1 : Blk) :
    LoopOk Tryd.prog LA1_13 (tmL 92 [(0, p10n), (2, p2), (3, pw_13), (4, ph_13), (17, AI 0)]) [b1, b_n f, w_13, h_13 (HA_13 f 0 0 0)] (.exit 0) (tmL 92 [(0, p10n), (2, p2), (3, pw_13), (4, ph_13)]) [b1, b_n f, w_13, h_13 (half_13 f)] := by
  refine loop_rounds hm hT (FA2ok_n f) 92 8 (fun o => [(0, p10n), (2, p2), (3, pw_13), (4, ph_13), (17, AI (o : Nat))]) (fun o => [b1, b_n f, w_13, h_13 (HA_13 f o 0 0)]) (.exit 0) _ _ (fun h => by cases h) (fun o ho => ?_) ?_ 0 (by omega)
  · refine ⟨3000, [.b true, .l 2], of_run (rA1_n f p2 o b1 _) ⟨lt8 o ho, rfl, ⟨rfl, rfl, rfl, rfl, rfl, rfl, rfl, ⟨by omega, by omega⟩, rfl⟩, rfl, rfl, ?_, ?_⟩⟩
    · exact ⟨rfl, sameV.refl _, rfl, rfl, congrArg (Value.int .i64) (next_eq o ho), trivial⟩
    · exact ⟨.refl _, .refl _, .refl _, sy_le fun j _ => by rw [HA_row_13], trivial⟩
  · refine ⟨3000, [.b false], of_run (eA1_n f _ p2 ((8 : Nat) : Int) b1 _) ⟨not8, rfl, rfl, ⟨rfl, sameV.refl _, rfl, rfl, trivial⟩, ⟨.refl _, .refl _, .refl _, sy_le fun j hj => ?_, trivial⟩⟩⟩
    unfold HA_13 half_13
    rw [if_pos (by omega)]
theorem rB3_n (f h : Nat → Int) (p2 : AV) (p q s r : Int) (b1 y : Blk) (X : Ex → Nat → List AV → List Blk → Prop) :
    roundK Tryd.prog T F2 3000 LB3_13 (tmL 92 [(0, p10n), (2, p2), (3, pw_13), (4, ph_13), (8, pr_13), (9, AI p), (10, AI q), (11, AI s), (54, AI p), (57, AI q), (60, AI r)]) [b1, b_n f, w_13, h_13 h, y] [.b true] [0, 2, 3, 4, 8, 9, 10, 11, 54, 57, 60] X =
    (decide (r < 8) = true ∧ ((0 ≤ r ∧ r < ((8 : Nat) : Int)) ∧ ((0 ≤ q ∧ q < ((8 : Nat) : Int)) ∧ (0 + r.toNat * 8 + q.toNat < 64 ∧ ((0 ≤ ix p r ∧ ix p r < ((64 : Nat) : Int)) ∧ (0 + (ix p r).toNat < 64 ∧ (X .normal 92 [p10n, p2, pw_13, ph_13, pr_13, AI p, AI q, AI (W (s + W (tB_13 h p q r))), AI p, AI q, AI (W (r + 1))] [b1, b_n f, w_13, h_13 h, y]))))))) := by kernel_rfl
theorem eB3_n (f h : Nat → Int) (p2 : AV) (p q s r : Int) (b1 y : Blk) (X : Ex → Nat → List AV → List Blk → Prop) :
    roundK Tryd.prog T F2 3000 LB3_13 (tmL 92 [(0, p10n), (2, p2), (3, pw_13), (4, ph_13), (8, pr_13), (9, AI p), (10, AI q), (11, AI s), (54, AI p), (57, AI q), (60, AI r)]) [b1, b_n f, w_13, h_13 h, y] [.b false] [0, 2, 3, 4, 8, 9, 10, 11, 54, 57] X =
    (decide (r < 8) = false ∧ X (.exit 10) 92 [p10n, p2, pw_13, ph_13, pr_13, AI p, AI q, AI s, AI p, AI q] [b1, b_n f, w_13, h_13 h, y]) := by kernel_rfl
theorem loopB3_n (f h : Nat → Int) (p2 : AV) (p q : Nat) (hp8 : p < 8) (hq : q < 8) (b1 y : Blk) :
    LoopOk Tryd.prog LB3_13 (tmL 92 [(0, p10n), (2, p2), (3, pw_13), (4, ph_13), (8, pr_13), (9, AI (p : Nat)), (10, AI (q : Nat)), (11, AI 0), (54, AI (p : Nat)), (57, AI (q : Nat)), (60, AI 0)]) [b1, b_n f, w_13, h_13 h, y] (.exit 10) (tmL 92 [(0, p10n), (2, p2), (3, pw_13), (4, ph_13), (8, pr_13), (9, AI (p : Nat)), (10, AI (q : Nat)), (11, AI (sumW 8 (gB_13 h p q))), (54, AI (p : Nat)), (57, AI (q : Nat))]) [b1, b_n f, w_13, h_13 h, y] := by
  refine loop_rounds hm hT F2ok 92 8 (fun r => [(0, p10n), (2, p2), (3, pw_13), (4, ph_13), (8, pr_13), (9, AI (p : Nat)), (10, AI (q : Nat)), (11, AI (sumW r (gB_13 h p q))), (54, AI (p : Nat)), (57, AI (q : Nat)), (60, AI (r : Nat))]) (fun _ => [b1, b_n f, w_13, h_13 h, y]) (.exit 10) _ _ (fun h => by cases h) (fun r hr => ?_) ?_ 0 (by omega)
  · have e2 := ix_eq (show (0 : Int) ≤ (p : Nat) by omega) (by omega) (show (0 : Int) ≤ (r : Nat) by omega) (by omega)
    refine ⟨3000, [.b true], of_run (rB3_n f h p2 (p : Nat) (q : Nat) _ (r : Nat) b1 y _) ⟨lt8 r hr, by omega, by omega, by omega, by rw [e2]; omega, by rw [e2]; omega, rfl, rfl, ?_, HpLe.refl _⟩⟩
    rw [tB_eq_13 h p q r hp8 hq hr]
    exact ⟨rfl, sameV.refl _, rfl, rfl, rfl, rfl, rfl, rfl, rfl, rfl, congrArg (Value.int .i64) (next_eq r hr), trivial⟩
  · exact ⟨3000, [.b false], of_run (eB3_n f h p2 (p : Nat) (q : Nat) _ ((8 : Nat) : Int) b1 y _) ⟨not8, rfl, rfl, ⟨rfl, sameV.refl _, rfl, rfl, rfl, rfl, rfl, rfl, rfl, rfl, trivial⟩, HpLe.refl _⟩⟩
def cB3_n (f h : Nat → Int) (tm : Tm) (hp : List Blk) : Option (Prop × Ex × Tm × List Blk) :=
  match getT tm 9, getT tm 10, hp with
  | .one (.sc (.int .i64 p) _), .one (.sc (.int .i64 q) _), [b1, x0, x2, x3, y] =>
    some ((tm.n = 92 ∧ getT tm 0 = p10n ∧ getT tm 3 = pw_13 ∧ getT tm 4 = ph_13 ∧ getT tm 8 = pr_13 ∧ getT tm 9 = AI p ∧ getT tm 10 = AI q ∧ getT tm 11 = li 0 ∧ getT tm 54 = AI p ∧ getT tm 57 = AI q ∧ getT tm 60 = li 0 ∧ (0 ≤ p ∧ p < 8) ∧ (0 ≤ q ∧ q < 8) ∧ [x0, x2, x3] = [b_n f, w_13, h_13 h]), .exit 10, tmL 92 [(0, p10n), (2, getT tm 2), (3, pw_13), (4, ph_13), (8, pr_13), (9, AI p), (10, AI q), (11, AI (sumW 8 (gB_13 h p.toNat q.toNat))), (54, AI p), (57, AI q)], [b1, b_n f, w_13, h_13 h, y])
  | _, _, _ => none
noncomputable def FB3_n (f h : Nat → Int) : Fns := F2.addLoop 6 LB3_13 (cB3_n f h)
theorem FB3ok_n (f h : Nat → Int) (G : Fns) (hG : FnsOk Tryd.prog G) : FnsOk Tryd.prog (G.addLoop 6 LB3_13 (cB3_n f h)) := by
  refine hG.addLoop 6 _ _ fun tm hp p x tm' hp' hg hp1 => ?_
  unfold cB3_n at hg
  split at hg
  · rename_i p sp q sq b1 x0 x2 x3 y gp gq
    simp only [Option.some.injEq, Prod.mk.injEq] at hg
    obtain ⟨rfl, rfl, rfl, rfl⟩ := hg
    obtain ⟨hn, k0, k3, k4, k8, k9, k10, k11, k54, k57, k60, ⟨qp1, qp2⟩, ⟨qq1, qq2⟩, hh⟩ := hp1
    simp only [List.cons.injEq, and_true] at hh
    obtain ⟨rfl, rfl, rfl⟩ := hh
    obtain ⟨pN, rfl⟩ := Int.eq_ofNat_of_zero_le qp1
    obtain ⟨qN, rfl⟩ := Int.eq_ofNat_of_zero_le qq1
    refine (loopB3_n f h (getT tm 2) pN qN (by omega) (by omega) b1 y).weak (Weak.of hn ⟨by rw [k0]; rfl, sameV.refl _, by rw [k3]; rfl, by rw [k4]; rfl, by rw [k8]; rfl, by rw [k9]; rfl, by rw [k10]; rfl, by rw [k11]; rfl, by rw [k54]; rfl, by rw [k57]; rfl, by rw [k60]; rfl, trivial⟩ (by first | exact HpLe.refl _ | exact HpLe.refl _)) (Weak.refl _ _)
  · cases hg
theorem rB2_n (f h k : Nat → Int) (p2 : AV) (p q : Nat) (b1 : Blk) (X : Ex → Nat → List AV → List Blk → Prop) :
    roundK Tryd.prog T (FB3_n f h) 3000 LB2_13 (tmL 92 [(0, p10n), (2, p2), (3, pw_13), (4, ph_13), (8, pr_13), (9, AI (p : Nat)), (54, AI (p : Nat)), (57, AI (q : Nat))]) [b1, b_n f, w_13, h_13 h, r_13 k] [.b true, .l 6] [0, 2, 3, 4, 8, 9, 54, 57] X =
    (decide ((q : Int) < 8) = true ∧ (LB3_13 = LB3_13 ∧ ((92 : Nat) = 92 ∧ p10n = p10n ∧ pw_13 = pw_13 ∧ ph_13 = ph_13 ∧ pr_13 = pr_13 ∧ AI p = AI p ∧ AI q = AI q ∧ li 0 = li 0 ∧ AI p = AI p ∧ AI q = AI q ∧ li 0 = li 0 ∧ (0 ≤ (p : Int) ∧ (p : Int) < 8) ∧ (0 ≤ (q : Int) ∧ (q : Int) < 8) ∧ [b_n f, w_13, h_13 h] = [b_n f, w_13, h_13 h]) ∧ ((0 ≤ ix p q ∧ ix p q < ((64 : Nat) : Int)) ∧ (0 + (ix p q).toNat < 64 ∧ X .normal 92 [p10n, p2, pw_13, ph_13, pr_13, AI (p : Nat), AI (p : Nat), AI (W ((q : Int) + 1))] [b1, b_n f, w_13, h_13 h, rU_13 h k p q])))) := by kernel_rfl
theorem eB2_n (f h k : Nat → Int) (p2 : AV) (p q : Int) (b1 : Blk) (X : Ex → Nat → List AV → List Blk → Prop) :
    roundK Tryd.prog T (FB3_n f h) 3000 LB2_13 (tmL 92 [(0, p10n), (2, p2), (3, pw_13), (4, ph_13), (8, pr_13), (9, AI p), (54, AI p), (57, AI q)]) [b1, b_n f, w_13, h_13 h, r_13 k] [.b false] [0, 2, 3, 4, 8, 9, 54] X =
    (decide (q < 8) = false ∧ X (.exit 8) 92 [p10n, p2, pw_13, ph_13, pr_13, AI p, AI p] [b1, b_n f, w_13, h_13 h, r_13 k]) := by kernel_rfl
theorem loopB2_n (f h : Nat → Int) (p2 : AV) (p : Nat) (hp8 : p < 8) (b1 : Blk) :
    LoopOk Tryd.prog LB2_13 (tmL 92 [(0, p10n), (2, p2), (3, pw_13), (4, ph_13), (8, pr_13), (9, AI (p : Nat)), (54, AI (p : Nat)), (57, AI 0)]) [b1, b_n f, w_13, h_13 h, r_13 (HB_13 h p 0)] (.exit 8) (tmL 92 [(0, p10n), (2, p2), (3, pw_13), (4, ph_13), (8, pr_13), (9, AI (p : Nat)), (54, AI (p : Nat))]) [b1, b_n f, w_13, h_13 h, r_13 (HB_13 h p 8)] := by
  refine loop_rounds hm hT (FB3ok_n f h _ F2ok) 92 8 (fun q => [(0, p10n), (2, p2), (3, pw_13), (4, ph_13), (8, pr_13), (9, AI (p : Nat)), (54, AI (p : Nat)), (57, AI (q : Nat))]) (fun q => [b1, b_n f, w_13, h_13 h, r_13 (HB_13 h p q)]) (.exit 8) _ _ (fun h => by cases h) (fun q hq => ?_) ?_ 0 (by omega)
  · have e1 := ix_eq (show (0 : Int) ≤ (p : Nat) by omega) (by omega) (show (0 : Int) ≤ (q : Nat) by omega) (by omega)
    refine ⟨3000, [.b true, .l 6], of_run (rB2_n f h _ p2 p q b1 _) ⟨lt8 q hq, rfl, ⟨rfl, rfl, rfl, rfl, rfl, rfl, rfl, rfl, rfl, rfl, rfl, ⟨by omega, by omega⟩, ⟨by omega, by omega⟩, rfl⟩, by rw [e1]; omega, by rw [e1]; omega, rfl, rfl, ?_, ?_⟩⟩
    · exact ⟨rfl, sameV.refl _, rfl, rfl, rfl, rfl, rfl, congrArg (Value.int .i64) (next_eq q hq), trivial⟩
    · exact ⟨.refl _, .refl _, .refl _, .refl _, rU_le_13 h p q hp8 hq, trivial⟩
  · exact ⟨3000, [.b false], of_run (eB2_n f h _ p2 (p : Nat) ((8 : Nat) : Int) b1 _) ⟨not8, rfl, rfl, ⟨rfl, sameV.refl _, rfl, rfl, rfl, rfl, rfl, trivial⟩, HpLe.refl _⟩⟩
def cB2_n (f h : Nat → Int) (tm : Tm) (hp : List Blk) : Option (Prop × Ex × Tm × List Blk) :=
  match getT tm 9, hp with
  | .one (.sc (.int .i64 p) _), [b1, x0, x2, x3, y] =>
    some ((tm.n = 92 ∧ getT tm 0 = p10n ∧ getT tm 3 = pw_13 ∧ getT tm 4 = ph_13 ∧ getT tm 8 = pr_13 ∧ getT tm 9 = AI p ∧ getT tm 54 = AI p ∧ getT tm 57 = li 0 ∧ (0 ≤ p ∧ p < 8) ∧ [x0, x2, x3, y] = [b_n f, w_13, h_13 h, r_13 (HB_13 h p.toNat 0)]), .exit 8, tmL 92 [(0, p10n), (2, getT tm 2), (3, pw_13), (4, ph_13), (8, pr_13), (9, AI p), (54, AI p)], [b1, b_n f, w_13, h_13 h, r_13 (HB_13 h p.toNat 8)])
  | _, _ => none
noncomputable def FB2_n (f h : Nat → Int) : Fns := F2.addLoop 5 LB2_13 (cB2_n f h)
theorem FB2ok_n (f h : Nat → Int) (G : Fns) (hG : FnsOk Tryd.prog G) : FnsOk Tryd.prog (G.addLoop 5 LB2_13 (cB2_n f h)) := by
  refine hG.addLoop 5 _ _ fun tm hp p x tm' hp' hg hp1 => ?_
  unfold cB2_n at hg
  split at hg
  · rename_i p sp b1 x0 x2 x3 y gp
    simp only [Option.some.injEq, Prod.mk.injEq] at hg
    obtain ⟨rfl, rfl, rfl, rfl⟩ := hg
    obtain ⟨hn, k0, k3, k4, k8, k9, k54, k57, ⟨qp1, qp2⟩, hh⟩ := hp1
    simp only [List.cons.injEq, and_true] at hh
    obtain ⟨rfl, rfl, rfl, rfl⟩ := hh
    obtain ⟨pN, rfl⟩ := Int.eq_ofNat_of_zero_le qp1
    refine (loopB2_n f h (getT tm 2) pN (by omega) b1).weak (Weak.of hn ⟨by rw [k0]; rfl, sameV.refl _, by rw [k3]; rfl, by rw [k4]; rfl, by rw [k8]; rfl, by rw [k9]; rfl, by rw [k54]; rfl, by rw [k57]; rfl, trivial⟩ (HpLe.refl _)) (Weak.refl _ _)
  · cases hg
theorem rB1_n (f h : Nat → Int) (p2 : AV) (p : Nat) (b1 : Blk) (X : Ex → Nat → List AV → List Blk → Prop) :
    roundK Tryd.prog T (FB2_n f h) 3000 LB1_13 (tmL 92 [(0, p10n), (2, p2), (3, pw_13), (4, ph_13), (8, pr_13), (54, AI (p : Nat))]) [b1, b_n f, w_13, h_13 h, r_13 (HB_13 h p 0)] [.b true, .l 5] [0, 2, 3, 4, 8, 54] X =
    (decide ((p : Int) < 8) = true ∧ (LB2_13 = LB2_13 ∧ ((92 : Nat) = 92 ∧ p10n = p10n ∧ pw_13 = pw_13 ∧ ph_13 = ph_13 ∧ pr_13 = pr_13 ∧ AI p = AI p ∧ AI p = AI p ∧ li 0 = li 0 ∧ (0 ≤ (p : Int) ∧ (p : Int) < 8) ∧ [b_n f, w_13, h_13 h, r_13 (HB_13 h p 0)] = [b_n f, w_13, h_13 h, r_13 (HB_13 h p 0)]) ∧ X .normal 92 [p10n, p2, pw_13, ph_13, pr_13, AI (W ((p : Int) + 1))] [b1, b_n f, w_13, h_13 h, r_13 (HB_13 h p 8)])) := by kernel_rfl
theorem eB1_n (f h k : Nat → Int) (p2 : AV) (p : Int) (b1 : Blk) (X : Ex → Nat → List AV → List Blk → Prop) :
    roundK Tryd.prog T (FB2_n f h) 3000 LB1_13 (tmL 92 [(0, p10n), (2, p2), (3, pw_13), (4, ph_13), (8, pr_13), (54, AI p)]) [b1, b_n f, w_13, h_13 h, r_13 k] [.b false] [0, 2, 3, 4, 8] X =
    (decide (p < 8) = false ∧ X (.exit 6) 92 [p10n, p2, pw_13, ph_13, pr_13] [b1, b_n f, w_13, h_13 h, r_13 k]) := by kernel_rfl
theorem loopB1_n (f h : Nat → Int) (p2 : AV) (b1 : Blk) :
    LoopOk Tryd.prog LB1_13 (tmL 92 [(0, p10n), (2, p2), (3, pw_13), (4, ph_13), (8, pr_13), (54, AI 0)]) [b1, b_n f, w_13, h_13 h, r_13 (HB_13 h 0 0)] (.exit 6) (tmL 92 [(0, p10n), (2, p2), (3, pw_13), (4, ph_13), (8, pr_13)]) [b1, b_n f, w_13, h_13 h, r_13 (resH_13 h)] := by
  refine loop_rounds hm hT (FB2ok_n f h _ F2ok) 92 8 (fun p => [(0, p10n), (2, p2), (3, pw_13), (4, ph_13), (8, pr_13), (54, AI (p : Nat))]) (fun p => [b1, b_n f, w_13, h_13 h, r_13 (HB_13 h p 0)]) (.exit 6) _ _ (fun h => by cases h) (fun p hp8 => ?_) ?_ 0 (by omega)
  · refine ⟨3000, [.b true, .l 5], of_run (rB1_n f h p2 p b1 _) ⟨lt8 p hp8, rfl, ⟨rfl, rfl, rfl, rfl, rfl, rfl, rfl, rfl, ⟨by omega, by omega⟩, rfl⟩, rfl, rfl, ?_, ?_⟩⟩
    · exact ⟨rfl, sameV.refl _, rfl, rfl, rfl, congrArg (Value.int .i64) (next_eq p hp8), trivial⟩
    · exact ⟨.refl _, .refl _, .refl _, .refl _, sy_le fun j _ => by unfold HB_13; rw [show 8 * (p + 1) + 0 = 8 * p + 8 from by omega], trivial⟩
  · refine ⟨3000, [.b false], of_run (eB1_n f h _ p2 ((8 : Nat) : Int) b1 _) ⟨not8, rfl, rfl, ⟨rfl, sameV.refl _, rfl, rfl, rfl, trivial⟩, ⟨.refl _, .refl _, .refl _, .refl _, sy_le fun j hj => ?_, trivial⟩⟩⟩
    unfold HB_13 resH_13
    rw [if_pos (by omega)]
def cB1_n (f h : Nat → Int) (tm : Tm) (hp : List Blk) : Option (Prop × Ex × Tm × List Blk) :=
  match hp with
  | [b1, x0, x2, x3, y] =>
    some ((tm.n = 92 ∧ getT tm 0 = p10n ∧ getT tm 3 = pw_13 ∧ getT tm 4 = ph_13 ∧ getT tm 8 = pr_13 ∧ getT tm 54 = li 0 ∧ [x0, x2, x3, y] = [b_n f, w_13, h_13 h, zr_13]), .exit 6, tmL 92 [(0, p10n), (2, getT tm 2), (3, pw_13), (4, ph_13), (8, pr_13)], [b1, b_n f, w_13, h_13 h, r_13 (resH_13 h)])
  | _ => none
noncomputable def FB1_n (f h : Nat → Int) : Fns := F2.addLoop 4 LB1_13 (cB1_n f h)
theorem FB1ok_n (f h : Nat → Int) (G : Fns) (hG : FnsOk Tryd.prog G) : FnsOk Tryd.prog (G.addLoop 4 LB1_13 (cB1_n f h)) := by
  refine hG.addLoop 4 _ _ fun tm hp p x tm' hp' hg hp1 => ?_
  unfold cB1_n at hg
  split at hg
  · rename_i b1 x0 x2 x3 y
    simp only [Option.some.injEq, Prod.mk.injEq] at hg
    obtain ⟨rfl, rfl, rfl, rfl⟩ := hg
    obtain ⟨hn, k0, k3, k4, k8, k54, hh⟩ := hp1
    simp only [List.cons.injEq, and_true] at hh
    obtain ⟨rfl, rfl, rfl, rfl⟩ := hh
    refine (loopB1_n f h (getT tm 2) b1).weak (Weak.of hn ⟨by rw [k0]; rfl, sameV.refl _, by rw [k3]; rfl, by rw [k4]; rfl, by rw [k8]; rfl, by rw [k54]; rfl, trivial⟩ (⟨.refl _, .refl _, .refl _, .refl _, zr_le_13 h, trivial⟩)) (Weak.refl _ _)
  · cases hg
def iP_n (f : Nat → Int) : Blk := { body := .li (cellsK .i32 true 64 f), elem := 33, live := true, ro := false }
def cA1_n (f : Nat → Int) (tm : Tm) (hp : List Blk) : Option (Prop × Ex × Tm × List Blk) :=
  match hp with
  | [b1, x0, x2, x3] =>
    some ((tm.n = 92 ∧ getT tm 0 = p10n ∧ getT tm 3 = pw_13 ∧ getT tm 4 = ph_13 ∧ getT tm 17 = li 0 ∧ [x0, x2, x3] = [iP_n f, ww_13, zh_13]), .exit 0, tmL 92 [(0, p10n), (2, getT tm 2), (3, pw_13), (4, ph_13)], [b1, b_n f, w_13, h_13 (half_13 f)])
  | _ => none
noncomputable def FA1_n (f : Nat → Int) : Fns := F2.addLoop 1 LA1_13 (cA1_n f)
theorem FA1ok_n (f : Nat → Int) : FnsOk Tryd.prog (FA1_n f) := by
  refine F2ok.addLoop 1 _ _ fun tm hp p x tm' hp' hg hp1 => ?_
  unfold cA1_n at hg
  split at hg
  · rename_i b1 x0 x2 x3
    simp only [Option.some.injEq, Prod.mk.injEq] at hg
    obtain ⟨rfl, rfl, rfl, rfl⟩ := hg
    obtain ⟨hn, k0, k3, k4, k17, hh⟩ := hp1
    simp only [List.cons.injEq, and_true] at hh
    obtain ⟨rfl, rfl, rfl⟩ := hh
    refine (loopA1_n f (getT tm 2) b1).weak (Weak.of hn ⟨by rw [k0]; rfl, sameV.refl _, by rw [k3]; rfl, by rw [k4]; rfl, by rw [k17]; rfl, trivial⟩ (⟨.refl _, li_le, li_le, zh_le_13 f, trivial⟩)) (Weak.refl _ _)
  · cases hg
noncomputable def FP_n (f : Nat → Int) : Fns := (FA1_n f).addLoop 4 LB1_13 (cB1_n f (half_13 f))
theorem FPok_n (f : Nat → Int) : FnsOk Tryd.prog (FP_n f) := FB1ok_n f (half_13 f) _ (FA1ok_n f)
def z0 : Nat → Int := fun _ => 0
theorem runP_n (u : Value) : runK Tryd.prog T (FP_n z0) 3000 Tryd.f13 [.one (.sc (.pointer none) true)] [] [.l 1, .l 4] (fun r _ => resW r = some u) =
    (LA1_13 = LA1_13 ∧ ((92 : Nat) = 92 ∧ p10n = p10n ∧ pw_13 = pw_13 ∧ ph_13 = ph_13 ∧ li 0 = li 0 ∧ [iP_n z0, ww_13, zh_13] = [iP_n z0, ww_13, zh_13]) ∧ (LB1_13 = LB1_13 ∧ ((92 : Nat) = 92 ∧ p10n = p10n ∧ pw_13 = pw_13 ∧ ph_13 = ph_13 ∧ pr_13 = pr_13 ∧ li 0 = li 0 ∧ [b_n z0, w_13, h_13 (half_13 z0), zr_13] = [b_n z0, w_13, h_13 (half_13 z0), zr_13]) ∧ (0 + 64 ≤ 64 ∧ some (v64 .u8 (resP_13 z0)) = some u))) := by kernel_rfl
def k128 : Nat → Int := fun _ => 128
theorem res_z0 : v64 .u8 (resP_13 z0) = v64 .u8 k128 := by kernel_rfl
def GInv : List ArgV → Option Value
  | [.val (.pointer none)] => some (v64 .u8 k128)
  | x => GP_13 x
theorem conI : Con Tryd.prog 13 GInv := by
  refine ⟨Tryd.call13, fun avs u h => ?_⟩
  by_cases hn : avs = [.val (.pointer none)]
  · subst hn
    have hc : Con Tryd.prog 13 fun avs => match avs with | [.val (.pointer none)] => some (v64 .u8 k128) | _ => none := by
      refine con_of_each hm hT Tryd.func13 Tryd.call13 fun avs u h => ?_
      split at h
      · simp only [Option.some.injEq] at h; subst h
        rw [← res_z0]
        exact ⟨FP_n z0, FPok_n z0, [true], 3000, [.l 1, .l 4], _, _, rfl, of_run (runP_n _) ⟨rfl, ⟨rfl, rfl, rfl, rfl, rfl, rfl⟩, rfl, ⟨rfl, rfl, rfl, rfl, rfl, rfl, rfl⟩, by omega, rfl⟩⟩
      · cases h
    exact hc.2 _ u h
  · refine conP_13.2 avs u ?_
    unfold GInv at h
    split at h
    · exact absurd rfl hn
    · exact h
theorem run14n (u : Value) : runK Tryd.prog T F2 300 Tryd.f14 [.one (.sc (.pointer none) true)] [] [] (fun r _ => resW r = some u) = (some (v64 .i32 z0) = some u) := by kernel_rfl
def GFor : List ArgV → Option Value
  | [.val (.pointer none)] => some (v64 .i32 z0)
  | x => GP_11 x
theorem conF : Con Tryd.prog 14 GFor := by
  refine ⟨Tryd.call14, fun avs u h => ?_⟩
  by_cases hn : avs = [.val (.pointer none)]
  · subst hn
    have hc : Con Tryd.prog 14 fun avs => match avs with | [.val (.pointer none)] => some (v64 .i32 z0) | _ => none := by
      refine con_of_each hm hT Tryd.func14 Tryd.call14 fun avs u h => ?_
      split at h
      · simp only [Option.some.injEq] at h; subst h
        exact ⟨F2, F2ok, [true], 300, [], _, _, rfl, of_run (run14n _) rfl⟩
      · cases h
    exact hc.2 _ u h
  · refine conP_11.2 avs u ?_
    unfold GFor at h
    split at h
    · exact absurd rfl hn
    · exact h
def f64 (f : Nat → Nat) : Value := .agg ((List.range 64).map fun i => Value.float .f64 (f i)).toArray
theorem run7n (u : Value) : runK Tryd.prog T F2 300 Tryd.f7 [.one (.sc (.pointer none) true)] [] [] (fun r _ => resW r = some u) = (some (f64 fun _ => 0) = some u) := by kernel_rfl
theorem run8n (u : Value) : runK Tryd.prog T F2 300 Tryd.f8 [.one (.sc (.pointer none) true)] [] [] (fun r _ => resW r = some u) = (some (f64 fun _ => 0) = some u) := by kernel_rfl
def GNil : List ArgV → Option Value
  | [.val (.pointer none)] => some (f64 fun _ => 0)
  | _ => none
theorem con7n : Con Tryd.prog 7 GNil := by
  refine con_of_runW hm hT F2ok Tryd.func7 Tryd.call7 fun avs u h => ?_
  unfold GNil at h
  split at h
  · simp only [Option.some.injEq] at h; subst h
    exact ⟨[true], 300, [], _, _, rfl, of_run (run7n _) rfl⟩
  · cases h
theorem con8n : Con Tryd.prog 8 GNil := by
  refine con_of_runW hm hT F2ok Tryd.func8 Tryd.call8 fun avs u h => ?_
  unfold GNil at h
  split at h
  · simp only [Option.some.injEq] at h; subst h
    exact ⟨[true], 300, [], _, _, rfl, of_run (run8n _) rfl⟩
  · cases h
noncomputable def FN : Fns := (((Fns.none.add 13 GInv).add 14 GFor).add 7 GNil).add 8 GNil
theorem FNok : FnsOk Tryd.prog FN := (((FnsOk.none.add conI).add conF).add con7n).add con8n
end Go.Proofs.YtcfbhlpmhlmekaaDoor
