/-
  What is proved here: a contract of Inverse of the program. A text to be imported.
-/
import Derived.Test.YtgpbpgbokfdbeaaCon1
namespace Go.Proofs.Ytgpbpgbokfdbeaa
open Sm Go Go.RowKit
set_option maxRecDepth 1000000
set_option linter.unusedVariables false
def b_13 (f : Nat → Int) : Blk := { body := syI .i32 64 f, elem := 24, live := true, ro := true }
def w_13 : Blk := { body := syI .i64 64 wF, elem := 65, live := true, ro := false }
def h_13 (h : Nat → Int) : Blk := { body := syI .i64 64 h, elem := 67, live := true, ro := false }
def r_13 (h : Nat → Int) : Blk := { body := syI .u8 64 h, elem := 26, live := true, ro := false }
def pw_13 : AV := .one (.ptr 2 0)
def ph_13 : AV := .one (.ptr 3 0)
def pr_13 : AV := .one (.ptr 4 0)
noncomputable def LA1_13 : Code := pathC (bodyC Try.f8) [0]
noncomputable def LA2_13 : Code := pathC (bodyC Try.f8) [0, 0]
noncomputable def LA3_13 : Code := pathC (bodyC Try.f8) [0, 0, 0]
noncomputable def LB1_13 : Code := pathC (bodyC Try.f8) [1]
noncomputable def LB2_13 : Code := pathC (bodyC Try.f8) [1, 0]
noncomputable def LB3_13 : Code := pathC (bodyC Try.f8) [1, 0, 0]
def tA_13 (f : Nat → Int) (o m n : Int) : Int := wF (0 + n.toNat * 8 + o.toNat) * W (mn (mx (f (0 + (ix n m).toNat)) (-32767)) 32767)
def hU_13 (f h : Nat → Int) (o m n : Int) : Blk := { body := .sy 64 (updG (fun j => .sc (.int .i64 (h j)) false) (0 + (ix o m).toNat) (.sc (.int .i64 (W (h (0 + (ix o m).toNat) + W (tA_13 f o m n)))) false)), elem := 67, live := true, ro := false }
theorem rA3_13 (f h : Nat → Int) (p2 : AV) (o m n : Int) (b1 : Blk) (X : Ex → Nat → List AV → List Blk → Prop) :
    roundK Try.prog T F2 3000 LA3_13 (tmL 92 [(0, p00), (2, p2), (3, pw_13), (4, ph_13), (5, AI o), (6, AI m), (17, AI o), (20, AI m), (23, AI n)]) [b_13 f, b1, w_13, h_13 h] [.b true] [0, 2, 3, 4, 5, 6, 17, 20, 23] X =
    (decide (n < 8) = true ∧ ((0 ≤ ix o m ∧ ix o m < ((64 : Nat) : Int)) ∧ (0 + (ix o m).toNat < 64 ∧ ((0 ≤ n ∧ n < ((8 : Nat) : Int)) ∧ ((0 ≤ o ∧ o < ((8 : Nat) : Int)) ∧ (0 + n.toNat * 8 + o.toNat < 64 ∧ ((0 ≤ ix n m ∧ ix n m < ((64 : Nat) : Int)) ∧ (0 + (ix n m).toNat < 64 ∧ ((0 ≤ ix o m ∧ ix o m < ((64 : Nat) : Int)) ∧ (0 + (ix o m).toNat < 64 ∧ (X .normal 92 [p00, p2, pw_13, ph_13, AI o, AI m, AI o, AI m, AI (W (n + 1))] [b_13 f, b1, w_13, hU_13 f h o m n]))))))))))) := by kernel_rfl
theorem eA3_13 (f h : Nat → Int) (p2 : AV) (o m n : Int) (b1 : Blk) (X : Ex → Nat → List AV → List Blk → Prop) :
    roundK Try.prog T F2 3000 LA3_13 (tmL 92 [(0, p00), (2, p2), (3, pw_13), (4, ph_13), (5, AI o), (6, AI m), (17, AI o), (20, AI m), (23, AI n)]) [b_13 f, b1, w_13, h_13 h] [.b false] [0, 2, 3, 4, 5, 6, 17, 20] X =
    (decide (n < 8) = false ∧ X (.exit 4) 92 [p00, p2, pw_13, ph_13, AI o, AI m, AI o, AI m] [b_13 f, b1, w_13, h_13 h]) := by kernel_rfl
def gA_13 (f : Nat → Int) (o m n : Nat) : Int := wF (n * 8 + o) * W (mn (mx (f (8 * n + m)) (-32767)) 32767)
theorem tA_eq_13 (f : Nat → Int) (o m n : Nat) (ho : o < 8) (hm8 : m < 8) (hn : n < 8) : tA_13 f (o : Nat) (m : Nat) (n : Nat) = gA_13 f o m n := by
  unfold tA_13 gA_13
  rw [ix_eq (by omega) (by omega) (by omega) (by omega), show (0 + ((8 * (n : Int) + (m : Int)).toNat)) = 8 * n + m from by omega, Int.toNat_natCast, Int.toNat_natCast, Nat.zero_add]
def iH_13 (f : Nat → Int) (o m n : Nat) : Int := sumW n (gA_13 f o m)
def HA_13 (f : Nat → Int) (o m n j : Nat) : Int := if j < 8 * o + m then iH_13 f (j / 8) (j % 8) 8 else if j = 8 * o + m then iH_13 f (j / 8) (j % 8) n else 0
theorem hU_le_13 (f : Nat → Int) (o m n : Nat) (ho : o < 8) (hm8 : m < 8) (hn : n < 8) : BlkLe (hU_13 f (HA_13 f o m n) (o : Nat) (m : Nat) (n : Nat)) (h_13 (HA_13 f o m (n + 1))) := by
  refine sy_le fun j hj => ?_
  rw [updG_int, ix_eq (by omega) (by omega) (by omega) (by omega), show 0 + ((8 * (o : Int) + (m : Int)).toNat) = 8 * o + m from by omega, tA_eq_13 f o m n ho hm8 hn]
  congr 2
  unfold HA_13
  by_cases h1 : j = 8 * o + m
  · subst h1
    rw [if_pos rfl, if_neg (by omega), if_pos rfl, if_neg (by omega), if_pos rfl, show (8 * o + m) / 8 = o from by omega, show (8 * o + m) % 8 = m from by omega]
    rfl
  · rw [if_neg h1]
    by_cases h2 : j < 8 * o + m
    · rw [if_pos h2, if_pos h2]
    · rw [if_neg h2, if_neg h1, if_neg h2, if_neg h1]
theorem loopA3_13 (f : Nat → Int) (p2 : AV) (o m : Nat) (ho : o < 8) (hm8 : m < 8) (b1 : Blk) :
    LoopOk Try.prog LA3_13 (tmL 92 [(0, p00), (2, p2), (3, pw_13), (4, ph_13), (5, AI (o : Nat)), (6, AI (m : Nat)), (17, AI (o : Nat)), (20, AI (m : Nat)), (23, AI 0)]) [b_13 f, b1, w_13, h_13 (HA_13 f o m 0)] (.exit 4) (tmL 92 [(0, p00), (2, p2), (3, pw_13), (4, ph_13), (5, AI (o : Nat)), (6, AI (m : Nat)), (17, AI (o : Nat)), (20, AI (m : Nat))]) [b_13 f, b1, w_13, h_13 (HA_13 f o m 8)] := by
  refine loop_rounds hm hT F2ok 92 8 (fun n => [(0, p00), (2, p2), (3, pw_13), (4, ph_13), (5, AI (o : Nat)), (6, AI (m : Nat)), (17, AI (o : Nat)), (20, AI (m : Nat)), (23, AI (n : Nat))]) (fun n => [b_13 f, b1, w_13, h_13 (HA_13 f o m n)]) (.exit 4) _ _ (fun h => by cases h) (fun n hn => ?_) ?_ 0 (by omega)
  · have e1 := ix_eq (show (0 : Int) ≤ (o : Nat) by omega) (by omega) (show (0 : Int) ≤ (m : Nat) by omega) (by omega)
    have e2 := ix_eq (show (0 : Int) ≤ (n : Nat) by omega) (by omega) (show (0 : Int) ≤ (m : Nat) by omega) (by omega)
    refine ⟨3000, [.b true], of_run (rA3_13 f _ p2 (o : Nat) (m : Nat) (n : Nat) b1 _) ⟨lt8 n hn, by rw [e1]; omega, by rw [e1]; omega, by omega, by omega, by omega, by rw [e2]; omega, by rw [e2]; omega, by rw [e1]; omega, by rw [e1]; omega, rfl, rfl, ?_, ?_⟩⟩
    · exact ⟨rfl, sameV.refl _, rfl, rfl, rfl, rfl, rfl, rfl, congrArg (Value.int .i64) (next_eq n hn), trivial⟩
    · exact ⟨.refl _, .refl _, .refl _, hU_le_13 f o m n ho hm8 hn, trivial⟩
  · exact ⟨3000, [.b false], of_run (eA3_13 f _ p2 (o : Nat) (m : Nat) ((8 : Nat) : Int) b1 _) ⟨not8, rfl, rfl, ⟨rfl, sameV.refl _, rfl, rfl, rfl, rfl, rfl, rfl, trivial⟩, HpLe.refl _⟩⟩
def cA3_13 (f : Nat → Int) (tm : Tm) (hp : List Blk) : Option (Prop × Ex × Tm × List Blk) :=
  match getT tm 5, getT tm 6, hp with
  | .one (.sc (.int .i64 o) _), .one (.sc (.int .i64 m) _), [x0, b1, x2, x3] =>
    some ((tm.n = 92 ∧ getT tm 0 = p00 ∧ getT tm 3 = pw_13 ∧ getT tm 4 = ph_13 ∧ getT tm 5 = AI o ∧ getT tm 6 = AI m ∧ getT tm 17 = AI o ∧ getT tm 20 = AI m ∧ getT tm 23 = li 0 ∧ (0 ≤ o ∧ o < 8) ∧ (0 ≤ m ∧ m < 8) ∧ [x0, x2, x3] = [b_13 f, w_13, h_13 (HA_13 f o.toNat m.toNat 0)]), .exit 4, tmL 92 [(0, p00), (2, getT tm 2), (3, pw_13), (4, ph_13), (5, AI o), (6, AI m), (17, AI o), (20, AI m)], [b_13 f, b1, w_13, h_13 (HA_13 f o.toNat m.toNat 8)])
  | _, _, _ => none
noncomputable def FA3_13 (f : Nat → Int) : Fns := F2.addLoop 3 LA3_13 (cA3_13 f)
theorem FA3ok_13 (f : Nat → Int) : FnsOk Try.prog (FA3_13 f) := by
  refine F2ok.addLoop 3 _ _ fun tm hp p x tm' hp' hg hp1 => ?_
  unfold cA3_13 at hg
  split at hg
  · rename_i o so m sm x0 b1 x2 x3 go gm
    simp only [Option.some.injEq, Prod.mk.injEq] at hg
    obtain ⟨rfl, rfl, rfl, rfl⟩ := hg
    obtain ⟨hn, k0, k3, k4, k5, k6, k17, k20, k23, ⟨qo1, qo2⟩, ⟨qm1, qm2⟩, hh⟩ := hp1
    simp only [List.cons.injEq, and_true] at hh
    obtain ⟨rfl, rfl, rfl⟩ := hh
    obtain ⟨oN, rfl⟩ := Int.eq_ofNat_of_zero_le qo1
    obtain ⟨mN, rfl⟩ := Int.eq_ofNat_of_zero_le qm1
    refine (loopA3_13 f (getT tm 2) oN mN (by omega) (by omega) b1).weak (Weak.of hn ⟨by rw [k0]; rfl, sameV.refl _, by rw [k3]; rfl, by rw [k4]; rfl, by rw [k5]; rfl, by rw [k6]; rfl, by rw [k17]; rfl, by rw [k20]; rfl, by rw [k23]; rfl, trivial⟩ (HpLe.refl _)) (Weak.refl _ _)
  · cases hg
theorem rA2_13 (f : Nat → Int) (p2 : AV) (o m : Nat) (b1 : Blk) (X : Ex → Nat → List AV → List Blk → Prop) :
    roundK Try.prog T (FA3_13 f) 3000 LA2_13 (tmL 92 [(0, p00), (2, p2), (3, pw_13), (4, ph_13), (5, AI (o : Nat)), (17, AI (o : Nat)), (20, AI (m : Nat))]) [b_13 f, b1, w_13, h_13 (HA_13 f o m 0)] [.b true, .l 3] [0, 2, 3, 4, 5, 17, 20] X =
    (decide ((m : Int) < 8) = true ∧ (LA3_13 = LA3_13 ∧ ((92 : Nat) = 92 ∧ p00 = p00 ∧ pw_13 = pw_13 ∧ ph_13 = ph_13 ∧ AI o = AI o ∧ AI m = AI m ∧ AI o = AI o ∧ AI m = AI m ∧ li 0 = li 0 ∧ (0 ≤ (o : Int) ∧ (o : Int) < 8) ∧ (0 ≤ (m : Int) ∧ (m : Int) < 8) ∧ [b_13 f, w_13, h_13 (HA_13 f o m 0)] = [b_13 f, w_13, h_13 (HA_13 f o m 0)]) ∧ X .normal 92 [p00, p2, pw_13, ph_13, AI (o : Nat), AI (o : Nat), AI (W ((m : Int) + 1))] [b_13 f, b1, w_13, h_13 (HA_13 f o m 8)])) := by kernel_rfl
theorem eA2_13 (f h : Nat → Int) (p2 : AV) (o m : Int) (b1 : Blk) (X : Ex → Nat → List AV → List Blk → Prop) :
    roundK Try.prog T (FA3_13 f) 3000 LA2_13 (tmL 92 [(0, p00), (2, p2), (3, pw_13), (4, ph_13), (5, AI o), (17, AI o), (20, AI m)]) [b_13 f, b1, w_13, h_13 h] [.b false] [0, 2, 3, 4, 5, 17] X =
    (decide (m < 8) = false ∧ X (.exit 2) 92 [p00, p2, pw_13, ph_13, AI o, AI o] [b_13 f, b1, w_13, h_13 h]) := by kernel_rfl
theorem HA_next_13 (f : Nat → Int) (o m j : Nat) : HA_13 f o m 8 j = HA_13 f o (m + 1) 0 j := by
  unfold HA_13
  by_cases h1 : j < 8 * o + m
  · rw [if_pos h1, if_pos (by omega)]
  · rw [if_neg h1]
    by_cases h2 : j = 8 * o + m
    · rw [if_pos h2, if_pos (by omega)]
    · rw [if_neg h2, if_neg (by omega)]
      by_cases h3 : j = 8 * o + (m + 1)
      · rw [if_pos h3]; rfl
      · rw [if_neg h3]
theorem HA_row_13 (f : Nat → Int) (o j : Nat) : HA_13 f o 8 0 j = HA_13 f (o + 1) 0 0 j := by
  unfold HA_13
  rw [show 8 * (o + 1) + 0 = 8 * o + 8 from by omega]
theorem loopA2_13 (f : Nat → Int) (p2 : AV) (o : Nat) (ho : o < 8) (b1 : Blk) :
    LoopOk Try.prog LA2_13 (tmL 92 [(0, p00), (2, p2), (3, pw_13), (4, ph_13), (5, AI (o : Nat)), (17, AI (o : Nat)), (20, AI 0)]) [b_13 f, b1, w_13, h_13 (HA_13 f o 0 0)] (.exit 2) (tmL 92 [(0, p00), (2, p2), (3, pw_13), (4, ph_13), (5, AI (o : Nat)), (17, AI (o : Nat))]) [b_13 f, b1, w_13, h_13 (HA_13 f o 8 0)] := by
  refine loop_rounds hm hT (FA3ok_13 f) 92 8 (fun m => [(0, p00), (2, p2), (3, pw_13), (4, ph_13), (5, AI (o : Nat)), (17, AI (o : Nat)), (20, AI (m : Nat))]) (fun m => [b_13 f, b1, w_13, h_13 (HA_13 f o m 0)]) (.exit 2) _ _ (fun h => by cases h) (fun m hm8 => ?_) ?_ 0 (by omega)
  · refine ⟨3000, [.b true, .l 3], of_run (rA2_13 f p2 o m b1 _) ⟨lt8 m hm8, rfl, ⟨rfl, rfl, rfl, rfl, rfl, rfl, rfl, rfl, rfl, ⟨by omega, by omega⟩, ⟨by omega, by omega⟩, rfl⟩, rfl, rfl, ?_, ?_⟩⟩
    · exact ⟨rfl, sameV.refl _, rfl, rfl, rfl, rfl, congrArg (Value.int .i64) (next_eq m hm8), trivial⟩
    · exact ⟨.refl _, .refl _, .refl _, sy_le fun j _ => by rw [HA_next_13], trivial⟩
  · exact ⟨3000, [.b false], of_run (eA2_13 f _ p2 (o : Nat) ((8 : Nat) : Int) b1 _) ⟨not8, rfl, rfl, ⟨rfl, sameV.refl _, rfl, rfl, rfl, rfl, trivial⟩, HpLe.refl _⟩⟩
def cA2_13 (f : Nat → Int) (tm : Tm) (hp : List Blk) : Option (Prop × Ex × Tm × List Blk) :=
  match getT tm 5, hp with
  | .one (.sc (.int .i64 o) _), [x0, b1, x2, x3] =>
    some ((tm.n = 92 ∧ getT tm 0 = p00 ∧ getT tm 3 = pw_13 ∧ getT tm 4 = ph_13 ∧ getT tm 5 = AI o ∧ getT tm 17 = AI o ∧ getT tm 20 = li 0 ∧ (0 ≤ o ∧ o < 8) ∧ [x0, x2, x3] = [b_13 f, w_13, h_13 (HA_13 f o.toNat 0 0)]), .exit 2, tmL 92 [(0, p00), (2, getT tm 2), (3, pw_13), (4, ph_13), (5, AI o), (17, AI o)], [b_13 f, b1, w_13, h_13 (HA_13 f o.toNat 8 0)])
  | _, _ => none
noncomputable def FA2_13 (f : Nat → Int) : Fns := F2.addLoop 2 LA2_13 (cA2_13 f)
theorem FA2ok_13 (f : Nat → Int) : FnsOk Try.prog (FA2_13 f) := by
  refine F2ok.addLoop 2 _ _ fun tm hp p x tm' hp' hg hp1 => ?_
  unfold cA2_13 at hg
  split at hg
  · rename_i o so x0 b1 x2 x3 go
    simp only [Option.some.injEq, Prod.mk.injEq] at hg
    obtain ⟨rfl, rfl, rfl, rfl⟩ := hg
    obtain ⟨hn, k0, k3, k4, k5, k17, k20, ⟨qo1, qo2⟩, hh⟩ := hp1
    simp only [List.cons.injEq, and_true] at hh
    obtain ⟨rfl, rfl, rfl⟩ := hh
    obtain ⟨oN, rfl⟩ := Int.eq_ofNat_of_zero_le qo1
    refine (loopA2_13 f (getT tm 2) oN (by omega) b1).weak (Weak.of hn ⟨by rw [k0]; rfl, sameV.refl _, by rw [k3]; rfl, by rw [k4]; rfl, by rw [k5]; rfl, by rw [k17]; rfl, by rw [k20]; rfl, trivial⟩ (HpLe.refl _)) (Weak.refl _ _)
  · cases hg
theorem rA1_13 (f : Nat → Int) (p2 : AV) (o : Nat) (b1 : Blk) (X : Ex → Nat → List AV → List Blk → Prop) :
    roundK Try.prog T (FA2_13 f) 3000 LA1_13 (tmL 92 [(0, p00), (2, p2), (3, pw_13), (4, ph_13), (17, AI (o : Nat))]) [b_13 f, b1, w_13, h_13 (HA_13 f o 0 0)] [.b true, .l 2] [0, 2, 3, 4, 17] X =
    (decide ((o : Int) < 8) = true ∧ (LA2_13 = LA2_13 ∧ ((92 : Nat) = 92 ∧ p00 = p00 ∧ pw_13 = pw_13 ∧ ph_13 = ph_13 ∧ AI o = AI o ∧ AI o = AI o ∧ li 0 = li 0 ∧ (0 ≤ (o : Int) ∧ (o : Int) < 8) ∧ [b_13 f, w_13, h_13 (HA_13 f o 0 0)] = [b_13 f, w_13, h_13 (HA_13 f o 0 0)]) ∧ X .normal 92 [p00, p2, pw_13, ph_13, AI (W ((o : Int) + 1))] [b_13 f, b1, w_13, h_13 (HA_13 f o 8 0)])) := by kernel_rfl
theorem eA1_13 (f h : Nat → Int) (p2 : AV) (o : Int) (b1 : Blk) (X : Ex → Nat → List AV → List Blk → Prop) :
    roundK Try.prog T (FA2_13 f) 3000 LA1_13 (tmL 92 [(0, p00), (2, p2), (3, pw_13), (4, ph_13), (17, AI o)]) [b_13 f, b1, w_13, h_13 h] [.b false] [0, 2, 3, 4] X =
    (decide (o < 8) = false ∧ X (.exit 0) 92 [p00, p2, pw_13, ph_13] [b_13 f, b1, w_13, h_13 h]) := by kernel_rfl
def half_13 (f : Nat → Int) (j : Nat) : Int := iH_13 f (j / 8) (j % 8) 8
theorem loopA1_13 (f : Nat → Int) (p2 : AV) (b1 : Blk) :
    LoopOk Try.prog LA1_13 (tmL 92 [(0, p00), (2, p2), (3, pw_13), (4, ph_13), (17, AI 0)]) [b_13 f, b1, w_13, h_13 (HA_13 f 0 0 0)] (.exit 0) (tmL 92 [(0, p00), (2, p2), (3, pw_13), (4, ph_13)]) [b_13 f, b1, w_13, h_13 (half_13 f)] := by
  refine loop_rounds hm hT (FA2ok_13 f) 92 8 (fun o => [(0, p00), (2, p2), (3, pw_13), (4, ph_13), (17, AI (o : Nat))]) (fun o => [b_13 f, b1, w_13, h_13 (HA_13 f o 0 0)]) (.exit 0) _ _ (fun h => by cases h) (fun o ho => ?_) ?_ 0 (by omega)
  · refine ⟨3000, [.b true, .l 2], of_run (rA1_13 f p2 o b1 _) ⟨lt8 o ho, rfl, ⟨rfl, rfl, rfl, rfl, rfl, rfl, rfl, ⟨by omega, by omega⟩, rfl⟩, rfl, rfl, ?_, ?_⟩⟩
    · exact ⟨rfl, sameV.refl _, rfl, rfl, congrArg (Value.int .i64) (next_eq o ho), trivial⟩
    · exact ⟨.refl _, .refl _, .refl _, sy_le fun j _ => by rw [HA_row_13], trivial⟩
  · refine ⟨3000, [.b false], of_run (eA1_13 f _ p2 ((8 : Nat) : Int) b1 _) ⟨not8, rfl, rfl, ⟨rfl, sameV.refl _, rfl, rfl, trivial⟩, ⟨.refl _, .refl _, .refl _, sy_le fun j hj => ?_, trivial⟩⟩⟩
    unfold HA_13 half_13
    rw [if_pos (by omega)]
def tB_13 (h : Nat → Int) (p q r : Int) : Int := wF (0 + r.toNat * 8 + q.toNat) * h (0 + (ix p r).toNat)
theorem rB3_13 (f h : Nat → Int) (p2 : AV) (p q s r : Int) (b1 y : Blk) (X : Ex → Nat → List AV → List Blk → Prop) :
    roundK Try.prog T F2 3000 LB3_13 (tmL 92 [(0, p00), (2, p2), (3, pw_13), (4, ph_13), (8, pr_13), (9, AI p), (10, AI q), (11, AI s), (54, AI p), (57, AI q), (60, AI r)]) [b_13 f, b1, w_13, h_13 h, y] [.b true] [0, 2, 3, 4, 8, 9, 10, 11, 54, 57, 60] X =
    (decide (r < 8) = true ∧ ((0 ≤ r ∧ r < ((8 : Nat) : Int)) ∧ ((0 ≤ q ∧ q < ((8 : Nat) : Int)) ∧ (0 + r.toNat * 8 + q.toNat < 64 ∧ ((0 ≤ ix p r ∧ ix p r < ((64 : Nat) : Int)) ∧ (0 + (ix p r).toNat < 64 ∧ (X .normal 92 [p00, p2, pw_13, ph_13, pr_13, AI p, AI q, AI (W (s + W (tB_13 h p q r))), AI p, AI q, AI (W (r + 1))] [b_13 f, b1, w_13, h_13 h, y]))))))) := by kernel_rfl
theorem eB3_13 (f h : Nat → Int) (p2 : AV) (p q s r : Int) (b1 y : Blk) (X : Ex → Nat → List AV → List Blk → Prop) :
    roundK Try.prog T F2 3000 LB3_13 (tmL 92 [(0, p00), (2, p2), (3, pw_13), (4, ph_13), (8, pr_13), (9, AI p), (10, AI q), (11, AI s), (54, AI p), (57, AI q), (60, AI r)]) [b_13 f, b1, w_13, h_13 h, y] [.b false] [0, 2, 3, 4, 8, 9, 10, 11, 54, 57] X =
    (decide (r < 8) = false ∧ X (.exit 10) 92 [p00, p2, pw_13, ph_13, pr_13, AI p, AI q, AI s, AI p, AI q] [b_13 f, b1, w_13, h_13 h, y]) := by kernel_rfl
def gB_13 (h : Nat → Int) (p q r : Nat) : Int := wF (r * 8 + q) * h (8 * p + r)
theorem tB_eq_13 (h : Nat → Int) (p q r : Nat) (hp : p < 8) (hq : q < 8) (hr : r < 8) : tB_13 h (p : Nat) (q : Nat) (r : Nat) = gB_13 h p q r := by
  unfold tB_13 gB_13
  rw [ix_eq (by omega) (by omega) (by omega) (by omega), show (0 + ((8 * (p : Int) + (r : Int)).toNat)) = 8 * p + r from by omega, Int.toNat_natCast, Int.toNat_natCast, Nat.zero_add]
theorem loopB3_13 (f h : Nat → Int) (p2 : AV) (p q : Nat) (hp8 : p < 8) (hq : q < 8) (b1 y : Blk) :
    LoopOk Try.prog LB3_13 (tmL 92 [(0, p00), (2, p2), (3, pw_13), (4, ph_13), (8, pr_13), (9, AI (p : Nat)), (10, AI (q : Nat)), (11, AI 0), (54, AI (p : Nat)), (57, AI (q : Nat)), (60, AI 0)]) [b_13 f, b1, w_13, h_13 h, y] (.exit 10) (tmL 92 [(0, p00), (2, p2), (3, pw_13), (4, ph_13), (8, pr_13), (9, AI (p : Nat)), (10, AI (q : Nat)), (11, AI (sumW 8 (gB_13 h p q))), (54, AI (p : Nat)), (57, AI (q : Nat))]) [b_13 f, b1, w_13, h_13 h, y] := by
  refine loop_rounds hm hT F2ok 92 8 (fun r => [(0, p00), (2, p2), (3, pw_13), (4, ph_13), (8, pr_13), (9, AI (p : Nat)), (10, AI (q : Nat)), (11, AI (sumW r (gB_13 h p q))), (54, AI (p : Nat)), (57, AI (q : Nat)), (60, AI (r : Nat))]) (fun _ => [b_13 f, b1, w_13, h_13 h, y]) (.exit 10) _ _ (fun h => by cases h) (fun r hr => ?_) ?_ 0 (by omega)
  · have e2 := ix_eq (show (0 : Int) ≤ (p : Nat) by omega) (by omega) (show (0 : Int) ≤ (r : Nat) by omega) (by omega)
    refine ⟨3000, [.b true], of_run (rB3_13 f h p2 (p : Nat) (q : Nat) _ (r : Nat) b1 y _) ⟨lt8 r hr, by omega, by omega, by omega, by rw [e2]; omega, by rw [e2]; omega, rfl, rfl, ?_, HpLe.refl _⟩⟩
    rw [tB_eq_13 h p q r hp8 hq hr]
    exact ⟨rfl, sameV.refl _, rfl, rfl, rfl, rfl, rfl, rfl, rfl, rfl, congrArg (Value.int .i64) (next_eq r hr), trivial⟩
  · exact ⟨3000, [.b false], of_run (eB3_13 f h p2 (p : Nat) (q : Nat) _ ((8 : Nat) : Int) b1 y _) ⟨not8, rfl, rfl, ⟨rfl, sameV.refl _, rfl, rfl, rfl, rfl, rfl, rfl, rfl, rfl, trivial⟩, HpLe.refl _⟩⟩
def cB3_13 (f h : Nat → Int) (tm : Tm) (hp : List Blk) : Option (Prop × Ex × Tm × List Blk) :=
  match getT tm 9, getT tm 10, hp with
  | .one (.sc (.int .i64 p) _), .one (.sc (.int .i64 q) _), [x0, b1, x2, x3, y] =>
    some ((tm.n = 92 ∧ getT tm 0 = p00 ∧ getT tm 3 = pw_13 ∧ getT tm 4 = ph_13 ∧ getT tm 8 = pr_13 ∧ getT tm 9 = AI p ∧ getT tm 10 = AI q ∧ getT tm 11 = li 0 ∧ getT tm 54 = AI p ∧ getT tm 57 = AI q ∧ getT tm 60 = li 0 ∧ (0 ≤ p ∧ p < 8) ∧ (0 ≤ q ∧ q < 8) ∧ [x0, x2, x3] = [b_13 f, w_13, h_13 h]), .exit 10, tmL 92 [(0, p00), (2, getT tm 2), (3, pw_13), (4, ph_13), (8, pr_13), (9, AI p), (10, AI q), (11, AI (sumW 8 (gB_13 h p.toNat q.toNat))), (54, AI p), (57, AI q)], [b_13 f, b1, w_13, h_13 h, y])
  | _, _, _ => none
noncomputable def FB3_13 (f h : Nat → Int) : Fns := F2.addLoop 6 LB3_13 (cB3_13 f h)
theorem FB3ok_13 (f h : Nat → Int) (G : Fns) (hG : FnsOk Try.prog G) : FnsOk Try.prog (G.addLoop 6 LB3_13 (cB3_13 f h)) := by
  refine hG.addLoop 6 _ _ fun tm hp p x tm' hp' hg hp1 => ?_
  unfold cB3_13 at hg
  split at hg
  · rename_i p sp q sq x0 b1 x2 x3 y gp gq
    simp only [Option.some.injEq, Prod.mk.injEq] at hg
    obtain ⟨rfl, rfl, rfl, rfl⟩ := hg
    obtain ⟨hn, k0, k3, k4, k8, k9, k10, k11, k54, k57, k60, ⟨qp1, qp2⟩, ⟨qq1, qq2⟩, hh⟩ := hp1
    simp only [List.cons.injEq, and_true] at hh
    obtain ⟨rfl, rfl, rfl⟩ := hh
    obtain ⟨pN, rfl⟩ := Int.eq_ofNat_of_zero_le qp1
    obtain ⟨qN, rfl⟩ := Int.eq_ofNat_of_zero_le qq1
    refine (loopB3_13 f h (getT tm 2) pN qN (by omega) (by omega) b1 y).weak (Weak.of hn ⟨by rw [k0]; rfl, sameV.refl _, by rw [k3]; rfl, by rw [k4]; rfl, by rw [k8]; rfl, by rw [k9]; rfl, by rw [k10]; rfl, by rw [k11]; rfl, by rw [k54]; rfl, by rw [k57]; rfl, by rw [k60]; rfl, trivial⟩ (by first | exact HpLe.refl _ | exact HpLe.refl _)) (Weak.refl _ _)
  · cases hg
def outP_13 (h : Nat → Int) (p q : Nat) : Int := IntKind.u8.wrap (mn (mx (W (settledI (sumW 8 (gB_13 h p q)) + 128)) 0) 255)
def rU_13 (h k : Nat → Int) (p q : Nat) : Blk := { body := .sy 64 (updG (fun j => .sc (.int .u8 (k j)) false) (0 + (ix p q).toNat) (.sc (.int .u8 (outP_13 h p q)) false)), elem := 26, live := true, ro := false }
theorem rB2_13 (f h k : Nat → Int) (p2 : AV) (p q : Nat) (b1 : Blk) (X : Ex → Nat → List AV → List Blk → Prop) :
    roundK Try.prog T (FB3_13 f h) 3000 LB2_13 (tmL 92 [(0, p00), (2, p2), (3, pw_13), (4, ph_13), (8, pr_13), (9, AI (p : Nat)), (54, AI (p : Nat)), (57, AI (q : Nat))]) [b_13 f, b1, w_13, h_13 h, r_13 k] [.b true, .l 6] [0, 2, 3, 4, 8, 9, 54, 57] X =
    (decide ((q : Int) < 8) = true ∧ (LB3_13 = LB3_13 ∧ ((92 : Nat) = 92 ∧ p00 = p00 ∧ pw_13 = pw_13 ∧ ph_13 = ph_13 ∧ pr_13 = pr_13 ∧ AI p = AI p ∧ AI q = AI q ∧ li 0 = li 0 ∧ AI p = AI p ∧ AI q = AI q ∧ li 0 = li 0 ∧ (0 ≤ (p : Int) ∧ (p : Int) < 8) ∧ (0 ≤ (q : Int) ∧ (q : Int) < 8) ∧ [b_13 f, w_13, h_13 h] = [b_13 f, w_13, h_13 h]) ∧ ((0 ≤ ix p q ∧ ix p q < ((64 : Nat) : Int)) ∧ (0 + (ix p q).toNat < 64 ∧ X .normal 92 [p00, p2, pw_13, ph_13, pr_13, AI (p : Nat), AI (p : Nat), AI (W ((q : Int) + 1))] [b_13 f, b1, w_13, h_13 h, rU_13 h k p q])))) := by kernel_rfl
theorem eB2_13 (f h k : Nat → Int) (p2 : AV) (p q : Int) (b1 : Blk) (X : Ex → Nat → List AV → List Blk → Prop) :
    roundK Try.prog T (FB3_13 f h) 3000 LB2_13 (tmL 92 [(0, p00), (2, p2), (3, pw_13), (4, ph_13), (8, pr_13), (9, AI p), (54, AI p), (57, AI q)]) [b_13 f, b1, w_13, h_13 h, r_13 k] [.b false] [0, 2, 3, 4, 8, 9, 54] X =
    (decide (q < 8) = false ∧ X (.exit 8) 92 [p00, p2, pw_13, ph_13, pr_13, AI p, AI p] [b_13 f, b1, w_13, h_13 h, r_13 k]) := by kernel_rfl
def HB_13 (h : Nat → Int) (p q j : Nat) : Int := if j < 8 * p + q then outP_13 h (j / 8) (j % 8) else 0
theorem rU_le_13 (h : Nat → Int) (p q : Nat) (hp : p < 8) (hq : q < 8) : BlkLe (rU_13 h (HB_13 h p q) p q) (r_13 (HB_13 h p (q + 1))) := by
  refine sy_le fun j hj => ?_
  rw [updG_int, ix_eq (by omega) (by omega) (by omega) (by omega), show 0 + ((8 * (p : Int) + (q : Int)).toNat) = 8 * p + q from by omega]
  congr 2
  unfold HB_13
  by_cases h1 : j = 8 * p + q
  · subst h1
    rw [if_pos rfl, if_pos (by omega), show (8 * p + q) / 8 = p from by omega, show (8 * p + q) % 8 = q from by omega]
  · rw [if_neg h1]
    by_cases h2 : j < 8 * p + q
    · rw [if_pos h2, if_pos (by omega)]
    · rw [if_neg h2, if_neg (by omega)]
theorem loopB2_13 (f h : Nat → Int) (p2 : AV) (p : Nat) (hp8 : p < 8) (b1 : Blk) :
    LoopOk Try.prog LB2_13 (tmL 92 [(0, p00), (2, p2), (3, pw_13), (4, ph_13), (8, pr_13), (9, AI (p : Nat)), (54, AI (p : Nat)), (57, AI 0)]) [b_13 f, b1, w_13, h_13 h, r_13 (HB_13 h p 0)] (.exit 8) (tmL 92 [(0, p00), (2, p2), (3, pw_13), (4, ph_13), (8, pr_13), (9, AI (p : Nat)), (54, AI (p : Nat))]) [b_13 f, b1, w_13, h_13 h, r_13 (HB_13 h p 8)] := by
  refine loop_rounds hm hT (FB3ok_13 f h _ F2ok) 92 8 (fun q => [(0, p00), (2, p2), (3, pw_13), (4, ph_13), (8, pr_13), (9, AI (p : Nat)), (54, AI (p : Nat)), (57, AI (q : Nat))]) (fun q => [b_13 f, b1, w_13, h_13 h, r_13 (HB_13 h p q)]) (.exit 8) _ _ (fun h => by cases h) (fun q hq => ?_) ?_ 0 (by omega)
  · have e1 := ix_eq (show (0 : Int) ≤ (p : Nat) by omega) (by omega) (show (0 : Int) ≤ (q : Nat) by omega) (by omega)
    refine ⟨3000, [.b true, .l 6], of_run (rB2_13 f h _ p2 p q b1 _) ⟨lt8 q hq, rfl, ⟨rfl, rfl, rfl, rfl, rfl, rfl, rfl, rfl, rfl, rfl, rfl, ⟨by omega, by omega⟩, ⟨by omega, by omega⟩, rfl⟩, by rw [e1]; omega, by rw [e1]; omega, rfl, rfl, ?_, ?_⟩⟩
    · exact ⟨rfl, sameV.refl _, rfl, rfl, rfl, rfl, rfl, congrArg (Value.int .i64) (next_eq q hq), trivial⟩
    · exact ⟨.refl _, .refl _, .refl _, .refl _, rU_le_13 h p q hp8 hq, trivial⟩
  · exact ⟨3000, [.b false], of_run (eB2_13 f h _ p2 (p : Nat) ((8 : Nat) : Int) b1 _) ⟨not8, rfl, rfl, ⟨rfl, sameV.refl _, rfl, rfl, rfl, rfl, rfl, trivial⟩, HpLe.refl _⟩⟩
def cB2_13 (f h : Nat → Int) (tm : Tm) (hp : List Blk) : Option (Prop × Ex × Tm × List Blk) :=
  match getT tm 9, hp with
  | .one (.sc (.int .i64 p) _), [x0, b1, x2, x3, y] =>
    some ((tm.n = 92 ∧ getT tm 0 = p00 ∧ getT tm 3 = pw_13 ∧ getT tm 4 = ph_13 ∧ getT tm 8 = pr_13 ∧ getT tm 9 = AI p ∧ getT tm 54 = AI p ∧ getT tm 57 = li 0 ∧ (0 ≤ p ∧ p < 8) ∧ [x0, x2, x3, y] = [b_13 f, w_13, h_13 h, r_13 (HB_13 h p.toNat 0)]), .exit 8, tmL 92 [(0, p00), (2, getT tm 2), (3, pw_13), (4, ph_13), (8, pr_13), (9, AI p), (54, AI p)], [b_13 f, b1, w_13, h_13 h, r_13 (HB_13 h p.toNat 8)])
  | _, _ => none
noncomputable def FB2_13 (f h : Nat → Int) : Fns := F2.addLoop 5 LB2_13 (cB2_13 f h)
theorem FB2ok_13 (f h : Nat → Int) (G : Fns) (hG : FnsOk Try.prog G) : FnsOk Try.prog (G.addLoop 5 LB2_13 (cB2_13 f h)) := by
  refine hG.addLoop 5 _ _ fun tm hp p x tm' hp' hg hp1 => ?_
  unfold cB2_13 at hg
  split at hg
  · rename_i p sp x0 b1 x2 x3 y gp
    simp only [Option.some.injEq, Prod.mk.injEq] at hg
    obtain ⟨rfl, rfl, rfl, rfl⟩ := hg
    obtain ⟨hn, k0, k3, k4, k8, k9, k54, k57, ⟨qp1, qp2⟩, hh⟩ := hp1
    simp only [List.cons.injEq, and_true] at hh
    obtain ⟨rfl, rfl, rfl, rfl⟩ := hh
    obtain ⟨pN, rfl⟩ := Int.eq_ofNat_of_zero_le qp1
    refine (loopB2_13 f h (getT tm 2) pN (by omega) b1).weak (Weak.of hn ⟨by rw [k0]; rfl, sameV.refl _, by rw [k3]; rfl, by rw [k4]; rfl, by rw [k8]; rfl, by rw [k9]; rfl, by rw [k54]; rfl, by rw [k57]; rfl, trivial⟩ (HpLe.refl _)) (Weak.refl _ _)
  · cases hg
theorem rB1_13 (f h : Nat → Int) (p2 : AV) (p : Nat) (b1 : Blk) (X : Ex → Nat → List AV → List Blk → Prop) :
    roundK Try.prog T (FB2_13 f h) 3000 LB1_13 (tmL 92 [(0, p00), (2, p2), (3, pw_13), (4, ph_13), (8, pr_13), (54, AI (p : Nat))]) [b_13 f, b1, w_13, h_13 h, r_13 (HB_13 h p 0)] [.b true, .l 5] [0, 2, 3, 4, 8, 54] X =
    (decide ((p : Int) < 8) = true ∧ (LB2_13 = LB2_13 ∧ ((92 : Nat) = 92 ∧ p00 = p00 ∧ pw_13 = pw_13 ∧ ph_13 = ph_13 ∧ pr_13 = pr_13 ∧ AI p = AI p ∧ AI p = AI p ∧ li 0 = li 0 ∧ (0 ≤ (p : Int) ∧ (p : Int) < 8) ∧ [b_13 f, w_13, h_13 h, r_13 (HB_13 h p 0)] = [b_13 f, w_13, h_13 h, r_13 (HB_13 h p 0)]) ∧ X .normal 92 [p00, p2, pw_13, ph_13, pr_13, AI (W ((p : Int) + 1))] [b_13 f, b1, w_13, h_13 h, r_13 (HB_13 h p 8)])) := by kernel_rfl
theorem eB1_13 (f h k : Nat → Int) (p2 : AV) (p : Int) (b1 : Blk) (X : Ex → Nat → List AV → List Blk → Prop) :
    roundK Try.prog T (FB2_13 f h) 3000 LB1_13 (tmL 92 [(0, p00), (2, p2), (3, pw_13), (4, ph_13), (8, pr_13), (54, AI p)]) [b_13 f, b1, w_13, h_13 h, r_13 k] [.b false] [0, 2, 3, 4, 8] X =
    (decide (p < 8) = false ∧ X (.exit 6) 92 [p00, p2, pw_13, ph_13, pr_13] [b_13 f, b1, w_13, h_13 h, r_13 k]) := by kernel_rfl
def resH_13 (h : Nat → Int) (j : Nat) : Int := outP_13 h (j / 8) (j % 8)
theorem loopB1_13 (f h : Nat → Int) (p2 : AV) (b1 : Blk) :
    LoopOk Try.prog LB1_13 (tmL 92 [(0, p00), (2, p2), (3, pw_13), (4, ph_13), (8, pr_13), (54, AI 0)]) [b_13 f, b1, w_13, h_13 h, r_13 (HB_13 h 0 0)] (.exit 6) (tmL 92 [(0, p00), (2, p2), (3, pw_13), (4, ph_13), (8, pr_13)]) [b_13 f, b1, w_13, h_13 h, r_13 (resH_13 h)] := by
  refine loop_rounds hm hT (FB2ok_13 f h _ F2ok) 92 8 (fun p => [(0, p00), (2, p2), (3, pw_13), (4, ph_13), (8, pr_13), (54, AI (p : Nat))]) (fun p => [b_13 f, b1, w_13, h_13 h, r_13 (HB_13 h p 0)]) (.exit 6) _ _ (fun h => by cases h) (fun p hp8 => ?_) ?_ 0 (by omega)
  · refine ⟨3000, [.b true, .l 5], of_run (rB1_13 f h p2 p b1 _) ⟨lt8 p hp8, rfl, ⟨rfl, rfl, rfl, rfl, rfl, rfl, rfl, rfl, ⟨by omega, by omega⟩, rfl⟩, rfl, rfl, ?_, ?_⟩⟩
    · exact ⟨rfl, sameV.refl _, rfl, rfl, rfl, congrArg (Value.int .i64) (next_eq p hp8), trivial⟩
    · exact ⟨.refl _, .refl _, .refl _, .refl _, sy_le fun j _ => by unfold HB_13; rw [show 8 * (p + 1) + 0 = 8 * p + 8 from by omega], trivial⟩
  · refine ⟨3000, [.b false], of_run (eB1_13 f h _ p2 ((8 : Nat) : Int) b1 _) ⟨not8, rfl, rfl, ⟨rfl, sameV.refl _, rfl, rfl, rfl, trivial⟩, ⟨.refl _, .refl _, .refl _, .refl _, sy_le fun j hj => ?_, trivial⟩⟩⟩
    unfold HB_13 resH_13
    rw [if_pos (by omega)]
def zr_13 : Blk := { body := .li (cellsK .u8 true 64 fun _ => 0), elem := 26, live := true, ro := false }
theorem zr_le_13 (h : Nat → Int) : BlkLe zr_13 (r_13 (HB_13 h 0 0)) := by
  have hz : BlkLe zr_13 { body := syI .u8 64 fun _ => 0, elem := 26, live := true, ro := false } := li_le
  exact ⟨rfl, rfl, rfl, fun E vs hr => hz.2.2.2 E vs hr⟩
def cB1_13 (f h : Nat → Int) (tm : Tm) (hp : List Blk) : Option (Prop × Ex × Tm × List Blk) :=
  match hp with
  | [x0, b1, x2, x3, y] =>
    some ((tm.n = 92 ∧ getT tm 0 = p00 ∧ getT tm 3 = pw_13 ∧ getT tm 4 = ph_13 ∧ getT tm 8 = pr_13 ∧ getT tm 54 = li 0 ∧ [x0, x2, x3, y] = [b_13 f, w_13, h_13 h, zr_13]), .exit 6, tmL 92 [(0, p00), (2, getT tm 2), (3, pw_13), (4, ph_13), (8, pr_13)], [b_13 f, b1, w_13, h_13 h, r_13 (resH_13 h)])
  | _ => none
noncomputable def FB1_13 (f h : Nat → Int) : Fns := F2.addLoop 4 LB1_13 (cB1_13 f h)
theorem FB1ok_13 (f h : Nat → Int) (G : Fns) (hG : FnsOk Try.prog G) : FnsOk Try.prog (G.addLoop 4 LB1_13 (cB1_13 f h)) := by
  refine hG.addLoop 4 _ _ fun tm hp p x tm' hp' hg hp1 => ?_
  unfold cB1_13 at hg
  split at hg
  · rename_i x0 b1 x2 x3 y
    simp only [Option.some.injEq, Prod.mk.injEq] at hg
    obtain ⟨rfl, rfl, rfl, rfl⟩ := hg
    obtain ⟨hn, k0, k3, k4, k8, k54, hh⟩ := hp1
    simp only [List.cons.injEq, and_true] at hh
    obtain ⟨rfl, rfl, rfl, rfl⟩ := hh
    refine (loopB1_13 f h (getT tm 2) b1).weak (Weak.of hn ⟨by rw [k0]; rfl, sameV.refl _, by rw [k3]; rfl, by rw [k4]; rfl, by rw [k8]; rfl, by rw [k54]; rfl, trivial⟩ (⟨.refl _, .refl _, .refl _, .refl _, zr_le_13 h, trivial⟩)) (Weak.refl _ _)
  · cases hg
def iP_13 (f : Nat → Int) : Blk := { body := .li (cellsK .i32 false 64 f), elem := 24, live := true, ro := true }
def ww_13 : Blk := { body := .li (cellsK .i64 true 64 wF), elem := 65, live := true, ro := false }
def zh_13 : Blk := { body := .li (cellsK .i64 true 64 fun _ => 0), elem := 67, live := true, ro := false }
theorem zh_le_13 (f : Nat → Int) : BlkLe zh_13 (h_13 (HA_13 f 0 0 0)) := by
  have hz : BlkLe zh_13 { body := syI .i64 64 fun _ => 0, elem := 67, live := true, ro := false } := li_le
  refine ⟨rfl, rfl, rfl, fun E vs hr => ?_⟩
  have h2 := hz.2.2.2 E vs hr
  have e : (h_13 (HA_13 f 0 0 0)).cells = symC 64 fun _ => C1.sc (.int .i64 0) false := by
    show symC 64 (fun j => C1.sc (.int .i64 (HA_13 f 0 0 0 j)) false) = _
    congr 1
    funext j
    unfold HA_13
    by_cases h1 : j < 8 * 0 + 0
    · omega
    · rw [if_neg h1]
      by_cases h3 : j = 8 * 0 + 0
      · rw [if_pos h3]; rfl
      · rw [if_neg h3]
  rw [e]
  exact h2
def cA1_13 (f : Nat → Int) (tm : Tm) (hp : List Blk) : Option (Prop × Ex × Tm × List Blk) :=
  match hp with
  | [x0, b1, x2, x3] =>
    some ((tm.n = 92 ∧ getT tm 0 = p00 ∧ getT tm 3 = pw_13 ∧ getT tm 4 = ph_13 ∧ getT tm 17 = li 0 ∧ [x0, x2, x3] = [iP_13 f, ww_13, zh_13]), .exit 0, tmL 92 [(0, p00), (2, getT tm 2), (3, pw_13), (4, ph_13)], [b_13 f, b1, w_13, h_13 (half_13 f)])
  | _ => none
noncomputable def FA1_13 (f : Nat → Int) : Fns := F2.addLoop 1 LA1_13 (cA1_13 f)
theorem FA1ok_13 (f : Nat → Int) : FnsOk Try.prog (FA1_13 f) := by
  refine F2ok.addLoop 1 _ _ fun tm hp p x tm' hp' hg hp1 => ?_
  unfold cA1_13 at hg
  split at hg
  · rename_i x0 b1 x2 x3
    simp only [Option.some.injEq, Prod.mk.injEq] at hg
    obtain ⟨rfl, rfl, rfl, rfl⟩ := hg
    obtain ⟨hn, k0, k3, k4, k17, hh⟩ := hp1
    simp only [List.cons.injEq, and_true] at hh
    obtain ⟨rfl, rfl, rfl⟩ := hh
    refine (loopA1_13 f (getT tm 2) b1).weak (Weak.of hn ⟨by rw [k0]; rfl, sameV.refl _, by rw [k3]; rfl, by rw [k4]; rfl, by rw [k17]; rfl, trivial⟩ (⟨li_le, .refl _, li_le, zh_le_13 f, trivial⟩)) (Weak.refl _ _)
  · cases hg
noncomputable def FP_13 (f : Nat → Int) : Fns := (FA1_13 f).addLoop 4 LB1_13 (cB1_13 f (half_13 f))
theorem FPok_13 (f : Nat → Int) : FnsOk Try.prog (FP_13 f) := FB1ok_13 f (half_13 f) _ (FA1ok_13 f)
def resP_13 (f : Nat → Int) : Nat → Int := resH_13 (half_13 f)
theorem runP_13 (f : Nat → Int) (u : Value) : runK Try.prog T (FP_13 f) 3000 Try.f8 [.one (.ptr 0 0)] [iP_13 f] [.l 1, .l 4] (fun r _ => resW r = some u) =
    (LA1_13 = LA1_13 ∧ ((92 : Nat) = 92 ∧ p00 = p00 ∧ pw_13 = pw_13 ∧ ph_13 = ph_13 ∧ li 0 = li 0 ∧ [iP_13 f, ww_13, zh_13] = [iP_13 f, ww_13, zh_13]) ∧ (LB1_13 = LB1_13 ∧ ((92 : Nat) = 92 ∧ p00 = p00 ∧ pw_13 = pw_13 ∧ ph_13 = ph_13 ∧ pr_13 = pr_13 ∧ li 0 = li 0 ∧ [b_13 f, w_13, h_13 (half_13 f), zr_13] = [b_13 f, w_13, h_13 (half_13 f), zr_13]) ∧ (0 + 64 ≤ 64 ∧ some (v64 .u8 (resP_13 f)) = some u))) := by kernel_rfl
def GP_13 : List ArgV → Option Value
  | [.mem e cs] => if e = 24 then intsK .i32 cs (vecN 64 fun s => some (v64 .u8 (resP_13 s))) else none
  | _ => none
theorem conP_13 : Con Try.prog 8 GP_13 := by
  refine con_of_each hm hT Try.func8 Try.call8 fun avs u h => ?_
  unfold GP_13 at h
  split at h
  · rename_i e cs
    split at h
    · rename_i he
      subst he
      obtain ⟨b, rfl, h2⟩ := arrK_spec h
      simp only [Option.some.injEq] at h2; subst h2
      exact ⟨FP_13 b, FPok_13 b, [], 3000, [.l 1, .l 4], _, _, by kernel_rfl, of_run (runP_13 b _) ⟨rfl, ⟨rfl, rfl, rfl, rfl, rfl, rfl⟩, rfl, ⟨rfl, rfl, rfl, rfl, rfl, rfl, rfl⟩, by omega, rfl⟩⟩
    · cases h
  · cases h
end Go.Proofs.Ytgpbpgbokfdbeaa
