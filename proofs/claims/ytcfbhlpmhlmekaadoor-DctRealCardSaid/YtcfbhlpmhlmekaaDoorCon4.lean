/-
  What is proved here: a contract of Inverse, first part. A text to be imported.
-/
import Derived.Test.YtcfbhlpmhlmekaaDoorCon2
namespace Go.Proofs.YtcfbhlpmhlmekaaDoor
open Sm Go Go.RowKit
set_option maxRecDepth 1000000
set_option linter.unusedVariables false
def b_13 (f : Nat → Int) : Blk := { body := syI .i32 64 f, elem := 33, live := true, ro := true }
def w_13 : Blk := { body := syI .i64 64 wF, elem := 45, live := true, ro := false }
def h_13 (h : Nat → Int) : Blk := { body := syI .i64 64 h, elem := 47, live := true, ro := false }
def r_13 (h : Nat → Int) : Blk := { body := syI .u8 64 h, elem := 31, live := true, ro := false }
def pw_13 : AV := .one (.ptr 2 0)
def ph_13 : AV := .one (.ptr 3 0)
def pr_13 : AV := .one (.ptr 4 0)
noncomputable def LA1_13 : Code := pathC (bodyC Tryd.f13) [0]
noncomputable def LA2_13 : Code := pathC (bodyC Tryd.f13) [0, 0]
noncomputable def LA3_13 : Code := pathC (bodyC Tryd.f13) [0, 0, 0]
noncomputable def LB1_13 : Code := pathC (bodyC Tryd.f13) [1]
noncomputable def LB2_13 : Code := pathC (bodyC Tryd.f13) [1, 0]
noncomputable def LB3_13 : Code := pathC (bodyC Tryd.f13) [1, 0, 0]
def tA_13 (f : Nat → Int) (o m n : Int) : Int := wF (0 + n.toNat * 8 + o.toNat) * W (mn (mx (f (0 + (ix n m).toNat)) (-32767)) 32767)
def hU_13 (f h : Nat → Int) (o m n : Int) : Blk := { body := .sy 64 (updG (fun j => .sc (.int .i64 (h j)) false) (0 + (ix o m).toNat) (.sc (.int .i64 (W (h (0 + (ix o m).toNat) + W (tA_13 f o m n)))) false)), elem := 47, live := true, ro := false }
theorem rA3_13 (f h : Nat → Int) (p2 : AV) (o m n : Int) (b1 : Blk) (X : Ex → Nat → List AV → List Blk → Prop) :
    roundK Tryd.prog T F2 3000 LA3_13 (tmL 92 [(0, p00), (2, p2), (3, pw_13), (4, ph_13), (5, AI o), (6, AI m), (17, AI o), (20, AI m), (23, AI n)]) [b_13 f, b1, w_13, h_13 h] [.b true] [0, 2, 3, 4, 5, 6, 17, 20, 23] X =
    (decide (n < 8) = true ∧ ((0 ≤ ix o m ∧ ix o m < ((64 : Nat) : Int)) ∧ (0 + (ix o m).toNat < 64 ∧ ((0 ≤ n ∧ n < ((8 : Nat) : Int)) ∧ ((0 ≤ o ∧ o < ((8 : Nat) : Int)) ∧ (0 + n.toNat * 8 + o.toNat < 64 ∧ ((0 ≤ ix n m ∧ ix n m < ((64 : Nat) : Int)) ∧ (0 + (ix n m).toNat < 64 ∧ ((0 ≤ ix o m ∧ ix o m < ((64 : Nat) : Int)) ∧ (0 + (ix o m).toNat < 64 ∧ (X .normal 92 [p00, p2, pw_13, ph_13, AI o, AI m, AI o, AI m, AI (W (n + 1))] [b_13 f, b1, w_13, hU_13 f h o m n]))))))))))) := by kernel_rfl
theorem eA3_13 (f h : Nat → Int) (p2 : AV) (o m n : Int) (b1 : Blk) (X : Ex → Nat → List AV → List Blk → Prop) :
    roundK Tryd.prog T F2 3000 LA3_13 (tmL 92 [(0, p00), (2, p2), (3, pw_13), (4, ph_13), (5, AI o), (6, AI m), (17, AI o), (20, AI m), (23, AI n)]) [b_13 f, b1, w_13, h_13 h] [.b false] [0, 2, 3, 4, 5, 6, 17, 20] X =
    (decide (n < 8) = false ∧ X (.exit 4) 92 [p00, p2, pw_13, ph_13, AI o, AI m, AI o, AI m] [b_13 f, b1, w_13, h_13 h]) := by kernel_rfl
def gA_13 (f : Nat → Int) (o m n : Nat) : Int := wF (n * 8 + o) * W (mn (mx (f (8 * n + m)) (-32767)) 32767)
theorem tA_eq_13 (f : Nat → Int) (o m n : Nat) (ho : o < 8) (hm8 : m < 8) (hn : n < 8) : tA_13 f (o : Nat) (m : Nat) (n : Nat) = gA_13 f o m n := by
  unfold tA_13 gA_13
  rw [ix_eq (by omega) (by omega) (by omega) (by omega), show (0 + ((8 * (n : Int) + (m : Int)).toNat)) = 8 * n + m from by omega, Int.toNat_natCast, Int.toNat_natCast, Nat.zero_add]
def iH_13 (f : Nat → Int) (o m n : Nat) : Int := sumW n (gA_13 f o m)
def HA_13 (f : Nat → Int) (o m n j : Nat) : Int := if j < 8 * o + m then iH_13 f (j / 8) (j % 8) 8 else if j = 8 * o + m then iH_13 f (j / 8) (j % 8) n else 0
theorem hU_le_13 (f : Nat → Int) (o m n : Nat) (ho : o < 8) (hm8 : m < 8) (hn : n < 8) : BlkLe (hU_13 f (HA_13 f o m n) (o : Nat) (m : Nat) (n : Nat)) (h_13 (HA_13 f o m (n + 1))) := by
  refine sy_le fun j hj => ?_
  rw [updG_int, ix_eq (by omega) (by omega) (by omega) (by omega), show 0 + ((8 * (o : Int) + (m : Int)).toNat) = 8 * o + m from by omega, tA_eq_13 f o m n ho hm8 hn]
  congr 2
  unfold HA_13
  by_cases h1 : j = 8 * o + m
  · subst h1
    rw [if_pos rfl, if_neg (by omega), if_pos rfl, if_neg (by omega), if_pos rfl, show (8 * o + m) / 8 = o from by omega, show (8 * o + m) % 8 = m from by omega]
    rfl
  · rw [if_neg h1]
    by_cases h2 : j < 8 * o + m
    · rw [if_pos h2, if_pos h2]
    · rw [if_neg h2, if_neg h1, if_neg h2, if_neg h1]
theorem loopA3_13 (f : Nat → Int) (p2 : AV) (o m : Nat) (ho : o < 8) (hm8 : m < 8) (b1 : Blk) :
    LoopOk Tryd.prog LA3_13 (tmL 92 [(0, p00), (2, p2), (3, pw_13), (4, ph_13), (5, AI (o : Nat)), (6, AI (m : Nat)), (17, AI (o : Nat)), (20, AI (m : Nat)), (23, AI 0)]) [b_13 f, b1, w_13, h_13 (HA_13 f o m 0)] (.exit 4) (tmL 92 [(0, p00), (2, p2), (3, pw_13), (4, ph_13), (5, AI (o : Nat)), (6, AI (m : Nat)), (17, AI (o : Nat)), (20, AI (m : Nat))]) [b_13 f, b1, w_13, h_13 (HA_13 f o m 8)] := by
  refine loop_rounds hm hT F2ok 92 8 (fun n => [(0, p00), (2, p2), (3, pw_13), (4, ph_13), (5, AI (o : Nat)), (6, AI (m : Nat)), (17, AI (o : Nat)), (20, AI (m : Nat)), (23, AI (n : Nat))]) (fun n => [b_13 f, b1, w_13, h_13 (HA_13 f o m n)]) (.exit 4) _ _ (fun h => by cases h) (fun n hn => ?_) ?_ 0 (by omega)
  · have e1 := ix_eq (show (0 : Int) ≤ (o : Nat) by omega) (by omega) (show (0 : Int) ≤ (m : Nat) by omega) (by omega)
    have e2 := ix_eq (show (0 : Int) ≤ (n : Nat) by omega) (by omega) (show (0 : Int) ≤ (m : Nat) by omega) (by omega)
    refine ⟨3000, [.b true], of_run (rA3_13 f _ p2 (o : Nat) (m : Nat) (n : Nat) b1 _) ⟨lt8 n hn, by rw [e1]; omega, by rw [e1]; omega, by omega, by omega, by omega, by rw [e2]; omega, by rw [e2]; omega, by rw [e1]; omega, by rw [e1]; omega, rfl, rfl, ?_, ?_⟩⟩
    · exact ⟨rfl, sameV.refl _, rfl, rfl, rfl, rfl, rfl, rfl, congrArg (Value.int .i64) (next_eq n hn), trivial⟩
    · exact ⟨.refl _, .refl _, .refl _, hU_le_13 f o m n ho hm8 hn, trivial⟩
  · exact ⟨3000, [.b false], of_run (eA3_13 f _ p2 (o : Nat) (m : Nat) ((8 : Nat) : Int) b1 _) ⟨not8, rfl, rfl, ⟨rfl, sameV.refl _, rfl, rfl, rfl, rfl, rfl, rfl, trivial⟩, HpLe.refl _⟩⟩
def cA3_13 (f : Nat → Int) (tm : Tm) (hp : List Blk) : Option (Prop × Ex × Tm × List Blk) :=
  match getT tm 5, getT tm 6, hp with
  | .one (.sc (.int .i64 o) _), .one (.sc (.int .i64 m) _), [x0, b1, x2, x3] =>
    some ((tm.n = 92 ∧ getT tm 0 = p00 ∧ getT tm 3 = pw_13 ∧ getT tm 4 = ph_13 ∧ getT tm 5 = AI o ∧ getT tm 6 = AI m ∧ getT tm 17 = AI o ∧ getT tm 20 = AI m ∧ getT tm 23 = li 0 ∧ (0 ≤ o ∧ o < 8) ∧ (0 ≤ m ∧ m < 8) ∧ [x0, x2, x3] = [b_13 f, w_13, h_13 (HA_13 f o.toNat m.toNat 0)]), .exit 4, tmL 92 [(0, p00), (2, getT tm 2), (3, pw_13), (4, ph_13), (5, AI o), (6, AI m), (17, AI o), (20, AI m)], [b_13 f, b1, w_13, h_13 (HA_13 f o.toNat m.toNat 8)])
  | _, _, _ => none
noncomputable def FA3_13 (f : Nat → Int) : Fns := F2.addLoop 3 LA3_13 (cA3_13 f)
theorem FA3ok_13 (f : Nat → Int) : FnsOk Tryd.prog (FA3_13 f) := by
  refine F2ok.addLoop 3 _ _ fun tm hp p x tm' hp' hg hp1 => ?_
  unfold cA3_13 at hg
  split at hg
  · rename_i o so m sm x0 b1 x2 x3 go gm
    simp only [Option.some.injEq, Prod.mk.injEq] at hg
    obtain ⟨rfl, rfl, rfl, rfl⟩ := hg
    obtain ⟨hn, k0, k3, k4, k5, k6, k17, k20, k23, ⟨qo1, qo2⟩, ⟨qm1, qm2⟩, hh⟩ := hp1
    simp only [List.cons.injEq, and_true] at hh
    obtain ⟨rfl, rfl, rfl⟩ := hh
    obtain ⟨oN, rfl⟩ := Int.eq_ofNat_of_zero_le qo1
    obtain ⟨mN, rfl⟩ := Int.eq_ofNat_of_zero_le qm1
    refine (loopA3_13 f (getT tm 2) oN mN (by omega) (by omega) b1).weak (Weak.of hn ⟨by rw [k0]; rfl, sameV.refl _, by rw [k3]; rfl, by rw [k4]; rfl, by rw [k5]; rfl, by rw [k6]; rfl, by rw [k17]; rfl, by rw [k20]; rfl, by rw [k23]; rfl, trivial⟩ (HpLe.refl _)) (Weak.refl _ _)
  · cases hg
theorem rA2_13 (f : Nat → Int) (p2 : AV) (o m : Nat) (b1 : Blk) (X : Ex → Nat → List AV → List Blk → Prop) :
    roundK Tryd.prog T (FA3_13 f) 3000 LA2_13 (tmL 92 [(0, p00), (2, p2), (3, pw_13), (4, ph_13), (5, AI (o : Nat)), (17, AI (o : Nat)), (20, AI (m : Nat))]) [b_13 f, b1, w_13, h_13 (HA_13 f o m 0)] [.b true, .l 3] [0, 2, 3, 4, 5, 17, 20] X =
    (decide ((m : Int) < 8) = true ∧ (LA3_13 = LA3_13 ∧ ((92 : Nat) = 92 ∧ p00 = p00 ∧ pw_13 = pw_13 ∧ ph_13 = ph_13 ∧ AI o = AI o ∧ AI m = AI m ∧ AI o = AI o ∧ AI m = AI m ∧ li 0 = li 0 ∧ (0 ≤ (o : Int) ∧ (o : Int) < 8) ∧ (0 ≤ (m : Int) ∧ (m : Int) < 8) ∧ [b_13 f, w_13, h_13 (HA_13 f o m 0)] = [b_13 f, w_13, h_13 (HA_13 f o m 0)]) ∧ X .normal 92 [p00, p2, pw_13, ph_13, AI (o : Nat), AI (o : Nat), AI (W ((m : Int) + 1))] [b_13 f, b1, w_13, h_13 (HA_13 f o m 8)])) := by kernel_rfl
theorem eA2_13 (f h : Nat → Int) (p2 : AV) (o m : Int) (b1 : Blk) (X : Ex → Nat → List AV → List Blk → Prop) :
    roundK Tryd.prog T (FA3_13 f) 3000 LA2_13 (tmL 92 [(0, p00), (2, p2), (3, pw_13), (4, ph_13), (5, AI o), (17, AI o), (20, AI m)]) [b_13 f, b1, w_13, h_13 h] [.b false] [0, 2, 3, 4, 5, 17] X =
    (decide (m < 8) = false ∧ X (.exit 2) 92 [p00, p2, pw_13, ph_13, AI o, AI o] [b_13 f, b1, w_13, h_13 h]) := by kernel_rfl
theorem HA_next_13 (f : Nat → Int) (o m j : Nat) : HA_13 f o m 8 j = HA_13 f o (m + 1) 0 j := by
  unfold HA_13
  by_cases h1 : j < 8 * o + m
  · rw [if_pos h1, if_pos (by omega)]
  · rw [if_neg h1]
    by_cases h2 : j = 8 * o + m
    · rw [if_pos h2, if_pos (by omega)]
    · rw [if_neg h2, if_neg (by omega)]
      by_cases h3 : j = 8 * o + (m + 1)
      · rw [if_pos h3]; rfl
      · rw [if_neg h3]
theorem HA_row_13 (f : Nat → Int) (o j : Nat) : HA_13 f o 8 0 j = HA_13 f (o + 1) 0 0 j := by
  unfold HA_13
  rw [show 8 * (o + 1) + 0 = 8 * o + 8 from by omega]
theorem loopA2_13 (f : Nat → Int) (p2 : AV) (o : Nat) (ho : o < 8) (b1 : Blk) :
    LoopOk Tryd.prog LA2_13 (tmL 92 [(0, p00), (2, p2), (3, pw_13), (4, ph_13), (5, AI (o : Nat)), (17, AI (o : Nat)), (20, AI 0)]) [b_13 f, b1, w_13, h_13 (HA_13 f o 0 0)] (.exit 2) (tmL 92 [(0, p00), (2, p2), (3, pw_13), (4, ph_13), (5, AI (o : Nat)), (17, AI (o : Nat))]) [b_13 f, b1, w_13, h_13 (HA_13 f o 8 0)] := by
  refine loop_rounds hm hT (FA3ok_13 f) 92 8 (fun m => [(0, p00), (2, p2), (3, pw_13), (4, ph_13), (5, AI (o : Nat)), (17, AI (o : Nat)), (20, AI (m : Nat))]) (fun m => [b_13 f, b1, w_13, h_13 (HA_13 f o m 0)]) (.exit 2) _ _ (fun h => by cases h) (fun m hm8 => ?_) ?_ 0 (by omega)
  · refine ⟨3000, [.b true, .l 3], of_run (rA2_13 f p2 o m b1 _) ⟨lt8 m hm8, rfl, ⟨rfl, rfl, rfl, rfl, rfl, rfl, rfl, rfl, rfl, ⟨by omega, by omega⟩, ⟨by omega, by omega⟩, rfl⟩, rfl, rfl, ?_, ?_⟩⟩
    · exact ⟨rfl, sameV.refl _, rfl, rfl, rfl, rfl, congrArg (Value.int .i64) (next_eq m hm8), trivial⟩
    · exact ⟨.refl _, .refl _, .refl _, sy_le fun j _ => by rw [HA_next_13], trivial⟩
  · exact ⟨3000, [.b false], of_run (eA2_13 f _ p2 (o : Nat) ((8 : Nat) : Int) b1 _) ⟨not8, rfl, rfl, ⟨rfl, sameV.refl _, rfl, rfl, rfl, rfl, trivial⟩, HpLe.refl _⟩⟩
def cA2_13 (f : Nat → Int) (tm : Tm) (hp : List Blk) : Option (Prop × Ex × Tm × List Blk) :=
  match getT tm 5, hp with
  | .one (.sc (.int .i64 o) _), [x0, b1, x2, x3] =>
    some ((tm.n = 92 ∧ getT tm 0 = p00 ∧ getT tm 3 = pw_13 ∧ getT tm 4 = ph_13 ∧ getT tm 5 = AI o ∧ getT tm 17 = AI o ∧ getT tm 20 = li 0 ∧ (0 ≤ o ∧ o < 8) ∧ [x0, x2, x3] = [b_13 f, w_13, h_13 (HA_13 f o.toNat 0 0)]), .exit 2, tmL 92 [(0, p00), (2, getT tm 2), (3, pw_13), (4, ph_13), (5, AI o), (17, AI o)], [b_13 f, b1, w_13, h_13 (HA_13 f o.toNat 8 0)])
  | _, _ => none
noncomputable def FA2_13 (f : Nat → Int) : Fns := F2.addLoop 2 LA2_13 (cA2_13 f)
theorem FA2ok_13 (f : Nat → Int) : FnsOk Tryd.prog (FA2_13 f) := by
  refine F2ok.addLoop 2 _ _ fun tm hp p x tm' hp' hg hp1 => ?_
  unfold cA2_13 at hg
  split at hg
  · rename_i o so x0 b1 x2 x3 go
    simp only [Option.some.injEq, Prod.mk.injEq] at hg
    obtain ⟨rfl, rfl, rfl, rfl⟩ := hg
    obtain ⟨hn, k0, k3, k4, k5, k17, k20, ⟨qo1, qo2⟩, hh⟩ := hp1
    simp only [List.cons.injEq, and_true] at hh
    obtain ⟨rfl, rfl, rfl⟩ := hh
    obtain ⟨oN, rfl⟩ := Int.eq_ofNat_of_zero_le qo1
    refine (loopA2_13 f (getT tm 2) oN (by omega) b1).weak (Weak.of hn ⟨by rw [k0]; rfl, sameV.refl _, by rw [k3]; rfl, by rw [k4]; rfl, by rw [k5]; rfl, by rw [k17]; rfl, by rw [k20]; rfl, trivial⟩ (HpLe.refl _)) (Weak.refl _ _)
  · cases hg
theorem rA1_13 (f : Nat → Int) (p2 : AV) (o : Nat) (b1 : Blk) (X : Ex → Nat → List AV → List Blk → Prop) :
    roundK Tryd.prog T (FA2_13 f) 3000 LA1_13 (tmL 92 [(0, p00), (2, p2), (3, pw_13), (4, ph_13), (17, AI (o : Nat))]) [b_13 f, b1, w_13, h_13 (HA_13 f o 0 0)] [.b true, .l 2] [0, 2, 3, 4, 17] X =
    (decide ((o : Int) < 8) = true ∧ (LA2_13 = LA2_13 ∧ ((92 : Nat) = 92 ∧ p00 = p00 ∧ pw_13 = pw_13 ∧ ph_13 = ph_13 ∧ AI o = AI o ∧ AI o = AI o ∧ li 0 = li 0 ∧ (0 ≤ (o : Int) ∧ (o : Int) < 8) ∧ [b_13 f, w_13, h_13 (HA_13 f o 0 0)] = [b_13 f, w_13, h_13 (HA_13 f o 0 0)]) ∧ X .normal 92 [p00, p2, pw_13, ph_13, AI (W ((o : Int) + 1))] [b_13 f, b1, w_13, h_13 (HA_13 f o 8 0)])) := by kernel_rfl
theorem eA1_13 (f h : Nat → Int) (p2 : AV) (o : Int) (b1 : Blk) (X : Ex → Nat → List AV → List Blk → Prop) :
    roundK Tryd.prog T (FA2_13 f) 3000 LA1_13 (tmL 92 [(0, p00), (2, p2), (3, pw_13), (4, ph_13), (17, AI o)]) [b_13 f, b1, w_13, h_13 h] [.b false] [0, 2, 3, 4] X =
    (decide (o < 8) = false ∧ X (.exit 0) 92 [p00, p2, pw_13, ph_13] [b_13 f, b1, w_13, h_13 h]) := by kernel_rfl
def half_13 (f : Nat → Int) (j : Nat) : Int := iH_13 f (j / 8) (j % 8) 8
theorem loopA1_13 (f : Nat → Int) (p2 : AV) (b1 : Blk) :
    LoopOk Tryd.prog LA1_13 (tmL 92 [(0, p00), (2, p2), (3, pw_13), (4, ph_13), (17, AI 0)]) [b_13 f, b1, w_13, h_13 (HA_13 f 0 0 0)] (.exit 0) (tmL 92 [(0, p00), (2, p2), (3, pw_13), (4, ph_13)]) [b_13 f, b1, w_13, h_13 (half_13 f)] := by
  refine loop_rounds hm hT (FA2ok_13 f) 92 8 (fun o => [(0, p00), (2, p2), (3, pw_13), (4, ph_13), (17, AI (o : Nat))]) (fun o => [b_13 f, b1, w_13, h_13 (HA_13 f o 0 0)]) (.exit 0) _ _ (fun h => by cases h) (fun o ho => ?_) ?_ 0 (by omega)
  · refine ⟨3000, [.b true, .l 2], of_run (rA1_13 f p2 o b1 _) ⟨lt8 o ho, rfl, ⟨rfl, rfl, rfl, rfl, rfl, rfl, rfl, ⟨by omega, by omega⟩, rfl⟩, rfl, rfl, ?_, ?_⟩⟩
    · exact ⟨rfl, sameV.refl _, rfl, rfl, congrArg (Value.int .i64) (next_eq o ho), trivial⟩
    · exact ⟨.refl _, .refl _, .refl _, sy_le fun j _ => by rw [HA_row_13], trivial⟩
  · refine ⟨3000, [.b false], of_run (eA1_13 f _ p2 ((8 : Nat) : Int) b1 _) ⟨not8, rfl, rfl, ⟨rfl, sameV.refl _, rfl, rfl, trivial⟩, ⟨.refl _, .refl _, .refl _, sy_le fun j hj => ?_, trivial⟩⟩⟩
    unfold HA_13 half_13
    rw [if_pos (by omega)]
def b_11 (f : Nat → Int) : Blk := { body := syI .i16 64 f, elem := 51, live := true, ro := true }
def w_11 : Blk := { body := syI .i64 64 wF, elem := 45, live := true, ro := false }
def h_11 (h : Nat → Int) : Blk := { body := syI .i64 64 h, elem := 47, live := true, ro := false }
def r_11 (h : Nat → Int) : Blk := { body := syI .i32 64 h, elem := 33, live := true, ro := false }
def pw_11 : AV := .one (.ptr 3 0)
def ph_11 : AV := .one (.ptr 4 0)
def pr_11 : AV := .one (.ptr 2 0)
noncomputable def LA1_11 : Code := pathC (bodyC Tryd.f14) [0]
noncomputable def LA2_11 : Code := pathC (bodyC Tryd.f14) [0, 0]
noncomputable def LA3_11 : Code := pathC (bodyC Tryd.f14) [0, 0, 0]
noncomputable def LB1_11 : Code := pathC (bodyC Tryd.f14) [1]
noncomputable def LB2_11 : Code := pathC (bodyC Tryd.f14) [1, 0]
noncomputable def LB3_11 : Code := pathC (bodyC Tryd.f14) [1, 0, 0]
def tA_11 (f : Nat → Int) (o m n : Int) : Int := wF (0 + m.toNat * 8 + n.toNat) * W (mn (mx (f (0 + (ix o n).toNat)) (-255)) 255)
def hU_11 (f h : Nat → Int) (o m n : Int) : Blk := { body := .sy 64 (updG (fun j => .sc (.int .i64 (h j)) false) (0 + (ix o m).toNat) (.sc (.int .i64 (W (h (0 + (ix o m).toNat) + W (tA_11 f o m n)))) false)), elem := 47, live := true, ro := false }
theorem rA3_11 (f h : Nat → Int) (p2 pr : AV) (o m n : Int) (b1 b2 : Blk) (X : Ex → Nat → List AV → List Blk → Prop) :
    roundK Tryd.prog T F2 3000 LA3_11 (tmL 89 [(0, p00), (2, p2), (3, pr), (4, pw_11), (5, ph_11), (6, AI o), (7, AI m), (17, AI o), (20, AI m), (23, AI n)]) [b_11 f, b1, b2, w_11, h_11 h] [.b true] [0, 2, 3, 4, 5, 6, 7, 17, 20, 23] X =
    (decide (n < 8) = true ∧ ((0 ≤ ix o m ∧ ix o m < ((64 : Nat) : Int)) ∧ (0 + (ix o m).toNat < 64 ∧ ((0 ≤ m ∧ m < ((8 : Nat) : Int)) ∧ ((0 ≤ n ∧ n < ((8 : Nat) : Int)) ∧ (0 + m.toNat * 8 + n.toNat < 64 ∧ ((0 ≤ ix o n ∧ ix o n < ((64 : Nat) : Int)) ∧ (0 + (ix o n).toNat < 64 ∧ ((0 ≤ ix o m ∧ ix o m < ((64 : Nat) : Int)) ∧ (0 + (ix o m).toNat < 64 ∧ (X .normal 89 [p00, p2, pr, pw_11, ph_11, AI o, AI m, AI o, AI m, AI (W (n + 1))] [b_11 f, b1, b2, w_11, hU_11 f h o m n]))))))))))) := by kernel_rfl
theorem eA3_11 (f h : Nat → Int) (p2 pr : AV) (o m n : Int) (b1 b2 : Blk) (X : Ex → Nat → List AV → List Blk → Prop) :
    roundK Tryd.prog T F2 3000 LA3_11 (tmL 89 [(0, p00), (2, p2), (3, pr), (4, pw_11), (5, ph_11), (6, AI o), (7, AI m), (17, AI o), (20, AI m), (23, AI n)]) [b_11 f, b1, b2, w_11, h_11 h] [.b false] [0, 2, 3, 4, 5, 6, 7, 17, 20] X =
    (decide (n < 8) = false ∧ X (.exit 4) 89 [p00, p2, pr, pw_11, ph_11, AI o, AI m, AI o, AI m] [b_11 f, b1, b2, w_11, h_11 h]) := by kernel_rfl
def gA_11 (f : Nat → Int) (o m n : Nat) : Int := wF (m * 8 + n) * W (mn (mx (f (8 * o + n)) (-255)) 255)
theorem tA_eq_11 (f : Nat → Int) (o m n : Nat) (ho : o < 8) (hm8 : m < 8) (hn : n < 8) : tA_11 f (o : Nat) (m : Nat) (n : Nat) = gA_11 f o m n := by
  unfold tA_11 gA_11
  rw [ix_eq (by omega) (by omega) (by omega) (by omega), show (0 + ((8 * (o : Int) + (n : Int)).toNat)) = 8 * o + n from by omega, Int.toNat_natCast, Int.toNat_natCast, Nat.zero_add]
def iH_11 (f : Nat → Int) (o m n : Nat) : Int := sumW n (gA_11 f o m)
def HA_11 (f : Nat → Int) (o m n j : Nat) : Int := if j < 8 * o + m then iH_11 f (j / 8) (j % 8) 8 else if j = 8 * o + m then iH_11 f (j / 8) (j % 8) n else 0
theorem hU_le_11 (f : Nat → Int) (o m n : Nat) (ho : o < 8) (hm8 : m < 8) (hn : n < 8) : BlkLe (hU_11 f (HA_11 f o m n) (o : Nat) (m : Nat) (n : Nat)) (h_11 (HA_11 f o m (n + 1))) := by
  refine sy_le fun j hj => ?_
  rw [updG_int, ix_eq (by omega) (by omega) (by omega) (by omega), show 0 + ((8 * (o : Int) + (m : Int)).toNat) = 8 * o + m from by omega, tA_eq_11 f o m n ho hm8 hn]
  congr 2
  unfold HA_11
  by_cases h1 : j = 8 * o + m
  · subst h1
    rw [if_pos rfl, if_neg (by omega), if_pos rfl, if_neg (by omega), if_pos rfl, show (8 * o + m) / 8 = o from by omega, show (8 * o + m) % 8 = m from by omega]
    rfl
  · rw [if_neg h1]
    by_cases h2 : j < 8 * o + m
    · rw [if_pos h2, if_pos h2]
    · rw [if_neg h2, if_neg h1, if_neg h2, if_neg h1]
theorem loopA3_11 (f : Nat → Int) (p2 pr : AV) (o m : Nat) (ho : o < 8) (hm8 : m < 8) (b1 b2 : Blk) :
    LoopOk Tryd.prog LA3_11 (tmL 89 [(0, p00), (2, p2), (3, pr), (4, pw_11), (5, ph_11), (6, AI (o : Nat)), (7, AI (m : Nat)), (17, AI (o : Nat)), (20, AI (m : Nat)), (23, AI 0)]) [b_11 f, b1, b2, w_11, h_11 (HA_11 f o m 0)] (.exit 4) (tmL 89 [(0, p00), (2, p2), (3, pr), (4, pw_11), (5, ph_11), (6, AI (o : Nat)), (7, AI (m : Nat)), (17, AI (o : Nat)), (20, AI (m : Nat))]) [b_11 f, b1, b2, w_11, h_11 (HA_11 f o m 8)] := by
  refine loop_rounds hm hT F2ok 89 8 (fun n => [(0, p00), (2, p2), (3, pr), (4, pw_11), (5, ph_11), (6, AI (o : Nat)), (7, AI (m : Nat)), (17, AI (o : Nat)), (20, AI (m : Nat)), (23, AI (n : Nat))]) (fun n => [b_11 f, b1, b2, w_11, h_11 (HA_11 f o m n)]) (.exit 4) _ _ (fun h => by cases h) (fun n hn => ?_) ?_ 0 (by omega)
  · have e1 := ix_eq (show (0 : Int) ≤ (o : Nat) by omega) (by omega) (show (0 : Int) ≤ (m : Nat) by omega) (by omega)
    have e2 := ix_eq (show (0 : Int) ≤ (o : Nat) by omega) (by omega) (show (0 : Int) ≤ (n : Nat) by omega) (by omega)
    refine ⟨3000, [.b true], of_run (rA3_11 f _ p2 pr (o : Nat) (m : Nat) (n : Nat) b1 b2 _) ⟨lt8 n hn, by rw [e1]; omega, by rw [e1]; omega, by omega, by omega, by omega, by rw [e2]; omega, by rw [e2]; omega, by rw [e1]; omega, by rw [e1]; omega, rfl, rfl, ?_, ?_⟩⟩
    · exact ⟨rfl, sameV.refl _, sameV.refl _, rfl, rfl, rfl, rfl, rfl, rfl, congrArg (Value.int .i64) (next_eq n hn), trivial⟩
    · exact ⟨.refl _, .refl _, .refl _, .refl _, hU_le_11 f o m n ho hm8 hn, trivial⟩
  · exact ⟨3000, [.b false], of_run (eA3_11 f _ p2 pr (o : Nat) (m : Nat) ((8 : Nat) : Int) b1 b2 _) ⟨not8, rfl, rfl, ⟨rfl, sameV.refl _, sameV.refl _, rfl, rfl, rfl, rfl, rfl, rfl, trivial⟩, HpLe.refl _⟩⟩
def cA3_11 (f : Nat → Int) (tm : Tm) (hp : List Blk) : Option (Prop × Ex × Tm × List Blk) :=
  match getT tm 6, getT tm 7, hp with
  | .one (.sc (.int .i64 o) _), .one (.sc (.int .i64 m) _), [x0, b1, b2, x2, x3] =>
    some ((tm.n = 89 ∧ getT tm 0 = p00 ∧ getT tm 4 = pw_11 ∧ getT tm 5 = ph_11 ∧ getT tm 6 = AI o ∧ getT tm 7 = AI m ∧ getT tm 17 = AI o ∧ getT tm 20 = AI m ∧ getT tm 23 = li 0 ∧ (0 ≤ o ∧ o < 8) ∧ (0 ≤ m ∧ m < 8) ∧ [x0, x2, x3] = [b_11 f, w_11, h_11 (HA_11 f o.toNat m.toNat 0)]), .exit 4, tmL 89 [(0, p00), (2, getT tm 2), (3, getT tm 3), (4, pw_11), (5, ph_11), (6, AI o), (7, AI m), (17, AI o), (20, AI m)], [b_11 f, b1, b2, w_11, h_11 (HA_11 f o.toNat m.toNat 8)])
  | _, _, _ => none
noncomputable def FA3_11 (f : Nat → Int) : Fns := F2.addLoop 3 LA3_11 (cA3_11 f)
theorem FA3ok_11 (f : Nat → Int) : FnsOk Tryd.prog (FA3_11 f) := by
  refine F2ok.addLoop 3 _ _ fun tm hp p x tm' hp' hg hp1 => ?_
  unfold cA3_11 at hg
  split at hg
  · rename_i o so m sm x0 b1 b2 x2 x3 go gm
    simp only [Option.some.injEq, Prod.mk.injEq] at hg
    obtain ⟨rfl, rfl, rfl, rfl⟩ := hg
    obtain ⟨hn, k0, k4, k5, k6, k7, k17, k20, k23, ⟨qo1, qo2⟩, ⟨qm1, qm2⟩, hh⟩ := hp1
    simp only [List.cons.injEq, and_true] at hh
    obtain ⟨rfl, rfl, rfl⟩ := hh
    obtain ⟨oN, rfl⟩ := Int.eq_ofNat_of_zero_le qo1
    obtain ⟨mN, rfl⟩ := Int.eq_ofNat_of_zero_le qm1
    refine (loopA3_11 f (getT tm 2) (getT tm 3) oN mN (by omega) (by omega) b1 b2).weak (Weak.of hn ⟨by rw [k0]; rfl, sameV.refl _, sameV.refl _, by rw [k4]; rfl, by rw [k5]; rfl, by rw [k6]; rfl, by rw [k7]; rfl, by rw [k17]; rfl, by rw [k20]; rfl, by rw [k23]; rfl, trivial⟩ (HpLe.refl _)) (Weak.refl _ _)
  · cases hg
theorem rA2_11 (f : Nat → Int) (p2 pr : AV) (o m : Nat) (b1 b2 : Blk) (X : Ex → Nat → List AV → List Blk → Prop) :
    roundK Tryd.prog T (FA3_11 f) 3000 LA2_11 (tmL 89 [(0, p00), (2, p2), (3, pr), (4, pw_11), (5, ph_11), (6, AI (o : Nat)), (17, AI (o : Nat)), (20, AI (m : Nat))]) [b_11 f, b1, b2, w_11, h_11 (HA_11 f o m 0)] [.b true, .l 3] [0, 2, 3, 4, 5, 6, 17, 20] X =
    (decide ((m : Int) < 8) = true ∧ (LA3_11 = LA3_11 ∧ ((89 : Nat) = 89 ∧ p00 = p00 ∧ pw_11 = pw_11 ∧ ph_11 = ph_11 ∧ AI o = AI o ∧ AI m = AI m ∧ AI o = AI o ∧ AI m = AI m ∧ li 0 = li 0 ∧ (0 ≤ (o : Int) ∧ (o : Int) < 8) ∧ (0 ≤ (m : Int) ∧ (m : Int) < 8) ∧ [b_11 f, w_11, h_11 (HA_11 f o m 0)] = [b_11 f, w_11, h_11 (HA_11 f o m 0)]) ∧ X .normal 89 [p00, p2, pr, pw_11, ph_11, AI (o : Nat), AI (o : Nat), AI (W ((m : Int) + 1))] [b_11 f, b1, b2, w_11, h_11 (HA_11 f o m 8)])) := by kernel_rfl
theorem eA2_11 (f h : Nat → Int) (p2 pr : AV) (o m : Int) (b1 b2 : Blk) (X : Ex → Nat → List AV → List Blk → Prop) :
    roundK Tryd.prog T (FA3_11 f) 3000 LA2_11 (tmL 89 [(0, p00), (2, p2), (3, pr), (4, pw_11), (5, ph_11), (6, AI o), (17, AI o), (20, AI m)]) [b_11 f, b1, b2, w_11, h_11 h] [.b false] [0, 2, 3, 4, 5, 6, 17] X =
    (decide (m < 8) = false ∧ X (.exit 2) 89 [p00, p2, pr, pw_11, ph_11, AI o, AI o] [b_11 f, b1, b2, w_11, h_11 h]) := by kernel_rfl
theorem HA_next_11 (f : Nat → Int) (o m j : Nat) : HA_11 f o m 8 j = HA_11 f o (m + 1) 0 j := by
  unfold HA_11
  by_cases h1 : j < 8 * o + m
  · rw [if_pos h1, if_pos (by omega)]
  · rw [if_neg h1]
    by_cases h2 : j = 8 * o + m
    · rw [if_pos h2, if_pos (by omega)]
    · rw [if_neg h2, if_neg (by omega)]
      by_cases h3 : j = 8 * o + (m + 1)
      · rw [if_pos h3]; rfl
      · rw [if_neg h3]
theorem HA_row_11 (f : Nat → Int) (o j : Nat) : HA_11 f o 8 0 j = HA_11 f (o + 1) 0 0 j := by
  unfold HA_11
  rw [show 8 * (o + 1) + 0 = 8 * o + 8 from by omega]
theorem loopA2_11 (f : Nat → Int) (p2 pr : AV) (o : Nat) (ho : o < 8) (b1 b2 : Blk) :
    LoopOk Tryd.prog LA2_11 (tmL 89 [(0, p00), (2, p2), (3, pr), (4, pw_11), (5, ph_11), (6, AI (o : Nat)), (17, AI (o : Nat)), (20, AI 0)]) [b_11 f, b1, b2, w_11, h_11 (HA_11 f o 0 0)] (.exit 2) (tmL 89 [(0, p00), (2, p2), (3, pr), (4, pw_11), (5, ph_11), (6, AI (o : Nat)), (17, AI (o : Nat))]) [b_11 f, b1, b2, w_11, h_11 (HA_11 f o 8 0)] := by
  refine loop_rounds hm hT (FA3ok_11 f) 89 8 (fun m => [(0, p00), (2, p2), (3, pr), (4, pw_11), (5, ph_11), (6, AI (o : Nat)), (17, AI (o : Nat)), (20, AI (m : Nat))]) (fun m => [b_11 f, b1, b2, w_11, h_11 (HA_11 f o m 0)]) (.exit 2) _ _ (fun h => by cases h) (fun m hm8 => ?_) ?_ 0 (by omega)
  · refine ⟨3000, [.b true, .l 3], of_run (rA2_11 f p2 pr o m b1 b2 _) ⟨lt8 m hm8, rfl, ⟨rfl, rfl, rfl, rfl, rfl, rfl, rfl, rfl, rfl, ⟨by omega, by omega⟩, ⟨by omega, by omega⟩, rfl⟩, rfl, rfl, ?_, ?_⟩⟩
    · exact ⟨rfl, sameV.refl _, sameV.refl _, rfl, rfl, rfl, rfl, congrArg (Value.int .i64) (next_eq m hm8), trivial⟩
    · exact ⟨.refl _, .refl _, .refl _, .refl _, sy_le fun j _ => by rw [HA_next_11], trivial⟩
  · exact ⟨3000, [.b false], of_run (eA2_11 f _ p2 pr (o : Nat) ((8 : Nat) : Int) b1 b2 _) ⟨not8, rfl, rfl, ⟨rfl, sameV.refl _, sameV.refl _, rfl, rfl, rfl, rfl, trivial⟩, HpLe.refl _⟩⟩
def cA2_11 (f : Nat → Int) (tm : Tm) (hp : List Blk) : Option (Prop × Ex × Tm × List Blk) :=
  match getT tm 6, hp with
  | .one (.sc (.int .i64 o) _), [x0, b1, b2, x2, x3] =>
    some ((tm.n = 89 ∧ getT tm 0 = p00 ∧ getT tm 4 = pw_11 ∧ getT tm 5 = ph_11 ∧ getT tm 6 = AI o ∧ getT tm 17 = AI o ∧ getT tm 20 = li 0 ∧ (0 ≤ o ∧ o < 8) ∧ [x0, x2, x3] = [b_11 f, w_11, h_11 (HA_11 f o.toNat 0 0)]), .exit 2, tmL 89 [(0, p00), (2, getT tm 2), (3, getT tm 3), (4, pw_11), (5, ph_11), (6, AI o), (17, AI o)], [b_11 f, b1, b2, w_11, h_11 (HA_11 f o.toNat 8 0)])
  | _, _ => none
noncomputable def FA2_11 (f : Nat → Int) : Fns := F2.addLoop 2 LA2_11 (cA2_11 f)
theorem FA2ok_11 (f : Nat → Int) : FnsOk Tryd.prog (FA2_11 f) := by
  refine F2ok.addLoop 2 _ _ fun tm hp p x tm' hp' hg hp1 => ?_
  unfold cA2_11 at hg
  split at hg
  · rename_i o so x0 b1 b2 x2 x3 go
    simp only [Option.some.injEq, Prod.mk.injEq] at hg
    obtain ⟨rfl, rfl, rfl, rfl⟩ := hg
    obtain ⟨hn, k0, k4, k5, k6, k17, k20, ⟨qo1, qo2⟩, hh⟩ := hp1
    simp only [List.cons.injEq, and_true] at hh
    obtain ⟨rfl, rfl, rfl⟩ := hh
    obtain ⟨oN, rfl⟩ := Int.eq_ofNat_of_zero_le qo1
    refine (loopA2_11 f (getT tm 2) (getT tm 3) oN (by omega) b1 b2).weak (Weak.of hn ⟨by rw [k0]; rfl, sameV.refl _, sameV.refl _, by rw [k4]; rfl, by rw [k5]; rfl, by rw [k6]; rfl, by rw [k17]; rfl, by rw [k20]; rfl, trivial⟩ (HpLe.refl _)) (Weak.refl _ _)
  · cases hg
theorem rA1_11 (f : Nat → Int) (p2 pr : AV) (o : Nat) (b1 b2 : Blk) (X : Ex → Nat → List AV → List Blk → Prop) :
    roundK Tryd.prog T (FA2_11 f) 3000 LA1_11 (tmL 89 [(0, p00), (2, p2), (3, pr), (4, pw_11), (5, ph_11), (17, AI (o : Nat))]) [b_11 f, b1, b2, w_11, h_11 (HA_11 f o 0 0)] [.b true, .l 2] [0, 2, 3, 4, 5, 17] X =
    (decide ((o : Int) < 8) = true ∧ (LA2_11 = LA2_11 ∧ ((89 : Nat) = 89 ∧ p00 = p00 ∧ pw_11 = pw_11 ∧ ph_11 = ph_11 ∧ AI o = AI o ∧ AI o = AI o ∧ li 0 = li 0 ∧ (0 ≤ (o : Int) ∧ (o : Int) < 8) ∧ [b_11 f, w_11, h_11 (HA_11 f o 0 0)] = [b_11 f, w_11, h_11 (HA_11 f o 0 0)]) ∧ X .normal 89 [p00, p2, pr, pw_11, ph_11, AI (W ((o : Int) + 1))] [b_11 f, b1, b2, w_11, h_11 (HA_11 f o 8 0)])) := by kernel_rfl
theorem eA1_11 (f h : Nat → Int) (p2 pr : AV) (o : Int) (b1 b2 : Blk) (X : Ex → Nat → List AV → List Blk → Prop) :
    roundK Tryd.prog T (FA2_11 f) 3000 LA1_11 (tmL 89 [(0, p00), (2, p2), (3, pr), (4, pw_11), (5, ph_11), (17, AI o)]) [b_11 f, b1, b2, w_11, h_11 h] [.b false] [0, 2, 3, 4, 5] X =
    (decide (o < 8) = false ∧ X (.exit 0) 89 [p00, p2, pr, pw_11, ph_11] [b_11 f, b1, b2, w_11, h_11 h]) := by kernel_rfl
def half_11 (f : Nat → Int) (j : Nat) : Int := iH_11 f (j / 8) (j % 8) 8
theorem loopA1_11 (f : Nat → Int) (p2 pr : AV) (b1 b2 : Blk) :
    LoopOk Tryd.prog LA1_11 (tmL 89 [(0, p00), (2, p2), (3, pr), (4, pw_11), (5, ph_11), (17, AI 0)]) [b_11 f, b1, b2, w_11, h_11 (HA_11 f 0 0 0)] (.exit 0) (tmL 89 [(0, p00), (2, p2), (3, pr), (4, pw_11), (5, ph_11)]) [b_11 f, b1, b2, w_11, h_11 (half_11 f)] := by
  refine loop_rounds hm hT (FA2ok_11 f) 89 8 (fun o => [(0, p00), (2, p2), (3, pr), (4, pw_11), (5, ph_11), (17, AI (o : Nat))]) (fun o => [b_11 f, b1, b2, w_11, h_11 (HA_11 f o 0 0)]) (.exit 0) _ _ (fun h => by cases h) (fun o ho => ?_) ?_ 0 (by omega)
  · refine ⟨3000, [.b true, .l 2], of_run (rA1_11 f p2 pr o b1 b2 _) ⟨lt8 o ho, rfl, ⟨rfl, rfl, rfl, rfl, rfl, rfl, rfl, ⟨by omega, by omega⟩, rfl⟩, rfl, rfl, ?_, ?_⟩⟩
    · exact ⟨rfl, sameV.refl _, sameV.refl _, rfl, rfl, congrArg (Value.int .i64) (next_eq o ho), trivial⟩
    · exact ⟨.refl _, .refl _, .refl _, .refl _, sy_le fun j _ => by rw [HA_row_11], trivial⟩
  · refine ⟨3000, [.b false], of_run (eA1_11 f _ p2 pr ((8 : Nat) : Int) b1 b2 _) ⟨not8, rfl, rfl, ⟨rfl, sameV.refl _, sameV.refl _, rfl, rfl, trivial⟩, ⟨.refl _, .refl _, .refl _, .refl _, sy_le fun j hj => ?_, trivial⟩⟩⟩
    unfold HA_11 half_11
    rw [if_pos (by omega)]
end Go.Proofs.YtcfbhlpmhlmekaaDoor
