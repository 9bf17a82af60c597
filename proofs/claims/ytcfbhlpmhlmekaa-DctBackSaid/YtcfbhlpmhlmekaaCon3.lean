/-
  What is proved here: contracts of the reference's Forward and Inverse. A text to be imported.
-/
import Derived.Test.YtcfbhlpmhlmekaaCon1
import Derived.Test.YtcfbhlpmhlmekaaSimS
namespace Go.Proofs.Ytcfbhlpmhlmekaa
open Sm Go Go.RowKit
set_option maxRecDepth 1000000
abbrev AI (x : Int) : AV := .one (.sc (.int .i64 x) false)
def p00 : AV := .one (.ptr 0 0)
def p20 : AV := .one (.ptr 2 0)
def ix (i j : Int) : Int := W (W (8 * i) + j)
theorem ix_eq {i j : Int} (h1 : 0 ≤ i) (h2 : i < 8) (h3 : 0 ≤ j) (h4 : j < 8) : ix i j = 8 * i + j := by
  unfold ix
  rw [show W (8 * i) = 8 * i from w64 (by omega) (by omega), show W (8 * i + j) = 8 * i + j from w64 (by omega) (by omega)]
theorem next_eq (i : Nat) (h : i < 8) : W ((i : Int) + 1) = ((i + 1 : Nat) : Int) := by
  rw [show W ((i : Int) + 1) = (i : Int) + 1 from w64 (by omega) (by omega)]; rfl
theorem lt8 (i : Nat) (h : i < 8) : decide ((i : Int) < 8) = true := decide_eq_true (by omega)
theorem not8 : decide (((8 : Nat) : Int) < 8) = false := by decide
def v64 (k : IntKind) (f : Nat → Int) : Value := .agg ((List.range 64).map fun i => Value.int k (f i)).toArray
noncomputable def L14_1 : Code := pathC (bodyC Try.f14) [0]
noncomputable def L14_2 : Code := pathC (bodyC Try.f14) [0, 0]
noncomputable def L14_3 : Code := pathC (bodyC Try.f14) [0, 0, 0]
noncomputable def L14_4 : Code := pathC (bodyC Try.f14) [0, 0, 0, 0]
def b_14 (f : Nat → Int) : Blk := { body := syI .i32 64 f, elem := 26, live := true, ro := false }
def o_14 (h : Nat → Int) : Blk := { body := syI .u8 64 h, elem := 31, live := true, ro := false }
def tm_14 (f : Nat → Int) (a b i j : Int) : Int := W (W (weightI j b * weightI i a) * nearI (W (f (0 + (ix i j).toNat))) (-32767) 32767)
def in4_14 (f : Nat → Int) (a b i : Int) : Nat → Int → Int
  | 0, s => s
  | j + 1, s => W (in4_14 f a b i j s + tm_14 f a b i (j : Nat))
def in3_14 (f : Nat → Int) (a b : Int) : Nat → Int
  | 0 => 549755813888
  | i + 1 => in4_14 f a b (i : Nat) 8 (in3_14 f a b i)
def out_14 (f : Nat → Int) (a b : Int) : Int := IntKind.u8.wrap (nearI (W (downI (in3_14 f a b 8) + 128)) 0 255)
-- the innermost loop
def l4_14 (p2 p3 : AV) (a b s i j : Int) : List (Nat × AV) := [(1, p00), (2, p2), (3, p3), (4, AI a), (5, AI b), (6, AI s), (7, AI i), (8, AI j)]
theorem r4_14 (f : Nat → Int) (p2 p3 : AV) (a b s i j : Int) (r : List Blk) (X : Ex → Nat → List AV → List Blk → Prop) :
    roundK Try.prog T F1 3000 L14_4 (tmL 54 (l4_14 p2 p3 a b s i j)) (b_14 f :: r) [.b true] [1, 2, 3, 4, 5, 6, 7, 8] X =
    (decide (j < 8) = true ∧ ((0 ≤ ix i j ∧ ix i j < ((64 : Nat) : Int)) ∧ (0 + (ix i j).toNat < 64 ∧ X .normal 54 [p00, p2, p3, AI a, AI b, AI (W (s + tm_14 f a b i j)), AI i, AI (W (j + 1))] (b_14 f :: r)))) := by kernel_rfl
theorem e4_14 (f : Nat → Int) (p2 p3 : AV) (a b s i j : Int) (r : List Blk) (X : Ex → Nat → List AV → List Blk → Prop) :
    roundK Try.prog T F1 3000 L14_4 (tmL 54 (l4_14 p2 p3 a b s i j)) (b_14 f :: r) [.b false] [1, 2, 3, 4, 5, 6, 7] X =
    (decide (j < 8) = false ∧ (X (.exit 6) 54 [p00, p2, p3, AI a, AI b, AI s, AI i] (b_14 f :: r))) := by kernel_rfl
theorem loop4_14 (f : Nat → Int) (p2 p3 : AV) (a b s i : Int) (h1 : 0 ≤ i) (h2 : i < 8) (r : List Blk) :
    LoopOk Try.prog L14_4 (tmL 54 (l4_14 p2 p3 a b s i 0)) (b_14 f :: r) (.exit 6) (tmL 54 [(1, p00), (2, p2), (3, p3), (4, AI a), (5, AI b), (6, AI (in4_14 f a b i 8 s)), (7, AI i)]) (b_14 f :: r) := by
  refine loop_rounds hm hT F1ok 54 8 (fun j => l4_14 p2 p3 a b (in4_14 f a b i j s) i (j : Nat)) (fun _ => b_14 f :: r) (.exit 6) _ _ (fun h => by cases h) (fun j hj => ?_) ?_ 0 (by omega)
  · have e := ix_eq h1 h2 (show (0 : Int) ≤ (j : Nat) by omega) (by omega)
    refine ⟨3000, [.b true], of_run (r4_14 f p2 p3 a b _ i (j : Nat) r _) ⟨lt8 j hj, by rw [e]; omega, by rw [e]; omega, rfl, rfl, ?_, HpLe.refl _⟩⟩
    exact ⟨rfl, sameV.refl _, sameV.refl _, rfl, rfl, rfl, rfl, congrArg (Value.int .i64) (next_eq j hj), trivial⟩
  · exact ⟨3000, [.b false], of_run (e4_14 f p2 p3 a b _ i ((8 : Nat) : Int) r _) ⟨not8, rfl, rfl, ⟨rfl, sameV.refl _, sameV.refl _, rfl, rfl, rfl, rfl, trivial⟩, HpLe.refl _⟩⟩
def c4_14 (f : Nat → Int) (tm : Tm) (hp : List Blk) : Option (Prop × Ex × Tm × List Blk) :=
  match getT tm 4, getT tm 5, getT tm 6, getT tm 7 with
  | .one (.sc (.int .i64 a) _), .one (.sc (.int .i64 b) _), .one (.sc (.int .i64 s) _), .one (.sc (.int .i64 i) _) =>
    some ((tm.n = 54 ∧ getT tm 1 = p00 ∧ getT tm 8 = li 0 ∧ hp = b_14 f :: hp.tail ∧ 0 ≤ i ∧ i < 8), .exit 6, tmL 54 [(1, p00), (2, getT tm 2), (3, getT tm 3), (4, AI a), (5, AI b), (6, AI (in4_14 f a b i 8 s)), (7, AI i)], hp)
  | _, _, _, _ => none
noncomputable def F4_14 (f : Nat → Int) : Fns := F1.addLoop 4 L14_4 (c4_14 f)
theorem F4ok_14 (f : Nat → Int) : FnsOk Try.prog (F4_14 f) := by
  refine F1ok.addLoop 4 _ _ fun tm hp p x tm' hp' hg hp1 => ?_
  unfold c4_14 at hg
  split at hg
  · rename_i a s1 b s2 s s3 i s4 g4 g5 g6 g7
    simp only [Option.some.injEq, Prod.mk.injEq] at hg
    obtain ⟨rfl, rfl, rfl, rfl⟩ := hg
    obtain ⟨hn, h1, h8, hh, hi1, hi2⟩ := hp1
    have hl := loop4_14 f (getT tm 2) (getT tm 3) a b s i hi1 hi2 hp.tail
    rw [← hh] at hl
    refine hl.weak (Weak.of hn ⟨by rw [h1]; rfl, sameV.refl _, sameV.refl _, by rw [g4]; rfl, by rw [g5]; rfl, by rw [g6]; rfl, by rw [g7]; rfl, by rw [h8]; rfl, trivial⟩ (HpLe.refl _)) (Weak.refl _ _)
  · cases hg
-- the loop round it
def l3_14 (p2 p3 : AV) (a b s i : Int) : List (Nat × AV) := [(1, p00), (2, p2), (3, p3), (4, AI a), (5, AI b), (6, AI s), (7, AI i)]
theorem r3_14 (f : Nat → Int) (p2 p3 : AV) (a b s i : Int) (r : List Blk) (X : Ex → Nat → List AV → List Blk → Prop) :
    roundK Try.prog T (F4_14 f) 3000 L14_3 (tmL 54 (l3_14 p2 p3 a b s i)) (b_14 f :: r) [.b true, .l 4] [1, 2, 3, 4, 5, 6, 7] X =
    (decide (i < 8) = true ∧ (L14_4 = L14_4 ∧ ((54 : Nat) = 54 ∧ p00 = p00 ∧ li 0 = li 0 ∧ b_14 f :: r = b_14 f :: r ∧ 0 ≤ i ∧ i < 8) ∧ X .normal 54 [p00, p2, p3, AI a, AI b, AI (in4_14 f a b i 8 s), AI (W (i + 1))] (b_14 f :: r))) := by kernel_rfl
theorem e3_14 (f : Nat → Int) (p2 p3 : AV) (a b s i : Int) (r : List Blk) (X : Ex → Nat → List AV → List Blk → Prop) :
    roundK Try.prog T (F4_14 f) 3000 L14_3 (tmL 54 (l3_14 p2 p3 a b s i)) (b_14 f :: r) [.b false] [1, 2, 3, 4, 5, 6] X =
    (decide (i < 8) = false ∧ (X (.exit 4) 54 [p00, p2, p3, AI a, AI b, AI s] (b_14 f :: r))) := by kernel_rfl
theorem loop3_14 (f : Nat → Int) (p2 p3 : AV) (a b : Int) (r : List Blk) :
    LoopOk Try.prog L14_3 (tmL 54 (l3_14 p2 p3 a b 549755813888 0)) (b_14 f :: r) (.exit 4) (tmL 54 [(1, p00), (2, p2), (3, p3), (4, AI a), (5, AI b), (6, AI (in3_14 f a b 8))]) (b_14 f :: r) := by
  refine loop_rounds hm hT (F4ok_14 f) 54 8 (fun i => l3_14 p2 p3 a b (in3_14 f a b i) (i : Nat)) (fun _ => b_14 f :: r) (.exit 4) _ _ (fun h => by cases h) (fun i hi => ?_) ?_ 0 (by omega)
  · refine ⟨3000, [.b true, .l 4], of_run (r3_14 f p2 p3 a b _ (i : Nat) r _) ⟨lt8 i hi, rfl, ⟨rfl, rfl, rfl, rfl, by omega, by omega⟩, rfl, rfl, ?_, HpLe.refl _⟩⟩
    exact ⟨rfl, sameV.refl _, sameV.refl _, rfl, rfl, rfl, congrArg (Value.int .i64) (next_eq i hi), trivial⟩
  · exact ⟨3000, [.b false], of_run (e3_14 f p2 p3 a b _ ((8 : Nat) : Int) r _) ⟨not8, rfl, rfl, ⟨rfl, sameV.refl _, sameV.refl _, rfl, rfl, rfl, trivial⟩, HpLe.refl _⟩⟩
def c3_14 (f : Nat → Int) (tm : Tm) (hp : List Blk) : Option (Prop × Ex × Tm × List Blk) :=
  match getT tm 4, getT tm 5 with
  | .one (.sc (.int .i64 a) _), .one (.sc (.int .i64 b) _) =>
    some ((tm.n = 54 ∧ getT tm 1 = p00 ∧ getT tm 6 = li 549755813888 ∧ getT tm 7 = li 0 ∧ hp = b_14 f :: hp.tail), .exit 4, tmL 54 [(1, p00), (2, getT tm 2), (3, getT tm 3), (4, AI a), (5, AI b), (6, AI (in3_14 f a b 8))], hp)
  | _, _ => none
noncomputable def F3_14 (f : Nat → Int) : Fns := F1.addLoop 3 L14_3 (c3_14 f)
theorem F3ok_14 (f : Nat → Int) : FnsOk Try.prog (F3_14 f) := by
  refine F1ok.addLoop 3 _ _ fun tm hp p x tm' hp' hg hp1 => ?_
  unfold c3_14 at hg
  split at hg
  · rename_i a s1 b s2 g4 g5
    simp only [Option.some.injEq, Prod.mk.injEq] at hg
    obtain ⟨rfl, rfl, rfl, rfl⟩ := hg
    obtain ⟨hn, h1, h6, h7, hh⟩ := hp1
    have hl := loop3_14 f (getT tm 2) (getT tm 3) a b hp.tail
    rw [← hh] at hl
    refine hl.weak (Weak.of hn ⟨by rw [h1]; rfl, sameV.refl _, sameV.refl _, by rw [g4]; rfl, by rw [g5]; rfl, by rw [h6]; rfl, by rw [h7]; rfl, trivial⟩ (HpLe.refl _)) (Weak.refl _ _)
  · cases hg
-- the loop that stores
def l2_14 (p2 : AV) (a b : Int) : List (Nat × AV) := [(1, p00), (2, p2), (3, p20), (4, AI a), (5, AI b)]
def oU_14 (f h : Nat → Int) (a b : Int) : Blk := { body := .sy 64 (updG (fun j => .sc (.int .u8 (h j)) false) (0 + (ix a b).toNat) (.sc (.int .u8 (out_14 f a b)) false)), elem := 31, live := true, ro := false }
theorem r2_14 (f h : Nat → Int) (p2 : AV) (a b : Int) (b1 : Blk) (X : Ex → Nat → List AV → List Blk → Prop) :
    roundK Try.prog T (F3_14 f) 3000 L14_2 (tmL 54 (l2_14 p2 a b)) [b_14 f, b1, o_14 h] [.b true, .l 3] [1, 2, 3, 4, 5] X =
    (decide (b < 8) = true ∧ (L14_3 = L14_3 ∧ ((54 : Nat) = 54 ∧ p00 = p00 ∧ li 549755813888 = li 549755813888 ∧ li 0 = li 0 ∧ [b_14 f, b1, o_14 h] = [b_14 f, b1, o_14 h]) ∧
      ((0 ≤ ix a b ∧ ix a b < ((64 : Nat) : Int)) ∧ (0 + (ix a b).toNat < 64 ∧ X .normal 54 [p00, p2, p20, AI a, AI (W (b + 1))] [b_14 f, b1, oU_14 f h a b])))) := by kernel_rfl
theorem e2_14 (f h : Nat → Int) (p2 : AV) (a b : Int) (b1 : Blk) (X : Ex → Nat → List AV → List Blk → Prop) :
    roundK Try.prog T (F3_14 f) 3000 L14_2 (tmL 54 (l2_14 p2 a b)) [b_14 f, b1, o_14 h] [.b false] [1, 2, 3, 4] X =
    (decide (b < 8) = false ∧ (X (.exit 2) 54 [p00, p2, p20, AI a] [b_14 f, b1, o_14 h])) := by kernel_rfl
/-- What is stored up to row a, column b. -/
def H_14 (f : Nat → Int) (a b : Nat) (j : Nat) : Int := if j < 8 * a + b then out_14 f (j / 8 : Nat) (j % 8 : Nat) else 0
theorem oU_le_14 (f : Nat → Int) (a b : Nat) (ha : a < 8) (hb : b < 8) : BlkLe (oU_14 f (H_14 f a b) (a : Nat) (b : Nat)) (o_14 (H_14 f a (b + 1))) := by
  refine sy_le fun j hj => ?_
  rw [updG_int, ix_eq (by omega) (by omega) (by omega) (by omega), show 0 + ((8 * (a : Int) + (b : Int)).toNat) = 8 * a + b from by omega]
  congr 2
  unfold H_14
  by_cases h1 : j = 8 * a + b
  · subst h1
    rw [if_pos rfl, if_pos (by omega), show (8 * a + b) / 8 = a from by omega, show (8 * a + b) % 8 = b from by omega]
  · rw [if_neg h1]
    by_cases h2 : j < 8 * a + b
    · rw [if_pos h2, if_pos (by omega)]
    · rw [if_neg h2, if_neg (by omega)]
theorem loop2_14 (f : Nat → Int) (p2 : AV) (a : Nat) (ha : a < 8) (b1 : Blk) :
    LoopOk Try.prog L14_2 (tmL 54 (l2_14 p2 (a : Nat) 0)) [b_14 f, b1, o_14 (H_14 f a 0)] (.exit 2) (tmL 54 [(1, p00), (2, p2), (3, p20), (4, AI (a : Nat))]) [b_14 f, b1, o_14 (H_14 f a 8)] := by
  refine loop_rounds hm hT (F3ok_14 f) 54 8 (fun b => l2_14 p2 (a : Nat) (b : Nat)) (fun b => [b_14 f, b1, o_14 (H_14 f a b)]) (.exit 2) _ _ (fun h => by cases h) (fun b hb => ?_) ?_ 0 (by omega)
  · have e := ix_eq (show (0 : Int) ≤ (a : Nat) by omega) (by omega) (show (0 : Int) ≤ (b : Nat) by omega) (by omega)
    refine ⟨3000, [.b true, .l 3], of_run (r2_14 f _ p2 (a : Nat) (b : Nat) b1 _) ⟨lt8 b hb, rfl, ⟨rfl, rfl, rfl, rfl, rfl⟩, by rw [e]; omega, by rw [e]; omega, rfl, rfl, ?_, ?_⟩⟩
    · exact ⟨rfl, sameV.refl _, rfl, rfl, congrArg (Value.int .i64) (next_eq b hb), trivial⟩
    · exact ⟨.refl _, .refl _, oU_le_14 f a b ha hb, trivial⟩
  · exact ⟨3000, [.b false], of_run (e2_14 f _ p2 (a : Nat) ((8 : Nat) : Int) b1 _) ⟨not8, rfl, rfl, ⟨rfl, sameV.refl _, rfl, rfl, trivial⟩, HpLe.refl _⟩⟩
def c2_14 (f : Nat → Int) (tm : Tm) (hp : List Blk) : Option (Prop × Ex × Tm × List Blk) :=
  match getT tm 4, hp with
  | .one (.sc (.int .i64 a) _), [x, b1, y] =>
    some ((tm.n = 54 ∧ getT tm 1 = p00 ∧ getT tm 3 = p20 ∧ getT tm 5 = li 0 ∧ (0 ≤ a ∧ a < 8) ∧ [x, y] = [b_14 f, o_14 (H_14 f a.toNat 0)]), .exit 2, tmL 54 [(1, p00), (2, getT tm 2), (3, p20), (4, AI a)], [b_14 f, b1, o_14 (H_14 f a.toNat 8)])
  | _, _ => none
noncomputable def F2_14 (f : Nat → Int) : Fns := F1.addLoop 2 L14_2 (c2_14 f)
theorem F2ok_14 (f : Nat → Int) : FnsOk Try.prog (F2_14 f) := by
  refine F1ok.addLoop 2 _ _ fun tm hp p x tm' hp' hg hp1 => ?_
  unfold c2_14 at hg
  split at hg
  · rename_i a s1 x b1 y g4
    simp only [Option.some.injEq, Prod.mk.injEq] at hg
    obtain ⟨rfl, rfl, rfl, rfl⟩ := hg
    obtain ⟨hn, h1, h3, h5, ⟨ha1, ha2⟩, hh⟩ := hp1
    simp only [List.cons.injEq, and_true] at hh
    obtain ⟨rfl, rfl⟩ := hh
    obtain ⟨m, rfl⟩ := Int.eq_ofNat_of_zero_le ha1
    refine (loop2_14 f (getT tm 2) m (by omega) b1).weak (Weak.of hn ⟨by rw [h1]; rfl, sameV.refl _, by rw [h3]; rfl, by rw [g4]; rfl, by rw [h5]; rfl, trivial⟩ (HpLe.refl _)) (Weak.refl _ _)
  · cases hg
-- the outermost loop
def l1_14 (p2 : AV) (a : Int) : List (Nat × AV) := [(1, p00), (2, p2), (3, p20), (4, AI a)]
theorem r1_14 (f : Nat → Int) (p2 : AV) (a : Nat) (b1 : Blk) (X : Ex → Nat → List AV → List Blk → Prop) :
    roundK Try.prog T (F2_14 f) 3000 L14_1 (tmL 54 (l1_14 p2 (a : Nat))) [b_14 f, b1, o_14 (H_14 f a 0)] [.b true, .l 2] [1, 2, 3, 4] X =
    (decide ((a : Int) < 8) = true ∧ (L14_2 = L14_2 ∧ ((54 : Nat) = 54 ∧ p00 = p00 ∧ p20 = p20 ∧ li 0 = li 0 ∧ (0 ≤ (a : Int) ∧ (a : Int) < 8) ∧ [b_14 f, o_14 (H_14 f a 0)] = [b_14 f, o_14 (H_14 f a 0)]) ∧
      X .normal 54 [p00, p2, p20, AI (W ((a : Int) + 1))] [b_14 f, b1, o_14 (H_14 f a 8)])) := by kernel_rfl
theorem e1_14 (f h : Nat → Int) (p2 : AV) (a : Int) (b1 : Blk) (X : Ex → Nat → List AV → List Blk → Prop) :
    roundK Try.prog T (F2_14 f) 3000 L14_1 (tmL 54 (l1_14 p2 a)) [b_14 f, b1, o_14 h] [.b false] [1, 2, 3] X =
    (decide (a < 8) = false ∧ (X (.exit 0) 54 [p00, p2, p20] [b_14 f, b1, o_14 h])) := by kernel_rfl
/-- What the reference's function hands back. -/
def res_14 (f : Nat → Int) (j : Nat) : Int := out_14 f (j / 8 : Nat) (j % 8 : Nat)
theorem loop1_14 (f : Nat → Int) (p2 : AV) (b1 : Blk) :
    LoopOk Try.prog L14_1 (tmL 54 (l1_14 p2 0)) [b_14 f, b1, o_14 (H_14 f 0 0)] (.exit 0) (tmL 54 [(1, p00), (2, p2), (3, p20)]) [b_14 f, b1, o_14 (res_14 f)] := by
  refine loop_rounds hm hT (F2ok_14 f) 54 8 (fun a => l1_14 p2 (a : Nat)) (fun a => [b_14 f, b1, o_14 (H_14 f a 0)]) (.exit 0) _ _ (fun h => by cases h) (fun a ha => ?_) ?_ 0 (by omega)
  · refine ⟨3000, [.b true, .l 2], of_run (r1_14 f p2 a b1 _) ⟨lt8 a ha, rfl, ⟨rfl, rfl, rfl, rfl, ⟨by omega, by omega⟩, rfl⟩, rfl, rfl, ?_, ?_⟩⟩
    · exact ⟨rfl, sameV.refl _, rfl, congrArg (Value.int .i64) (next_eq a ha), trivial⟩
    · refine ⟨.refl _, .refl _, sy_le fun j _ => ?_, trivial⟩
      unfold H_14
      rw [show 8 * (a + 1) + 0 = 8 * a + 8 from by omega]
  · refine ⟨3000, [.b false], of_run (e1_14 f _ p2 ((8 : Nat) : Int) b1 _) ⟨not8, rfl, rfl, ⟨rfl, sameV.refl _, rfl, trivial⟩, .refl _, .refl _, sy_le fun j hj => ?_, trivial⟩⟩
    unfold H_14 res_14
    rw [if_pos (by omega)]
def z_14 : Blk := { body := .li (cellsK .u8 true 64 fun _ => 0), elem := 31, live := true, ro := false }
def i_14 (f : Nat → Int) : Blk := { body := .li (cellsK .i32 false 64 f), elem := 26, live := true, ro := false }
def c1_14 (f : Nat → Int) (tm : Tm) (hp : List Blk) : Option (Prop × Ex × Tm × List Blk) :=
  match hp with
  | [x, b1, y] =>
    some ((tm.n = 54 ∧ getT tm 1 = p00 ∧ getT tm 3 = p20 ∧ getT tm 4 = li 0 ∧ [x, y] = [i_14 f, z_14]), .exit 0, tmL 54 [(1, p00), (2, getT tm 2), (3, p20)], [b_14 f, b1, o_14 (res_14 f)])
  | _ => none
noncomputable def FR_14 (f : Nat → Int) : Fns := F1.addLoop 1 L14_1 (c1_14 f)
theorem FRok_14 (f : Nat → Int) : FnsOk Try.prog (FR_14 f) := by
  refine F1ok.addLoop 1 _ _ fun tm hp p x tm' hp' hg hp1 => ?_
  unfold c1_14 at hg
  split at hg
  · rename_i x b1 y
    simp only [Option.some.injEq, Prod.mk.injEq] at hg
    obtain ⟨rfl, rfl, rfl, rfl⟩ := hg
    obtain ⟨hn, h1, h3, h4, hh⟩ := hp1
    simp only [List.cons.injEq, and_true] at hh
    obtain ⟨rfl, rfl⟩ := hh
    refine (loop1_14 f (getT tm 2) b1).weak (Weak.of hn ⟨by rw [h1]; rfl, sameV.refl _, by rw [h3]; rfl, by rw [h4]; rfl, trivial⟩ ⟨li_le, .refl _, ?_, trivial⟩) (Weak.refl _ _)
    have hz : BlkLe z_14 { body := syI .u8 64 fun _ => 0, elem := 31, live := true, ro := false } := li_le
    refine ⟨rfl, rfl, rfl, fun E vs hr => ?_⟩
    have := hz.2.2.2 E vs hr
    exact this
  · cases hg
theorem runR_14 (f : Nat → Int) (u : Value) : runK Try.prog T (FR_14 f) 3000 Try.f14 [.agg (cellsK .i32 false 64 f)] [] [.l 1] (fun r _ => resW r = some u) =
    (L14_1 = L14_1 ∧ ((54 : Nat) = 54 ∧ p00 = p00 ∧ p20 = p20 ∧ li 0 = li 0 ∧ [i_14 f, z_14] = [i_14 f, z_14]) ∧ (0 + 64 ≤ 64 ∧ some (v64 .u8 (res_14 f)) = some u)) := by kernel_rfl
def GR_14 : List ArgV → Option Value
  | [.val (.agg cs)] => intsK .i32 cs.toList (vecN 64 fun s => some (v64 .u8 (res_14 s)))
  | _ => none
theorem canon14 (s : Nat → Int) : canon2 [] [.val (.agg (valsK .i32 64 s).toArray)] 0 = some ([.agg (cellsK .i32 false 64 s)], []) := by kernel_rfl
theorem con14 : Con Try.prog 14 GR_14 := by
  refine con_of_each hm hT Try.func14 Try.call14 fun avs u h => ?_
  unfold GR_14 at h
  split at h
  · rename_i cs
    obtain ⟨b, rfl, h2⟩ := arrA_spec h
    simp only [Option.some.injEq] at h2; subst h2
    exact ⟨FR_14 b, FRok_14 b, [], 3000, [.l 1], _, _, canon14 b, of_run (runR_14 b _) ⟨rfl, ⟨rfl, rfl, rfl, rfl, rfl⟩, by omega, rfl⟩⟩
  · cases h
noncomputable def L12_1 : Code := pathC (bodyC Try.f12) [0]
noncomputable def L12_2 : Code := pathC (bodyC Try.f12) [0, 0]
noncomputable def L12_3 : Code := pathC (bodyC Try.f12) [0, 0, 0]
noncomputable def L12_4 : Code := pathC (bodyC Try.f12) [0, 0, 0, 0]
def b_12 (f : Nat → Int) : Blk := { body := syI .i16 64 f, elem := 25, live := true, ro := false }
def o_12 (h : Nat → Int) : Blk := { body := syI .i32 64 h, elem := 26, live := true, ro := false }
def tm_12 (f : Nat → Int) (a b i j : Int) : Int := W (W (weightI b j * weightI a i) * nearI (W (f (0 + (ix i j).toNat))) (-255) 255)
def in4_12 (f : Nat → Int) (a b i : Int) : Nat → Int → Int
  | 0, s => s
  | j + 1, s => W (in4_12 f a b i j s + tm_12 f a b i (j : Nat))
def in3_12 (f : Nat → Int) (a b : Int) : Nat → Int
  | 0 => 549755813888
  | i + 1 => in4_12 f a b (i : Nat) 8 (in3_12 f a b i)
def out_12 (f : Nat → Int) (a b : Int) : Int := IntKind.i32.wrap (downI (in3_12 f a b 8))
-- the innermost loop
def l4_12 (p2 p3 : AV) (a b s i j : Int) : List (Nat × AV) := [(1, p00), (2, p2), (3, p3), (4, AI a), (5, AI b), (6, AI s), (7, AI i), (8, AI j)]
theorem r4_12 (f : Nat → Int) (p2 p3 : AV) (a b s i j : Int) (r : List Blk) (X : Ex → Nat → List AV → List Blk → Prop) :
    roundK Try.prog T F1 3000 L12_4 (tmL 52 (l4_12 p2 p3 a b s i j)) (b_12 f :: r) [.b true] [1, 2, 3, 4, 5, 6, 7, 8] X =
    (decide (j < 8) = true ∧ ((0 ≤ ix i j ∧ ix i j < ((64 : Nat) : Int)) ∧ (0 + (ix i j).toNat < 64 ∧ X .normal 52 [p00, p2, p3, AI a, AI b, AI (W (s + tm_12 f a b i j)), AI i, AI (W (j + 1))] (b_12 f :: r)))) := by kernel_rfl
theorem e4_12 (f : Nat → Int) (p2 p3 : AV) (a b s i j : Int) (r : List Blk) (X : Ex → Nat → List AV → List Blk → Prop) :
    roundK Try.prog T F1 3000 L12_4 (tmL 52 (l4_12 p2 p3 a b s i j)) (b_12 f :: r) [.b false] [1, 2, 3, 4, 5, 6, 7] X =
    (decide (j < 8) = false ∧ (X (.exit 6) 52 [p00, p2, p3, AI a, AI b, AI s, AI i] (b_12 f :: r))) := by kernel_rfl
theorem loop4_12 (f : Nat → Int) (p2 p3 : AV) (a b s i : Int) (h1 : 0 ≤ i) (h2 : i < 8) (r : List Blk) :
    LoopOk Try.prog L12_4 (tmL 52 (l4_12 p2 p3 a b s i 0)) (b_12 f :: r) (.exit 6) (tmL 52 [(1, p00), (2, p2), (3, p3), (4, AI a), (5, AI b), (6, AI (in4_12 f a b i 8 s)), (7, AI i)]) (b_12 f :: r) := by
  refine loop_rounds hm hT F1ok 52 8 (fun j => l4_12 p2 p3 a b (in4_12 f a b i j s) i (j : Nat)) (fun _ => b_12 f :: r) (.exit 6) _ _ (fun h => by cases h) (fun j hj => ?_) ?_ 0 (by omega)
  · have e := ix_eq h1 h2 (show (0 : Int) ≤ (j : Nat) by omega) (by omega)
    refine ⟨3000, [.b true], of_run (r4_12 f p2 p3 a b _ i (j : Nat) r _) ⟨lt8 j hj, by rw [e]; omega, by rw [e]; omega, rfl, rfl, ?_, HpLe.refl _⟩⟩
    exact ⟨rfl, sameV.refl _, sameV.refl _, rfl, rfl, rfl, rfl, congrArg (Value.int .i64) (next_eq j hj), trivial⟩
  · exact ⟨3000, [.b false], of_run (e4_12 f p2 p3 a b _ i ((8 : Nat) : Int) r _) ⟨not8, rfl, rfl, ⟨rfl, sameV.refl _, sameV.refl _, rfl, rfl, rfl, rfl, trivial⟩, HpLe.refl _⟩⟩
def c4_12 (f : Nat → Int) (tm : Tm) (hp : List Blk) : Option (Prop × Ex × Tm × List Blk) :=
  match getT tm 4, getT tm 5, getT tm 6, getT tm 7 with
  | .one (.sc (.int .i64 a) _), .one (.sc (.int .i64 b) _), .one (.sc (.int .i64 s) _), .one (.sc (.int .i64 i) _) =>
    some ((tm.n = 52 ∧ getT tm 1 = p00 ∧ getT tm 8 = li 0 ∧ hp = b_12 f :: hp.tail ∧ 0 ≤ i ∧ i < 8), .exit 6, tmL 52 [(1, p00), (2, getT tm 2), (3, getT tm 3), (4, AI a), (5, AI b), (6, AI (in4_12 f a b i 8 s)), (7, AI i)], hp)
  | _, _, _, _ => none
noncomputable def F4_12 (f : Nat → Int) : Fns := F1.addLoop 4 L12_4 (c4_12 f)
theorem F4ok_12 (f : Nat → Int) : FnsOk Try.prog (F4_12 f) := by
  refine F1ok.addLoop 4 _ _ fun tm hp p x tm' hp' hg hp1 => ?_
  unfold c4_12 at hg
  split at hg
  · rename_i a s1 b s2 s s3 i s4 g4 g5 g6 g7
    simp only [Option.some.injEq, Prod.mk.injEq] at hg
    obtain ⟨rfl, rfl, rfl, rfl⟩ := hg
    obtain ⟨hn, h1, h8, hh, hi1, hi2⟩ := hp1
    have hl := loop4_12 f (getT tm 2) (getT tm 3) a b s i hi1 hi2 hp.tail
    rw [← hh] at hl
    refine hl.weak (Weak.of hn ⟨by rw [h1]; rfl, sameV.refl _, sameV.refl _, by rw [g4]; rfl, by rw [g5]; rfl, by rw [g6]; rfl, by rw [g7]; rfl, by rw [h8]; rfl, trivial⟩ (HpLe.refl _)) (Weak.refl _ _)
  · cases hg
-- the loop round it
def l3_12 (p2 p3 : AV) (a b s i : Int) : List (Nat × AV) := [(1, p00), (2, p2), (3, p3), (4, AI a), (5, AI b), (6, AI s), (7, AI i)]
theorem r3_12 (f : Nat → Int) (p2 p3 : AV) (a b s i : Int) (r : List Blk) (X : Ex → Nat → List AV → List Blk → Prop) :
    roundK Try.prog T (F4_12 f) 3000 L12_3 (tmL 52 (l3_12 p2 p3 a b s i)) (b_12 f :: r) [.b true, .l 4] [1, 2, 3, 4, 5, 6, 7] X =
    (decide (i < 8) = true ∧ (L12_4 = L12_4 ∧ ((52 : Nat) = 52 ∧ p00 = p00 ∧ li 0 = li 0 ∧ b_12 f :: r = b_12 f :: r ∧ 0 ≤ i ∧ i < 8) ∧ X .normal 52 [p00, p2, p3, AI a, AI b, AI (in4_12 f a b i 8 s), AI (W (i + 1))] (b_12 f :: r))) := by kernel_rfl
theorem e3_12 (f : Nat → Int) (p2 p3 : AV) (a b s i : Int) (r : List Blk) (X : Ex → Nat → List AV → List Blk → Prop) :
    roundK Try.prog T (F4_12 f) 3000 L12_3 (tmL 52 (l3_12 p2 p3 a b s i)) (b_12 f :: r) [.b false] [1, 2, 3, 4, 5, 6] X =
    (decide (i < 8) = false ∧ (X (.exit 4) 52 [p00, p2, p3, AI a, AI b, AI s] (b_12 f :: r))) := by kernel_rfl
theorem loop3_12 (f : Nat → Int) (p2 p3 : AV) (a b : Int) (r : List Blk) :
    LoopOk Try.prog L12_3 (tmL 52 (l3_12 p2 p3 a b 549755813888 0)) (b_12 f :: r) (.exit 4) (tmL 52 [(1, p00), (2, p2), (3, p3), (4, AI a), (5, AI b), (6, AI (in3_12 f a b 8))]) (b_12 f :: r) := by
  refine loop_rounds hm hT (F4ok_12 f) 52 8 (fun i => l3_12 p2 p3 a b (in3_12 f a b i) (i : Nat)) (fun _ => b_12 f :: r) (.exit 4) _ _ (fun h => by cases h) (fun i hi => ?_) ?_ 0 (by omega)
  · refine ⟨3000, [.b true, .l 4], of_run (r3_12 f p2 p3 a b _ (i : Nat) r _) ⟨lt8 i hi, rfl, ⟨rfl, rfl, rfl, rfl, by omega, by omega⟩, rfl, rfl, ?_, HpLe.refl _⟩⟩
    exact ⟨rfl, sameV.refl _, sameV.refl _, rfl, rfl, rfl, congrArg (Value.int .i64) (next_eq i hi), trivial⟩
  · exact ⟨3000, [.b false], of_run (e3_12 f p2 p3 a b _ ((8 : Nat) : Int) r _) ⟨not8, rfl, rfl, ⟨rfl, sameV.refl _, sameV.refl _, rfl, rfl, rfl, trivial⟩, HpLe.refl _⟩⟩
def c3_12 (f : Nat → Int) (tm : Tm) (hp : List Blk) : Option (Prop × Ex × Tm × List Blk) :=
  match getT tm 4, getT tm 5 with
  | .one (.sc (.int .i64 a) _), .one (.sc (.int .i64 b) _) =>
    some ((tm.n = 52 ∧ getT tm 1 = p00 ∧ getT tm 6 = li 549755813888 ∧ getT tm 7 = li 0 ∧ hp = b_12 f :: hp.tail), .exit 4, tmL 52 [(1, p00), (2, getT tm 2), (3, getT tm 3), (4, AI a), (5, AI b), (6, AI (in3_12 f a b 8))], hp)
  | _, _ => none
noncomputable def F3_12 (f : Nat → Int) : Fns := F1.addLoop 3 L12_3 (c3_12 f)
theorem F3ok_12 (f : Nat → Int) : FnsOk Try.prog (F3_12 f) := by
  refine F1ok.addLoop 3 _ _ fun tm hp p x tm' hp' hg hp1 => ?_
  unfold c3_12 at hg
  split at hg
  · rename_i a s1 b s2 g4 g5
    simp only [Option.some.injEq, Prod.mk.injEq] at hg
    obtain ⟨rfl, rfl, rfl, rfl⟩ := hg
    obtain ⟨hn, h1, h6, h7, hh⟩ := hp1
    have hl := loop3_12 f (getT tm 2) (getT tm 3) a b hp.tail
    rw [← hh] at hl
    refine hl.weak (Weak.of hn ⟨by rw [h1]; rfl, sameV.refl _, sameV.refl _, by rw [g4]; rfl, by rw [g5]; rfl, by rw [h6]; rfl, by rw [h7]; rfl, trivial⟩ (HpLe.refl _)) (Weak.refl _ _)
  · cases hg
-- the loop that stores
def l2_12 (p2 : AV) (a b : Int) : List (Nat × AV) := [(1, p00), (2, p2), (3, p20), (4, AI a), (5, AI b)]
def oU_12 (f h : Nat → Int) (a b : Int) : Blk := { body := .sy 64 (updG (fun j => .sc (.int .i32 (h j)) false) (0 + (ix a b).toNat) (.sc (.int .i32 (out_12 f a b)) false)), elem := 26, live := true, ro := false }
theorem r2_12 (f h : Nat → Int) (p2 : AV) (a b : Int) (b1 : Blk) (X : Ex → Nat → List AV → List Blk → Prop) :
    roundK Try.prog T (F3_12 f) 3000 L12_2 (tmL 52 (l2_12 p2 a b)) [b_12 f, b1, o_12 h] [.b true, .l 3] [1, 2, 3, 4, 5] X =
    (decide (b < 8) = true ∧ (L12_3 = L12_3 ∧ ((52 : Nat) = 52 ∧ p00 = p00 ∧ li 549755813888 = li 549755813888 ∧ li 0 = li 0 ∧ [b_12 f, b1, o_12 h] = [b_12 f, b1, o_12 h]) ∧
      ((0 ≤ ix a b ∧ ix a b < ((64 : Nat) : Int)) ∧ (0 + (ix a b).toNat < 64 ∧ X .normal 52 [p00, p2, p20, AI a, AI (W (b + 1))] [b_12 f, b1, oU_12 f h a b])))) := by kernel_rfl
theorem e2_12 (f h : Nat → Int) (p2 : AV) (a b : Int) (b1 : Blk) (X : Ex → Nat → List AV → List Blk → Prop) :
    roundK Try.prog T (F3_12 f) 3000 L12_2 (tmL 52 (l2_12 p2 a b)) [b_12 f, b1, o_12 h] [.b false] [1, 2, 3, 4] X =
    (decide (b < 8) = false ∧ (X (.exit 2) 52 [p00, p2, p20, AI a] [b_12 f, b1, o_12 h])) := by kernel_rfl
/-- What is stored up to row a, column b. -/
def H_12 (f : Nat → Int) (a b : Nat) (j : Nat) : Int := if j < 8 * a + b then out_12 f (j / 8 : Nat) (j % 8 : Nat) else 0
theorem oU_le_12 (f : Nat → Int) (a b : Nat) (ha : a < 8) (hb : b < 8) : BlkLe (oU_12 f (H_12 f a b) (a : Nat) (b : Nat)) (o_12 (H_12 f a (b + 1))) := by
  refine sy_le fun j hj => ?_
  rw [updG_int, ix_eq (by omega) (by omega) (by omega) (by omega), show 0 + ((8 * (a : Int) + (b : Int)).toNat) = 8 * a + b from by omega]
  congr 2
  unfold H_12
  by_cases h1 : j = 8 * a + b
  · subst h1
    rw [if_pos rfl, if_pos (by omega), show (8 * a + b) / 8 = a from by omega, show (8 * a + b) % 8 = b from by omega]
  · rw [if_neg h1]
    by_cases h2 : j < 8 * a + b
    · rw [if_pos h2, if_pos (by omega)]
    · rw [if_neg h2, if_neg (by omega)]
theorem loop2_12 (f : Nat → Int) (p2 : AV) (a : Nat) (ha : a < 8) (b1 : Blk) :
    LoopOk Try.prog L12_2 (tmL 52 (l2_12 p2 (a : Nat) 0)) [b_12 f, b1, o_12 (H_12 f a 0)] (.exit 2) (tmL 52 [(1, p00), (2, p2), (3, p20), (4, AI (a : Nat))]) [b_12 f, b1, o_12 (H_12 f a 8)] := by
  refine loop_rounds hm hT (F3ok_12 f) 52 8 (fun b => l2_12 p2 (a : Nat) (b : Nat)) (fun b => [b_12 f, b1, o_12 (H_12 f a b)]) (.exit 2) _ _ (fun h => by cases h) (fun b hb => ?_) ?_ 0 (by omega)
  · have e := ix_eq (show (0 : Int) ≤ (a : Nat) by omega) (by omega) (show (0 : Int) ≤ (b : Nat) by omega) (by omega)
    refine ⟨3000, [.b true, .l 3], of_run (r2_12 f _ p2 (a : Nat) (b : Nat) b1 _) ⟨lt8 b hb, rfl, ⟨rfl, rfl, rfl, rfl, rfl⟩, by rw [e]; omega, by rw [e]; omega, rfl, rfl, ?_, ?_⟩⟩
    · exact ⟨rfl, sameV.refl _, rfl, rfl, congrArg (Value.int .i64) (next_eq b hb), trivial⟩
    · exact ⟨.refl _, .refl _, oU_le_12 f a b ha hb, trivial⟩
  · exact ⟨3000, [.b false], of_run (e2_12 f _ p2 (a : Nat) ((8 : Nat) : Int) b1 _) ⟨not8, rfl, rfl, ⟨rfl, sameV.refl _, rfl, rfl, trivial⟩, HpLe.refl _⟩⟩
def c2_12 (f : Nat → Int) (tm : Tm) (hp : List Blk) : Option (Prop × Ex × Tm × List Blk) :=
  match getT tm 4, hp with
  | .one (.sc (.int .i64 a) _), [x, b1, y] =>
    some ((tm.n = 52 ∧ getT tm 1 = p00 ∧ getT tm 3 = p20 ∧ getT tm 5 = li 0 ∧ (0 ≤ a ∧ a < 8) ∧ [x, y] = [b_12 f, o_12 (H_12 f a.toNat 0)]), .exit 2, tmL 52 [(1, p00), (2, getT tm 2), (3, p20), (4, AI a)], [b_12 f, b1, o_12 (H_12 f a.toNat 8)])
  | _, _ => none
noncomputable def F2_12 (f : Nat → Int) : Fns := F1.addLoop 2 L12_2 (c2_12 f)
theorem F2ok_12 (f : Nat → Int) : FnsOk Try.prog (F2_12 f) := by
  refine F1ok.addLoop 2 _ _ fun tm hp p x tm' hp' hg hp1 => ?_
  unfold c2_12 at hg
  split at hg
  · rename_i a s1 x b1 y g4
    simp only [Option.some.injEq, Prod.mk.injEq] at hg
    obtain ⟨rfl, rfl, rfl, rfl⟩ := hg
    obtain ⟨hn, h1, h3, h5, ⟨ha1, ha2⟩, hh⟩ := hp1
    simp only [List.cons.injEq, and_true] at hh
    obtain ⟨rfl, rfl⟩ := hh
    obtain ⟨m, rfl⟩ := Int.eq_ofNat_of_zero_le ha1
    refine (loop2_12 f (getT tm 2) m (by omega) b1).weak (Weak.of hn ⟨by rw [h1]; rfl, sameV.refl _, by rw [h3]; rfl, by rw [g4]; rfl, by rw [h5]; rfl, trivial⟩ (HpLe.refl _)) (Weak.refl _ _)
  · cases hg
-- the outermost loop
def l1_12 (p2 : AV) (a : Int) : List (Nat × AV) := [(1, p00), (2, p2), (3, p20), (4, AI a)]
theorem r1_12 (f : Nat → Int) (p2 : AV) (a : Nat) (b1 : Blk) (X : Ex → Nat → List AV → List Blk → Prop) :
    roundK Try.prog T (F2_12 f) 3000 L12_1 (tmL 52 (l1_12 p2 (a : Nat))) [b_12 f, b1, o_12 (H_12 f a 0)] [.b true, .l 2] [1, 2, 3, 4] X =
    (decide ((a : Int) < 8) = true ∧ (L12_2 = L12_2 ∧ ((52 : Nat) = 52 ∧ p00 = p00 ∧ p20 = p20 ∧ li 0 = li 0 ∧ (0 ≤ (a : Int) ∧ (a : Int) < 8) ∧ [b_12 f, o_12 (H_12 f a 0)] = [b_12 f, o_12 (H_12 f a 0)]) ∧
      X .normal 52 [p00, p2, p20, AI (W ((a : Int) + 1))] [b_12 f, b1, o_12 (H_12 f a 8)])) := by kernel_rfl
theorem e1_12 (f h : Nat → Int) (p2 : AV) (a : Int) (b1 : Blk) (X : Ex → Nat → List AV → List Blk → Prop) :
    roundK Try.prog T (F2_12 f) 3000 L12_1 (tmL 52 (l1_12 p2 a)) [b_12 f, b1, o_12 h] [.b false] [1, 2, 3] X =
    (decide (a < 8) = false ∧ (X (.exit 0) 52 [p00, p2, p20] [b_12 f, b1, o_12 h])) := by kernel_rfl
/-- What the reference's function hands back. -/
def res_12 (f : Nat → Int) (j : Nat) : Int := out_12 f (j / 8 : Nat) (j % 8 : Nat)
theorem loop1_12 (f : Nat → Int) (p2 : AV) (b1 : Blk) :
    LoopOk Try.prog L12_1 (tmL 52 (l1_12 p2 0)) [b_12 f, b1, o_12 (H_12 f 0 0)] (.exit 0) (tmL 52 [(1, p00), (2, p2), (3, p20)]) [b_12 f, b1, o_12 (res_12 f)] := by
  refine loop_rounds hm hT (F2ok_12 f) 52 8 (fun a => l1_12 p2 (a : Nat)) (fun a => [b_12 f, b1, o_12 (H_12 f a 0)]) (.exit 0) _ _ (fun h => by cases h) (fun a ha => ?_) ?_ 0 (by omega)
  · refine ⟨3000, [.b true, .l 2], of_run (r1_12 f p2 a b1 _) ⟨lt8 a ha, rfl, ⟨rfl, rfl, rfl, rfl, ⟨by omega, by omega⟩, rfl⟩, rfl, rfl, ?_, ?_⟩⟩
    · exact ⟨rfl, sameV.refl _, rfl, congrArg (Value.int .i64) (next_eq a ha), trivial⟩
    · refine ⟨.refl _, .refl _, sy_le fun j _ => ?_, trivial⟩
      unfold H_12
      rw [show 8 * (a + 1) + 0 = 8 * a + 8 from by omega]
  · refine ⟨3000, [.b false], of_run (e1_12 f _ p2 ((8 : Nat) : Int) b1 _) ⟨not8, rfl, rfl, ⟨rfl, sameV.refl _, rfl, trivial⟩, .refl _, .refl _, sy_le fun j hj => ?_, trivial⟩⟩
    unfold H_12 res_12
    rw [if_pos (by omega)]
def z_12 : Blk := { body := .li (cellsK .i32 true 64 fun _ => 0), elem := 26, live := true, ro := false }
def i_12 (f : Nat → Int) : Blk := { body := .li (cellsK .i16 false 64 f), elem := 25, live := true, ro := false }
def c1_12 (f : Nat → Int) (tm : Tm) (hp : List Blk) : Option (Prop × Ex × Tm × List Blk) :=
  match hp with
  | [x, b1, y] =>
    some ((tm.n = 52 ∧ getT tm 1 = p00 ∧ getT tm 3 = p20 ∧ getT tm 4 = li 0 ∧ [x, y] = [i_12 f, z_12]), .exit 0, tmL 52 [(1, p00), (2, getT tm 2), (3, p20)], [b_12 f, b1, o_12 (res_12 f)])
  | _ => none
noncomputable def FR_12 (f : Nat → Int) : Fns := F1.addLoop 1 L12_1 (c1_12 f)
theorem FRok_12 (f : Nat → Int) : FnsOk Try.prog (FR_12 f) := by
  refine F1ok.addLoop 1 _ _ fun tm hp p x tm' hp' hg hp1 => ?_
  unfold c1_12 at hg
  split at hg
  · rename_i x b1 y
    simp only [Option.some.injEq, Prod.mk.injEq] at hg
    obtain ⟨rfl, rfl, rfl, rfl⟩ := hg
    obtain ⟨hn, h1, h3, h4, hh⟩ := hp1
    simp only [List.cons.injEq, and_true] at hh
    obtain ⟨rfl, rfl⟩ := hh
    refine (loop1_12 f (getT tm 2) b1).weak (Weak.of hn ⟨by rw [h1]; rfl, sameV.refl _, by rw [h3]; rfl, by rw [h4]; rfl, trivial⟩ ⟨li_le, .refl _, ?_, trivial⟩) (Weak.refl _ _)
    have hz : BlkLe z_12 { body := syI .i32 64 fun _ => 0, elem := 26, live := true, ro := false } := li_le
    refine ⟨rfl, rfl, rfl, fun E vs hr => ?_⟩
    have := hz.2.2.2 E vs hr
    exact this
  · cases hg
theorem runR_12 (f : Nat → Int) (u : Value) : runK Try.prog T (FR_12 f) 3000 Try.f12 [.agg (cellsK .i16 false 64 f)] [] [.l 1] (fun r _ => resW r = some u) =
    (L12_1 = L12_1 ∧ ((52 : Nat) = 52 ∧ p00 = p00 ∧ p20 = p20 ∧ li 0 = li 0 ∧ [i_12 f, z_12] = [i_12 f, z_12]) ∧ (0 + 64 ≤ 64 ∧ some (v64 .i32 (res_12 f)) = some u)) := by kernel_rfl
def GR_12 : List ArgV → Option Value
  | [.val (.agg cs)] => intsK .i16 cs.toList (vecN 64 fun s => some (v64 .i32 (res_12 s)))
  | _ => none
theorem canon12 (s : Nat → Int) : canon2 [] [.val (.agg (valsK .i16 64 s).toArray)] 0 = some ([.agg (cellsK .i16 false 64 s)], []) := by kernel_rfl
theorem con12 : Con Try.prog 12 GR_12 := by
  refine con_of_each hm hT Try.func12 Try.call12 fun avs u h => ?_
  unfold GR_12 at h
  split at h
  · rename_i cs
    obtain ⟨b, rfl, h2⟩ := arrA_spec h
    simp only [Option.some.injEq] at h2; subst h2
    exact ⟨FR_12 b, FRok_12 b, [], 3000, [.l 1], _, _, canon12 b, of_run (runR_12 b _) ⟨rfl, ⟨rfl, rfl, rfl, rfl, rfl⟩, by omega, rfl⟩⟩
  · cases h
end Go.Proofs.Ytcfbhlpmhlmekaa
