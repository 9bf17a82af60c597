/-
  What is proved here: contracts of the loops of DctNear that make a real sample. A text to be imported.
-/
import Derived.Test.YtcfbhlpmhlmekaaDoorCon9
namespace Go.Proofs.YtcfbhlpmhlmekaaDoor
open Sm Go Go.RowKit
set_option maxRecDepth 1000000
set_option linter.unusedVariables false
def s4N (f : Nat → Int) (y x v : Int) (s : Nat) : Nat → Nat
  | 0 => s
  | n + 1 => fbin .add .f64 (s4N f y x v s n) (tN f y x v (n : Nat))
def ok4N (f : Nat → Int) (y x v : Int) (s : Nat) : Prop := ∀ n : Nat, n < 8 → fok .mul .f64 (wv (n : Nat) x) (wv v y) = true ∧ fok .mul .f64 (wwN y x v (n : Nat)) (i2f (f (0 + (ix v (n : Nat)).toNat))) = true ∧ fok .add .f64 (s4N f y x v s n) (tN f y x v (n : Nat)) = true
def s3N (f : Nat → Int) (y x : Int) : Nat → Nat
  | 0 => 0
  | n + 1 => s4N f y x (n : Nat) (s3N f y x n) 8
def ok3N (f : Nat → Int) (y x : Int) : Prop := ∀ n : Nat, n < 8 → ok4N f y x (n : Nat) (s3N f y x n)
theorem loopN4 (f : Nat → Int) (p5 : AV) (y x : Int) (s : Nat) (v : Int) (hv : 0 ≤ v ∧ v < 8) (hy : 0 ≤ y ∧ y < 8) (hx : 0 ≤ x ∧ x < 8) (hok : ok4N f y x v s) (r : List Blk) :
    LoopOk Tryd.prog LN4 (tmL 74 (lN4 p5 y x s v 0)) (bN f :: r) (.exit 8) (tmL 74 [(1, p00), (3, okV), (5, p5), (6, AI y), (7, AI x), (8, AF (s4N f y x v s 8)), (9, AI v)]) (bN f :: r) := by
  refine loop_rounds hm hT FWok 74 8 (fun n => lN4 p5 y x (s4N f y x v s n) v (n : Nat)) (fun _ => bN f :: r) (.exit 8) _ _ (fun h => by cases h) (fun n hn => ?_) ?_ 0 (by omega)
  · have e := ix_eq hv.1 hv.2 (show (0 : Int) ≤ (n : Nat) by omega) (by omega)
    obtain ⟨o1, o2, o3⟩ := hok n hn
    refine ⟨3000, [.b true], of_run (rN4 f p5 y x _ v (n : Nat) r _) ⟨lt8 n hn, ⟨by omega, by omega, hx.1, hx.2⟩, ⟨hv.1, hv.2, hy.1, hy.2⟩, o1, by rw [e]; omega, by rw [e]; omega, o2, o3, rfl, rfl, ?_, HpLe.refl _⟩⟩
    exact ⟨rfl, rfl, sameV.refl _, rfl, rfl, rfl, rfl, congrArg (Value.int .i64) (next_eq n hn), trivial⟩
  · exact ⟨3000, [.b false], of_run (eN4 f p5 y x _ v ((8 : Nat) : Int) r _) ⟨not8, rfl, rfl, ⟨rfl, rfl, sameV.refl _, rfl, rfl, rfl, rfl, trivial⟩, HpLe.refl _⟩⟩
def lf0 : AV := .one (.sc (.float .f64 0) true)
def cN4 (f : Nat → Int) (tm : Tm) (hp : List Blk) : Option (Prop × Ex × Tm × List Blk) :=
  match getT tm 6, getT tm 7, getT tm 8, getT tm 9 with
  | .one (.sc (.int .i64 y) _), .one (.sc (.int .i64 x) _), .one (.sc (.float .f64 s) _), .one (.sc (.int .i64 v) _) =>
    some ((tm.n = 74 ∧ getT tm 1 = p00 ∧ getT tm 3 = okV ∧ getT tm 10 = li 0 ∧ hp = bN f :: hp.tail ∧ (0 ≤ v ∧ v < 8) ∧ (0 ≤ y ∧ y < 8) ∧ (0 ≤ x ∧ x < 8) ∧ ok4N f y x v s), .exit 8,
      tmL 74 [(1, p00), (3, okV), (5, getT tm 5), (6, AI y), (7, AI x), (8, AF (s4N f y x v s 8)), (9, AI v)], hp)
  | _, _, _, _ => none
noncomputable def FN4 (f : Nat → Int) : Fns := FW.addLoop 4 LN4 (cN4 f)
theorem FN4ok (f : Nat → Int) : FnsOk Tryd.prog (FN4 f) := by
  refine FWok.addLoop 4 _ _ fun tm hp p x tm' hp' hg hp1 => ?_
  unfold cN4 at hg
  split at hg
  · rename_i y s1 x s2 s s3 v s4 g6 g7 g8 g9
    simp only [Option.some.injEq, Prod.mk.injEq] at hg
    obtain ⟨rfl, rfl, rfl, rfl⟩ := hg
    obtain ⟨hn, h1, h3, h10, hh, hv, hy, hx, hok⟩ := hp1
    have hl := loopN4 f (getT tm 5) y x s v hv hy hx hok hp.tail
    rw [← hh] at hl
    refine hl.weak (Weak.of hn ⟨by rw [h1]; rfl, by rw [h3]; rfl, sameV.refl _, by rw [g6]; rfl, by rw [g7]; rfl, by rw [g8]; rfl, by rw [g9]; rfl, by rw [h10]; rfl, trivial⟩ (HpLe.refl _)) (Weak.refl _ _)
  · cases hg
def lN3 (p5 : AV) (y x : Int) (s : Nat) (v : Int) : List (Nat × AV) := [(1, p00), (3, okV), (5, p5), (6, AI y), (7, AI x), (8, AF s), (9, AI v)]
theorem rN3 (f : Nat → Int) (p5 : AV) (y x : Int) (s : Nat) (v : Int) (r : List Blk) (X : Ex → Nat → List AV → List Blk → Prop) :
    roundK Tryd.prog T (FN4 f) 3000 LN3 (tmL 74 (lN3 p5 y x s v)) (bN f :: r) [.b true, .l 4] [1, 3, 5, 6, 7, 8, 9] X =
    (decide (v < 8) = true ∧ (LN4 = LN4 ∧ ((74 : Nat) = 74 ∧ p00 = p00 ∧ okV = okV ∧ li 0 = li 0 ∧ bN f :: r = bN f :: r ∧ (0 ≤ v ∧ v < 8) ∧ (0 ≤ y ∧ y < 8) ∧ (0 ≤ x ∧ x < 8) ∧ ok4N f y x v s) ∧
      X .normal 74 [p00, okV, p5, AI y, AI x, AF (s4N f y x v s 8), AI (W (v + 1))] (bN f :: r))) := by kernel_rfl
theorem eN3 (f : Nat → Int) (p5 : AV) (y x : Int) (s : Nat) (v : Int) (r : List Blk) (X : Ex → Nat → List AV → List Blk → Prop) :
    roundK Tryd.prog T (FN4 f) 3000 LN3 (tmL 74 (lN3 p5 y x s v)) (bN f :: r) [.b false] [1, 3, 5, 6, 7, 8] X =
    (decide (v < 8) = false ∧ X (.exit 6) 74 [p00, okV, p5, AI y, AI x, AF s] (bN f :: r)) := by kernel_rfl
theorem loopN3 (f : Nat → Int) (p5 : AV) (y x : Int) (hy : 0 ≤ y ∧ y < 8) (hx : 0 ≤ x ∧ x < 8) (hok : ok3N f y x) (r : List Blk) :
    LoopOk Tryd.prog LN3 (tmL 74 (lN3 p5 y x 0 0)) (bN f :: r) (.exit 6) (tmL 74 [(1, p00), (3, okV), (5, p5), (6, AI y), (7, AI x), (8, AF (s3N f y x 8))]) (bN f :: r) := by
  refine loop_rounds hm hT (FN4ok f) 74 8 (fun n => lN3 p5 y x (s3N f y x n) (n : Nat)) (fun _ => bN f :: r) (.exit 6) _ _ (fun h => by cases h) (fun n hn => ?_) ?_ 0 (by omega)
  · refine ⟨3000, [.b true, .l 4], of_run (rN3 f p5 y x _ (n : Nat) r _) ⟨lt8 n hn, rfl, ⟨rfl, rfl, rfl, rfl, rfl, ⟨by omega, by omega⟩, hy, hx, hok n hn⟩, rfl, rfl, ?_, HpLe.refl _⟩⟩
    exact ⟨rfl, rfl, sameV.refl _, rfl, rfl, rfl, congrArg (Value.int .i64) (next_eq n hn), trivial⟩
  · exact ⟨3000, [.b false], of_run (eN3 f p5 y x _ ((8 : Nat) : Int) r _) ⟨not8, rfl, rfl, ⟨rfl, rfl, sameV.refl _, rfl, rfl, rfl, trivial⟩, HpLe.refl _⟩⟩
/-- The block as it stands in the law, its cells written out. -/
def iN (f : Nat → Int) : Blk := { body := .li (cellsK .i32 false 64 f), elem := 33, live := true, ro := false }
theorem iN_le (f : Nat → Int) : BlkLe (iN f) (bN f) := li_le
theorem bN_le (f : Nat → Int) : BlkLe (bN f) (iN f) := ⟨rfl, rfl, rfl, fun E vs hr => hr⟩
def cN3 (f : Nat → Int) (tm : Tm) (hp : List Blk) : Option (Prop × Ex × Tm × List Blk) :=
  match getT tm 6, getT tm 7 with
  | .one (.sc (.int .i64 y) s1), .one (.sc (.int .i64 x) s2) =>
    some ((tm.n = 74 ∧ getT tm 1 = p00 ∧ getT tm 3 = okV ∧ getT tm 8 = lf0 ∧ getT tm 9 = li 0 ∧ hp = iN f :: hp.tail ∧ (0 ≤ y ∧ y < 8) ∧ (0 ≤ x ∧ x < 8) ∧ ok3N f y x), .exit 6,
      tmL 74 [(1, p00), (3, okV), (5, getT tm 5), (6, .one (.sc (.int .i64 y) s1)), (7, .one (.sc (.int .i64 x) s2)), (8, AF (s3N f y x 8))], hp)
  | _, _ => none
noncomputable def FNear (f : Nat → Int) (G : Fns) : Fns := G.addLoop 3 LN3 (cN3 f)
theorem FNearOk (f : Nat → Int) {G : Fns} (hG : FnsOk Tryd.prog G) : FnsOk Tryd.prog (FNear f G) := by
  refine hG.addLoop 3 _ _ fun tm hp p x tm' hp' hg hp1 => ?_
  unfold cN3 at hg
  split at hg
  · rename_i y s1 x s2 g6 g7
    simp only [Option.some.injEq, Prod.mk.injEq] at hg
    obtain ⟨rfl, rfl, rfl, rfl⟩ := hg
    obtain ⟨hn, h1, h3, h8, h9, hh, hy, hx, hok⟩ := hp1
    have hl := loopN3 f (getT tm 5) y x hy hx hok hp.tail
    have hle : HpLe hp (bN f :: hp.tail) := by
      rw [hh]
      exact ⟨iN_le f, HpLe.refl _⟩
    have hle2 : HpLe (bN f :: hp.tail) hp := by
      conv => rhs; rw [hh]
      exact ⟨bN_le f, HpLe.refl _⟩
    refine hl.weak (Weak.of hn ⟨by rw [h1]; rfl, by rw [h3]; rfl, sameV.refl _, by rw [g6]; rfl, by rw [g7]; rfl, by rw [h8]; rfl, by rw [h9]; rfl, trivial⟩ hle) ⟨fun E ts ht => ?_, fun _ _ _ _ h => hle2.RH h⟩
    exact RT.keep ht _ ⟨sameV.refl _, sameV.refl _, sameV.refl _, rfl, rfl, sameV.refl _, trivial⟩
  · cases hg
end Go.Proofs.YtcfbhlpmhlmekaaDoor
