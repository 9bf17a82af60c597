/-
  What is proved here: contracts of the reference's real samples and real coefficients, of bound and near. A text to be imported.
-/
import Derived.Test.YtcfbhlpmhlmekaaDoorCon14
import Derived.Test.YtcfbhlpmhlmekaaDoorLaw7
namespace Go.Proofs.YtcfbhlpmhlmekaaDoor
open Sm Go Go.RowKit
set_option maxRecDepth 1000000
set_option linter.unusedVariables false
set_option linter.unusedSimpArgs false
noncomputable def FZ : Fns := Fns.none.addP 20 GWaveP
theorem FZok : FnsOk Tryd.prog FZ := FnsOk.none.addP (conPW conW20)
def AFd (x : Nat) : AV := .one (.sc (.float .f64 x) false)
def four : Nat := 4616189618054758400
def lA4 (y x s v u : Nat) : List (Nat × AV) := [(1, P0), (2, P1), (3, P2), (4, ivF y), (5, ivF x), (6, AFd s), (7, ivF v), (8, ivF u)]
def lA3 (y x s v : Nat) : List (Nat × AV) := [(1, P0), (2, P1), (3, P2), (4, ivF y), (5, ivF x), (6, AFd s), (7, ivF v)]
def lA2s (y x s : Nat) : List (Nat × AV) := [(1, P0), (2, P1), (3, P2), (4, ivF y), (5, ivF x), (6, AFd s)]
def lA2 (y x : Nat) : List (Nat × AV) := [(1, P0), (2, P1), (3, P2), (4, ivF y), (5, ivF x)]
def lA1 (y : Nat) : List (Nat × AV) := [(1, P0), (2, P1), (3, P2), (4, ivF y)]
def lA0 : List (Nat × AV) := [(1, P0), (2, P1), (3, P2)]
def hA (r : Blk) (f z : Nat → Nat) : List Blk := [ssB f, r, ssB z]
def hAo (r : Blk) (f z : Nat → Nat) (o a : Nat) : List Blk := [ssB f, r, suB z o a]
def ixA (a b : Int) : Int := W (W (8 * a) + b)
theorem ixA_eq {a b : Nat} (ha : a < 8) (hb : b < 8) : (0 ≤ ixA a b ∧ ixA a b < (64 : Nat)) ∧ placeN 0 (ixA a b) 1 = 8 * a + b := by
  have e : ixA a b = ((8 * a + b : Nat) : Int) := by
    unfold ixA
    rw [show W (8 * (a : Int)) = 8 * (a : Int) from w64 (by omega) (by omega), show (8 * (a : Int) + (b : Int)) = ((8 * a + b : Nat) : Int) by omega]
    exact w64 (by omega) (by omega)
  rw [e]
  refine ⟨by omega, ?_⟩
  unfold placeN
  simp
  omega
theorem ivE (a b : Int) (h : a = b) : sameV (ivF a) (ivF b) := by rw [h]; exact sameV.refl _
theorem W8n {k : Nat} (h : k < 8) : W ((k : Int) + 1) = ((k + 1 : Nat) : Int) := W1 (by omega)

def agB (f : Nat → Nat) : Blk := { body := .li (flC f), elem := 23, live := true, ro := false }
theorem sB_ag (f : Nat → Nat) : startB (agB f) (ssB f) := startB_rng (m := fun j => .sc (.float .f64 (f j)) false) fun j _ => ⟨_, false, false, rfl, rfl⟩

/-! f11 -/
noncomputable def cRr4 : Code := pathC (bodyC Tryd.f11) [0, 0, 0, 0]
noncomputable def cRr3 : Code := pathC (bodyC Tryd.f11) [0, 0, 0]
noncomputable def cRr2 : Code := pathC (bodyC Tryd.f11) [0, 0]
noncomputable def cRr1 : Code := pathC (bodyC Tryd.f11) [0]
def aRr (y x v u : Nat) : Nat := fbin .mul .f64 (wv u x) (wv v y)
def tRr (f : Nat → Nat) (y x v u : Nat) : Nat := fbin .mul .f64 (aRr y x v u) (f (8 * v + u))
def sRr (f : Nat → Nat) (y x n : Nat) : Nat := fsum (fun k => tRr f y x (k / 8) (k % 8)) 0 n
def okRr (f : Nat → Nat) (y x : Nat) : Prop := (∀ v : Nat, v < 8 → ∀ u : Nat, u < 8 → fok .mul .f64 (wv u x) (wv v y) = true ∧ fok .mul .f64 (aRr y x v u) (f (8 * v + u)) = true ∧ fok .add .f64 (sRr f y x (8 * v + u)) (tRr f y x v u) = true) ∧ fok .quo .f64 (sRr f y x 64) four = true
def zRr (f : Nat → Nat) (j : Nat) : Nat := fbin .quo .f64 (sRr f (j / 8) (j % 8) 64) four
def ZRr (f : Nat → Nat) (m j : Nat) : Nat := bif Nat.blt j m then zRr f j else 0
theorem sRr_next (f : Nat → Nat) (y x v u : Nat) (hu : u < 8) : sRr f y x (8 * v + (u + 1)) = fbin .add .f64 (sRr f y x (8 * v + u)) (tRr f y x v u) := by
  unfold sRr
  rw [show 8 * v + (u + 1) = (8 * v + u) + 1 from by omega]
  show fbin .add .f64 _ (tRr f y x ((8 * v + u) / 8) ((8 * v + u) % 8)) = _
  rw [show (8 * v + u) / 8 = v by omega, show (8 * v + u) % 8 = u by omega]
theorem ZRr_next (f : Nat → Nat) (y x j : Nat) (hx : x < 8) : ZRr f (8 * y + (x + 1)) j = bif Nat.beq j (8 * y + x) then fbin .quo .f64 (sRr f y x 64) four else ZRr f (8 * y + x) j := by
  by_cases h : j = 8 * y + x
  · subst h
    have e0 : Nat.beq (8 * y + x) (8 * y + x) = true := Nat.beq_refl _
    have e1 : Nat.blt (8 * y + x) (8 * y + (x + 1)) = true := by rw [blt_eq]; exact decide_eq_true (by omega)
    have e2 : zRr f (8 * y + x) = fbin .quo .f64 (sRr f y x 64) four := by
      unfold zRr
      rw [show (8 * y + x) / 8 = y by omega, show (8 * y + x) % 8 = x by omega]
    unfold ZRr
    rw [e0, e1, cond_true, cond_true, e2]
  · have e0 : Nat.beq j (8 * y + x) = false := by rw [beq_eq]; exact decide_eq_false h
    have e1 : Nat.blt j (8 * y + (x + 1)) = Nat.blt j (8 * y + x) := by rw [blt_eq, blt_eq]; exact decide_eq_decide.2 (by omega)
    unfold ZRr
    rw [e0, e1, cond_false]
theorem roundRr4 (f z : Nat → Nat) (r : Blk) (y x s v u : Nat) (Q : Ex → Nat → List AV → List Blk → Prop) : roundK Tryd.prog T FZ 300 cRr4 (tmL 49 (lA4 y x s v u)) (hA r f z) [.b true] [1, 2, 3, 4, 5, 6, 7, 8] Q =
  (decide ((u : Int) < 8) = true ∧ (0 ≤ (u : Int) ∧ (u : Int) < 8 ∧ 0 ≤ (x : Int) ∧ (x : Int) < 8) ∧ (0 ≤ (v : Int) ∧ (v : Int) < 8 ∧ 0 ≤ (y : Int) ∧ (y : Int) < 8) ∧ fok .mul .f64 (wv u x) (wv v y) = true ∧ (0 ≤ ixA v u ∧ ixA v u < (64 : Nat)) ∧ placeN 0 (ixA v u) 1 < 64 ∧ fok .mul .f64 (aRr y x v u) (f (placeN 0 (ixA v u) 1)) = true ∧ fok .add .f64 s (fbin .mul .f64 (aRr y x v u) (f (placeN 0 (ixA v u) 1))) = true ∧
   Q .normal 49 [P0, P1, P2, ivF y, ivF x, AFd (fbin .add .f64 s (fbin .mul .f64 (aRr y x v u) (f (placeN 0 (ixA v u) 1)))), ivF v, ivF (W (u + 1))] (hA r f z)) := by kernel_rfl
theorem exitRr4 (f z : Nat → Nat) (r : Blk) (y x s v u : Nat) (Q : Ex → Nat → List AV → List Blk → Prop) : roundK Tryd.prog T FZ 300 cRr4 (tmL 49 (lA4 y x s v u)) (hA r f z) [.b false] [1, 2, 3, 4, 5, 6, 7] Q =
  (decide ((u : Int) < 8) = false ∧ Q (.exit 6) 49 [P0, P1, P2, ivF y, ivF x, AFd s, ivF v] (hA r f z)) := by kernel_rfl
theorem loopRr4 (f z : Nat → Nat) (r : Blk) {y x v : Nat} (hy : y < 8) (hx : x < 8) (hv : v < 8) (hok : okRr f y x) : LoopOk Tryd.prog cRr4 (tmL 49 (lA4 y x (sRr f y x (8 * v)) v 0)) (hA r f z) (.exit 6) (tmL 49 (lA3 y x (sRr f y x (8 * v + 8)) v)) (hA r f z) := by
  refine loop_rounds hm hT FZok 49 8 (fun u => lA4 y x (sRr f y x (8 * v + u)) v u) (fun _ => hA r f z) (.exit 6) _ _ (fun e => by cases e) (fun u hu => ⟨300, [.b true], ?_⟩) ⟨300, [.b false], ?_⟩ 0 (Nat.zero_le _)
  · show roundK Tryd.prog T FZ 300 cRr4 (tmL 49 (lA4 y x (sRr f y x (8 * v + u)) v u)) (hA r f z) [.b true] [1, 2, 3, 4, 5, 6, 7, 8] _
    obtain ⟨i1, i2⟩ := ixA_eq hv hu
    obtain ⟨k1, k2, k3⟩ := hok.1 v hv u hu
    rw [roundRr4, i2]
    refine ⟨decide_eq_true (by omega), by omega, by omega, k1, i1, by omega, k2, k3, rfl, rfl, ⟨sameV.refl _, sameV.refl _, sameV.refl _, sameV.refl _, sameV.refl _, ?_, sameV.refl _, ivE _ _ (W8n hu), trivial⟩, HpLe.refl _⟩
    rw [sRr_next f y x v u hu]
    exact sameV.refl _
  · show roundK Tryd.prog T FZ 300 cRr4 (tmL 49 (lA4 y x (sRr f y x (8 * v + 8)) v 8)) (hA r f z) [.b false] [1, 2, 3, 4, 5, 6, 7] _
    rw [exitRr4]
    exact ⟨decide_eq_false (by omega), rfl, rfl, ⟨sameV.refl _, sameV.refl _, sameV.refl _, sameV.refl _, sameV.refl _, sameV.refl _, sameV.refl _, trivial⟩, HpLe.refl _⟩
noncomputable def FRr3 (f z : Nat → Nat) (r : Blk) (y x s s' v : Nat) (q : Prop) : Fns := FZ.addLoop 0 cRr4 (loopC 49 (lA4 y x s v 0) (hA r f z) q (.exit 6) (lA3 y x s' v) (hA r f z))
theorem roundRr3 (f z : Nat → Nat) (r : Blk) (y x s s' v : Nat) (q : Prop) (Q : Ex → Nat → List AV → List Blk → Prop) : roundK Tryd.prog T (FRr3 f z r y x s s' v q) 300 cRr3 (tmL 49 (lA3 y x s v)) (hA r f z) [.b true, .l 0] [1, 2, 3, 4, 5, 6, 7] Q =
  (decide ((v : Int) < 8) = true ∧ cRr4 = cRr4 ∧ ((49 = 49 ∧ startLs [P0, P1, P2, ivF y, ivF x, AFd s, ivF v, .one (.sc (.int .i64 0) true)] ((lA4 y x s v 0).map (·.2)) ∧ startBs (hA r f z) (hA r f z)) ∧ q) ∧ Q .normal 49 [P0, P1, P2, ivF y, ivF x, AFd s', ivF (W (v + 1))] (hA r f z)) := by kernel_rfl
theorem exitRr3 (f z : Nat → Nat) (r : Blk) (y x s v : Nat) (Q : Ex → Nat → List AV → List Blk → Prop) : roundK Tryd.prog T FZ 300 cRr3 (tmL 49 (lA3 y x s v)) (hA r f z) [.b false] [1, 2, 3, 4, 5, 6] Q =
  (decide ((v : Int) < 8) = false ∧ Q (.exit 4) 49 [P0, P1, P2, ivF y, ivF x, AFd s] (hA r f z)) := by kernel_rfl
theorem loopRr3 (f z : Nat → Nat) (r : Blk) {y x : Nat} (hy : y < 8) (hx : x < 8) (hok : okRr f y x) : LoopOk Tryd.prog cRr3 (tmL 49 (lA3 y x 0 0)) (hA r f z) (.exit 4) (tmL 49 (lA2s y x (sRr f y x 64))) (hA r f z) := by
  refine loop_roundsF hm hT 49 8 (fun v => lA3 y x (sRr f y x (8 * v)) v) (fun _ => hA r f z) (.exit 4) _ _ (fun e => by cases e) (fun v hv => ⟨FRr3 f z r y x (sRr f y x (8 * v)) (sRr f y x (8 * v + 8)) v True, FZok.addKeep 0 fun _ => loopRr4 f z r hy hx hv hok, 300, [.b true, .l 0], ?_⟩) ⟨FZ, FZok, 300, [.b false], ?_⟩ 0 (Nat.zero_le _)
  · show roundK Tryd.prog T (FRr3 f z r y x (sRr f y x (8 * v)) (sRr f y x (8 * v + 8)) v True) 300 cRr3 (tmL 49 (lA3 y x (sRr f y x (8 * v)) v)) (hA r f z) [.b true, .l 0] [1, 2, 3, 4, 5, 6, 7] _
    rw [roundRr3]
    exact ⟨decide_eq_true (by omega), rfl, ⟨⟨rfl, ⟨rfl, rfl, rfl, rfl, rfl, rfl, rfl, rfl, trivial⟩, startBs.refl _⟩, trivial⟩, rfl, rfl, ⟨sameV.refl _, sameV.refl _, sameV.refl _, sameV.refl _, sameV.refl _, sameV.refl _, ivE _ _ (W8n hv), trivial⟩, HpLe.refl _⟩
  · show roundK Tryd.prog T FZ 300 cRr3 (tmL 49 (lA3 y x (sRr f y x 64) 8)) (hA r f z) [.b false] [1, 2, 3, 4, 5, 6] _
    rw [exitRr3]
    exact ⟨decide_eq_false (by omega), rfl, rfl, ⟨sameV.refl _, sameV.refl _, sameV.refl _, sameV.refl _, sameV.refl _, sameV.refl _, trivial⟩, HpLe.refl _⟩
noncomputable def FRr2 (f z : Nat → Nat) (r : Blk) (y x s' : Nat) (q : Prop) : Fns := FZ.addLoop 1 cRr3 (loopC 49 (lA3 y x 0 0) (hA r f z) q (.exit 4) (lA2s y x s') (hA r f z))
theorem roundRr2 (f z : Nat → Nat) (r : Blk) (y x s' : Nat) (q : Prop) (Q : Ex → Nat → List AV → List Blk → Prop) : roundK Tryd.prog T (FRr2 f z r y x s' q) 300 cRr2 (tmL 49 (lA2 y x)) (hA r f z) [.b true, .l 1] [1, 2, 3, 4, 5] Q =
  (decide ((x : Int) < 8) = true ∧ cRr3 = cRr3 ∧ ((49 = 49 ∧ startLs [P0, P1, P2, ivF y, ivF x, .one (.sc (.float .f64 0) true), .one (.sc (.int .i64 0) true)] ((lA3 y x 0 0).map (·.2)) ∧ startBs (hA r f z) (hA r f z)) ∧ q) ∧ fok .quo .f64 s' four = true ∧ (0 ≤ ixA y x ∧ ixA y x < (64 : Nat)) ∧ placeN 0 (ixA y x) 1 < 64 ∧
   Q .normal 49 [P0, P1, P2, ivF y, ivF (W (x + 1))] (hAo r f z (placeN 0 (ixA y x) 1) (fbin .quo .f64 s' four))) := by kernel_rfl
theorem exitRr2 (f z : Nat → Nat) (r : Blk) (y x : Nat) (Q : Ex → Nat → List AV → List Blk → Prop) : roundK Tryd.prog T FZ 300 cRr2 (tmL 49 (lA2 y x)) (hA r f z) [.b false] [1, 2, 3, 4] Q =
  (decide ((x : Int) < 8) = false ∧ Q (.exit 2) 49 [P0, P1, P2, ivF y] (hA r f z)) := by kernel_rfl
theorem loopRr2 (f : Nat → Nat) (r : Blk) {y : Nat} (hy : y < 8) (hok : ∀ x, x < 8 → okRr f y x) : LoopOk Tryd.prog cRr2 (tmL 49 (lA2 y 0)) (hA r f (ZRr f (8 * y))) (.exit 2) (tmL 49 (lA1 y)) (hA r f (ZRr f (8 * y + 8))) := by
  refine loop_roundsF hm hT 49 8 (fun x => lA2 y x) (fun x => hA r f (ZRr f (8 * y + x))) (.exit 2) _ _ (fun e => by cases e) (fun x hx => ⟨FRr2 f (ZRr f (8 * y + x)) r y x (sRr f y x 64) True, FZok.addKeep 1 fun _ => loopRr3 f _ r hy hx (hok x hx), 300, [.b true, .l 1], ?_⟩) ⟨FZ, FZok, 300, [.b false], ?_⟩ 0 (Nat.zero_le _)
  · show roundK Tryd.prog T (FRr2 f (ZRr f (8 * y + x)) r y x (sRr f y x 64) True) 300 cRr2 (tmL 49 (lA2 y x)) (hA r f (ZRr f (8 * y + x))) [.b true, .l 1] [1, 2, 3, 4, 5] _
    obtain ⟨i1, i2⟩ := ixA_eq hy hx
    rw [roundRr2, i2]
    refine ⟨decide_eq_true (by omega), rfl, ⟨⟨rfl, ⟨rfl, rfl, rfl, rfl, rfl, rfl, rfl, trivial⟩, startBs.refl _⟩, trivial⟩, (hok x hx).2, i1, by omega, rfl, rfl, ⟨sameV.refl _, sameV.refl _, sameV.refl _, sameV.refl _, ivE _ _ (W8n hx), trivial⟩, .refl _, .refl _, suB_le _ _ _ _ fun j hj => ?_, trivial⟩
    show ZRr f (8 * y + (x + 1)) j = bif Nat.beq j (8 * y + x) then fbin .quo .f64 (sRr f y x 64) four else ZRr f (8 * y + x) j
    exact ZRr_next f y x j hx
  · show roundK Tryd.prog T FZ 300 cRr2 (tmL 49 (lA2 y 8)) (hA r f (ZRr f (8 * y + 8))) [.b false] [1, 2, 3, 4] _
    rw [exitRr2]
    exact ⟨decide_eq_false (by omega), rfl, rfl, ⟨sameV.refl _, sameV.refl _, sameV.refl _, sameV.refl _, trivial⟩, HpLe.refl _⟩
noncomputable def FRr1 (f z z' : Nat → Nat) (r : Blk) (y : Nat) (q : Prop) : Fns := FZ.addLoop 2 cRr2 (loopC 49 (lA2 y 0) (hA r f z) q (.exit 2) (lA1 y) (hA r f z'))
theorem roundRr1 (f z z' : Nat → Nat) (r : Blk) (y : Nat) (q : Prop) (Q : Ex → Nat → List AV → List Blk → Prop) : roundK Tryd.prog T (FRr1 f z z' r y q) 300 cRr1 (tmL 49 (lA1 y)) (hA r f z) [.b true, .l 2] [1, 2, 3, 4] Q =
  (decide ((y : Int) < 8) = true ∧ cRr2 = cRr2 ∧ ((49 = 49 ∧ startLs [P0, P1, P2, ivF y, .one (.sc (.int .i64 0) true)] ((lA2 y 0).map (·.2)) ∧ startBs (hA r f z) (hA r f z)) ∧ q) ∧ Q .normal 49 [P0, P1, P2, ivF (W (y + 1))] (hA r f z')) := by kernel_rfl
theorem exitRr1 (f z : Nat → Nat) (r : Blk) (y : Nat) (Q : Ex → Nat → List AV → List Blk → Prop) : roundK Tryd.prog T FZ 300 cRr1 (tmL 49 (lA1 y)) (hA r f z) [.b false] [1, 2, 3] Q =
  (decide ((y : Int) < 8) = false ∧ Q (.exit 0) 49 [P0, P1, P2] (hA r f z)) := by kernel_rfl
theorem loopRr1 (f : Nat → Nat) (r : Blk) (hok : ∀ y, y < 8 → ∀ x, x < 8 → okRr f y x) : LoopOk Tryd.prog cRr1 (tmL 49 (lA1 0)) (hA r f (ZRr f 0)) (.exit 0) (tmL 49 lA0) (hA r f (ZRr f 64)) := by
  refine loop_roundsF hm hT 49 8 lA1 (fun y => hA r f (ZRr f (8 * y))) (.exit 0) _ _ (fun e => by cases e) (fun y hy => ⟨FRr1 f (ZRr f (8 * y)) (ZRr f (8 * y + 8)) r y True, FZok.addKeep 2 fun _ => loopRr2 f r hy (hok y hy), 300, [.b true, .l 2], ?_⟩) ⟨FZ, FZok, 300, [.b false], ?_⟩ 0 (Nat.zero_le _)
  · show roundK Tryd.prog T (FRr1 f (ZRr f (8 * y)) (ZRr f (8 * y + 8)) r y True) 300 cRr1 (tmL 49 (lA1 y)) (hA r f (ZRr f (8 * y))) [.b true, .l 2] [1, 2, 3, 4] _
    rw [roundRr1]
    exact ⟨decide_eq_true (by omega), rfl, ⟨⟨rfl, ⟨rfl, rfl, rfl, rfl, rfl, trivial⟩, startBs.refl _⟩, trivial⟩, rfl, rfl, ⟨sameV.refl _, sameV.refl _, sameV.refl _, ivE _ _ (W8n hy), trivial⟩, HpLe.refl _⟩
  · show roundK Tryd.prog T FZ 300 cRr1 (tmL 49 (lA1 8)) (hA r f (ZRr f 64)) [.b false] [1, 2, 3] _
    rw [exitRr1]
    exact ⟨decide_eq_false (by omega), rfl, rfl, ⟨sameV.refl _, sameV.refl _, sameV.refl _, trivial⟩, HpLe.refl _⟩
theorem ZRr0 (f : Nat → Nat) : startB zB (ssB (ZRr f 0)) := startB_rng fun j _ => ⟨_, true, false, rfl, rfl⟩
noncomputable def FRrn (f : Nat → Nat) (q : Prop) : Fns := FZ.addLoop 3 cRr1 (loopC 49 (lA1 0) (hA zB f (ZRr f 0)) q (.exit 0) lA0 (hA zB f (ZRr f 64)))
theorem run11 (f : Nat → Nat) (q : Prop) (u : Value) : runK Tryd.prog T (FRrn f q) 300 Tryd.f11 [.agg (flC f)] [] [.l 3] (fun r _ => resW r = some u) =
  (cRr1 = cRr1 ∧ ((49 = 49 ∧ startLs [P0, P1, P2, .one (.sc (.int .i64 0) true)] ((lA1 0).map (·.2)) ∧ startBs [agB f, zB, zB] (hA zB f (ZRr f 0))) ∧ q) ∧ 64 ≤ 64 ∧ some (flA (ZRr f 64)) = some u) := by kernel_rfl
def GRr : List ArgV → Option (Prop × Value)
  | [.val (.agg a)] => fltsK .f64 a.toList fun xs => if xs.length = 64 then some ((∀ y, y < 8 → ∀ x, x < 8 → okRr (xs.getD · 0) y x), flA (ZRr (xs.getD · 0) 64)) else none
  | _ => none
open Classical in
theorem con11 : ConP Tryd.prog 11 GRr := by
  have hF : ∀ f, (∀ y, y < 8 → ∀ x, x < 8 → okRr f y x) → FnsOk Tryd.prog (FRrn f True) := fun f h => FZok.addKeep 3 fun _ => loopRr1 f zB h
  refine ⟨Tryd.call11, fun avs p u h hp => ?_⟩
  unfold GRr at h
  split at h
  · rename_i a
    obtain ⟨xs, ha, h2⟩ := fltsK_spec _ _ _ h
    clear h
    split at h2
    · rename_i hl
      simp only [Option.some.injEq, Prod.mk.injEq] at h2
      obtain ⟨rfl, rfl⟩ := h2
      obtain ⟨a⟩ := a
      have ha' : a = xs.map (Value.float .f64) := ha
      subst ha'
      exact (conP_of_runW (G := fun b => if b = [.val (.agg (xs.map (Value.float .f64)).toArray)] then some (True, flA (ZRr (xs.getD · 0) 64)) else none) hm hT (hF _ hp) Tryd.func11 Tryd.call11 fun avs p u h _ => by
        split at h
        · rename_i ha
          simp only [Option.some.injEq, Prod.mk.injEq] at h
          obtain ⟨_, rfl⟩ := h
          subst ha
          exact ⟨[], 300, [.l 3], _, _, canonL xs hl, of_run (run11 _ _ _) ⟨rfl, ⟨⟨rfl, ⟨rfl, rfl, rfl, rfl, trivial⟩, sB_ag _, startB.refl _, ZRr0 _, trivial⟩, trivial⟩, Nat.le_refl _, rfl⟩⟩
        · cases h).2 _ True _ (if_pos rfl) trivial
    · cases h2
  · cases h

/-! f12 -/
noncomputable def cRw4 : Code := pathC (bodyC Tryd.f12) [0, 0, 0, 0]
noncomputable def cRw3 : Code := pathC (bodyC Tryd.f12) [0, 0, 0]
noncomputable def cRw2 : Code := pathC (bodyC Tryd.f12) [0, 0]
noncomputable def cRw1 : Code := pathC (bodyC Tryd.f12) [0]
def aRw (y x v u : Nat) : Nat := fbin .mul .f64 (wv x u) (wv y v)
def tRw (f : Nat → Nat) (y x v u : Nat) : Nat := fbin .mul .f64 (aRw y x v u) (f (8 * v + u))
def sRw (f : Nat → Nat) (y x n : Nat) : Nat := fsum (fun k => tRw f y x (k / 8) (k % 8)) 0 n
def okRw (f : Nat → Nat) (y x : Nat) : Prop := (∀ v : Nat, v < 8 → ∀ u : Nat, u < 8 → fok .mul .f64 (wv x u) (wv y v) = true ∧ fok .mul .f64 (aRw y x v u) (f (8 * v + u)) = true ∧ fok .add .f64 (sRw f y x (8 * v + u)) (tRw f y x v u) = true) ∧ fok .quo .f64 (sRw f y x 64) four = true
def zRw (f : Nat → Nat) (j : Nat) : Nat := fbin .quo .f64 (sRw f (j / 8) (j % 8) 64) four
def ZRw (f : Nat → Nat) (m j : Nat) : Nat := bif Nat.blt j m then zRw f j else 0
theorem sRw_next (f : Nat → Nat) (y x v u : Nat) (hu : u < 8) : sRw f y x (8 * v + (u + 1)) = fbin .add .f64 (sRw f y x (8 * v + u)) (tRw f y x v u) := by
  unfold sRw
  rw [show 8 * v + (u + 1) = (8 * v + u) + 1 from by omega]
  show fbin .add .f64 _ (tRw f y x ((8 * v + u) / 8) ((8 * v + u) % 8)) = _
  rw [show (8 * v + u) / 8 = v by omega, show (8 * v + u) % 8 = u by omega]
theorem ZRw_next (f : Nat → Nat) (y x j : Nat) (hx : x < 8) : ZRw f (8 * y + (x + 1)) j = bif Nat.beq j (8 * y + x) then fbin .quo .f64 (sRw f y x 64) four else ZRw f (8 * y + x) j := by
  by_cases h : j = 8 * y + x
  · subst h
    have e0 : Nat.beq (8 * y + x) (8 * y + x) = true := Nat.beq_refl _
    have e1 : Nat.blt (8 * y + x) (8 * y + (x + 1)) = true := by rw [blt_eq]; exact decide_eq_true (by omega)
    have e2 : zRw f (8 * y + x) = fbin .quo .f64 (sRw f y x 64) four := by
      unfold zRw
      rw [show (8 * y + x) / 8 = y by omega, show (8 * y + x) % 8 = x by omega]
    unfold ZRw
    rw [e0, e1, cond_true, cond_true, e2]
  · have e0 : Nat.beq j (8 * y + x) = false := by rw [beq_eq]; exact decide_eq_false h
    have e1 : Nat.blt j (8 * y + (x + 1)) = Nat.blt j (8 * y + x) := by rw [blt_eq, blt_eq]; exact decide_eq_decide.2 (by omega)
    unfold ZRw
    rw [e0, e1, cond_false]
theorem roundRw4 (f z : Nat → Nat) (r : Blk) (y x s v u : Nat) (Q : Ex → Nat → List AV → List Blk → Prop) : roundK Tryd.prog T FZ 300 cRw4 (tmL 49 (lA4 y x s v u)) (hA r f z) [.b true] [1, 2, 3, 4, 5, 6, 7, 8] Q =
  (decide ((u : Int) < 8) = true ∧ (0 ≤ (x : Int) ∧ (x : Int) < 8 ∧ 0 ≤ (u : Int) ∧ (u : Int) < 8) ∧ (0 ≤ (y : Int) ∧ (y : Int) < 8 ∧ 0 ≤ (v : Int) ∧ (v : Int) < 8) ∧ fok .mul .f64 (wv x u) (wv y v) = true ∧ (0 ≤ ixA v u ∧ ixA v u < (64 : Nat)) ∧ placeN 0 (ixA v u) 1 < 64 ∧ fok .mul .f64 (aRw y x v u) (f (placeN 0 (ixA v u) 1)) = true ∧ fok .add .f64 s (fbin .mul .f64 (aRw y x v u) (f (placeN 0 (ixA v u) 1))) = true ∧
   Q .normal 49 [P0, P1, P2, ivF y, ivF x, AFd (fbin .add .f64 s (fbin .mul .f64 (aRw y x v u) (f (placeN 0 (ixA v u) 1)))), ivF v, ivF (W (u + 1))] (hA r f z)) := by kernel_rfl
theorem exitRw4 (f z : Nat → Nat) (r : Blk) (y x s v u : Nat) (Q : Ex → Nat → List AV → List Blk → Prop) : roundK Tryd.prog T FZ 300 cRw4 (tmL 49 (lA4 y x s v u)) (hA r f z) [.b false] [1, 2, 3, 4, 5, 6, 7] Q =
  (decide ((u : Int) < 8) = false ∧ Q (.exit 6) 49 [P0, P1, P2, ivF y, ivF x, AFd s, ivF v] (hA r f z)) := by kernel_rfl
theorem loopRw4 (f z : Nat → Nat) (r : Blk) {y x v : Nat} (hy : y < 8) (hx : x < 8) (hv : v < 8) (hok : okRw f y x) : LoopOk Tryd.prog cRw4 (tmL 49 (lA4 y x (sRw f y x (8 * v)) v 0)) (hA r f z) (.exit 6) (tmL 49 (lA3 y x (sRw f y x (8 * v + 8)) v)) (hA r f z) := by
  refine loop_rounds hm hT FZok 49 8 (fun u => lA4 y x (sRw f y x (8 * v + u)) v u) (fun _ => hA r f z) (.exit 6) _ _ (fun e => by cases e) (fun u hu => ⟨300, [.b true], ?_⟩) ⟨300, [.b false], ?_⟩ 0 (Nat.zero_le _)
  · show roundK Tryd.prog T FZ 300 cRw4 (tmL 49 (lA4 y x (sRw f y x (8 * v + u)) v u)) (hA r f z) [.b true] [1, 2, 3, 4, 5, 6, 7, 8] _
    obtain ⟨i1, i2⟩ := ixA_eq hv hu
    obtain ⟨k1, k2, k3⟩ := hok.1 v hv u hu
    rw [roundRw4, i2]
    refine ⟨decide_eq_true (by omega), by omega, by omega, k1, i1, by omega, k2, k3, rfl, rfl, ⟨sameV.refl _, sameV.refl _, sameV.refl _, sameV.refl _, sameV.refl _, ?_, sameV.refl _, ivE _ _ (W8n hu), trivial⟩, HpLe.refl _⟩
    rw [sRw_next f y x v u hu]
    exact sameV.refl _
  · show roundK Tryd.prog T FZ 300 cRw4 (tmL 49 (lA4 y x (sRw f y x (8 * v + 8)) v 8)) (hA r f z) [.b false] [1, 2, 3, 4, 5, 6, 7] _
    rw [exitRw4]
    exact ⟨decide_eq_false (by omega), rfl, rfl, ⟨sameV.refl _, sameV.refl _, sameV.refl _, sameV.refl _, sameV.refl _, sameV.refl _, sameV.refl _, trivial⟩, HpLe.refl _⟩
noncomputable def FRw3 (f z : Nat → Nat) (r : Blk) (y x s s' v : Nat) (q : Prop) : Fns := FZ.addLoop 0 cRw4 (loopC 49 (lA4 y x s v 0) (hA r f z) q (.exit 6) (lA3 y x s' v) (hA r f z))
theorem roundRw3 (f z : Nat → Nat) (r : Blk) (y x s s' v : Nat) (q : Prop) (Q : Ex → Nat → List AV → List Blk → Prop) : roundK Tryd.prog T (FRw3 f z r y x s s' v q) 300 cRw3 (tmL 49 (lA3 y x s v)) (hA r f z) [.b true, .l 0] [1, 2, 3, 4, 5, 6, 7] Q =
  (decide ((v : Int) < 8) = true ∧ cRw4 = cRw4 ∧ ((49 = 49 ∧ startLs [P0, P1, P2, ivF y, ivF x, AFd s, ivF v, .one (.sc (.int .i64 0) true)] ((lA4 y x s v 0).map (·.2)) ∧ startBs (hA r f z) (hA r f z)) ∧ q) ∧ Q .normal 49 [P0, P1, P2, ivF y, ivF x, AFd s', ivF (W (v + 1))] (hA r f z)) := by kernel_rfl
theorem exitRw3 (f z : Nat → Nat) (r : Blk) (y x s v : Nat) (Q : Ex → Nat → List AV → List Blk → Prop) : roundK Tryd.prog T FZ 300 cRw3 (tmL 49 (lA3 y x s v)) (hA r f z) [.b false] [1, 2, 3, 4, 5, 6] Q =
  (decide ((v : Int) < 8) = false ∧ Q (.exit 4) 49 [P0, P1, P2, ivF y, ivF x, AFd s] (hA r f z)) := by kernel_rfl
theorem loopRw3 (f z : Nat → Nat) (r : Blk) {y x : Nat} (hy : y < 8) (hx : x < 8) (hok : okRw f y x) : LoopOk Tryd.prog cRw3 (tmL 49 (lA3 y x 0 0)) (hA r f z) (.exit 4) (tmL 49 (lA2s y x (sRw f y x 64))) (hA r f z) := by
  refine loop_roundsF hm hT 49 8 (fun v => lA3 y x (sRw f y x (8 * v)) v) (fun _ => hA r f z) (.exit 4) _ _ (fun e => by cases e) (fun v hv => ⟨FRw3 f z r y x (sRw f y x (8 * v)) (sRw f y x (8 * v + 8)) v True, FZok.addKeep 0 fun _ => loopRw4 f z r hy hx hv hok, 300, [.b true, .l 0], ?_⟩) ⟨FZ, FZok, 300, [.b false], ?_⟩ 0 (Nat.zero_le _)
  · show roundK Tryd.prog T (FRw3 f z r y x (sRw f y x (8 * v)) (sRw f y x (8 * v + 8)) v True) 300 cRw3 (tmL 49 (lA3 y x (sRw f y x (8 * v)) v)) (hA r f z) [.b true, .l 0] [1, 2, 3, 4, 5, 6, 7] _
    rw [roundRw3]
    exact ⟨decide_eq_true (by omega), rfl, ⟨⟨rfl, ⟨rfl, rfl, rfl, rfl, rfl, rfl, rfl, rfl, trivial⟩, startBs.refl _⟩, trivial⟩, rfl, rfl, ⟨sameV.refl _, sameV.refl _, sameV.refl _, sameV.refl _, sameV.refl _, sameV.refl _, ivE _ _ (W8n hv), trivial⟩, HpLe.refl _⟩
  · show roundK Tryd.prog T FZ 300 cRw3 (tmL 49 (lA3 y x (sRw f y x 64) 8)) (hA r f z) [.b false] [1, 2, 3, 4, 5, 6] _
    rw [exitRw3]
    exact ⟨decide_eq_false (by omega), rfl, rfl, ⟨sameV.refl _, sameV.refl _, sameV.refl _, sameV.refl _, sameV.refl _, sameV.refl _, trivial⟩, HpLe.refl _⟩
noncomputable def FRw2 (f z : Nat → Nat) (r : Blk) (y x s' : Nat) (q : Prop) : Fns := FZ.addLoop 1 cRw3 (loopC 49 (lA3 y x 0 0) (hA r f z) q (.exit 4) (lA2s y x s') (hA r f z))
theorem roundRw2 (f z : Nat → Nat) (r : Blk) (y x s' : Nat) (q : Prop) (Q : Ex → Nat → List AV → List Blk → Prop) : roundK Tryd.prog T (FRw2 f z r y x s' q) 300 cRw2 (tmL 49 (lA2 y x)) (hA r f z) [.b true, .l 1] [1, 2, 3, 4, 5] Q =
  (decide ((x : Int) < 8) = true ∧ cRw3 = cRw3 ∧ ((49 = 49 ∧ startLs [P0, P1, P2, ivF y, ivF x, .one (.sc (.float .f64 0) true), .one (.sc (.int .i64 0) true)] ((lA3 y x 0 0).map (·.2)) ∧ startBs (hA r f z) (hA r f z)) ∧ q) ∧ fok .quo .f64 s' four = true ∧ (0 ≤ ixA y x ∧ ixA y x < (64 : Nat)) ∧ placeN 0 (ixA y x) 1 < 64 ∧
   Q .normal 49 [P0, P1, P2, ivF y, ivF (W (x + 1))] (hAo r f z (placeN 0 (ixA y x) 1) (fbin .quo .f64 s' four))) := by kernel_rfl
theorem exitRw2 (f z : Nat → Nat) (r : Blk) (y x : Nat) (Q : Ex → Nat → List AV → List Blk → Prop) : roundK Tryd.prog T FZ 300 cRw2 (tmL 49 (lA2 y x)) (hA r f z) [.b false] [1, 2, 3, 4] Q =
  (decide ((x : Int) < 8) = false ∧ Q (.exit 2) 49 [P0, P1, P2, ivF y] (hA r f z)) := by kernel_rfl
theorem loopRw2 (f : Nat → Nat) (r : Blk) {y : Nat} (hy : y < 8) (hok : ∀ x, x < 8 → okRw f y x) : LoopOk Tryd.prog cRw2 (tmL 49 (lA2 y 0)) (hA r f (ZRw f (8 * y))) (.exit 2) (tmL 49 (lA1 y)) (hA r f (ZRw f (8 * y + 8))) := by
  refine loop_roundsF hm hT 49 8 (fun x => lA2 y x) (fun x => hA r f (ZRw f (8 * y + x))) (.exit 2) _ _ (fun e => by cases e) (fun x hx => ⟨FRw2 f (ZRw f (8 * y + x)) r y x (sRw f y x 64) True, FZok.addKeep 1 fun _ => loopRw3 f _ r hy hx (hok x hx), 300, [.b true, .l 1], ?_⟩) ⟨FZ, FZok, 300, [.b false], ?_⟩ 0 (Nat.zero_le _)
  · show roundK Tryd.prog T (FRw2 f (ZRw f (8 * y + x)) r y x (sRw f y x 64) True) 300 cRw2 (tmL 49 (lA2 y x)) (hA r f (ZRw f (8 * y + x))) [.b true, .l 1] [1, 2, 3, 4, 5] _
    obtain ⟨i1, i2⟩ := ixA_eq hy hx
    rw [roundRw2, i2]
    refine ⟨decide_eq_true (by omega), rfl, ⟨⟨rfl, ⟨rfl, rfl, rfl, rfl, rfl, rfl, rfl, trivial⟩, startBs.refl _⟩, trivial⟩, (hok x hx).2, i1, by omega, rfl, rfl, ⟨sameV.refl _, sameV.refl _, sameV.refl _, sameV.refl _, ivE _ _ (W8n hx), trivial⟩, .refl _, .refl _, suB_le _ _ _ _ fun j hj => ?_, trivial⟩
    show ZRw f (8 * y + (x + 1)) j = bif Nat.beq j (8 * y + x) then fbin .quo .f64 (sRw f y x 64) four else ZRw f (8 * y + x) j
    exact ZRw_next f y x j hx
  · show roundK Tryd.prog T FZ 300 cRw2 (tmL 49 (lA2 y 8)) (hA r f (ZRw f (8 * y + 8))) [.b false] [1, 2, 3, 4] _
    rw [exitRw2]
    exact ⟨decide_eq_false (by omega), rfl, rfl, ⟨sameV.refl _, sameV.refl _, sameV.refl _, sameV.refl _, trivial⟩, HpLe.refl _⟩
noncomputable def FRw1 (f z z' : Nat → Nat) (r : Blk) (y : Nat) (q : Prop) : Fns := FZ.addLoop 2 cRw2 (loopC 49 (lA2 y 0) (hA r f z) q (.exit 2) (lA1 y) (hA r f z'))
theorem roundRw1 (f z z' : Nat → Nat) (r : Blk) (y : Nat) (q : Prop) (Q : Ex → Nat → List AV → List Blk → Prop) : roundK Tryd.prog T (FRw1 f z z' r y q) 300 cRw1 (tmL 49 (lA1 y)) (hA r f z) [.b true, .l 2] [1, 2, 3, 4] Q =
  (decide ((y : Int) < 8) = true ∧ cRw2 = cRw2 ∧ ((49 = 49 ∧ startLs [P0, P1, P2, ivF y, .one (.sc (.int .i64 0) true)] ((lA2 y 0).map (·.2)) ∧ startBs (hA r f z) (hA r f z)) ∧ q) ∧ Q .normal 49 [P0, P1, P2, ivF (W (y + 1))] (hA r f z')) := by kernel_rfl
theorem exitRw1 (f z : Nat → Nat) (r : Blk) (y : Nat) (Q : Ex → Nat → List AV → List Blk → Prop) : roundK Tryd.prog T FZ 300 cRw1 (tmL 49 (lA1 y)) (hA r f z) [.b false] [1, 2, 3] Q =
  (decide ((y : Int) < 8) = false ∧ Q (.exit 0) 49 [P0, P1, P2] (hA r f z)) := by kernel_rfl
theorem loopRw1 (f : Nat → Nat) (r : Blk) (hok : ∀ y, y < 8 → ∀ x, x < 8 → okRw f y x) : LoopOk Tryd.prog cRw1 (tmL 49 (lA1 0)) (hA r f (ZRw f 0)) (.exit 0) (tmL 49 lA0) (hA r f (ZRw f 64)) := by
  refine loop_roundsF hm hT 49 8 lA1 (fun y => hA r f (ZRw f (8 * y))) (.exit 0) _ _ (fun e => by cases e) (fun y hy => ⟨FRw1 f (ZRw f (8 * y)) (ZRw f (8 * y + 8)) r y True, FZok.addKeep 2 fun _ => loopRw2 f r hy (hok y hy), 300, [.b true, .l 2], ?_⟩) ⟨FZ, FZok, 300, [.b false], ?_⟩ 0 (Nat.zero_le _)
  · show roundK Tryd.prog T (FRw1 f (ZRw f (8 * y)) (ZRw f (8 * y + 8)) r y True) 300 cRw1 (tmL 49 (lA1 y)) (hA r f (ZRw f (8 * y))) [.b true, .l 2] [1, 2, 3, 4] _
    rw [roundRw1]
    exact ⟨decide_eq_true (by omega), rfl, ⟨⟨rfl, ⟨rfl, rfl, rfl, rfl, rfl, trivial⟩, startBs.refl _⟩, trivial⟩, rfl, rfl, ⟨sameV.refl _, sameV.refl _, sameV.refl _, ivE _ _ (W8n hy), trivial⟩, HpLe.refl _⟩
  · show roundK Tryd.prog T FZ 300 cRw1 (tmL 49 (lA1 8)) (hA r f (ZRw f 64)) [.b false] [1, 2, 3] _
    rw [exitRw1]
    exact ⟨decide_eq_false (by omega), rfl, rfl, ⟨sameV.refl _, sameV.refl _, sameV.refl _, trivial⟩, HpLe.refl _⟩
theorem ZRw0 (f : Nat → Nat) : startB zB (ssB (ZRw f 0)) := startB_rng fun j _ => ⟨_, true, false, rfl, rfl⟩
noncomputable def FRwn (f : Nat → Nat) (q : Prop) : Fns := FZ.addLoop 3 cRw1 (loopC 49 (lA1 0) (hA zB f (ZRw f 0)) q (.exit 0) lA0 (hA zB f (ZRw f 64)))
theorem run12 (f : Nat → Nat) (q : Prop) (u : Value) : runK Tryd.prog T (FRwn f q) 300 Tryd.f12 [.agg (flC f)] [] [.l 3] (fun r _ => resW r = some u) =
  (cRw1 = cRw1 ∧ ((49 = 49 ∧ startLs [P0, P1, P2, .one (.sc (.int .i64 0) true)] ((lA1 0).map (·.2)) ∧ startBs [agB f, zB, zB] (hA zB f (ZRw f 0))) ∧ q) ∧ 64 ≤ 64 ∧ some (flA (ZRw f 64)) = some u) := by kernel_rfl
def GRw : List ArgV → Option (Prop × Value)
  | [.val (.agg a)] => fltsK .f64 a.toList fun xs => if xs.length = 64 then some ((∀ y, y < 8 → ∀ x, x < 8 → okRw (xs.getD · 0) y x), flA (ZRw (xs.getD · 0) 64)) else none
  | _ => none
open Classical in
theorem con12 : ConP Tryd.prog 12 GRw := by
  have hF : ∀ f, (∀ y, y < 8 → ∀ x, x < 8 → okRw f y x) → FnsOk Tryd.prog (FRwn f True) := fun f h => FZok.addKeep 3 fun _ => loopRw1 f zB h
  refine ⟨Tryd.call12, fun avs p u h hp => ?_⟩
  unfold GRw at h
  split at h
  · rename_i a
    obtain ⟨xs, ha, h2⟩ := fltsK_spec _ _ _ h
    clear h
    split at h2
    · rename_i hl
      simp only [Option.some.injEq, Prod.mk.injEq] at h2
      obtain ⟨rfl, rfl⟩ := h2
      obtain ⟨a⟩ := a
      have ha' : a = xs.map (Value.float .f64) := ha
      subst ha'
      exact (conP_of_runW (G := fun b => if b = [.val (.agg (xs.map (Value.float .f64)).toArray)] then some (True, flA (ZRw (xs.getD · 0) 64)) else none) hm hT (hF _ hp) Tryd.func12 Tryd.call12 fun avs p u h _ => by
        split at h
        · rename_i ha
          simp only [Option.some.injEq, Prod.mk.injEq] at h
          obtain ⟨_, rfl⟩ := h
          subst ha
          exact ⟨[], 300, [.l 3], _, _, canonL xs hl, of_run (run12 _ _ _) ⟨rfl, ⟨⟨rfl, ⟨rfl, rfl, rfl, rfl, trivial⟩, sB_ag _, startB.refl _, ZRw0 _, trivial⟩, trivial⟩, Nat.le_refl _, rfl⟩⟩
        · cases h).2 _ True _ (if_pos rfl) trivial
    · cases h2
  · cases h
end Go.Proofs.YtcfbhlpmhlmekaaDoor
