/-
  What is proved here: the loops and the contract of real. A text to be imported.
-/
import Derived.Test.YtgpbpgbokfdbeaaCon3
import Derived.Test.YtgpbpgbokfdbeaaSimW
import Derived.Test.YtgpbpgbokfdbeaaSimY
namespace Go.Proofs.Ytgpbpgbokfdbeaa
open Sm Go Go.RowKit
set_option maxRecDepth 1000000
set_option linter.unusedVariables false
noncomputable def FRl : Fns := Fns.none.addP 25 GCosine
theorem FRlok : FnsOk Try.prog FRl := FnsOk.none.addP conCos
noncomputable def LR1 : Code := pathC (bodyC Try.f10) [0]
noncomputable def LR2 : Code := pathC (bodyC Try.f10) [0, 0]
def bR (f : Nat → Int) : Blk := { body := syI .i32 64 f, elem := 24, live := true, ro := true }
def iv (n : Int) : AV := .one (.sc (.int .i64 n) false)
def lR1 (r c : Nat) (s v : Nat) : List (Nat × AV) := [(0, p00), (1, iv r), (2, iv c), (7, AF s), (8, iv v)]
def lR2 (r c : Nat) (s v u : Nat) : List (Nat × AV) := [(0, p00), (1, iv r), (2, iv c), (7, AF s), (8, iv v), (9, iv u)]
def kI (c u : Nat) : Int := W (W (W (2 * (c : Int)) + 1) * (u : Int))
def cI (c u : Nat) : Nat := cosT.getD (kI c u).toNat 0
def w4 : Nat := 4616189618054758400
def wrt : Nat := 4604544271217802189
def p0W (r c v u : Nat) : Nat := fbin .mul .f64 (cI c u) (cI r v)
def p1W (r c v u : Nat) : Nat := fbin .quo .f64 (p0W r c v u) w4
def p2W (r c v u : Nat) : Nat := fbin .mul .f64 (p1W r c v u) wrt
def p3W (r c v u : Nat) : Nat := bif (u : Int) == 0 then p2W r c v u else p1W r c v u
def p4W (r c v u : Nat) : Nat := fbin .mul .f64 (p3W r c v u) wrt
def wW (r c v u : Nat) : Nat := bif (v : Int) == 0 then p4W r c v u else p3W r c v u
def plI (v u : Nat) : Nat := placeN 0 (ix v u) 1
def tW (f : Nat → Int) (r c v u : Nat) : Nat := fbin .mul .f64 (wW r c v u) (i2f (f (plI v u)))
theorem roundR2 (f : Nat → Int) (r c s v u : Nat) (Q : Ex → Nat → List AV → List Blk → Prop) : roundK Try.prog T FRl 300 LR2 (tmL 55 (lR2 r c s v u)) [bR f] [.b true, .m, .m] [0, 1, 2, 7, 8, 9] Q =
  (decide ((u : Int) < 8) = true ∧ (0 ≤ kI c u ∧ kI c u < 106) ∧ (0 ≤ kI r v ∧ kI r v < 106) ∧ fok .mul .f64 (cI c u) (cI r v) = true ∧ fok .quo .f64 (p0W r c v u) w4 = true ∧ fok .mul .f64 (p1W r c v u) wrt = true ∧ fok .mul .f64 (p3W r c v u) wrt = true ∧
   (0 ≤ ix v u ∧ ix v u < (64 : Nat)) ∧ plI v u < 64 ∧ fok .mul .f64 (wW r c v u) (i2f (f (plI v u))) = true ∧ fok .add .f64 s (tW f r c v u) = true ∧
   Q .normal 55 [p00, iv r, iv c, AF (fbin .add .f64 s (tW f r c v u)), iv v, iv (W ((u : Int) + 1))] [bR f]) := by kernel_rfl
theorem exitR2 (f : Nat → Int) (r c s v u : Nat) (Q : Ex → Nat → List AV → List Blk → Prop) : roundK Try.prog T FRl 300 LR2 (tmL 55 (lR2 r c s v u)) [bR f] [.b false] [0, 1, 2, 7, 8] Q =
  (decide ((u : Int) < 8) = false ∧ Q (.exit 2) 55 [p00, iv r, iv c, AF s, iv v] [bR f]) := by kernel_rfl
/-- A term of a real sample, by its place; the sum. -/
def tI (f : Nat → Int) (r c j : Nat) : Nat := tW f r c (j / 8) (j % 8)
def sumR (f : Nat → Int) (r c k : Nat) : Nat := fsum (tI f r c) 0 k
def okT (f : Nat → Int) (r c v u : Nat) : Prop := fok .mul .f64 (cI c u) (cI r v) = true ∧ fok .quo .f64 (p0W r c v u) w4 = true ∧ fok .mul .f64 (p1W r c v u) wrt = true ∧ fok .mul .f64 (p3W r c v u) wrt = true ∧
  fok .mul .f64 (wW r c v u) (i2f (f (8 * v + u))) = true ∧ fok .add .f64 (sumR f r c (8 * v + u)) (tI f r c (8 * v + u)) = true
def okReal (f : Nat → Int) (r c : Nat) : Prop := ∀ v, v < 8 → ∀ u, u < 8 → okT f r c v u
theorem kI_eq {c u : Nat} (hc : c < 8) (hu : u < 8) : kI c u = (((2 * c + 1) * u : Nat) : Int) ∧ (2 * c + 1) * u < 106 := by
  have h : (2 * c + 1) * u ≤ 15 * 7 := Nat.mul_le_mul (by omega) (by omega)
  have e1 : W (2 * (c : Int)) = 2 * (c : Int) := w64 (by omega) (by omega)
  have e2 : W (2 * (c : Int) + 1) = ((2 * c + 1 : Nat) : Int) := (w64 (by omega) (by omega) : W (2 * (c : Int) + 1) = 2 * (c : Int) + 1).trans (by omega)
  unfold kI
  rw [e1, e2, ← Int.natCast_mul]
  exact ⟨w64 (by omega) (by omega), by omega⟩
theorem plI_eq {v u : Nat} (hv : v < 8) (hu : u < 8) : plI v u = 8 * v + u ∧ ix v u = ((8 * v + u : Nat) : Int) := by
  have e : ix (v : Nat) (u : Nat) = ((8 * v + u : Nat) : Int) := by rw [ix_eq (by omega) (by omega) (by omega) (by omega)]; omega
  unfold plI
  rw [e]
  exact ⟨by unfold placeN; simp; omega, rfl⟩
theorem tW_eq (f : Nat → Int) (r c : Nat) {v u : Nat} (hv : v < 8) (hu : u < 8) : tW f r c v u = tI f r c (8 * v + u) := by
  unfold tI
  rw [show (8 * v + u) / 8 = v from by omega, show (8 * v + u) % 8 = u from by omega]
theorem W1 {k : Nat} (h : k < 64) : W ((k : Int) + 1) = ((k + 1 : Nat) : Int) := by rw [show ((k : Int) + 1) = ((k + 1 : Nat) : Int) by omega]; exact w64 (by omega) (by omega)
theorem loopR2 (f : Nat → Int) (r c v : Nat) (hr : r < 8) (hc : c < 8) (hv : v < 8) (hok : okReal f r c) : LoopOk Try.prog LR2 (tmL 55 (lR2 r c (sumR f r c (8 * v)) v 0)) [bR f] (.exit 2) (tmL 55 (lR1 r c (sumR f r c (8 * v + 8)) v)) [bR f] := by
  refine loop_rounds hm hT FRlok 55 8 (fun u => lR2 r c (sumR f r c (8 * v + u)) v u) (fun _ => [bR f]) (.exit 2) _ _ (fun e => by cases e) (fun u hu => ⟨300, [.b true, .m, .m], ?_⟩) ⟨300, [.b false], ?_⟩ 0 (Nat.zero_le _)
  · show roundK Try.prog T FRl 300 LR2 (tmL 55 (lR2 r c (sumR f r c (8 * v + u)) v u)) [bR f] [.b true, .m, .m] [0, 1, 2, 7, 8, 9] _
    obtain ⟨a1, a2, a3, a4, a5, a6⟩ := hok v hv u hu
    obtain ⟨k1, k2⟩ := kI_eq hc hu
    obtain ⟨k3, k4⟩ := kI_eq hr hv
    obtain ⟨q1, q2⟩ := plI_eq hv hu
    rw [roundR2, q1, q2, tW_eq f r c hv hu, k1, k3]
    refine ⟨decide_eq_true (by omega), ⟨by omega, by omega⟩, ⟨by omega, by omega⟩, a1, a2, a3, a4, ⟨by omega, by omega⟩, by omega, a5, a6, rfl, rfl, ⟨sameV.refl _, sameV.refl _, sameV.refl _, rfl, sameV.refl _, congrArg (Value.int .i64) (W1 (by omega)), trivial⟩, .refl _, trivial⟩
  · show roundK Try.prog T FRl 300 LR2 (tmL 55 (lR2 r c (sumR f r c (8 * v + 8)) v 8)) [bR f] [.b false] [0, 1, 2, 7, 8] _
    rw [exitR2]
    exact ⟨decide_eq_false (by omega), rfl, rfl, ⟨sameV.refl _, sameV.refl _, sameV.refl _, sameV.refl _, sameV.refl _, trivial⟩, HpLe.refl _⟩
noncomputable def FRv (f : Nat → Int) (r c v : Nat) (q : Prop) : Fns := FRl.addLoop 1 LR2 (loopC 55 (lR2 r c (sumR f r c (8 * v)) v 0) [bR f] q (.exit 2) (lR1 r c (sumR f r c (8 * v + 8)) v) [bR f])
theorem roundR1 (f : Nat → Int) (r c v : Nat) (q : Prop) (Q : Ex → Nat → List AV → List Blk → Prop) : roundK Try.prog T (FRv f r c v q) 300 LR1 (tmL 55 (lR1 r c (sumR f r c (8 * v)) v)) [bR f] [.b true, .l 1] [0, 1, 2, 7, 8] Q =
  (decide ((v : Int) < 8) = true ∧ LR2 = LR2 ∧ ((55 = 55 ∧ startLs [p00, iv r, iv c, AF (sumR f r c (8 * v)), iv v, .one (.sc (.int .i64 0) true)] ((lR2 r c (sumR f r c (8 * v)) v 0).map (·.2)) ∧ startBs [bR f] [bR f]) ∧ q) ∧ Q .normal 55 [p00, iv r, iv c, AF (sumR f r c (8 * v + 8)), iv (W ((v : Int) + 1))] [bR f]) := by kernel_rfl
theorem exitR1 (f : Nat → Int) (r c s v : Nat) (Q : Ex → Nat → List AV → List Blk → Prop) : roundK Try.prog T FRl 300 LR1 (tmL 55 (lR1 r c s v)) [bR f] [.b false] [0, 1, 2, 7] Q =
  (decide ((v : Int) < 8) = false ∧ Q (.exit 0) 55 [p00, iv r, iv c, AF s] [bR f]) := by kernel_rfl
def lRf (r c s : Nat) : List (Nat × AV) := [(0, p00), (1, iv r), (2, iv c), (7, AF s)]
theorem loopR1 (f : Nat → Int) (r c : Nat) (hr : r < 8) (hc : c < 8) (hok : okReal f r c) : LoopOk Try.prog LR1 (tmL 55 (lR1 r c 0 0)) [bR f] (.exit 0) (tmL 55 (lRf r c (sumR f r c 64))) [bR f] := by
  refine loop_roundsF hm hT 55 8 (fun v => lR1 r c (sumR f r c (8 * v)) v) (fun _ => [bR f]) (.exit 0) _ _ (fun e => by cases e) (fun v hv => ⟨FRv f r c v True, FRlok.addKeep 1 fun _ => loopR2 f r c v hr hc hv hok, 300, [.b true, .l 1], ?_⟩) ⟨FRl, FRlok, 300, [.b false], ?_⟩ 0 (Nat.zero_le _)
  · show roundK Try.prog T (FRv f r c v True) 300 LR1 (tmL 55 (lR1 r c (sumR f r c (8 * v)) v)) [bR f] [.b true, .l 1] [0, 1, 2, 7, 8] _
    rw [roundR1]
    refine ⟨decide_eq_true (by omega), rfl, ⟨⟨rfl, ⟨rfl, rfl, rfl, rfl, rfl, rfl, trivial⟩, startBs.refl _⟩, trivial⟩, rfl, rfl, ⟨sameV.refl _, sameV.refl _, sameV.refl _, rfl, congrArg (Value.int .i64) (W1 (by omega)), trivial⟩, .refl _, trivial⟩
  · show roundK Try.prog T FRl 300 LR1 (tmL 55 (lR1 r c (sumR f r c 64) 8)) [bR f] [.b false] [0, 1, 2, 7] _
    rw [exitR1]
    exact ⟨decide_eq_false (by omega), rfl, rfl, ⟨sameV.refl _, sameV.refl _, sameV.refl _, sameV.refl _, trivial⟩, HpLe.refl _⟩
noncomputable def FRn (f : Nat → Int) (r c : Nat) (q : Prop) : Fns := FRl.addLoop 0 LR1 (loopC 55 (lR1 r c 0 0) [bR f] q (.exit 0) (lRf r c (sumR f r c 64)) [bR f])
theorem startB_rng {m : Nat → C1} {t : TypeId} {ro : Bool} {n : Nat} {g : Nat → C1} (h : ∀ j, j < n → ∃ v s s', m j = .sc v s ∧ g j = .sc v s') :
    startB { body := .li ((List.range n).map m), elem := t, live := true, ro := ro } { body := .sy n g, elem := t, live := true, ro := ro } := by
  refine .inr ⟨rfl, rfl, rfl, fun E vs hr => ⟨?_, fun j c v hc hv => ?_⟩⟩
  · rw [← hr.1]
    show (symC _ _).length = ((List.range n).map m).length
    rw [symC_length]; simp
  · have hj : j < n := by
      have := (List.getElem?_eq_some_iff.1 hc).1
      rwa [show ({ body := .sy n g, elem := t, live := true, ro := ro } : Blk).cells = symC n g from rfl, symC_length] at this
    rw [show ({ body := .sy n g, elem := t, live := true, ro := ro } : Blk).cells = symC n g from rfl, symC_get _ _ hj] at hc
    simp only [Option.some.injEq] at hc
    obtain ⟨u, s, s', e1, e2⟩ := h j hj
    have := hr.2 j (.sc u s) v (show ((List.range n).map m)[j]? = _ by simp [hj, e1]) hv
    rw [← hc, e2]
    exact this
theorem sB_arg (f : Nat → Int) : startB (iP_13 f) (bR f) := startB_rng fun j _ => ⟨_, false, false, rfl, rfl⟩
theorem runReal (f : Nat → Int) (r c : Nat) (q : Prop) (u : Value) : runK Try.prog T (FRn f r c q) 300 Try.f10 [p00, iv r, iv c] [iP_13 f] [.l 0] (fun r _ => resW r = some u) =
  (LR1 = LR1 ∧ ((55 = 55 ∧ startLs [p00, iv r, iv c, .one (.sc (.float .f64 0) true), .one (.sc (.int .i64 0) true)] ((lR1 r c 0 0).map (·.2)) ∧ startBs [iP_13 f] [bR f]) ∧ q) ∧ some (Value.float .f64 (sumR f r c 64)) = some u) := by kernel_rfl
def GReal : List ArgV → Option (Prop × Value)
  | [.mem e cs, .val (.int .i64 r), .val (.int .i64 c)] => if e = 24 then intsK .i32 cs (vecN 64 fun f => some ((0 ≤ r ∧ r < 8 ∧ 0 ≤ c ∧ c < 8 ∧ okReal f r.toNat c.toNat), .float .f64 (sumR f r.toNat c.toNat 64))) else none
  | _ => none
theorem canonR (b : Nat → Int) (r c : Nat) : canon2 [] [.mem 24 (valsK .i32 64 b), .val (.int .i64 r), .val (.int .i64 c)] 0 = some ([p00, iv r, iv c], [iP_13 b]) := by kernel_rfl
open Classical in
theorem conReal : ConP Try.prog 10 GReal := by
  refine ⟨Try.call10, fun avs p u h hp => ?_⟩
  unfold GReal at h
  split at h
  · rename_i e cs r c
    split at h
    · rename_i he
      subst he
      obtain ⟨b, rfl, h2⟩ := arrK_spec h
      clear h
      simp only [Option.some.injEq, Prod.mk.injEq] at h2
      obtain ⟨rfl, rfl⟩ := h2
      obtain ⟨r0, r1, c0, c1, hok⟩ := hp
      obtain ⟨r, rfl⟩ : ∃ n : Nat, r = (n : Int) := ⟨r.toNat, by omega⟩
      obtain ⟨c, rfl⟩ : ∃ n : Nat, c = (n : Int) := ⟨c.toNat, by omega⟩
      rw [Int.toNat_natCast, Int.toNat_natCast] at hok
      rw [Int.toNat_natCast, Int.toNat_natCast]
      have hF : FnsOk Try.prog (FRn b r c True) := FRlok.addKeep 0 fun _ => loopR1 b r c (by omega) (by omega) hok
      exact (conP_of_runW (G := fun a => if a = [.mem 24 (valsK .i32 64 b), .val (.int .i64 r), .val (.int .i64 c)] then some (True, .float .f64 (sumR b r c 64)) else none) hm hT hF Try.func10 Try.call10 fun avs p u h _ => by
        split at h
        · rename_i ha
          simp only [Option.some.injEq, Prod.mk.injEq] at h
          obtain ⟨_, rfl⟩ := h
          subst ha
          exact ⟨[], 300, [.l 0], _, _, canonR b r c, of_run (runReal _ _ _ _ _) ⟨rfl, ⟨⟨rfl, ⟨rfl, rfl, rfl, rfl, rfl, trivial⟩, sB_arg _, trivial⟩, trivial⟩, rfl⟩⟩
        · cases h).2 _ True _ (if_pos rfl) trivial
    · cases h
  · cases h
end Go.Proofs.Ytgpbpgbokfdbeaa
