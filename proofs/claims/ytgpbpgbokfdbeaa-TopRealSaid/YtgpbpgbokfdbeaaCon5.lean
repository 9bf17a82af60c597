/-
  What is proved here: the contract of small. A text to be imported.
-/
import Derived.Test.YtgpbpgbokfdbeaaCon4
namespace Go.Proofs.Ytgpbpgbokfdbeaa
open Sm Go Go.RowKit
set_option maxRecDepth 1000000
set_option linter.unusedVariables false
def fI (l : Nat → Int) (k : Nat) : List C1 := [.sc (.int .i32 (l k)) false]
def lst (n : Nat) (l : Nat → Int) : AV := .one (.lst n n 1 (fI l))
noncomputable def cSm : Code := pathC (bodyC Try.f7) [0]
def pp1 : AV := .one (.ptr 1 0)
def pp2 : AV := .one (.ptr 2 0)
def lSm (n : Nat) (l : Nat → Int) (i : Nat) : List (Nat × AV) := [(0, lst n l), (2, pp1), (3, pp2), (4, iv i)]
def zS : Blk := { body := .li ((List.range 64).map fun _ => .sc (.int .i32 0) true), elem := 24, live := true, ro := false }
def sS (f : Nat → Int) : Blk := { body := syI .i32 64 f, elem := 24, live := true, ro := false }
def hSm (f : Nat → Int) : List Blk := [deadB, zS, sS f]
theorem roundSm (f l : Nat → Int) (n i : Nat) (Q : Ex → Nat → List AV → List Blk → Prop) : roundK Try.prog T Fns.none 300 cSm (tmL 23 (lSm n l i)) (hSm f) [.b true] [0, 2, 3, 4] Q =
  ((bif decide ((i : Int) < 64) then decide ((i : Int) < n) else false) = true ∧ (0 ≤ (i : Int) ∧ (i : Int) < n) ∧ (0 ≤ (i : Int) ∧ (i : Int) < (64 : Nat)) ∧ placeN 0 (i : Int) 1 < 64 ∧
   Q .normal 23 [lst n l, pp1, pp2, iv (W ((i : Int) + 1))] [deadB, zS, { body := .sy 64 (updG (fun j => .sc (.int .i32 (f j)) false) (placeN 0 (i : Int) 1) (.sc (.int .i32 ((l (i : Int).toNat).tmod 2049)) false)), elem := 24, live := true, ro := false }]) := by kernel_rfl
theorem exitSm (f l : Nat → Int) (n i : Nat) (Q : Ex → Nat → List AV → List Blk → Prop) : roundK Try.prog T Fns.none 300 cSm (tmL 23 (lSm n l i)) (hSm f) [.b false] [2, 3] Q =
  ((bif decide ((i : Int) < 64) then decide ((i : Int) < n) else false) = false ∧ Q (.exit 0) 23 [pp1, pp2] (hSm f)) := by kernel_rfl
/-- The small coefficients. -/
def smF (l : Nat → Int) (i j : Nat) : Int := if j < i then (l j).tmod 2049 else 0
def smN (n : Nat) : Nat := if n < 64 then n else 64
def smV (n : Nat) (l : Nat → Int) (j : Nat) : Int := smF l (smN n) j
theorem pl1 (k : Nat) : placeN 0 (k : Int) 1 = k := by unfold placeN; simp
theorem smN_le (n : Nat) : smN n ≤ 64 ∧ smN n ≤ n := by unfold smN; split <;> omega
theorem loopSm (n : Nat) (l : Nat → Int) : LoopOk Try.prog cSm (tmL 23 (lSm n l 0)) (hSm (smF l 0)) (.exit 0) (tmL 23 [(2, pp1), (3, pp2)]) (hSm (smV n l)) := by
  refine loop_rounds hm hT FnsOk.none 23 (smN n) (fun i => lSm n l i) (fun i => hSm (smF l i)) (.exit 0) _ _ (fun e => by cases e) (fun i hi => ⟨300, [.b true], ?_⟩) ⟨300, [.b false], ?_⟩ 0 (Nat.zero_le _)
  · show roundK Try.prog T Fns.none 300 cSm (tmL 23 (lSm n l i)) (hSm (smF l i)) [.b true] [0, 2, 3, 4] _
    obtain ⟨h1, h2⟩ := smN_le n
    rw [roundSm, pl1]
    refine ⟨by rw [decide_eq_true (show (i : Int) < 64 by omega)]; exact decide_eq_true (by omega), ⟨by omega, by omega⟩, ⟨by omega, by omega⟩, by omega, rfl, rfl, ⟨sameV.refl _, sameV.refl _, sameV.refl _, congrArg (Value.int .i64) (W1 (by omega)), trivial⟩, .refl _, .refl _, sy_le fun j hj => ?_, trivial⟩
    show pickC (Nat.beq j i) (.sc (.int .i32 ((l (i : Int).toNat).tmod 2049)) false) (.sc (.int .i32 (smF l i j)) false) = .sc (.int .i32 (smF l (i + 1) j)) false
    rw [Int.toNat_natCast]
    by_cases h : j = i
    · subst h
      rw [show Nat.beq j j = true from Nat.beq_refl j]
      show C1.sc (.int .i32 ((l j).tmod 2049)) false = _
      unfold smF
      rw [if_pos (by omega)]
    · rw [show Nat.beq j i = false from by rw [beq_eq]; simpa using h]
      show C1.sc (.int .i32 (smF l i j)) false = _
      unfold smF
      by_cases h3 : j < i
      · rw [if_pos h3, if_pos (by omega)]
      · rw [if_neg h3, if_neg (by omega)]
  · show roundK Try.prog T Fns.none 300 cSm (tmL 23 (lSm n l (smN n))) (hSm (smF l (smN n))) [.b false] [2, 3] _
    rw [exitSm]
    refine ⟨?_, rfl, rfl, ⟨sameV.refl _, sameV.refl _, trivial⟩, HpLe.refl _⟩
    by_cases h : n < 64
    · rw [show smN n = n from if_pos h, decide_eq_false (show ¬ (n : Int) < n by omega)]
      cases decide ((n : Int) < 64) <;> rfl
    · rw [show smN n = 64 from if_neg h]; rfl
noncomputable def FSm (n : Nat) (l : Nat → Int) (q : Prop) : Fns := Fns.none.addLoop 0 cSm (loopC 23 (lSm n l 0) (hSm (smF l 0)) q (.exit 0) [(2, pp1), (3, pp2)] (hSm (smV n l)))
def smA (n : Nat) (l : Nat → Int) : AV := .agg ((List.range 64).map fun j => .sc (.int .i32 (smV n l j)) false)
theorem sB_zS (l : Nat → Int) : startB zS (sS (smF l 0)) := startB_rng fun j _ => ⟨.int .i32 0, true, false, rfl, by show C1.sc (.int .i32 (smF l 0 j)) false = _; unfold smF; rw [if_neg (by omega)]⟩
theorem runSm (n : Nat) (l : Nat → Int) (q : Prop) (K : Option AV → List Blk → Prop) : runK Try.prog T (FSm n l q) 300 Try.f7 [lst n l] [deadB] [.l 0] K =
  (cSm = cSm ∧ ((23 = 23 ∧ startLs [lst n l, pp1, pp2, .one (.sc (.int .i64 0) true)] ((lSm n l 0).map (·.2)) ∧ startBs [deadB, zS, zS] (hSm (smF l 0))) ∧ q) ∧ 64 ≤ 64 ∧
   K (some (smA n l)) [deadB, { body := .li ((List.range 64).map fun j => .sc (.int .i32 (smV n l j)) false), elem := 24, live := true, ro := false }, sS (smV n l)]) := by kernel_rfl
def zO (g : Nat → List C1) (k : Nat) : Int := match g k with
  | [.sc (.int .i32 z) _] => z
  | _ => 0
def GSmall : List AV → Option (Prop × AV × Blk)
  | [.one (.lst n N 1 g)] => some ((n = N ∧ ∀ k, g k = fI (zO g) k), smA n (zO g), deadB)
  | _ => none
theorem renCs_sc {a z : Nat} {js : List Nat} {hp : List Blk} : ∀ {l : List C1}, (∀ c ∈ l, ∃ v s, c = .sc v s) → renCs a z js hp l l
  | [], _ => trivial
  | c :: l, h => by
    obtain ⟨v, s, rfl⟩ := h c (by simp)
    exact ⟨scC_eq rfl, renCs_sc fun c hc => h c (by simp [hc])⟩
theorem gcon7 : GCon Try.prog 7 GSmall := by
  refine gcon_of_run hm hT Try.func7 Try.call7 fun args p v b h hp => ?_
  unfold GSmall at h
  split at h
  · rename_i n N g
    simp only [Option.some.injEq, Prod.mk.injEq] at h
    obtain ⟨rfl, rfl, rfl⟩ := h
    obtain ⟨rfl, hg⟩ := hp
    have e : AV.one (.lst n n 1 g) = lst n (zO g) := by
      unfold lst
      rw [show g = fI (zO g) from funext hg]
      rfl
    rw [e]
    refine ⟨.inl rfl, dead_free, FSm n (zO g) True, FnsOk.none.addKeep 0 fun _ => loopSm n (zO g), 300, [.l 0], [], ?_⟩
    refine of_run (runSm n (zO g) _ _) ⟨rfl, ⟨⟨rfl, ⟨rfl, rfl, rfl, rfl, trivial⟩, .refl _, .refl _, sB_zS _, trivial⟩, trivial⟩, Nat.le_refl _, _, rfl, nothing_left noFroz ?_⟩
    show renCs _ _ _ _ _ _
    refine renCs_sc fun c hc => ?_
    obtain ⟨j, _, rfl⟩ := List.mem_map.1 hc
    exact ⟨_, _, rfl⟩
  · cases h
end Go.Proofs.Ytgpbpgbokfdbeaa
