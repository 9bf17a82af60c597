/-
  What is proved here: the walk of the law of levels. numbers that the laws let in. the law of levels, with no program in sight but the floats. the law of levels, with no program in sight but the floats: its bounds hold. the contract of the law of levels. contracts of the laws' own helpers: fit. contracts of the laws' own helpers: twin, close; of wave.Back, wave.Power. A text to be imported.
-/
import Derived.Test.YthddkcoflnbjbaaDoorQCon12
import Derived.Test.YthddkcoflnbjbaaDoorQLaw13
import Derived.Test.YthddkcoflnbjbaaDoorQLaw9
namespace Go.Proofs.YthddkcoflnbjbaaDoor
open Sm Go Go.RowKit Fl Ieee
set_option maxRecDepth 1000000
set_option linter.unusedVariables false
def bigW : Nat := 5953594944729471431
end Go.Proofs.YthddkcoflnbjbaaDoor
namespace Go.Proofs.YthddkcoflnbjbaaDoor
open Sm Go Go.RowKit Fl Ieee
set_option maxRecDepth 100000
set_option linter.unusedVariables false
theorem abs_back {x : Nat} (h : fnum .f64 (x % 2 ^ 63)) : fnum .f64 x := by
  obtain ⟨s, m, p, hr⟩ := h
  have hs : FloatKind.f64.format.signWeight = 2 ^ 63 := rfl
  refine ⟨decide (x / 2 ^ 63 % 2 = 1), m, p, ?_⟩
  unfold Format.read at hr ⊢
  rw [hs] at hr ⊢
  simp only at hr ⊢
  have hm : x % 2 ^ 63 % 2 ^ 63 = x % 2 ^ 63 := Nat.mod_mod _ _
  rw [hm] at hr
  split at hr
  · rename_i h1
    rw [if_pos h1]
    simp only [Datum.number.injEq] at hr ⊢
    exact ⟨by first | rfl | simp, hr.2⟩
  · rename_i h1
    rw [if_neg h1]
    split at hr
    · rename_i h2
      rw [if_pos h2]
      simp only [Datum.number.injEq] at hr ⊢
      exact ⟨by first | rfl | simp, hr.2⟩
    · split at hr <;> cases hr
theorem abs_sign {x : Nat} {s : Bool} (h : FloatKind.f64.format.read (x % 2 ^ 63) = .infinity s) : s = false := by
  have hs : FloatKind.f64.format.signWeight = 2 ^ 63 := rfl
  unfold Format.read at h
  rw [hs] at h
  simp only at h
  have hd : x % 2 ^ 63 / 2 ^ 63 % 2 = 0 := by omega
  rw [hd] at h
  split at h
  · cases h
  · split at h
    · cases h
    · split at h
      · simp only [Datum.infinity.injEq] at h
        rw [← h]; rfl
      · cases h
theorem abs_le_num {y b : Nat} (hb : fnum .f64 b) (h : fle (absW y) b = true) : fnum .f64 y ∧ fv .f64 y ≤ fv .f64 b ∧ -fv .f64 b ≤ fv .f64 y := by
  have hb' := hb
  obtain ⟨sb, mb, pb, rb⟩ := hb
  have hx : fnum .f64 (absW y) := by
    cases hr : FloatKind.f64.format.read (absW y) with
    | number s m p => exact ⟨s, m, p, hr⟩
    | infinity s =>
      exfalso
      obtain rfl := abs_sign (x := y) (by rw [← absW_eq]; exact hr)
      unfold fle Format.order at h
      rw [hr, rb] at h
      simp [Datum.order] at h
    | nan s t =>
      exfalso
      unfold fle Format.order at h
      rw [hr] at h
      simp [Datum.order] at h
  have hy : fnum .f64 y := abs_back (by rw [← absW_eq]; exact hx)
  obtain ⟨n1, n2, n3⟩ := absW_num hy
  have hle := (fle_iff n1 hb').1 h
  exact ⟨hy, by grind, by grind⟩
end Go.Proofs.YthddkcoflnbjbaaDoor
namespace Go.Proofs.YthddkcoflnbjbaaDoor
open Sm Go Go.RowKit Fl Ieee
set_option maxRecDepth 100000
set_option linter.unusedVariables false
def GG : Rat := 10000000000000000000000000000000000000000000000000000000000000000000000000000000000000000000000000000000000000000000000000000000000000000000000000000000000000000000000000000000000000000000000000000000000000000000000000000
theorem tp_GG : ∀ c : Rat, c ≤ GG → c < tp .f64 := fun c h => by
  have h1 := pw_nat 1000
  have h2 : pw ((1000 : Nat) : Int) ≤ tp .f64 := by unfold tp; rw [top64]; exact pw_mono (by decide)
  have h3 : GG < ((2 ^ 1000 : Nat) : Rat) := by unfold GG; decide +kernel
  rw [← h1] at h3
  grind
def ab (r : Rat) : Rat := if 0 ≤ r then r else -r
theorem ab_bd (r : Rat) : 0 ≤ ab r ∧ r ≤ ab r ∧ -ab r ≤ r := by unfold ab; split <;> (refine ⟨?_, ?_, ?_⟩ <;> grind)
theorem ab_le {r b : Rat} (h1 : r ≤ b) (h2 : -b ≤ r) : ab r ≤ b := by unfold ab; split <;> grind
theorem ab_ap {y : Nat} (h : fnum .f64 y) : Ap (absW y) (ab (fv .f64 y)) 0 := by
  obtain ⟨n1, n2, n3⟩ := absW_num h
  refine .of ⟨n1, ?_⟩
  unfold ab
  rcases n3 with ⟨e, h0⟩ | ⟨e, h0⟩
  · rw [if_pos h0, e]
  · rw [e]; split <;> grind
/-! ### the sums -/
end Go.Proofs.YthddkcoflnbjbaaDoor
namespace Go.Proofs.YthddkcoflnbjbaaDoor
open Sm Go Go.RowKit Fl Ieee
set_option maxRecDepth 1000000
set_option linter.unusedVariables false
noncomputable def cA : Code := pathC (bodyC Tryd.f15) [0]
def fF (xs : Nat → Nat) (k : Nat) : List C1 := [FC (xs k)]
def xF (m : Nat) (xs : Nat → Nat) : AV := .one (.lst m m 1 (fF xs))
def AFl (x : Nat) : AV := .one (FC x)
def lA (m : Nat) (xs : Nat → Nat) (n : Int) : List (Nat × AV) := [(0, xF m xs), (4, iv n)]
theorem roundA (m : Nat) (xs : Nat → Nat) (n : Int) (Q : Ex → Nat → List AV → List Blk → Prop) : roundK Tryd.prog T FT 300 cA (tmL 83 (lA m xs n)) [deadB] [.b true] [0, 4] Q =
  ((bif decide (W (2 * n) ≤ W ((m : Int).tdiv 2)) then decide (n < 2048) else false) = true ∧ Q .normal 83 [xF m xs, iv (W (2 * n))] [deadB]) := by kernel_rfl
theorem exitA (m : Nat) (xs : Nat → Nat) (n : Int) (Q : Ex → Nat → List AV → List Blk → Prop) : roundK Tryd.prog T FT 300 cA (tmL 83 (lA m xs n)) [deadB] [.b false] [0, 4] Q =
  ((bif decide (W (2 * n) ≤ W ((m : Int).tdiv 2)) then decide (n < 2048) else false) = false ∧ Q (.exit 0) 83 [xF m xs, iv n] [deadB]) := by kernel_rfl
/-! what fit makes -/
def gW (m : Nat) (xs : Nat → Nat) (j : Nat) : Nat := bif decide (j < m) then (bif fle (absW (xs j)) bigW then xs j else 0) else 0
def XW (m : Nat) (xs : Nat → Nat) (k : Nat) : Nat × Nat := (gW m xs (2 * k), gW m xs (2 * k + 1))
def sW (m : Nat) (xs : Nat → Nat) (n : Nat) : Nat := fsum (fun j => absW (gW m xs j)) 0 (2 * n)
def pFit (m : Nat) : Nat := min 11 (m / 2).log2
theorem RS_mono {T : Nat → Rat} (h : ∀ j, 0 ≤ T j) : ∀ {n m : Nat}, n ≤ m → RS T n ≤ RS T m
  | n, 0, hn => by obtain rfl : n = 0 := by omega
                   exact Rat.le_refl
  | n, m + 1, hn => by
    by_cases e : n = m + 1
    · subst e; exact Rat.le_refl
    · have := RS_mono h (show n ≤ m by omega)
      have := h m
      show RS T n ≤ RS T m + T m
      grind
theorem RS_nn {T : Nat → Rat} (h : ∀ j, 0 ≤ T j) (n : Nat) : 0 ≤ RS T n := RS_mono h (Nat.zero_le n)
theorem RS_mem {T : Nat → Rat} (h : ∀ j, 0 ≤ T j) {n j : Nat} (hj : j < n) : T j ≤ RS T n := by
  have h1 := RS_mono h (show j + 1 ≤ n by omega)
  have h2 := RS_nn h j
  have h3 : RS T (j + 1) = RS T j + T j := rfl
  grind
theorem pFit_bd (m : Nat) : pFit m ≤ 11 ∧ 2 ^ pFit m ≤ 2048 ∧ 1 ≤ 2 ^ pFit m ∧ (2 ≤ m → 2 * 2 ^ pFit m ≤ m) ∧ (m < 2 → pFit m = 0) := by
  have h1 : pFit m ≤ 11 := Nat.min_le_left _ _
  refine ⟨h1, Nat.pow_le_pow_right (by omega) h1, Nat.two_pow_pos _, fun h => ?_, fun h => ?_⟩
  · have h2 : 2 ^ pFit m ≤ 2 ^ (m / 2).log2 := Nat.pow_le_pow_right (by omega) (Nat.min_le_right _ _)
    have h3 := Nat.log2_self_le (show m / 2 ≠ 0 by omega)
    omega
  · unfold pFit
    rw [show m / 2 = 0 by omega]
    decide
theorem loopA (m : Nat) (xs : Nat → Nat) (hm2 : m ≤ 9223372036854775807) :
    LoopOk Tryd.prog cA (tmL 83 (lA m xs 1)) [deadB] (.exit 0) (tmL 83 (lA m xs (2 ^ pFit m : Nat))) [deadB] := by
  refine loop_rounds hm hT FTok 83 (pFit m) (fun i => lA m xs (2 ^ i : Nat)) (fun _ => [deadB]) (.exit 0) _ _ (fun e => by cases e) (fun i hi => ⟨300, [.b true], ?_⟩) ⟨300, [.b false], ?_⟩ 0 (Nat.zero_le _)
  · show roundK Tryd.prog T FT 300 cA (tmL 83 (lA m xs (2 ^ i : Nat))) [deadB] [.b true] [0, 4] _
    rw [roundA]
    have h1 := (pFit_bd m).1
    have h2 : 2 ^ (i + 1) ≤ 2 ^ 11 := Nat.pow_le_pow_right (by omega) (by omega)
    have h3' : pFit m ≤ (m / 2).log2 := Nat.min_le_right _ _
    have h3 : 2 ^ (i + 1) ≤ 2 ^ (m / 2).log2 := Nat.pow_le_pow_right (by omega) (by omega)
    have h0 : m / 2 ≠ 0 := fun h => by
      have : pFit m = 0 := by unfold pFit; rw [h]; decide
      omega
    have h4 := Nat.log2_self_le h0
    rw [Nat.pow_succ] at h2 h3
    have e1 : W (2 * ((2 ^ i : Nat) : Int)) = ((2 * 2 ^ i : Nat) : Int) := by rw [Wid (by omega) (by omega)]; omega
    have e2 : W ((m : Int).tdiv 2) = ((m / 2 : Nat) : Int) := by rw [Int.tdiv_eq_ediv_of_nonneg (by omega), Wid (by omega) (by omega)]; omega
    rw [e1, e2]
    refine ⟨by rw [decide_eq_true (by omega), decide_eq_true (by omega)]; rfl, rfl, rfl, ⟨sameV.refl _, iv_same _ _ ?_, trivial⟩, HpLe.refl _⟩
    rw [Nat.pow_succ]; omega
  · show roundK Tryd.prog T FT 300 cA (tmL 83 (lA m xs (2 ^ pFit m : Nat))) [deadB] [.b false] [0, 4] _
    rw [exitA]
    obtain ⟨h1, h2, h3, _, _⟩ := pFit_bd m
    have e1 : W (2 * ((2 ^ pFit m : Nat) : Int)) = ((2 * 2 ^ pFit m : Nat) : Int) := by rw [Wid (by omega) (by omega)]; omega
    have e2 : W ((m : Int).tdiv 2) = ((m / 2 : Nat) : Int) := by rw [Int.tdiv_eq_ediv_of_nonneg (by omega), Wid (by omega) (by omega)]; omega
    rw [e1, e2]
    refine ⟨?_, rfl, rfl, ⟨sameV.refl _, sameV.refl _, trivial⟩, HpLe.refl _⟩
    by_cases h : pFit m = 11
    · rw [h]
      cases decide ((2 * 2 ^ 11 : Nat) ≤ ((m / 2 : Nat) : Int)) <;> rfl
    · have h4 : pFit m = (m / 2).log2 := by unfold pFit at *; omega
      have h5 := Nat.lt_log2_self (n := m / 2)
      rw [← h4, Nat.pow_succ] at h5
      rw [decide_eq_false (by omega)]
      rfl
def wdC : C1 → Nat
  | .sc (.float _ a) _ => a
  | _ => 0
def wdF (f : Nat → List C1) (k : Nat) : Nat := wdC ((f k).getD 0 .em)
def GFit : List AV → Option (Prop × AV × Blk)
  | [.one (.lst m M 1 f)] => some (m = M ∧ (∀ k, f k = fF (wdF f) k) ∧ m ≤ 9223372036854775807, .tup [(false, [.lst (2 ^ pFit m) (2 ^ pFit m) 1 (fX (XW m (wdF f)))]), (false, [FC (sW m (wdF f) (2 ^ pFit m))])], deadB)
  | _ => none
end Go.Proofs.YthddkcoflnbjbaaDoor
namespace Go.Proofs.YthddkcoflnbjbaaDoor
open Sm Go Go.RowKit Fl Ieee
set_option maxRecDepth 1000000
set_option linter.unusedVariables false
noncomputable def cBk : Code := pathC (bodyC Tryd.f21) [0]
/-! twin -/
def isX (n N : Nat) (f : Nat → List C1) : Prop := n = N ∧ ∀ k, f k = fX (ofC f) k
theorem isX.eq {n N : Nat} {f : Nat → List C1} (h : isX n N f) : f = fX (ofC f) := funext h.2
theorem isX.av {n N : Nat} {f : Nat → List C1} (h : isX n N f) : AV.one (.lst n N 1 f) = xL n (ofC f) := by
  obtain ⟨rfl, _⟩ := id h
  unfold xL
  rw [← h.eq]
/-! Back -/
def bkP (n : Nat) (y : Nat × Nat) : Nat × Nat := (cqRe y.1 y.2 (i2f n) 0, cqIm y.1 y.2 (i2f n) 0)
def bkY (n : Nat) (Y : Nat → Nat × Nat) (i k : Nat) : Nat × Nat := if k < i then bkP n (Y k) else Y k
def lBk (n i : Nat) : List (Nat × AV) := [(4, slY n), (13, iv n), (14, iv i)]
theorem roundBk (n : Nat) (Y : Nat → Nat × Nat) (i : Nat) (Q : Ex → Nat → List AV → List Blk → Prop) : roundK Tryd.prog T FT 300 cBk (tmL 29 (lBk n i)) [deadB, bY n Y] [.b true] [4, 13, 14] Q =
   (decide ((i : Int) < n) = true ∧ (0 ≤ (i : Int) ∧ (i : Int) < n) ∧ 0 + (i : Int).toNat < n ∧ cqOk (Y (0 + (i : Int).toNat)).1 (Y (0 + (i : Int).toNat)).2 (i2f n) 0 ∧ (0 ≤ (i : Int) ∧ (i : Int) < n) ∧ 0 + (i : Int).toNat < n ∧
    Q .normal 29 [slY n, iv n, iv (W (i + 1))] [deadB, bU n Y (0 + (i : Int).toNat) (bkP n (Y (0 + (i : Int).toNat)))]) := by kernel_rfl
theorem exitBk (n : Nat) (Y : Nat → Nat × Nat) (i : Nat) (Q : Ex → Nat → List AV → List Blk → Prop) : roundK Tryd.prog T FT 300 cBk (tmL 29 (lBk n i)) [deadB, bY n Y] [.b false] [4] Q =
   (decide ((i : Int) < n) = false ∧ Q (.exit 0) 29 [slY n] [deadB, bY n Y]) := by kernel_rfl
theorem loopBk {n : Nat} {Y : Nat → Nat × Nat} (hn : n ≤ 4096) (hok : ∀ k, k < n → cqOk (Y k).1 (Y k).2 (i2f n) 0) : LoopOk Tryd.prog cBk (tmL 29 (lBk n 0)) [deadB, bY n Y] (.exit 0) (tmL 29 [(4, slY n)]) [deadB, bY n (bkY n Y n)] := by
  have e0 : bY n Y = bY n (bkY n Y 0) := by
    unfold bY bkY
    simp
  rw [e0]
  refine loop_rounds hm hT FTok 29 n (fun i => lBk n i) (fun i => [deadB, bY n (bkY n Y i)]) (.exit 0) _ _ (fun e => by cases e) (fun i hi => ⟨300, [.b true], ?_⟩) ⟨300, [.b false], ?_⟩ 0 (Nat.zero_le _)
  · show roundK Tryd.prog T FT 300 cBk (tmL 29 (lBk n i)) [deadB, bY n (bkY n Y i)] [.b true] [4, 13, 14] _
    have h0 : 0 + (i : Int).toNat = i := by omega
    have h1 : bkY n Y i i = Y i := by unfold bkY; rw [if_neg (by omega)]
    rw [roundBk, h0, h1]
    refine ⟨decide_eq_true (by omega), ⟨by omega, by omega⟩, hi, hok i hi, ⟨by omega, by omega⟩, hi, rfl, rfl, ⟨sameV.refl _, sameV.refl _, iv_same _ _ ?_, trivial⟩, .refl _, bU_le _ _ _ _ _ fun j hj => ?_, trivial⟩
    · rw [Wid (by omega) (by omega)]; omega
    · by_cases h : j = i
      · subst h
        rw [beqS]
        show bkY n Y (j + 1) j = bkP n (Y j)
        unfold bkY
        rw [if_pos (by omega)]
      · rw [beqN h]
        show bkY n Y (i + 1) j = bkY n Y i j
        unfold bkY
        by_cases h2 : j < i
        · rw [if_pos (by omega), if_pos h2]
        · rw [if_neg (by omega), if_neg h2]
  · show roundK Tryd.prog T FT 300 cBk (tmL 29 (lBk n n)) [deadB, bY n (bkY n Y n)] [.b false] [4] _
    rw [exitBk]
    exact ⟨decide_eq_false (by omega), rfl, rfl, ⟨sameV.refl _, trivial⟩, HpLe.refl _⟩
noncomputable def FBk (n : Nat) (Y Y' : Nat → Nat × Nat) (q : Prop) : Fns := FD0.addLoop 0 cBk (loopC 29 (lBk n 0) [deadB, bY n Y] q (.exit 0) [(4, slY n)] [deadB, bY n Y'])
theorem run21 (n : Nat) (X Y Y' : Nat → Nat × Nat) (q : Prop) (K : Option AV → List Blk → Prop) : runK Tryd.prog T (FBk n Y Y' q) 300 Tryd.f21 [xL n X] [deadB] [.b false, .l 0] K =
    ((!(fitB n)) = false ∧ ((True ∧ True ∧ True) ∧ okP (-1) n n (fX X)) ∧ cBk = cBk ∧ ((29 = 29 ∧ startLs [slY n, iv n, .one (.sc (.int .i64 0) true)] ((lBk n 0).map (·.2)) ∧ startBs [deadB, bY n (trY (-1) n.log2 (ofC (fX X)))] [deadB, bY n Y]) ∧ q) ∧
     K (some (two 1 n 0)) [deadB, bY n Y']) := by kernel_rfl
def bckY (n : Nat) (X : Nat → Nat × Nat) (k : Nat) : Nat × Nat := bkP n (trY (-1) n.log2 X k)
def okBk (n : Nat) (X : Nat → Nat × Nat) : Prop := (∃ p, p ≤ 12 ∧ n = 2 ^ p ∧ okTr (-1) p X) ∧ ∀ k, k < n → cqOk (trY (-1) n.log2 X k).1 (trY (-1) n.log2 X k).2 (i2f n) 0
def GBack : List AV → Option (Prop × AV × Blk)
  | [.one (.lst n N 1 f)] => some (isX n N f ∧ okBk n (ofC f), two 0 n 0, bY n (bckY n (ofC f)))
  | _ => none
theorem gcon21 : GCon Tryd.prog 21 GBack := by
  refine gcon_of_run hm hT Tryd.func21 Tryd.call21 fun args p v b h hp => ?_
  unfold GBack at h
  split at h
  · rename_i n N f
    simp only [Option.some.injEq, Prod.mk.injEq] at h
    obtain ⟨rfl, rfl, rfl⟩ := h
    obtain ⟨h1, ⟨p, hp12, hn, ht⟩, hq⟩ := hp
    rw [h1.av]
    have hpn : 2 ^ p ≤ 4096 := Nat.pow_le_pow_right (by omega) hp12
    have hb : bY n (bkY n (trY (-1) n.log2 (ofC f)) n) = bY n (bckY n (ofC f)) ∨ True := .inr trivial
    refine ⟨.inr rfl, sym_free fun k => trivial, FBk n (trY (-1) n.log2 (ofC f)) (bkY n (trY (-1) n.log2 (ofC f)) n) True, FD0ok.addKeep 0 fun _ => loopBk (by omega) hq, 300, [.b false, .l 0], [], ?_⟩
    refine of_run (run21 n (ofC f) _ _ _ _) ⟨?_, ⟨⟨trivial, trivial, trivial⟩, ⟨p, hp12, hn, ht⟩, .inr rfl, Nat.le_refl _, fun k hk => rfl⟩, rfl, ⟨⟨rfl, ⟨rfl, rfl, rfl, trivial⟩, startBs.refl _⟩, trivial⟩, _, rfl, ?_⟩
    · rw [hn, fit_pow hp12]; rfl
    · refine one_left (D := [deadB]) noFroz ⟨⟨rfl, ⟨rfl, rfl, rfl, rfl⟩, trivial⟩, ⟨rfl, scC_eq rfl, trivial⟩, trivial⟩ (.inr ⟨rfl, rfl, rfl, rfl, fun j hj => ?_⟩)
      have e : bkY n (trY (-1) n.log2 (ofC f)) n j = bckY n (ofC f) j := by
        unfold bkY
        rw [if_pos hj]
        rfl
      show renS _ _ _ _ (CC (bkY n (trY (-1) n.log2 (ofC f)) n j)) (CC (bckY n (ofC f) j))
      rw [e]
      exact renC_S rfl
  · cases h
/-! close -/
/-! Power -/
end Go.Proofs.YthddkcoflnbjbaaDoor
