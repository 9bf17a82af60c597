/-
  What is proved here: numbers that the laws let in. the law of levels, with no program in sight but the floats. the law of levels, with no program in sight but the floats: its bounds hold. the contract of the law of levels. contracts of the laws' own helpers: fit. contracts of the laws' own helpers: twin, close; of wave.Back, wave.Power. the contract of wave.transform on numbers of which nothing is known. A text to be imported.
-/
import Derived.Test.YthddkcoflnbjbaaDoorPLaw9
import Derived.Test.YthddkcoflnbjbaaDoorPCon12
import Derived.Test.YthddkcoflnbjbaaDoorPLaw13
namespace Go.Proofs.YthddkcoflnbjbaaDoor
open Sm Go Go.RowKit Fl Ieee
set_option maxRecDepth 100000
set_option linter.unusedVariables false
theorem abs_back {x : Nat} (h : fnum .f64 (x % 2 ^ 63)) : fnum .f64 x := by
  obtain ⟨s, m, p, hr⟩ := h
  have hs : FloatKind.f64.format.signWeight = 2 ^ 63 := rfl
  refine ⟨decide (x / 2 ^ 63 % 2 = 1), m, p, ?_⟩
  unfold Format.read at hr ⊢
  rw [hs] at hr ⊢
  simp only at hr ⊢
  have hm : x % 2 ^ 63 % 2 ^ 63 = x % 2 ^ 63 := Nat.mod_mod _ _
  rw [hm] at hr
  split at hr
  · rename_i h1
    rw [if_pos h1]
    simp only [Datum.number.injEq] at hr ⊢
    exact ⟨by first | rfl | simp, hr.2⟩
  · rename_i h1
    rw [if_neg h1]
    split at hr
    · rename_i h2
      rw [if_pos h2]
      simp only [Datum.number.injEq] at hr ⊢
      exact ⟨by first | rfl | simp, hr.2⟩
    · split at hr <;> cases hr
theorem abs_sign {x : Nat} {s : Bool} (h : FloatKind.f64.format.read (x % 2 ^ 63) = .infinity s) : s = false := by
  have hs : FloatKind.f64.format.signWeight = 2 ^ 63 := rfl
  unfold Format.read at h
  rw [hs] at h
  simp only at h
  have hd : x % 2 ^ 63 / 2 ^ 63 % 2 = 0 := by omega
  rw [hd] at h
  split at h
  · cases h
  · split at h
    · cases h
    · split at h
      · simp only [Datum.infinity.injEq] at h
        rw [← h]; rfl
      · cases h
theorem abs_le_num {y b : Nat} (hb : fnum .f64 b) (h : fle (absW y) b = true) : fnum .f64 y ∧ fv .f64 y ≤ fv .f64 b ∧ -fv .f64 b ≤ fv .f64 y := by
  have hb' := hb
  obtain ⟨sb, mb, pb, rb⟩ := hb
  have hx : fnum .f64 (absW y) := by
    cases hr : FloatKind.f64.format.read (absW y) with
    | number s m p => exact ⟨s, m, p, hr⟩
    | infinity s =>
      exfalso
      obtain rfl := abs_sign (x := y) (by rw [← absW_eq]; exact hr)
      unfold fle Format.order at h
      rw [hr, rb] at h
      simp [Datum.order] at h
    | nan s t =>
      exfalso
      unfold fle Format.order at h
      rw [hr] at h
      simp [Datum.order] at h
  have hy : fnum .f64 y := abs_back (by rw [← absW_eq]; exact hx)
  obtain ⟨n1, n2, n3⟩ := absW_num hy
  have hle := (fle_iff n1 hb').1 h
  exact ⟨hy, by grind, by grind⟩
end Go.Proofs.YthddkcoflnbjbaaDoor
namespace Go.Proofs.YthddkcoflnbjbaaDoor
open Sm Go Go.RowKit Fl Ieee
set_option maxRecDepth 100000
set_option linter.unusedVariables false
def GG : Rat := 10000000000000000000000000000000000000000000000000000000000000000000000000000000000000000000000000000000000000000000000000000000000000000000000000000000000000000000000000000000000000000000000000000000000000000000000000000
theorem tp_GG : ∀ c : Rat, c ≤ GG → c < tp .f64 := fun c h => by
  have h1 := pw_nat 1000
  have h2 : pw ((1000 : Nat) : Int) ≤ tp .f64 := by unfold tp; rw [top64]; exact pw_mono (by decide)
  have h3 : GG < ((2 ^ 1000 : Nat) : Rat) := by unfold GG; decide +kernel
  rw [← h1] at h3
  grind
def ab (r : Rat) : Rat := if 0 ≤ r then r else -r
theorem ab_bd (r : Rat) : 0 ≤ ab r ∧ r ≤ ab r ∧ -ab r ≤ r := by unfold ab; split <;> (refine ⟨?_, ?_, ?_⟩ <;> grind)
theorem ab_le {r b : Rat} (h1 : r ≤ b) (h2 : -b ≤ r) : ab r ≤ b := by unfold ab; split <;> grind
theorem ab_ap {y : Nat} (h : fnum .f64 y) : Ap (absW y) (ab (fv .f64 y)) 0 := by
  obtain ⟨n1, n2, n3⟩ := absW_num h
  refine .of ⟨n1, ?_⟩
  unfold ab
  rcases n3 with ⟨e, h0⟩ | ⟨e, h0⟩
  · rw [if_pos h0, e]
  · rw [e]; split <;> grind
/-! ### the sums -/
end Go.Proofs.YthddkcoflnbjbaaDoor
namespace Go.Proofs.YthddkcoflnbjbaaDoor
open Sm Go Go.RowKit Fl Ieee
set_option maxRecDepth 1000000
set_option linter.unusedVariables false
def AFl (x : Nat) : AV := .one (FC x)
/-! what fit makes -/
theorem RS_mono {T : Nat → Rat} (h : ∀ j, 0 ≤ T j) : ∀ {n m : Nat}, n ≤ m → RS T n ≤ RS T m
  | n, 0, hn => by obtain rfl : n = 0 := by omega
                   exact Rat.le_refl
  | n, m + 1, hn => by
    by_cases e : n = m + 1
    · subst e; exact Rat.le_refl
    · have := RS_mono h (show n ≤ m by omega)
      have := h m
      show RS T n ≤ RS T m + T m
      grind
theorem RS_nn {T : Nat → Rat} (h : ∀ j, 0 ≤ T j) (n : Nat) : 0 ≤ RS T n := RS_mono h (Nat.zero_le n)
theorem RS_mem {T : Nat → Rat} (h : ∀ j, 0 ≤ T j) {n j : Nat} (hj : j < n) : T j ≤ RS T n := by
  have h1 := RS_mono h (show j + 1 ≤ n by omega)
  have h2 := RS_nn h j
  have h3 : RS T (j + 1) = RS T j + T j := rfl
  grind
end Go.Proofs.YthddkcoflnbjbaaDoor
namespace Go.Proofs.YthddkcoflnbjbaaDoor
open Sm Go Go.RowKit Fl Ieee
set_option maxRecDepth 1000000
set_option linter.unusedVariables false
/-! twin -/
/-! Back -/
def bkP (n : Nat) (y : Nat × Nat) : Nat × Nat := (cqRe y.1 y.2 (i2f n) 0, cqIm y.1 y.2 (i2f n) 0)
def bckY (n : Nat) (X : Nat → Nat × Nat) (k : Nat) : Nat × Nat := bkP n (trY (-1) n.log2 X k)
def okBk (n : Nat) (X : Nat → Nat × Nat) : Prop := (∃ p, p ≤ 12 ∧ n = 2 ^ p ∧ okTr (-1) p X) ∧ ∀ k, k < n → cqOk (trY (-1) n.log2 X k).1 (trY (-1) n.log2 X k).2 (i2f n) 0
/-! close -/
/-! Power -/
end Go.Proofs.YthddkcoflnbjbaaDoor
namespace Go.Proofs.YthddkcoflnbjbaaDoor
open Sm Go Go.RowKit Fl Ieee
set_option maxRecDepth 1000000
set_option linter.unusedVariables false
def CU : C1 := .cf .f64
def bX (n : Nat) : Blk := { body := .sy n fun _ => CU, elem := 28, live := true, ro := false, full := true }
def bXU2 (n o o' : Nat) : Blk := { body := .sy n (updG (updG (fun _ => CU) o CU) o' CU), elem := 28, live := true, ro := false, full := true }
theorem pickU (t : Bool) : pickC t CU CU = CU := by cases t <;> rfl
theorem bXU2_le (n o o' : Nat) : BlkLe (bXU2 n o o') (bX n) := sy_le fun j _ => by
  show pickC _ CU (pickC _ CU CU) = CU
  rw [pickU, pickU]
theorem roundKU (n : Nat) (way size fr hf : Int) (k : Nat) (Q : Ex → Nat → List AV → List Blk → Prop) : roundK Tryd.prog T FB 300 cK (tmL 104 (lK n way size fr hf k)) [deadB, bX n] [.b true] [1, 5, 6, 10, 11, 58, 59] Q =
  (decide ((k : Int) < hf) = true ∧ (0 ≤ pl0 fr k ∧ pl0 fr k < n) ∧ 0 + (pl0 fr k).toNat < n ∧ (0 ≤ pl1 size fr k ∧ pl1 size fr k < n) ∧ 0 + (pl1 size fr k).toNat < n ∧
    (0 ≤ pl0 fr k ∧ pl0 fr k < n) ∧ 0 + (pl0 fr k).toNat < n ∧ (0 ≤ pl1 size fr k ∧ pl1 size fr k < n) ∧ 0 + (pl1 size fr k).toNat < n ∧
   Q .normal 104 [iv way, iv n, slY n, iv size, iv fr, iv hf, iv (W (k + 1))] [deadB, bXU2 n (0 + (pl0 fr k).toNat) (0 + (pl1 size fr k).toNat)]) := by kernel_rfl
theorem exitKU (n : Nat) (way size fr hf : Int) (k : Nat) (Q : Ex → Nat → List AV → List Blk → Prop) : roundK Tryd.prog T FB 300 cK (tmL 104 (lK n way size fr hf k)) [deadB, bX n] [.b false] [1, 5, 6, 10, 11] Q =
  (decide ((k : Int) < hf) = false ∧ Q (.exit 6) 104 [iv way, iv n, slY n, iv size, iv fr] [deadB, bX n]) := by kernel_rfl
noncomputable def FKU (n : Nat) (way size fr : Int) (q : Prop) : Fns := FB.addLoop 2 cK (loopC 104 (lK n way size fr (half size) 0) [deadB, bX n] q (.exit 6) (lKf n way size fr) [deadB, bX n])
theorem roundFU (n : Nat) (way size fr : Int) (q : Prop) (Q : Ex → Nat → List AV → List Blk → Prop) : roundK Tryd.prog T (FKU n way size fr q) 300 cF (tmL 104 (lKf n way size fr)) [deadB, bX n] [.b true, .l 2] [1, 5, 6, 10, 11] Q =
  (decide (fr < n) = true ∧ cK = cK ∧ ((104 = 104 ∧ startLs [iv way, iv n, slY n, iv size, iv fr, iv (half size), .one (.sc (.int .i64 0) true)] ((lK n way size fr (half size) 0).map (·.2)) ∧ startBs [deadB, bX n] [deadB, bX n]) ∧ q) ∧
   Q .normal 104 [iv way, iv n, slY n, iv size, iv (W (fr + size))] [deadB, bX n]) := by kernel_rfl
theorem exitFU (n : Nat) (way size fr : Int) (Q : Ex → Nat → List AV → List Blk → Prop) : roundK Tryd.prog T FB 300 cF (tmL 104 (lKf n way size fr)) [deadB, bX n] [.b false] [1, 5, 6, 10] Q =
  (decide (fr < n) = false ∧ Q (.exit 4) 104 [iv way, iv n, slY n, iv size] [deadB, bX n]) := by kernel_rfl
noncomputable def FFU (n : Nat) (way size : Int) (q : Prop) : Fns := FB.addLoop 1 cF (loopC 104 (lKf n way size 0) [deadB, bX n] q (.exit 4) (lS n way size) [deadB, bX n])
theorem roundSU (n : Nat) (way size : Int) (q : Prop) (Q : Ex → Nat → List AV → List Blk → Prop) : roundK Tryd.prog T (FFU n way size q) 300 cS (tmL 104 (lS n way size)) [deadB, bX n] [.b true, .l 1] [1, 5, 6, 10] Q =
  (decide (size ≤ n) = true ∧ cF = cF ∧ ((104 = 104 ∧ startLs [iv way, iv n, slY n, iv size, .one (.sc (.int .i64 0) true)] ((lKf n way size 0).map (·.2)) ∧ startBs [deadB, bX n] [deadB, bX n]) ∧ q) ∧
   Q .normal 104 [iv way, iv n, slY n, iv (W (size * 2 ^ 1))] [deadB, bX n]) := by kernel_rfl
theorem exitSU (n : Nat) (way size : Int) (Q : Ex → Nat → List AV → List Blk → Prop) : roundK Tryd.prog T FB 300 cS (tmL 104 (lS n way size)) [deadB, bX n] [.b false] [6] Q =
  (decide (size ≤ n) = false ∧ Q (.exit 2) 104 [slY n] [deadB, bX n]) := by kernel_rfl
theorem loopKU {n : Nat} {way : Int} {h fr : Nat} (hw : way = 1 ∨ way = -1) (hn : n ≤ 4096) (hf : fr + 2 * h ≤ n) :
    LoopOk Tryd.prog cK (tmL 104 (lK n way (2 * h : Nat) fr (half (2 * h : Nat)) 0)) [deadB, bX n] (.exit 6) (tmL 104 (lKf n way (2 * h : Nat) fr)) [deadB, bX n] := by
  have hh := half_eq h (by omega)
  refine loop_rounds hm hT FBok 104 h (lK n way (2 * h : Nat) fr (half (2 * h : Nat))) (fun k => [deadB, bX n]) (.exit 6) _ _ (fun e => by cases e) (fun k hk => ⟨300, [.b true], ?_⟩) ⟨300, [.b false], ?_⟩ 0 (Nat.zero_le _)
  · have e0 : pl0 fr k = ((fr + k : Nat) : Int) := by unfold pl0; rw [Wid (by omega) (by omega), Int.natCast_add]
    have e1 : pl1 (2 * h : Nat) fr k = ((fr + k + h : Nat) : Int) := by
      have hh' : W (((2 * h : Nat) : Int).tdiv 2) = h := hh
      unfold pl1
      rw [hh', Wid (x := (fr : Int) + k) (by omega) (by omega), Wid (by omega) (by omega)]
      omega
    have t0 : 0 + (pl0 fr k).toNat = fr + k := by rw [e0]; omega
    have t1 : 0 + (pl1 (2 * h : Nat) fr k).toNat = fr + k + h := by rw [e1]; omega
    have b0 : 0 ≤ pl0 fr k ∧ pl0 fr k < n := by rw [e0]; omega
    have b1 : 0 ≤ pl1 (2 * h : Nat) fr k ∧ pl1 (2 * h : Nat) fr k < n := by rw [e1]; omega
    show roundK Tryd.prog T FB 300 cK (tmL 104 (lK n way (2 * h : Nat) fr (half (2 * h : Nat)) k)) [deadB, bX n] [.b true] [1, 5, 6, 10, 11, 58, 59] _
    rw [roundKU, t0, t1, hh]
    refine ⟨decide_eq_true (by omega), b0, by omega, b1, by omega, b0, by omega, b1, by omega, rfl, rfl, ⟨sameV.refl _, sameV.refl _, sameV.refl _, sameV.refl _, sameV.refl _, iv_same _ _ rfl, iv_same _ _ ?_, trivial⟩, .refl _, bXU2_le _ _ _, trivial⟩
    rw [Wid (by omega) (by omega)]; omega
  · show roundK Tryd.prog T FB 300 cK (tmL 104 (lK n way (2 * h : Nat) fr (half (2 * h : Nat)) h)) [deadB, bX n] [.b false] [1, 5, 6, 10, 11] _
    rw [exitKU, hh]
    exact ⟨decide_eq_false (by omega), rfl, rfl, ⟨sameV.refl _, sameV.refl _, sameV.refl _, sameV.refl _, sameV.refl _, trivial⟩, HpLe.refl _⟩
theorem loopFU {n : Nat} {way : Int} {h m : Nat} (hw : way = 1 ∨ way = -1) (hn : n ≤ 4096) (h0 : 0 < h) (hm2 : 2 * h * m = n) :
    LoopOk Tryd.prog cF (tmL 104 (lKf n way (2 * h : Nat) 0)) [deadB, bX n] (.exit 4) (tmL 104 (lS n way (2 * h : Nat))) [deadB, bX n] := by
  refine loop_roundsF hm hT 104 m (fun b => lKf n way (2 * h : Nat) ((2 * h * b : Nat) : Int)) (fun b => [deadB, bX n]) (.exit 4) _ _ (fun e => by cases e) (fun b hb => ⟨FKU n way (2 * h : Nat) ((2 * h * b : Nat) : Int) True, ?_, 300, [.b true, .l 2], ?_⟩) ⟨FB, FBok, 300, [.b false], ?_⟩ 0 (Nat.zero_le _)
  · have hle : 2 * h * b + 2 * h ≤ n := by
      have := Nat.mul_le_mul_left (2 * h) (show b + 1 ≤ m by omega)
      rw [Nat.mul_add, Nat.mul_one] at this
      omega
    exact FBok.addKeep 2 fun _ => loopKU hw hn hle
  · have hle : 2 * h * b + 2 * h ≤ n := by
      have := Nat.mul_le_mul_left (2 * h) (show b + 1 ≤ m by omega)
      rw [Nat.mul_add, Nat.mul_one] at this
      omega
    show roundK Tryd.prog T (FKU n way (2 * h : Nat) ((2 * h * b : Nat) : Int) True) 300 cF (tmL 104 (lKf n way (2 * h : Nat) ((2 * h * b : Nat) : Int))) [deadB, bX n] [.b true, .l 2] [1, 5, 6, 10, 11] _
    rw [roundFU]
    refine ⟨decide_eq_true (by omega), rfl, ⟨⟨rfl, ⟨rfl, rfl, rfl, rfl, rfl, rfl, rfl, trivial⟩, startBs.refl _⟩, trivial⟩, rfl, rfl, ⟨sameV.refl _, sameV.refl _, sameV.refl _, sameV.refl _, iv_same _ _ ?_, trivial⟩, HpLe.refl _⟩
    rw [Wid (by omega) (by omega), Nat.mul_add, Nat.mul_one]; omega
  · show roundK Tryd.prog T FB 300 cF (tmL 104 (lKf n way (2 * h : Nat) ((2 * h * m : Nat) : Int))) [deadB, bX n] [.b false] [1, 5, 6, 10] _
    rw [exitFU]
    exact ⟨decide_eq_false (by omega), rfl, rfl, ⟨sameV.refl _, sameV.refl _, sameV.refl _, sameV.refl _, trivial⟩, HpLe.refl _⟩
theorem loopSU {way : Int} {p : Nat} (hw : way = 1 ∨ way = -1) (hp : p ≤ 12) :
    LoopOk Tryd.prog cS (tmL 104 (lS (2 ^ p) way 2)) [deadB, bX (2 ^ p)] (.exit 2) (tmL 104 [(6, slY (2 ^ p))]) [deadB, bX (2 ^ p)] := by
  have hpn : 2 ^ p ≤ 4096 := Nat.pow_le_pow_right (by omega) hp
  refine loop_roundsF hm hT 104 p (fun s => lS (2 ^ p) way ((2 * 2 ^ s : Nat) : Int)) (fun s => [deadB, bX (2 ^ p)]) (.exit 2) _ _ (fun e => by cases e) (fun s hs => ⟨FFU (2 ^ p) way ((2 * 2 ^ s : Nat) : Int) True, ?_, 300, [.b true, .l 1], ?_⟩) ⟨FB, FBok, 300, [.b false], ?_⟩ 0 (Nat.zero_le _)
  · exact FBok.addKeep 1 fun _ => loopFU hw hpn (Nat.two_pow_pos s) (pow_split hs)
  · have hle : 2 ^ (s + 1) ≤ 2 ^ p := Nat.pow_le_pow_right (by omega) hs
    rw [Nat.pow_succ] at hle
    show roundK Tryd.prog T (FFU (2 ^ p) way ((2 * 2 ^ s : Nat) : Int) True) 300 cS (tmL 104 (lS (2 ^ p) way ((2 * 2 ^ s : Nat) : Int))) [deadB, bX (2 ^ p)] [.b true, .l 1] [1, 5, 6, 10] _
    rw [roundSU]
    refine ⟨decide_eq_true (by omega), rfl, ⟨⟨rfl, ⟨rfl, rfl, rfl, rfl, rfl, trivial⟩, startBs.refl _⟩, trivial⟩, rfl, rfl, ⟨sameV.refl _, sameV.refl _, sameV.refl _, iv_same _ _ ?_, trivial⟩, HpLe.refl _⟩
    rw [Wid (by omega) (by omega), Nat.pow_succ]; omega
  · show roundK Tryd.prog T FB 300 cS (tmL 104 (lS (2 ^ p) way ((2 * 2 ^ p : Nat) : Int))) [deadB, bX (2 ^ p)] [.b false] [6] _
    rw [exitSU]
    have := Nat.two_pow_pos p
    exact ⟨decide_eq_false (by omega), rfl, rfl, ⟨sameV.refl _, trivial⟩, HpLe.refl _⟩
end Go.Proofs.YthddkcoflnbjbaaDoor
