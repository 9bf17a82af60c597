/-
  What is proved here: the contract of wave.transform on numbers of which nothing is known. A text to be imported.
-/
import Derived.Test.YthddkcoflnbjbaaDoorQCon12
namespace Go.Proofs.YthddkcoflnbjbaaDoor
open Sm Go Go.RowKit Fl Ieee
set_option maxRecDepth 1000000
set_option linter.unusedVariables false
def CU : C1 := .cf .f64
def bX (n : Nat) : Blk := { body := .sy n fun _ => CU, elem := 28, live := true, ro := false, full := true }
def bXU (n o : Nat) : Blk := { body := .sy n (updG (fun _ => CU) o CU), elem := 28, live := true, ro := false, full := true }
def bXU2 (n o o' : Nat) : Blk := { body := .sy n (updG (updG (fun _ => CU) o CU) o' CU), elem := 28, live := true, ro := false, full := true }
theorem pickU (t : Bool) : pickC t CU CU = CU := by cases t <;> rfl
theorem bXU_le (n o : Nat) : BlkLe (bXU n o) (bX n) := sy_le fun j _ => by
  show pickC _ CU CU = CU
  rw [pickU]
theorem bXU2_le (n o o' : Nat) : BlkLe (bXU2 n o o') (bX n) := sy_le fun j _ => by
  show pickC _ CU (pickC _ CU CU) = CU
  rw [pickU, pickU]
theorem roundKU (n : Nat) (way size fr hf : Int) (k : Nat) (Q : Ex → Nat → List AV → List Blk → Prop) : roundK Tryd.prog T FB 300 cK (tmL 104 (lK n way size fr hf k)) [deadB, bX n] [.b true] [1, 5, 6, 10, 11, 58, 59] Q =
  (decide ((k : Int) < hf) = true ∧ (0 ≤ pl0 fr k ∧ pl0 fr k < n) ∧ 0 + (pl0 fr k).toNat < n ∧ (0 ≤ pl1 size fr k ∧ pl1 size fr k < n) ∧ 0 + (pl1 size fr k).toNat < n ∧
    (0 ≤ pl0 fr k ∧ pl0 fr k < n) ∧ 0 + (pl0 fr k).toNat < n ∧ (0 ≤ pl1 size fr k ∧ pl1 size fr k < n) ∧ 0 + (pl1 size fr k).toNat < n ∧
   Q .normal 104 [iv way, iv n, slY n, iv size, iv fr, iv hf, iv (W (k + 1))] [deadB, bXU2 n (0 + (pl0 fr k).toNat) (0 + (pl1 size fr k).toNat)]) := by kernel_rfl
theorem exitKU (n : Nat) (way size fr hf : Int) (k : Nat) (Q : Ex → Nat → List AV → List Blk → Prop) : roundK Tryd.prog T FB 300 cK (tmL 104 (lK n way size fr hf k)) [deadB, bX n] [.b false] [1, 5, 6, 10, 11] Q =
  (decide ((k : Int) < hf) = false ∧ Q (.exit 6) 104 [iv way, iv n, slY n, iv size, iv fr] [deadB, bX n]) := by kernel_rfl
noncomputable def FKU (n : Nat) (way size fr : Int) (q : Prop) : Fns := FB.addLoop 2 cK (loopC 104 (lK n way size fr (half size) 0) [deadB, bX n] q (.exit 6) (lKf n way size fr) [deadB, bX n])
theorem roundFU (n : Nat) (way size fr : Int) (q : Prop) (Q : Ex → Nat → List AV → List Blk → Prop) : roundK Tryd.prog T (FKU n way size fr q) 300 cF (tmL 104 (lKf n way size fr)) [deadB, bX n] [.b true, .l 2] [1, 5, 6, 10, 11] Q =
  (decide (fr < n) = true ∧ cK = cK ∧ ((104 = 104 ∧ startLs [iv way, iv n, slY n, iv size, iv fr, iv (half size), .one (.sc (.int .i64 0) true)] ((lK n way size fr (half size) 0).map (·.2)) ∧ startBs [deadB, bX n] [deadB, bX n]) ∧ q) ∧
   Q .normal 104 [iv way, iv n, slY n, iv size, iv (W (fr + size))] [deadB, bX n]) := by kernel_rfl
theorem exitFU (n : Nat) (way size fr : Int) (Q : Ex → Nat → List AV → List Blk → Prop) : roundK Tryd.prog T FB 300 cF (tmL 104 (lKf n way size fr)) [deadB, bX n] [.b false] [1, 5, 6, 10] Q =
  (decide (fr < n) = false ∧ Q (.exit 4) 104 [iv way, iv n, slY n, iv size] [deadB, bX n]) := by kernel_rfl
noncomputable def FFU (n : Nat) (way size : Int) (q : Prop) : Fns := FB.addLoop 1 cF (loopC 104 (lKf n way size 0) [deadB, bX n] q (.exit 4) (lS n way size) [deadB, bX n])
theorem roundSU (n : Nat) (way size : Int) (q : Prop) (Q : Ex → Nat → List AV → List Blk → Prop) : roundK Tryd.prog T (FFU n way size q) 300 cS (tmL 104 (lS n way size)) [deadB, bX n] [.b true, .l 1] [1, 5, 6, 10] Q =
  (decide (size ≤ n) = true ∧ cF = cF ∧ ((104 = 104 ∧ startLs [iv way, iv n, slY n, iv size, .one (.sc (.int .i64 0) true)] ((lKf n way size 0).map (·.2)) ∧ startBs [deadB, bX n] [deadB, bX n]) ∧ q) ∧
   Q .normal 104 [iv way, iv n, slY n, iv (W (size * 2 ^ 1))] [deadB, bX n]) := by kernel_rfl
theorem exitSU (n : Nat) (way size : Int) (Q : Ex → Nat → List AV → List Blk → Prop) : roundK Tryd.prog T FB 300 cS (tmL 104 (lS n way size)) [deadB, bX n] [.b false] [6] Q =
  (decide (size ≤ n) = false ∧ Q (.exit 2) 104 [slY n] [deadB, bX n]) := by kernel_rfl
theorem loopKU {n : Nat} {way : Int} {h fr : Nat} (hw : way = 1 ∨ way = -1) (hn : n ≤ 4096) (hf : fr + 2 * h ≤ n) :
    LoopOk Tryd.prog cK (tmL 104 (lK n way (2 * h : Nat) fr (half (2 * h : Nat)) 0)) [deadB, bX n] (.exit 6) (tmL 104 (lKf n way (2 * h : Nat) fr)) [deadB, bX n] := by
  have hh := half_eq h (by omega)
  refine loop_rounds hm hT FBok 104 h (lK n way (2 * h : Nat) fr (half (2 * h : Nat))) (fun k => [deadB, bX n]) (.exit 6) _ _ (fun e => by cases e) (fun k hk => ⟨300, [.b true], ?_⟩) ⟨300, [.b false], ?_⟩ 0 (Nat.zero_le _)
  · have e0 : pl0 fr k = ((fr + k : Nat) : Int) := by unfold pl0; rw [Wid (by omega) (by omega), Int.natCast_add]
    have e1 : pl1 (2 * h : Nat) fr k = ((fr + k + h : Nat) : Int) := by
      have hh' : W (((2 * h : Nat) : Int).tdiv 2) = h := hh
      unfold pl1
      rw [hh', Wid (x := (fr : Int) + k) (by omega) (by omega), Wid (by omega) (by omega)]
      omega
    have t0 : 0 + (pl0 fr k).toNat = fr + k := by rw [e0]; omega
    have t1 : 0 + (pl1 (2 * h : Nat) fr k).toNat = fr + k + h := by rw [e1]; omega
    have b0 : 0 ≤ pl0 fr k ∧ pl0 fr k < n := by rw [e0]; omega
    have b1 : 0 ≤ pl1 (2 * h : Nat) fr k ∧ pl1 (2 * h : Nat) fr k < n := by rw [e1]; omega
    show roundK Tryd.prog T FB 300 cK (tmL 104 (lK n way (2 * h : Nat) fr (half (2 * h : Nat)) k)) [deadB, bX n] [.b true] [1, 5, 6, 10, 11, 58, 59] _
    rw [roundKU, t0, t1, hh]
    refine ⟨decide_eq_true (by omega), b0, by omega, b1, by omega, b0, by omega, b1, by omega, rfl, rfl, ⟨sameV.refl _, sameV.refl _, sameV.refl _, sameV.refl _, sameV.refl _, iv_same _ _ rfl, iv_same _ _ ?_, trivial⟩, .refl _, bXU2_le _ _ _, trivial⟩
    rw [Wid (by omega) (by omega)]; omega
  · show roundK Tryd.prog T FB 300 cK (tmL 104 (lK n way (2 * h : Nat) fr (half (2 * h : Nat)) h)) [deadB, bX n] [.b false] [1, 5, 6, 10, 11] _
    rw [exitKU, hh]
    exact ⟨decide_eq_false (by omega), rfl, rfl, ⟨sameV.refl _, sameV.refl _, sameV.refl _, sameV.refl _, sameV.refl _, trivial⟩, HpLe.refl _⟩
theorem loopFU {n : Nat} {way : Int} {h m : Nat} (hw : way = 1 ∨ way = -1) (hn : n ≤ 4096) (h0 : 0 < h) (hm2 : 2 * h * m = n) :
    LoopOk Tryd.prog cF (tmL 104 (lKf n way (2 * h : Nat) 0)) [deadB, bX n] (.exit 4) (tmL 104 (lS n way (2 * h : Nat))) [deadB, bX n] := by
  refine loop_roundsF hm hT 104 m (fun b => lKf n way (2 * h : Nat) ((2 * h * b : Nat) : Int)) (fun b => [deadB, bX n]) (.exit 4) _ _ (fun e => by cases e) (fun b hb => ⟨FKU n way (2 * h : Nat) ((2 * h * b : Nat) : Int) True, ?_, 300, [.b true, .l 2], ?_⟩) ⟨FB, FBok, 300, [.b false], ?_⟩ 0 (Nat.zero_le _)
  · have hle : 2 * h * b + 2 * h ≤ n := by
      have := Nat.mul_le_mul_left (2 * h) (show b + 1 ≤ m by omega)
      rw [Nat.mul_add, Nat.mul_one] at this
      omega
    exact FBok.addKeep 2 fun _ => loopKU hw hn hle
  · have hle : 2 * h * b + 2 * h ≤ n := by
      have := Nat.mul_le_mul_left (2 * h) (show b + 1 ≤ m by omega)
      rw [Nat.mul_add, Nat.mul_one] at this
      omega
    show roundK Tryd.prog T (FKU n way (2 * h : Nat) ((2 * h * b : Nat) : Int) True) 300 cF (tmL 104 (lKf n way (2 * h : Nat) ((2 * h * b : Nat) : Int))) [deadB, bX n] [.b true, .l 2] [1, 5, 6, 10, 11] _
    rw [roundFU]
    refine ⟨decide_eq_true (by omega), rfl, ⟨⟨rfl, ⟨rfl, rfl, rfl, rfl, rfl, rfl, rfl, trivial⟩, startBs.refl _⟩, trivial⟩, rfl, rfl, ⟨sameV.refl _, sameV.refl _, sameV.refl _, sameV.refl _, iv_same _ _ ?_, trivial⟩, HpLe.refl _⟩
    rw [Wid (by omega) (by omega), Nat.mul_add, Nat.mul_one]; omega
  · show roundK Tryd.prog T FB 300 cF (tmL 104 (lKf n way (2 * h : Nat) ((2 * h * m : Nat) : Int))) [deadB, bX n] [.b false] [1, 5, 6, 10] _
    rw [exitFU]
    exact ⟨decide_eq_false (by omega), rfl, rfl, ⟨sameV.refl _, sameV.refl _, sameV.refl _, sameV.refl _, trivial⟩, HpLe.refl _⟩
theorem loopSU {way : Int} {p : Nat} (hw : way = 1 ∨ way = -1) (hp : p ≤ 12) :
    LoopOk Tryd.prog cS (tmL 104 (lS (2 ^ p) way 2)) [deadB, bX (2 ^ p)] (.exit 2) (tmL 104 [(6, slY (2 ^ p))]) [deadB, bX (2 ^ p)] := by
  have hpn : 2 ^ p ≤ 4096 := Nat.pow_le_pow_right (by omega) hp
  refine loop_roundsF hm hT 104 p (fun s => lS (2 ^ p) way ((2 * 2 ^ s : Nat) : Int)) (fun s => [deadB, bX (2 ^ p)]) (.exit 2) _ _ (fun e => by cases e) (fun s hs => ⟨FFU (2 ^ p) way ((2 * 2 ^ s : Nat) : Int) True, ?_, 300, [.b true, .l 1], ?_⟩) ⟨FB, FBok, 300, [.b false], ?_⟩ 0 (Nat.zero_le _)
  · exact FBok.addKeep 1 fun _ => loopFU hw hpn (Nat.two_pow_pos s) (pow_split hs)
  · have hle : 2 ^ (s + 1) ≤ 2 ^ p := Nat.pow_le_pow_right (by omega) hs
    rw [Nat.pow_succ] at hle
    show roundK Tryd.prog T (FFU (2 ^ p) way ((2 * 2 ^ s : Nat) : Int) True) 300 cS (tmL 104 (lS (2 ^ p) way ((2 * 2 ^ s : Nat) : Int))) [deadB, bX (2 ^ p)] [.b true, .l 1] [1, 5, 6, 10] _
    rw [roundSU]
    refine ⟨decide_eq_true (by omega), rfl, ⟨⟨rfl, ⟨rfl, rfl, rfl, rfl, rfl, trivial⟩, startBs.refl _⟩, trivial⟩, rfl, rfl, ⟨sameV.refl _, sameV.refl _, sameV.refl _, iv_same _ _ ?_, trivial⟩, HpLe.refl _⟩
    rw [Wid (by omega) (by omega), Nat.pow_succ]; omega
  · show roundK Tryd.prog T FB 300 cS (tmL 104 (lS (2 ^ p) way ((2 * 2 ^ p : Nat) : Int))) [deadB, bX (2 ^ p)] [.b false] [6] _
    rw [exitSU]
    have := Nat.two_pow_pos p
    exact ⟨decide_eq_false (by omega), rfl, rfl, ⟨sameV.refl _, trivial⟩, HpLe.refl _⟩
end Go.Proofs.YthddkcoflnbjbaaDoor
