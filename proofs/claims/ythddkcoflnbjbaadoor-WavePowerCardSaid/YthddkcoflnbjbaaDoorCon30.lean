/-
  What is proved here: the contract of wave.transform on numbers of which nothing is known. A text to be imported.
-/
import Derived.Test.YthddkcoflnbjbaaDoorCon12
namespace Go.Proofs.YthddkcoflnbjbaaDoor
open Sm Go Go.RowKit Fl Ieee
set_option maxRecDepth 1000000
set_option linter.unusedVariables false
def CU : C1 := .cf .f64
def bX (n : Nat) : Blk := { body := .sy n fun _ => CU, elem := 28, live := true, ro := false }
def bXU (n o : Nat) : Blk := { body := .sy n (updG (fun _ => CU) o CU), elem := 28, live := true, ro := false }
def bXU2 (n o o' : Nat) : Blk := { body := .sy n (updG (updG (fun _ => CU) o CU) o' CU), elem := 28, live := true, ro := false }
def xU (n : Nat) : AV := .one (.lst n n 1 fun _ => [CU])
theorem pickU (t : Bool) : pickC t CU CU = CU := by cases t <;> rfl
theorem bXU_le (n o : Nat) : BlkLe (bXU n o) (bX n) := sy_le fun j _ => by
  show pickC _ CU CU = CU
  rw [pickU]
theorem bXU2_le (n o o' : Nat) : BlkLe (bXU2 n o o') (bX n) := sy_le fun j _ => by
  show pickC _ CU (pickC _ CU CU) = CU
  rw [pickU, pickU]
def lZU (n : Nat) (way sh : Int) (i : Nat) : List (Nat × AV) := [(1, iv way), (5, iv n), (6, slY n), (7, iv sh), (24, xU n), (25, iv n), (26, iv i)]
theorem roundZU (n : Nat) (way sh : Int) (i : Nat) (Q : Ex → Nat → List AV → List Blk → Prop) : roundK Tryd.prog T FB 300 cZ (tmL 104 (lZU n way sh i)) [deadB, bX n] [.b true, .b true] [1, 5, 6, 7, 24, 25, 26] Q =
  (decide ((i : Int) < n) = true ∧ (0 ≤ (i : Int) ∧ (i : Int) < n) ∧ decide ((n : Int) > 1) = true ∧ decide (sh < 0) = false ∧ (0 ≤ plZ sh i ∧ plZ sh i < n) ∧ 0 + (plZ sh i).toNat < n ∧
   Q .normal 104 [iv way, iv n, slY n, iv sh, xU n, iv n, iv (W (i + 1))] [deadB, bXU n (0 + (plZ sh i).toNat)]) := by kernel_rfl
theorem round1U (n : Nat) (way sh : Int) (i : Nat) (Q : Ex → Nat → List AV → List Blk → Prop) : roundK Tryd.prog T FB 300 cZ (tmL 104 (lZU n way sh i)) [deadB, bX n] [.b true, .b false] [1, 5, 6, 7, 24, 25, 26] Q =
  (decide ((i : Int) < n) = true ∧ (0 ≤ (i : Int) ∧ (i : Int) < n) ∧ decide ((n : Int) > 1) = false ∧ (0 ≤ (i : Int) ∧ (i : Int) < n) ∧ 0 + ((i : Int)).toNat < n ∧
   Q .normal 104 [iv way, iv n, slY n, iv sh, xU n, iv n, iv (W (i + 1))] [deadB, bXU n (0 + ((i : Int)).toNat)]) := by kernel_rfl
theorem exitZU (n : Nat) (way sh : Int) (i : Nat) (Q : Ex → Nat → List AV → List Blk → Prop) : roundK Tryd.prog T FB 300 cZ (tmL 104 (lZU n way sh i)) [deadB, bX n] [.b false] [1, 5, 6] Q =
  (decide ((i : Int) < n) = false ∧ Q (.exit 0) 104 [iv way, iv n, slY n] [deadB, bX n]) := by kernel_rfl
theorem roundKU (n : Nat) (way size fr hf : Int) (k : Nat) (Q : Ex → Nat → List AV → List Blk → Prop) : roundK Tryd.prog T FB 300 cK (tmL 104 (lK n way size fr hf k)) [deadB, bX n] [.b true] [1, 5, 6, 10, 11, 58, 59] Q =
  (decide ((k : Int) < hf) = true ∧ (0 ≤ pl0 fr k ∧ pl0 fr k < n) ∧ 0 + (pl0 fr k).toNat < n ∧ (0 ≤ pl1 size fr k ∧ pl1 size fr k < n) ∧ 0 + (pl1 size fr k).toNat < n ∧
    (0 ≤ pl0 fr k ∧ pl0 fr k < n) ∧ 0 + (pl0 fr k).toNat < n ∧ (0 ≤ pl1 size fr k ∧ pl1 size fr k < n) ∧ 0 + (pl1 size fr k).toNat < n ∧
   Q .normal 104 [iv way, iv n, slY n, iv size, iv fr, iv hf, iv (W (k + 1))] [deadB, bXU2 n (0 + (pl0 fr k).toNat) (0 + (pl1 size fr k).toNat)]) := by kernel_rfl
theorem exitKU (n : Nat) (way size fr hf : Int) (k : Nat) (Q : Ex → Nat → List AV → List Blk → Prop) : roundK Tryd.prog T FB 300 cK (tmL 104 (lK n way size fr hf k)) [deadB, bX n] [.b false] [1, 5, 6, 10, 11] Q =
  (decide ((k : Int) < hf) = false ∧ Q (.exit 6) 104 [iv way, iv n, slY n, iv size, iv fr] [deadB, bX n]) := by kernel_rfl
noncomputable def FKU (n : Nat) (way size fr : Int) (q : Prop) : Fns := FB.addLoop 2 cK (loopC 104 (lK n way size fr (half size) 0) [deadB, bX n] q (.exit 6) (lKf n way size fr) [deadB, bX n])
theorem roundFU (n : Nat) (way size fr : Int) (q : Prop) (Q : Ex → Nat → List AV → List Blk → Prop) : roundK Tryd.prog T (FKU n way size fr q) 300 cF (tmL 104 (lKf n way size fr)) [deadB, bX n] [.b true, .l 2] [1, 5, 6, 10, 11] Q =
  (decide (fr < n) = true ∧ cK = cK ∧ ((104 = 104 ∧ startLs [iv way, iv n, slY n, iv size, iv fr, iv (half size), .one (.sc (.int .i64 0) true)] ((lK n way size fr (half size) 0).map (·.2)) ∧ startBs [deadB, bX n] [deadB, bX n]) ∧ q) ∧
   Q .normal 104 [iv way, iv n, slY n, iv size, iv (W (fr + size))] [deadB, bX n]) := by kernel_rfl
theorem exitFU (n : Nat) (way size fr : Int) (Q : Ex → Nat → List AV → List Blk → Prop) : roundK Tryd.prog T FB 300 cF (tmL 104 (lKf n way size fr)) [deadB, bX n] [.b false] [1, 5, 6, 10] Q =
  (decide (fr < n) = false ∧ Q (.exit 4) 104 [iv way, iv n, slY n, iv size] [deadB, bX n]) := by kernel_rfl
noncomputable def FFU (n : Nat) (way size : Int) (q : Prop) : Fns := FB.addLoop 1 cF (loopC 104 (lKf n way size 0) [deadB, bX n] q (.exit 4) (lS n way size) [deadB, bX n])
theorem roundSU (n : Nat) (way size : Int) (q : Prop) (Q : Ex → Nat → List AV → List Blk → Prop) : roundK Tryd.prog T (FFU n way size q) 300 cS (tmL 104 (lS n way size)) [deadB, bX n] [.b true, .l 1] [1, 5, 6, 10] Q =
  (decide (size ≤ n) = true ∧ cF = cF ∧ ((104 = 104 ∧ startLs [iv way, iv n, slY n, iv size, .one (.sc (.int .i64 0) true)] ((lKf n way size 0).map (·.2)) ∧ startBs [deadB, bX n] [deadB, bX n]) ∧ q) ∧
   Q .normal 104 [iv way, iv n, slY n, iv (W (size * 2 ^ 1))] [deadB, bX n]) := by kernel_rfl
theorem exitSU (n : Nat) (way size : Int) (Q : Ex → Nat → List AV → List Blk → Prop) : roundK Tryd.prog T FB 300 cS (tmL 104 (lS n way size)) [deadB, bX n] [.b false] [6] Q =
  (decide (size ≤ n) = false ∧ Q (.exit 2) 104 [slY n] [deadB, bX n]) := by kernel_rfl
noncomputable def FWU (n : Nat) (way : Int) (q q' : Prop) : Fns :=
  (FB.addLoop 0 cZ (loopC 104 (lZU n way (shOf n) 0) [deadB, bX n] q (.exit 0) [(1, iv way), (5, iv n), (6, slY n)] [deadB, bX n])).addLoop 3 cS (loopC 104 (lS n way 2) [deadB, bX n] q' (.exit 2) [(6, slY n)] [deadB, bX n])
theorem runWU (n : Nat) (way : Int) (q q' : Prop) (K : Option AV → List Blk → Prop) : runK Tryd.prog T (FWU n way q q') 400 Tryd.f32 [xU n, iv way] [deadB] [.l 0, .l 3] K =
  ((0 ≤ (n : Int) ∧ (n : Int) ≤ n ∧ (16 : Int) * n ≤ 281474976710656 ∧ (n : Int) ≤ 9223372036854775807) ∧ (∃ p : Nat, p ≤ 12 ∧ U (W ((n : Int) - 1)) = mask p) ∧
   cZ = cZ ∧ ((104 = 104 ∧ startLs [iv way, iv n, .one (.sl 1 0 ((n : Int)).toNat 1), iv (shOf n), xU n, iv n, .one (.sc (.int .i64 0) true)] ((lZU n way (shOf n) 0).map (·.2)) ∧ startBs [deadB, zB n] [deadB, bX n]) ∧ q) ∧
   cS = cS ∧ ((104 = 104 ∧ startLs [iv way, iv n, slY n, .one (.sc (.int .i64 2) true)] ((lS n way 2).map (·.2)) ∧ startBs [deadB, bX n] [deadB, bX n]) ∧ q') ∧ K (some (slY n)) [deadB, bX n]) := by kernel_rfl
theorem loopKU {n : Nat} {way : Int} {h fr : Nat} (hw : way = 1 ∨ way = -1) (hn : n ≤ 4096) (hf : fr + 2 * h ≤ n) :
    LoopOk Tryd.prog cK (tmL 104 (lK n way (2 * h : Nat) fr (half (2 * h : Nat)) 0)) [deadB, bX n] (.exit 6) (tmL 104 (lKf n way (2 * h : Nat) fr)) [deadB, bX n] := by
  have hh := half_eq h (by omega)
  refine loop_rounds hm hT FBok 104 h (lK n way (2 * h : Nat) fr (half (2 * h : Nat))) (fun k => [deadB, bX n]) (.exit 6) _ _ (fun e => by cases e) (fun k hk => ⟨300, [.b true], ?_⟩) ⟨300, [.b false], ?_⟩ 0 (Nat.zero_le _)
  · have e0 : pl0 fr k = ((fr + k : Nat) : Int) := by unfold pl0; rw [Wid (by omega) (by omega), Int.natCast_add]
    have e1 : pl1 (2 * h : Nat) fr k = ((fr + k + h : Nat) : Int) := by
      have hh' : W (((2 * h : Nat) : Int).tdiv 2) = h := hh
      unfold pl1
      rw [hh', Wid (x := (fr : Int) + k) (by omega) (by omega), Wid (by omega) (by omega)]
      omega
    have t0 : 0 + (pl0 fr k).toNat = fr + k := by rw [e0]; omega
    have t1 : 0 + (pl1 (2 * h : Nat) fr k).toNat = fr + k + h := by rw [e1]; omega
    have b0 : 0 ≤ pl0 fr k ∧ pl0 fr k < n := by rw [e0]; omega
    have b1 : 0 ≤ pl1 (2 * h : Nat) fr k ∧ pl1 (2 * h : Nat) fr k < n := by rw [e1]; omega
    show roundK Tryd.prog T FB 300 cK (tmL 104 (lK n way (2 * h : Nat) fr (half (2 * h : Nat)) k)) [deadB, bX n] [.b true] [1, 5, 6, 10, 11, 58, 59] _
    rw [roundKU, t0, t1, hh]
    refine ⟨decide_eq_true (by omega), b0, by omega, b1, by omega, b0, by omega, b1, by omega, rfl, rfl, ⟨sameV.refl _, sameV.refl _, sameV.refl _, sameV.refl _, sameV.refl _, iv_same _ _ rfl, iv_same _ _ ?_, trivial⟩, .refl _, bXU2_le _ _ _, trivial⟩
    rw [Wid (by omega) (by omega)]; omega
  · show roundK Tryd.prog T FB 300 cK (tmL 104 (lK n way (2 * h : Nat) fr (half (2 * h : Nat)) h)) [deadB, bX n] [.b false] [1, 5, 6, 10, 11] _
    rw [exitKU, hh]
    exact ⟨decide_eq_false (by omega), rfl, rfl, ⟨sameV.refl _, sameV.refl _, sameV.refl _, sameV.refl _, sameV.refl _, trivial⟩, HpLe.refl _⟩
theorem loopFU {n : Nat} {way : Int} {h m : Nat} (hw : way = 1 ∨ way = -1) (hn : n ≤ 4096) (h0 : 0 < h) (hm2 : 2 * h * m = n) :
    LoopOk Tryd.prog cF (tmL 104 (lKf n way (2 * h : Nat) 0)) [deadB, bX n] (.exit 4) (tmL 104 (lS n way (2 * h : Nat))) [deadB, bX n] := by
  refine loop_roundsF hm hT 104 m (fun b => lKf n way (2 * h : Nat) ((2 * h * b : Nat) : Int)) (fun b => [deadB, bX n]) (.exit 4) _ _ (fun e => by cases e) (fun b hb => ⟨FKU n way (2 * h : Nat) ((2 * h * b : Nat) : Int) True, ?_, 300, [.b true, .l 2], ?_⟩) ⟨FB, FBok, 300, [.b false], ?_⟩ 0 (Nat.zero_le _)
  · have hle : 2 * h * b + 2 * h ≤ n := by
      have := Nat.mul_le_mul_left (2 * h) (show b + 1 ≤ m by omega)
      rw [Nat.mul_add, Nat.mul_one] at this
      omega
    exact FBok.addKeep 2 fun _ => loopKU hw hn hle
  · have hle : 2 * h * b + 2 * h ≤ n := by
      have := Nat.mul_le_mul_left (2 * h) (show b + 1 ≤ m by omega)
      rw [Nat.mul_add, Nat.mul_one] at this
      omega
    show roundK Tryd.prog T (FKU n way (2 * h : Nat) ((2 * h * b : Nat) : Int) True) 300 cF (tmL 104 (lKf n way (2 * h : Nat) ((2 * h * b : Nat) : Int))) [deadB, bX n] [.b true, .l 2] [1, 5, 6, 10, 11] _
    rw [roundFU]
    refine ⟨decide_eq_true (by omega), rfl, ⟨⟨rfl, ⟨rfl, rfl, rfl, rfl, rfl, rfl, rfl, trivial⟩, startBs.refl _⟩, trivial⟩, rfl, rfl, ⟨sameV.refl _, sameV.refl _, sameV.refl _, sameV.refl _, iv_same _ _ ?_, trivial⟩, HpLe.refl _⟩
    rw [Wid (by omega) (by omega), Nat.mul_add, Nat.mul_one]; omega
  · show roundK Tryd.prog T FB 300 cF (tmL 104 (lKf n way (2 * h : Nat) ((2 * h * m : Nat) : Int))) [deadB, bX n] [.b false] [1, 5, 6, 10] _
    rw [exitFU]
    exact ⟨decide_eq_false (by omega), rfl, rfl, ⟨sameV.refl _, sameV.refl _, sameV.refl _, sameV.refl _, trivial⟩, HpLe.refl _⟩
theorem loopSU {way : Int} {p : Nat} (hw : way = 1 ∨ way = -1) (hp : p ≤ 12) :
    LoopOk Tryd.prog cS (tmL 104 (lS (2 ^ p) way 2)) [deadB, bX (2 ^ p)] (.exit 2) (tmL 104 [(6, slY (2 ^ p))]) [deadB, bX (2 ^ p)] := by
  have hpn : 2 ^ p ≤ 4096 := Nat.pow_le_pow_right (by omega) hp
  refine loop_roundsF hm hT 104 p (fun s => lS (2 ^ p) way ((2 * 2 ^ s : Nat) : Int)) (fun s => [deadB, bX (2 ^ p)]) (.exit 2) _ _ (fun e => by cases e) (fun s hs => ⟨FFU (2 ^ p) way ((2 * 2 ^ s : Nat) : Int) True, ?_, 300, [.b true, .l 1], ?_⟩) ⟨FB, FBok, 300, [.b false], ?_⟩ 0 (Nat.zero_le _)
  · exact FBok.addKeep 1 fun _ => loopFU hw hpn (Nat.two_pow_pos s) (pow_split hs)
  · have hle : 2 ^ (s + 1) ≤ 2 ^ p := Nat.pow_le_pow_right (by omega) hs
    rw [Nat.pow_succ] at hle
    show roundK Tryd.prog T (FFU (2 ^ p) way ((2 * 2 ^ s : Nat) : Int) True) 300 cS (tmL 104 (lS (2 ^ p) way ((2 * 2 ^ s : Nat) : Int))) [deadB, bX (2 ^ p)] [.b true, .l 1] [1, 5, 6, 10] _
    rw [roundSU]
    refine ⟨decide_eq_true (by omega), rfl, ⟨⟨rfl, ⟨rfl, rfl, rfl, rfl, rfl, trivial⟩, startBs.refl _⟩, trivial⟩, rfl, rfl, ⟨sameV.refl _, sameV.refl _, sameV.refl _, iv_same _ _ ?_, trivial⟩, HpLe.refl _⟩
    rw [Wid (by omega) (by omega), Nat.pow_succ]; omega
  · show roundK Tryd.prog T FB 300 cS (tmL 104 (lS (2 ^ p) way ((2 * 2 ^ p : Nat) : Int))) [deadB, bX (2 ^ p)] [.b false] [6] _
    rw [exitSU]
    have := Nat.two_pow_pos p
    exact ⟨decide_eq_false (by omega), rfl, rfl, ⟨sameV.refl _, trivial⟩, HpLe.refl _⟩
theorem loopZU {way : Int} {p : Nat} (hp : p ≤ 12) :
    LoopOk Tryd.prog cZ (tmL 104 (lZU (2 ^ p) way (shOf (2 ^ p)) 0)) [deadB, bX (2 ^ p)] (.exit 0) (tmL 104 [(1, iv way), (5, iv (2 ^ p : Nat)), (6, slY (2 ^ p))]) [deadB, bX (2 ^ p)] := by
  have hpn : 2 ^ p ≤ 4096 := Nat.pow_le_pow_right (by omega) hp
  rw [shOf_eq hp]
  refine loop_rounds hm hT FBok 104 (2 ^ p) (lZU (2 ^ p) way (64 - p)) (fun i => [deadB, bX (2 ^ p)]) (.exit 0) _ _ (fun e => by cases e) (fun i hi => ?_) ⟨300, [.b false], ?_⟩ 0 (Nat.zero_le _)
  · have hr := rev_at hp hi
    have hpl := plZ_eq hp hi
    by_cases h1 : p = 0
    · subst h1
      refine ⟨300, [.b true, .b false], ?_⟩
      show roundK Tryd.prog T FB 300 cZ (tmL 104 (lZU (2 ^ 0) way (64 - (0 : Nat)) i)) [deadB, bX (2 ^ 0)] [.b true, .b false] [1, 5, 6, 7, 24, 25, 26] _
      rw [round1U]
      have hi0 : i = 0 := by simp at hi; exact hi
      subst hi0
      refine ⟨decide_eq_true (by decide), ⟨by decide, by decide⟩, by decide, ⟨by decide, by decide⟩, by decide, rfl, rfl, ⟨sameV.refl _, sameV.refl _, sameV.refl _, sameV.refl _, sameV.refl _, sameV.refl _, iv_same _ _ ?_, trivial⟩, .refl _, bXU_le _ _, trivial⟩
      decide
    · refine ⟨300, [.b true, .b true], ?_⟩
      have h2 : 2 ≤ 2 ^ p := by
        have := Nat.pow_le_pow_right (show 0 < 2 by omega) (show 1 ≤ p by omega)
        omega
      show roundK Tryd.prog T FB 300 cZ (tmL 104 (lZU (2 ^ p) way (64 - p) i)) [deadB, bX (2 ^ p)] [.b true, .b true] [1, 5, 6, 7, 24, 25, 26] _
      rw [roundZU, hpl]
      have e0 : 0 + ((rev p i : Nat) : Int).toNat = rev p i := by omega
      rw [e0]
      refine ⟨decide_eq_true (by omega), ⟨by omega, by omega⟩, decide_eq_true (by omega), decide_eq_false (by omega), ⟨by omega, by omega⟩, by omega, rfl, rfl, ⟨sameV.refl _, sameV.refl _, sameV.refl _, sameV.refl _, sameV.refl _, sameV.refl _, iv_same _ _ ?_, trivial⟩, .refl _, bXU_le _ _, trivial⟩
      rw [Wid (by omega) (by omega)]; omega
  · show roundK Tryd.prog T FB 300 cZ (tmL 104 (lZU (2 ^ p) way (64 - p) (2 ^ p))) [deadB, bX (2 ^ p)] [.b false] [1, 5, 6] _
    rw [exitZU]
    exact ⟨decide_eq_false (by omega), rfl, rfl, ⟨sameV.refl _, sameV.refl _, sameV.refl _, trivial⟩, HpLe.refl _⟩
/-- Of any numbers any numbers. -/
def okTU (way : Int) (n N : Nat) (f : Nat → List C1) : Prop := (∃ p, p ≤ 12 ∧ n = 2 ^ p) ∧ (way = 1 ∨ way = -1) ∧ n ≤ N ∧ ∀ k, k < n → f k = [CU]
def GTrU : List AV → Option (Prop × AV × Blk)
  | [.one (.lst n N 1 f), .one (.sc (.int .i64 way) false)] => some (okTU way n N f, .one (.sl 0 0 n 1), bX n)
  | _ => none
theorem gcon32U : GCon Tryd.prog 32 GTrU := by
  refine gcon_of_runA hm hT Tryd.func32 Tryd.call32 fun args p v b h hp => ?_
  unfold GTrU at h
  split at h
  · rename_i n N f way
    simp only [Option.some.injEq, Prod.mk.injEq] at h
    obtain ⟨rfl, rfl, rfl⟩ := h
    obtain ⟨⟨p, hp, rfl⟩, hw, hnN, hf⟩ := hp
    have hpn : 2 ^ p ≤ 4096 := Nat.pow_le_pow_right (by omega) hp
    refine ⟨.inr rfl, sym_free fun k => trivial, FWU (2 ^ p) way True True, [xU (2 ^ p), iv way], ?_, fun E us hr => ?_, 400, [.l 0, .l 3], [], ?_⟩
    · exact (FBok.addKeep 0 fun _ => loopZU hp).addKeep 3 fun _ => loopSU hw hp
    · obtain ⟨u, us, rfl, h1, h2⟩ := hr.cons
      exact .mk (lst_less (Nat.le_refl _) hnN hf h1) h2
    · have hb : ∀ m : Nat, m ≤ 4096 → 0 ≤ (m : Int) ∧ (m : Int) ≤ m ∧ (16 : Int) * m ≤ 281474976710656 ∧ (m : Int) ≤ 9223372036854775807 := fun m hm => by omega
      refine of_run (runWU _ _ _ _ _) ⟨hb _ hpn, ⟨p, hp, mask_of hp⟩, rfl, ⟨⟨rfl, ⟨rfl, rfl, ?_, rfl, rfl, rfl, rfl, trivial⟩, ⟨startB.refl _, ?_, trivial⟩⟩, trivial⟩, rfl, ⟨⟨rfl, ⟨rfl, rfl, rfl, rfl, trivial⟩, startBs.refl _⟩, trivial⟩, _, rfl, ?_⟩
      · show AV.one (.sl 1 0 ((2 ^ p : Nat) : Int).toNat 1) = _
        rw [Int.toNat_natCast]; rfl
      · refine .inr ⟨rfl, rfl, rfl, fun E vs hr => ⟨?_, fun j c v hc hv => ?_⟩⟩
        · rw [← hr.1]
          show (symC _ _).length = (symC _ _).length
          rw [symC_length, symC_length]
        · have hj : j < 2 ^ p := by
            have := (List.getElem?_eq_some_iff.1 hc).1
            rwa [show (bX (2 ^ p)).cells = symC (2 ^ p) fun j => CU from rfl, symC_length] at this
          rw [show (bX (2 ^ p)).cells = symC (2 ^ p) fun j => CU from rfl, symC_get _ _ hj] at hc
          simp only [Option.some.injEq] at hc
          subst hc
          have := hr.2 j (.sc (.complex .f64 0 0) true) v (by show (symC (2 ^ p) _)[j]? = _; rw [symC_get _ _ hj]) hv
          exact ⟨0, 0, this.1⟩
      · exact one_left (D := [deadB]) noFroz ⟨rfl, rfl, rfl, rfl⟩ (.inr ⟨rfl, rfl, rfl, rfl, fun j hj => renC_S rfl⟩)
  · cases h
noncomputable def FDU : Fns := (FB.add 31 GFits).addG 32 GTrU
theorem FDUok : FnsOk Tryd.prog FDU := (FBok.add con31).addG gcon32U
end Go.Proofs.YthddkcoflnbjbaaDoor
