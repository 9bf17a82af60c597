/-
  What is proved here: the contract of wave.transform. A text to be imported.
-/
import Derived.Test.YthddkcoflnbjbaaDoorQCon8
namespace Go.Proofs.YthddkcoflnbjbaaDoor
open Sm Go Go.RowKit Fl Ieee
set_option maxRecDepth 1000000
set_option linter.unusedVariables false
theorem CC_bif (c : Bool) (a b : Nat × Nat) : pickC c (CC a) (CC b) = CC (bif c then a else b) := by
  cases c <;> rfl
theorem bU_le (n : Nat) (Y Y' : Nat → Nat × Nat) (o : Nat) (a : Nat × Nat) (h : ∀ j, j < n → Y' j = bif Nat.beq j o then a else Y j) : BlkLe (bU n Y o a) (bY n Y') :=
  sy_le fun j hj => by
    show pickC (Nat.beq j o) (CC a) (CC (Y j)) = CC (Y' j)
    rw [CC_bif, h j hj]
theorem bU2_le (n : Nat) (Y Y' : Nat → Nat × Nat) (o : Nat) (a : Nat × Nat) (o' : Nat) (a' : Nat × Nat) (h : ∀ j, j < n → Y' j = bif Nat.beq j o' then a' else bif Nat.beq j o then a else Y j) : BlkLe (bU2 n Y o a o' a') (bY n Y') :=
  sy_le fun j hj => by
    show pickC (Nat.beq j o') (CC a') (pickC (Nat.beq j o) (CC a) (CC (Y j))) = CC (Y' j)
    rw [CC_bif, CC_bif, h j hj]
def scat (r : Nat → Nat) (X : Nat → Nat × Nat) : Nat → Nat → Nat × Nat
  | 0, _ => (0, 0)
  | i + 1, j => bif Nat.beq j (r i) then X i else scat r X i j
def bfly (t : Nat × Nat) (Y : Nat → Nat × Nat) (o o' : Nat) (j : Nat) : Nat × Nat :=
  bif Nat.beq j o' then csub (Y o) (bfT t (Y o')) else bif Nat.beq j o then cadd (Y o) (bfT t (Y o')) else Y j
def YK (way : Int) (h fr : Nat) (Y : Nat → Nat × Nat) : Nat → Nat → Nat × Nat
  | 0 => Y
  | k + 1 => bfly (turnP (way * k) (2 * h : Nat)) (YK way h fr Y k) (fr + k) (fr + k + h)
def YF (way : Int) (h : Nat) (Y : Nat → Nat × Nat) : Nat → Nat → Nat × Nat
  | 0 => Y
  | b + 1 => YK way h (2 * h * b) (YF way h Y b) h
def YS (way : Int) (p : Nat) (Y : Nat → Nat × Nat) : Nat → Nat → Nat × Nat
  | 0 => Y
  | s + 1 => YF way (2 ^ s) (YS way p Y s) (2 ^ (p - s - 1))
def okK (way : Int) (h fr : Nat) (Y : Nat → Nat × Nat) : Prop := ∀ k, k < h → okBf (turnP (way * k) (2 * h : Nat)) (YK way h fr Y k (fr + k)) (YK way h fr Y k (fr + k + h))
def okF (way : Int) (h : Nat) (Y : Nat → Nat × Nat) (m : Nat) : Prop := ∀ b, b < m → okK way h (2 * h * b) (YF way h Y b)
def okSt (way : Int) (p : Nat) (Y : Nat → Nat × Nat) : Prop := ∀ s, s < p → okF way (2 ^ s) (YS way p Y s) (2 ^ (p - s - 1))
theorem iv_same (a b : Int) (h : a = b) : sameV (iv a) (iv b) := by rw [h]; exact sameV.refl _
theorem half_eq (h : Nat) (hh : h ≤ 4096) : half ((2 * h : Nat) : Int) = h := by
  unfold half
  rw [show ((2 * h : Nat) : Int).tdiv 2 = (h : Int) by rw [Int.natCast_mul]; exact Int.mul_tdiv_cancel_left _ (by decide)]
  exact Wid (by omega) (by omega)
theorem loopK {n : Nat} {way : Int} {h fr : Nat} {Y : Nat → Nat × Nat} (hw : way = 1 ∨ way = -1) (hn : n ≤ 4096) (hf : fr + 2 * h ≤ n) (hok : okK way h fr Y) :
    LoopOk Tryd.prog cK (tmL 104 (lK n way (2 * h : Nat) fr (half (2 * h : Nat)) 0)) [deadB, bY n Y] (.exit 6) (tmL 104 (lKf n way (2 * h : Nat) fr)) [deadB, bY n (YK way h fr Y h)] := by
  have hh := half_eq h (by omega)
  refine loop_rounds hm hT FBok 104 h (lK n way (2 * h : Nat) fr (half (2 * h : Nat))) (fun k => [deadB, bY n (YK way h fr Y k)]) (.exit 6) _ _ (fun e => by cases e) (fun k hk => ⟨300, [.b true], ?_⟩) ⟨300, [.b false], ?_⟩ 0 (Nat.zero_le _)
  · have e0 : pl0 fr k = ((fr + k : Nat) : Int) := by unfold pl0; rw [Wid (by omega) (by omega), Int.natCast_add]
    have e1 : pl1 (2 * h : Nat) fr k = ((fr + k + h : Nat) : Int) := by
      have hh' : W (((2 * h : Nat) : Int).tdiv 2) = h := hh
      unfold pl1
      rw [hh', Wid (x := (fr : Int) + k) (by omega) (by omega), Wid (by omega) (by omega)]
      omega
    have ew : W (way * k) = way * k := by rcases hw with rfl | rfl <;> exact Wid (by omega) (by omega)
    have t0 : 0 + (pl0 fr k).toNat = fr + k := by rw [e0]; omega
    have t1 : 0 + (pl1 (2 * h : Nat) fr k).toNat = fr + k + h := by rw [e1]; omega
    have b0 : 0 ≤ pl0 fr k ∧ pl0 fr k < n := by rw [e0]; omega
    have b1 : 0 ≤ pl1 (2 * h : Nat) fr k ∧ pl1 (2 * h : Nat) fr k < n := by rw [e1]; omega
    show roundK Tryd.prog T FB 300 cK (tmL 104 (lK n way (2 * h : Nat) fr (half (2 * h : Nat)) k)) [deadB, bY n (YK way h fr Y k)] [.b true] [1, 5, 6, 10, 11, 58, 59] _
    rw [roundKK, t0, t1, ew, hh]
    obtain ⟨k1, k2, k3⟩ := hok k hk
    refine ⟨decide_eq_true (by omega), b0, by omega, b1, by omega, k1, k2, k3, b0, by omega, b1, by omega, rfl, rfl, ⟨sameV.refl _, sameV.refl _, sameV.refl _, sameV.refl _, sameV.refl _, iv_same _ _ rfl, iv_same _ _ ?_, trivial⟩, .refl _, bU2_le _ _ _ _ _ _ _ fun j hj => rfl, trivial⟩
    rw [Wid (by omega) (by omega)]; omega
  · show roundK Tryd.prog T FB 300 cK (tmL 104 (lK n way (2 * h : Nat) fr (half (2 * h : Nat)) h)) [deadB, bY n (YK way h fr Y h)] [.b false] [1, 5, 6, 10, 11] _
    rw [exitKK, hh]
    exact ⟨decide_eq_false (by omega), rfl, rfl, ⟨sameV.refl _, sameV.refl _, sameV.refl _, sameV.refl _, sameV.refl _, trivial⟩, HpLe.refl _⟩
theorem loopF {n : Nat} {way : Int} {h m : Nat} {Y : Nat → Nat × Nat} (hw : way = 1 ∨ way = -1) (hn : n ≤ 4096) (h0 : 0 < h) (hm2 : 2 * h * m = n) (hok : okF way h Y m) :
    LoopOk Tryd.prog cF (tmL 104 (lKf n way (2 * h : Nat) 0)) [deadB, bY n Y] (.exit 4) (tmL 104 (lS n way (2 * h : Nat))) [deadB, bY n (YF way h Y m)] := by
  refine loop_roundsF hm hT 104 m (fun b => lKf n way (2 * h : Nat) ((2 * h * b : Nat) : Int)) (fun b => [deadB, bY n (YF way h Y b)]) (.exit 4) _ _ (fun e => by cases e) (fun b hb => ⟨FK n (YF way h Y b) (YF way h Y (b + 1)) way (2 * h : Nat) ((2 * h * b : Nat) : Int) True, ?_, 300, [.b true, .l 2], ?_⟩) ⟨FB, FBok, 300, [.b false], ?_⟩ 0 (Nat.zero_le _)
  · have hle : 2 * h * b + 2 * h ≤ n := by
      have := Nat.mul_le_mul_left (2 * h) (show b + 1 ≤ m by omega)
      rw [Nat.mul_add, Nat.mul_one] at this
      omega
    exact FBok.addKeep 2 fun _ => loopK hw hn hle (hok b hb)
  · have hle : 2 * h * b + 2 * h ≤ n := by
      have := Nat.mul_le_mul_left (2 * h) (show b + 1 ≤ m by omega)
      rw [Nat.mul_add, Nat.mul_one] at this
      omega
    show roundK Tryd.prog T (FK n (YF way h Y b) (YF way h Y (b + 1)) way (2 * h : Nat) ((2 * h * b : Nat) : Int) True) 300 cF (tmL 104 (lKf n way (2 * h : Nat) ((2 * h * b : Nat) : Int))) [deadB, bY n (YF way h Y b)] [.b true, .l 2] [1, 5, 6, 10, 11] _
    rw [roundF]
    refine ⟨decide_eq_true (by omega), rfl, ⟨⟨rfl, ⟨rfl, rfl, rfl, rfl, rfl, rfl, rfl, trivial⟩, startBs.refl _⟩, trivial⟩, rfl, rfl, ⟨sameV.refl _, sameV.refl _, sameV.refl _, sameV.refl _, iv_same _ _ ?_, trivial⟩, HpLe.refl _⟩
    rw [Wid (by omega) (by omega), Nat.mul_add, Nat.mul_one]; omega
  · show roundK Tryd.prog T FB 300 cF (tmL 104 (lKf n way (2 * h : Nat) ((2 * h * m : Nat) : Int))) [deadB, bY n (YF way h Y m)] [.b false] [1, 5, 6, 10] _
    rw [exitF]
    exact ⟨decide_eq_false (by omega), rfl, rfl, ⟨sameV.refl _, sameV.refl _, sameV.refl _, sameV.refl _, trivial⟩, HpLe.refl _⟩
theorem pow_split {p s : Nat} (h : s < p) : 2 * 2 ^ s * 2 ^ (p - s - 1) = 2 ^ p := by
  rw [← Nat.pow_succ', ← Nat.pow_add]
  congr 1
  omega
theorem loopS {way : Int} {p : Nat} {Y : Nat → Nat × Nat} (hw : way = 1 ∨ way = -1) (hp : p ≤ 12) (hok : okSt way p Y) :
    LoopOk Tryd.prog cS (tmL 104 (lS (2 ^ p) way 2)) [deadB, bY (2 ^ p) Y] (.exit 2) (tmL 104 [(6, slY (2 ^ p))]) [deadB, bY (2 ^ p) (YS way p Y p)] := by
  have hpn : 2 ^ p ≤ 4096 := Nat.pow_le_pow_right (by omega) hp
  refine loop_roundsF hm hT 104 p (fun s => lS (2 ^ p) way ((2 * 2 ^ s : Nat) : Int)) (fun s => [deadB, bY (2 ^ p) (YS way p Y s)]) (.exit 2) _ _ (fun e => by cases e) (fun s hs => ⟨FF (2 ^ p) (YS way p Y s) (YS way p Y (s + 1)) way ((2 * 2 ^ s : Nat) : Int) True, ?_, 300, [.b true, .l 1], ?_⟩) ⟨FB, FBok, 300, [.b false], ?_⟩ 0 (Nat.zero_le _)
  · exact FBok.addKeep 1 fun _ => loopF hw hpn (Nat.two_pow_pos s) (pow_split hs) (hok s hs)
  · have hle : 2 ^ (s + 1) ≤ 2 ^ p := Nat.pow_le_pow_right (by omega) hs
    rw [Nat.pow_succ] at hle
    show roundK Tryd.prog T (FF (2 ^ p) (YS way p Y s) (YS way p Y (s + 1)) way ((2 * 2 ^ s : Nat) : Int) True) 300 cS (tmL 104 (lS (2 ^ p) way ((2 * 2 ^ s : Nat) : Int))) [deadB, bY (2 ^ p) (YS way p Y s)] [.b true, .l 1] [1, 5, 6, 10] _
    rw [roundS]
    refine ⟨decide_eq_true (by omega), rfl, ⟨⟨rfl, ⟨rfl, rfl, rfl, rfl, rfl, trivial⟩, startBs.refl _⟩, trivial⟩, rfl, rfl, ⟨sameV.refl _, sameV.refl _, sameV.refl _, iv_same _ _ ?_, trivial⟩, HpLe.refl _⟩
    rw [Wid (by omega) (by omega), Nat.pow_succ]; omega
  · show roundK Tryd.prog T FB 300 cS (tmL 104 (lS (2 ^ p) way ((2 * 2 ^ p : Nat) : Int))) [deadB, bY (2 ^ p) (YS way p Y p)] [.b false] [6] _
    rw [exitS]
    have := Nat.two_pow_pos p
    exact ⟨decide_eq_false (by omega), rfl, rfl, ⟨sameV.refl _, trivial⟩, HpLe.refl _⟩
/-! the first loop -/
theorem rvAll_at {p : Nat} : ∀ {m i : Nat}, rvAll p m i = true → ∀ j, i ≤ j → j < i + m → rvp p j = rev p j ∧ rev p (rev p j) = j ∧ rev p j < 2 ^ p
  | 0, i, _, j, h1, h2 => by omega
  | m + 1, i, h, j, h1, h2 => by
    simp only [rvAll, Bool.and_eq_true, beq_eq, blt_eq, decide_eq_true_eq] at h
    obtain ⟨⟨⟨a1, a2⟩, a3⟩, a4⟩ := h
    by_cases e : j = i
    · subst e; exact ⟨a1, a2, a3⟩
    · exact rvAll_at a4 j (by omega) (by omega)
theorem rev_at {p j : Nat} (hp : p ≤ 12) (hj : j < 2 ^ p) : rvp p j = rev p j ∧ rev p (rev p j) = j ∧ rev p j < 2 ^ p := rvAll_at (rv_all p hp) j (Nat.zero_le _) (by omega)
theorem Uid {x : Int} (h1 : 0 ≤ x) (h2 : x ≤ 18446744073709551615) : U x = x := by
  unfold U
  simp only [IntKind.wrap, IntKind.bits, IntKind.signed]
  simp
  omega
theorem U_nonneg (x : Int) : 0 ≤ U x := by
  unfold U
  simp only [IntKind.wrap, IntKind.bits, IntKind.signed]
  simp
  omega
theorem mask_of {p : Nat} (hp : p ≤ 12) : U (W (((2 ^ p : Nat) : Int) - 1)) = mask p := by
  have hpn : 2 ^ p ≤ 4096 := Nat.pow_le_pow_right (by omega) hp
  have := Nat.two_pow_pos p
  rw [Wid (by omega) (by omega), Uid (by omega) (by omega)]
  unfold mask
  rw [Int.natCast_pow]; rfl
theorem shOf_eq {p : Nat} (hp : p ≤ 12) : shOf (2 ^ p) = 64 - p := by
  have : lenV (U (W (((2 ^ p : Nat) : Int) - 1))) = p := by
    rw [mask_of hp]
    exact mask_len p hp
  unfold shOf
  rw [this]
  exact Wid (by omega) (by omega)
theorem plZ_eq {p i : Nat} (hp : p ≤ 12) (hi : i < 2 ^ p) : plZ (64 - p) i = rev p i := by
  have hpn : 2 ^ p ≤ 4096 := Nat.pow_le_pow_right (by omega) hp
  have h := (rev_at hp hi).1
  have e : plZ (64 - p) i = shrU (rv64 i) (min ((64 : Int) - p).toNat 64) := by
    unfold plZ shrU
    rw [Uid (by omega) (by omega)]
  have hge : 0 ≤ shrU (rv64 i) (min ((64 : Int) - p).toNat 64) := by
    unfold shrU
    refine Int.fdiv_nonneg ?_ (Int.le_of_lt (Int.pow_pos (by decide)))
    exact U_nonneg _
  unfold rvp at h
  rw [e]
  omega
theorem loopZ {way : Int} {p : Nat} {X : Nat → Nat × Nat} (hp : p ≤ 12) :
    LoopOk Tryd.prog cZ (tmL 104 (lZ (2 ^ p) X way (shOf (2 ^ p)) 0)) [deadB, bY (2 ^ p) zeroY] (.exit 0) (tmL 104 [(1, iv way), (5, iv (2 ^ p : Nat)), (6, slY (2 ^ p))]) [deadB, bY (2 ^ p) (scat (rev p) X (2 ^ p))] := by
  have hpn : 2 ^ p ≤ 4096 := Nat.pow_le_pow_right (by omega) hp
  rw [shOf_eq hp]
  refine loop_rounds hm hT FBok 104 (2 ^ p) (lZ (2 ^ p) X way (64 - p)) (fun i => [deadB, bY (2 ^ p) (scat (rev p) X i)]) (.exit 0) _ _ (fun e => by cases e) (fun i hi => ?_) ⟨300, [.b false], ?_⟩ 0 (Nat.zero_le _)
  · have hr := rev_at hp hi
    have hpl := plZ_eq hp hi
    by_cases h1 : p = 0
    · subst h1
      refine ⟨300, [.b true, .b false], ?_⟩
      show roundK Tryd.prog T FB 300 cZ (tmL 104 (lZ (2 ^ 0) X way (64 - (0 : Nat)) i)) [deadB, bY (2 ^ 0) (scat (rev 0) X i)] [.b true, .b false] [1, 5, 6, 7, 24, 25, 26] _
      rw [round1]
      have hi0 : i = 0 := by simp at hi; exact hi
      subst hi0
      refine ⟨decide_eq_true (by decide), ⟨by decide, by decide⟩, by decide, ⟨by decide, by decide⟩, by decide, rfl, rfl, ⟨sameV.refl _, sameV.refl _, sameV.refl _, sameV.refl _, sameV.refl _, sameV.refl _, iv_same _ _ ?_, trivial⟩, .refl _, bU_le _ _ _ _ _ fun j hj => rfl, trivial⟩
      decide
    · refine ⟨300, [.b true, .b true], ?_⟩
      have h2 : 2 ≤ 2 ^ p := by
        have := Nat.pow_le_pow_right (show 0 < 2 by omega) (show 1 ≤ p by omega)
        omega
      show roundK Tryd.prog T FB 300 cZ (tmL 104 (lZ (2 ^ p) X way (64 - p) i)) [deadB, bY (2 ^ p) (scat (rev p) X i)] [.b true, .b true] [1, 5, 6, 7, 24, 25, 26] _
      rw [roundZ, hpl]
      have e0 : 0 + ((rev p i : Nat) : Int).toNat = rev p i := by omega
      rw [e0]
      refine ⟨decide_eq_true (by omega), ⟨by omega, by omega⟩, decide_eq_true (by omega), decide_eq_false (by omega), ⟨by omega, by omega⟩, by omega, rfl, rfl, ⟨sameV.refl _, sameV.refl _, sameV.refl _, sameV.refl _, sameV.refl _, sameV.refl _, iv_same _ _ ?_, trivial⟩, .refl _, bU_le _ _ _ _ _ fun j hj => rfl, trivial⟩
      rw [Wid (by omega) (by omega)]; omega
  · show roundK Tryd.prog T FB 300 cZ (tmL 104 (lZ (2 ^ p) X way (64 - p) (2 ^ p))) [deadB, bY (2 ^ p) (scat (rev p) X (2 ^ p))] [.b false] [1, 5, 6] _
    rw [exitZ]
    exact ⟨decide_eq_false (by omega), rfl, rfl, ⟨sameV.refl _, sameV.refl _, sameV.refl _, trivial⟩, HpLe.refl _⟩
def trY (way : Int) (p : Nat) (X : Nat → Nat × Nat) : Nat → Nat × Nat := YS way p (scat (rev p) X (2 ^ p)) p
def okTr (way : Int) (p : Nat) (X : Nat → Nat × Nat) : Prop := okSt way p (scat (rev p) X (2 ^ p))
def toC : C1 → Nat × Nat
  | .sc (.complex _ a b) _ => (a, b)
  | _ => (0, 0)
def ofC (f : Nat → List C1) (k : Nat) : Nat × Nat := toC ((f k).getD 0 .em)
def GTr : List AV → Option (Prop × AV × Blk)
  | [.one (.lst n N 1 f), .one (.sc (.int .i64 way) false)] => some ((∃ p, p ≤ 12 ∧ n = 2 ^ p ∧ okTr way p (ofC f)) ∧ (way = 1 ∨ way = -1) ∧ n ≤ N ∧ ∀ k, k < n → f k = fX (ofC f) k, .one (.sl 0 0 n 1), bY n (trY way n.log2 (ofC f)))
  | _ => none
theorem gcon32 : GCon Tryd.prog 32 GTr := by
  refine gcon_of_runA hm hT Tryd.func32 Tryd.call32 fun args p v b h hp => ?_
  unfold GTr at h
  split at h
  · rename_i n N f way
    simp only [Option.some.injEq, Prod.mk.injEq] at h
    obtain ⟨rfl, rfl, rfl⟩ := h
    obtain ⟨⟨p, hp, rfl, hok⟩, hw, hnN, hf⟩ := hp
    have hpn : 2 ^ p ≤ 4096 := Nat.pow_le_pow_right (by omega) hp
    rw [Nat.log2_two_pow]
    refine ⟨.inr rfl, sym_free fun k => trivial, FW (2 ^ p) (ofC f) (scat (rev p) (ofC f) (2 ^ p)) (trY way p (ofC f)) way True True, [xL (2 ^ p) (ofC f), iv way], ?_, fun E us hr => ?_, 400, [.l 0, .l 3], [], ?_⟩
    · exact (FBok.addKeep 0 fun _ => loopZ hp).addKeep 3 fun _ => loopS hw hp hok
    · obtain ⟨u, us, rfl, h1, h2⟩ := hr.cons
      exact .mk (lst_less (Nat.le_refl _) hnN hf h1) h2
    · have hb : ∀ m : Nat, m ≤ 4096 → 0 ≤ (m : Int) ∧ (m : Int) ≤ m ∧ (16 : Int) * m ≤ 281474976710656 ∧ (m : Int) ≤ 9223372036854775807 := fun m hm => by omega
      refine of_run (runW _ _ _ _ _ _ _ _) ⟨hb _ hpn, ⟨p, hp, mask_of hp⟩, rfl, ⟨⟨rfl, ⟨rfl, rfl, ?_, rfl, rfl, rfl, rfl, trivial⟩, ⟨startB.refl _, ?_, trivial⟩⟩, trivial⟩, rfl, ⟨⟨rfl, ⟨rfl, rfl, rfl, rfl, trivial⟩, startBs.refl _⟩, trivial⟩, _, rfl, ?_⟩
      · show AV.one (.sl 1 0 ((2 ^ p : Nat) : Int).toNat 1) = _
        rw [Int.toNat_natCast]; rfl
      · refine .inr ⟨rfl, rfl, rfl, fun E vs hr => ⟨?_, fun j c v hc hv => ?_⟩⟩
        · rw [← hr.1]
          show (symC _ _).length = (symC _ _).length
          rw [symC_length, symC_length]
        · have hj : j < 2 ^ p := by
            have := (List.getElem?_eq_some_iff.1 hc).1
            rwa [show (bY (2 ^ p) zeroY).cells = symC (2 ^ p) fun j => CC (zeroY j) from rfl, symC_length] at this
          rw [show (bY (2 ^ p) zeroY).cells = symC (2 ^ p) fun j => CC (zeroY j) from rfl, symC_get _ _ hj] at hc
          simp only [Option.some.injEq] at hc
          subst hc
          exact hr.2 j (.sc (.complex .f64 0 0) true) v (by show (symC (2 ^ p) _)[j]? = _; rw [symC_get _ _ hj]) hv
      · exact one_left (D := [deadB]) noFroz ⟨rfl, rfl, rfl, rfl⟩ (.inr ⟨rfl, rfl, rfl, rfl, fun j hj => renC_S rfl⟩)
  · cases h
end Go.Proofs.YthddkcoflnbjbaaDoor
