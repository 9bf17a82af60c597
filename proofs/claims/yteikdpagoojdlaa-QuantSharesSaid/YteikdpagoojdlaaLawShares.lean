/-
  What is proved here: for all fine coefficients and every table the law QuantShares returns true and its arguments read as before. No condition.
-/
import Derived.Test.YteikdpagoojdlaaCon9
namespace Go.Proofs.Yteikdpagoojdlaa.QuantShares
open Sm Go Go.RowKit Go.ChangeShapes Go.WideShapes Go.ChangeAt
set_option maxRecDepth 1000000
theorem own : ownKnob Try.prog.godebug = none := by kernel_rfl
theorem laidOut : laidOutB Try.prog = true := by kernel_rfl
open Fl
def condA (n c s : Int) : Bool := bif decide (sizeI n ≥ 16777216) then true else decide (W (2 * sizeI (W (n - W (c * s)))) > s)
def condB (h : Nat) (n c s : Int) : Bool :=
  bif bif FloatKind.f32.format.order h 3204448256 == some .lt then true else FloatKind.f32.format.order h 1056964608 == some .gt then true else !((FloatKind.f32.format.order h 0 == some .eq) == (n == W (c * s)))
def shareAt (f t : Nat → Int) (k : Nat) : Prop :=
  (condA (W (f (ord k))) (W (coarseV f (fun i => stepV (t i)) k)) (stepM (t k)) = true → True) ∧
  (condA (W (f (ord k))) (W (coarseV f (fun i => stepV (t i)) k)) (stepM (t k)) = false →
    ((condB (shareV f (fun i => stepV (t i)) k) (W (f (ord k))) (W (coarseV f (fun i => stepV (t i)) k)) (stepM (t k)) = true → false = true) ∧
     (condB (shareV f (fun i => stepV (t i)) k) (W (f (ord k))) (W (coarseV f (fun i => stepV (t i)) k)) (stepM (t k)) = false → True)))
def sharesL (f t : Nat → Int) : List Prop := fitsN f (fun i => stepV (t i)) 64 0 :: fitsN f (fun i => stepV (t i)) 64 0 :: (List.range 64).map (shareAt f t)
theorem walked (f t : Nat → Int) : runK Try.prog T FK 8000 Try.f10 [.agg (cellsK .i32 false 64 f), .agg (cellsK .u16 false 64 t)] [] (List.replicate 64 .j) (fun r _ => isTrue r) = obsP (sharesL f t) (true = true) := by kernel_rfl
theorem canonFT' (f t : Nat → Int) : canon false [.val (.agg (valsK .i32 64 f).toArray), .val (.agg (valsK .u16 64 t).toArray)] 0 = some ([.agg (cellsK .i32 false 64 f), .agg (cellsK .u16 false 64 t)], []) := by kernel_rfl
theorem rep_half {n : Int} (h1 : -16777216 ≤ n) (h2 : n ≤ 16777216) : rep FloatKind.f32.format ((n : Rat) / 2) := by
  refine ⟨decide (n < 0), n.natAbs, -1, ?_, by decide, ?_⟩
  · show n.natAbs ≤ 2 ^ 24
    omega
  · rw [sg_natAbs n _ (by by_cases h : n = 0 <;> simp [h])]
    have := pw_neg 1
    rw [pw_one] at this
    have h3 : pw (-1) = 1 / 2 := by grind
    rw [h3]
    grind
theorem read_place {f : Ieee.Format} {x : Nat} {s : Bool} {m : Nat} {p : Int} (h : f.read x = .number s m p) : f.leastPlace ≤ p := by
  unfold Ieee.Format.read at h
  simp only at h
  split at h
  · cases h; omega
  · split at h
    · cases h; omega
    · split at h <;> cases h
theorem grid {f : Ieee.Format} {x : Nat} (h : num f x) : ∃ Z : Int, vl f x = (Z : Rat) * pw f.leastPlace := by
  obtain ⟨s, m, p, hr⟩ := h
  have hp := read_place hr
  refine ⟨Ieee.signed s m (p - f.leastPlace).toNat, ?_⟩
  unfold vl
  rw [hr]
  exact dv_scaled hp
theorem half_bits : fnum .f32 3204448256 ∧ fv .f32 3204448256 = -1 / 2 ∧ fnum .f32 1056964608 ∧ fv .f32 1056964608 = 1 / 2 ∧ fnum .f32 0 ∧ fv .f32 0 = 0 := by
  have r1 : FloatKind.f32.format.read 3204448256 = .number true 8388608 (-24) := by kernel_rfl
  have r2 : FloatKind.f32.format.read 1056964608 = .number false 8388608 (-24) := by kernel_rfl
  have r3 : FloatKind.f32.format.read 0 = .number false 0 (-149) := by kernel_rfl
  have e := pw_neg 24
  have e2 := pw_nat 24
  rw [show ((24 : Nat) : Int) = 24 from rfl, show (2 ^ 24 : Nat) = 16777216 from rfl, Rat.natCast_ofNat] at e2
  rw [e2] at e
  refine ⟨⟨_, _, _, r1⟩, ?_, ⟨_, _, _, r2⟩, ?_, ⟨_, _, _, r3⟩, ?_⟩
  · show dv (FloatKind.f32.format.read 3204448256) = _
    rw [r1]
    simp only [dv, sg, if_true]
    rw [Rat.natCast_ofNat]
    grind
  · show dv (FloatKind.f32.format.read 1056964608) = _
    rw [r2]
    simp only [dv, sg, Bool.false_eq_true, if_false]
    rw [Rat.natCast_ofNat]
    grind
  · show dv (FloatKind.f32.format.read 0) = _
    rw [r3]
    simp only [dv]
    simp
theorem tiny : (65536 : Rat) * eta FloatKind.f32.format < uU FloatKind.f32.format ∧ uU FloatKind.f32.format * 16777216 = 1 := by
  have h1 : eta FloatKind.f32.format = pw (-150) := rfl
  have h2 : uU FloatKind.f32.format = pw (-24) := rfl
  have e := pw_neg 24
  have e2 := pw_nat 24
  rw [show ((24 : Nat) : Int) = 24 from rfl, show (2 ^ 24 : Nat) = 16777216 from rfl, Rat.natCast_ofNat] at e2
  rw [e2] at e
  have h3 : pw (-150) ≤ pw (-41) := pw_mono (by decide)
  have h4 : pw (-24) = pw 17 * pw (-41) := by rw [← pw_add]; rfl
  have h5 := pw_nat 17
  rw [show ((17 : Nat) : Int) = 17 from rfl, show (2 ^ 17 : Nat) = 131072 from rfl, Rat.natCast_ofNat] at h5
  have h6 := pw_pos (-41)
  rw [h1, h2]
  refine ⟨?_, e⟩
  rw [h4, h5]
  grind
theorem share_law {f s : Nat → Int} (h : fits f s) {k : Nat} (hk : k < 64) (hn : -16777216 < f (ord k) ∧ f (ord k) < 16777216) (hc : -(s k) ≤ 2 * (f (ord k) - coarseV f s k * s k) ∧ 2 * (f (ord k) - coarseV f s k * s k) ≤ s k) :
    -1 / 2 ≤ fv .f32 (shareV f s k) ∧ fv .f32 (shareV f s k) ≤ 1 / 2 ∧ (fv .f32 (shareV f s k) = 0 ↔ f (ord k) = coarseV f s k * s k) := by
  obtain ⟨s1, s2⟩ := h.2 k hk
  obtain ⟨_, hq, _, _⟩ := quo_ok h hk
  obtain ⟨_, hh⟩ := share_ok h hk
  have hr := coarseV_range (f := f) (s := s) (k := k) (h.1 _ (ord_lt k hk))
  have hl : -1024 ≤ leastV k := by rw [leastV_eq]; split <;> omega
  have hcr : -1024 ≤ coarseV f s k ∧ coarseV f s k ≤ 1023 := by omega
  obtain ⟨_, hA⟩ := fI_small (n := f (ord k)) (by omega) (by omega)
  rw [hA] at hq
  generalize coarseV f s k = c at *
  generalize f (ord k) = n at *
  generalize s k = σ at *
  have hs1 : (1 : Rat) ≤ (σ : Rat) := by
    have : ((1 : Int) : Rat) ≤ (σ : Rat) := Rat.intCast_le_intCast.2 s1
    exact this
  have hs2 : (σ : Rat) ≤ 65535 := by
    have : (σ : Rat) ≤ ((65535 : Int) : Rat) := Rat.intCast_le_intCast.2 s2
    exact this
  have hs0 : (0 : Rat) < (σ : Rat) := by grind
  have hz := Rat.div_mul_cancel (a := (n : Rat)) (Rat.ne_of_gt hs0)
  generalize hzd : (n : Rat) / (σ : Rat) = z at *
  have hc1 : -(σ : Rat) ≤ 2 * ((n : Rat) - (c : Rat) * (σ : Rat)) := by
    have : ((-σ : Int) : Rat) ≤ ((2 * (n - c * σ) : Int) : Rat) := Rat.intCast_le_intCast.2 hc.1
    push_cast at this
    exact this
  have hc2 : 2 * ((n : Rat) - (c : Rat) * (σ : Rat)) ≤ (σ : Rat) := by
    have : ((2 * (n - c * σ) : Int) : Rat) ≤ (σ : Rat) := Rat.intCast_le_intCast.2 hc.2
    push_cast at this
    exact this
  have z1 : (c : Rat) - 1 / 2 ≤ z := by
    refine Rat.le_of_mul_le_mul_right (c := (σ : Rat)) ?_ hs0
    rw [hz]; grind
  have z2 : z ≤ (c : Rat) + 1 / 2 := by
    refine Rat.le_of_mul_le_mul_right (c := (σ : Rat)) ?_ hs0
    rw [hz]; grind
  have q1 : (c : Rat) - 1 / 2 ≤ vl FloatKind.f32.format (quoV f s k) := by
    have hrep := rep_half (n := 2 * c - 1) (by omega) (by omega)
    have e : (((2 * c - 1 : Int)) : Rat) / 2 = (c : Rat) - 1 / 2 := by push_cast; grind
    rw [e] at hrep
    exact hq.ge _ hrep z1
  have q2 : vl FloatKind.f32.format (quoV f s k) ≤ (c : Rat) + 1 / 2 := by
    have hrep := rep_half (n := 2 * c + 1) (by omega) (by omega)
    have e : (((2 * c + 1 : Int)) : Rat) / 2 = (c : Rat) + 1 / 2 := by push_cast; grind
    rw [e] at hrep
    exact hq.le _ hrep z2
  have hp : rep FloatKind.f32.format ((1 : Rat) / 2) := by
    have := rep_half (n := 1) (by decide) (by decide)
    exact this
  have hm : rep FloatKind.f32.format (-1 / 2 : Rat) := by
    have := rep_neg hp
    have e : -((1 : Rat) / 2) = -1 / 2 := by grind
    rwa [e] at this
  refine ⟨hh.ge _ hm (by unfold fv; grind), hh.le _ hp (by unfold fv; grind), ?_⟩
  -- it is 0 just where the quotient is the coefficient
  have hc24 : rep FloatKind.f32.format (c : Rat) := rep32 (by omega) (by omega)
  have h0 : rep FloatKind.f32.format (0 : Rat) := by
    have := rep32 (n := 0) (by decide) (by decide)
    exact this
  have zero_iff : fv .f32 (shareV f s k) = 0 ↔ vl FloatKind.f32.format (quoV f s k) = (c : Rat) := by
    constructor
    · intro hz0
      refine Classical.byContradiction fun hne => ?_
      obtain ⟨Z, hZ⟩ := grid hq.num
      have hlp := pw_pos FloatKind.f32.format.leastPlace
      have hcg : (c : Rat) = ((c * (2 ^ 149 : Nat) : Int) : Rat) * pw FloatKind.f32.format.leastPlace := by
        have e1 : FloatKind.f32.format.leastPlace = -149 := rfl
        have e2 := pw_neg 149
        have e3 := pw_nat 149
        rw [show ((149 : Nat) : Int) = 149 from rfl] at e3
        rw [e3] at e2
        rw [e1]
        generalize (2 ^ 149 : Nat) = G at *
        push_cast
        rw [Rat.mul_assoc]
        have e4 : (G : Rat) * pw (-149) = 1 := by grind
        rw [e4, Rat.mul_one]
      have hd : vl FloatKind.f32.format (quoV f s k) - (c : Rat) = ((Z - c * (2 ^ 149 : Nat) : Int) : Rat) * pw FloatKind.f32.format.leastPlace := by
        generalize (2 ^ 149 : Nat) = G at *
        rw [hZ]
        push_cast at hcg ⊢
        grind
      generalize hY : (Z - c * (2 ^ 149 : Nat) : Int) = Y at *
      have hrl : rep FloatKind.f32.format (pw FloatKind.f32.format.leastPlace) := ⟨false, 1, _, by decide, Int.le_refl _, by simp [sg]⟩
      have hY0 : Y ≠ 0 := by
        rintro rfl
        simp at hd
        grind
      by_cases hpos : 0 < Y
      · have h1 : ((1 : Int) : Rat) ≤ (Y : Rat) := Rat.intCast_le_intCast.2 (by omega)
        have h2 := Rat.mul_le_mul_of_nonneg_right h1 (Rat.le_of_lt hlp)
        have h3 := hh.ge _ hrl (by unfold fv; rw [hd]; have e : ((1 : Int) : Rat) = 1 := rfl; rw [e] at h2; grind)
        grind
      · have h1 : (Y : Rat) ≤ ((-1 : Int) : Rat) := Rat.intCast_le_intCast.2 (by omega)
        have h2 := Rat.mul_le_mul_of_nonneg_right h1 (Rat.le_of_lt hlp)
        have h3 := hh.le _ (rep_neg hrl) (by unfold fv; rw [hd]; have e : ((-1 : Int) : Rat) = -1 := rfl; rw [e] at h2; grind)
        grind
    · intro e
      have := hh.exact (by unfold fv; rw [e]; have e2 : (c : Rat) - (c : Rat) = 0 := by grind
                           rw [e2]; exact h0)
      show vl FloatKind.f32.format (shareV f s k) = 0
      rw [this]
      unfold fv
      rw [e]
      grind
  rw [zero_iff]
  constructor
  · intro e
    refine Classical.byContradiction fun hne => ?_
    obtain ⟨t1, t2⟩ := tiny
    have hu := uU_pos FloatKind.f32.format
    have he := eta_pos FloatKind.f32.format
    generalize hB : (16777215 : Rat) / (σ : Rat) = B at *
    have hBs : B * (σ : Rat) = 16777215 := by rw [← hB]; exact Rat.div_mul_cancel (Rat.ne_of_gt hs0)
    have n1 : (n : Rat) ≤ 16777215 := by
      have : (n : Rat) ≤ ((16777215 : Int) : Rat) := Rat.intCast_le_intCast.2 (by omega)
      exact this
    have n2 : -16777215 ≤ (n : Rat) := by
      have : ((-16777215 : Int) : Rat) ≤ (n : Rat) := Rat.intCast_le_intCast.2 (by omega)
      exact this
    obtain ⟨r1, r2⟩ := hq.err B (Rat.le_of_mul_le_mul_right (c := (σ : Rat)) (by rw [hz, hBs]; exact n1) hs0) (Rat.le_of_mul_le_mul_right (c := (σ : Rat)) (by rw [hz]; grind) hs0)
    rw [e] at r1 r2
    have m1 := Rat.mul_le_mul_of_nonneg_right r1 (Rat.le_of_lt hs0)
    have m2 := Rat.mul_le_mul_of_nonneg_right r2 (Rat.le_of_lt hs0)
    have k1 : (B * uU FloatKind.f32.format + eta FloatKind.f32.format) * (σ : Rat) = 16777215 * uU FloatKind.f32.format + eta FloatKind.f32.format * (σ : Rat) := by grind
    have k2 := Rat.mul_le_mul_of_nonneg_left hs2 (Rat.le_of_lt he)
    have k3 : ((c : Rat) - z) * (σ : Rat) = (c : Rat) * (σ : Rat) - (n : Rat) := by grind
    have k4 : (z - (c : Rat)) * (σ : Rat) = (n : Rat) - (c : Rat) * (σ : Rat) := by grind
    rw [k1, k3] at m1
    rw [k1, k4] at m2
    have b : (c : Rat) * (σ : Rat) - (n : Rat) < 1 ∧ (n : Rat) - (c : Rat) * (σ : Rat) < 1 := by constructor <;> grind
    have i1 : c * σ - n < 1 := by
      have : ((c * σ - n : Int) : Rat) < ((1 : Int) : Rat) := by push_cast; exact b.1
      exact Rat.intCast_lt_intCast.1 this
    have i2 : n - c * σ < 1 := by
      have : ((n - c * σ : Int) : Rat) < ((1 : Int) : Rat) := by push_cast; exact b.2
      exact Rat.intCast_lt_intCast.1 this
    exact hne (by omega)
  · intro e
    have hzc : z = (c : Rat) := by
      rw [← hzd, e]
      push_cast
      exact Rat.mul_div_cancel (Rat.ne_of_gt hs0)
    rw [hzc] at hq
    exact hq.exact hc24
theorem at_ok {f t : Nat → Int} (hf : ∀ i, i < 64 → -2147483648 ≤ f i ∧ f i ≤ 2147483647) (ht : ∀ i, i < 64 → 0 ≤ t i ∧ t i ≤ 65535) (k : Nat) (hk : k < 64) : shareAt f t k := by
  refine ⟨fun _ => trivial, fun ha => ⟨fun hb => ?_, fun _ => trivial⟩⟩
  have hfit : fits f (fun i => stepV (t i)) := ⟨hf, fun i hi => stepV_ok (ht i hi).1 (ht i hi).2⟩
  obtain ⟨f1, f2⟩ := hf _ (ord_lt k hk)
  obtain ⟨t1, t2⟩ := ht k hk
  have hs := stepV_ok t1 t2
  have hr := coarseV_range (f := f) (s := fun i => stepV (t i)) (k := k) ⟨f1, f2⟩
  have hl : -1024 ≤ leastV k := by rw [leastV_eq]; split <;> omega
  have hcs := fine_prod (x := coarseV f (fun i => stepV (t i)) k) ⟨by omega, by omega⟩ hs
  rw [show W (f (ord k)) = f (ord k) from w64 (by omega) (by omega), show W (coarseV f (fun i => stepV (t i)) k) = coarseV f (fun i => stepV (t i)) k from w64 (by omega) (by omega), stepM_eq t1 t2] at ha hb
  have hlaw := share_law hfit hk
  have hsn := (share_ok hfit hk).2.num
  obtain ⟨b1, b2, b3, b4, b5, b6⟩ := half_bits
  have e1 : W (coarseV f (fun i => stepV (t i)) k * stepV (t k)) = coarseV f (fun i => stepV (t i)) k * stepV (t k) := w64 (by omega) (by omega)
  unfold condA at ha
  rw [e1] at ha
  have e2 : W (f (ord k) - coarseV f (fun i => stepV (t i)) k * stepV (t k)) = f (ord k) - coarseV f (fun i => stepV (t i)) k * stepV (t k) := w64 (by omega) (by omega)
  rw [e2] at ha
  have e4 : sizeI (f (ord k) - coarseV f (fun i => stepV (t i)) k * stepV (t k)) = if f (ord k) - coarseV f (fun i => stepV (t i)) k * stepV (t k) < 0 then -(f (ord k) - coarseV f (fun i => stepV (t i)) k * stepV (t k)) else f (ord k) - coarseV f (fun i => stepV (t i)) k * stepV (t k) := sizeI_eq (by omega) (by omega)
  have e5 : W (2 * sizeI (f (ord k) - coarseV f (fun i => stepV (t i)) k * stepV (t k))) = 2 * sizeI (f (ord k) - coarseV f (fun i => stepV (t i)) k * stepV (t k)) := by rw [e4]; exact w64 (by split <;> omega) (by split <;> omega)
  rw [e5, e4, sizeI_eq (n := f (ord k)) (by omega) (by omega)] at ha
  have ha1 : ¬ (if f (ord k) < 0 then -f (ord k) else f (ord k)) ≥ 16777216 := by
    intro hh
    rw [decide_eq_true hh] at ha
    cases ha
  rw [decide_eq_false ha1, cond_false, decide_eq_false_iff_not] at ha
  have hn : -16777216 < f (ord k) ∧ f (ord k) < 16777216 := by split at ha1 <;> omega
  obtain ⟨r1, r2, r3⟩ := hlaw hn (by split at ha <;> (constructor <;> omega))
  unfold condB at hb
  rw [e1] at hb
  obtain ⟨o1, _, _, _⟩ := order_val hsn b1
  obtain ⟨_, _, o2, _⟩ := order_val hsn b3
  obtain ⟨_, o3, _, _⟩ := order_val hsn b5
  have n1 : (FloatKind.f32.format.order (shareV f (fun i => stepV (t i)) k) 3204448256 == some .lt) = false := by
    rw [beq_eq_false_iff_ne]
    intro hh
    have := o1.1 hh
    unfold fv at *
    grind
  have n2 : (FloatKind.f32.format.order (shareV f (fun i => stepV (t i)) k) 1056964608 == some .gt) = false := by
    rw [beq_eq_false_iff_ne]
    intro hh
    have := o2.1 hh
    unfold fv at *
    grind
  rw [n1, n2, cond_false, cond_false, Bool.not_eq_true'] at hb
  have n3 : (FloatKind.f32.format.order (shareV f (fun i => stepV (t i)) k) 0 == some .eq) = (f (ord k) == coarseV f (fun i => stepV (t i)) k * stepV (t k)) := by
    rw [Bool.eq_iff_iff, beq_iff_eq, beq_iff_eq, o3]
    unfold fv at *
    rw [b6]
    exact r3
  rw [n3] at hb
  simp at hb
theorem key (w : World) (f t : Nat → Int) (hf : ∀ i, i < 64 → -2147483648 ≤ f i ∧ f i ≤ 2147483647) (ht : ∀ i, i < 64 → 0 ≤ t i ∧ t i ≤ 65535) :
    Calls Try.prog 10 #[.agg (valsK .i32 64 f).toArray, .agg (valsK .u16 64 t).toArray] w fun e w' => e = .returned (.bool true) ∧ Below w.heap.size w w' := by
  refine law_of_run (st := false) (avs := [.val (.agg (valsK .i32 64 f).toArray), .val (.agg (valsK .u16 64 t).toArray)]) hm hT FKok Try.func10 (canonFT' f t) (of_run (walked f t) (obsP_of _ _ (fun p hp => ?_) rfl)) (ARs_vals w [.agg (valsK .i32 64 f).toArray, .agg (valsK .u16 64 t).toArray])
  have hfit : fits f (fun i => stepV (t i)) := ⟨hf, fun i hi => stepV_ok (ht i hi).1 (ht i hi).2⟩
  simp only [sharesL, List.mem_cons, List.mem_map, List.mem_range] at hp
  rcases hp with rfl | rfl | ⟨k, hk, rfl⟩
  · exact fitsN_of hfit
  · exact fitsN_of hfit
  · exact at_ok hf ht k hk

theorem walk (a0 : List Int) (a1 : List Int) (l0 : a0.length = 64) (w0 : ∀ x ∈ a0, (Lit.int .i32 x).wf = true) (l1 : a1.length = 64) (w1 : ∀ x ∈ a1, (Lit.int .u16 x).wf = true) (w : World) :
    Calls Try.prog 10 #[.agg (a0.map (Value.int .i32)).toArray, .agg (a1.map (Value.int .u16)).toArray] w fun e w' => e = .returned (.bool true) ∧ Below w.heap.size w w' := by
  have hf : ∀ i, i < 64 → -2147483648 ≤ a0.getD i 0 ∧ a0.getD i 0 ≤ 2147483647 := fun i hi => wf_i32 (wf_at l0 w0 hi)
  have ht : ∀ i, i < 64 → 0 ≤ a1.getD i 0 ∧ a1.getD i 0 ≤ 65535 := fun i hi => wf_u16 (wf_at l1 w1 hi)
  rw [valsK_of a0 l0, valsK_of a1 l1]
  exact key w _ _ hf ht

theorem lifted (os : Os) (started : os.Started) (H : Type) (enc : TypeId × Value → H) :
    ReturnsInHanded {} Try.checked os 10 .any (Rows.quantSharesSpec.pre6 enc Try.prog Try.f10 Rows.quantSharesRow.domain false) (Rows.quantSharesSpec.post enc Try.prog Try.f10 false true false false) := by
  refine returnsInHanded_of_change (C := Try.checked) own started (by kernel_rfl) Try.func10
    (ChangeSpec.witness6 (enc := enc) (C := Try.checked) false ⟨#[], #[.agg (Array.replicate 64 (.int .i32 0)), .agg (Array.replicate 64 (.int .u16 0))], []⟩ 8 (by kernel_rfl) (by kernel_rfl) (by kernel_rfl) (by kernel_rfl)) ?_
  intro W base args ds gs before hval0 hW hcnd _
  have hval : ∀ (j : Nat) t v, Try.f10.params[j]? = some t → args[j]? = some v → Value.okWide Try.prog W .any base t v := hval0
  have hW' := hW
  obtain ⟨p, q, hA0, hV, rfl, hfz, hnd⟩ := hW
  have hA : DataW.TrodAll enc Try.prog W 0 (fun _ => true) true Try.f10.params.toList args.toList ds p := hA0
  rw [Try.params10] at hA hval
  have hA2 := hA
  have hlt := trodAll_lt _ _ _ _ hA2
  obtain ⟨v0, vs0, d0, ds0, p0, q0, hargs, rfl, rfl, h0, r0⟩ := trodAll_cons hA
  obtain ⟨v1, vs1, d1, ds1, p1, q1, rfl, rfl, rfl, h1, r1⟩ := trodAll_cons r0
  obtain ⟨rfl, rfl, rfl⟩ := trodAll_nil r1
  obtain rfl : args = #[v0, v1] := by cases args; simp_all
  obtain ⟨rfl, rfl⟩ := trodVars_none hV
  obtain ⟨a0, l0, rfl, w0⟩ := open_arr Try.underlying29 Try.underlying21 (by kernel_rfl) (by kernel_rfl) (hval 0 29 v0 rfl rfl) h0
  obtain ⟨a1, l1, rfl, w1⟩ := open_arr Try.underlying23 Try.underlying22 (by kernel_rfl) (by kernel_rfl) (hval 1 23 v1 rfl rfl) h1
  refine (walk a0 a1 l0 w0 l1 w1 W).mono fun e W' ⟨he, bel⟩ => ?_
  subst he
  exact ⟨_, rfl, _, _, _, [], _, [], hW', trodAll_mk1 (shut_bool Try.underlying4 _), trodAll_below laidOut bel _ _ _ _ (by kernel_rfl) hA2 hlt, rfl, bel.frame _, fun h => by cases h⟩
theorem over : Rows.quantSharesRow.holds Try.pinned (OpenSpec.ofChange Rows.quantSharesSpec) :=
  OpenClaim.holds_of_wide 10 Try.f10 rfl rfl rfl rfl rfl rfl rfl ⟨rfl, rfl, rfl, rfl, rfl⟩ rfl rfl rfl rfl rfl (by kernel_rfl) Try.func10 (by kernel_rfl)
    (of_decide_eq_true (by kernel_rfl)) (by unfold Func.isWrapper; rw [if_neg (of_decide_eq_false (by kernel_rfl))]; exact ⟨rfl, rfl⟩)
    (fun os started H enc _ => lifted os started H enc)
end Go.Proofs.Yteikdpagoojdlaa.QuantShares
namespace Go.Proofs.Yteikdpagoojdlaa
theorem quantShares_holds : Rows.QuantSharesSaid := QuantShares.over
#print axioms quantShares_holds
end Go.Proofs.Yteikdpagoojdlaa
