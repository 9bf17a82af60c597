/-
  What is proved here: a list moved on, a list of real numbers, in floats. A text to be imported.
-/
import Derived.Test.YthddkcoflnbjbaaDoorLaw22
import Derived.Test.YthddkcoflnbjbaaDoorCon23
namespace Go.Proofs.YthddkcoflnbjbaaDoor
open Sm Go Go.RowKit Fl Ieee
set_option maxRecDepth 100000
set_option linter.unusedVariables false
theorem RS_front (f : Nat → Rat) : ∀ k, RS f (1 + k) = f 0 + RS (fun j => f (1 + j)) k
  | 0 => by simp only [RS]; grind
  | k + 1 => by
    show RS f (1 + k) + f (1 + k) = f 0 + (RS (fun j => f (1 + j)) k + f (1 + k))
    rw [RS_front f k]
    grind
theorem RS_mvd (f : Nat → Rat) {n : Nat} (hn : 1 ≤ n) : RS (mvd n f) n = RS f n := by
  obtain ⟨k, rfl⟩ : ∃ k, n = 1 + k := ⟨n - 1, by omega⟩
  rw [RS_front]
  have e : RS f (1 + k) = RS f k + f k := by rw [Nat.add_comm]; rfl
  rw [e]
  have e0 : mvd (1 + k) f 0 = f k := by unfold mvd; rw [if_pos rfl, show 1 + k - 1 = k by omega]
  rw [e0, RS_congr (T' := f) k fun j hj => by
    unfold mvd
    rw [if_neg (by omega), show 1 + j - 1 = j by omega]]
  grind
theorem dft_congr {way : Int} {x y : Nat → Cx} {p : Nat} (h : ∀ j, j < 2 ^ p → x j = y j) (k : Int) : dft way x p k = dft way y p k := Cx.sum_congr _ fun j hj => by rw [h j hj]
def mvW (m : Nat) (x : Nat → Nat) : Nat → Nat × Nat := mvd (nF m) (XW m x)
theorem mvd_lt {n j : Nat} (hj : j < n) : (if j = 0 then n - 1 else j - 1) < n := by split <;> omega
theorem vC_mvd (m : Nat) (x : Nat → Nat) {j : Nat} (hj : j < nF m) : vC (nF m) (mvW m x) j = mvd (nF m) (xV m x) j := by
  unfold xV vC mvW mvd
  rw [if_pos hj]
  by_cases h0 : j = 0
  · rw [if_pos h0, if_pos h0]
    show _ = if nF m - 1 < nF m then _ else _
    rw [if_pos (by omega)]
  · rw [if_neg h0, if_neg h0]
    show _ = if j - 1 < nF m then _ else _
    rw [if_pos (by omega)]
theorem mvd_wi {x : Nat → Cx} {m : Nat → Rat} (n : Nat) (h : ∀ j, Cx.Wi (x j) (m j)) (j : Nat) : Cx.Wi (mvd n x j) (mvd n m j) := by
  unfold mvd
  split <;> exact h _
/-- The transform of the list moved on. -/
theorem trM (m : Nat) (x : Nat → Nat) : okTr 1 (pFit m) (mvW m x) ∧ ∀ k, k < nF m → CAp (trY 1 (nF m).log2 (mvW m x) k) (Cx.mul (dft 1 (xV m x) (pFit m) (k : Nat)) (U4 (k * exs (pFit m)))) (3 / 10000000000 * MW m x + 1 / 10000000000) := by
  obtain ⟨h1, h2, h3, h4, h5⟩ := nF_bd m
  obtain ⟨M0, M1, M2, M3⟩ := MW_bd m x
  have hz : ∀ j, Cx.Wi (vC (2 ^ pFit m) (mvW m x) j) (mvd (nF m) (mX m x) j) := fun j => by
    by_cases hj : j < nF m
    · rw [show vC (2 ^ pFit m) (mvW m x) j = mvd (nF m) (xV m x) j from vC_mvd m x hj]
      exact mvd_wi _ (xV_wi m x) j
    · have e : vC (2 ^ pFit m) (mvW m x) j = Cx.zero := if_neg hj
      have h0 : 0 ≤ mvd (nF m) (mX m x) j := by unfold mvd; split <;> exact (mX_le m x _).1
      rw [e]
      exact ⟨h0, by show _ ≤ (0 : Rat); grind, h0, by show _ ≤ (0 : Rat); grind⟩
  obtain ⟨a, b⟩ := tr_words (way := 1) (.inl rfl) h1 (X := mvW m x) (m := mvd (nF m) (mX m x)) (fun j hj => by unfold mvW mvd; split <;> exact XW_num m x _) hz (fun j => by unfold mvd; split <;> exact (mX_le m x _).2.2)
  refine ⟨a, fun k hk => ?_⟩
  rw [h5]
  have c := b k hk
  rw [show RS (mvd (nF m) (mX m x)) (2 ^ pFit m) = MW m x from (RS_mvd _ h2).trans (mX_sum m x)] at c
  rw [dft_congr (x := vC (2 ^ pFit m) (mvW m x)) (y := mvd (2 ^ pFit m) (xV m x)) (fun j hj => vC_mvd m x hj)] at c
  have d := moved h1 (xV_wi m x) k
  rw [show RS (mX m x) (2 ^ pFit m) = MW m x from mX_sum m x] at d
  refine (cap_mv c d).le ?_
  have hio : io ≤ 1 / 100000000000000000000 := by unfold io; decide +kernel
  have hm := Rat.mul_le_mul_of_nonneg_right hio M0
  grind
/-- The sums, turned. -/
def tuW (m : Nat) (x : Nat → Nat) (k : Nat) : Nat × Nat := bfT (turnP (k : Int) (nF m : Nat)) (thF m (XW m x) k)
theorem tuW_ok (m : Nat) (x : Nat → Nat) {k : Nat} (hk : k < nF m) : cmOk (thF m (XW m x) k).1 (thF m (XW m x) k).2 (turnP (k : Int) (nF m : Nat)).1 (turnP (k : Int) (nF m : Nat)).2 ∧
    CAp (tuW m x k) (Cx.mul (dft 1 (xV m x) (pFit m) (k : Nat)) (U4 (k * exs (pFit m)))) (5 / 10000000000 * MW m x + 3 / 10000000000) := by
  obtain ⟨h1, h2, h3, h4, h5⟩ := nF_bd m
  obtain ⟨M0, M1, M2, M3⟩ := MW_bd m x
  have hB := BB_HH
  have hbb : (0 : Rat) ≤ BB := by unfold BB; decide +kernel
  have hF := (trX (way := 1) (.inl rfl) m x).2 k hk
  have hF' : CAp (thF m (XW m x) k) (dft 1 (xV m x) (pFit m) (k : Nat)) (e1M (MW m x)) := hF
  have hY := dft_wi (way := 1) (xV_wi m x) (pFit m) (k : Nat)
  rw [show RS (mX m x) (2 ^ pFit m) = MW m x from mX_sum m x] at hY
  have ht := tw_near h1 (k : Int)
  have ht' : CAp (turnP (k : Int) (nF m : Nat)) (U4 (k * exs (pFit m))) eW := ht
  have hU := U4_wi ((k : Int) * exs (pFit m))
  unfold tuW bfT
  generalize dft 1 (xV m x) (pFit m) (k : Nat) = Y at *
  generalize U4 ((k : Int) * exs (pFit m)) = U at *
  generalize thF m (XW m x) k = y at *
  generalize turnP (k : Int) (nF m : Nat) = t at *
  generalize MW m x = M at *
  have hM : M ≤ (100000000000000000000000000000000000000000000000000000000000000000000000000000000000000000000000000000000000000 : Rat) := by unfold BB at M1; grind
  obtain ⟨a1, b1, c1, d1⟩ := part_ap hF'.re ht'.re hY.r1 hY.r2 hU.r1 hU.r2 M0 hM (by unfold e1M; grind)
  obtain ⟨a2, b2, c2, d2⟩ := part_ap hF'.im ht'.im hY.i1 hY.i2 hU.i1 hU.i2 M0 hM (by unfold e1M; grind)
  obtain ⟨a3, b3, c3, d3⟩ := part_ap hF'.re ht'.im hY.r1 hY.r2 hU.i1 hU.i2 M0 hM (by unfold e1M; grind)
  obtain ⟨a4, b4, c4, d4⟩ := part_ap hF'.im ht'.re hY.i1 hY.i2 hU.r1 hU.r2 M0 hM (by unfold e1M; grind)
  have b1' := b1.le (e' := 201 / 1000000000000 * M + 101 / 1000000000000) (by unfold e1M; grind)
  have b2' := b2.le (e' := 201 / 1000000000000 * M + 101 / 1000000000000) (by unfold e1M; grind)
  have b3' := b3.le (e' := 201 / 1000000000000 * M + 101 / 1000000000000) (by unfold e1M; grind)
  have b4' := b4.le (e' := 201 / 1000000000000 * M + 101 / 1000000000000) (by unfold e1M; grind)
  have hg := BB3_GG
  have hg2 : (1000000000000 : Rat) ≤ GG := by unfold GG; decide +kernel
  obtain ⟨k1, s1⟩ := b1'.sub b2' (5 * M + 1) (by grind) (by grind) (tp_GG _ (by grind))
  obtain ⟨k2, s2⟩ := b3'.add b4' (5 * M + 1) (by grind) (by grind) (tp_GG _ (by grind))
  exact ⟨⟨a1, a2, k1, a3, a4, k2⟩, s1.le (by unfold dl; grind), s2.le (by unfold dl; grind)⟩
/-- The bound. -/
def bM (m : Nat) (x : Nat → Nat) : Nat := fbin .mul .f64 c8 (s1W m x)
theorem bd1_low (m : Nat) (x : Nat → Nat) : fnum .f64 (bM m x) ∧ 98 / 10000000000 * (1 + MW m x) ≤ fv .f64 (bM m x) := by
  unfold bM
  obtain ⟨_, _, c⟩ := bd1_ok m x
  obtain ⟨M0, _⟩ := MW_bd m x
  have := c.lo
  exact ⟨c.num, by grind⟩
theorem near_wi3 {b : Nat} {y w : Nat × Nat} {z : Cx} {d e c : Rat} (h : CAp y z d) (hw : CAp w z e) (hb : fnum .f64 b) (hc : d + e ≤ c) (hg : c ≤ GG) (hbc : c + dl c ≤ fv .f64 b) : wi2 b y.1 w.1 ∧ wi2 b y.2 w.2 :=
  ⟨within_ok (B := 0) h.re hw.re hb c (by grind) (by grind) (tp_GG _ hg) hbc, within_ok (B := 0) h.im hw.im hb c (by grind) (by grind) (tp_GG _ hg) hbc⟩
theorem moved_ok (m : Nat) (x : Nat → Nat) {k : Nat} (hk : k < nF m) : wi2 (bM m x) (trY 1 (nF m).log2 (mvW m x) k).1 (tuW m x k).1 ∧ wi2 (bM m x) (trY 1 (nF m).log2 (mvW m x) k).2 (tuW m x k).2 := by
  obtain ⟨M0, M1, M2, M3⟩ := MW_bd m x
  obtain ⟨n1, n2⟩ := bd1_low m x
  have hg := BB3_GG
  have hg2 : (1000000000000 : Rat) ≤ GG := by unfold GG; decide +kernel
  exact near_wi3 ((trM m x).2 k hk) (tuW_ok m x hk).2 n1 (c := 9 / 1000000000 * (1 + MW m x)) (by grind) (by grind) (by unfold dl; grind)
/-- The list of real numbers, as words. -/
def plW (m : Nat) (x : Nat → Nat) (k : Nat) : Nat × Nat := ((XW m x k).1, 0)
theorem vC_pl (m : Nat) (x : Nat → Nat) : vC (nF m) (plW m x) = rV m x := by
  funext j
  unfold rV vC p1Y plW
  by_cases hj : j < nF m
  · rw [if_pos hj, if_pos hj, if_pos hj]; rfl
  · rw [if_neg hj, if_neg hj]
theorem MR_le (m : Nat) (x : Nat → Nat) : MR m x ≤ MW m x := by
  rw [← mX_sum]
  refine RS_le _ fun j hj => ?_
  unfold mX
  rw [if_pos hj]
  have := aW0 m x (2 * j + 1)
  show aW m x (2 * j) ≤ _
  grind
theorem trP (m : Nat) (x : Nat → Nat) : okTr 1 (pFit m) (plW m x) ∧ ∀ k, k < nF m → CAp (trY 1 (nF m).log2 (plW m x) k) (dft 1 (rV m x) (pFit m) (k : Nat)) (e1M (MW m x)) := by
  obtain ⟨h1, h2, h3, h4, h5⟩ := nF_bd m
  obtain ⟨M0, M1, M2⟩ := MR_bd m x
  have hB := BB_HH
  have hb : (0 : Rat) ≤ BB := by unfold BB; decide +kernel
  have hle := MR_le m x
  have ev : vC (2 ^ pFit m) (plW m x) = rV m x := vC_pl m x
  obtain ⟨a, b⟩ := tr_words (way := 1) (.inl rfl) h1 (X := plW m x) (m := mR m x) (fun j _ => ⟨(XW_num m x j).1, zero_val.1⟩) (fun j => by rw [ev]; exact rV_wi m x j) (fun j => by
    unfold mR
    split
    · rename_i hj
      have := M2 j hj
      grind
    · grind)
  refine ⟨a, fun k hk => ?_⟩
  rw [h5]
  have c := b k hk
  rw [show RS (mR m x) (2 ^ pFit m) = MR m x from mR_sum m x, ev] at c
  exact c.le (by unfold e1M; grind)
/-- The place of the mirror image. -/
def mrr (n k : Nat) : Nat := (n - k) % n
theorem mirror_ok (m : Nat) (x : Nat → Nat) {k : Nat} (hk : k < nF m) : mrr (nF m) k < nF m ∧ wi2 (bM m x) (trY 1 (nF m).log2 (plW m x) k).1 (trY 1 (nF m).log2 (plW m x) (mrr (nF m) k)).1 ∧
    wi2 (bM m x) (trY 1 (nF m).log2 (plW m x) k).2 (Op.negFloat .f64 (trY 1 (nF m).log2 (plW m x) (mrr (nF m) k)).2) := by
  obtain ⟨h1, h2, h3, h4, h5⟩ := nF_bd m
  obtain ⟨M0, M1, M2, M3⟩ := MW_bd m x
  obtain ⟨n1, n2⟩ := bd1_low m x
  have hle := MR_le m x
  have hg := BB3_GG
  have hg2 : (1000000000000 : Rat) ≤ GG := by unfold GG; decide +kernel
  have hkr : mrr (nF m) k < nF m := Nat.mod_lt _ (by omega)
  have a := (trP m x).2 k hk
  have b := (trP m x).2 _ hkr
  have hr : ∀ j, (rV m x j).im = 0 := fun j => by
    by_cases hj : j < nF m
    · rw [rV_at m x hj]
    · unfold rV vC; rw [if_neg hj]; rfl
  obtain ⟨t, ht⟩ : ∃ t : Int, ((mrr (nF m) k : Nat) : Int) = -k + ((2 ^ pFit m : Nat) : Int) * t := by
    have hd := Nat.div_add_mod (nF m - k) (nF m)
    refine ⟨1 - (((nF m - k) / nF m : Nat) : Int), ?_⟩
    have e : ((2 ^ pFit m : Nat) : Int) = (nF m : Int) := rfl
    rw [e]
    have hd2 : ((nF m : Int) * (((nF m - k) / nF m : Nat) : Int)) + ((mrr (nF m) k : Nat) : Int) = (nF m : Int) - k := by
      unfold mrr
      rw [← Int.natCast_mul, ← Int.natCast_add, hd]
      omega
    grind
  have c := mirror h1 (rV_wi m x) hr ht
  rw [show RS (mR m x) (2 ^ pFit m) = MR m x from mR_sum m x] at c
  have hio : io ≤ 1 / 100000000000000000000 := by unfold io; decide +kernel
  have hio0 := io_pos
  have hm := Rat.mul_le_mul_of_nonneg_right hio M0
  have hm2 := Rat.mul_le_mul_of_nonneg_left hle (Rat.le_of_lt hio0)
  have bn := ap_neg b.im
  obtain ⟨c1, c2, c3, c4⟩ := c
  simp only [Cx.sub, Cx.conj] at c1 c2 c3 c4
  refine ⟨hkr, within_ok (B := 0) a.re b.re n1 (9 / 1000000000 * (1 + MW m x)) (by unfold e1M; grind) (by unfold e1M; grind) (tp_GG _ (by grind)) (by unfold dl; grind), within_ok (B := 0) a.im bn n1 (9 / 1000000000 * (1 + MW m x)) (by unfold e1M; grind) (by unfold e1M; grind) (tp_GG _ (by grind)) (by unfold dl; grind)⟩
theorem wN1_eq (m : Nat) : wN1 m = ((nF m - 1 : Nat) : Int) := by
  obtain ⟨h1, h2, h3, h4, h5⟩ := nF_bd m
  unfold wN1
  rw [Wid (by omega) (by omega)]
  omega
theorem LM_eq (m : Nat) : LM m = nF m := by
  obtain ⟨h1, h2, h3, h4, h5⟩ := nF_bd m
  unfold LM
  rw [wN1_eq]
  omega
theorem mvB_eq (m : Nat) (x : Nat → Nat) : mvB m x = mvW m x := by
  funext k
  unfold mvB mvW mvd
  rw [wN1_eq, show (((nF m - 1 : Nat) : Int)).toNat = nF m - 1 by omega, blt_eq]
  by_cases h : k = 0
  · subst h; rfl
  · rw [if_neg h, decide_eq_false (by omega)]; rfl
/-- The whole run. -/
theorem mv_run (m : Nat) (x : Nat → Nat) (hm1 : m ≤ maxLen) : ∃ F, FnsOk Tryd.prog F ∧ runK Tryd.prog T F 900 Tryd.f3 [xF m x] [deadB] [.b false, .l 0, .l 1, .b false, .l 2] (fun r _ => resW r = some (.bool true)) := by
  obtain ⟨h1, h2, h3, h4, h5⟩ := nF_bd m
  obtain ⟨k1, k2, _⟩ := bd1_ok m x
  have hL := LM_eq m
  have hmv := mvB_eq m x
  have hw := wN1_eq m
  have nn : ((nF m : Int) != (nF m : Int)) = false := by simp
  refine ⟨F3 (nF m) (XW m x) (thF m (XW m x)) (trY 1 (nF m).log2 (mvW m x)) (tuW m x) (plW m x) (trY 1 (nF m).log2 (plW m x)) (sW m x (nF m)) True True True, ?_, ?_⟩
  · unfold F3
    refine ((FQok.addGrow 0 (a := 7) (b0 := gB 28 0 1 (fX (tuW m x))) rfl rfl fun _ => ?_).addGrow 1 (a := 8) (b0 := gB 28 0 1 (fX (plW m x))) rfl rfl fun _ => ?_).addKeep 2 fun _ => ?_
    · exact loopM1 (by omega) fun k hk => ⟨(tuW_ok m x hk).1, rfl⟩
    · exact loopM2 (by omega) fun k hk => rfl
    · exact loopM3 h2 (by omega) k1 k2 fun k hk => (mirror_ok m x hk).2
  · refine of_run (run3 m x _ _ _ _ _ _ _ _ _ _) ⟨⟨⟨trivial, trivial⟩, rfl, fun _ => rfl, hm1⟩, by rw [hw]; omega, by rw [hw]; omega, ⟨fun k => rfl, by omega, by show LM m ≤ 9223372036854775807; omega⟩, ⟨⟨trivial, trivial⟩, isX_fX _ _, by omega⟩, ⟨⟨trivial, trivial⟩, okP_X m x⟩, ⟨⟨⟨Nat.le_refl _, fun _ => rfl, fun k => free1 (a := CC (mvB m x k)) trivial⟩, trivial⟩, ?_⟩, ?_, rfl, ?_, rfl, ⟨⟨rfl, ⟨?_, rfl, rfl, rfl, rfl, trivial, rfl, trivial⟩, startBs.refl _⟩, trivial⟩, ⟨⟨⟨rfl, live0 _, fun k => rfl, fun k => free1 trivial⟩, trivial⟩, ⟨pFit m, h1, rfl, (trP m x).1⟩, .inl rfl, Nat.le_refl _, fun k _ => rfl⟩, nn, rfl, ⟨⟨rfl, ⟨rfl, rfl, rfl, rfl, rfl, rfl, trivial⟩, ⟨.refl _, .refl _, .refl _, .refl _, .refl _, .refl _, .refl _, .refl _, .inl rfl, .refl _, trivial⟩⟩, trivial⟩, k1, k2, ⟨⟨⟨Nat.le_refl _, fun k => trivial⟩, ⟨rfl, live0 _, fun k => rfl, fun k => free1 trivial⟩, trivial, trivial⟩, isX_fX _ _, isX_fX _ _, rfl, by omega, fun k hk => moved_ok m x hk⟩, rfl⟩
    · rw [hL, hmv]
      exact ⟨⟨pFit m, h1, rfl, (trM m x).1⟩, .inl rfl, Nat.le_refl _, fun k _ => rfl⟩
    · rw [nn, hL]; exact nn
    · unfold st1 dd2
      rw [hL, hmv]
      exact ⟨⟨rfl, ⟨rfl, rfl, rfl, rfl, rfl, trivial, rfl, trivial⟩, ⟨.refl _, .refl _, .inl rfl, .inl rfl, .refl _, .refl _, .refl _, trivial⟩⟩, trivial⟩
    · exact rfl
end Go.Proofs.YthddkcoflnbjbaaDoor
