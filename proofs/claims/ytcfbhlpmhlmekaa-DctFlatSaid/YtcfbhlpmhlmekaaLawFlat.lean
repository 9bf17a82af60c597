/-
  What is proved here: for every two numbers the law DctFlat returns true. No condition.
-/
import Derived.Test.YtcfbhlpmhlmekaaCon7
import Derived.Test.YtcfbhlpmhlmekaaLaw1
namespace Go.Proofs.Ytcfbhlpmhlmekaa.DctFlat
open Sm Go Go.RowKit Go.ChangeShapes Go.WideShapes Go.ChangeAt
set_option maxRecDepth 1000000
theorem own : ownKnob Try.prog.godebug = none := by kernel_rfl
theorem laidOut : laidOutB Try.prog = true := by kernel_rfl
def flatL (a : Int) : List Prop := (List.range 64).map fun i => (resP_13 (onlyD a) i != flatV a) = false
def innerP (a b : Int) : Prop := (decide (a ≤ b) = true → true = true) ∧ (decide (a ≤ b) = false → decide (flatV a ≥ flatV b) = true)
def lastP (a b : Int) : Prop := (decide (a ≥ b) = true → innerP a b) ∧ (decide (a ≥ b) = false → ((decide (flatV a ≤ flatV b) = true → innerP a b) ∧ (decide (flatV a ≤ flatV b) = false → false = true)))
theorem walked (a b : Int) : runK Try.prog T0 FG 6000 Try.f8 [.one (.sc (.int .i32 a) false), .one (.sc (.int .i32 b) false)] [] (List.replicate 64 (.b false)) (fun r _ => isTrue r) = obsP (flatL a) (lastP a b) := by kernel_rfl
theorem invS_row (d : Int) (y k : Nat) (hy : y < 8) (hk : k < 8) : invS (onlyD d) y k = 370728 * 370728 * clipI d (-32767) 32767 := by
  have hw : ∀ j, j < 8 → wF j = 370728 := by decide
  unfold invS dbl
  rw [S_first 7 _ fun i _ => S_zero fun j _ => by
    show _ * clipI (onlyD d (8 * (i + 1) + j)) (-32767) 32767 = 0
    rw [onlyD_pos d _ (by omega), clip0, Int.mul_zero]]
  rw [S_first 7 _ fun j _ => by
    show _ * clipI (onlyD d (8 * 0 + (j + 1))) (-32767) 32767 = 0
    rw [onlyD_pos d _ (by omega), clip0, Int.mul_zero]]
  show wF (8 * 0 + y) * wF (8 * 0 + k) * clipI (onlyD d 0) (-32767) 32767 = _
  rw [Nat.mul_zero, Nat.zero_add, Nat.zero_add, hw y hy, hw k hk]
  rfl
theorem all_ok {a : Int} (_h : -2147483648 ≤ a ∧ a ≤ 2147483647) (p : Prop) (hp : p ∈ flatL a) : p := by
  simp only [flatL, List.mem_map, List.mem_range] at hp
  obtain ⟨i, hi, rfl⟩ := hp
  rw [prog_inv, invS_row a _ _ (by omega) (by omega), flat_samp]
  simp
theorem clip_mono {a b lo hi : Int} (h : a ≤ b) : clipI a lo hi ≤ clipI b lo hi := by
  unfold clipI mn mx
  (repeat' split) <;> omega
theorem flat_mono {a b : Int} (h : a ≤ b) : flatV a ≤ flatV b := by
  rw [flat_samp, flat_samp]
  have h1 := clip_mono (lo := -32767) (hi := 32767) h
  have ha := clip_b (v := a) (lo := -32767) (hi := 32767) (by omega) (by omega) (by omega)
  have hb := clip_b (v := b) (lo := -32767) (hi := 32767) (by omega) (by omega) (by omega)
  unfold sampS roundS
  rw [Int.fdiv_eq_ediv_of_nonneg _ (by omega), Int.fdiv_eq_ediv_of_nonneg _ (by omega)]
  rw [show W ((137439249984 * clipI a (-32767) 32767 + 549755813888) / 1099511627776 + 128) = (137439249984 * clipI a (-32767) 32767 + 549755813888) / 1099511627776 + 128 from w64 (by omega) (by omega),
    show W ((137439249984 * clipI b (-32767) 32767 + 549755813888) / 1099511627776 + 128) = (137439249984 * clipI b (-32767) 32767 + 549755813888) / 1099511627776 + 128 from w64 (by omega) (by omega)]
  have c1 := clip_bound (v := (137439249984 * clipI a (-32767) 32767 + 549755813888) / 1099511627776 + 128) (lo := 0) (hi := 255) (by omega)
  have c2 := clip_bound (v := (137439249984 * clipI b (-32767) 32767 + 549755813888) / 1099511627776 + 128) (lo := 0) (hi := 255) (by omega)
  rw [wu8 (by omega) (by omega), wu8 (by omega) (by omega)]
  exact clip_mono (by omega)
theorem last_ok (a b : Int) : lastP a b := by
  have inner : innerP a b := ⟨fun _ => rfl, fun h => decide_eq_true (flat_mono (by have := of_decide_eq_false h; omega))⟩
  refine ⟨fun _ => inner, fun h => ⟨fun _ => inner, fun h2 => ?_⟩⟩
  exact absurd (flat_mono (by have := of_decide_eq_false h; omega)) (of_decide_eq_false h2)

theorem walk (a0 : Int) (a1 : Int) (w0 : (Lit.int .i32 a0).wf = true) (_w1 : (Lit.int .i32 a1).wf = true) (w : World) :
    Calls Try.prog 8 #[.int .i32 a0, .int .i32 a1] w fun e w' => e = .returned (.bool true) ∧ Below w.heap.size w w' := by
  exact law_of_run (st := false) (avs := [.val (.int .i32 a0), .val (.int .i32 a1)]) hm hT0 FGok Try.func8 rfl (of_run (walked a0 a1) (obsP_of _ _ (fun p hp => all_ok (wf_i32 w0) p hp) (last_ok a0 a1))) (ARs_vals w [.int .i32 a0, .int .i32 a1])

theorem lifted (os : Os) (started : os.Started) (H : Type) (enc : TypeId × Value → H) :
    ReturnsInHanded {} Try.checked os 8 .any (Rows.dctFlatSpec.pre6 enc Try.prog Try.f8 Rows.dctFlatRow.domain false) (Rows.dctFlatSpec.post enc Try.prog Try.f8 false true false false) := by
  refine returnsInHanded_of_change (C := Try.checked) own started (by kernel_rfl) Try.func8
    (ChangeSpec.witness6 (enc := enc) (C := Try.checked) false ⟨#[], #[.int .i32 0, .int .i32 0], []⟩ 8 (by kernel_rfl) (by kernel_rfl) (by kernel_rfl) (by kernel_rfl)) ?_
  intro W base args ds gs before hval0 hW hcnd _
  have hval : ∀ (j : Nat) t v, Try.f8.params[j]? = some t → args[j]? = some v → Value.okWide Try.prog W .any base t v := hval0
  have hW' := hW
  obtain ⟨p, q, hA0, hV, rfl, hfz, hnd⟩ := hW
  have hA : DataW.TrodAll enc Try.prog W 0 (fun _ => true) true Try.f8.params.toList args.toList ds p := hA0
  rw [Try.params8] at hA hval
  have hA2 := hA
  have hlt := trodAll_lt _ _ _ _ hA2
  obtain ⟨v0, vs0, d0, ds0, p0, q0, hargs, rfl, rfl, h0, r0⟩ := trodAll_cons hA
  obtain ⟨v1, vs1, d1, ds1, p1, q1, rfl, rfl, rfl, h1, r1⟩ := trodAll_cons r0
  obtain ⟨rfl, rfl, rfl⟩ := trodAll_nil r1
  obtain rfl : args = #[v0, v1] := by cases args; simp_all
  obtain ⟨rfl, rfl⟩ := trodVars_none hV
  obtain ⟨a0, rfl, _, _, w0⟩ := open_int Try.underlying21 (hval 0 21 v0 rfl rfl) h0
  obtain ⟨a1, rfl, _, _, w1⟩ := open_int Try.underlying21 (hval 1 21 v1 rfl rfl) h1
  refine (walk a0 a1 w0 w1 W).mono fun e W' ⟨he, bel⟩ => ?_
  subst he
  exact ⟨_, rfl, _, _, _, [], _, [], hW', trodAll_mk1 (shut_bool Try.underlying4 _), trodAll_below laidOut bel _ _ _ _ (by kernel_rfl) hA2 hlt, rfl, bel.frame _, fun h => by cases h⟩
theorem over : Rows.dctFlatRow.holds Try.pinned (OpenSpec.ofChange Rows.dctFlatSpec) :=
  OpenClaim.holds_of_wide 8 Try.f8 rfl rfl rfl rfl rfl rfl rfl ⟨rfl, rfl, rfl, rfl, rfl⟩ rfl rfl rfl rfl rfl (by kernel_rfl) Try.func8 (by kernel_rfl)
    (of_decide_eq_true (by kernel_rfl)) (by unfold Func.isWrapper; rw [if_neg (of_decide_eq_false (by kernel_rfl))]; exact ⟨rfl, rfl⟩)
    (fun os started H enc _ => lifted os started H enc)
end Go.Proofs.Ytcfbhlpmhlmekaa.DctFlat
namespace Go.Proofs.Ytcfbhlpmhlmekaa
theorem dctFlat_holds : Rows.DctFlatSaid := DctFlat.over
#print axioms dctFlat_holds
end Go.Proofs.Ytcfbhlpmhlmekaa
