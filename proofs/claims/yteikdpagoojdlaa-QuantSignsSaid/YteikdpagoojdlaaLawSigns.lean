/-
  What is proved here: for every block and every table the law QuantSigns returns true and its arguments read as before. No condition.
-/
import Derived.Test.YteikdpagoojdlaaLaw0
namespace Go.Proofs.Yteikdpagoojdlaa.QuantSigns
open Sm Go Go.RowKit Go.ChangeShapes Go.WideShapes Go.ChangeAt
set_option maxRecDepth 1000000
theorem own : ownKnob Try.prog.godebug = none := by kernel_rfl
theorem laidOut : laidOutB Try.prog = true := by kernel_rfl
def neg16 (b : Nat → Int) (i : Nat) : Int := IntKind.i16.wrap (0 - b i)
def signs2 (f g : Nat → Int) : Nat → Nat → Prop
  | 0, _ => true = true
  | n + 1, i => ((f i != IntKind.i32.wrap (0 - g i)) = true → false = true) ∧ ((f i != IntKind.i32.wrap (0 - g i)) = false → signs2 f g n (i + 1))
def signs1 (b t : Nat → Int) : Nat → Nat → Prop
  | 0, _ => signs2 (fineV b fun i => stepV (t i)) (fineV (neg16 b) fun i => stepV (t i)) 64 0
  | n + 1, i => ((b i == -32768) = true → true = true) ∧ ((b i == -32768) = false → signs1 b t n (i + 1))
theorem canonBT' (b t : Nat → Int) : canon false [.val (.agg (valsK .i16 64 b).toArray), .val (.agg (valsK .u16 64 t).toArray)] 0 = some ([.agg (cellsK .i16 false 64 b), .agg (cellsK .u16 false 64 t)], []) := by kernel_rfl
theorem walked (b t : Nat → Int) : runK Try.prog T FJ 6000 Try.f8 [.agg (cellsK .i16 false 64 b), .agg (cellsK .u16 false 64 t)] [] [] (fun r _ => isTrue r) = signs1 b t 64 0 := by kernel_rfl
theorem signs2_ok {f g : Nat → Int} : ∀ (n i : Nat), i + n ≤ 64 → (∀ j, j < 64 → f j = IntKind.i32.wrap (0 - g j)) → signs2 f g n i
  | 0, _, _, _ => rfl
  | n + 1, i, hn, h => by
    have e : (f i != IntKind.i32.wrap (0 - g i)) = false := by rw [h i (by omega)]; simp
    exact ⟨(fun hh => by rw [e] at hh; exact hh), (fun _ => signs2_ok n (i + 1) (by omega) h)⟩
theorem fine_neg {b t : Nat → Int} (hb : ∀ i, i < 64 → -32767 ≤ b i ∧ b i ≤ 32767) (ht : ∀ i, i < 64 → 0 ≤ t i ∧ t i ≤ 65535) (j : Nat) (hj : j < 64) :
    fineV b (fun i => stepV (t i)) j = IntKind.i32.wrap (0 - fineV (neg16 b) (fun i => stepV (t i)) j) := by
  have hp := pos_lt j hj
  obtain ⟨b1, b2⟩ := hb _ hp
  have hs := stepV_ok (ht _ hp).1 (ht _ hp).2
  have hn : neg16 b (pos j) = -b (pos j) := by unfold neg16; rw [w16 (by omega) (by omega)]; omega
  have hf := fine_prod ⟨show -32768 ≤ b (pos j) by omega, b2⟩ hs
  rw [fineV_eq ⟨by omega, b2⟩ hs, fineV_eq (b := neg16 b) (by rw [hn]; omega) hs, hn, Int.neg_mul]
  rw [w32] <;> (repeat' split) <;> omega
theorem signs1_ok {b t : Nat → Int} (hb : ∀ i, i < 64 → -32768 ≤ b i ∧ b i ≤ 32767) (ht : ∀ i, i < 64 → 0 ≤ t i ∧ t i ≤ 65535) :
    ∀ (n i : Nat), i + n = 64 → i ≤ 64 → (∀ j, j < i → b j ≠ -32768) → signs1 b t n i
  | 0, i, hn, _, h => signs2_ok 64 0 (by omega) (fine_neg (fun j hj => by have := hb j hj; have := h j (by omega); omega) ht)
  | n + 1, i, hn, hi, h => by
    refine ⟨fun _ => rfl, fun hh => signs1_ok hb ht n (i + 1) (by omega) (by omega) fun j hj => ?_⟩
    by_cases e : j = i
    · subst e
      simpa using hh
    · exact h j (by omega)

theorem walk (a0 : List Int) (a1 : List Int) (l0 : a0.length = 64) (w0 : ∀ x ∈ a0, (Lit.int .i16 x).wf = true) (l1 : a1.length = 64) (w1 : ∀ x ∈ a1, (Lit.int .u16 x).wf = true) (w : World) :
    Calls Try.prog 8 #[.agg (a0.map (Value.int .i16)).toArray, .agg (a1.map (Value.int .u16)).toArray] w fun e w' => e = .returned (.bool true) ∧ Below w.heap.size w w' := by
  have hb : ∀ i, i < 64 → -32768 ≤ a0.getD i 0 ∧ a0.getD i 0 ≤ 32767 := fun i hi => wf_i16 (wf_at l0 w0 hi)
  have ht : ∀ i, i < 64 → 0 ≤ a1.getD i 0 ∧ a1.getD i 0 ≤ 65535 := fun i hi => wf_u16 (wf_at l1 w1 hi)
  rw [valsK_of a0 l0, valsK_of a1 l1]
  exact law_of_run (st := false) (avs := [.val (.agg (valsK .i16 64 _).toArray), .val (.agg (valsK .u16 64 _).toArray)]) hm hT FJok Try.func8 (canonBT' _ _) (of_run (walked _ _) (signs1_ok hb ht 64 0 (by omega) (by omega) fun i hi => absurd hi (by omega))) (ARs_vals w [.agg (valsK .i16 64 _).toArray, .agg (valsK .u16 64 _).toArray])

theorem lifted (os : Os) (started : os.Started) (H : Type) (enc : TypeId × Value → H) :
    ReturnsInHanded {} Try.checked os 8 .any (Rows.quantSignsSpec.pre6 enc Try.prog Try.f8 Rows.quantSignsRow.domain false) (Rows.quantSignsSpec.post enc Try.prog Try.f8 false true false false) := by
  refine returnsInHanded_of_change (C := Try.checked) own started (by kernel_rfl) Try.func8
    (ChangeSpec.witness6 (enc := enc) (C := Try.checked) false ⟨#[], #[.agg (Array.replicate 64 (.int .i16 0)), .agg (Array.replicate 64 (.int .u16 0))], []⟩ 8 (by kernel_rfl) (by kernel_rfl) (by kernel_rfl) (by kernel_rfl)) ?_
  intro W base args ds gs before hval0 hW hcnd _
  have hval : ∀ (j : Nat) t v, Try.f8.params[j]? = some t → args[j]? = some v → Value.okWide Try.prog W .any base t v := hval0
  have hW' := hW
  obtain ⟨p, q, hA0, hV, rfl, hfz, hnd⟩ := hW
  have hA : DataW.TrodAll enc Try.prog W 0 (fun _ => true) true Try.f8.params.toList args.toList ds p := hA0
  rw [Try.params8] at hA hval
  have hA2 := hA
  have hlt := trodAll_lt _ _ _ _ hA2
  obtain ⟨v0, vs0, d0, ds0, p0, q0, hargs, rfl, rfl, h0, r0⟩ := trodAll_cons hA
  obtain ⟨v1, vs1, d1, ds1, p1, q1, rfl, rfl, rfl, h1, r1⟩ := trodAll_cons r0
  obtain ⟨rfl, rfl, rfl⟩ := trodAll_nil r1
  obtain rfl : args = #[v0, v1] := by cases args; simp_all
  obtain ⟨rfl, rfl⟩ := trodVars_none hV
  obtain ⟨a0, l0, rfl, w0⟩ := open_arr Try.underlying32 Try.underlying30 (by kernel_rfl) (by kernel_rfl) (hval 0 32 v0 rfl rfl) h0
  obtain ⟨a1, l1, rfl, w1⟩ := open_arr Try.underlying23 Try.underlying22 (by kernel_rfl) (by kernel_rfl) (hval 1 23 v1 rfl rfl) h1
  refine (walk a0 a1 l0 w0 l1 w1 W).mono fun e W' ⟨he, bel⟩ => ?_
  subst he
  exact ⟨_, rfl, _, _, _, [], _, [], hW', trodAll_mk1 (shut_bool Try.underlying4 _), trodAll_below laidOut bel _ _ _ _ (by kernel_rfl) hA2 hlt, rfl, bel.frame _, fun h => by cases h⟩
theorem over : Rows.quantSignsRow.holds Try.pinned (OpenSpec.ofChange Rows.quantSignsSpec) :=
  OpenClaim.holds_of_wide 8 Try.f8 rfl rfl rfl rfl rfl rfl rfl ⟨rfl, rfl, rfl, rfl, rfl⟩ rfl rfl rfl rfl rfl (by kernel_rfl) Try.func8 (by kernel_rfl)
    (of_decide_eq_true (by kernel_rfl)) (by unfold Func.isWrapper; rw [if_neg (of_decide_eq_false (by kernel_rfl))]; exact ⟨rfl, rfl⟩)
    (fun os started H enc _ => lifted os started H enc)
end Go.Proofs.Yteikdpagoojdlaa.QuantSigns
namespace Go.Proofs.Yteikdpagoojdlaa
theorem quantSigns_holds : Rows.QuantSignsSaid := QuantSigns.over
#print axioms quantSigns_holds
end Go.Proofs.Yteikdpagoojdlaa
