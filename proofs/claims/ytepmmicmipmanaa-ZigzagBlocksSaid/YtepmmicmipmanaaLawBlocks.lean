/-
  What is proved here: for every two blocks the law ZigzagBlocks returns true and its arguments read as before. No condition.
-/
import Derived.Test.YtepmmicmipmanaaCon7
import Derived.Test.YtepmmicmipmanaaSimN
namespace Go.Proofs.Ytepmmicmipmanaa.ZigzagBlocks
open Sm Go Go.RowKit Go.ChangeShapes Go.WideShapes Go.ChangeAt
set_option maxRecDepth 1000000
theorem own : ownKnob Try.prog.godebug = none := by kernel_rfl
theorem laidOut : laidOutB Try.prog = true := by kernel_rfl
theorem valsB_of (xs : List Int) (h : xs.length = 64) : xs.map (Value.int .i16) = valsB (fun i => xs.getD i 0) := by
  conv => lhs; rw [list_of_fn xs 64 h]
  simp [valsB]
def eqB (f g : Nat → Int) : Nat → Nat → Bool
  | 0, _ => true
  | n + 1, i => (f i == g i) && eqB f g n (i + 1)
theorem eqB_of {f g : Nat → Int} : ∀ (n i : Nat), (∀ j, j < i + n → f j = g j) → eqB f g n i = true
  | 0, _, _ => rfl
  | n + 1, i, h => by
    simp only [eqB, Bool.and_eq_true, beq_iff_eq]
    exact ⟨h i (by omega), eqB_of n (i + 1) fun j hj => h j (by omega)⟩
theorem eqB_same (f : Nat → Int) : eqB f f 64 0 = true := eqB_of 64 0 fun _ _ => rfl
def at' (p : List Nat) (b : Nat → Int) (i : Nat) : Int := b (p.getD i 0)

theorem canonD2 (b c : Nat → Int) : canon false [.val (.agg (valsB b).toArray), .val (.agg (valsB c).toArray)] 0 = some ([.agg (cellsD b), .agg (cellsD c)], []) := by kernel_rfl
def blocksL (b c : Nat → Int) : List (Bool × Bool) :=
  [(eqB (at' posL b) (at' posL b) 64 0, true), (eqB b b 64 0, true), (lastU 64 b == lastU 64 b, true),
   (eqB (fun i => flipI false i (b i)) (fun i => flipI false i (b i)) 64 0, true), (eqB (fun i => flipI true i (b i)) (fun i => flipI true i (b i)) 64 0, true),
   (lastU 64 c == lastU 64 c, true), (eqB c c 64 0, true), (eqB (at' posL b) (at' posL b) 64 0, true), (eqB b b 64 0, true), (eqB (at' swL b) (at' swL b) 64 0, true)]
theorem blocksL_ok (b c : Nat → Int) : ∀ p ∈ blocksL b c, p.1 = p.2 := by
  intro p hp
  simp only [blocksL, List.mem_cons, List.not_mem_nil, or_false] at hp
  rcases hp with rfl | rfl | rfl | rfl | rfl | rfl | rfl | rfl | rfl | rfl <;> simp [eqB_same]
theorem walked (b c : Nat → Int) : runK Try.prog T F8 6000 Try.f7 [.agg (cellsD b), .agg (cellsD c)] [] (List.replicate 10 true) (fun r _ => isTrue r) = obs (blocksL b c) (eqB c c 64 0 = true) := by kernel_rfl

theorem walk (a0 : List Int) (a1 : List Int) (l0 : a0.length = 64) (_w0 : ∀ x ∈ a0, (Lit.int .i16 x).wf = true) (l1 : a1.length = 64) (_w1 : ∀ x ∈ a1, (Lit.int .i16 x).wf = true) (w : World) :
    Calls Try.prog 7 #[.agg (a0.map (Value.int .i16)).toArray, .agg (a1.map (Value.int .i16)).toArray] w fun e w' => e = .returned (.bool true) ∧ Below w.heap.size w w' := by
  rw [valsB_of a0 l0, valsB_of a1 l1]
  generalize (fun i => a0.getD i 0) = b
  generalize (fun i => a1.getD i 0) = c
  exact law_of_run (st := false) (avs := [.val (.agg (valsB b).toArray), .val (.agg (valsB c).toArray)]) hm hT F8ok Try.func7 (canonD2 b c) (of_run (walked b c) (obs_of _ _ (blocksL_ok b c) (eqB_same c))) (ARs_vals w [.agg (valsB b).toArray, .agg (valsB c).toArray])

theorem lifted (os : Os) (started : os.Started) (H : Type) (enc : TypeId × Value → H) :
    ReturnsInHanded {} Try.checked os 7 .any (Rows.zigzagBlocksSpec.pre6 enc Try.prog Try.f7 Rows.zigzagBlocksRow.domain false) (Rows.zigzagBlocksSpec.post enc Try.prog Try.f7 false true false false) := by
  refine returnsInHanded_of_change (C := Try.checked) own started (by kernel_rfl) Try.func7
    (ChangeSpec.witness6 (enc := enc) (C := Try.checked) false ⟨#[], #[.agg (Array.replicate 64 (.int .i16 0)), .agg (Array.replicate 64 (.int .i16 0))], []⟩ 8 (by kernel_rfl) (by kernel_rfl) (by kernel_rfl) (by kernel_rfl)) ?_
  intro W base args ds gs before hval0 hW hcnd _
  have hval : ∀ (j : Nat) t v, Try.f7.params[j]? = some t → args[j]? = some v → Value.okWide Try.prog W .any base t v := hval0
  have hW' := hW
  obtain ⟨p, q, hA0, hV, rfl, hfz, hnd⟩ := hW
  have hA : DataW.TrodAll enc Try.prog W 0 (fun _ => true) true Try.f7.params.toList args.toList ds p := hA0
  rw [Try.params7] at hA hval
  have hA2 := hA
  have hlt := trodAll_lt _ _ _ _ hA2
  obtain ⟨v0, vs0, d0, ds0, p0, q0, hargs, rfl, rfl, h0, r0⟩ := trodAll_cons hA
  obtain ⟨v1, vs1, d1, ds1, p1, q1, rfl, rfl, rfl, h1, r1⟩ := trodAll_cons r0
  obtain ⟨rfl, rfl, rfl⟩ := trodAll_nil r1
  obtain rfl : args = #[v0, v1] := by cases args; simp_all
  obtain ⟨rfl, rfl⟩ := trodVars_none hV
  obtain ⟨a0, l0, rfl, w0⟩ := open_arr Try.underlying38 Try.underlying36 (by kernel_rfl) (by kernel_rfl) (hval 0 38 v0 rfl rfl) h0
  obtain ⟨a1, l1, rfl, w1⟩ := open_arr Try.underlying38 Try.underlying36 (by kernel_rfl) (by kernel_rfl) (hval 1 38 v1 rfl rfl) h1
  refine (walk a0 a1 l0 w0 l1 w1 W).mono fun e W' ⟨he, bel⟩ => ?_
  subst he
  exact ⟨_, rfl, _, _, _, [], _, [], hW', trodAll_mk1 (shut_bool Try.underlying4 _), trodAll_below laidOut bel _ _ _ _ (by kernel_rfl) hA2 hlt, rfl, bel.frame _, fun h => by cases h⟩
theorem over : Rows.zigzagBlocksRow.holds Try.pinned (OpenSpec.ofChange Rows.zigzagBlocksSpec) :=
  OpenClaim.holds_of_wide 7 Try.f7 rfl rfl rfl rfl rfl rfl rfl ⟨rfl, rfl, rfl, rfl, rfl⟩ rfl rfl rfl rfl rfl (by kernel_rfl) Try.func7 (by kernel_rfl)
    (of_decide_eq_true (by kernel_rfl)) (by unfold Func.isWrapper; rw [if_neg (of_decide_eq_false (by kernel_rfl))]; exact ⟨rfl, rfl⟩)
    (fun os started H enc _ => lifted os started H enc)
end Go.Proofs.Ytepmmicmipmanaa.ZigzagBlocks
namespace Go.Proofs.Ytepmmicmipmanaa
theorem zigzagBlocks_holds : Rows.ZigzagBlocksSaid := ZigzagBlocks.over
#print axioms zigzagBlocks_holds
end Go.Proofs.Ytepmmicmipmanaa
