/-
  What is proved here: for all lists the law TopReal returns true and its arguments read as before
-/
import Derived.Test.YtgpbpgbokfdbeaaLaw3
import Derived.Test.YtgpbpgbokfdbeaaSimUi
namespace Go.Proofs.Ytgpbpgbokfdbeaa.TopReal
open Sm Go Go.RowKit Go.ChangeShapes Go.WideShapes Go.ChangeAt
set_option maxRecDepth 1000000
theorem own : ownKnob Try.prog.godebug = none := by kernel_rfl
theorem laidOut : laidOutB Try.prog = true := by kernel_rfl
theorem sbC (f : Nat → Int) : startB (cfL f) (cfB f) := startB_rng fun _ _ => ⟨_, false, false, rfl, rfl⟩
theorem sbP (f : Nat → Int) : startB (pxL f) (pxB f) := startB_rng fun _ _ => ⟨_, false, false, rfl, rfl⟩
theorem aOk (n : Nat) (l : Nat → Int) : argOk n l := ⟨⟨trivial, trivial⟩, rfl, fun _ => rfl⟩
theorem rem_b (n : Int) : -2048 ≤ n.tmod 2049 ∧ n.tmod 2049 ≤ 2048 := by
  by_cases h : 0 ≤ n
  · rw [Int.tmod_eq_emod_of_nonneg h]
    omega
  · obtain ⟨k, hk, he⟩ : ∃ k : Int, 0 ≤ k ∧ n = -k := ⟨-n, by omega, by omega⟩
    rw [he, Int.neg_tmod, Int.tmod_eq_emod_of_nonneg hk]
    omega
theorem sv_b (n : Nat) (l : Nat → Int) : ∀ i, i < 64 → -2048 ≤ lsI (sv n l) i ∧ lsI (sv n l) i ≤ 2048 := fun i hi => by
  rw [lsI_eq _ _ hi]
  unfold sv smV smF
  split
  · exact rem_b _
  · omega
theorem walk (n0 : Nat) (a0 : Nat → Int) (u0 : Value) (n1 : Nat) (a1 : Nat → Int) (u1 : Value) (n2 : Nat) (a2 : Nat → Int) (u2 : Value)    (w : World) (l0 : IntsIn w .i32 n0 a0 u0) (l1 : IntsIn w .i32 n1 a1 u1) (l2 : IntsIn w .i32 n2 a2 u2) :
    Calls Try.prog 3 #[u0, u1, u2] w fun e w' => e = .returned (.bool true) ∧ Below w.heap.size w w' := by
  obtain ⟨E, hh, r1, r2, r3⟩ := ints3_env (laidNone fun _ => rfl) l0 l1 l2
  have hF : FnsOk Try.prog (FTn (sv n0 a0) (sv n1 a1) (sv n2 a2) (pxv (sv n0 a0)) (pxv (sv n1 a1)) (pxv (sv n2 a2)) True) := FTok.addKeep 0 fun _ => loopT _ _ _ _ _ _ fun i hi => round_ok (sv_b n0 a0) (sv_b n1 a1) (sv_b n2 a2) hi
  exact call_of_env hm hT hF Try.func3 hh (RA.mk r1 (RA.mk r2 (RA.mk r3 RA.nil))) (of_run (run3 n0 n1 n2 a0 a1 a2 True _) ⟨aOk n0 a0, aOk n1 a1, aOk n2 a2, rfl, ⟨⟨rfl, ⟨rfl, rfl, rfl, rfl, rfl, rfl, rfl, rfl, rfl, trivial⟩, ⟨.refl _, .refl _, .refl _, .refl _, sbC _, sbC _, sbC _, sbP _, sbP _, sbP _, trivial⟩⟩, trivial⟩, rfl⟩)
theorem lifted (os : Os) (started : os.Started) (H : Type) (enc : TypeId × Value → H) :
    ReturnsInHanded {} Try.checked os 3 .any (Rows.topRealSpec.pre6 enc Try.prog Try.f3 Rows.topRealRow.domain false) (Rows.topRealSpec.post enc Try.prog Try.f3 false true false false) := by
  refine returnsInHanded_of_change (C := Try.checked) own started (by kernel_rfl) Try.func3
    (ChangeSpec.witness6 (enc := enc) (C := Try.checked) false ⟨#[], #[.slice none 0 0, .slice none 0 0, .slice none 0 0], []⟩ 8 (by kernel_rfl) (by kernel_rfl) (by kernel_rfl) (by kernel_rfl)) ?_
  intro W base args ds gs before hval0 hW hcnd _
  have hval : ∀ (j : Nat) t v, Try.f3.params[j]? = some t → args[j]? = some v → Value.okWide Try.prog W .any base t v := hval0
  have hW' := hW
  obtain ⟨p, q, hA0, hV, rfl, hfz, hnd⟩ := hW
  have hA : DataW.TrodAll enc Try.prog W 0 (fun _ => true) true Try.f3.params.toList args.toList ds p := hA0
  rw [Try.params3] at hA hval
  have hA2 := hA
  have hlt := trodAll_lt _ _ _ _ hA2
  obtain ⟨v0, vs0, d0, ds0, p0, q0, hargs, rfl, rfl, h0, r0⟩ := trodAll_cons hA
  obtain ⟨v1, vs1, d1, ds1, p1, q1, rfl, rfl, rfl, h1, r1⟩ := trodAll_cons r0
  obtain ⟨v2, vs2, d2, ds2, p2, q2, rfl, rfl, rfl, h2, r2⟩ := trodAll_cons r1
  obtain ⟨rfl, rfl, rfl⟩ := trodAll_nil r2
  obtain rfl : args = #[v0, v1, v2] := by cases args; simp_all
  obtain ⟨rfl, rfl⟩ := trodVars_none hV
  obtain ⟨n0, a0, wf0, mx0, l0, z0⟩ := open_ints Try.underlying22 Try.underlying21 (by kernel_rfl) (hval 0 22 v0 rfl rfl) h0
  obtain ⟨n1, a1, wf1, mx1, l1, z1⟩ := open_ints Try.underlying22 Try.underlying21 (by kernel_rfl) (hval 1 22 v1 rfl rfl) h1
  obtain ⟨n2, a2, wf2, mx2, l2, z2⟩ := open_ints Try.underlying22 Try.underlying21 (by kernel_rfl) (hval 2 22 v2 rfl rfl) h2
  refine (walk n0 a0 v0 n1 a1 v1 n2 a2 v2 W l0 l1 l2).mono fun e W' ⟨he, bel⟩ => ?_
  subst he
  exact ⟨_, rfl, _, _, _, [], _, [], hW', trodAll_mk1 (shut_bool Try.underlying4 _), trodAll_below laidOut bel _ _ _ _ (by kernel_rfl) hA2 hlt, rfl, bel.frame _, fun h => by cases h⟩
theorem over : Rows.topRealRow.holds Try.pinned (OpenSpec.ofChange Rows.topRealSpec) :=
  OpenClaim.holds_of_wide 3 Try.f3 rfl rfl rfl rfl rfl rfl rfl ⟨rfl, rfl, rfl, rfl, rfl⟩ rfl rfl rfl rfl rfl (by kernel_rfl) Try.func3 (by kernel_rfl)
    (of_decide_eq_true (by kernel_rfl)) (by unfold Func.isWrapper; rw [if_neg (of_decide_eq_false (by kernel_rfl))]; exact ⟨rfl, rfl⟩)
    (fun os started H enc _ => lifted os started H enc)
end Go.Proofs.Ytgpbpgbokfdbeaa.TopReal
namespace Go.Proofs.Ytgpbpgbokfdbeaa
theorem topReal_holds : Rows.TopRealSaid := TopReal.over
#print axioms topReal_holds
end Go.Proofs.Ytgpbpgbokfdbeaa
