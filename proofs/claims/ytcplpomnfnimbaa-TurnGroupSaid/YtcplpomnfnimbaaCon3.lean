/-
  What is proved here: contracts of Then and the reference's. A text to be imported.
-/
import Derived.Test.YtcplpomnfnimbaaCon21
import Derived.Test.YtcplpomnfnimbaaCon22
import Derived.Test.YtcplpomnfnimbaaCon23
import Derived.Test.YtcplpomnfnimbaaCon24
import Derived.Test.YtcplpomnfnimbaaCon25
import Derived.Test.YtcplpomnfnimbaaCon26
import Derived.Test.YtcplpomnfnimbaaCon27
import Derived.Test.YtcplpomnfnimbaaCon28
namespace Go.Proofs.Ytcplpomnfnimbaa
open Sm Go Go.RowKit
set_option maxRecDepth 1000000
set_option linter.unusedSimpArgs false
set_option linter.unusedVariables false
theorem o14_a (a b : Int) (u : Value) : runK Try.prog T0 F3 500 Try.f14 [di8 a, di8 b] [] [.b true] (fun r _ => resW r = some u) = ((!inR a) = true ∧ some (Value.int .i8 0) = some u) := by kernel_rfl
theorem o14_b (a b : Int) (u : Value) : runK Try.prog T0 F3 500 Try.f14 [di8 a, di8 b] [] [.b false, .b true] (fun r _ => resW r = some u) = ((!inR a) = false ∧ (!inR b) = true ∧ some (Value.int .i8 0) = some u) := by kernel_rfl
theorem o15_a (a b : Int) (u : Value) : runK Try.prog T0 F3 2000 Try.f15 [di8 a, di8 b] [] [.b true] (fun r _ => resW r = some u) = ((!(bif decide (a ≥ 1) then decide (a ≤ 8) else false)) = true ∧ some (Value.int .i8 0) = some u) := by kernel_rfl
theorem o15_b (a b : Int) (u : Value) : runK Try.prog T0 F3 2000 Try.f15 [di8 a, di8 b] [] [.b false, .b true] (fun r _ => resW r = some u) = ((!(bif decide (a ≥ 1) then decide (a ≤ 8) else false)) = false ∧ (!(bif decide (b ≥ 1) then decide (b ≤ 8) else false)) = true ∧ some (Value.int .i8 0) = some u) := by kernel_rfl
theorem is_inR (h : Int) : (bif decide (h ≥ 1) then decide (h ≤ 8) else false) = inR h := by
  unfold inR
  by_cases h1 : 1 ≤ h <;> simp [h1]
theorem con14 : Con Try.prog 14 GThen := by
  refine con_of_runW hm hT0 F3ok Try.func14 Try.call14 fun avs u e => ?_
  unfold GThen at e
  split at e
  · rename_i a b
    simp only [Option.some.injEq] at e; subst e
    cases ha : inR a with
    | false => exact ⟨[false, false], 500, _, _, _, rfl, of_run (o14_a a b _) ⟨by simp [ha], by simp only [thenI, ha, Bool.false_and, cond_false]⟩⟩
    | true =>
      cases hb : inR b with
      | false => exact ⟨[false, false], 500, _, _, _, rfl, of_run (o14_b a b _) ⟨by simp [ha], by simp [hb], by simp only [thenI, hb, Bool.and_false, cond_false]⟩⟩
      | true =>
        obtain ⟨a1, a2⟩ := (inR_iff a).1 ha
        obtain ⟨b1, b2⟩ := (inR_iff b).1 hb
        rcases eight a1 a2 with rfl | rfl | rfl | rfl | rfl | rfl | rfl | rfl <;> rcases eight b1 b2 with rfl | rfl | rfl | rfl | rfl | rfl | rfl | rfl
        · exact ⟨[true, true], 500, [], _, _, rfl, of_run (r14_11 _) rfl⟩
        · exact ⟨[true, true], 500, [], _, _, rfl, of_run (r14_12 _) rfl⟩
        · exact ⟨[true, true], 500, [], _, _, rfl, of_run (r14_13 _) rfl⟩
        · exact ⟨[true, true], 500, [], _, _, rfl, of_run (r14_14 _) rfl⟩
        · exact ⟨[true, true], 500, [], _, _, rfl, of_run (r14_15 _) rfl⟩
        · exact ⟨[true, true], 500, [], _, _, rfl, of_run (r14_16 _) rfl⟩
        · exact ⟨[true, true], 500, [], _, _, rfl, of_run (r14_17 _) rfl⟩
        · exact ⟨[true, true], 500, [], _, _, rfl, of_run (r14_18 _) rfl⟩
        · exact ⟨[true, true], 500, [], _, _, rfl, of_run (r14_21 _) rfl⟩
        · exact ⟨[true, true], 500, [], _, _, rfl, of_run (r14_22 _) rfl⟩
        · exact ⟨[true, true], 500, [], _, _, rfl, of_run (r14_23 _) rfl⟩
        · exact ⟨[true, true], 500, [], _, _, rfl, of_run (r14_24 _) rfl⟩
        · exact ⟨[true, true], 500, [], _, _, rfl, of_run (r14_25 _) rfl⟩
        · exact ⟨[true, true], 500, [], _, _, rfl, of_run (r14_26 _) rfl⟩
        · exact ⟨[true, true], 500, [], _, _, rfl, of_run (r14_27 _) rfl⟩
        · exact ⟨[true, true], 500, [], _, _, rfl, of_run (r14_28 _) rfl⟩
        · exact ⟨[true, true], 500, [], _, _, rfl, of_run (r14_31 _) rfl⟩
        · exact ⟨[true, true], 500, [], _, _, rfl, of_run (r14_32 _) rfl⟩
        · exact ⟨[true, true], 500, [], _, _, rfl, of_run (r14_33 _) rfl⟩
        · exact ⟨[true, true], 500, [], _, _, rfl, of_run (r14_34 _) rfl⟩
        · exact ⟨[true, true], 500, [], _, _, rfl, of_run (r14_35 _) rfl⟩
        · exact ⟨[true, true], 500, [], _, _, rfl, of_run (r14_36 _) rfl⟩
        · exact ⟨[true, true], 500, [], _, _, rfl, of_run (r14_37 _) rfl⟩
        · exact ⟨[true, true], 500, [], _, _, rfl, of_run (r14_38 _) rfl⟩
        · exact ⟨[true, true], 500, [], _, _, rfl, of_run (r14_41 _) rfl⟩
        · exact ⟨[true, true], 500, [], _, _, rfl, of_run (r14_42 _) rfl⟩
        · exact ⟨[true, true], 500, [], _, _, rfl, of_run (r14_43 _) rfl⟩
        · exact ⟨[true, true], 500, [], _, _, rfl, of_run (r14_44 _) rfl⟩
        · exact ⟨[true, true], 500, [], _, _, rfl, of_run (r14_45 _) rfl⟩
        · exact ⟨[true, true], 500, [], _, _, rfl, of_run (r14_46 _) rfl⟩
        · exact ⟨[true, true], 500, [], _, _, rfl, of_run (r14_47 _) rfl⟩
        · exact ⟨[true, true], 500, [], _, _, rfl, of_run (r14_48 _) rfl⟩
        · exact ⟨[true, true], 500, [], _, _, rfl, of_run (r14_51 _) rfl⟩
        · exact ⟨[true, true], 500, [], _, _, rfl, of_run (r14_52 _) rfl⟩
        · exact ⟨[true, true], 500, [], _, _, rfl, of_run (r14_53 _) rfl⟩
        · exact ⟨[true, true], 500, [], _, _, rfl, of_run (r14_54 _) rfl⟩
        · exact ⟨[true, true], 500, [], _, _, rfl, of_run (r14_55 _) rfl⟩
        · exact ⟨[true, true], 500, [], _, _, rfl, of_run (r14_56 _) rfl⟩
        · exact ⟨[true, true], 500, [], _, _, rfl, of_run (r14_57 _) rfl⟩
        · exact ⟨[true, true], 500, [], _, _, rfl, of_run (r14_58 _) rfl⟩
        · exact ⟨[true, true], 500, [], _, _, rfl, of_run (r14_61 _) rfl⟩
        · exact ⟨[true, true], 500, [], _, _, rfl, of_run (r14_62 _) rfl⟩
        · exact ⟨[true, true], 500, [], _, _, rfl, of_run (r14_63 _) rfl⟩
        · exact ⟨[true, true], 500, [], _, _, rfl, of_run (r14_64 _) rfl⟩
        · exact ⟨[true, true], 500, [], _, _, rfl, of_run (r14_65 _) rfl⟩
        · exact ⟨[true, true], 500, [], _, _, rfl, of_run (r14_66 _) rfl⟩
        · exact ⟨[true, true], 500, [], _, _, rfl, of_run (r14_67 _) rfl⟩
        · exact ⟨[true, true], 500, [], _, _, rfl, of_run (r14_68 _) rfl⟩
        · exact ⟨[true, true], 500, [], _, _, rfl, of_run (r14_71 _) rfl⟩
        · exact ⟨[true, true], 500, [], _, _, rfl, of_run (r14_72 _) rfl⟩
        · exact ⟨[true, true], 500, [], _, _, rfl, of_run (r14_73 _) rfl⟩
        · exact ⟨[true, true], 500, [], _, _, rfl, of_run (r14_74 _) rfl⟩
        · exact ⟨[true, true], 500, [], _, _, rfl, of_run (r14_75 _) rfl⟩
        · exact ⟨[true, true], 500, [], _, _, rfl, of_run (r14_76 _) rfl⟩
        · exact ⟨[true, true], 500, [], _, _, rfl, of_run (r14_77 _) rfl⟩
        · exact ⟨[true, true], 500, [], _, _, rfl, of_run (r14_78 _) rfl⟩
        · exact ⟨[true, true], 500, [], _, _, rfl, of_run (r14_81 _) rfl⟩
        · exact ⟨[true, true], 500, [], _, _, rfl, of_run (r14_82 _) rfl⟩
        · exact ⟨[true, true], 500, [], _, _, rfl, of_run (r14_83 _) rfl⟩
        · exact ⟨[true, true], 500, [], _, _, rfl, of_run (r14_84 _) rfl⟩
        · exact ⟨[true, true], 500, [], _, _, rfl, of_run (r14_85 _) rfl⟩
        · exact ⟨[true, true], 500, [], _, _, rfl, of_run (r14_86 _) rfl⟩
        · exact ⟨[true, true], 500, [], _, _, rfl, of_run (r14_87 _) rfl⟩
        · exact ⟨[true, true], 500, [], _, _, rfl, of_run (r14_88 _) rfl⟩
  · cases e
theorem con15 : Con Try.prog 15 GThen := by
  refine con_of_runW hm hT0 F3ok Try.func15 Try.call15 fun avs u e => ?_
  unfold GThen at e
  split at e
  · rename_i a b
    simp only [Option.some.injEq] at e; subst e
    cases ha : inR a with
    | false => exact ⟨[false, false], 2000, _, _, _, rfl, of_run (o15_a a b _) ⟨by rw [is_inR]; simp [ha], by simp only [thenI, ha, Bool.false_and, cond_false]⟩⟩
    | true =>
      cases hb : inR b with
      | false => exact ⟨[false, false], 2000, _, _, _, rfl, of_run (o15_b a b _) ⟨by rw [is_inR]; simp [ha], by rw [is_inR]; simp [hb], by simp only [thenI, hb, Bool.and_false, cond_false]⟩⟩
      | true =>
        obtain ⟨a1, a2⟩ := (inR_iff a).1 ha
        obtain ⟨b1, b2⟩ := (inR_iff b).1 hb
        rcases eight a1 a2 with rfl | rfl | rfl | rfl | rfl | rfl | rfl | rfl <;> rcases eight b1 b2 with rfl | rfl | rfl | rfl | rfl | rfl | rfl | rfl
        · exact ⟨[true, true], 2000, [], _, _, rfl, of_run (r15_11 _) rfl⟩
        · exact ⟨[true, true], 2000, [], _, _, rfl, of_run (r15_12 _) rfl⟩
        · exact ⟨[true, true], 2000, [], _, _, rfl, of_run (r15_13 _) rfl⟩
        · exact ⟨[true, true], 2000, [], _, _, rfl, of_run (r15_14 _) rfl⟩
        · exact ⟨[true, true], 2000, [], _, _, rfl, of_run (r15_15 _) rfl⟩
        · exact ⟨[true, true], 2000, [], _, _, rfl, of_run (r15_16 _) rfl⟩
        · exact ⟨[true, true], 2000, [], _, _, rfl, of_run (r15_17 _) rfl⟩
        · exact ⟨[true, true], 2000, [], _, _, rfl, of_run (r15_18 _) rfl⟩
        · exact ⟨[true, true], 2000, [], _, _, rfl, of_run (r15_21 _) rfl⟩
        · exact ⟨[true, true], 2000, [], _, _, rfl, of_run (r15_22 _) rfl⟩
        · exact ⟨[true, true], 2000, [], _, _, rfl, of_run (r15_23 _) rfl⟩
        · exact ⟨[true, true], 2000, [], _, _, rfl, of_run (r15_24 _) rfl⟩
        · exact ⟨[true, true], 2000, [], _, _, rfl, of_run (r15_25 _) rfl⟩
        · exact ⟨[true, true], 2000, [], _, _, rfl, of_run (r15_26 _) rfl⟩
        · exact ⟨[true, true], 2000, [], _, _, rfl, of_run (r15_27 _) rfl⟩
        · exact ⟨[true, true], 2000, [], _, _, rfl, of_run (r15_28 _) rfl⟩
        · exact ⟨[true, true], 2000, [], _, _, rfl, of_run (r15_31 _) rfl⟩
        · exact ⟨[true, true], 2000, [], _, _, rfl, of_run (r15_32 _) rfl⟩
        · exact ⟨[true, true], 2000, [], _, _, rfl, of_run (r15_33 _) rfl⟩
        · exact ⟨[true, true], 2000, [], _, _, rfl, of_run (r15_34 _) rfl⟩
        · exact ⟨[true, true], 2000, [], _, _, rfl, of_run (r15_35 _) rfl⟩
        · exact ⟨[true, true], 2000, [], _, _, rfl, of_run (r15_36 _) rfl⟩
        · exact ⟨[true, true], 2000, [], _, _, rfl, of_run (r15_37 _) rfl⟩
        · exact ⟨[true, true], 2000, [], _, _, rfl, of_run (r15_38 _) rfl⟩
        · exact ⟨[true, true], 2000, [], _, _, rfl, of_run (r15_41 _) rfl⟩
        · exact ⟨[true, true], 2000, [], _, _, rfl, of_run (r15_42 _) rfl⟩
        · exact ⟨[true, true], 2000, [], _, _, rfl, of_run (r15_43 _) rfl⟩
        · exact ⟨[true, true], 2000, [], _, _, rfl, of_run (r15_44 _) rfl⟩
        · exact ⟨[true, true], 2000, [], _, _, rfl, of_run (r15_45 _) rfl⟩
        · exact ⟨[true, true], 2000, [], _, _, rfl, of_run (r15_46 _) rfl⟩
        · exact ⟨[true, true], 2000, [], _, _, rfl, of_run (r15_47 _) rfl⟩
        · exact ⟨[true, true], 2000, [], _, _, rfl, of_run (r15_48 _) rfl⟩
        · exact ⟨[true, true], 2000, [], _, _, rfl, of_run (r15_51 _) rfl⟩
        · exact ⟨[true, true], 2000, [], _, _, rfl, of_run (r15_52 _) rfl⟩
        · exact ⟨[true, true], 2000, [], _, _, rfl, of_run (r15_53 _) rfl⟩
        · exact ⟨[true, true], 2000, [], _, _, rfl, of_run (r15_54 _) rfl⟩
        · exact ⟨[true, true], 2000, [], _, _, rfl, of_run (r15_55 _) rfl⟩
        · exact ⟨[true, true], 2000, [], _, _, rfl, of_run (r15_56 _) rfl⟩
        · exact ⟨[true, true], 2000, [], _, _, rfl, of_run (r15_57 _) rfl⟩
        · exact ⟨[true, true], 2000, [], _, _, rfl, of_run (r15_58 _) rfl⟩
        · exact ⟨[true, true], 2000, [], _, _, rfl, of_run (r15_61 _) rfl⟩
        · exact ⟨[true, true], 2000, [], _, _, rfl, of_run (r15_62 _) rfl⟩
        · exact ⟨[true, true], 2000, [], _, _, rfl, of_run (r15_63 _) rfl⟩
        · exact ⟨[true, true], 2000, [], _, _, rfl, of_run (r15_64 _) rfl⟩
        · exact ⟨[true, true], 2000, [], _, _, rfl, of_run (r15_65 _) rfl⟩
        · exact ⟨[true, true], 2000, [], _, _, rfl, of_run (r15_66 _) rfl⟩
        · exact ⟨[true, true], 2000, [], _, _, rfl, of_run (r15_67 _) rfl⟩
        · exact ⟨[true, true], 2000, [], _, _, rfl, of_run (r15_68 _) rfl⟩
        · exact ⟨[true, true], 2000, [], _, _, rfl, of_run (r15_71 _) rfl⟩
        · exact ⟨[true, true], 2000, [], _, _, rfl, of_run (r15_72 _) rfl⟩
        · exact ⟨[true, true], 2000, [], _, _, rfl, of_run (r15_73 _) rfl⟩
        · exact ⟨[true, true], 2000, [], _, _, rfl, of_run (r15_74 _) rfl⟩
        · exact ⟨[true, true], 2000, [], _, _, rfl, of_run (r15_75 _) rfl⟩
        · exact ⟨[true, true], 2000, [], _, _, rfl, of_run (r15_76 _) rfl⟩
        · exact ⟨[true, true], 2000, [], _, _, rfl, of_run (r15_77 _) rfl⟩
        · exact ⟨[true, true], 2000, [], _, _, rfl, of_run (r15_78 _) rfl⟩
        · exact ⟨[true, true], 2000, [], _, _, rfl, of_run (r15_81 _) rfl⟩
        · exact ⟨[true, true], 2000, [], _, _, rfl, of_run (r15_82 _) rfl⟩
        · exact ⟨[true, true], 2000, [], _, _, rfl, of_run (r15_83 _) rfl⟩
        · exact ⟨[true, true], 2000, [], _, _, rfl, of_run (r15_84 _) rfl⟩
        · exact ⟨[true, true], 2000, [], _, _, rfl, of_run (r15_85 _) rfl⟩
        · exact ⟨[true, true], 2000, [], _, _, rfl, of_run (r15_86 _) rfl⟩
        · exact ⟨[true, true], 2000, [], _, _, rfl, of_run (r15_87 _) rfl⟩
        · exact ⟨[true, true], 2000, [], _, _, rfl, of_run (r15_88 _) rfl⟩
  · cases e
noncomputable def F4 : Fns := (F3.add 14 GThen).add 15 GThen
theorem F4ok : FnsOk Try.prog F4 := (F3ok.add con14).add con15
end Go.Proofs.Ytcplpomnfnimbaa
