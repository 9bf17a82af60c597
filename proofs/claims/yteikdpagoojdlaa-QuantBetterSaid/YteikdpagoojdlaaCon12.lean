/-
  What is proved here: contracts of Table of the program and of the reference, whatever the quality. A text to be imported.
-/
import Derived.Test.YteikdpagoojdlaaLaw1
namespace Go.Proofs.Yteikdpagoojdlaa
open Sm Go Go.RowKit
set_option maxRecDepth 1000000
def tabQ (q : Nat) (c : Bool) (k : Nat) : Int := bif inQ q then tabR q c k else 0
def errQ (q : Nat) : Int := bif inQ q then 0 else 81
def tabVal (q : Nat) (c : Bool) : Value := .tuple #[vU16 (tabQ q c), .int .i64 (errQ q)]
def GTable : List ArgV → Option Value
  | [.val (.float .f64 q), .val (.bool c)] => some (tabVal q c)
  | _ => none
theorem tabVal_bad {q : Nat} (h : inQ q = false) (c : Bool) : tabVal q c = .tuple #[vU16 (fun _ => 0), .int .i64 81] := by
  unfold tabVal errQ
  rw [show tabQ q c = fun _ => 0 from by funext k; unfold tabQ; rw [h]; rfl, h]
  rfl
theorem tabVal_good {q : Nat} (h : inQ q = true) (c : Bool) : tabVal q c = .tuple #[vU16 (tabR q c), .int .i64 0] := by
  unfold tabVal errQ
  rw [show tabQ q c = tabR q c from by funext k; unfold tabQ; rw [h]; rfl, h]
  rfl
theorem tabVal_good2 {q : Nat} (h : inQ q = true) (c : Bool) : tabVal q c = .tuple #[vU16 (tabP q c), .int .i64 0] := by
  rw [tabVal_good h, show tabP q c = tabR q c from funext fun k => tab_same h c k]
theorem con20 : Con Try.prog 20 GTable := by
  refine con_of_runW hm hT FLok Try.func20 Try.call20 fun avs u e => ?_
  unfold GTable at e
  split at e
  · rename_i q c
    simp only [Option.some.injEq] at e; subst e
    cases h : inQ q with
    | false =>
      refine ⟨[false, false], 9000, [.b true], _, _, rfl, of_run (bad20 q c _) ⟨by rw [h]; rfl, ?_⟩⟩
      rw [tabVal_bad h]
    | true =>
      have hh := head_ok h
      cases c with
      | false => exact ⟨[false, true], 9000, [.b false, .m], _, _, rfl, of_run (run20_false q _) ⟨by rw [h]; rfl, hh.a, hh.b, hh.c, pAsks_of h false (by rw [tabVal_good2 h]) 64 0⟩⟩
      | true => exact ⟨[false, true], 9000, [.b false, .m], _, _, rfl, of_run (run20_true q _) ⟨by rw [h]; rfl, hh.a, hh.b, hh.c, pAsks_of h true (by rw [tabVal_good2 h]) 64 0⟩⟩
  · cases e
theorem con21 : Con Try.prog 21 GTable := by
  refine con_of_runW hm hT FMok Try.func21 Try.call21 fun avs u e => ?_
  unfold GTable at e
  split at e
  · rename_i q c
    simp only [Option.some.injEq] at e; subst e
    cases h : inQ q with
    | false =>
      refine ⟨[false, false], 9000, [.b true], _, _, rfl, of_run (bad21 q c _) ⟨by rw [h]; rfl, ?_⟩⟩
      rw [tabVal_bad h]
    | true =>
      have hh := head_ok h
      cases c with
      | false => exact ⟨[false, true], 9000, _, _, _, rfl, of_run (run21_false q _) ⟨by rw [h]; rfl, hh.a, hh.b, hh.c, rAsks_of h false (by rw [tabVal_good h]) 64 0⟩⟩
      | true => exact ⟨[false, true], 9000, _, _, _, rfl, of_run (run21_true q _) ⟨by rw [h]; rfl, hh.a, hh.b, hh.c, rAsks_of h true (by rw [tabVal_good h]) 64 0⟩⟩
  · cases e
noncomputable def FT : Fns := (FJ.add 20 GTable).add 21 GTable
theorem FTok : FnsOk Try.prog FT := (FJok.add con20).add con21
end Go.Proofs.Yteikdpagoojdlaa
