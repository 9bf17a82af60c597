/-
  What is proved here: the tables of this program (its types), for the abstract evaluator. A text to be imported.
-/
import Derived.Test.YtcfbhlpmhlmekaaSimM
import Derived.Test.YtcfbhlpmhlmekaaRows
namespace Go.Proofs.Ytcfbhlpmhlmekaa
open Sm Go Go.RowKit
noncomputable def rows : List TRow := [
  ⟨3, (Go.TypeDesc.int Go.IntKind.i64), Try.t3⟩,
  ⟨5, (Go.TypeDesc.int Go.IntKind.u8), Try.t5⟩,
  ⟨21, (Go.TypeDesc.int Go.IntKind.i32), Try.t21⟩,
  ⟨24, (Go.TypeDesc.int Go.IntKind.i16), Try.t24⟩,
  ⟨25, (Go.TypeDesc.array 64 24), Try.t25⟩,
  ⟨26, (Go.TypeDesc.array 64 21), Try.t26⟩,
  ⟨28, (Go.TypeDesc.pointer 25), Try.t28⟩,
  ⟨31, (Go.TypeDesc.array 64 5), Try.t31⟩,
  ⟨33, (Go.TypeDesc.pointer 26), Try.t33⟩,
  ⟨40, (Go.TypeDesc.array 9 3), Try.t40⟩,
  ⟨42, (Go.TypeDesc.array 8 3), Try.t42⟩,
  ⟨43, (Go.TypeDesc.array 8 42), Try.t43⟩,
  ⟨45, (Go.TypeDesc.array 64 3), Try.t45⟩,
  ⟨47, (Go.TypeDesc.slice 3), Try.t47⟩]
theorem held25 : Try.prog.stoodInHeld 25 = false := by kernel_rfl
theorem held26 : Try.prog.stoodInHeld 26 = false := by kernel_rfl
theorem held31 : Try.prog.stoodInHeld 31 = false := by kernel_rfl
theorem held40 : Try.prog.stoodInHeld 40 = false := by kernel_rfl
theorem held42 : Try.prog.stoodInHeld 42 = false := by kernel_rfl
theorem held43 : Try.prog.stoodInHeld 43 = false := by kernel_rfl
theorem held45 : Try.prog.stoodInHeld 45 = false := by kernel_rfl
def eqTypes : List Nat := [25, 26, 31, 40, 42, 43, 45]
noncomputable def T : Tab := { ty := lookT rows, eqOk := memN eqTypes, mg := true }
noncomputable def T0 : Tab := { ty := lookT rows, eqOk := memN eqTypes }
theorem hTm (m : Bool) : TabOk Try.prog { ty := lookT rows, eqOk := memN eqTypes, mg := m } := by
  refine tabOk_of rows eqTypes ?_ ?_
  · intro r hr
    simp only [rows, List.mem_cons, List.not_mem_nil, or_false] at hr
    rcases hr with rfl | rfl | rfl | rfl | rfl | rfl | rfl | rfl | rfl | rfl | rfl | rfl | rfl | rfl
    · exact ⟨Try.underlying3, Try.type3⟩
    · exact ⟨Try.underlying5, Try.type5⟩
    · exact ⟨Try.underlying21, Try.type21⟩
    · exact ⟨Try.underlying24, Try.type24⟩
    · exact ⟨Try.underlying25, Try.type25⟩
    · exact ⟨Try.underlying26, Try.type26⟩
    · exact ⟨Try.underlying28, Try.type28⟩
    · exact ⟨Try.underlying31, Try.type31⟩
    · exact ⟨Try.underlying33, Try.type33⟩
    · exact ⟨Try.underlying40, Try.type40⟩
    · exact ⟨Try.underlying42, Try.type42⟩
    · exact ⟨Try.underlying43, Try.type43⟩
    · exact ⟨Try.underlying45, Try.type45⟩
    · exact ⟨Try.underlying47, Try.type47⟩
  · intro t ht
    simp only [eqTypes, List.mem_cons, List.not_mem_nil, or_false] at ht
    rcases ht with rfl | rfl | rfl | rfl | rfl | rfl | rfl
    · exact ⟨held25, Try.eqGuardType25⟩
    · exact ⟨held26, Try.eqGuardType26⟩
    · exact ⟨held31, Try.eqGuardType31⟩
    · exact ⟨held40, Try.eqGuardType40⟩
    · exact ⟨held42, Try.eqGuardType42⟩
    · exact ⟨held43, Try.eqGuardType43⟩
    · exact ⟨held45, Try.eqGuardType45⟩
theorem hT : TabOk Try.prog T := hTm true
theorem hT0 : TabOk Try.prog T0 := hTm false
theorem hm : Try.prog.follows .mixedOrders = true := by kernel_rfl
end Go.Proofs.Ytcfbhlpmhlmekaa
