/-
  What is proved here: the tables of this program (its types), for the abstract evaluator. A text to be imported.
-/
import Derived.Test.YteikdpagoojdlaaSimM
import Derived.Test.YteikdpagoojdlaaRows
namespace Go.Proofs.Yteikdpagoojdlaa
open Sm Go Go.RowKit
noncomputable def rows : List TRow := [
  ⟨2, (Go.TypeDesc.int Go.IntKind.i64), Try.t2⟩,
  ⟨3, (Go.TypeDesc.int Go.IntKind.i64), Try.t3⟩,
  ⟨4, Go.TypeDesc.bool, Try.t4⟩,
  ⟨21, (Go.TypeDesc.int Go.IntKind.i32), Try.t21⟩,
  ⟨22, (Go.TypeDesc.int Go.IntKind.u16), Try.t22⟩,
  ⟨23, (Go.TypeDesc.array 64 22), Try.t23⟩,
  ⟨24, (Go.TypeDesc.int Go.IntKind.i64), Try.t24⟩,
  ⟨26, (Go.TypeDesc.pointer 23), Try.t26⟩,
  ⟨29, (Go.TypeDesc.array 64 21), Try.t29⟩,
  ⟨30, (Go.TypeDesc.int Go.IntKind.i16), Try.t30⟩,
  ⟨32, (Go.TypeDesc.array 64 30), Try.t32⟩,
  ⟨34, (Go.TypeDesc.pointer 29), Try.t34⟩,
  ⟨38, (Go.TypeDesc.float Go.FloatKind.f32), Try.t38⟩,
  ⟨39, (Go.TypeDesc.array 64 38), Try.t39⟩,
  ⟨45, (Go.TypeDesc.float Go.FloatKind.f64), Try.t45⟩,
  ⟨57, (Go.TypeDesc.array 64 2), Try.t57⟩,
  ⟨60, (Go.TypeDesc.int Go.IntKind.i8), Try.t60⟩,
  ⟨61, (Go.TypeDesc.array 64 60), Try.t61⟩,
  ⟨67, (Go.TypeDesc.struct #[{ name := "Row", type := 3, offset := 0, embedded := Bool.false, tag := "", pkgPath := "", byteOffset := 0 }, { name := "Col", type := 3, offset := 1, embedded := Bool.false, tag := "", pkgPath := "", byteOffset := 8 }]), Try.t67⟩,
  ⟨68, (Go.TypeDesc.slice 67), Try.t68⟩]
theorem held23 : Try.prog.stoodInHeld 23 = false := by kernel_rfl
theorem held29 : Try.prog.stoodInHeld 29 = false := by kernel_rfl
theorem held32 : Try.prog.stoodInHeld 32 = false := by kernel_rfl
theorem held39 : Try.prog.stoodInHeld 39 = false := by kernel_rfl
theorem held57 : Try.prog.stoodInHeld 57 = false := by kernel_rfl
theorem held61 : Try.prog.stoodInHeld 61 = false := by kernel_rfl
def eqTypes : List Nat := [67, 23, 29, 32, 39, 57, 61]
noncomputable def T : Tab := { ty := lookT rows, eqOk := memN eqTypes, mg := true }
noncomputable def T0 : Tab := { ty := lookT rows, eqOk := memN eqTypes }
theorem hTm (m : Bool) : TabOk Try.prog { ty := lookT rows, eqOk := memN eqTypes, mg := m } := by
  refine tabOk_of rows eqTypes ?_ ?_
  · intro r hr
    simp only [rows, List.mem_cons, List.not_mem_nil, or_false] at hr
    rcases hr with rfl | rfl | rfl | rfl | rfl | rfl | rfl | rfl | rfl | rfl | rfl | rfl | rfl | rfl | rfl | rfl | rfl | rfl | rfl | rfl
    · exact ⟨Try.underlying2, Try.type2⟩
    · exact ⟨Try.underlying3, Try.type3⟩
    · exact ⟨Try.underlying4, Try.type4⟩
    · exact ⟨Try.underlying21, Try.type21⟩
    · exact ⟨Try.underlying22, Try.type22⟩
    · exact ⟨Try.underlying23, Try.type23⟩
    · exact ⟨Try.underlying24, Try.type24⟩
    · exact ⟨Try.underlying26, Try.type26⟩
    · exact ⟨Try.underlying29, Try.type29⟩
    · exact ⟨Try.underlying30, Try.type30⟩
    · exact ⟨Try.underlying32, Try.type32⟩
    · exact ⟨Try.underlying34, Try.type34⟩
    · exact ⟨Try.underlying38, Try.type38⟩
    · exact ⟨Try.underlying39, Try.type39⟩
    · exact ⟨Try.underlying45, Try.type45⟩
    · exact ⟨Try.underlying57, Try.type57⟩
    · exact ⟨Try.underlying60, Try.type60⟩
    · exact ⟨Try.underlying61, Try.type61⟩
    · exact ⟨Try.underlying67, Try.type67⟩
    · exact ⟨Try.underlying68, Try.type68⟩
  · intro t ht
    simp only [eqTypes, List.mem_cons, List.not_mem_nil, or_false] at ht
    rcases ht with rfl | rfl | rfl | rfl | rfl | rfl | rfl
    · exact ⟨Try.stoodInHeld67, Try.eqGuardType67⟩
    · exact ⟨held23, Try.eqGuardType23⟩
    · exact ⟨held29, Try.eqGuardType29⟩
    · exact ⟨held32, Try.eqGuardType32⟩
    · exact ⟨held39, Try.eqGuardType39⟩
    · exact ⟨held57, Try.eqGuardType57⟩
    · exact ⟨held61, Try.eqGuardType61⟩
theorem hT : TabOk Try.prog T := hTm true
theorem hT0 : TabOk Try.prog T0 := hTm false
theorem hm : Try.prog.follows .mixedOrders = true := by kernel_rfl
end Go.Proofs.Yteikdpagoojdlaa
