/-
  What is proved here: the tables of this program (its types), for the abstract evaluator. A text to be imported.
-/
import Derived.Test.YtepmmicmipmanaaSimM
import Derived.Test.YtepmmicmipmanaaRows
namespace Go.Proofs.Ytepmmicmipmanaa
open Sm Go Go.RowKit
noncomputable def rows : List TRow := [
  ⟨3, (Go.TypeDesc.int Go.IntKind.i64), Try.t3⟩,
  ⟨4, Go.TypeDesc.bool, Try.t4⟩,
  ⟨22, (Go.TypeDesc.slice 38), Try.t22⟩,
  ⟨24, (Go.TypeDesc.int Go.IntKind.i8), Try.t24⟩,
  ⟨25, (Go.TypeDesc.array 64 24), Try.t25⟩,
  ⟨27, (Go.TypeDesc.slice 30), Try.t27⟩,
  ⟨30, (Go.TypeDesc.struct #[{ name := "Row", type := 3, offset := 0, embedded := Bool.false, tag := "", pkgPath := "", byteOffset := 0 }, { name := "Col", type := 3, offset := 1, embedded := Bool.false, tag := "", pkgPath := "", byteOffset := 8 }]), Try.t30⟩,
  ⟨36, (Go.TypeDesc.int Go.IntKind.i16), Try.t36⟩,
  ⟨37, (Go.TypeDesc.array 64 36), Try.t37⟩,
  ⟨38, (Go.TypeDesc.array 64 36), Try.t38⟩,
  ⟨42, (Go.TypeDesc.pointer 37), Try.t42⟩,
  ⟨43, (Go.TypeDesc.pointer 38), Try.t43⟩]
theorem held25 : Try.prog.stoodInHeld 25 = false := by kernel_rfl
theorem held37 : Try.prog.stoodInHeld 37 = false := by kernel_rfl
theorem held38 : Try.prog.stoodInHeld 38 = false := by kernel_rfl
def eqTypes : List Nat := [30, 25, 37, 38]
noncomputable def T : Tab := { ty := lookT rows, eqOk := memN eqTypes }
theorem hT : TabOk Try.prog T := by
  refine tabOk_of rows eqTypes ?_ ?_
  · intro r hr
    simp only [rows, List.mem_cons, List.not_mem_nil, or_false] at hr
    rcases hr with rfl | rfl | rfl | rfl | rfl | rfl | rfl | rfl | rfl | rfl | rfl | rfl
    · exact ⟨Try.underlying3, Try.type3⟩
    · exact ⟨Try.underlying4, Try.type4⟩
    · exact ⟨Try.underlying22, Try.type22⟩
    · exact ⟨Try.underlying24, Try.type24⟩
    · exact ⟨Try.underlying25, Try.type25⟩
    · exact ⟨Try.underlying27, Try.type27⟩
    · exact ⟨Try.underlying30, Try.type30⟩
    · exact ⟨Try.underlying36, Try.type36⟩
    · exact ⟨Try.underlying37, Try.type37⟩
    · exact ⟨Try.underlying38, Try.type38⟩
    · exact ⟨Try.underlying42, Try.type42⟩
    · exact ⟨Try.underlying43, Try.type43⟩
  · intro t ht
    simp only [eqTypes, List.mem_cons, List.not_mem_nil, or_false] at ht
    rcases ht with rfl | rfl | rfl | rfl
    · exact ⟨Try.stoodInHeld30, Try.eqGuardType30⟩
    · exact ⟨held25, Try.eqGuardType25⟩
    · exact ⟨held37, Try.eqGuardType37⟩
    · exact ⟨held38, Try.eqGuardType38⟩
theorem hm : Try.prog.follows .mixedOrders = true := by kernel_rfl
end Go.Proofs.Ytepmmicmipmanaa
