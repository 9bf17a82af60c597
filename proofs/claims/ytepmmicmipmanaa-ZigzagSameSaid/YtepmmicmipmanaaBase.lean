/-
  What is proved here: the tables of this program (its types), for the abstract evaluator. A text to be imported.
-/
import Derived.Test.YtepmmicmipmanaaSimM
import Derived.Test.YtepmmicmipmanaaRows
namespace Go.Proofs.Ytepmmicmipmanaa
open Sm Go Go.RowKit
set_option maxRecDepth 100000
noncomputable def rows : List TRow := [
  ⟨3, (Go.TypeDesc.int Go.IntKind.i64), Try.t3⟩,
  ⟨4, Go.TypeDesc.bool, Try.t4⟩,
  ⟨22, (Go.TypeDesc.slice 38), Try.t22⟩,
  ⟨24, (Go.TypeDesc.int Go.IntKind.i8), Try.t24⟩,
  ⟨25, (Go.TypeDesc.array 64 24), Try.t25⟩,
  ⟨27, (Go.TypeDesc.slice 30), Try.t27⟩,
  ⟨30, (Go.TypeDesc.struct #[{ name := "Row", type := 3, offset := 0, embedded := Bool.false, tag := "", pkgPath := "", byteOffset := 0 }, { name := "Col", type := 3, offset := 1, embedded := Bool.false, tag := "", pkgPath := "", byteOffset := 8 }]), Try.t30⟩,
  ⟨36, (Go.TypeDesc.int Go.IntKind.i16), Try.t36⟩,
  ⟨37, (Go.TypeDesc.array 64 36), Try.t37⟩,
  ⟨38, (Go.TypeDesc.array 64 36), Try.t38⟩,
  ⟨42, (Go.TypeDesc.pointer 37), Try.t42⟩,
  ⟨43, (Go.TypeDesc.pointer 38), Try.t43⟩]
theorem held25 : Try.prog.stoodInHeld 25 = false := by kernel_rfl
theorem held37 : Try.prog.stoodInHeld 37 = false := by kernel_rfl
theorem held38 : Try.prog.stoodInHeld 38 = false := by kernel_rfl
def eqTypes : List Nat := [30, 25, 37, 38]
noncomputable def fns : List (FuncId × Func) := [(3, Try.f3), (4, Try.f4), (5, Try.f5), (6, Try.f6), (7, Try.f7), (8, Try.f8), (9, Try.f9), (10, Try.f10), (11, Try.f11), (12, Try.f12), (13, Try.f13), (14, Try.f14), (15, Try.f15), (16, Try.f16), (17, Try.f17), (18, Try.f18), (19, Try.f19), (20, Try.f20), (21, Try.f21), (22, Try.f22), (23, Try.f23), (24, Try.f24), (25, Try.f25), (26, Try.f26), (27, Try.f27), (28, Try.f28)]
noncomputable def T : Tab := { ty := lookT rows, eqOk := memN eqTypes, mg := true, fn := lookF fns }
noncomputable def T0 : Tab := { ty := lookT rows, eqOk := memN eqTypes, fn := lookF fns }
theorem allC {α : Type} {p : α → Prop} {a : α} {l : List α} (h : p a) (h2 : ∀ r ∈ l, p r) : ∀ r ∈ a :: l, p r := by
  intro r hr
  rcases List.mem_cons.1 hr with rfl | hr
  · exact h
  · exact h2 r hr
theorem allN {α : Type} {p : α → Prop} : ∀ r ∈ ([] : List α), p r := fun r hr => by cases hr
theorem hTm (m : Bool) : TabOk Try.prog { ty := lookT rows, eqOk := memN eqTypes, mg := m } := by
  refine tabOk_of rows eqTypes ?_ ?_
  · unfold rows
    refine allC ⟨Try.underlying3, Try.type3⟩ ?_
    refine allC ⟨Try.underlying4, Try.type4⟩ ?_
    refine allC ⟨Try.underlying22, Try.type22⟩ ?_
    refine allC ⟨Try.underlying24, Try.type24⟩ ?_
    refine allC ⟨Try.underlying25, Try.type25⟩ ?_
    refine allC ⟨Try.underlying27, Try.type27⟩ ?_
    refine allC ⟨Try.underlying30, Try.type30⟩ ?_
    refine allC ⟨Try.underlying36, Try.type36⟩ ?_
    refine allC ⟨Try.underlying37, Try.type37⟩ ?_
    refine allC ⟨Try.underlying38, Try.type38⟩ ?_
    refine allC ⟨Try.underlying42, Try.type42⟩ ?_
    refine allC ⟨Try.underlying43, Try.type43⟩ ?_
    exact allN
  · unfold eqTypes
    refine allC ⟨Try.stoodInHeld30, Try.eqGuardType30⟩ ?_
    refine allC ⟨held25, Try.eqGuardType25⟩ ?_
    refine allC ⟨held37, Try.eqGuardType37⟩ ?_
    refine allC ⟨held38, Try.eqGuardType38⟩ ?_
    exact allN
theorem hFns : ∀ r ∈ fns, Try.prog.funcs[r.1]? = some r.2 ∧ ∀ (vs : Array Value) (w : World), (callFunc r.1 vs).run Try.prog w = .ok (.enter r.1 vs) w := by
  unfold fns
  refine allC ⟨Try.func3, Try.call3⟩ ?_
  refine allC ⟨Try.func4, Try.call4⟩ ?_
  refine allC ⟨Try.func5, Try.call5⟩ ?_
  refine allC ⟨Try.func6, Try.call6⟩ ?_
  refine allC ⟨Try.func7, Try.call7⟩ ?_
  refine allC ⟨Try.func8, Try.call8⟩ ?_
  refine allC ⟨Try.func9, Try.call9⟩ ?_
  refine allC ⟨Try.func10, Try.call10⟩ ?_
  refine allC ⟨Try.func11, Try.call11⟩ ?_
  refine allC ⟨Try.func12, Try.call12⟩ ?_
  refine allC ⟨Try.func13, Try.call13⟩ ?_
  refine allC ⟨Try.func14, Try.call14⟩ ?_
  refine allC ⟨Try.func15, Try.call15⟩ ?_
  refine allC ⟨Try.func16, Try.call16⟩ ?_
  refine allC ⟨Try.func17, Try.call17⟩ ?_
  refine allC ⟨Try.func18, Try.call18⟩ ?_
  refine allC ⟨Try.func19, Try.call19⟩ ?_
  refine allC ⟨Try.func20, Try.call20⟩ ?_
  refine allC ⟨Try.func21, Try.call21⟩ ?_
  refine allC ⟨Try.func22, Try.call22⟩ ?_
  refine allC ⟨Try.func23, Try.call23⟩ ?_
  refine allC ⟨Try.func24, Try.call24⟩ ?_
  refine allC ⟨Try.func25, Try.call25⟩ ?_
  refine allC ⟨Try.func26, Try.call26⟩ ?_
  refine allC ⟨Try.func27, Try.call27⟩ ?_
  refine allC ⟨Try.func28, Try.call28⟩ ?_
  exact allN
theorem hT : TabOk Try.prog T := (hTm true).withFn fun f fn h => hFns _ (lookF_spec fns f fn h)
theorem hT0 : TabOk Try.prog T0 := (hTm false).withFn fun f fn h => hFns _ (lookF_spec fns f fn h)
theorem hm : Try.prog.follows .mixedOrders = true := by kernel_rfl
end Go.Proofs.Ytepmmicmipmanaa
