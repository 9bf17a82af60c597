/-
  What is proved here: the tables of this program (its types), for the abstract evaluator. A text to be imported.
-/
import Derived.Test.YteikdpagoojdlaaSimM
import Derived.Test.YteikdpagoojdlaaRows
namespace Go.Proofs.Yteikdpagoojdlaa
open Sm Go Go.RowKit
set_option maxRecDepth 100000
noncomputable def rows : List TRow := [
  ⟨2, (Go.TypeDesc.int Go.IntKind.i64), Try.t2⟩,
  ⟨3, (Go.TypeDesc.int Go.IntKind.i64), Try.t3⟩,
  ⟨4, Go.TypeDesc.bool, Try.t4⟩,
  ⟨21, (Go.TypeDesc.int Go.IntKind.i32), Try.t21⟩,
  ⟨22, (Go.TypeDesc.int Go.IntKind.u16), Try.t22⟩,
  ⟨23, (Go.TypeDesc.array 64 22), Try.t23⟩,
  ⟨24, (Go.TypeDesc.int Go.IntKind.i64), Try.t24⟩,
  ⟨26, (Go.TypeDesc.pointer 23), Try.t26⟩,
  ⟨29, (Go.TypeDesc.array 64 21), Try.t29⟩,
  ⟨30, (Go.TypeDesc.int Go.IntKind.i16), Try.t30⟩,
  ⟨32, (Go.TypeDesc.array 64 30), Try.t32⟩,
  ⟨34, (Go.TypeDesc.pointer 29), Try.t34⟩,
  ⟨38, (Go.TypeDesc.float Go.FloatKind.f32), Try.t38⟩,
  ⟨39, (Go.TypeDesc.array 64 38), Try.t39⟩,
  ⟨45, (Go.TypeDesc.float Go.FloatKind.f64), Try.t45⟩,
  ⟨57, (Go.TypeDesc.array 64 2), Try.t57⟩,
  ⟨60, (Go.TypeDesc.int Go.IntKind.i8), Try.t60⟩,
  ⟨61, (Go.TypeDesc.array 64 60), Try.t61⟩,
  ⟨67, (Go.TypeDesc.struct #[{ name := "Row", type := 3, offset := 0, embedded := Bool.false, tag := "", pkgPath := "", byteOffset := 0 }, { name := "Col", type := 3, offset := 1, embedded := Bool.false, tag := "", pkgPath := "", byteOffset := 8 }]), Try.t67⟩,
  ⟨68, (Go.TypeDesc.slice 67), Try.t68⟩]
theorem held23 : Try.prog.stoodInHeld 23 = false := by kernel_rfl
theorem held29 : Try.prog.stoodInHeld 29 = false := by kernel_rfl
theorem held32 : Try.prog.stoodInHeld 32 = false := by kernel_rfl
theorem held39 : Try.prog.stoodInHeld 39 = false := by kernel_rfl
theorem held57 : Try.prog.stoodInHeld 57 = false := by kernel_rfl
theorem held61 : Try.prog.stoodInHeld 61 = false := by kernel_rfl
def eqTypes : List Nat := [67, 23, 29, 32, 39, 57, 61]
noncomputable def fns : List (FuncId × Func) := [(3, Try.f3), (4, Try.f4), (5, Try.f5), (6, Try.f6), (7, Try.f7), (8, Try.f8), (9, Try.f9), (10, Try.f10), (11, Try.f11), (12, Try.f12), (13, Try.f13), (14, Try.f14), (15, Try.f15), (16, Try.f16), (17, Try.f17), (18, Try.f18), (19, Try.f19), (20, Try.f20), (21, Try.f21), (22, Try.f22), (23, Try.f23), (24, Try.f24), (25, Try.f25), (26, Try.f26), (27, Try.f27), (28, Try.f28), (29, Try.f29), (30, Try.f30), (31, Try.f31), (32, Try.f32), (33, Try.f33), (34, Try.f34), (36, Try.f36)]
noncomputable def T : Tab := { ty := lookT rows, eqOk := memN eqTypes, mg := true, fn := lookF fns }
noncomputable def T0 : Tab := { ty := lookT rows, eqOk := memN eqTypes, fn := lookF fns }
theorem allC {α : Type} {p : α → Prop} {a : α} {l : List α} (h : p a) (h2 : ∀ r ∈ l, p r) : ∀ r ∈ a :: l, p r := by
  intro r hr
  rcases List.mem_cons.1 hr with rfl | hr
  · exact h
  · exact h2 r hr
theorem allN {α : Type} {p : α → Prop} : ∀ r ∈ ([] : List α), p r := fun r hr => by cases hr
theorem hTm (m : Bool) : TabOk Try.prog { ty := lookT rows, eqOk := memN eqTypes, mg := m } := by
  refine tabOk_of rows eqTypes ?_ ?_
  · unfold rows
    refine allC ⟨Try.underlying2, Try.type2⟩ ?_
    refine allC ⟨Try.underlying3, Try.type3⟩ ?_
    refine allC ⟨Try.underlying4, Try.type4⟩ ?_
    refine allC ⟨Try.underlying21, Try.type21⟩ ?_
    refine allC ⟨Try.underlying22, Try.type22⟩ ?_
    refine allC ⟨Try.underlying23, Try.type23⟩ ?_
    refine allC ⟨Try.underlying24, Try.type24⟩ ?_
    refine allC ⟨Try.underlying26, Try.type26⟩ ?_
    refine allC ⟨Try.underlying29, Try.type29⟩ ?_
    refine allC ⟨Try.underlying30, Try.type30⟩ ?_
    refine allC ⟨Try.underlying32, Try.type32⟩ ?_
    refine allC ⟨Try.underlying34, Try.type34⟩ ?_
    refine allC ⟨Try.underlying38, Try.type38⟩ ?_
    refine allC ⟨Try.underlying39, Try.type39⟩ ?_
    refine allC ⟨Try.underlying45, Try.type45⟩ ?_
    refine allC ⟨Try.underlying57, Try.type57⟩ ?_
    refine allC ⟨Try.underlying60, Try.type60⟩ ?_
    refine allC ⟨Try.underlying61, Try.type61⟩ ?_
    refine allC ⟨Try.underlying67, Try.type67⟩ ?_
    refine allC ⟨Try.underlying68, Try.type68⟩ ?_
    exact allN
  · unfold eqTypes
    refine allC ⟨Try.stoodInHeld67, Try.eqGuardType67⟩ ?_
    refine allC ⟨held23, Try.eqGuardType23⟩ ?_
    refine allC ⟨held29, Try.eqGuardType29⟩ ?_
    refine allC ⟨held32, Try.eqGuardType32⟩ ?_
    refine allC ⟨held39, Try.eqGuardType39⟩ ?_
    refine allC ⟨held57, Try.eqGuardType57⟩ ?_
    refine allC ⟨held61, Try.eqGuardType61⟩ ?_
    exact allN
theorem hFns : ∀ r ∈ fns, Try.prog.funcs[r.1]? = some r.2 ∧ ∀ (vs : Array Value) (w : World), (callFunc r.1 vs).run Try.prog w = .ok (.enter r.1 vs) w := by
  unfold fns
  refine allC ⟨Try.func3, Try.call3⟩ ?_
  refine allC ⟨Try.func4, Try.call4⟩ ?_
  refine allC ⟨Try.func5, Try.call5⟩ ?_
  refine allC ⟨Try.func6, Try.call6⟩ ?_
  refine allC ⟨Try.func7, Try.call7⟩ ?_
  refine allC ⟨Try.func8, Try.call8⟩ ?_
  refine allC ⟨Try.func9, Try.call9⟩ ?_
  refine allC ⟨Try.func10, Try.call10⟩ ?_
  refine allC ⟨Try.func11, Try.call11⟩ ?_
  refine allC ⟨Try.func12, Try.call12⟩ ?_
  refine allC ⟨Try.func13, Try.call13⟩ ?_
  refine allC ⟨Try.func14, Try.call14⟩ ?_
  refine allC ⟨Try.func15, Try.call15⟩ ?_
  refine allC ⟨Try.func16, Try.call16⟩ ?_
  refine allC ⟨Try.func17, Try.call17⟩ ?_
  refine allC ⟨Try.func18, Try.call18⟩ ?_
  refine allC ⟨Try.func19, Try.call19⟩ ?_
  refine allC ⟨Try.func20, Try.call20⟩ ?_
  refine allC ⟨Try.func21, Try.call21⟩ ?_
  refine allC ⟨Try.func22, Try.call22⟩ ?_
  refine allC ⟨Try.func23, Try.call23⟩ ?_
  refine allC ⟨Try.func24, Try.call24⟩ ?_
  refine allC ⟨Try.func25, Try.call25⟩ ?_
  refine allC ⟨Try.func26, Try.call26⟩ ?_
  refine allC ⟨Try.func27, Try.call27⟩ ?_
  refine allC ⟨Try.func28, Try.call28⟩ ?_
  refine allC ⟨Try.func29, Try.call29⟩ ?_
  refine allC ⟨Try.func30, Try.call30⟩ ?_
  refine allC ⟨Try.func31, Try.call31⟩ ?_
  refine allC ⟨Try.func32, Try.call32⟩ ?_
  refine allC ⟨Try.func33, Try.call33⟩ ?_
  refine allC ⟨Try.func34, Try.call34⟩ ?_
  refine allC ⟨Try.func36, Try.call36⟩ ?_
  exact allN
theorem hT : TabOk Try.prog T := (hTm true).withFn fun f fn h => hFns _ (lookF_spec fns f fn h)
theorem hT0 : TabOk Try.prog T0 := (hTm false).withFn fun f fn h => hFns _ (lookF_spec fns f fn h)
theorem hm : Try.prog.follows .mixedOrders = true := by kernel_rfl
end Go.Proofs.Yteikdpagoojdlaa
