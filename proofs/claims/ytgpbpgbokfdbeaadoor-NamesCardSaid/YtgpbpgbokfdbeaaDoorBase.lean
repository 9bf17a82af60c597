/-
  What is proved here: the tables of this program (its types), for the abstract evaluator. A text to be imported.
-/
import Derived.Test.YtgpbpgbokfdbeaaDoorSimL
import Derived.Test.YtgpbpgbokfdbeaaDoorRows
namespace Go.Proofs.YtgpbpgbokfdbeaaDoor
open Sm Go Go.RowKit
set_option maxRecDepth 100000
noncomputable def rows : List TRow := [
  ⟨2, (Go.TypeDesc.int Go.IntKind.i64), Tryd.t2⟩,
  ⟨3, (Go.TypeDesc.int Go.IntKind.i64), Tryd.t3⟩,
  ⟨4, Go.TypeDesc.bool, Tryd.t4⟩,
  ⟨5, (Go.TypeDesc.int Go.IntKind.u8), Tryd.t5⟩,
  ⟨9, Go.TypeDesc.string, Tryd.t9⟩,
  ⟨22, (Go.TypeDesc.int Go.IntKind.i64), Tryd.t22⟩,
  ⟨24, (Go.TypeDesc.struct #[{ name := "Code", type := 22, offset := 0, embedded := Bool.false, tag := "", pkgPath := "", byteOffset := 0 }, { name := "At", type := 3, offset := 1, embedded := Bool.false, tag := "", pkgPath := "", byteOffset := 8 }]), Tryd.t24⟩,
  ⟨27, (Go.TypeDesc.interface #[("Error", 25)]), Tryd.t27⟩,
  ⟨33, (Go.TypeDesc.array 24 5), Tryd.t33⟩,
  ⟨34, (Go.TypeDesc.int Go.IntKind.u64), Tryd.t34⟩,
  ⟨37, (Go.TypeDesc.slice 5), Tryd.t37⟩,
  ⟨42, (Go.TypeDesc.array 20 34), Tryd.t42⟩,
  ⟨43, (Go.TypeDesc.int Go.IntKind.u32), Tryd.t43⟩,
  ⟨44, (Go.TypeDesc.array 65 5), Tryd.t44⟩,
  ⟨46, (Go.TypeDesc.int Go.IntKind.u64), Tryd.t46⟩,
  ⟨49, (Go.TypeDesc.array 32 5), Tryd.t49⟩,
  ⟨50, (Go.TypeDesc.array 64 5), Tryd.t50⟩]
theorem held33 : Tryd.prog.stoodInHeld 33 = false := by kernel_rfl
theorem held42 : Tryd.prog.stoodInHeld 42 = false := by kernel_rfl
theorem held44 : Tryd.prog.stoodInHeld 44 = false := by kernel_rfl
theorem held49 : Tryd.prog.stoodInHeld 49 = false := by kernel_rfl
theorem held50 : Tryd.prog.stoodInHeld 50 = false := by kernel_rfl
def eqTypes : List Nat := [24, 33, 42, 44, 49, 50]
noncomputable def fns : List (FuncId × Func) := [(2, Tryd.f2), (3, Tryd.f3), (4, Tryd.f4), (5, Tryd.f5), (6, Tryd.f6), (7, Tryd.f7), (8, Tryd.f8), (9, Tryd.f9), (10, Tryd.f10), (11, Tryd.f11), (12, Tryd.f12), (13, Tryd.f13), (14, Tryd.f14), (15, Tryd.f15), (16, Tryd.f16), (17, Tryd.f17), (18, Tryd.f18), (19, Tryd.f19), (20, Tryd.f20), (42, Tryd.f42)]
noncomputable def T : Tab := { ty := lookT rows, eqOk := memN eqTypes, mg := true, fn := lookF fns }
noncomputable def T0 : Tab := { ty := lookT rows, eqOk := memN eqTypes, fn := lookF fns }
theorem allC {α : Type} {p : α → Prop} {a : α} {l : List α} (h : p a) (h2 : ∀ r ∈ l, p r) : ∀ r ∈ a :: l, p r := by
  intro r hr
  rcases List.mem_cons.1 hr with rfl | hr
  · exact h
  · exact h2 r hr
theorem allN {α : Type} {p : α → Prop} : ∀ r ∈ ([] : List α), p r := fun r hr => by cases hr
theorem hTm (m : Bool) : TabOk Tryd.prog { ty := lookT rows, eqOk := memN eqTypes, mg := m } := by
  refine tabOk_of rows eqTypes ?_ ?_
  · unfold rows
    refine allC ⟨Tryd.underlying2, Tryd.type2⟩ ?_
    refine allC ⟨Tryd.underlying3, Tryd.type3⟩ ?_
    refine allC ⟨Tryd.underlying4, Tryd.type4⟩ ?_
    refine allC ⟨Tryd.underlying5, Tryd.type5⟩ ?_
    refine allC ⟨Tryd.underlying9, Tryd.type9⟩ ?_
    refine allC ⟨Tryd.underlying22, Tryd.type22⟩ ?_
    refine allC ⟨Tryd.underlying24, Tryd.type24⟩ ?_
    refine allC ⟨Tryd.underlying27, Tryd.type27⟩ ?_
    refine allC ⟨Tryd.underlying33, Tryd.type33⟩ ?_
    refine allC ⟨Tryd.underlying34, Tryd.type34⟩ ?_
    refine allC ⟨Tryd.underlying37, Tryd.type37⟩ ?_
    refine allC ⟨Tryd.underlying42, Tryd.type42⟩ ?_
    refine allC ⟨Tryd.underlying43, Tryd.type43⟩ ?_
    refine allC ⟨Tryd.underlying44, Tryd.type44⟩ ?_
    refine allC ⟨Tryd.underlying46, Tryd.type46⟩ ?_
    refine allC ⟨Tryd.underlying49, Tryd.type49⟩ ?_
    refine allC ⟨Tryd.underlying50, Tryd.type50⟩ ?_
    exact allN
  · unfold eqTypes
    refine allC ⟨Tryd.stoodInHeld24, Tryd.eqGuardType24⟩ ?_
    refine allC ⟨held33, Tryd.eqGuardType33⟩ ?_
    refine allC ⟨held42, Tryd.eqGuardType42⟩ ?_
    refine allC ⟨held44, Tryd.eqGuardType44⟩ ?_
    refine allC ⟨held49, Tryd.eqGuardType49⟩ ?_
    refine allC ⟨held50, Tryd.eqGuardType50⟩ ?_
    exact allN
theorem hFns : ∀ r ∈ fns, Tryd.prog.funcs[r.1]? = some r.2 ∧ ∀ (vs : Array Value) (w : World), (callFunc r.1 vs).run Tryd.prog w = .ok (.enter r.1 vs) w := by
  unfold fns
  refine allC ⟨Tryd.func2, Tryd.call2⟩ ?_
  refine allC ⟨Tryd.func3, Tryd.call3⟩ ?_
  refine allC ⟨Tryd.func4, Tryd.call4⟩ ?_
  refine allC ⟨Tryd.func5, Tryd.call5⟩ ?_
  refine allC ⟨Tryd.func6, Tryd.call6⟩ ?_
  refine allC ⟨Tryd.func7, Tryd.call7⟩ ?_
  refine allC ⟨Tryd.func8, Tryd.call8⟩ ?_
  refine allC ⟨Tryd.func9, Tryd.call9⟩ ?_
  refine allC ⟨Tryd.func10, Tryd.call10⟩ ?_
  refine allC ⟨Tryd.func11, Tryd.call11⟩ ?_
  refine allC ⟨Tryd.func12, Tryd.call12⟩ ?_
  refine allC ⟨Tryd.func13, Tryd.call13⟩ ?_
  refine allC ⟨Tryd.func14, Tryd.call14⟩ ?_
  refine allC ⟨Tryd.func15, Tryd.call15⟩ ?_
  refine allC ⟨Tryd.func16, Tryd.call16⟩ ?_
  refine allC ⟨Tryd.func17, Tryd.call17⟩ ?_
  refine allC ⟨Tryd.func18, Tryd.call18⟩ ?_
  refine allC ⟨Tryd.func19, Tryd.call19⟩ ?_
  refine allC ⟨Tryd.func20, Tryd.call20⟩ ?_
  refine allC ⟨Tryd.func42, Tryd.call42⟩ ?_
  exact allN
theorem hT : TabOk Tryd.prog T := (hTm true).withFn fun f fn h => hFns _ (lookF_spec fns f fn h)
theorem hT0 : TabOk Tryd.prog T0 := (hTm false).withFn fun f fn h => hFns _ (lookF_spec fns f fn h)
theorem hm : Tryd.prog.follows .mixedOrders = true := by kernel_rfl
end Go.Proofs.YtgpbpgbokfdbeaaDoor
