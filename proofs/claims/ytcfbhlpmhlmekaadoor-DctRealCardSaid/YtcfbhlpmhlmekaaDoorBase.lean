/-
  What is proved here: the tables of this program (its types), for the abstract evaluator. A text to be imported.
-/
import Derived.Test.YtcfbhlpmhlmekaaDoorSimL
import Derived.Test.YtcfbhlpmhlmekaaDoorRows
namespace Go.Proofs.YtcfbhlpmhlmekaaDoor
open Sm Go Go.RowKit
set_option maxRecDepth 100000
noncomputable def rows : List TRow := [
  ⟨3, (Go.TypeDesc.int Go.IntKind.i64), Tryd.t3⟩,
  ⟨4, Go.TypeDesc.bool, Tryd.t4⟩,
  ⟨5, (Go.TypeDesc.int Go.IntKind.u8), Tryd.t5⟩,
  ⟨9, Go.TypeDesc.string, Tryd.t9⟩,
  ⟨21, (Go.TypeDesc.int Go.IntKind.i32), Tryd.t21⟩,
  ⟨22, (Go.TypeDesc.float Go.FloatKind.f64), Tryd.t22⟩,
  ⟨23, (Go.TypeDesc.array 64 22), Tryd.t23⟩,
  ⟨25, (Go.TypeDesc.pointer 23), Tryd.t25⟩,
  ⟨31, (Go.TypeDesc.array 64 5), Tryd.t31⟩,
  ⟨33, (Go.TypeDesc.array 64 21), Tryd.t33⟩,
  ⟨38, (Go.TypeDesc.pointer 33), Tryd.t38⟩,
  ⟨41, (Go.TypeDesc.array 8 22), Tryd.t41⟩,
  ⟨42, (Go.TypeDesc.array 8 41), Tryd.t42⟩,
  ⟨44, (Go.TypeDesc.array 8 3), Tryd.t44⟩,
  ⟨45, (Go.TypeDesc.array 8 44), Tryd.t45⟩,
  ⟨47, (Go.TypeDesc.array 64 3), Tryd.t47⟩,
  ⟨49, (Go.TypeDesc.pointer 51), Tryd.t49⟩,
  ⟨50, (Go.TypeDesc.int Go.IntKind.i16), Tryd.t50⟩,
  ⟨51, (Go.TypeDesc.array 64 50), Tryd.t51⟩,
  ⟨54, (Go.TypeDesc.int Go.IntKind.u64), Tryd.t54⟩,
  ⟨55, (Go.TypeDesc.array 9 3), Tryd.t55⟩,
  ⟨59, (Go.TypeDesc.int Go.IntKind.u64), Tryd.t59⟩,
  ⟨62, (Go.TypeDesc.array 6 22), Tryd.t62⟩,
  ⟨65, (Go.TypeDesc.array 20 59), Tryd.t65⟩]
theorem held23 : Tryd.prog.stoodInHeld 23 = false := by kernel_rfl
theorem held31 : Tryd.prog.stoodInHeld 31 = false := by kernel_rfl
theorem held33 : Tryd.prog.stoodInHeld 33 = false := by kernel_rfl
theorem held41 : Tryd.prog.stoodInHeld 41 = false := by kernel_rfl
theorem held42 : Tryd.prog.stoodInHeld 42 = false := by kernel_rfl
theorem held44 : Tryd.prog.stoodInHeld 44 = false := by kernel_rfl
theorem held45 : Tryd.prog.stoodInHeld 45 = false := by kernel_rfl
theorem held47 : Tryd.prog.stoodInHeld 47 = false := by kernel_rfl
theorem held51 : Tryd.prog.stoodInHeld 51 = false := by kernel_rfl
theorem held55 : Tryd.prog.stoodInHeld 55 = false := by kernel_rfl
theorem held62 : Tryd.prog.stoodInHeld 62 = false := by kernel_rfl
theorem held65 : Tryd.prog.stoodInHeld 65 = false := by kernel_rfl
def eqTypes : List Nat := [23, 31, 33, 41, 42, 44, 45, 47, 51, 55, 62, 65]
noncomputable def fns : List (FuncId × Func) := [(2, Tryd.f2), (3, Tryd.f3), (4, Tryd.f4), (5, Tryd.f5), (6, Tryd.f6), (7, Tryd.f7), (8, Tryd.f8), (9, Tryd.f9), (10, Tryd.f10), (11, Tryd.f11), (12, Tryd.f12), (13, Tryd.f13), (14, Tryd.f14), (15, Tryd.f15), (16, Tryd.f16), (17, Tryd.f17), (18, Tryd.f18), (19, Tryd.f19), (20, Tryd.f20), (21, Tryd.f21), (22, Tryd.f22), (23, Tryd.f23), (24, Tryd.f24), (25, Tryd.f25), (26, Tryd.f26), (28, Tryd.f28), (29, Tryd.f29), (30, Tryd.f30), (31, Tryd.f31), (32, Tryd.f32), (33, Tryd.f33), (34, Tryd.f34), (37, Tryd.f37), (39, Tryd.f39), (40, Tryd.f40), (62, Tryd.f62)]
noncomputable def T : Tab := { ty := lookT rows, eqOk := memN eqTypes, mg := true, fn := lookF fns }
noncomputable def T0 : Tab := { ty := lookT rows, eqOk := memN eqTypes, fn := lookF fns }
theorem allC {α : Type} {p : α → Prop} {a : α} {l : List α} (h : p a) (h2 : ∀ r ∈ l, p r) : ∀ r ∈ a :: l, p r := by
  intro r hr
  rcases List.mem_cons.1 hr with rfl | hr
  · exact h
  · exact h2 r hr
theorem allN {α : Type} {p : α → Prop} : ∀ r ∈ ([] : List α), p r := fun r hr => by cases hr
theorem hTm (m : Bool) : TabOk Tryd.prog { ty := lookT rows, eqOk := memN eqTypes, mg := m } := by
  refine tabOk_of rows eqTypes ?_ ?_
  · unfold rows
    refine allC ⟨Tryd.underlying3, Tryd.type3⟩ ?_
    refine allC ⟨Tryd.underlying4, Tryd.type4⟩ ?_
    refine allC ⟨Tryd.underlying5, Tryd.type5⟩ ?_
    refine allC ⟨Tryd.underlying9, Tryd.type9⟩ ?_
    refine allC ⟨Tryd.underlying21, Tryd.type21⟩ ?_
    refine allC ⟨Tryd.underlying22, Tryd.type22⟩ ?_
    refine allC ⟨Tryd.underlying23, Tryd.type23⟩ ?_
    refine allC ⟨Tryd.underlying25, Tryd.type25⟩ ?_
    refine allC ⟨Tryd.underlying31, Tryd.type31⟩ ?_
    refine allC ⟨Tryd.underlying33, Tryd.type33⟩ ?_
    refine allC ⟨Tryd.underlying38, Tryd.type38⟩ ?_
    refine allC ⟨Tryd.underlying41, Tryd.type41⟩ ?_
    refine allC ⟨Tryd.underlying42, Tryd.type42⟩ ?_
    refine allC ⟨Tryd.underlying44, Tryd.type44⟩ ?_
    refine allC ⟨Tryd.underlying45, Tryd.type45⟩ ?_
    refine allC ⟨Tryd.underlying47, Tryd.type47⟩ ?_
    refine allC ⟨Tryd.underlying49, Tryd.type49⟩ ?_
    refine allC ⟨Tryd.underlying50, Tryd.type50⟩ ?_
    refine allC ⟨Tryd.underlying51, Tryd.type51⟩ ?_
    refine allC ⟨Tryd.underlying54, Tryd.type54⟩ ?_
    refine allC ⟨Tryd.underlying55, Tryd.type55⟩ ?_
    refine allC ⟨Tryd.underlying59, Tryd.type59⟩ ?_
    refine allC ⟨Tryd.underlying62, Tryd.type62⟩ ?_
    refine allC ⟨Tryd.underlying65, Tryd.type65⟩ ?_
    exact allN
  · unfold eqTypes
    refine allC ⟨held23, Tryd.eqGuardType23⟩ ?_
    refine allC ⟨held31, Tryd.eqGuardType31⟩ ?_
    refine allC ⟨held33, Tryd.eqGuardType33⟩ ?_
    refine allC ⟨held41, Tryd.eqGuardType41⟩ ?_
    refine allC ⟨held42, Tryd.eqGuardType42⟩ ?_
    refine allC ⟨held44, Tryd.eqGuardType44⟩ ?_
    refine allC ⟨held45, Tryd.eqGuardType45⟩ ?_
    refine allC ⟨held47, Tryd.eqGuardType47⟩ ?_
    refine allC ⟨held51, Tryd.eqGuardType51⟩ ?_
    refine allC ⟨held55, Tryd.eqGuardType55⟩ ?_
    refine allC ⟨held62, Tryd.eqGuardType62⟩ ?_
    refine allC ⟨held65, Tryd.eqGuardType65⟩ ?_
    exact allN
theorem hFns : ∀ r ∈ fns, Tryd.prog.funcs[r.1]? = some r.2 ∧ ∀ (vs : Array Value) (w : World), (callFunc r.1 vs).run Tryd.prog w = .ok (.enter r.1 vs) w := by
  unfold fns
  refine allC ⟨Tryd.func2, Tryd.call2⟩ ?_
  refine allC ⟨Tryd.func3, Tryd.call3⟩ ?_
  refine allC ⟨Tryd.func4, Tryd.call4⟩ ?_
  refine allC ⟨Tryd.func5, Tryd.call5⟩ ?_
  refine allC ⟨Tryd.func6, Tryd.call6⟩ ?_
  refine allC ⟨Tryd.func7, Tryd.call7⟩ ?_
  refine allC ⟨Tryd.func8, Tryd.call8⟩ ?_
  refine allC ⟨Tryd.func9, Tryd.call9⟩ ?_
  refine allC ⟨Tryd.func10, Tryd.call10⟩ ?_
  refine allC ⟨Tryd.func11, Tryd.call11⟩ ?_
  refine allC ⟨Tryd.func12, Tryd.call12⟩ ?_
  refine allC ⟨Tryd.func13, Tryd.call13⟩ ?_
  refine allC ⟨Tryd.func14, Tryd.call14⟩ ?_
  refine allC ⟨Tryd.func15, Tryd.call15⟩ ?_
  refine allC ⟨Tryd.func16, Tryd.call16⟩ ?_
  refine allC ⟨Tryd.func17, Tryd.call17⟩ ?_
  refine allC ⟨Tryd.func18, Tryd.call18⟩ ?_
  refine allC ⟨Tryd.func19, Tryd.call19⟩ ?_
  refine allC ⟨Tryd.func20, Tryd.call20⟩ ?_
  refine allC ⟨Tryd.func21, Tryd.call21⟩ ?_
  refine allC ⟨Tryd.func22, Tryd.call22⟩ ?_
  refine allC ⟨Tryd.func23, Tryd.call23⟩ ?_
  refine allC ⟨Tryd.func24, Tryd.call24⟩ ?_
  refine allC ⟨Tryd.func25, Tryd.call25⟩ ?_
  refine allC ⟨Tryd.func26, Tryd.call26⟩ ?_
  refine allC ⟨Tryd.func28, Tryd.call28⟩ ?_
  refine allC ⟨Tryd.func29, Tryd.call29⟩ ?_
  refine allC ⟨Tryd.func30, Tryd.call30⟩ ?_
  refine allC ⟨Tryd.func31, Tryd.call31⟩ ?_
  refine allC ⟨Tryd.func32, Tryd.call32⟩ ?_
  refine allC ⟨Tryd.func33, Tryd.call33⟩ ?_
  refine allC ⟨Tryd.func34, Tryd.call34⟩ ?_
  refine allC ⟨Tryd.func37, Tryd.call37⟩ ?_
  refine allC ⟨Tryd.func39, Tryd.call39⟩ ?_
  refine allC ⟨Tryd.func40, Tryd.call40⟩ ?_
  refine allC ⟨Tryd.func62, Tryd.call62⟩ ?_
  exact allN
theorem hT : TabOk Tryd.prog T := (hTm true).withFn fun f fn h => hFns _ (lookF_spec fns f fn h)
theorem hT0 : TabOk Tryd.prog T0 := (hTm false).withFn fun f fn h => hFns _ (lookF_spec fns f fn h)
theorem hm : Tryd.prog.follows .mixedOrders = true := by kernel_rfl
end Go.Proofs.YtcfbhlpmhlmekaaDoor
