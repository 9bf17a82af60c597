/-
  What is proved here: the tables of this program (its types), for the abstract evaluator. A text to be imported.
-/
import Derived.Test.YthddkcoflnbjbaaDoorQSimL
import Derived.Test.YthddkcoflnbjbaaDoorRows
namespace Go.Proofs.YthddkcoflnbjbaaDoor
open Sm Go Go.RowKit
set_option maxRecDepth 100000
noncomputable def rows : List TRow := [
  ⟨3, (Go.TypeDesc.int Go.IntKind.i64), Tryd.t3⟩,
  ⟨4, Go.TypeDesc.bool, Tryd.t4⟩,
  ⟨5, (Go.TypeDesc.int Go.IntKind.u8), Tryd.t5⟩,
  ⟨9, Go.TypeDesc.string, Tryd.t9⟩,
  ⟨22, (Go.TypeDesc.slice 25), Tryd.t22⟩,
  ⟨24, (Go.TypeDesc.slice 28), Tryd.t24⟩,
  ⟨25, (Go.TypeDesc.float Go.FloatKind.f64), Tryd.t25⟩,
  ⟨28, (Go.TypeDesc.complex Go.FloatKind.f64), Tryd.t28⟩,
  ⟨29, (Go.TypeDesc.int Go.IntKind.i64), Tryd.t29⟩,
  ⟨41, (Go.TypeDesc.array 8 25), Tryd.t41⟩,
  ⟨45, (Go.TypeDesc.struct #[{ name := "Re", type := 25, offset := 0, embedded := Bool.false, tag := "", pkgPath := "", byteOffset := 0 }, { name := "Im", type := 25, offset := 1, embedded := Bool.false, tag := "", pkgPath := "", byteOffset := 8 }]), Tryd.t45⟩,
  ⟨49, (Go.TypeDesc.slice 45), Tryd.t49⟩,
  ⟨58, (Go.TypeDesc.int Go.IntKind.u64), Tryd.t58⟩,
  ⟨65, (Go.TypeDesc.slice 24), Tryd.t65⟩,
  ⟨71, (Go.TypeDesc.int Go.IntKind.u64), Tryd.t71⟩,
  ⟨78, (Go.TypeDesc.array 6 25), Tryd.t78⟩,
  ⟨81, (Go.TypeDesc.int Go.IntKind.u32), Tryd.t81⟩,
  ⟨83, (Go.TypeDesc.array 20 58), Tryd.t83⟩]
theorem held41 : Tryd.prog.stoodInHeld 41 = false := by kernel_rfl
theorem held78 : Tryd.prog.stoodInHeld 78 = false := by kernel_rfl
theorem held83 : Tryd.prog.stoodInHeld 83 = false := by kernel_rfl
def eqTypes : List Nat := [45, 41, 78, 83]
noncomputable def fns : List (FuncId × Func) := [(2, Tryd.f2), (3, Tryd.f3), (4, Tryd.f4), (5, Tryd.f5), (6, Tryd.f6), (7, Tryd.f7), (8, Tryd.f8), (9, Tryd.f9), (10, Tryd.f10), (11, Tryd.f11), (12, Tryd.f12), (13, Tryd.f13), (14, Tryd.f14), (15, Tryd.f15), (16, Tryd.f16), (17, Tryd.f17), (18, Tryd.f18), (19, Tryd.f19), (20, Tryd.f20), (21, Tryd.f21), (22, Tryd.f22), (23, Tryd.f23), (24, Tryd.f24), (25, Tryd.f25), (26, Tryd.f26), (27, Tryd.f27), (28, Tryd.f28), (29, Tryd.f29), (30, Tryd.f30), (31, Tryd.f31), (32, Tryd.f32), (33, Tryd.f33), (37, Tryd.f37), (38, Tryd.f38), (39, Tryd.f39), (40, Tryd.f40), (41, Tryd.f41), (42, Tryd.f42), (43, Tryd.f43), (44, Tryd.f44), (45, Tryd.f45), (46, Tryd.f46), (47, Tryd.f47), (48, Tryd.f48), (49, Tryd.f49), (50, Tryd.f50), (51, Tryd.f51), (52, Tryd.f52), (53, Tryd.f53), (54, Tryd.f54), (55, Tryd.f55), (56, Tryd.f56), (57, Tryd.f57), (58, Tryd.f58), (59, Tryd.f59), (60, Tryd.f60), (61, Tryd.f61), (62, Tryd.f62), (64, Tryd.f64), (87, Tryd.f87)]
noncomputable def T : Tab := { ty := lookT rows, eqOk := memN eqTypes, mg := true, fn := lookF fns }
noncomputable def T0 : Tab := { ty := lookT rows, eqOk := memN eqTypes, fn := lookF fns }
theorem allC {α : Type} {p : α → Prop} {a : α} {l : List α} (h : p a) (h2 : ∀ r ∈ l, p r) : ∀ r ∈ a :: l, p r := by
  intro r hr
  rcases List.mem_cons.1 hr with rfl | hr
  · exact h
  · exact h2 r hr
theorem allN {α : Type} {p : α → Prop} : ∀ r ∈ ([] : List α), p r := fun r hr => by cases hr
theorem hTm (m : Bool) : TabOk Tryd.prog { ty := lookT rows, eqOk := memN eqTypes, mg := m } := by
  refine tabOk_of rows eqTypes ?_ ?_
  · unfold rows
    refine allC ⟨Tryd.underlying3, Tryd.type3⟩ ?_
    refine allC ⟨Tryd.underlying4, Tryd.type4⟩ ?_
    refine allC ⟨Tryd.underlying5, Tryd.type5⟩ ?_
    refine allC ⟨Tryd.underlying9, Tryd.type9⟩ ?_
    refine allC ⟨Tryd.underlying22, Tryd.type22⟩ ?_
    refine allC ⟨Tryd.underlying24, Tryd.type24⟩ ?_
    refine allC ⟨Tryd.underlying25, Tryd.type25⟩ ?_
    refine allC ⟨Tryd.underlying28, Tryd.type28⟩ ?_
    refine allC ⟨Tryd.underlying29, Tryd.type29⟩ ?_
    refine allC ⟨Tryd.underlying41, Tryd.type41⟩ ?_
    refine allC ⟨Tryd.underlying45, Tryd.type45⟩ ?_
    refine allC ⟨Tryd.underlying49, Tryd.type49⟩ ?_
    refine allC ⟨Tryd.underlying58, Tryd.type58⟩ ?_
    refine allC ⟨Tryd.underlying65, Tryd.type65⟩ ?_
    refine allC ⟨Tryd.underlying71, Tryd.type71⟩ ?_
    refine allC ⟨Tryd.underlying78, Tryd.type78⟩ ?_
    refine allC ⟨Tryd.underlying81, Tryd.type81⟩ ?_
    refine allC ⟨Tryd.underlying83, Tryd.type83⟩ ?_
    exact allN
  · unfold eqTypes
    refine allC ⟨Tryd.stoodInHeld45, Tryd.eqGuardType45⟩ ?_
    refine allC ⟨held41, Tryd.eqGuardType41⟩ ?_
    refine allC ⟨held78, Tryd.eqGuardType78⟩ ?_
    refine allC ⟨held83, Tryd.eqGuardType83⟩ ?_
    exact allN
theorem hFns : ∀ r ∈ fns, Tryd.prog.funcs[r.1]? = some r.2 ∧ ∀ (vs : Array Value) (w : World), (callFunc r.1 vs).run Tryd.prog w = .ok (.enter r.1 vs) w := by
  unfold fns
  refine allC ⟨Tryd.func2, Tryd.call2⟩ ?_
  refine allC ⟨Tryd.func3, Tryd.call3⟩ ?_
  refine allC ⟨Tryd.func4, Tryd.call4⟩ ?_
  refine allC ⟨Tryd.func5, Tryd.call5⟩ ?_
  refine allC ⟨Tryd.func6, Tryd.call6⟩ ?_
  refine allC ⟨Tryd.func7, Tryd.call7⟩ ?_
  refine allC ⟨Tryd.func8, Tryd.call8⟩ ?_
  refine allC ⟨Tryd.func9, Tryd.call9⟩ ?_
  refine allC ⟨Tryd.func10, Tryd.call10⟩ ?_
  refine allC ⟨Tryd.func11, Tryd.call11⟩ ?_
  refine allC ⟨Tryd.func12, Tryd.call12⟩ ?_
  refine allC ⟨Tryd.func13, Tryd.call13⟩ ?_
  refine allC ⟨Tryd.func14, Tryd.call14⟩ ?_
  refine allC ⟨Tryd.func15, Tryd.call15⟩ ?_
  refine allC ⟨Tryd.func16, Tryd.call16⟩ ?_
  refine allC ⟨Tryd.func17, Tryd.call17⟩ ?_
  refine allC ⟨Tryd.func18, Tryd.call18⟩ ?_
  refine allC ⟨Tryd.func19, Tryd.call19⟩ ?_
  refine allC ⟨Tryd.func20, Tryd.call20⟩ ?_
  refine allC ⟨Tryd.func21, Tryd.call21⟩ ?_
  refine allC ⟨Tryd.func22, Tryd.call22⟩ ?_
  refine allC ⟨Tryd.func23, Tryd.call23⟩ ?_
  refine allC ⟨Tryd.func24, Tryd.call24⟩ ?_
  refine allC ⟨Tryd.func25, Tryd.call25⟩ ?_
  refine allC ⟨Tryd.func26, Tryd.call26⟩ ?_
  refine allC ⟨Tryd.func27, Tryd.call27⟩ ?_
  refine allC ⟨Tryd.func28, Tryd.call28⟩ ?_
  refine allC ⟨Tryd.func29, Tryd.call29⟩ ?_
  refine allC ⟨Tryd.func30, Tryd.call30⟩ ?_
  refine allC ⟨Tryd.func31, Tryd.call31⟩ ?_
  refine allC ⟨Tryd.func32, Tryd.call32⟩ ?_
  refine allC ⟨Tryd.func33, Tryd.call33⟩ ?_
  refine allC ⟨Tryd.func37, Tryd.call37⟩ ?_
  refine allC ⟨Tryd.func38, Tryd.call38⟩ ?_
  refine allC ⟨Tryd.func39, Tryd.call39⟩ ?_
  refine allC ⟨Tryd.func40, Tryd.call40⟩ ?_
  refine allC ⟨Tryd.func41, Tryd.call41⟩ ?_
  refine allC ⟨Tryd.func42, Tryd.call42⟩ ?_
  refine allC ⟨Tryd.func43, Tryd.call43⟩ ?_
  refine allC ⟨Tryd.func44, Tryd.call44⟩ ?_
  refine allC ⟨Tryd.func45, Tryd.call45⟩ ?_
  refine allC ⟨Tryd.func46, Tryd.call46⟩ ?_
  refine allC ⟨Tryd.func47, Tryd.call47⟩ ?_
  refine allC ⟨Tryd.func48, Tryd.call48⟩ ?_
  refine allC ⟨Tryd.func49, Tryd.call49⟩ ?_
  refine allC ⟨Tryd.func50, Tryd.call50⟩ ?_
  refine allC ⟨Tryd.func51, Tryd.call51⟩ ?_
  refine allC ⟨Tryd.func52, Tryd.call52⟩ ?_
  refine allC ⟨Tryd.func53, Tryd.call53⟩ ?_
  refine allC ⟨Tryd.func54, Tryd.call54⟩ ?_
  refine allC ⟨Tryd.func55, Tryd.call55⟩ ?_
  refine allC ⟨Tryd.func56, Tryd.call56⟩ ?_
  refine allC ⟨Tryd.func57, Tryd.call57⟩ ?_
  refine allC ⟨Tryd.func58, Tryd.call58⟩ ?_
  refine allC ⟨Tryd.func59, Tryd.call59⟩ ?_
  refine allC ⟨Tryd.func60, Tryd.call60⟩ ?_
  refine allC ⟨Tryd.func61, Tryd.call61⟩ ?_
  refine allC ⟨Tryd.func62, Tryd.call62⟩ ?_
  refine allC ⟨Tryd.func64, Tryd.call64⟩ ?_
  refine allC ⟨Tryd.func87, Tryd.call87⟩ ?_
  exact allN
theorem hT : TabOk Tryd.prog T := (hTm true).withFn fun f fn h => hFns _ (lookF_spec fns f fn h)
theorem hT0 : TabOk Tryd.prog T0 := (hTm false).withFn fun f fn h => hFns _ (lookF_spec fns f fn h)
theorem hm : Tryd.prog.follows .mixedOrders = true := by kernel_rfl
end Go.Proofs.YthddkcoflnbjbaaDoor
