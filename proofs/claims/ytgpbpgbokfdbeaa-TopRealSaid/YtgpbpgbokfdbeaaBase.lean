/-
  What is proved here: the tables of this program (its types), for the abstract evaluator. A text to be imported.
-/
import Derived.Test.YtgpbpgbokfdbeaaSimL
import Derived.Test.YtgpbpgbokfdbeaaRows
namespace Go.Proofs.Ytgpbpgbokfdbeaa
open Sm Go Go.RowKit
set_option maxRecDepth 100000
noncomputable def rows : List TRow := [
  ⟨2, (Go.TypeDesc.int Go.IntKind.i64), Try.t2⟩,
  ⟨3, (Go.TypeDesc.int Go.IntKind.i64), Try.t3⟩,
  ⟨4, Go.TypeDesc.bool, Try.t4⟩,
  ⟨5, (Go.TypeDesc.int Go.IntKind.u8), Try.t5⟩,
  ⟨9, Go.TypeDesc.string, Try.t9⟩,
  ⟨21, (Go.TypeDesc.int Go.IntKind.i32), Try.t21⟩,
  ⟨22, (Go.TypeDesc.slice 21), Try.t22⟩,
  ⟨24, (Go.TypeDesc.array 64 21), Try.t24⟩,
  ⟨26, (Go.TypeDesc.array 64 5), Try.t26⟩,
  ⟨28, (Go.TypeDesc.pointer 24), Try.t28⟩,
  ⟨29, (Go.TypeDesc.float Go.FloatKind.f64), Try.t29⟩,
  ⟨36, (Go.TypeDesc.slice 87), Try.t36⟩,
  ⟨38, (Go.TypeDesc.struct #[{ name := "Kind", type := 5, offset := 0, embedded := Bool.false, tag := "", pkgPath := "", byteOffset := 0 }, { name := "Width", type := 3, offset := 1, embedded := Bool.false, tag := "", pkgPath := "", byteOffset := 8 }, { name := "Height", type := 3, offset := 2, embedded := Bool.false, tag := "", pkgPath := "", byteOffset := 16 }, { name := "Comps", type := 36, offset := 3, embedded := Bool.false, tag := "", pkgPath := "", byteOffset := 24 }]), Try.t38⟩,
  ⟨39, (Go.TypeDesc.int Go.IntKind.u16), Try.t39⟩,
  ⟨40, (Go.TypeDesc.array 64 39), Try.t40⟩,
  ⟨41, (Go.TypeDesc.array 4 40), Try.t41⟩,
  ⟨42, (Go.TypeDesc.slice 75), Try.t42⟩,
  ⟨43, (Go.TypeDesc.slice 93), Try.t43⟩,
  ⟨45, (Go.TypeDesc.struct #[{ name := "Frame", type := 38, offset := 0, embedded := Bool.false, tag := "", pkgPath := "", byteOffset := 0 }, { name := "Quants", type := 41, offset := 4, embedded := Bool.false, tag := "", pkgPath := "", byteOffset := 48 }, { name := "Grids", type := 42, offset := 260, embedded := Bool.false, tag := "", pkgPath := "", byteOffset := 560 }, { name := "Restart", type := 3, offset := 261, embedded := Bool.false, tag := "", pkgPath := "", byteOffset := 584 }, { name := "Extras", type := 43, offset := 262, embedded := Bool.false, tag := "", pkgPath := "", byteOffset := 592 }]), Try.t45⟩,
  ⟨46, (Go.TypeDesc.int Go.IntKind.i8), Try.t46⟩,
  ⟨47, (Go.TypeDesc.int Go.IntKind.i64), Try.t47⟩,
  ⟨56, (Go.TypeDesc.slice 5), Try.t56⟩,
  ⟨58, (Go.TypeDesc.struct #[{ name := "Width", type := 3, offset := 0, embedded := Bool.false, tag := "", pkgPath := "", byteOffset := 0 }, { name := "Height", type := 3, offset := 1, embedded := Bool.false, tag := "", pkgPath := "", byteOffset := 8 }, { name := "Channels", type := 3, offset := 2, embedded := Bool.false, tag := "", pkgPath := "", byteOffset := 16 }, { name := "Pix", type := 56, offset := 3, embedded := Bool.false, tag := "", pkgPath := "", byteOffset := 24 }]), Try.t58⟩,
  ⟨64, (Go.TypeDesc.array 8 3), Try.t64⟩,
  ⟨65, (Go.TypeDesc.array 8 64), Try.t65⟩,
  ⟨67, (Go.TypeDesc.array 64 3), Try.t67⟩,
  ⟨73, (Go.TypeDesc.slice 78), Try.t73⟩,
  ⟨75, (Go.TypeDesc.struct #[{ name := "Wide", type := 3, offset := 0, embedded := Bool.false, tag := "", pkgPath := "", byteOffset := 0 }, { name := "High", type := 3, offset := 1, embedded := Bool.false, tag := "", pkgPath := "", byteOffset := 8 }, { name := "Blocks", type := 73, offset := 2, embedded := Bool.false, tag := "", pkgPath := "", byteOffset := 16 }]), Try.t75⟩,
  ⟨76, (Go.TypeDesc.int Go.IntKind.i16), Try.t76⟩,
  ⟨77, (Go.TypeDesc.array 64 76), Try.t77⟩,
  ⟨78, (Go.TypeDesc.array 64 76), Try.t78⟩,
  ⟨80, (Go.TypeDesc.struct #[{ name := "columns", type := 4, offset := 0, embedded := Bool.false, tag := "", pkgPath := "mosaic/turn", byteOffset := 0 }, { name := "rows", type := 4, offset := 1, embedded := Bool.false, tag := "", pkgPath := "mosaic/turn", byteOffset := 1 }, { name := "exchange", type := 4, offset := 2, embedded := Bool.false, tag := "", pkgPath := "mosaic/turn", byteOffset := 2 }]), Try.t80⟩,
  ⟨87, (Go.TypeDesc.struct #[{ name := "ID", type := 5, offset := 0, embedded := Bool.false, tag := "", pkgPath := "", byteOffset := 0 }, { name := "H", type := 5, offset := 1, embedded := Bool.false, tag := "", pkgPath := "", byteOffset := 1 }, { name := "V", type := 5, offset := 2, embedded := Bool.false, tag := "", pkgPath := "", byteOffset := 2 }, { name := "Quant", type := 5, offset := 3, embedded := Bool.false, tag := "", pkgPath := "", byteOffset := 3 }]), Try.t87⟩,
  ⟨93, (Go.TypeDesc.struct #[{ name := "Code", type := 5, offset := 0, embedded := Bool.false, tag := "", pkgPath := "", byteOffset := 0 }, { name := "Data", type := 9, offset := 1, embedded := Bool.false, tag := "", pkgPath := "", byteOffset := 8 }]), Try.t93⟩,
  ⟨96, (Go.TypeDesc.array 9 80), Try.t96⟩,
  ⟨99, (Go.TypeDesc.slice 80), Try.t99⟩,
  ⟨103, (Go.TypeDesc.slice 56), Try.t103⟩,
  ⟨104, (Go.TypeDesc.pointer 141), Try.t104⟩,
  ⟨113, (Go.TypeDesc.array 4 5), Try.t113⟩,
  ⟨117, (Go.TypeDesc.slice 29), Try.t117⟩,
  ⟨122, (Go.TypeDesc.array 64 46), Try.t122⟩,
  ⟨124, (Go.TypeDesc.slice 126), Try.t124⟩,
  ⟨136, (Go.TypeDesc.pointer 40), Try.t136⟩,
  ⟨141, (Go.TypeDesc.struct #[{ name := "wide", type := 3, offset := 0, embedded := Bool.false, tag := "", pkgPath := "mosaic/plane", byteOffset := 0 }, { name := "high", type := 3, offset := 1, embedded := Bool.false, tag := "", pkgPath := "mosaic/plane", byteOffset := 8 }, { name := "pix", type := 56, offset := 2, embedded := Bool.false, tag := "", pkgPath := "mosaic/plane", byteOffset := 16 }]), Try.t141⟩,
  ⟨144, (Go.TypeDesc.array 9 3), Try.t144⟩,
  ⟨148, (Go.TypeDesc.pointer 78), Try.t148⟩,
  ⟨149, (Go.TypeDesc.slice 4), Try.t149⟩,
  ⟨154, (Go.TypeDesc.array 64 2), Try.t154⟩,
  ⟨162, (Go.TypeDesc.pointer 77), Try.t162⟩]
theorem held24 : Try.prog.stoodInHeld 24 = false := by kernel_rfl
theorem held26 : Try.prog.stoodInHeld 26 = false := by kernel_rfl
theorem held40 : Try.prog.stoodInHeld 40 = false := by kernel_rfl
theorem held41 : Try.prog.stoodInHeld 41 = false := by kernel_rfl
theorem held64 : Try.prog.stoodInHeld 64 = false := by kernel_rfl
theorem held65 : Try.prog.stoodInHeld 65 = false := by kernel_rfl
theorem held67 : Try.prog.stoodInHeld 67 = false := by kernel_rfl
theorem held77 : Try.prog.stoodInHeld 77 = false := by kernel_rfl
theorem held78 : Try.prog.stoodInHeld 78 = false := by kernel_rfl
theorem held96 : Try.prog.stoodInHeld 96 = false := by kernel_rfl
theorem held113 : Try.prog.stoodInHeld 113 = false := by kernel_rfl
theorem held122 : Try.prog.stoodInHeld 122 = false := by kernel_rfl
theorem held144 : Try.prog.stoodInHeld 144 = false := by kernel_rfl
theorem held154 : Try.prog.stoodInHeld 154 = false := by kernel_rfl
def eqTypes : List Nat := [38, 45, 58, 75, 80, 87, 93, 141, 24, 26, 40, 41, 64, 65, 67, 77, 78, 96, 113, 122, 144, 154]
noncomputable def fns : List (FuncId × Func) := [(3, Try.f3), (4, Try.f4), (5, Try.f5), (6, Try.f6), (7, Try.f7), (8, Try.f8), (9, Try.f9), (10, Try.f10), (11, Try.f11), (12, Try.f12), (13, Try.f13), (14, Try.f14), (15, Try.f15), (16, Try.f16), (17, Try.f17), (18, Try.f18), (19, Try.f19), (20, Try.f20), (21, Try.f21), (22, Try.f22), (23, Try.f23), (24, Try.f24), (25, Try.f25), (26, Try.f26), (27, Try.f27), (28, Try.f28), (29, Try.f29), (30, Try.f30), (31, Try.f31), (32, Try.f32), (33, Try.f33), (34, Try.f34), (35, Try.f35), (36, Try.f36), (37, Try.f37), (38, Try.f38), (39, Try.f39), (40, Try.f40), (41, Try.f41), (42, Try.f42), (43, Try.f43), (44, Try.f44), (45, Try.f45), (46, Try.f46), (47, Try.f47), (48, Try.f48), (49, Try.f49), (50, Try.f50), (51, Try.f51), (52, Try.f52), (53, Try.f53), (54, Try.f54), (55, Try.f55), (56, Try.f56), (57, Try.f57), (58, Try.f58), (59, Try.f59), (60, Try.f60), (61, Try.f61), (62, Try.f62), (63, Try.f63), (64, Try.f64), (65, Try.f65), (66, Try.f66), (67, Try.f67), (68, Try.f68), (69, Try.f69), (70, Try.f70), (71, Try.f71), (72, Try.f72), (73, Try.f73), (74, Try.f74), (75, Try.f75), (76, Try.f76), (77, Try.f77), (79, Try.f79), (80, Try.f80), (81, Try.f81), (82, Try.f82), (83, Try.f83), (84, Try.f84), (85, Try.f85), (86, Try.f86), (87, Try.f87), (88, Try.f88), (89, Try.f89), (90, Try.f90), (91, Try.f91), (92, Try.f92), (93, Try.f93), (94, Try.f94), (95, Try.f95), (96, Try.f96), (97, Try.f97), (98, Try.f98), (99, Try.f99), (100, Try.f100), (101, Try.f101), (102, Try.f102), (103, Try.f103)]
noncomputable def T : Tab := { ty := lookT rows, eqOk := memN eqTypes, mg := true, fn := lookF fns }
noncomputable def T0 : Tab := { ty := lookT rows, eqOk := memN eqTypes, fn := lookF fns }
theorem allC {α : Type} {p : α → Prop} {a : α} {l : List α} (h : p a) (h2 : ∀ r ∈ l, p r) : ∀ r ∈ a :: l, p r := by
  intro r hr
  rcases List.mem_cons.1 hr with rfl | hr
  · exact h
  · exact h2 r hr
theorem allN {α : Type} {p : α → Prop} : ∀ r ∈ ([] : List α), p r := fun r hr => by cases hr
theorem hTm (m : Bool) : TabOk Try.prog { ty := lookT rows, eqOk := memN eqTypes, mg := m } := by
  refine tabOk_of rows eqTypes ?_ ?_
  · unfold rows
    refine allC ⟨Try.underlying2, Try.type2⟩ ?_
    refine allC ⟨Try.underlying3, Try.type3⟩ ?_
    refine allC ⟨Try.underlying4, Try.type4⟩ ?_
    refine allC ⟨Try.underlying5, Try.type5⟩ ?_
    refine allC ⟨Try.underlying9, Try.type9⟩ ?_
    refine allC ⟨Try.underlying21, Try.type21⟩ ?_
    refine allC ⟨Try.underlying22, Try.type22⟩ ?_
    refine allC ⟨Try.underlying24, Try.type24⟩ ?_
    refine allC ⟨Try.underlying26, Try.type26⟩ ?_
    refine allC ⟨Try.underlying28, Try.type28⟩ ?_
    refine allC ⟨Try.underlying29, Try.type29⟩ ?_
    refine allC ⟨Try.underlying36, Try.type36⟩ ?_
    refine allC ⟨Try.underlying38, Try.type38⟩ ?_
    refine allC ⟨Try.underlying39, Try.type39⟩ ?_
    refine allC ⟨Try.underlying40, Try.type40⟩ ?_
    refine allC ⟨Try.underlying41, Try.type41⟩ ?_
    refine allC ⟨Try.underlying42, Try.type42⟩ ?_
    refine allC ⟨Try.underlying43, Try.type43⟩ ?_
    refine allC ⟨Try.underlying45, Try.type45⟩ ?_
    refine allC ⟨Try.underlying46, Try.type46⟩ ?_
    refine allC ⟨Try.underlying47, Try.type47⟩ ?_
    refine allC ⟨Try.underlying56, Try.type56⟩ ?_
    refine allC ⟨Try.underlying58, Try.type58⟩ ?_
    refine allC ⟨Try.underlying64, Try.type64⟩ ?_
    refine allC ⟨Try.underlying65, Try.type65⟩ ?_
    refine allC ⟨Try.underlying67, Try.type67⟩ ?_
    refine allC ⟨Try.underlying73, Try.type73⟩ ?_
    refine allC ⟨Try.underlying75, Try.type75⟩ ?_
    refine allC ⟨Try.underlying76, Try.type76⟩ ?_
    refine allC ⟨Try.underlying77, Try.type77⟩ ?_
    refine allC ⟨Try.underlying78, Try.type78⟩ ?_
    refine allC ⟨Try.underlying80, Try.type80⟩ ?_
    refine allC ⟨Try.underlying87, Try.type87⟩ ?_
    refine allC ⟨Try.underlying93, Try.type93⟩ ?_
    refine allC ⟨Try.underlying96, Try.type96⟩ ?_
    refine allC ⟨Try.underlying99, Try.type99⟩ ?_
    refine allC ⟨Try.underlying103, Try.type103⟩ ?_
    refine allC ⟨Try.underlying104, Try.type104⟩ ?_
    refine allC ⟨Try.underlying113, Try.type113⟩ ?_
    refine allC ⟨Try.underlying117, Try.type117⟩ ?_
    refine allC ⟨Try.underlying122, Try.type122⟩ ?_
    refine allC ⟨Try.underlying124, Try.type124⟩ ?_
    refine allC ⟨Try.underlying136, Try.type136⟩ ?_
    refine allC ⟨Try.underlying141, Try.type141⟩ ?_
    refine allC ⟨Try.underlying144, Try.type144⟩ ?_
    refine allC ⟨Try.underlying148, Try.type148⟩ ?_
    refine allC ⟨Try.underlying149, Try.type149⟩ ?_
    refine allC ⟨Try.underlying154, Try.type154⟩ ?_
    refine allC ⟨Try.underlying162, Try.type162⟩ ?_
    exact allN
  · unfold eqTypes
    refine allC ⟨Try.stoodInHeld38, Try.eqGuardType38⟩ ?_
    refine allC ⟨Try.stoodInHeld45, Try.eqGuardType45⟩ ?_
    refine allC ⟨Try.stoodInHeld58, Try.eqGuardType58⟩ ?_
    refine allC ⟨Try.stoodInHeld75, Try.eqGuardType75⟩ ?_
    refine allC ⟨Try.stoodInHeld80, Try.eqGuardType80⟩ ?_
    refine allC ⟨Try.stoodInHeld87, Try.eqGuardType87⟩ ?_
    refine allC ⟨Try.stoodInHeld93, Try.eqGuardType93⟩ ?_
    refine allC ⟨Try.stoodInHeld141, Try.eqGuardType141⟩ ?_
    refine allC ⟨held24, Try.eqGuardType24⟩ ?_
    refine allC ⟨held26, Try.eqGuardType26⟩ ?_
    refine allC ⟨held40, Try.eqGuardType40⟩ ?_
    refine allC ⟨held41, Try.eqGuardType41⟩ ?_
    refine allC ⟨held64, Try.eqGuardType64⟩ ?_
    refine allC ⟨held65, Try.eqGuardType65⟩ ?_
    refine allC ⟨held67, Try.eqGuardType67⟩ ?_
    refine allC ⟨held77, Try.eqGuardType77⟩ ?_
    refine allC ⟨held78, Try.eqGuardType78⟩ ?_
    refine allC ⟨held96, Try.eqGuardType96⟩ ?_
    refine allC ⟨held113, Try.eqGuardType113⟩ ?_
    refine allC ⟨held122, Try.eqGuardType122⟩ ?_
    refine allC ⟨held144, Try.eqGuardType144⟩ ?_
    refine allC ⟨held154, Try.eqGuardType154⟩ ?_
    exact allN
theorem hFns : ∀ r ∈ fns, Try.prog.funcs[r.1]? = some r.2 ∧ ∀ (vs : Array Value) (w : World), (callFunc r.1 vs).run Try.prog w = .ok (.enter r.1 vs) w := by
  unfold fns
  refine allC ⟨Try.func3, Try.call3⟩ ?_
  refine allC ⟨Try.func4, Try.call4⟩ ?_
  refine allC ⟨Try.func5, Try.call5⟩ ?_
  refine allC ⟨Try.func6, Try.call6⟩ ?_
  refine allC ⟨Try.func7, Try.call7⟩ ?_
  refine allC ⟨Try.func8, Try.call8⟩ ?_
  refine allC ⟨Try.func9, Try.call9⟩ ?_
  refine allC ⟨Try.func10, Try.call10⟩ ?_
  refine allC ⟨Try.func11, Try.call11⟩ ?_
  refine allC ⟨Try.func12, Try.call12⟩ ?_
  refine allC ⟨Try.func13, Try.call13⟩ ?_
  refine allC ⟨Try.func14, Try.call14⟩ ?_
  refine allC ⟨Try.func15, Try.call15⟩ ?_
  refine allC ⟨Try.func16, Try.call16⟩ ?_
  refine allC ⟨Try.func17, Try.call17⟩ ?_
  refine allC ⟨Try.func18, Try.call18⟩ ?_
  refine allC ⟨Try.func19, Try.call19⟩ ?_
  refine allC ⟨Try.func20, Try.call20⟩ ?_
  refine allC ⟨Try.func21, Try.call21⟩ ?_
  refine allC ⟨Try.func22, Try.call22⟩ ?_
  refine allC ⟨Try.func23, Try.call23⟩ ?_
  refine allC ⟨Try.func24, Try.call24⟩ ?_
  refine allC ⟨Try.func25, Try.call25⟩ ?_
  refine allC ⟨Try.func26, Try.call26⟩ ?_
  refine allC ⟨Try.func27, Try.call27⟩ ?_
  refine allC ⟨Try.func28, Try.call28⟩ ?_
  refine allC ⟨Try.func29, Try.call29⟩ ?_
  refine allC ⟨Try.func30, Try.call30⟩ ?_
  refine allC ⟨Try.func31, Try.call31⟩ ?_
  refine allC ⟨Try.func32, Try.call32⟩ ?_
  refine allC ⟨Try.func33, Try.call33⟩ ?_
  refine allC ⟨Try.func34, Try.call34⟩ ?_
  refine allC ⟨Try.func35, Try.call35⟩ ?_
  refine allC ⟨Try.func36, Try.call36⟩ ?_
  refine allC ⟨Try.func37, Try.call37⟩ ?_
  refine allC ⟨Try.func38, Try.call38⟩ ?_
  refine allC ⟨Try.func39, Try.call39⟩ ?_
  refine allC ⟨Try.func40, Try.call40⟩ ?_
  refine allC ⟨Try.func41, Try.call41⟩ ?_
  refine allC ⟨Try.func42, Try.call42⟩ ?_
  refine allC ⟨Try.func43, Try.call43⟩ ?_
  refine allC ⟨Try.func44, Try.call44⟩ ?_
  refine allC ⟨Try.func45, Try.call45⟩ ?_
  refine allC ⟨Try.func46, Try.call46⟩ ?_
  refine allC ⟨Try.func47, Try.call47⟩ ?_
  refine allC ⟨Try.func48, Try.call48⟩ ?_
  refine allC ⟨Try.func49, Try.call49⟩ ?_
  refine allC ⟨Try.func50, Try.call50⟩ ?_
  refine allC ⟨Try.func51, Try.call51⟩ ?_
  refine allC ⟨Try.func52, Try.call52⟩ ?_
  refine allC ⟨Try.func53, Try.call53⟩ ?_
  refine allC ⟨Try.func54, Try.call54⟩ ?_
  refine allC ⟨Try.func55, Try.call55⟩ ?_
  refine allC ⟨Try.func56, Try.call56⟩ ?_
  refine allC ⟨Try.func57, Try.call57⟩ ?_
  refine allC ⟨Try.func58, Try.call58⟩ ?_
  refine allC ⟨Try.func59, Try.call59⟩ ?_
  refine allC ⟨Try.func60, Try.call60⟩ ?_
  refine allC ⟨Try.func61, Try.call61⟩ ?_
  refine allC ⟨Try.func62, Try.call62⟩ ?_
  refine allC ⟨Try.func63, Try.call63⟩ ?_
  refine allC ⟨Try.func64, Try.call64⟩ ?_
  refine allC ⟨Try.func65, Try.call65⟩ ?_
  refine allC ⟨Try.func66, Try.call66⟩ ?_
  refine allC ⟨Try.func67, Try.call67⟩ ?_
  refine allC ⟨Try.func68, Try.call68⟩ ?_
  refine allC ⟨Try.func69, Try.call69⟩ ?_
  refine allC ⟨Try.func70, Try.call70⟩ ?_
  refine allC ⟨Try.func71, Try.call71⟩ ?_
  refine allC ⟨Try.func72, Try.call72⟩ ?_
  refine allC ⟨Try.func73, Try.call73⟩ ?_
  refine allC ⟨Try.func74, Try.call74⟩ ?_
  refine allC ⟨Try.func75, Try.call75⟩ ?_
  refine allC ⟨Try.func76, Try.call76⟩ ?_
  refine allC ⟨Try.func77, Try.call77⟩ ?_
  refine allC ⟨Try.func79, Try.call79⟩ ?_
  refine allC ⟨Try.func80, Try.call80⟩ ?_
  refine allC ⟨Try.func81, Try.call81⟩ ?_
  refine allC ⟨Try.func82, Try.call82⟩ ?_
  refine allC ⟨Try.func83, Try.call83⟩ ?_
  refine allC ⟨Try.func84, Try.call84⟩ ?_
  refine allC ⟨Try.func85, Try.call85⟩ ?_
  refine allC ⟨Try.func86, Try.call86⟩ ?_
  refine allC ⟨Try.func87, Try.call87⟩ ?_
  refine allC ⟨Try.func88, Try.call88⟩ ?_
  refine allC ⟨Try.func89, Try.call89⟩ ?_
  refine allC ⟨Try.func90, Try.call90⟩ ?_
  refine allC ⟨Try.func91, Try.call91⟩ ?_
  refine allC ⟨Try.func92, Try.call92⟩ ?_
  refine allC ⟨Try.func93, Try.call93⟩ ?_
  refine allC ⟨Try.func94, Try.call94⟩ ?_
  refine allC ⟨Try.func95, Try.call95⟩ ?_
  refine allC ⟨Try.func96, Try.call96⟩ ?_
  refine allC ⟨Try.func97, Try.call97⟩ ?_
  refine allC ⟨Try.func98, Try.call98⟩ ?_
  refine allC ⟨Try.func99, Try.call99⟩ ?_
  refine allC ⟨Try.func100, Try.call100⟩ ?_
  refine allC ⟨Try.func101, Try.call101⟩ ?_
  refine allC ⟨Try.func102, Try.call102⟩ ?_
  refine allC ⟨Try.func103, Try.call103⟩ ?_
  exact allN
theorem hT : TabOk Try.prog T := (hTm true).withFn fun f fn h => hFns _ (lookF_spec fns f fn h)
theorem hT0 : TabOk Try.prog T0 := (hTm false).withFn fun f fn h => hFns _ (lookF_spec fns f fn h)
theorem hm : Try.prog.follows .mixedOrders = true := by kernel_rfl
end Go.Proofs.Ytgpbpgbokfdbeaa
