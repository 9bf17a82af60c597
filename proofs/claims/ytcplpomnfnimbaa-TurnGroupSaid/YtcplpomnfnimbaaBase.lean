/-
  What is proved here: the tables of this program (its types), for the abstract evaluator. A text to be imported.
-/
import Derived.Test.YtcplpomnfnimbaaSimL
import Derived.Test.YtcplpomnfnimbaaRows
namespace Go.Proofs.Ytcplpomnfnimbaa
open Sm Go Go.RowKit
set_option maxRecDepth 100000
noncomputable def rows : List TRow := [
  ⟨2, (Go.TypeDesc.int Go.IntKind.i64), Try.t2⟩,
  ⟨3, (Go.TypeDesc.int Go.IntKind.i64), Try.t3⟩,
  ⟨4, Go.TypeDesc.bool, Try.t4⟩,
  ⟨5, (Go.TypeDesc.int Go.IntKind.u8), Try.t5⟩,
  ⟨9, Go.TypeDesc.string, Try.t9⟩,
  ⟨21, (Go.TypeDesc.int Go.IntKind.i32), Try.t21⟩,
  ⟨22, (Go.TypeDesc.int Go.IntKind.i8), Try.t22⟩,
  ⟨25, (Go.TypeDesc.slice 5), Try.t25⟩,
  ⟨27, (Go.TypeDesc.struct #[{ name := "Width", type := 3, offset := 0, embedded := Bool.false, tag := "", pkgPath := "", byteOffset := 0 }, { name := "Height", type := 3, offset := 1, embedded := Bool.false, tag := "", pkgPath := "", byteOffset := 8 }, { name := "Channels", type := 3, offset := 2, embedded := Bool.false, tag := "", pkgPath := "", byteOffset := 16 }, { name := "Pix", type := 25, offset := 3, embedded := Bool.false, tag := "", pkgPath := "", byteOffset := 24 }]), Try.t27⟩,
  ⟨28, (Go.TypeDesc.int Go.IntKind.i64), Try.t28⟩,
  ⟨33, (Go.TypeDesc.slice 60), Try.t33⟩,
  ⟨35, (Go.TypeDesc.struct #[{ name := "Kind", type := 5, offset := 0, embedded := Bool.false, tag := "", pkgPath := "", byteOffset := 0 }, { name := "Width", type := 3, offset := 1, embedded := Bool.false, tag := "", pkgPath := "", byteOffset := 8 }, { name := "Height", type := 3, offset := 2, embedded := Bool.false, tag := "", pkgPath := "", byteOffset := 16 }, { name := "Comps", type := 33, offset := 3, embedded := Bool.false, tag := "", pkgPath := "", byteOffset := 24 }]), Try.t35⟩,
  ⟨36, (Go.TypeDesc.int Go.IntKind.u16), Try.t36⟩,
  ⟨37, (Go.TypeDesc.array 64 36), Try.t37⟩,
  ⟨38, (Go.TypeDesc.array 4 37), Try.t38⟩,
  ⟨39, (Go.TypeDesc.slice 84), Try.t39⟩,
  ⟨40, (Go.TypeDesc.slice 95), Try.t40⟩,
  ⟨42, (Go.TypeDesc.struct #[{ name := "Frame", type := 35, offset := 0, embedded := Bool.false, tag := "", pkgPath := "", byteOffset := 0 }, { name := "Quants", type := 38, offset := 4, embedded := Bool.false, tag := "", pkgPath := "", byteOffset := 48 }, { name := "Grids", type := 39, offset := 260, embedded := Bool.false, tag := "", pkgPath := "", byteOffset := 560 }, { name := "Restart", type := 3, offset := 261, embedded := Bool.false, tag := "", pkgPath := "", byteOffset := 584 }, { name := "Extras", type := 40, offset := 262, embedded := Bool.false, tag := "", pkgPath := "", byteOffset := 592 }]), Try.t42⟩,
  ⟨45, (Go.TypeDesc.struct #[{ name := "X", type := 3, offset := 0, embedded := Bool.false, tag := "", pkgPath := "", byteOffset := 0 }, { name := "Y", type := 3, offset := 1, embedded := Bool.false, tag := "", pkgPath := "", byteOffset := 8 }, { name := "Wide", type := 3, offset := 2, embedded := Bool.false, tag := "", pkgPath := "", byteOffset := 16 }, { name := "High", type := 3, offset := 3, embedded := Bool.false, tag := "", pkgPath := "", byteOffset := 24 }]), Try.t45⟩,
  ⟨60, (Go.TypeDesc.struct #[{ name := "ID", type := 5, offset := 0, embedded := Bool.false, tag := "", pkgPath := "", byteOffset := 0 }, { name := "H", type := 5, offset := 1, embedded := Bool.false, tag := "", pkgPath := "", byteOffset := 1 }, { name := "V", type := 5, offset := 2, embedded := Bool.false, tag := "", pkgPath := "", byteOffset := 2 }, { name := "Quant", type := 5, offset := 3, embedded := Bool.false, tag := "", pkgPath := "", byteOffset := 3 }]), Try.t60⟩,
  ⟨62, (Go.TypeDesc.pointer 110), Try.t62⟩,
  ⟨67, (Go.TypeDesc.struct #[{ name := "columns", type := 4, offset := 0, embedded := Bool.false, tag := "", pkgPath := "mosaic/turn", byteOffset := 0 }, { name := "rows", type := 4, offset := 1, embedded := Bool.false, tag := "", pkgPath := "mosaic/turn", byteOffset := 1 }, { name := "exchange", type := 4, offset := 2, embedded := Bool.false, tag := "", pkgPath := "mosaic/turn", byteOffset := 2 }]), Try.t67⟩,
  ⟨70, (Go.TypeDesc.array 9 67), Try.t70⟩,
  ⟨73, (Go.TypeDesc.slice 67), Try.t73⟩,
  ⟨82, (Go.TypeDesc.slice 87), Try.t82⟩,
  ⟨84, (Go.TypeDesc.struct #[{ name := "Wide", type := 3, offset := 0, embedded := Bool.false, tag := "", pkgPath := "", byteOffset := 0 }, { name := "High", type := 3, offset := 1, embedded := Bool.false, tag := "", pkgPath := "", byteOffset := 8 }, { name := "Blocks", type := 82, offset := 2, embedded := Bool.false, tag := "", pkgPath := "", byteOffset := 16 }]), Try.t84⟩,
  ⟨85, (Go.TypeDesc.int Go.IntKind.i16), Try.t85⟩,
  ⟨86, (Go.TypeDesc.array 64 85), Try.t86⟩,
  ⟨87, (Go.TypeDesc.array 64 85), Try.t87⟩,
  ⟨95, (Go.TypeDesc.struct #[{ name := "Code", type := 5, offset := 0, embedded := Bool.false, tag := "", pkgPath := "", byteOffset := 0 }, { name := "Data", type := 9, offset := 1, embedded := Bool.false, tag := "", pkgPath := "", byteOffset := 8 }]), Try.t95⟩,
  ⟨97, (Go.TypeDesc.slice 25), Try.t97⟩,
  ⟨104, (Go.TypeDesc.array 4 5), Try.t104⟩,
  ⟨110, (Go.TypeDesc.struct #[{ name := "wide", type := 3, offset := 0, embedded := Bool.false, tag := "", pkgPath := "mosaic/plane", byteOffset := 0 }, { name := "high", type := 3, offset := 1, embedded := Bool.false, tag := "", pkgPath := "mosaic/plane", byteOffset := 8 }, { name := "pix", type := 25, offset := 2, embedded := Bool.false, tag := "", pkgPath := "mosaic/plane", byteOffset := 16 }]), Try.t110⟩,
  ⟨111, (Go.TypeDesc.slice 82), Try.t111⟩,
  ⟨114, (Go.TypeDesc.array 64 22), Try.t114⟩,
  ⟨117, (Go.TypeDesc.slice 119), Try.t117⟩,
  ⟨119, (Go.TypeDesc.func #[87] #[87] Bool.false), Try.t119⟩,
  ⟨124, (Go.TypeDesc.array 64 21), Try.t124⟩,
  ⟨126, (Go.TypeDesc.pointer 37), Try.t126⟩,
  ⟨127, (Go.TypeDesc.array 64 5), Try.t127⟩,
  ⟨129, (Go.TypeDesc.pointer 124), Try.t129⟩,
  ⟨139, (Go.TypeDesc.pointer 87), Try.t139⟩,
  ⟨140, (Go.TypeDesc.array 64 3), Try.t140⟩,
  ⟨144, (Go.TypeDesc.slice 4), Try.t144⟩,
  ⟨149, (Go.TypeDesc.array 64 2), Try.t149⟩,
  ⟨151, (Go.TypeDesc.array 8 3), Try.t151⟩,
  ⟨152, (Go.TypeDesc.array 8 151), Try.t152⟩,
  ⟨155, (Go.TypeDesc.func #[95] #[4] Bool.false), Try.t155⟩,
  ⟨163, (Go.TypeDesc.pointer 86), Try.t163⟩,
  ⟨169, (Go.TypeDesc.array 9 3), Try.t169⟩]
theorem held37 : Try.prog.stoodInHeld 37 = false := by kernel_rfl
theorem held38 : Try.prog.stoodInHeld 38 = false := by kernel_rfl
theorem held70 : Try.prog.stoodInHeld 70 = false := by kernel_rfl
theorem held86 : Try.prog.stoodInHeld 86 = false := by kernel_rfl
theorem held87 : Try.prog.stoodInHeld 87 = false := by kernel_rfl
theorem held104 : Try.prog.stoodInHeld 104 = false := by kernel_rfl
theorem held114 : Try.prog.stoodInHeld 114 = false := by kernel_rfl
theorem held124 : Try.prog.stoodInHeld 124 = false := by kernel_rfl
theorem held127 : Try.prog.stoodInHeld 127 = false := by kernel_rfl
theorem held140 : Try.prog.stoodInHeld 140 = false := by kernel_rfl
theorem held149 : Try.prog.stoodInHeld 149 = false := by kernel_rfl
theorem held151 : Try.prog.stoodInHeld 151 = false := by kernel_rfl
theorem held152 : Try.prog.stoodInHeld 152 = false := by kernel_rfl
theorem held169 : Try.prog.stoodInHeld 169 = false := by kernel_rfl
def eqTypes : List Nat := [27, 35, 42, 45, 60, 67, 84, 95, 110, 37, 38, 70, 86, 87, 104, 114, 124, 127, 140, 149, 151, 152, 169]
noncomputable def fns : List (FuncId × Func) := [(2, Try.f2), (3, Try.f3), (4, Try.f4), (5, Try.f5), (6, Try.f6), (7, Try.f7), (8, Try.f8), (9, Try.f9), (10, Try.f10), (11, Try.f11), (12, Try.f12), (13, Try.f13), (14, Try.f14), (15, Try.f15), (16, Try.f16), (17, Try.f17), (18, Try.f18), (19, Try.f19), (20, Try.f20), (21, Try.f21), (22, Try.f22), (23, Try.f23), (24, Try.f24), (25, Try.f25), (26, Try.f26), (27, Try.f27), (28, Try.f28), (29, Try.f29), (30, Try.f30), (31, Try.f31), (32, Try.f32), (33, Try.f33), (34, Try.f34), (35, Try.f35), (36, Try.f36), (37, Try.f37), (38, Try.f38), (39, Try.f39), (40, Try.f40), (41, Try.f41), (42, Try.f42), (43, Try.f43), (44, Try.f44), (45, Try.f45), (46, Try.f46), (47, Try.f47), (48, Try.f48), (49, Try.f49), (50, Try.f50), (51, Try.f51), (52, Try.f52), (53, Try.f53), (54, Try.f54), (55, Try.f55), (56, Try.f56), (57, Try.f57), (58, Try.f58), (59, Try.f59), (60, Try.f60), (61, Try.f61), (62, Try.f62), (63, Try.f63), (64, Try.f64), (65, Try.f65), (66, Try.f66), (67, Try.f67), (68, Try.f68), (69, Try.f69), (70, Try.f70), (71, Try.f71), (72, Try.f72), (73, Try.f73), (74, Try.f74), (75, Try.f75), (76, Try.f76), (77, Try.f77), (78, Try.f78), (79, Try.f79), (80, Try.f80), (81, Try.f81), (82, Try.f82), (83, Try.f83), (84, Try.f84), (85, Try.f85), (86, Try.f86), (87, Try.f87), (88, Try.f88), (89, Try.f89), (90, Try.f90), (91, Try.f91), (92, Try.f92), (93, Try.f93), (94, Try.f94), (95, Try.f95), (96, Try.f96), (97, Try.f97), (98, Try.f98), (99, Try.f99), (100, Try.f100), (101, Try.f101), (102, Try.f102), (103, Try.f103), (104, Try.f104), (105, Try.f105), (106, Try.f106), (107, Try.f107), (108, Try.f108), (109, Try.f109), (110, Try.f110), (111, Try.f111), (112, Try.f112), (113, Try.f113), (114, Try.f114), (115, Try.f115), (116, Try.f116), (117, Try.f117), (118, Try.f118), (119, Try.f119), (120, Try.f120), (121, Try.f121), (122, Try.f122), (123, Try.f123), (124, Try.f124), (125, Try.f125), (126, Try.f126), (127, Try.f127), (128, Try.f128)]
noncomputable def T : Tab := { ty := lookT rows, eqOk := memN eqTypes, mg := true, fn := lookF fns }
noncomputable def T0 : Tab := { ty := lookT rows, eqOk := memN eqTypes, fn := lookF fns }
theorem allC {α : Type} {p : α → Prop} {a : α} {l : List α} (h : p a) (h2 : ∀ r ∈ l, p r) : ∀ r ∈ a :: l, p r := by
  intro r hr
  rcases List.mem_cons.1 hr with rfl | hr
  · exact h
  · exact h2 r hr
theorem allN {α : Type} {p : α → Prop} : ∀ r ∈ ([] : List α), p r := fun r hr => by cases hr
theorem hTm (m : Bool) : TabOk Try.prog { ty := lookT rows, eqOk := memN eqTypes, mg := m } := by
  refine tabOk_of rows eqTypes ?_ ?_
  · unfold rows
    refine allC ⟨Try.underlying2, Try.type2⟩ ?_
    refine allC ⟨Try.underlying3, Try.type3⟩ ?_
    refine allC ⟨Try.underlying4, Try.type4⟩ ?_
    refine allC ⟨Try.underlying5, Try.type5⟩ ?_
    refine allC ⟨Try.underlying9, Try.type9⟩ ?_
    refine allC ⟨Try.underlying21, Try.type21⟩ ?_
    refine allC ⟨Try.underlying22, Try.type22⟩ ?_
    refine allC ⟨Try.underlying25, Try.type25⟩ ?_
    refine allC ⟨Try.underlying27, Try.type27⟩ ?_
    refine allC ⟨Try.underlying28, Try.type28⟩ ?_
    refine allC ⟨Try.underlying33, Try.type33⟩ ?_
    refine allC ⟨Try.underlying35, Try.type35⟩ ?_
    refine allC ⟨Try.underlying36, Try.type36⟩ ?_
    refine allC ⟨Try.underlying37, Try.type37⟩ ?_
    refine allC ⟨Try.underlying38, Try.type38⟩ ?_
    refine allC ⟨Try.underlying39, Try.type39⟩ ?_
    refine allC ⟨Try.underlying40, Try.type40⟩ ?_
    refine allC ⟨Try.underlying42, Try.type42⟩ ?_
    refine allC ⟨Try.underlying45, Try.type45⟩ ?_
    refine allC ⟨Try.underlying60, Try.type60⟩ ?_
    refine allC ⟨Try.underlying62, Try.type62⟩ ?_
    refine allC ⟨Try.underlying67, Try.type67⟩ ?_
    refine allC ⟨Try.underlying70, Try.type70⟩ ?_
    refine allC ⟨Try.underlying73, Try.type73⟩ ?_
    refine allC ⟨Try.underlying82, Try.type82⟩ ?_
    refine allC ⟨Try.underlying84, Try.type84⟩ ?_
    refine allC ⟨Try.underlying85, Try.type85⟩ ?_
    refine allC ⟨Try.underlying86, Try.type86⟩ ?_
    refine allC ⟨Try.underlying87, Try.type87⟩ ?_
    refine allC ⟨Try.underlying95, Try.type95⟩ ?_
    refine allC ⟨Try.underlying97, Try.type97⟩ ?_
    refine allC ⟨Try.underlying104, Try.type104⟩ ?_
    refine allC ⟨Try.underlying110, Try.type110⟩ ?_
    refine allC ⟨Try.underlying111, Try.type111⟩ ?_
    refine allC ⟨Try.underlying114, Try.type114⟩ ?_
    refine allC ⟨Try.underlying117, Try.type117⟩ ?_
    refine allC ⟨Try.underlying119, Try.type119⟩ ?_
    refine allC ⟨Try.underlying124, Try.type124⟩ ?_
    refine allC ⟨Try.underlying126, Try.type126⟩ ?_
    refine allC ⟨Try.underlying127, Try.type127⟩ ?_
    refine allC ⟨Try.underlying129, Try.type129⟩ ?_
    refine allC ⟨Try.underlying139, Try.type139⟩ ?_
    refine allC ⟨Try.underlying140, Try.type140⟩ ?_
    refine allC ⟨Try.underlying144, Try.type144⟩ ?_
    refine allC ⟨Try.underlying149, Try.type149⟩ ?_
    refine allC ⟨Try.underlying151, Try.type151⟩ ?_
    refine allC ⟨Try.underlying152, Try.type152⟩ ?_
    refine allC ⟨Try.underlying155, Try.type155⟩ ?_
    refine allC ⟨Try.underlying163, Try.type163⟩ ?_
    refine allC ⟨Try.underlying169, Try.type169⟩ ?_
    exact allN
  · unfold eqTypes
    refine allC ⟨Try.stoodInHeld27, Try.eqGuardType27⟩ ?_
    refine allC ⟨Try.stoodInHeld35, Try.eqGuardType35⟩ ?_
    refine allC ⟨Try.stoodInHeld42, Try.eqGuardType42⟩ ?_
    refine allC ⟨Try.stoodInHeld45, Try.eqGuardType45⟩ ?_
    refine allC ⟨Try.stoodInHeld60, Try.eqGuardType60⟩ ?_
    refine allC ⟨Try.stoodInHeld67, Try.eqGuardType67⟩ ?_
    refine allC ⟨Try.stoodInHeld84, Try.eqGuardType84⟩ ?_
    refine allC ⟨Try.stoodInHeld95, Try.eqGuardType95⟩ ?_
    refine allC ⟨Try.stoodInHeld110, Try.eqGuardType110⟩ ?_
    refine allC ⟨held37, Try.eqGuardType37⟩ ?_
    refine allC ⟨held38, Try.eqGuardType38⟩ ?_
    refine allC ⟨held70, Try.eqGuardType70⟩ ?_
    refine allC ⟨held86, Try.eqGuardType86⟩ ?_
    refine allC ⟨held87, Try.eqGuardType87⟩ ?_
    refine allC ⟨held104, Try.eqGuardType104⟩ ?_
    refine allC ⟨held114, Try.eqGuardType114⟩ ?_
    refine allC ⟨held124, Try.eqGuardType124⟩ ?_
    refine allC ⟨held127, Try.eqGuardType127⟩ ?_
    refine allC ⟨held140, Try.eqGuardType140⟩ ?_
    refine allC ⟨held149, Try.eqGuardType149⟩ ?_
    refine allC ⟨held151, Try.eqGuardType151⟩ ?_
    refine allC ⟨held152, Try.eqGuardType152⟩ ?_
    refine allC ⟨held169, Try.eqGuardType169⟩ ?_
    exact allN
theorem hFns : ∀ r ∈ fns, Try.prog.funcs[r.1]? = some r.2 ∧ ∀ (vs : Array Value) (w : World), (callFunc r.1 vs).run Try.prog w = .ok (.enter r.1 vs) w := by
  unfold fns
  refine allC ⟨Try.func2, Try.call2⟩ ?_
  refine allC ⟨Try.func3, Try.call3⟩ ?_
  refine allC ⟨Try.func4, Try.call4⟩ ?_
  refine allC ⟨Try.func5, Try.call5⟩ ?_
  refine allC ⟨Try.func6, Try.call6⟩ ?_
  refine allC ⟨Try.func7, Try.call7⟩ ?_
  refine allC ⟨Try.func8, Try.call8⟩ ?_
  refine allC ⟨Try.func9, Try.call9⟩ ?_
  refine allC ⟨Try.func10, Try.call10⟩ ?_
  refine allC ⟨Try.func11, Try.call11⟩ ?_
  refine allC ⟨Try.func12, Try.call12⟩ ?_
  refine allC ⟨Try.func13, Try.call13⟩ ?_
  refine allC ⟨Try.func14, Try.call14⟩ ?_
  refine allC ⟨Try.func15, Try.call15⟩ ?_
  refine allC ⟨Try.func16, Try.call16⟩ ?_
  refine allC ⟨Try.func17, Try.call17⟩ ?_
  refine allC ⟨Try.func18, Try.call18⟩ ?_
  refine allC ⟨Try.func19, Try.call19⟩ ?_
  refine allC ⟨Try.func20, Try.call20⟩ ?_
  refine allC ⟨Try.func21, Try.call21⟩ ?_
  refine allC ⟨Try.func22, Try.call22⟩ ?_
  refine allC ⟨Try.func23, Try.call23⟩ ?_
  refine allC ⟨Try.func24, Try.call24⟩ ?_
  refine allC ⟨Try.func25, Try.call25⟩ ?_
  refine allC ⟨Try.func26, Try.call26⟩ ?_
  refine allC ⟨Try.func27, Try.call27⟩ ?_
  refine allC ⟨Try.func28, Try.call28⟩ ?_
  refine allC ⟨Try.func29, Try.call29⟩ ?_
  refine allC ⟨Try.func30, Try.call30⟩ ?_
  refine allC ⟨Try.func31, Try.call31⟩ ?_
  refine allC ⟨Try.func32, Try.call32⟩ ?_
  refine allC ⟨Try.func33, Try.call33⟩ ?_
  refine allC ⟨Try.func34, Try.call34⟩ ?_
  refine allC ⟨Try.func35, Try.call35⟩ ?_
  refine allC ⟨Try.func36, Try.call36⟩ ?_
  refine allC ⟨Try.func37, Try.call37⟩ ?_
  refine allC ⟨Try.func38, Try.call38⟩ ?_
  refine allC ⟨Try.func39, Try.call39⟩ ?_
  refine allC ⟨Try.func40, Try.call40⟩ ?_
  refine allC ⟨Try.func41, Try.call41⟩ ?_
  refine allC ⟨Try.func42, Try.call42⟩ ?_
  refine allC ⟨Try.func43, Try.call43⟩ ?_
  refine allC ⟨Try.func44, Try.call44⟩ ?_
  refine allC ⟨Try.func45, Try.call45⟩ ?_
  refine allC ⟨Try.func46, Try.call46⟩ ?_
  refine allC ⟨Try.func47, Try.call47⟩ ?_
  refine allC ⟨Try.func48, Try.call48⟩ ?_
  refine allC ⟨Try.func49, Try.call49⟩ ?_
  refine allC ⟨Try.func50, Try.call50⟩ ?_
  refine allC ⟨Try.func51, Try.call51⟩ ?_
  refine allC ⟨Try.func52, Try.call52⟩ ?_
  refine allC ⟨Try.func53, Try.call53⟩ ?_
  refine allC ⟨Try.func54, Try.call54⟩ ?_
  refine allC ⟨Try.func55, Try.call55⟩ ?_
  refine allC ⟨Try.func56, Try.call56⟩ ?_
  refine allC ⟨Try.func57, Try.call57⟩ ?_
  refine allC ⟨Try.func58, Try.call58⟩ ?_
  refine allC ⟨Try.func59, Try.call59⟩ ?_
  refine allC ⟨Try.func60, Try.call60⟩ ?_
  refine allC ⟨Try.func61, Try.call61⟩ ?_
  refine allC ⟨Try.func62, Try.call62⟩ ?_
  refine allC ⟨Try.func63, Try.call63⟩ ?_
  refine allC ⟨Try.func64, Try.call64⟩ ?_
  refine allC ⟨Try.func65, Try.call65⟩ ?_
  refine allC ⟨Try.func66, Try.call66⟩ ?_
  refine allC ⟨Try.func67, Try.call67⟩ ?_
  refine allC ⟨Try.func68, Try.call68⟩ ?_
  refine allC ⟨Try.func69, Try.call69⟩ ?_
  refine allC ⟨Try.func70, Try.call70⟩ ?_
  refine allC ⟨Try.func71, Try.call71⟩ ?_
  refine allC ⟨Try.func72, Try.call72⟩ ?_
  refine allC ⟨Try.func73, Try.call73⟩ ?_
  refine allC ⟨Try.func74, Try.call74⟩ ?_
  refine allC ⟨Try.func75, Try.call75⟩ ?_
  refine allC ⟨Try.func76, Try.call76⟩ ?_
  refine allC ⟨Try.func77, Try.call77⟩ ?_
  refine allC ⟨Try.func78, Try.call78⟩ ?_
  refine allC ⟨Try.func79, Try.call79⟩ ?_
  refine allC ⟨Try.func80, Try.call80⟩ ?_
  refine allC ⟨Try.func81, Try.call81⟩ ?_
  refine allC ⟨Try.func82, Try.call82⟩ ?_
  refine allC ⟨Try.func83, Try.call83⟩ ?_
  refine allC ⟨Try.func84, Try.call84⟩ ?_
  refine allC ⟨Try.func85, Try.call85⟩ ?_
  refine allC ⟨Try.func86, Try.call86⟩ ?_
  refine allC ⟨Try.func87, Try.call87⟩ ?_
  refine allC ⟨Try.func88, Try.call88⟩ ?_
  refine allC ⟨Try.func89, Try.call89⟩ ?_
  refine allC ⟨Try.func90, Try.call90⟩ ?_
  refine allC ⟨Try.func91, Try.call91⟩ ?_
  refine allC ⟨Try.func92, Try.call92⟩ ?_
  refine allC ⟨Try.func93, Try.call93⟩ ?_
  refine allC ⟨Try.func94, Try.call94⟩ ?_
  refine allC ⟨Try.func95, Try.call95⟩ ?_
  refine allC ⟨Try.func96, Try.call96⟩ ?_
  refine allC ⟨Try.func97, Try.call97⟩ ?_
  refine allC ⟨Try.func98, Try.call98⟩ ?_
  refine allC ⟨Try.func99, Try.call99⟩ ?_
  refine allC ⟨Try.func100, Try.call100⟩ ?_
  refine allC ⟨Try.func101, Try.call101⟩ ?_
  refine allC ⟨Try.func102, Try.call102⟩ ?_
  refine allC ⟨Try.func103, Try.call103⟩ ?_
  refine allC ⟨Try.func104, Try.call104⟩ ?_
  refine allC ⟨Try.func105, Try.call105⟩ ?_
  refine allC ⟨Try.func106, Try.call106⟩ ?_
  refine allC ⟨Try.func107, Try.call107⟩ ?_
  refine allC ⟨Try.func108, Try.call108⟩ ?_
  refine allC ⟨Try.func109, Try.call109⟩ ?_
  refine allC ⟨Try.func110, Try.call110⟩ ?_
  refine allC ⟨Try.func111, Try.call111⟩ ?_
  refine allC ⟨Try.func112, Try.call112⟩ ?_
  refine allC ⟨Try.func113, Try.call113⟩ ?_
  refine allC ⟨Try.func114, Try.call114⟩ ?_
  refine allC ⟨Try.func115, Try.call115⟩ ?_
  refine allC ⟨Try.func116, Try.call116⟩ ?_
  refine allC ⟨Try.func117, Try.call117⟩ ?_
  refine allC ⟨Try.func118, Try.call118⟩ ?_
  refine allC ⟨Try.func119, Try.call119⟩ ?_
  refine allC ⟨Try.func120, Try.call120⟩ ?_
  refine allC ⟨Try.func121, Try.call121⟩ ?_
  refine allC ⟨Try.func122, Try.call122⟩ ?_
  refine allC ⟨Try.func123, Try.call123⟩ ?_
  refine allC ⟨Try.func124, Try.call124⟩ ?_
  refine allC ⟨Try.func125, Try.call125⟩ ?_
  refine allC ⟨Try.func126, Try.call126⟩ ?_
  refine allC ⟨Try.func127, Try.call127⟩ ?_
  refine allC ⟨Try.func128, Try.call128⟩ ?_
  exact allN
theorem hT : TabOk Try.prog T := (hTm true).withFn fun f fn h => hFns _ (lookF_spec fns f fn h)
theorem hT0 : TabOk Try.prog T0 := (hTm false).withFn fun f fn h => hFns _ (lookF_spec fns f fn h)
theorem hm : Try.prog.follows .mixedOrders = true := by kernel_rfl
end Go.Proofs.Ytcplpomnfnimbaa
