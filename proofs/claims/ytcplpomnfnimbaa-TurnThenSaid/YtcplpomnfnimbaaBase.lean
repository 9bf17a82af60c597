/-
  What is proved here: the tables of this program (its types), for the abstract evaluator. A text to be imported.
-/
import Derived.Test.YtcplpomnfnimbaaSimM
import Derived.Test.YtcplpomnfnimbaaRows
namespace Go.Proofs.Ytcplpomnfnimbaa
open Sm Go Go.RowKit
set_option maxRecDepth 100000
noncomputable def rows : List TRow := [
  ⟨2, (Go.TypeDesc.int Go.IntKind.i64), Try.t2⟩,
  ⟨3, (Go.TypeDesc.int Go.IntKind.i64), Try.t3⟩,
  ⟨4, Go.TypeDesc.bool, Try.t4⟩,
  ⟨5, (Go.TypeDesc.int Go.IntKind.u8), Try.t5⟩,
  ⟨9, Go.TypeDesc.string, Try.t9⟩,
  ⟨21, (Go.TypeDesc.int Go.IntKind.i32), Try.t21⟩,
  ⟨22, (Go.TypeDesc.int Go.IntKind.i8), Try.t22⟩,
  ⟨25, (Go.TypeDesc.slice 5), Try.t25⟩,
  ⟨27, (Go.TypeDesc.struct #[{ name := "Width", type := 3, offset := 0, embedded := Bool.false, tag := "", pkgPath := "", byteOffset := 0 }, { name := "Height", type := 3, offset := 1, embedded := Bool.false, tag := "", pkgPath := "", byteOffset := 8 }, { name := "Channels", type := 3, offset := 2, embedded := Bool.false, tag := "", pkgPath := "", byteOffset := 16 }, { name := "Pix", type := 25, offset := 3, embedded := Bool.false, tag := "", pkgPath := "", byteOffset := 24 }]), Try.t27⟩,
  ⟨28, (Go.TypeDesc.int Go.IntKind.i64), Try.t28⟩,
  ⟨33, (Go.TypeDesc.slice 60), Try.t33⟩,
  ⟨35, (Go.TypeDesc.struct #[{ name := "Kind", type := 5, offset := 0, embedded := Bool.false, tag := "", pkgPath := "", byteOffset := 0 }, { name := "Width", type := 3, offset := 1, embedded := Bool.false, tag := "", pkgPath := "", byteOffset := 8 }, { name := "Height", type := 3, offset := 2, embedded := Bool.false, tag := "", pkgPath := "", byteOffset := 16 }, { name := "Comps", type := 33, offset := 3, embedded := Bool.false, tag := "", pkgPath := "", byteOffset := 24 }]), Try.t35⟩,
  ⟨36, (Go.TypeDesc.int Go.IntKind.u16), Try.t36⟩,
  ⟨37, (Go.TypeDesc.array 64 36), Try.t37⟩,
  ⟨38, (Go.TypeDesc.array 4 37), Try.t38⟩,
  ⟨39, (Go.TypeDesc.slice 84), Try.t39⟩,
  ⟨40, (Go.TypeDesc.slice 95), Try.t40⟩,
  ⟨42, (Go.TypeDesc.struct #[{ name := "Frame", type := 35, offset := 0, embedded := Bool.false, tag := "", pkgPath := "", byteOffset := 0 }, { name := "Quants", type := 38, offset := 4, embedded := Bool.false, tag := "", pkgPath := "", byteOffset := 48 }, { name := "Grids", type := 39, offset := 260, embedded := Bool.false, tag := "", pkgPath := "", byteOffset := 560 }, { name := "Restart", type := 3, offset := 261, embedded := Bool.false, tag := "", pkgPath := "", byteOffset := 584 }, { name := "Extras", type := 40, offset := 262, embedded := Bool.false, tag := "", pkgPath := "", byteOffset := 592 }]), Try.t42⟩,
  ⟨45, (Go.TypeDesc.struct #[{ name := "X", type := 3, offset := 0, embedded := Bool.false, tag := "", pkgPath := "", byteOffset := 0 }, { name := "Y", type := 3, offset := 1, embedded := Bool.false, tag := "", pkgPath := "", byteOffset := 8 }, { name := "Wide", type := 3, offset := 2, embedded := Bool.false, tag := "", pkgPath := "", byteOffset := 16 }, { name := "High", type := 3, offset := 3, embedded := Bool.false, tag := "", pkgPath := "", byteOffset := 24 }]), Try.t45⟩,
  ⟨60, (Go.TypeDesc.struct #[{ name := "ID", type := 5, offset := 0, embedded := Bool.false, tag := "", pkgPath := "", byteOffset := 0 }, { name := "H", type := 5, offset := 1, embedded := Bool.false, tag := "", pkgPath := "", byteOffset := 1 }, { name := "V", type := 5, offset := 2, embedded := Bool.false, tag := "", pkgPath := "", byteOffset := 2 }, { name := "Quant", type := 5, offset := 3, embedded := Bool.false, tag := "", pkgPath := "", byteOffset := 3 }]), Try.t60⟩,
  ⟨62, (Go.TypeDesc.pointer 110), Try.t62⟩,
  ⟨67, (Go.TypeDesc.struct #[{ name := "columns", type := 4, offset := 0, embedded := Bool.false, tag := "", pkgPath := "mosaic/turn", byteOffset := 0 }, { name := "rows", type := 4, offset := 1, embedded := Bool.false, tag := "", pkgPath := "mosaic/turn", byteOffset := 1 }, { name := "exchange", type := 4, offset := 2, embedded := Bool.false, tag := "", pkgPath := "mosaic/turn", byteOffset := 2 }]), Try.t67⟩,
  ⟨70, (Go.TypeDesc.array 9 67), Try.t70⟩,
  ⟨73, (Go.TypeDesc.slice 67), Try.t73⟩,
  ⟨82, (Go.TypeDesc.slice 87), Try.t82⟩,
  ⟨84, (Go.TypeDesc.struct #[{ name := "Wide", type := 3, offset := 0, embedded := Bool.false, tag := "", pkgPath := "", byteOffset := 0 }, { name := "High", type := 3, offset := 1, embedded := Bool.false, tag := "", pkgPath := "", byteOffset := 8 }, { name := "Blocks", type := 82, offset := 2, embedded := Bool.false, tag := "", pkgPath := "", byteOffset := 16 }]), Try.t84⟩,
  ⟨85, (Go.TypeDesc.int Go.IntKind.i16), Try.t85⟩,
  ⟨86, (Go.TypeDesc.array 64 85), Try.t86⟩,
  ⟨87, (Go.TypeDesc.array 64 85), Try.t87⟩,
  ⟨95, (Go.TypeDesc.struct #[{ name := "Code", type := 5, offset := 0, embedded := Bool.false, tag := "", pkgPath := "", byteOffset := 0 }, { name := "Data", type := 9, offset := 1, embedded := Bool.false, tag := "", pkgPath := "", byteOffset := 8 }]), Try.t95⟩,
  ⟨97, (Go.TypeDesc.slice 25), Try.t97⟩,
  ⟨104, (Go.TypeDesc.array 4 5), Try.t104⟩,
  ⟨110, (Go.TypeDesc.struct #[{ name := "wide", type := 3, offset := 0, embedded := Bool.false, tag := "", pkgPath := "mosaic/plane", byteOffset := 0 }, { name := "high", type := 3, offset := 1, embedded := Bool.false, tag := "", pkgPath := "mosaic/plane", byteOffset := 8 }, { name := "pix", type := 25, offset := 2, embedded := Bool.false, tag := "", pkgPath := "mosaic/plane", byteOffset := 16 }]), Try.t110⟩,
  ⟨111, (Go.TypeDesc.slice 82), Try.t111⟩,
  ⟨114, (Go.TypeDesc.array 64 22), Try.t114⟩,
  ⟨117, (Go.TypeDesc.slice 119), Try.t117⟩,
  ⟨124, (Go.TypeDesc.array 64 21), Try.t124⟩,
  ⟨126, (Go.TypeDesc.pointer 37), Try.t126⟩,
  ⟨127, (Go.TypeDesc.array 64 5), Try.t127⟩,
  ⟨129, (Go.TypeDesc.pointer 124), Try.t129⟩,
  ⟨139, (Go.TypeDesc.pointer 87), Try.t139⟩,
  ⟨140, (Go.TypeDesc.array 64 3), Try.t140⟩,
  ⟨144, (Go.TypeDesc.slice 4), Try.t144⟩,
  ⟨149, (Go.TypeDesc.array 64 2), Try.t149⟩,
  ⟨151, (Go.TypeDesc.array 8 3), Try.t151⟩,
  ⟨152, (Go.TypeDesc.array 8 151), Try.t152⟩,
  ⟨163, (Go.TypeDesc.pointer 86), Try.t163⟩,
  ⟨169, (Go.TypeDesc.array 9 3), Try.t169⟩]
theorem held37 : Try.prog.stoodInHeld 37 = false := by kernel_rfl
theorem held38 : Try.prog.stoodInHeld 38 = false := by kernel_rfl
theorem held70 : Try.prog.stoodInHeld 70 = false := by kernel_rfl
theorem held86 : Try.prog.stoodInHeld 86 = false := by kernel_rfl
theorem held87 : Try.prog.stoodInHeld 87 = false := by kernel_rfl
theorem held104 : Try.prog.stoodInHeld 104 = false := by kernel_rfl
theorem held114 : Try.prog.stoodInHeld 114 = false := by kernel_rfl
theorem held124 : Try.prog.stoodInHeld 124 = false := by kernel_rfl
theorem held127 : Try.prog.stoodInHeld 127 = false := by kernel_rfl
theorem held140 : Try.prog.stoodInHeld 140 = false := by kernel_rfl
theorem held149 : Try.prog.stoodInHeld 149 = false := by kernel_rfl
theorem held151 : Try.prog.stoodInHeld 151 = false := by kernel_rfl
theorem held152 : Try.prog.stoodInHeld 152 = false := by kernel_rfl
theorem held169 : Try.prog.stoodInHeld 169 = false := by kernel_rfl
def eqTypes : List Nat := [27, 35, 42, 45, 60, 67, 84, 95, 110, 37, 38, 70, 86, 87, 104, 114, 124, 127, 140, 149, 151, 152, 169]
noncomputable def T : Tab := { ty := lookT rows, eqOk := memN eqTypes, mg := true }
noncomputable def T0 : Tab := { ty := lookT rows, eqOk := memN eqTypes }
theorem allC {α : Type} {p : α → Prop} {a : α} {l : List α} (h : p a) (h2 : ∀ r ∈ l, p r) : ∀ r ∈ a :: l, p r := by
  intro r hr
  rcases List.mem_cons.1 hr with rfl | hr
  · exact h
  · exact h2 r hr
theorem allN {α : Type} {p : α → Prop} : ∀ r ∈ ([] : List α), p r := fun r hr => by cases hr
theorem hTm (m : Bool) : TabOk Try.prog { ty := lookT rows, eqOk := memN eqTypes, mg := m } := by
  refine tabOk_of rows eqTypes ?_ ?_
  · unfold rows
    refine allC ⟨Try.underlying2, Try.type2⟩ ?_
    refine allC ⟨Try.underlying3, Try.type3⟩ ?_
    refine allC ⟨Try.underlying4, Try.type4⟩ ?_
    refine allC ⟨Try.underlying5, Try.type5⟩ ?_
    refine allC ⟨Try.underlying9, Try.type9⟩ ?_
    refine allC ⟨Try.underlying21, Try.type21⟩ ?_
    refine allC ⟨Try.underlying22, Try.type22⟩ ?_
    refine allC ⟨Try.underlying25, Try.type25⟩ ?_
    refine allC ⟨Try.underlying27, Try.type27⟩ ?_
    refine allC ⟨Try.underlying28, Try.type28⟩ ?_
    refine allC ⟨Try.underlying33, Try.type33⟩ ?_
    refine allC ⟨Try.underlying35, Try.type35⟩ ?_
    refine allC ⟨Try.underlying36, Try.type36⟩ ?_
    refine allC ⟨Try.underlying37, Try.type37⟩ ?_
    refine allC ⟨Try.underlying38, Try.type38⟩ ?_
    refine allC ⟨Try.underlying39, Try.type39⟩ ?_
    refine allC ⟨Try.underlying40, Try.type40⟩ ?_
    refine allC ⟨Try.underlying42, Try.type42⟩ ?_
    refine allC ⟨Try.underlying45, Try.type45⟩ ?_
    refine allC ⟨Try.underlying60, Try.type60⟩ ?_
    refine allC ⟨Try.underlying62, Try.type62⟩ ?_
    refine allC ⟨Try.underlying67, Try.type67⟩ ?_
    refine allC ⟨Try.underlying70, Try.type70⟩ ?_
    refine allC ⟨Try.underlying73, Try.type73⟩ ?_
    refine allC ⟨Try.underlying82, Try.type82⟩ ?_
    refine allC ⟨Try.underlying84, Try.type84⟩ ?_
    refine allC ⟨Try.underlying85, Try.type85⟩ ?_
    refine allC ⟨Try.underlying86, Try.type86⟩ ?_
    refine allC ⟨Try.underlying87, Try.type87⟩ ?_
    refine allC ⟨Try.underlying95, Try.type95⟩ ?_
    refine allC ⟨Try.underlying97, Try.type97⟩ ?_
    refine allC ⟨Try.underlying104, Try.type104⟩ ?_
    refine allC ⟨Try.underlying110, Try.type110⟩ ?_
    refine allC ⟨Try.underlying111, Try.type111⟩ ?_
    refine allC ⟨Try.underlying114, Try.type114⟩ ?_
    refine allC ⟨Try.underlying117, Try.type117⟩ ?_
    refine allC ⟨Try.underlying124, Try.type124⟩ ?_
    refine allC ⟨Try.underlying126, Try.type126⟩ ?_
    refine allC ⟨Try.underlying127, Try.type127⟩ ?_
    refine allC ⟨Try.underlying129, Try.type129⟩ ?_
    refine allC ⟨Try.underlying139, Try.type139⟩ ?_
    refine allC ⟨Try.underlying140, Try.type140⟩ ?_
    refine allC ⟨Try.underlying144, Try.type144⟩ ?_
    refine allC ⟨Try.underlying149, Try.type149⟩ ?_
    refine allC ⟨Try.underlying151, Try.type151⟩ ?_
    refine allC ⟨Try.underlying152, Try.type152⟩ ?_
    refine allC ⟨Try.underlying163, Try.type163⟩ ?_
    refine allC ⟨Try.underlying169, Try.type169⟩ ?_
    exact allN
  · unfold eqTypes
    refine allC ⟨Try.stoodInHeld27, Try.eqGuardType27⟩ ?_
    refine allC ⟨Try.stoodInHeld35, Try.eqGuardType35⟩ ?_
    refine allC ⟨Try.stoodInHeld42, Try.eqGuardType42⟩ ?_
    refine allC ⟨Try.stoodInHeld45, Try.eqGuardType45⟩ ?_
    refine allC ⟨Try.stoodInHeld60, Try.eqGuardType60⟩ ?_
    refine allC ⟨Try.stoodInHeld67, Try.eqGuardType67⟩ ?_
    refine allC ⟨Try.stoodInHeld84, Try.eqGuardType84⟩ ?_
    refine allC ⟨Try.stoodInHeld95, Try.eqGuardType95⟩ ?_
    refine allC ⟨Try.stoodInHeld110, Try.eqGuardType110⟩ ?_
    refine allC ⟨held37, Try.eqGuardType37⟩ ?_
    refine allC ⟨held38, Try.eqGuardType38⟩ ?_
    refine allC ⟨held70, Try.eqGuardType70⟩ ?_
    refine allC ⟨held86, Try.eqGuardType86⟩ ?_
    refine allC ⟨held87, Try.eqGuardType87⟩ ?_
    refine allC ⟨held104, Try.eqGuardType104⟩ ?_
    refine allC ⟨held114, Try.eqGuardType114⟩ ?_
    refine allC ⟨held124, Try.eqGuardType124⟩ ?_
    refine allC ⟨held127, Try.eqGuardType127⟩ ?_
    refine allC ⟨held140, Try.eqGuardType140⟩ ?_
    refine allC ⟨held149, Try.eqGuardType149⟩ ?_
    refine allC ⟨held151, Try.eqGuardType151⟩ ?_
    refine allC ⟨held152, Try.eqGuardType152⟩ ?_
    refine allC ⟨held169, Try.eqGuardType169⟩ ?_
    exact allN
theorem hT : TabOk Try.prog T := hTm true
theorem hT0 : TabOk Try.prog T0 := hTm false
theorem hm : Try.prog.follows .mixedOrders = true := by kernel_rfl
end Go.Proofs.Ytcplpomnfnimbaa
