/-
  What is proved here: the listed variable internal/strconv.uint64pow10 holds what is listed; a world that meets the condition. A text to be imported.
-/
import Derived.Test.YtgpbpgbokfdbeaaDoorBase
import Derived.Test.YtgpbpgbokfdbeaaDoorSimX
namespace Go.Proofs.YtgpbpgbokfdbeaaDoor
open Sm Go Go.RowKit
theorem trod_int {H : Type} {enc : TypeId × Value → H} {P : Program} {w : World} {base : Nat} {spare : Nat → Bool} {held : Bool} {fuel : Nat} {t : TypeId} {cs : List Value} {x : DataW H × List MemPlace} {k : IntKind} (ht : P.underlying t = some (.int k)) (h : DataW.trod enc P w base spare held fuel t cs = some x) :
    ∃ n, cs = [.int k n] ∧ x = (.lit (.int k n), []) ∧ (Lit.int k n).wf = true := by
  cases fuel with
  | zero => simp [DataW.trod] at h
  | succ n =>
    unfold DataW.trod at h
    rw [ht] at h
    split at h <;> simp_all

/-- What a listed array of whole numbers holds. -/
theorem laid_ints {P : Program} {W : World} {name : String} {k : IntKind} {zs : List Int} {rest : List (String × DataW Unit)} {g : Nat} {t e : TypeId} {n : Nat}
    (hg : P.globalNamed name = some g) (hty : (P.globals[g]?).map (·.type) = some t) (ht : P.underlying t = some (.array n e)) (he : P.underlying e = some (.int k)) (hce : P.cellsOf e = 1) (hct : P.cellsOf t = n)
    (h : laidMet P ((name, .agg (zs.map fun z => .lit (.int k z))) :: rest) W) : g < W.heap.size ∧ ∃ c e fz, W.heap[g]? = some (.cells c e fz) ∧ c.toList = zs.map (Value.int k) ∧ ∀ v ∈ zs.map (Value.int k), v.oneCell' = true := by
  obtain ⟨ps, ⟨g', t', cs, fuel, p, q, hg', ht', hvar, hd, _, _⟩, _⟩ := h
  obtain rfl := Option.some.inj (hg.symm.trans hg')
  obtain rfl := Option.some.inj (hty.symm.trans ht')
  unfold World.var? at hvar
  rw [hg] at hvar
  simp only [Option.bind_some] at hvar
  split at hvar
  · rename_i c el fz hc
    simp only [Option.some.injEq] at hvar
    subst hvar
    refine ⟨(Array.getElem?_eq_some_iff.1 hc).1, c, el, fz, hc, ?_, fun v hv => ?_⟩
    · obtain ⟨xs, m, _, hx, hlen, hxl, hel⟩ := DataW.trod_array ht hd
      simp only [Prod.mk.injEq, DataW.agg.injEq] at hx
      have hlen : c.toList.length = n := hlen.trans hct
      have hx1 : xs.map (·.1) = zs.map fun z => (DataW.lit (.int k z) : DataW Unit) := hx.1.symm
      have hzl : zs.length = n := by
        have := congrArg List.length hx1
        simp at this
        omega
      apply List.ext_getElem?
      intro i
      by_cases hi : i < n
      · have h1 := hel i hi
        rw [hce, Nat.mul_one, List.drop_eq_getElem_cons (by omega)] at h1
        have hxi : xs[i]? = some xs[i] := List.getElem?_eq_getElem (by omega)
        rw [hxi] at h1
        obtain ⟨x, hx2, hx3, _⟩ := trod_int he h1
        simp only [List.take_succ_cons, List.take_zero, List.cons.injEq, and_true] at hx2
        have h2 : (xs.map (·.1))[i]? = some (DataW.lit (.int k x) : DataW Unit) := by simp [hxi, hx3]
        rw [hx1] at h2
        simp only [List.getElem?_map, Option.map_eq_some_iff, DataW.lit.injEq, Lit.int.injEq, true_and] at h2
        obtain ⟨z, hz, rfl⟩ := h2
        rw [List.getElem?_eq_getElem (by omega), hx2]
        simp [hz]
      · rw [List.getElem?_eq_none (by omega), List.getElem?_eq_none (by simp; omega)]
    · obtain ⟨z, _, rfl⟩ := List.mem_map.1 hv
      rfl
  · cases hvar


def laidL : List (String × DataW Unit) := [("math/bits.deBruijn32tab", Rows.laid_math_bits_deBruijn32tab), ("math/bits.deBruijn64tab", Rows.laid_math_bits_deBruijn64tab), ("internal/strconv.uint64pow10", Rows.laid_internal_strconv_uint64pow10)]
theorem laidW {W : World} (h : laidMet Tryd.prog laidL W) : LaidW W.heap.size W := by
  have h1 := laid_ints (zs := laidPow) (g := 0) (t := 42) (e := 34) (n := 20) (by kernel_rfl) (by kernel_rfl) Tryd.underlying42 Tryd.underlying34 (by kernel_rfl) (by kernel_rfl) (laid_tail (laid_tail h))
  intro g vs hg
  unfold laidT at hg
  split at hg
  · simp only [Option.some.injEq] at hg; subst hg; exact h1
  · cases hg
def tab32 : List Int := [0, 1, 28, 2, 29, 14, 24, 3, 30, 22, 20, 15, 25, 17, 4, 8, 31, 27, 13, 23, 21, 19, 16, 7, 26, 12, 18, 6, 11, 5, 10, 9]
def tab64 : List Int := [0, 1, 56, 2, 57, 49, 28, 3, 61, 58, 42, 50, 38, 29, 17, 4, 62, 47, 59, 36, 45, 43, 51, 22, 53, 39, 33, 30, 24, 18, 12, 5, 63, 55, 48, 27, 60, 41, 37, 16, 46, 35, 44, 21, 52, 32, 23, 11, 54, 26, 40, 15, 34, 20, 31, 10, 25, 14, 19, 9, 13, 8, 7, 6]
def lay (vs : List Value) : Obj → Obj
  | .cells _ t frozen => .cells vs.toArray t frozen
  | o => o
/-- A world for the witness: the settled one, the listed variables laid. -/
noncomputable def laidWorld (os : Os) : World :=
  { World.holding Tryd.prog os ⟨#[], #[], []⟩ with heap := (((World.holding Tryd.prog os ⟨#[], #[], []⟩).heap.modify 0 (lay (laidPow.map fun n => Value.int .u64 n))).modify 1 (lay (tab32.map fun n => Value.int .u8 n))).modify 2 (lay (tab64.map fun n => Value.int .u8 n)) }
end Go.Proofs.YtgpbpgbokfdbeaaDoor
