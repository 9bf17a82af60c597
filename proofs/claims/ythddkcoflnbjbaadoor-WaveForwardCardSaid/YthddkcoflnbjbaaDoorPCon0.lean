/-
  What is proved here: arrays of floats among a law's arguments, opened; listed package-level variables, opened; the frame of a law over such variables. the listed variables math._sin, math._cos hold what is listed; a world that meets the condition. A text to be imported.
-/
import Derived.Test.YthddkcoflnbjbaaDoorPSimS
import Derived.SizedLaws
import Derived.ChangeSlices
import Derived.Test.YthddkcoflnbjbaaDoorPSimO
import Derived.ChangeSame
import Derived.LaidLaws
import Derived.Lib.LaidTab
import Derived.Deep.DeepHandedRow
import Derived.SevenTiedAt
import Derived.Test.YthddkcoflnbjbaaDoorPBase
namespace Sm
open Go Go.RowKit Go.WideShapes Go.ChangeShapes
theorem trod_float {H : Type} {enc : TypeId × Value → H} {P : Program} {w : World} {base : Nat} {spare : Nat → Bool} {held : Bool} {fuel : Nat} {t : TypeId} {cs : List Value} {x : DataW H × List MemPlace} {k : FloatKind} (ht : P.underlying t = some (.float k)) (h : DataW.trod enc P w base spare held fuel t cs = some x) :
    ∃ n, cs = [.float k n] ∧ x = (.lit (.float k n), []) ∧ (Lit.float k n).wf = true := by
  cases fuel with
  | zero => simp [DataW.trod] at h
  | succ n =>
    unfold DataW.trod at h
    rw [ht] at h
    split at h <;> simp_all
def fltV : Value → Nat
  | .float _ n => n
  | _ => 0
theorem laid_floats {P : Program} {W : World} {name : String} {k : FloatKind} {zs : List Nat} {rest : List (String × DataW Unit)} {g : Nat} {t e : TypeId} {n : Nat}
    (hg : P.globalNamed name = some g) (hty : (P.globals[g]?).map (·.type) = some t) (ht : P.underlying t = some (.array n e)) (he : P.underlying e = some (.float k)) (hce : P.cellsOf e = 1) (hct : P.cellsOf t = n)
    (h : laidMet P ((name, .agg (zs.map fun z => .lit (.float k z))) :: rest) W) : g < W.heap.size ∧ ∃ c e fz, W.heap[g]? = some (.cells c e fz) ∧ c.toList = zs.map (Value.float k) ∧ ∀ v ∈ zs.map (Value.float k), v.oneCell' = true := by
  obtain ⟨ps, ⟨g', t', cs, fuel, p, q, hg', ht', hvar, hd, _, _⟩, _⟩ := h
  obtain rfl := Option.some.inj (hg.symm.trans hg')
  obtain rfl := Option.some.inj (hty.symm.trans ht')
  unfold World.var? at hvar
  rw [hg] at hvar
  simp only [Option.bind_some] at hvar
  split at hvar
  · rename_i c el fz hc
    simp only [Option.some.injEq] at hvar
    subst hvar
    refine ⟨(Array.getElem?_eq_some_iff.1 hc).1, c, el, fz, hc, ?_, fun v hv => ?_⟩
    · obtain ⟨xs, m, _, hx, hlen, hxl, hel⟩ := DataW.trod_array ht hd
      simp only [Prod.mk.injEq, DataW.agg.injEq] at hx
      have hlen : c.toList.length = n := hlen.trans hct
      have hx1 : xs.map (·.1) = zs.map fun z => (DataW.lit (.float k z) : DataW Unit) := hx.1.symm
      have hzl : zs.length = n := by
        have := congrArg List.length hx1
        simp at this
        omega
      apply List.ext_getElem?
      intro i
      by_cases hi : i < n
      · have h1 := hel i hi
        rw [hce, Nat.mul_one, List.drop_eq_getElem_cons (by omega)] at h1
        have hxi : xs[i]? = some xs[i] := List.getElem?_eq_getElem (by omega)
        rw [hxi] at h1
        obtain ⟨x, hx2, hx3, _⟩ := trod_float he h1
        simp only [List.take_succ_cons, List.take_zero, List.cons.injEq, and_true] at hx2
        have h2 : (xs.map (·.1))[i]? = some (DataW.lit (.float k x) : DataW Unit) := by simp [hxi, hx3]
        rw [hx1] at h2
        simp only [List.getElem?_map, Option.map_eq_some_iff, DataW.lit.injEq, Lit.float.injEq, true_and] at h2
        obtain ⟨z, hz, rfl⟩ := h2
        rw [List.getElem?_eq_getElem (by omega), hx2]
        simp [hz]
      · rw [List.getElem?_eq_none (by omega), List.getElem?_eq_none (by simp; omega)]
    · obtain ⟨z, _, rfl⟩ := List.mem_map.1 hv
      rfl
  · cases hvar
theorem laid_tail {P : Program} {x : String × DataW Unit} {r : List (String × DataW Unit)} {w : World} (h : laidMet P (x :: r) w) : laidMet P r w := by
  obtain ⟨n, d⟩ := x
  obtain ⟨ps, ⟨g, t, cs, fuel, p, q, _, _, _, _, hr, rfl⟩, hnd, hok⟩ := h
  exact ⟨q, hr, (List.nodup_append.1 hnd).2.1, fun b off hb => hok b off (List.mem_append_right _ hb)⟩
end Sm
namespace Go.Proofs.YthddkcoflnbjbaaDoor
open Sm Go Go.RowKit
def laidL : List (String × DataW Unit) := [("math._sin", Rows.laid_math_sin), ("math._cos", Rows.laid_math_cos), ("math.mPi4", Rows.laid_math_mPi4)]
theorem laidW {W : World} (h : laidMet Tryd.prog laidL W) : LaidW W.heap.size W := by
  have h1 := laid_floats (zs := laidSin) (g := 2) (t := 78) (e := 25) (n := 6) (by kernel_rfl) (by kernel_rfl) Tryd.underlying78 Tryd.underlying25 (by kernel_rfl) (by kernel_rfl) h
  have h2 := laid_floats (zs := laidCos) (g := 1) (t := 78) (e := 25) (n := 6) (by kernel_rfl) (by kernel_rfl) Tryd.underlying78 Tryd.underlying25 (by kernel_rfl) (by kernel_rfl) (laid_tail h)
  intro g vs hg
  unfold laidT at hg
  split at hg
  · simp only [Option.some.injEq] at hg; subst hg; exact h2
  · simp only [Option.some.injEq] at hg; subst hg; exact h1
  · cases hg
def mPi : List Int := [1, 5040379952546458195, 17892431488136887169, 13169980181085364355, 18204331823439776451, 7946843935494350272, 905889640498799673, 18175356263134875261, 15061281708168349961, 15220161563773041794, 8296664548579374057, 4109744767560208502, 4607516669194743839, 16023283104648321598, 15739233654134936430, 11424645774684705882, 16883842788696515318, 8795094592981902804, 15561835991111744016, 12395701187267450711]
def lay (vs : List Value) : Obj → Obj
  | .cells _ t frozen => .cells vs.toArray t frozen
  | o => o
noncomputable def laidWorld (os : Os) : World :=
  { World.holding Tryd.prog os ⟨#[], #[], []⟩ with heap := (((World.holding Tryd.prog os ⟨#[], #[], []⟩).heap.modify 2 (lay (laidSin.map (Value.float .f64)))).modify 1 (lay (laidCos.map (Value.float .f64)))).modify 3 (lay (mPi.map fun n => Value.int .u64 n)) }
end Go.Proofs.YthddkcoflnbjbaaDoor
