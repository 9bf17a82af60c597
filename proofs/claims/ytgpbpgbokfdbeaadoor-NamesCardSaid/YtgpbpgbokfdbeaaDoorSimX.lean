/-
  What is proved here: arrays of floats among a law's arguments, opened; listed package-level variables, opened; the frame of a law over such variables. A text to be imported.
-/
import Derived.Test.YtgpbpgbokfdbeaaDoorSimV
import Derived.Test.YtgpbpgbokfdbeaaDoorSimO
import Derived.ChangeSame
import Derived.LaidLaws
import Derived.Lib.LaidTab
import Derived.Deep.DeepHandedRow
import Derived.SevenTiedAt
namespace Sm
open Go Go.RowKit Go.WideShapes Go.ChangeShapes

theorem trod_float {H : Type} {enc : TypeId × Value → H} {P : Program} {w : World} {base : Nat} {spare : Nat → Bool} {held : Bool} {fuel : Nat} {t : TypeId} {cs : List Value} {x : DataW H × List MemPlace} {k : FloatKind} (ht : P.underlying t = some (.float k)) (h : DataW.trod enc P w base spare held fuel t cs = some x) :
    ∃ n, cs = [.float k n] ∧ x = (.lit (.float k n), []) ∧ (Lit.float k n).wf = true := by
  cases fuel with
  | zero => simp [DataW.trod] at h
  | succ n =>
    unfold DataW.trod at h
    rw [ht] at h
    split at h <;> simp_all

def fltV : Value → Nat
  | .float _ n => n
  | _ => 0

/-- An array of floats, by value. -/
theorem open_farr {H : Type} {enc : TypeId × Value → H} {P : Program} {w : World} {base b0 : Nat} {spare : Nat → Bool} {held : Bool} {r : Reach} {t e : TypeId} {n : Nat} {k : FloatKind} {v : Value} {d : DataW H} {ps : List MemPlace}
    (ht : P.underlying t = some (.array n e)) (he : P.underlying e = some (.float k)) (hce : P.cellsOf e = 1) (hct : P.cellsOf t = n) (hval : Value.okWide P w r b0 t v) (h : DataW.Trod enc P w base spare held t v d ps) :
    ∃ xs : List Nat, xs.length = n ∧ v = .agg (xs.map (Value.float k)).toArray ∧ ∀ x ∈ xs, (Lit.float k x).wf = true := by
  have hv : ∃ cs, v = .agg cs ∧ cs.size = P.cellsOf t := by
    unfold Value.okWide at hval
    rw [ht] at hval
    obtain ⟨cs, h1, h2, _⟩ := hval
    exact ⟨cs, h1, h2⟩
  obtain ⟨cs, rfl, hsz⟩ := hv
  obtain ⟨fuel, hf⟩ := h
  obtain ⟨xs, m, rfl, _, hlen, hxl, hel⟩ := DataW.trod_array ht hf
  simp only [Value.cells] at hlen hel
  have key : ∀ i, i < n → ∃ x, cs.toList[i]? = some (.float k x) ∧ (Lit.float k x).wf = true := fun i hi => by
    have h1 := hel i hi
    have hlt : i < cs.toList.length := by omega
    rw [hce, Nat.mul_one, List.drop_eq_getElem_cons hlt] at h1
    rw [List.getElem?_eq_getElem (show i < xs.length by omega)] at h1
    obtain ⟨x, hx, _, hw⟩ := trod_float he h1
    simp only [List.take_succ_cons, List.take_zero, List.cons.injEq, and_true] at hx
    exact ⟨x, by rw [List.getElem?_eq_getElem hlt, hx], hw⟩
  refine ⟨cs.toList.map fltV, by simp; omega, ?_, fun x hx => ?_⟩
  · congr 1
    apply Array.ext'
    simp only [List.map_map]
    apply List.ext_getElem?
    intro i
    by_cases hi : i < n
    · obtain ⟨x, hx, _⟩ := key i hi
      simp [hx, fltV]
    · rw [List.getElem?_eq_none (by omega), List.getElem?_eq_none (by simp; omega)]
  · obtain ⟨y, hy, rfl⟩ := List.mem_map.1 hx
    obtain ⟨i, hi⟩ := List.mem_iff_getElem?.1 hy
    have hlt : i < n := by
      have := (List.getElem?_eq_some_iff.1 hi).1
      omega
    obtain ⟨x, hx2, hw⟩ := key i hlt
    rw [hi] at hx2
    obtain rfl := Option.some.inj hx2
    exact hw

/-- What a listed array of floats holds. -/
theorem laid_floats {P : Program} {W : World} {name : String} {k : FloatKind} {zs : List Nat} {rest : List (String × DataW Unit)} {g : Nat} {t e : TypeId} {n : Nat}
    (hg : P.globalNamed name = some g) (hty : (P.globals[g]?).map (·.type) = some t) (ht : P.underlying t = some (.array n e)) (he : P.underlying e = some (.float k)) (hce : P.cellsOf e = 1) (hct : P.cellsOf t = n)
    (h : laidMet P ((name, .agg (zs.map fun z => .lit (.float k z))) :: rest) W) : g < W.heap.size ∧ ∃ c e fz, W.heap[g]? = some (.cells c e fz) ∧ c.toList = zs.map (Value.float k) ∧ ∀ v ∈ zs.map (Value.float k), v.oneCell' = true := by
  obtain ⟨ps, ⟨g', t', cs, fuel, p, q, hg', ht', hvar, hd, _, _⟩, _⟩ := h
  obtain rfl := Option.some.inj (hg.symm.trans hg')
  obtain rfl := Option.some.inj (hty.symm.trans ht')
  unfold World.var? at hvar
  rw [hg] at hvar
  simp only [Option.bind_some] at hvar
  split at hvar
  · rename_i c el fz hc
    simp only [Option.some.injEq] at hvar
    subst hvar
    refine ⟨(Array.getElem?_eq_some_iff.1 hc).1, c, el, fz, hc, ?_, fun v hv => ?_⟩
    · obtain ⟨xs, m, _, hx, hlen, hxl, hel⟩ := DataW.trod_array ht hd
      simp only [Prod.mk.injEq, DataW.agg.injEq] at hx
      have hlen : c.toList.length = n := hlen.trans hct
      have hx1 : xs.map (·.1) = zs.map fun z => (DataW.lit (.float k z) : DataW Unit) := hx.1.symm
      have hzl : zs.length = n := by
        have := congrArg List.length hx1
        simp at this
        omega
      apply List.ext_getElem?
      intro i
      by_cases hi : i < n
      · have h1 := hel i hi
        rw [hce, Nat.mul_one, List.drop_eq_getElem_cons (by omega)] at h1
        have hxi : xs[i]? = some xs[i] := List.getElem?_eq_getElem (by omega)
        rw [hxi] at h1
        obtain ⟨x, hx2, hx3, _⟩ := trod_float he h1
        simp only [List.take_succ_cons, List.take_zero, List.cons.injEq, and_true] at hx2
        have h2 : (xs.map (·.1))[i]? = some (DataW.lit (.float k x) : DataW Unit) := by simp [hxi, hx3]
        rw [hx1] at h2
        simp only [List.getElem?_map, Option.map_eq_some_iff, DataW.lit.injEq, Lit.float.injEq, true_and] at h2
        obtain ⟨z, hz, rfl⟩ := h2
        rw [List.getElem?_eq_getElem (by omega), hx2]
        simp [hz]
      · rw [List.getElem?_eq_none (by omega), List.getElem?_eq_none (by simp; omega)]
    · obtain ⟨z, _, rfl⟩ := List.mem_map.1 hv
      rfl
  · cases hvar

theorem laid_tail {P : Program} {x : String × DataW Unit} {r : List (String × DataW Unit)} {w : World} (h : laidMet P (x :: r) w) : laidMet P r w := by
  obtain ⟨n, d⟩ := x
  obtain ⟨ps, ⟨g, t, cs, fuel, p, q, _, _, _, _, hr, rfl⟩, hnd, hok⟩ := h
  exact ⟨q, hr, (List.nodup_append.1 hnd).2.1, fun b off hb => hok b off (List.mem_append_right _ hb)⟩
end Sm
