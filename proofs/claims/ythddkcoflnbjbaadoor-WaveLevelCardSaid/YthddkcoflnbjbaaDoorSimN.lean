/-
  What is proved here: a law out of its abstract run; arrays of whole numbers among a law's arguments, opened. A text to be imported.
-/
import Derived.Test.YthddkcoflnbjbaaDoorSimM
namespace Sm
open Go Go.RowKit Go.WideShapes Go.ChangeShapes

def isTrue : Option AV → Prop
  | some (.one (.sc (.bool b) _)) => b = true
  | _ => False

/-- A law, walked. -/
theorem law_of_run {P : Program} {T : Tab} {F : Fns} (hm : P.follows .mixedOrders = true) (hT : TabOk P T) (hF : FnsOk P F) {f : FuncId} {fn : Func} (hf : P.funcs[f]? = some fn)
    {st : Bool} {avs : List ArgV} {args : List AV} {bs : List Blk} {n : Nat} {orc : List Sg} (hcan : canon st avs 0 = some (args, bs)) (hrun : runK P T F n fn args bs orc (fun r _ => isTrue r))
    {w : World} {us : List Value} (hr : ARs w avs us) (hL : LaidW w.heap.size w := by first | assumption | exact laidNone (fun _ => rfl)) : Calls P f us.toArray w fun e w' => e = .returned (.bool true) ∧ Below w.heap.size w w' := by
  obtain ⟨E, hE, hnf, hra, hblk⟩ := canon_spec avs 0 args bs us [] hcan hr rfl
  have hh : RH w.heap.size w E bs w := by
    refine ⟨Below.refl _ _, Nat.le_refl _, hL, hE, fun i b e hi he _ => ?_, fun i j bi bj ei ej _ hi _ hei _ _ _ hro => ?_, hnf.frz _ _ _⟩
    · obtain ⟨hro, c, fz, h1, h2, h3, h4⟩ := hblk i b e hi he
      exact ⟨c, fz, h1, h2, (fun hf => by rw [hro] at hf; cases hf), h3, h4 E⟩
    · obtain ⟨hro', _⟩ := hblk i bi ei hi hei
      rw [hro] at hro'; cases hro'
  refine (run_sound hm hT hF hf hrun hh (by simpa using hra) (fun r hp' hr => ?_)).mono ?_
  · cases r with
    | some v => exact ⟨v, rfl⟩
    | none => exact hr.elim
  · rintro e w' ⟨v', hp', E', u', rfl, hk, _, hrv, hrh⟩
    refine ⟨?_, hrh.below⟩
    unfold isTrue at hk
    split at hk
    · rename_i b st' hb
      simp only [Option.some.injEq] at hb
      subst hb
      have := hrv.1
      rw [hk] at this
      rw [this]
    · exact hk.elim

/-- The arguments of a law that are values. -/
theorem ARs_vals (w : World) : ∀ us : List Value, ARs w (us.map .val) us := fun us =>
  ⟨by simp, fun j v u h1 h2 => by
    simp only [List.getElem?_map, h2, Option.map_some, Option.some.injEq] at h1
    subst h1
    exact rfl⟩

def intV : Value → Int
  | .int _ n => n
  | _ => 0

/-- An array of whole numbers, by value. -/
theorem open_arr {H : Type} {enc : TypeId × Value → H} {P : Program} {w : World} {base b0 : Nat} {spare : Nat → Bool} {held : Bool} {r : Reach} {t e : TypeId} {n : Nat} {k : IntKind} {v : Value} {d : DataW H} {ps : List MemPlace}
    (ht : P.underlying t = some (.array n e)) (he : P.underlying e = some (.int k)) (hce : P.cellsOf e = 1) (hct : P.cellsOf t = n) (hval : Value.okWide P w r b0 t v) (h : DataW.Trod enc P w base spare held t v d ps) :
    ∃ xs : List Int, xs.length = n ∧ v = .agg (xs.map (Value.int k)).toArray ∧ ∀ x ∈ xs, (Lit.int k x).wf = true := by
  have hv : ∃ cs, v = .agg cs ∧ cs.size = P.cellsOf t := by
    unfold Value.okWide at hval
    rw [ht] at hval
    obtain ⟨cs, h1, h2, _⟩ := hval
    exact ⟨cs, h1, h2⟩
  obtain ⟨cs, rfl, hsz⟩ := hv
  obtain ⟨fuel, hf⟩ := h
  obtain ⟨xs, m, rfl, _, hlen, hxl, hel⟩ := DataW.trod_array ht hf
  simp only [Value.cells] at hlen hel
  have key : ∀ i, i < n → ∃ x, cs.toList[i]? = some (.int k x) ∧ (Lit.int k x).wf = true := fun i hi => by
    have h1 := hel i hi
    have hlt : i < cs.toList.length := by omega
    rw [hce, Nat.mul_one, List.drop_eq_getElem_cons hlt] at h1
    rw [List.getElem?_eq_getElem (show i < xs.length by omega)] at h1
    obtain ⟨x, hx, _, hw⟩ := DataW.trod_int he h1
    simp only [List.take_succ_cons, List.take_zero, List.cons.injEq, and_true] at hx
    exact ⟨x, by rw [List.getElem?_eq_getElem hlt, hx], hw⟩
  refine ⟨cs.toList.map intV, by simp; omega, ?_, fun x hx => ?_⟩
  · congr 1
    apply Array.ext'
    simp only [List.map_map]
    apply List.ext_getElem?
    intro i
    by_cases hi : i < n
    · obtain ⟨x, hx, _⟩ := key i hi
      simp [hx, intV]
    · rw [List.getElem?_eq_none (by omega), List.getElem?_eq_none (by simp; omega)]
  · obtain ⟨y, hy, rfl⟩ := List.mem_map.1 hx
    obtain ⟨i, hi⟩ := List.mem_iff_getElem?.1 hy
    have hlt : i < n := by
      have := (List.getElem?_eq_some_iff.1 hi).1
      omega
    obtain ⟨x, hx2, hw⟩ := key i hlt
    rw [hi] at hx2
    obtain rfl := Option.some.inj hx2
    exact hw

/-- A list of so many numbers, told by a function of the place. -/
theorem list_of_fn (xs : List Int) (n : Nat) (h : xs.length = n) : xs = (List.range n).map fun i => xs.getD i 0 := by
  apply List.ext_getElem?
  intro i
  by_cases hi : i < n
  · simp [hi, h, List.getD]
  · rw [List.getElem?_eq_none (by omega), List.getElem?_eq_none (by simp; omega)]

end Sm
