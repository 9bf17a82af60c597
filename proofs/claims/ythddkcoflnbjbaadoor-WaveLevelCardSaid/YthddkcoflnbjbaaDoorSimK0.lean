/-
  What is proved here: results of calls, arguments of calls, as the abstract evaluator has them. A text to be imported.
-/
import Derived.Test.YthddkcoflnbjbaaDoorSimI2
namespace Sm
open Go Go.RowKit

section calls
variable {P : Program} {T : Tab} {F : Fns} {B : Nat} {w0 : World} {E : Env} {hp : List Blk} {w : World} {a : Act} {tm : Tm}

def resV (tmps : Array Value) : ResultVar → Sem Value
  | .tmp t => pure (tmps.getD t Go.undef)
  | .cell a t => do loadVar t (← asAddr (tmps.getD a Go.undef))

theorem results_eq (fn : Func) (tmps : Array Value) : Go.results fn tmps = (do
    let vs ← fn.results.mapM (resV tmps)
    pure (if h : vs.size = 1 then vs[0] else .tuple vs)) := by
  unfold Go.results
  apply congrArg (fun g => (do
    let vs ← fn.results.mapM g
    pure (if h : vs.size = 1 then vs[0] else .tuple vs) : Sem Value))
  funext r
  cases r <;> rfl

theorem res_run (hT : TabOk P T) (hh : RH B w0 E hp w) (ht : RT E tm a.tmps) {r : ResultVar} {v : AV} (h : resA T tm hp r = some v) : ∃ u, (resV a.tmps r).run P w = .ok u w ∧ RV E v u := by
  cases r with
  | tmp t =>
    simp only [resA, Option.some.injEq] at h; subst h
    have := ht.eval (.tmp t)
    exact ⟨_, rfl, this⟩
  | cell x t =>
    simp only [resA] at h
    have hx := ht.eval (.tmp x)
    simp only [evalO, Act.eval] at hx
    split at h
    · rename_i i off hp1
      rw [hp1] at hx
      obtain ⟨e, he, hx⟩ := hx
      obtain ⟨u, hr, _, hrv⟩ := load_run hT hh he h
      refine ⟨u, ?_, hrv⟩
      simp only [resV, hx, asAddr, Sem.run_bind, Sem.run_pure, Result.andThen_ok, hr w rfl]
    · cases h

theorem resL_run (hT : TabOk P T) (hh : RH B w0 E hp w) (ht : RT E tm a.tmps) : ∀ (rs : List ResultVar) (vs : List AV), resL T tm hp rs = some vs →
    ∃ us, (rs.mapM (resV a.tmps)).run P w = .ok us w ∧ RA E vs us
  | [], vs, h => by
    simp only [resL, Option.some.injEq] at h; subst h
    exact ⟨[], rfl, rfl, by simp⟩
  | r :: rs, vs, h => by
    simp only [resL] at h
    split at h
    · rename_i v ws hv hws
      simp only [Option.some.injEq] at h; subst h
      obtain ⟨u, hr, hrv⟩ := res_run hT hh ht hv
      obtain ⟨us, hrs, hra⟩ := resL_run hT hh ht rs ws hws
      refine ⟨u :: us, ?_, by simp [hra.1], fun j v' u' h1 h2 => ?_⟩
      · simp only [List.mapM_cons, Sem.run_bind, hr, Result.andThen_ok, hrs, Sem.run_pure]
      · cases j with
        | zero => simp at h1 h2; subst h1; subst h2; exact hrv
        | succ j => simp at h1 h2; exact hra.2 j v' u' h1 h2
    · cases h

theorem tupOf_spec : ∀ (vs : List AV) (us : List Value) (l : List (Bool × List C1)), tupOf vs = some l → RA E vs us → l.length = us.length ∧ ∀ (j : Nat) (p : Bool × List C1) (u : Value), l[j]? = some p → us[j]? = some u → RP E p u
  | [], us, l, h, hr => by
    simp only [tupOf, Option.some.injEq] at h; subst h
    exact ⟨hr.1, by simp⟩
  | v :: vs, us, l, h, hr => by
    cases us with
    | nil => have := hr.1; simp at this
    | cons u us =>
      have h0 := hr.2 0 v u rfl rfl
      have hr' : RA E vs us := ⟨by have := hr.1; simpa using this, fun j v' u' h1 h2 => hr.2 (j + 1) v' u' (by simpa using h1) (by simpa using h2)⟩
      cases hrest : tupOf vs with
      | none => cases v <;> simp [tupOf, hrest] at h
      | some r =>
        obtain ⟨i1, i2⟩ := tupOf_spec vs us r hrest hr'
        cases v with
        | one c =>
          simp only [tupOf, hrest, Option.some.injEq] at h; subst h
          refine ⟨by simp [i1], fun j p u' h1 h2 => ?_⟩
          cases j with
          | zero => simp at h1 h2; subst h1; subst h2; exact ⟨_, rfl, h0⟩
          | succ j => simp at h1 h2; exact i2 j p u' h1 h2
        | agg cs =>
          simp only [tupOf, hrest, Option.some.injEq] at h; subst h
          refine ⟨by simp [i1], fun j p u' h1 h2 => ?_⟩
          cases j with
          | zero => simp at h1 h2; subst h1; subst h2; exact h0
          | succ j => simp at h1 h2; exact i2 j p u' h1 h2
        | tup l => simp [tupOf] at h
        | undef => simp [tupOf] at h
        | bad => simp [tupOf] at h

theorem result_run (hT : TabOk P T) (hh : RH B w0 E hp w) (ht : RT E tm a.tmps) {fn : Func} {v : AV} (h : resultA T fn tm hp = some v) : ∃ u, (Go.results fn a.tmps).run P w = .ok u w ∧ RV E v u := by
  unfold resultA at h
  rw [results_eq, Array.mapM_eq_mapM_toList]
  simp only [Sem.run_bind, Sem.run_map]
  split at h
  · rename_i v' hl
    simp only [Option.some.injEq] at h; subst h
    obtain ⟨us, hr, hra⟩ := resL_run hT hh ht _ _ hl
    rw [hr]
    match us, hra with
    | [u], hra =>
      refine ⟨u, ?_, hra.2 0 v' u rfl rfl⟩
      simp
    | [], hra => have := hra.1; simp at this
    | _ :: _ :: _, hra => have := hra.1; simp at this
  · rename_i vs hne hl
    simp only [Option.map_eq_some_iff] at h
    obtain ⟨l, hl2, rfl⟩ := h
    obtain ⟨us, hr, hra⟩ := resL_run hT hh ht _ _ hl
    rw [hr]
    obtain ⟨h1, h2⟩ := tupOf_spec vs us l hl2 hra
    refine ⟨.tuple us.toArray, ?_, us, rfl, h1, h2⟩
    have : us.length ≠ 1 := by
      intro e
      rw [← hra.1] at e
      match vs, e with
      | [x], _ => exact hne x rfl
    simp [this]
  · cases h

theorem ofArgs_n : ∀ (l : List AV) (i : Nat) (t : Tm), (ofArgs i l t).n = t.n
  | [], i, t => rfl
  | v :: l, i, t => by simp only [ofArgs]; rw [ofArgs_n l, setT_n]

theorem ofArgs_get : ∀ (l : List AV) (i : Nat) (t : Tm), t.n ≤ 4000 → ∀ j, j < t.n → getT (ofArgs i l t) j = if i ≤ j then (match l[j - i]? with | some v => v | none => getT t j) else getT t j
  | [], i, t, hn, j, hj => by simp [ofArgs]
  | v :: l, i, t, hn, j, hj => by
    simp only [ofArgs]
    rw [ofArgs_get l (i + 1) (setT t i v) (by rw [setT_n]; exact hn) j (by rw [setT_n]; exact hj)]
    rw [getT_setT hn hj]
    by_cases h1 : i + 1 ≤ j
    · rw [if_pos h1, if_pos (show i ≤ j by omega), if_neg (show ¬ i = j by omega), show j - i = (j - (i + 1)) + 1 from by omega]
      rfl
    · rw [if_neg h1]
      by_cases h2 : i = j
      · subst h2
        simp
      · rw [if_neg h2, if_neg (show ¬ i ≤ j by omega)]

theorem getT_leaf (n j : Nat) : getT ⟨n, .leaf⟩ j = .undef := by
  unfold getT
  cases Nat.blt j n <;> rfl

/-- A frame at its entry. -/
theorem RT.start {E : Env} {args : List AV} {us : List Value} (h : RA E args us) {n : Nat} (hn : n ≤ 4000) (hl : args.length ≤ n) :
    RT E (ofArgs 0 args ⟨n, .leaf⟩) (us.toArray ++ Array.replicate (n - us.toArray.size) Go.undef) := by
  have hul : us.length = args.length := h.1.symm
  refine ⟨by rw [ofArgs_n]; simp; omega, by rw [ofArgs_n]; exact hn, fun j hj => ?_⟩
  rw [ofArgs_n] at hj
  rw [ofArgs_get args 0 ⟨n, .leaf⟩ hn j hj, if_pos (Nat.zero_le _), Nat.sub_zero]
  rw [Array.getD_eq_getD_getElem?]
  by_cases hja : j < args.length
  · have h1 : args[j]? = some args[j] := List.getElem?_eq_getElem hja
    have h2 : us[j]? = some (us[j]'(by omega)) := List.getElem?_eq_getElem _
    rw [h1, Array.getElem?_append_left (by simp; omega)]
    simp only [List.getElem?_toArray, h2, Option.getD_some]
    exact h.2 j _ _ h1 h2
  · rw [List.getElem?_eq_none (by omega), Array.getElem?_append_right (by simp; omega)]
    simp only [getT_leaf]
    rw [Array.getElem?_replicate]
    split <;> rfl

end calls
end Sm
