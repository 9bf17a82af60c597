/-
  What is proved here: contracts of Go functions out of their abstract runs. A text to be imported.
-/
import Derived.Test.YthddkcoflnbjbaaDoorSimJ
namespace Sm
open Go Go.RowKit

section calls
variable {P : Program} {T : Tab} {F : Fns} {B : Nat} {w0 : World} {E : Env} {hp : List Blk} {w : World} {a : Act} {tm : Tm}

/-- A call, walked. -/
theorem run_sound (hm : P.follows .mixedOrders = true) (hT : TabOk P T) (hF : FnsOk P F) {f : FuncId} {fn : Func} (hf : P.funcs[f]? = some fn) {n : Nat} {args : List AV} {us : List Value} {orc : List Sg} {K : Option AV → List Blk → Prop}
    (h : runK P T F n fn args hp orc K) (hh : RH B w0 E hp w) (ha : RA E args us) (hK : ∀ r hp', K r hp' → ∃ v, r = some v) :
    Calls P f us.toArray w fun e w' => ∃ v hp' E' u, e = .returned u ∧ K (some v) hp' ∧ E <+: E' ∧ RV E' v u ∧ RH B w0 E' hp' w' := by
  unfold runK at h
  split at h
  · rename_i c hb
    split at h
    · rename_i hc
      refine calls_of_wp hf hb (code_sound hm hT hF h hh (RT.start ha hc.1 hc.2) ?_)
      intro x tm' hp' orc' E' a' w' hk hpre hrt hd hrh
      have fin : ∀ (hk : K (resultA T fn tm' hp') hp'), a'.defers = [] ∧ ∃ u, (Go.results fn a'.tmps).run P w' = .ok u w' ∧ ∃ v hp' E' u', Ending.returned u = .returned u' ∧ K (some v) hp' ∧ E <+: E' ∧ RV E' v u' ∧ RH B w0 E' hp' w' := fun hk => by
        obtain ⟨v, hv⟩ := hK _ _ hk
        obtain ⟨u, hr, hrv⟩ := result_run hT hrh hrt hv
        rw [hv] at hk
        exact ⟨hd, u, hr, v, hp', E', u, rfl, hk, hpre, hrv, hrh⟩
      cases x with
      | normal => exact fin hk
      | ret => exact fin hk
      | exit id => exact hk.elim
    · exact h.elim
  · exact h.elim

end calls
end Sm
