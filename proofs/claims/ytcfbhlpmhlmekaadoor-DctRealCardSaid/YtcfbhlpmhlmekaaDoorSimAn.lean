/-
  What is proved here: contracts of functions that hand back values of which nothing is known, and change nothing that was there. A text to be imported.
-/
import Derived.Test.YtcfbhlpmhlmekaaDoorSimS
namespace Sm
open Go Go.RowKit
set_option linter.unusedSimpArgs false

/-- A contract: a value told by the evaluator's words (one that holds no memory); nothing that was there has turned. -/
def AnyCon (P : Program) (f : FuncId) (G : List ArgV → Option AV) : Prop :=
  (∀ (vs : Array Value) (w : World), (callFunc f vs).run P w = .ok (.enter f vs) w) ∧
  ∀ (avs : List ArgV) (v : AV), G avs = some v → ∀ (w : World) (us : List Value), LaidW w.heap.size w → ARs w avs us → Calls P f us.toArray w fun e w' => ∃ u, e = .returned u ∧ RV [] v u ∧ Below w.heap.size w w'

def Fns.addAny (F : Fns) (f : FuncId) (G : List ArgV → Option AV) : Fns :=
  { F with gnp := fun g args hp => match Nat.beq g f with
      | true => match viewsA hp args with
        | some avs => match G avs with
          | some v => some (True, v, hp)
          | .none => .none
        | .none => .none
      | false => F.gnp g args hp }

theorem FnsOk.addAny {P : Program} {F : Fns} {f : FuncId} {G : List ArgV → Option AV} (hF : FnsOk P F) (hc : AnyCon P f G) : FnsOk P (F.addAny f G) := by
  refine ⟨hF.pr, hF.pure, hF.pre, hF.ext, hF.gen, fun g args hp p v hp' h hp1 => ?_, hF.cal, hF.loops⟩
  simp only [Fns.addAny] at h
  split at h
  · rename_i hg
    have hg' : g = f := by rw [beq_eq] at hg; simpa using hg
    subst hg'
    split at h
    · rename_i avs havs
      split at h
      · rename_i v' hv
        simp only [Option.some.injEq, Prod.mk.injEq] at h
        obtain ⟨_, rfl, rfl⟩ := h
        refine ⟨hc.1, fun B w0 E w us hh hr => ?_⟩
        refine (hc.2 avs v' hv w us hh.laidW (viewsA_ARs hh args avs us havs hr)).mono ?_
        rintro e w' ⟨u, rfl, hrv, hb⟩
        exact ⟨E, u, rfl, List.prefix_refl _, RV.mono (List.nil_prefix) hrv, hh.congr hb⟩
      · cases h
    · cases h
  · exact hF.gnp g args hp p v hp' h hp1

/-- Such a contract out of a run in a memory of which less is known. -/
theorem any_of_runW {P : Program} {T : Tab} (hm : P.follows .mixedOrders = true) (hT : TabOk P T) {f : FuncId} {fn : Func} (hf : P.funcs[f]? = some fn)
    (hcall : ∀ (vs : Array Value) (w : World), (callFunc f vs).run P w = .ok (.enter f vs) w) {G : List ArgV → Option AV}
    (h : ∀ (avs : List ArgV) (v : AV), G avs = some v → ∃ F, FnsOk P F ∧ ∃ sts n orc as bs bs', canon2 sts avs 0 = some (as, bs) ∧ HpLe bs bs' ∧ runK P T F n fn as bs' orc (fun r _ => ∃ v', r = some v' ∧ ∀ E u, RV E v' u → RV [] v u)) : AnyCon P f G := by
  refine ⟨hcall, fun avs v hG w us hL hr => ?_⟩
  obtain ⟨F, hF, sts, n, orc, as, bs, bs', hcan, hle, hrun⟩ := h avs v hG
  obtain ⟨E, hE, hnf, hra, hblk⟩ := canon2_spec avs sts 0 as bs us [] hcan hr rfl
  have hh : RH w.heap.size w E bs w := by
    refine ⟨Below.refl _ _, Nat.le_refl _, hL, hE, fun i b e hi he _ => ?_, fun i j bi bj ei ej _ hi _ hei _ _ _ hro => ?_, hnf.frz _ _ _⟩
    · obtain ⟨hro, c, fz, h1, h2, h3, h4⟩ := hblk i b e hi he
      exact ⟨c, fz, h1, h2, (fun hf => by rw [hro] at hf; cases hf), h3, h4 E⟩
    · obtain ⟨hro', _⟩ := hblk i bi ei hi hei
      rw [hro] at hro'; cases hro'
  refine (run_sound hm hT hF hf hrun (hle.RH hh) (by simpa using hra) (fun r hp' hr => by obtain ⟨v, hv, _⟩ := hr; exact ⟨v, hv⟩)).mono ?_
  rintro e w' ⟨v', hp', E', u', rfl, ⟨v'', hv'', hk⟩, _, hrv, hrh⟩
  simp only [Option.some.injEq] at hv''
  subst hv''
  exact ⟨u', rfl, hk E' u' hrv, hrh.below⟩
end Sm
