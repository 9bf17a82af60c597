/-
  What is proved here: functions of Go's library that have no body (bits of a float, whole parts, roots), for the abstract evaluator. A text to be imported.
-/
import Derived.Test.YthddkcoflnbjbaaDoorSimO
import Derived.Laws.Externs
namespace Sm
open Go Go.RowKit

section ext
variable {P : Program} {f : FuncId} {fn : Func}

def GBits : List Value → Option (Option Prop × Value)
  | [.float .f64 b] => some (none, .int .u64 b)
  | _ => none

theorem ext_bits (hf : P.funcs[f]? = some fn) (hname : (fn.name == "runtime.NumGoroutine") = false) (hb : fn.body.isNone = true) (hn : Extern.findNext fn = none) (he : Extern.find fn = some Extern.MathFloatBits.float64bits) :
    ∀ (vs : List Value) (p : Option Prop) (u : Value), GBits vs = some (p, u) → (∀ q, p = some q → q) → ∀ w, (callFunc f vs.toArray).run P w = .ok (.value u) w := by
  intro vs p u h _ w
  unfold GBits at h
  split at h
  · simp only [Option.some.injEq, Prod.mk.injEq] at h
    obtain ⟨_, rfl⟩ := h
    rw [run_callFunc_extern hf hname hb hn he]
    rfl
  · cases h

def GFrom : List Value → Option (Option Prop × Value)
  | [.int .u64 n] => some (none, .float .f64 n.toNat)
  | _ => none

theorem ext_from (hf : P.funcs[f]? = some fn) (hname : (fn.name == "runtime.NumGoroutine") = false) (hb : fn.body.isNone = true) (hn : Extern.findNext fn = none) (he : Extern.find fn = some Extern.MathFloatBits.float64frombits) :
    ∀ (vs : List Value) (p : Option Prop) (u : Value), GFrom vs = some (p, u) → (∀ q, p = some q → q) → ∀ w, (callFunc f vs.toArray).run P w = .ok (.value u) w := by
  intro vs p u h _ w
  unfold GFrom at h
  split at h
  · simp only [Option.some.injEq, Prod.mk.injEq] at h
    obtain ⟨_, rfl⟩ := h
    rw [run_callFunc_extern hf hname hb hn he]
    rfl
  · cases h

/-- The whole part of a float. -/
def wholeF (way : Ieee.Toward) (x : Nat) : Nat := FloatKind.f64.encode ((FloatKind.f64.decode x).integral way)

def numF (x : Nat) : Bool := !(FloatKind.f64.decode x).isNaN

def GWhole (way : Ieee.Toward) : List Value → Option (Option Prop × Value)
  | [.float .f64 x] => some (some (numF x = true), .float .f64 (wholeF way x))
  | _ => none

theorem whole_eq (name : String) (way : Ieee.Toward) (x : Nat) : ∃ g : Bool → Nat → Sem Value, Extern.MathFloor.toIntegral name way #[.float .f64 x] = (match FloatKind.f64.decode x with
    | .nan s t => g s t
    | d => pure (.float .f64 (FloatKind.f64.encode (d.integral way)))) := ⟨_, rfl⟩

theorem root_eq (x : Nat) : ∃ g : Sem Value, Extern.MathSqrt.sqrt #[.float .f64 x] = (match FloatKind.f64.format.sqrt x with
    | some r => pure (.float .f64 r)
    | none => g) := ⟨_, rfl⟩

theorem ext_whole {name : String} {way : Ieee.Toward} (hf : P.funcs[f]? = some fn) (hname : (fn.name == "runtime.NumGoroutine") = false) (hb : fn.body.isNone = true) (hn : Extern.findNext fn = none) (he : Extern.find fn = some (Extern.MathFloor.toIntegral name way)) :
    ∀ (vs : List Value) (p : Option Prop) (u : Value), GWhole way vs = some (p, u) → (∀ q, p = some q → q) → ∀ w, (callFunc f vs.toArray).run P w = .ok (.value u) w := by
  intro vs p u h hp w
  unfold GWhole at h
  split at h
  · rename_i x
    simp only [Option.some.injEq, Prod.mk.injEq] at h
    obtain ⟨rfl, rfl⟩ := h
    have hn1 := hp _ rfl
    unfold numF at hn1
    rw [run_callFunc_extern hf hname hb hn he]
    obtain ⟨g, hg⟩ := whole_eq name way x
    rw [show [Value.float .f64 x].toArray = #[.float .f64 x] from rfl, hg]
    unfold wholeF
    cases hd : FloatKind.f64.decode x with
    | nan s t => rw [hd] at hn1; simp [Ieee.Datum.isNaN] at hn1
    | number s m e => rfl
    | infinity s => rfl
  · cases h

/-- The root of a float. -/
def rootF (x : Nat) : Nat := (FloatKind.f64.format.sqrt x).getD 0

def GRoot : List Value → Option (Option Prop × Value)
  | [.float .f64 x] => some (some ((FloatKind.f64.format.sqrt x).isSome = true), .float .f64 (rootF x))
  | _ => none

theorem ext_root (hf : P.funcs[f]? = some fn) (hname : (fn.name == "runtime.NumGoroutine") = false) (hb : fn.body.isNone = true) (hn : Extern.findNext fn = none) (he : Extern.find fn = some Extern.MathSqrt.sqrt) :
    ∀ (vs : List Value) (p : Option Prop) (u : Value), GRoot vs = some (p, u) → (∀ q, p = some q → q) → ∀ w, (callFunc f vs.toArray).run P w = .ok (.value u) w := by
  intro vs p u h hp w
  unfold GRoot at h
  split at h
  · rename_i x
    simp only [Option.some.injEq, Prod.mk.injEq] at h
    obtain ⟨rfl, rfl⟩ := h
    obtain ⟨r, hr⟩ := Option.isSome_iff_exists.1 (hp _ rfl)
    rw [run_callFunc_extern hf hname hb hn he]
    obtain ⟨g, hg⟩ := root_eq x
    rw [show [Value.float .f64 x].toArray = #[.float .f64 x] from rfl, hg]
    unfold rootF
    rw [hr]
    rfl
  · cases h

end ext
end Sm
