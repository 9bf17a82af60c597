/-
  What is proved here: contracts of quant.Check, of the reference's too. A text to be imported.
-/
import Derived.Test.YteikdpagoojdlaaBase
import Derived.Test.YteikdpagoojdlaaSimO
namespace Go.Proofs.Yteikdpagoojdlaa
open Sm Go Go.RowKit
set_option maxRecDepth 1000000
/-- Why a table may not be. -/
def chk (c : Nat → Int) (wide : Bool) : Nat → Nat → Bool → Int
  | 0, _, high => bif high && !wide then 3 else 0
  | n + 1, i, high => bif c i == 0 then 80 else chk c wide n (i + 1) (high || decide (c i > 255))
def chkT (c : Nat → Int) (wide : Bool) (u : Value) : Nat → Nat → Int → Prop
  | 0, _, e => some (Value.int .i64 e) = some u
  | n + 1, i, e => ((c i == 0) = true → some (Value.int .i64 80) = some u) ∧ ((c i == 0) = false → chkT c wide u n (i + 1) (bif (bif decide (c i > 255) then !wide else false) then 3 else e))
theorem chkT_ok (c : Nat → Int) (wide : Bool) : ∀ (n i : Nat) (high : Bool), chkT c wide (.int .i64 (chk c wide n i high)) n i (bif high && !wide then 3 else 0)
  | 0, _, _ => rfl
  | n + 1, i, high => by
    refine ⟨fun h => ?_, fun h => ?_⟩
    · simp only [chk, h, cond_true]
    · simp only [chk, h, cond_false]
      have := chkT_ok c wide n (i + 1) (high || decide (c i > 255))
      cases high <;> cases wide <;> cases hd : decide (c i > 255) <;> rw [hd] at this <;> exact this
def chkR (c : Nat → Int) (wide : Bool) (u : Value) : Nat → Nat → Bool → Prop
  | 0, _, high => ((bif high then !wide else false) = true → some (Value.int .i64 3) = some u) ∧ ((bif high then !wide else false) = false → some (Value.int .i64 0) = some u)
  | n + 1, i, high => ((c i == 0) = true → some (Value.int .i64 80) = some u) ∧ ((c i == 0) = false → chkR c wide u n (i + 1) (bif high then true else decide (c i > 255)))
theorem chkR_ok (c : Nat → Int) (wide : Bool) : ∀ (n i : Nat) (high : Bool), chkR c wide (.int .i64 (chk c wide n i high)) n i high
  | 0, _, high => by cases high <;> cases wide <;> exact ⟨(fun h => by first | rfl | cases h), (fun h => by first | rfl | cases h)⟩
  | n + 1, i, high => by
    refine ⟨fun h => ?_, fun h => ?_⟩
    · simp only [chk, h, cond_true]
    · simp only [chk, h, cond_false]
      have := chkR_ok c wide n (i + 1) (high || decide (c i > 255))
      cases high <;> exact this
def GCheck : List ArgV → Option Value
  | [.val (.pointer none), .val (.bool _)] => some (.int .i64 80)
  | [.mem _ cs, .val (.bool wide)] => intsK .u16 cs (vecN 64 fun c => some (.int .i64 (chk c wide 64 0 false)))
  | _ => none
def GCheckR : List ArgV → Option Value
  | [.val (.agg cs), .val (.bool wide)] => intsK .u16 cs.toList (vecN 64 fun c => some (.int .i64 (chk c wide 64 0 false)))
  | _ => none
theorem run12 (e : TypeId) (c : Nat → Int) (wide : Bool) (u : Value) : runK Try.prog T Fns.none 3000 Try.f12 [.one (.ptr 0 0), .one (.sc (.bool wide) false)] [{ body := .li (cellsK .u16 false 64 c), elem := e, live := true, ro := true }] [] (fun r _ => resW r = some u) = chkT c wide u 64 0 0 := by kernel_rfl
theorem run12n (wide : Bool) (u : Value) : runK Try.prog T Fns.none 3000 Try.f12 [.one (.sc (.pointer none) false), .one (.sc (.bool wide) false)] [] [.b true] (fun r _ => resW r = some u) = (true = true ∧ some (Value.int .i64 80) = some u) := by kernel_rfl
theorem run13 (c : Nat → Int) (wide : Bool) (u : Value) : runK Try.prog T Fns.none 3000 Try.f13 [.agg (cellsK .u16 false 64 c), .one (.sc (.bool wide) false)] [] [] (fun r _ => resW r = some u) = chkR c wide u 64 0 false := by kernel_rfl
theorem con12 : Con Try.prog 12 GCheck := by
  refine con_of_runW hm hT FnsOk.none Try.func12 Try.call12 fun avs u h => ?_
  unfold GCheck at h
  split at h
  · simp only [Option.some.injEq] at h; subst h
    exact ⟨[], 3000, [.b true], _, _, rfl, of_run (run12n _ _) ⟨rfl, rfl⟩⟩
  · rename_i e cs wide
    obtain ⟨b, rfl, h2⟩ := arrK_spec h
    simp only [Option.some.injEq] at h2; subst h2
    exact ⟨[], 3000, [], _, _, by kernel_rfl, of_run (run12 e b wide _) (chkT_ok b wide 64 0 false)⟩
  · cases h
theorem con13 : Con Try.prog 13 GCheckR := by
  refine con_of_runW hm hT FnsOk.none Try.func13 Try.call13 fun avs u h => ?_
  unfold GCheckR at h
  split at h
  · rename_i cs wide
    obtain ⟨b, hb, h2⟩ := arrK_spec h
    obtain rfl : cs = (valsK .u16 64 b).toArray := by apply Array.ext'; rw [hb]
    simp only [Option.some.injEq] at h2; subst h2
    exact ⟨[], 3000, [], _, _, by kernel_rfl, of_run (run13 b wide _) (chkR_ok b wide 64 0 false)⟩
  · cases h
noncomputable def FC : Fns := (Fns.none.add 12 GCheck).add 13 GCheckR
theorem FCok : FnsOk Try.prog FC := (FnsOk.none.add con12).add con13
end Go.Proofs.Yteikdpagoojdlaa
