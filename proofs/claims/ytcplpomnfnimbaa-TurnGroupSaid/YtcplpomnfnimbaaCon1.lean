/-
  What is proved here: contracts of the turnings' tables, of Index, of Size and Place. A text to be imported.
-/
import Derived.Test.YtcplpomnfnimbaaBase
import Derived.Test.YtcplpomnfnimbaaSimO
namespace Go.Proofs.Ytcplpomnfnimbaa
open Sm Go Go.RowKit
set_option maxRecDepth 1000000
set_option linter.unusedSimpArgs false
set_option linter.unusedVariables false
abbrev W (x : Int) : Int := IntKind.i64.wrap x
def di8 (x : Int) : AV := .one (.sc (.int .i8 x) false)
def li8 (x : Int) : AV := .one (.sc (.int .i8 x) true)
def inR (h : Int) : Bool := decide (1 ≤ h) && decide (h ≤ 8)
def wayL : List Bool := [false, false, false, false, false, false, true, false, false, true, true, false, false, true, false, false, false, true, false, true, true, true, true, true, true, false, true]
def part (h : Int) (k : Nat) : Bool := inR h && wayL.getD (3 * h.toNat + k) false
def GWays : List ArgV → Option Value
  | [] => some (.agg (wayL.map Value.bool).toArray)
  | _ => none
theorem con31 : Con Try.prog 31 GWays := by
  refine con_of_runW hm hT0 FnsOk.none Try.func31 Try.call31 fun avs u h => ?_
  cases avs with
  | nil =>
    simp only [GWays, Option.some.injEq] at h; subst h
    have hr : ∀ u : Value, runK Try.prog T0 Fns.none 100 Try.f31 [] [] [] (fun r _ => resW r = some u) = (some (Value.agg (wayL.map Value.bool).toArray) = some u) := by intro u; kernel_rfl
    exact ⟨[], 100, [], [], [], rfl, of_run (hr _) rfl⟩
  | cons a l => cases h
noncomputable def F1 : Fns := Fns.none.add 31 GWays
theorem F1ok : FnsOk Try.prog F1 := FnsOk.none.add con31
def GOf : List ArgV → Option Value
  | [.val (.int .i8 h)] => some (.tuple #[.agg #[.bool (part h 0), .bool (part h 1), .bool (part h 2)], .bool (inR h)])
  | _ => none
theorem r30_1 (u : Value) : runK Try.prog T0 F1 200 Try.f30 [li8 1] [] [] (fun r _ => resW r = some u) = (some (Value.tuple #[.agg #[.bool (part 1 0), .bool (part 1 1), .bool (part 1 2)], .bool (inR 1)]) = some u) := by kernel_rfl
theorem r30_2 (u : Value) : runK Try.prog T0 F1 200 Try.f30 [li8 2] [] [] (fun r _ => resW r = some u) = (some (Value.tuple #[.agg #[.bool (part 2 0), .bool (part 2 1), .bool (part 2 2)], .bool (inR 2)]) = some u) := by kernel_rfl
theorem r30_3 (u : Value) : runK Try.prog T0 F1 200 Try.f30 [li8 3] [] [] (fun r _ => resW r = some u) = (some (Value.tuple #[.agg #[.bool (part 3 0), .bool (part 3 1), .bool (part 3 2)], .bool (inR 3)]) = some u) := by kernel_rfl
theorem r30_4 (u : Value) : runK Try.prog T0 F1 200 Try.f30 [li8 4] [] [] (fun r _ => resW r = some u) = (some (Value.tuple #[.agg #[.bool (part 4 0), .bool (part 4 1), .bool (part 4 2)], .bool (inR 4)]) = some u) := by kernel_rfl
theorem r30_5 (u : Value) : runK Try.prog T0 F1 200 Try.f30 [li8 5] [] [] (fun r _ => resW r = some u) = (some (Value.tuple #[.agg #[.bool (part 5 0), .bool (part 5 1), .bool (part 5 2)], .bool (inR 5)]) = some u) := by kernel_rfl
theorem r30_6 (u : Value) : runK Try.prog T0 F1 200 Try.f30 [li8 6] [] [] (fun r _ => resW r = some u) = (some (Value.tuple #[.agg #[.bool (part 6 0), .bool (part 6 1), .bool (part 6 2)], .bool (inR 6)]) = some u) := by kernel_rfl
theorem r30_7 (u : Value) : runK Try.prog T0 F1 200 Try.f30 [li8 7] [] [] (fun r _ => resW r = some u) = (some (Value.tuple #[.agg #[.bool (part 7 0), .bool (part 7 1), .bool (part 7 2)], .bool (inR 7)]) = some u) := by kernel_rfl
theorem r30_8 (u : Value) : runK Try.prog T0 F1 200 Try.f30 [li8 8] [] [] (fun r _ => resW r = some u) = (some (Value.tuple #[.agg #[.bool (part 8 0), .bool (part 8 1), .bool (part 8 2)], .bool (inR 8)]) = some u) := by kernel_rfl
theorem r30_lo (h : Int) (u : Value) : runK Try.prog T0 F1 200 Try.f30 [di8 h] [] [.b true] (fun r _ => resW r = some u) = ((decide (h < 1) = true) ∧ (some (Value.tuple #[.agg #[.bool false, .bool false, .bool false], .bool false]) = some u)) := by kernel_rfl
theorem r30_hi (h : Int) (u : Value) : runK Try.prog T0 F1 200 Try.f30 [di8 h] [] [.b false, .b true] (fun r _ => resW r = some u) = ((decide (h < 1) = false) ∧ (decide (h > 8) = true) ∧ (some (Value.tuple #[.agg #[.bool false, .bool false, .bool false], .bool false]) = some u)) := by kernel_rfl
theorem eight {h : Int} (h1 : 1 ≤ h) (h2 : h ≤ 8) : h = 1 ∨ h = 2 ∨ h = 3 ∨ h = 4 ∨ h = 5 ∨ h = 6 ∨ h = 7 ∨ h = 8 := by omega
theorem inR_iff (h : Int) : inR h = true ↔ 1 ≤ h ∧ h ≤ 8 := by simp [inR]
theorem con30 : Con Try.prog 30 GOf := by
  refine con_of_runW hm hT0 F1ok Try.func30 Try.call30 fun avs u e => ?_
  unfold GOf at e
  split at e
  · rename_i h
    simp only [Option.some.injEq] at e; subst e
    by_cases h1 : h < 1
    · have hp : inR h = false := by rw [← Bool.not_eq_true, inR_iff]; omega
      refine ⟨[false], 200, [.b true], _, _, rfl, of_run (r30_lo h _) ⟨by simpa using h1, ?_⟩⟩
      simp only [part, hp, Bool.false_and]
    · by_cases h2 : h > 8
      · have hp : inR h = false := by rw [← Bool.not_eq_true, inR_iff]; omega
        refine ⟨[false], 200, [.b false, .b true], _, _, rfl, of_run (r30_hi h _) ⟨by simpa using h1, by simpa using h2, ?_⟩⟩
        simp only [part, hp, Bool.false_and]
      · rcases eight (h := h) (by omega) (by omega) with rfl | rfl | rfl | rfl | rfl | rfl | rfl | rfl
        · exact ⟨[true], 200, [], _, _, rfl, of_run (r30_1 _) rfl⟩
        · exact ⟨[true], 200, [], _, _, rfl, of_run (r30_2 _) rfl⟩
        · exact ⟨[true], 200, [], _, _, rfl, of_run (r30_3 _) rfl⟩
        · exact ⟨[true], 200, [], _, _, rfl, of_run (r30_4 _) rfl⟩
        · exact ⟨[true], 200, [], _, _, rfl, of_run (r30_5 _) rfl⟩
        · exact ⟨[true], 200, [], _, _, rfl, of_run (r30_6 _) rfl⟩
        · exact ⟨[true], 200, [], _, _, rfl, of_run (r30_7 _) rfl⟩
        · exact ⟨[true], 200, [], _, _, rfl, of_run (r30_8 _) rfl⟩
  · cases e
def boolsV : List Value → Option (List Bool)
  | [] => some []
  | .bool b :: l => match boolsV l with
    | some r => some (b :: r)
    | none => none
  | _ :: _ => none
theorem boolsV_spec : ∀ (l : List Value) (r : List Bool), boolsV l = some r → l = r.map Value.bool
  | [], r, h => by simp only [boolsV, Option.some.injEq] at h; subst h; rfl
  | x :: l, r, h => by
    unfold boolsV at h
    split at h
    · rename_i e; cases e
    · rename_i b l' e
      obtain ⟨rfl, rfl⟩ := List.cons.inj e
      split at h
      · rename_i r' hr
        simp only [Option.some.injEq] at h; subst h
        rw [boolsV_spec _ _ hr]; rfl
      · cases h
    · cases h
def idxF : Bool → Bool → Bool → Int
  | false, false, false => 0
  | false, false, true => 4
  | false, true, false => 3
  | false, true, true => 5
  | true, false, false => 1
  | true, false, true => 7
  | true, true, false => 2
  | true, true, true => 6
def GIdx : List ArgV → Option Value
  | [.sli e cs off len sz, .val (.agg vs)] => match boolsV cs, boolsV vs.toList with
    | some l, some [c, r, x] => if e = 70 ∧ off = 3 ∧ len = 8 ∧ sz = 3 ∧ l = wayL then some (.int .i64 (idxF c r x)) else none
    | _, _ => none
  | _ => none
def wayB (st : Bool) : Blk := { body := .li (wayL.map fun b => .sc (.bool b) st), elem := 70, live := true, ro := true }
theorem r32_000 (u : Value) : runK Try.prog T0 Fns.none 400 Try.f32 [.one (.sl 0 3 8 3), .agg [.sc (.bool false) true, .sc (.bool false) true, .sc (.bool false) true]] [wayB true] [] (fun r _ => resW r = some u) = (some (Value.int .i64 (idxF false false false)) = some u) := by kernel_rfl
theorem r32_001 (u : Value) : runK Try.prog T0 Fns.none 400 Try.f32 [.one (.sl 0 3 8 3), .agg [.sc (.bool false) true, .sc (.bool false) true, .sc (.bool true) true]] [wayB true] [] (fun r _ => resW r = some u) = (some (Value.int .i64 (idxF false false true)) = some u) := by kernel_rfl
theorem r32_010 (u : Value) : runK Try.prog T0 Fns.none 400 Try.f32 [.one (.sl 0 3 8 3), .agg [.sc (.bool false) true, .sc (.bool true) true, .sc (.bool false) true]] [wayB true] [] (fun r _ => resW r = some u) = (some (Value.int .i64 (idxF false true false)) = some u) := by kernel_rfl
theorem r32_011 (u : Value) : runK Try.prog T0 Fns.none 400 Try.f32 [.one (.sl 0 3 8 3), .agg [.sc (.bool false) true, .sc (.bool true) true, .sc (.bool true) true]] [wayB true] [] (fun r _ => resW r = some u) = (some (Value.int .i64 (idxF false true true)) = some u) := by kernel_rfl
theorem r32_100 (u : Value) : runK Try.prog T0 Fns.none 400 Try.f32 [.one (.sl 0 3 8 3), .agg [.sc (.bool true) true, .sc (.bool false) true, .sc (.bool false) true]] [wayB true] [] (fun r _ => resW r = some u) = (some (Value.int .i64 (idxF true false false)) = some u) := by kernel_rfl
theorem r32_101 (u : Value) : runK Try.prog T0 Fns.none 400 Try.f32 [.one (.sl 0 3 8 3), .agg [.sc (.bool true) true, .sc (.bool false) true, .sc (.bool true) true]] [wayB true] [] (fun r _ => resW r = some u) = (some (Value.int .i64 (idxF true false true)) = some u) := by kernel_rfl
theorem r32_110 (u : Value) : runK Try.prog T0 Fns.none 400 Try.f32 [.one (.sl 0 3 8 3), .agg [.sc (.bool true) true, .sc (.bool true) true, .sc (.bool false) true]] [wayB true] [] (fun r _ => resW r = some u) = (some (Value.int .i64 (idxF true true false)) = some u) := by kernel_rfl
theorem r32_111 (u : Value) : runK Try.prog T0 Fns.none 400 Try.f32 [.one (.sl 0 3 8 3), .agg [.sc (.bool true) true, .sc (.bool true) true, .sc (.bool true) true]] [wayB true] [] (fun r _ => resW r = some u) = (some (Value.int .i64 (idxF true true true)) = some u) := by kernel_rfl
theorem con32 : Con Try.prog 32 GIdx := by
  refine con_of_runW hm hT0 FnsOk.none Try.func32 Try.call32 fun avs u e => ?_
  unfold GIdx at e
  split at e
  · rename_i e' cs off len sz vs
    split at e
    · rename_i l c r x h1 h2
      split at e
      · rename_i hc
        obtain ⟨rfl, rfl, rfl, rfl, rfl⟩ := hc
        have h1 := boolsV_spec _ _ h1
        have h2 := boolsV_spec _ _ h2
        have h3 : vs = #[.bool c, .bool r, .bool x] := Array.ext' (by simpa using h2)
        subst h1; subst h3
        simp only [Option.some.injEq] at e; subst e
        cases c <;> cases r <;> cases x
        · exact ⟨[true, true], 400, [], _, _, rfl, of_run (r32_000 _) rfl⟩
        · exact ⟨[true, true], 400, [], _, _, rfl, of_run (r32_001 _) rfl⟩
        · exact ⟨[true, true], 400, [], _, _, rfl, of_run (r32_010 _) rfl⟩
        · exact ⟨[true, true], 400, [], _, _, rfl, of_run (r32_011 _) rfl⟩
        · exact ⟨[true, true], 400, [], _, _, rfl, of_run (r32_100 _) rfl⟩
        · exact ⟨[true, true], 400, [], _, _, rfl, of_run (r32_101 _) rfl⟩
        · exact ⟨[true, true], 400, [], _, _, rfl, of_run (r32_110 _) rfl⟩
        · exact ⟨[true, true], 400, [], _, _, rfl, of_run (r32_111 _) rfl⟩
      · cases e
    · cases e
  · cases e
noncomputable def F2 : Fns := ((Fns.none.add 31 GWays).add 30 GOf).add 32 GIdx
theorem F2ok : FnsOk Try.prog F2 := (F1ok.add con30).add con32
def GIs : List ArgV → Option Value
  | [.val (.int .i8 h)] => some (.bool (bif decide (h ≥ 1) then decide (h ≤ 8) else false))
  | _ => none
theorem con33 : Con Try.prog 33 GIs := by
  refine con_of_runW hm hT FnsOk.none Try.func33 Try.call33 fun avs u e => ?_
  unfold GIs at e
  split at e
  · rename_i h
    simp only [Option.some.injEq] at e; subst e
    have hr : ∀ (h : Int) (u : Value), runK Try.prog T Fns.none 200 Try.f33 [di8 h] [] [] (fun r _ => resW r = some u) = (some (Value.bool (bif decide (h ≥ 1) then decide (h ≤ 8) else false)) = some u) := by intro h u; kernel_rfl
    exact ⟨[false], 200, [], _, _, rfl, of_run (hr _ _) rfl⟩
  · cases e
def GSize : List ArgV → Option Value
  | [.val (.int .i8 h), .val (.int .i64 w), .val (.int .i64 v)] => some (.tuple #[.int .i64 (bif decide (h ≥ 5) then v else w), .int .i64 (bif decide (h ≥ 5) then w else v)])
  | _ => none
theorem con34 : Con Try.prog 34 GSize := by
  refine con_of_runW hm hT0 FnsOk.none Try.func34 Try.call34 fun avs u e => ?_
  unfold GSize at e
  split at e
  · rename_i h w v
    simp only [Option.some.injEq] at e; subst e
    have hr : ∀ (h w v : Int) (u : Value), runK Try.prog T0 Fns.none 200 Try.f34 [di8 h, di w, di v] [] [] (fun r _ => resW r = some u) = ((decide (h ≥ 5) = true → some (Value.tuple #[.int .i64 v, .int .i64 w]) = some u) ∧ (decide (h ≥ 5) = false → some (Value.tuple #[.int .i64 w, .int .i64 v]) = some u)) := by intro h w v u; kernel_rfl
    refine ⟨[false, false, false], 200, [], _, _, rfl, of_run (hr _ _ _ _) ⟨fun e => ?_, fun e => ?_⟩⟩ <;> rw [e] <;> rfl
  · cases e
def pX (t w h x y : Int) : Int := bif t == 2 then W (W (w - 1) - x) else bif t == 3 then W (W (w - 1) - x) else bif t == 4 then x else bif t == 5 then y else bif t == 6 then y else bif t == 7 then W (W (w - 1) - y) else bif t == 8 then W (W (w - 1) - y) else x
def pY (t w h x y : Int) : Int := bif t == 2 then y else bif t == 3 then W (W (h - 1) - y) else bif t == 4 then W (W (h - 1) - y) else bif t == 5 then x else bif t == 6 then W (W (h - 1) - x) else bif t == 7 then W (W (h - 1) - x) else bif t == 8 then x else y
def GPlace : List ArgV → Option Value
  | [.val (.int .i8 t), .val (.int .i64 w), .val (.int .i64 h), .val (.int .i64 x), .val (.int .i64 y)] => some (.tuple #[.int .i64 (pX t w h x y), .int .i64 (pY t w h x y)])
  | _ => none
theorem r35_2 (t w h x y : Int) (u : Value) : runK Try.prog T0 Fns.none 300 Try.f35 [di8 t, di w, di h, di x, di y] [] [.b true] (fun r _ => resW r = some u) = ((t == 2) = true ∧ some (Value.tuple #[.int .i64 (W (W (w - 1) - x)), .int .i64 (y)]) = some u) := by kernel_rfl
theorem r35_3 (t w h x y : Int) (u : Value) : runK Try.prog T0 Fns.none 300 Try.f35 [di8 t, di w, di h, di x, di y] [] [.b false, .b true] (fun r _ => resW r = some u) = ((t == 2) = false ∧ (t == 3) = true ∧ some (Value.tuple #[.int .i64 (W (W (w - 1) - x)), .int .i64 (W (W (h - 1) - y))]) = some u) := by kernel_rfl
theorem r35_4 (t w h x y : Int) (u : Value) : runK Try.prog T0 Fns.none 300 Try.f35 [di8 t, di w, di h, di x, di y] [] [.b false, .b false, .b true] (fun r _ => resW r = some u) = ((t == 2) = false ∧ (t == 3) = false ∧ (t == 4) = true ∧ some (Value.tuple #[.int .i64 (x), .int .i64 (W (W (h - 1) - y))]) = some u) := by kernel_rfl
theorem r35_5 (t w h x y : Int) (u : Value) : runK Try.prog T0 Fns.none 300 Try.f35 [di8 t, di w, di h, di x, di y] [] [.b false, .b false, .b false, .b true] (fun r _ => resW r = some u) = ((t == 2) = false ∧ (t == 3) = false ∧ (t == 4) = false ∧ (t == 5) = true ∧ some (Value.tuple #[.int .i64 (y), .int .i64 (x)]) = some u) := by kernel_rfl
theorem r35_6 (t w h x y : Int) (u : Value) : runK Try.prog T0 Fns.none 300 Try.f35 [di8 t, di w, di h, di x, di y] [] [.b false, .b false, .b false, .b false, .b true] (fun r _ => resW r = some u) = ((t == 2) = false ∧ (t == 3) = false ∧ (t == 4) = false ∧ (t == 5) = false ∧ (t == 6) = true ∧ some (Value.tuple #[.int .i64 (y), .int .i64 (W (W (h - 1) - x))]) = some u) := by kernel_rfl
theorem r35_7 (t w h x y : Int) (u : Value) : runK Try.prog T0 Fns.none 300 Try.f35 [di8 t, di w, di h, di x, di y] [] [.b false, .b false, .b false, .b false, .b false, .b true] (fun r _ => resW r = some u) = ((t == 2) = false ∧ (t == 3) = false ∧ (t == 4) = false ∧ (t == 5) = false ∧ (t == 6) = false ∧ (t == 7) = true ∧ some (Value.tuple #[.int .i64 (W (W (w - 1) - y)), .int .i64 (W (W (h - 1) - x))]) = some u) := by kernel_rfl
theorem r35_8 (t w h x y : Int) (u : Value) : runK Try.prog T0 Fns.none 300 Try.f35 [di8 t, di w, di h, di x, di y] [] [.b false, .b false, .b false, .b false, .b false, .b false, .b true] (fun r _ => resW r = some u) = ((t == 2) = false ∧ (t == 3) = false ∧ (t == 4) = false ∧ (t == 5) = false ∧ (t == 6) = false ∧ (t == 7) = false ∧ (t == 8) = true ∧ some (Value.tuple #[.int .i64 (W (W (w - 1) - y)), .int .i64 (x)]) = some u) := by kernel_rfl
theorem r35_9 (t w h x y : Int) (u : Value) : runK Try.prog T0 Fns.none 300 Try.f35 [di8 t, di w, di h, di x, di y] [] [.b false, .b false, .b false, .b false, .b false, .b false, .b false] (fun r _ => resW r = some u) = ((t == 2) = false ∧ (t == 3) = false ∧ (t == 4) = false ∧ (t == 5) = false ∧ (t == 6) = false ∧ (t == 7) = false ∧ (t == 8) = false ∧ some (Value.tuple #[.int .i64 (x), .int .i64 (y)]) = some u) := by kernel_rfl
theorem con35 : Con Try.prog 35 GPlace := by
  refine con_of_runW hm hT0 FnsOk.none Try.func35 Try.call35 fun avs u e => ?_
  unfold GPlace at e
  split at e
  · rename_i t w h x y
    simp only [Option.some.injEq] at e; subst e
    cases e2 : t == 2 with
    | true => exact ⟨[false, false, false, false, false], 300, _, _, _, rfl, of_run (r35_2 t w h x y _) ⟨e2, by simp only [pX, pY, e2, cond_true, cond_false]⟩⟩
    | false =>
      cases e3 : t == 3 with
      | true => exact ⟨[false, false, false, false, false], 300, _, _, _, rfl, of_run (r35_3 t w h x y _) ⟨e2, e3, by simp only [pX, pY, e2, e3, cond_true, cond_false]⟩⟩
      | false =>
        cases e4 : t == 4 with
        | true => exact ⟨[false, false, false, false, false], 300, _, _, _, rfl, of_run (r35_4 t w h x y _) ⟨e2, e3, e4, by simp only [pX, pY, e2, e3, e4, cond_true, cond_false]⟩⟩
        | false =>
          cases e5 : t == 5 with
          | true => exact ⟨[false, false, false, false, false], 300, _, _, _, rfl, of_run (r35_5 t w h x y _) ⟨e2, e3, e4, e5, by simp only [pX, pY, e2, e3, e4, e5, cond_true, cond_false]⟩⟩
          | false =>
            cases e6 : t == 6 with
            | true => exact ⟨[false, false, false, false, false], 300, _, _, _, rfl, of_run (r35_6 t w h x y _) ⟨e2, e3, e4, e5, e6, by simp only [pX, pY, e2, e3, e4, e5, e6, cond_true, cond_false]⟩⟩
            | false =>
              cases e7 : t == 7 with
              | true => exact ⟨[false, false, false, false, false], 300, _, _, _, rfl, of_run (r35_7 t w h x y _) ⟨e2, e3, e4, e5, e6, e7, by simp only [pX, pY, e2, e3, e4, e5, e6, e7, cond_true, cond_false]⟩⟩
              | false =>
                cases e8 : t == 8 with
                | true => exact ⟨[false, false, false, false, false], 300, _, _, _, rfl, of_run (r35_8 t w h x y _) ⟨e2, e3, e4, e5, e6, e7, e8, by simp only [pX, pY, e2, e3, e4, e5, e6, e7, e8, cond_true, cond_false]⟩⟩
                | false =>
                  exact ⟨[false, false, false, false, false], 300, _, _, _, rfl, of_run (r35_9 t w h x y _) ⟨e2, e3, e4, e5, e6, e7, e8, by simp only [pX, pY, e2, e3, e4, e5, e6, e7, e8, cond_false]⟩⟩
  · cases e
noncomputable def F3 : Fns := ((F2.add 33 GIs).add 34 GSize).add 35 GPlace
theorem F3ok : FnsOk Try.prog F3 := ((F2ok.add con33).add con34).add con35
def tL : List Int := [1, 2, 3, 4, 5, 6, 7, 8, 2, 1, 4, 3, 8, 7, 6, 5, 3, 4, 1, 2, 7, 8, 5, 6, 4, 3, 2, 1, 6, 5, 8, 7, 5, 6, 7, 8, 1, 2, 3, 4, 6, 5, 8, 7, 4, 3, 2, 1, 7, 8, 5, 6, 3, 4, 1, 2, 8, 7, 6, 5, 2, 1, 4, 3]
def thenI (a b : Int) : Int := bif inR a && inR b then tL.getD (8 * (a - 1) + (b - 1)).toNat 0 else 0
def GThen : List ArgV → Option Value
  | [.val (.int .i8 a), .val (.int .i8 b)] => some (.int .i8 (thenI a b))
  | _ => none
end Go.Proofs.Ytcplpomnfnimbaa
