/-
  What is proved here: contracts of cosine, clamped, apart, clip, RGB. A text to be imported.
-/
import Derived.Test.YtgpbpgbokfdbeaaCon2
namespace Go.Proofs.Ytgpbpgbokfdbeaa
open Sm Go Go.RowKit
set_option maxRecDepth 1000000
set_option linter.unusedVariables false
def AF (x : Nat) : AV := .one (.sc (.float .f64 x) false)
def cosT : List Nat := [4607182418800017408, 4607009347991985328, 4606496786581982534, 4605664432017547683, 4604544271217802189, 4603179351334086856, 4600565431771507043, 4596196889902818827, 0, 13819568926757594635, 13823937468626282851, 13826551388188862664, 13827916308072577997, 13829036468872323491, 13829868823436758342, 13830381384846761136, 13830554455654793216, 13830381384846761136, 13829868823436758342, 13829036468872323491, 13827916308072577997, 13826551388188862664, 13823937468626282851, 13819568926757594635, 0, 4596196889902818827, 4600565431771507043, 4603179351334086856, 4604544271217802189, 4605664432017547683, 4606496786581982534, 4607009347991985328, 4607182418800017408, 4607009347991985328, 4606496786581982534, 4605664432017547683, 4604544271217802189, 4603179351334086856, 4600565431771507043, 4596196889902818827, 0, 13819568926757594635, 13823937468626282851, 13826551388188862664, 13827916308072577997, 13829036468872323491, 13829868823436758342, 13830381384846761136, 13830554455654793216, 13830381384846761136, 13829868823436758342, 13829036468872323491, 13827916308072577997, 13826551388188862664, 13823937468626282851, 13819568926757594635, 0, 4596196889902818827, 4600565431771507043, 4603179351334086856, 4604544271217802189, 4605664432017547683, 4606496786581982534, 4607009347991985328, 4607182418800017408, 4607009347991985328, 4606496786581982534, 4605664432017547683, 4604544271217802189, 4603179351334086856, 4600565431771507043, 4596196889902818827, 0, 13819568926757594635, 13823937468626282851, 13826551388188862664, 13827916308072577997, 13829036468872323491, 13829868823436758342, 13830381384846761136, 13830554455654793216, 13830381384846761136, 13829868823436758342, 13829036468872323491, 13827916308072577997, 13826551388188862664, 13823937468626282851, 13819568926757594635, 0, 4596196889902818827, 4600565431771507043, 4603179351334086856, 4604544271217802189, 4605664432017547683, 4606496786581982534, 4607009347991985328, 4607182418800017408, 4607009347991985328, 4606496786581982534, 4605664432017547683, 4604544271217802189, 4603179351334086856, 4600565431771507043, 4596196889902818827, 0, 13819568926757594635]
def CRun (n : Nat) : Prop := ∀ v : Value, runK Try.prog T Fns.none 900 Try.f25 [.one (.sc (.int .i64 (n : Nat)) true)] [] [] (fun r _ => resW r = some v) = (some (Value.float .f64 (cosT.getD n 0)) = some v)
theorem cRun_0 : ∀ j : Nat, j < 16 → CRun (0 + j) := by
  intro j h2
  match j, h2 with
  | 0, _ => (unfold CRun; intro v; kernel_rfl)
  | 1, _ => (unfold CRun; intro v; kernel_rfl)
  | 2, _ => (unfold CRun; intro v; kernel_rfl)
  | 3, _ => (unfold CRun; intro v; kernel_rfl)
  | 4, _ => (unfold CRun; intro v; kernel_rfl)
  | 5, _ => (unfold CRun; intro v; kernel_rfl)
  | 6, _ => (unfold CRun; intro v; kernel_rfl)
  | 7, _ => (unfold CRun; intro v; kernel_rfl)
  | 8, _ => (unfold CRun; intro v; kernel_rfl)
  | 9, _ => (unfold CRun; intro v; kernel_rfl)
  | 10, _ => (unfold CRun; intro v; kernel_rfl)
  | 11, _ => (unfold CRun; intro v; kernel_rfl)
  | 12, _ => (unfold CRun; intro v; kernel_rfl)
  | 13, _ => (unfold CRun; intro v; kernel_rfl)
  | 14, _ => (unfold CRun; intro v; kernel_rfl)
  | 15, _ => (unfold CRun; intro v; kernel_rfl)
  | n + 16, h => exact absurd h (by omega)
theorem cRun_16 : ∀ j : Nat, j < 16 → CRun (16 + j) := by
  intro j h2
  match j, h2 with
  | 0, _ => (unfold CRun; intro v; kernel_rfl)
  | 1, _ => (unfold CRun; intro v; kernel_rfl)
  | 2, _ => (unfold CRun; intro v; kernel_rfl)
  | 3, _ => (unfold CRun; intro v; kernel_rfl)
  | 4, _ => (unfold CRun; intro v; kernel_rfl)
  | 5, _ => (unfold CRun; intro v; kernel_rfl)
  | 6, _ => (unfold CRun; intro v; kernel_rfl)
  | 7, _ => (unfold CRun; intro v; kernel_rfl)
  | 8, _ => (unfold CRun; intro v; kernel_rfl)
  | 9, _ => (unfold CRun; intro v; kernel_rfl)
  | 10, _ => (unfold CRun; intro v; kernel_rfl)
  | 11, _ => (unfold CRun; intro v; kernel_rfl)
  | 12, _ => (unfold CRun; intro v; kernel_rfl)
  | 13, _ => (unfold CRun; intro v; kernel_rfl)
  | 14, _ => (unfold CRun; intro v; kernel_rfl)
  | 15, _ => (unfold CRun; intro v; kernel_rfl)
  | n + 16, h => exact absurd h (by omega)
theorem cRun_32 : ∀ j : Nat, j < 16 → CRun (32 + j) := by
  intro j h2
  match j, h2 with
  | 0, _ => (unfold CRun; intro v; kernel_rfl)
  | 1, _ => (unfold CRun; intro v; kernel_rfl)
  | 2, _ => (unfold CRun; intro v; kernel_rfl)
  | 3, _ => (unfold CRun; intro v; kernel_rfl)
  | 4, _ => (unfold CRun; intro v; kernel_rfl)
  | 5, _ => (unfold CRun; intro v; kernel_rfl)
  | 6, _ => (unfold CRun; intro v; kernel_rfl)
  | 7, _ => (unfold CRun; intro v; kernel_rfl)
  | 8, _ => (unfold CRun; intro v; kernel_rfl)
  | 9, _ => (unfold CRun; intro v; kernel_rfl)
  | 10, _ => (unfold CRun; intro v; kernel_rfl)
  | 11, _ => (unfold CRun; intro v; kernel_rfl)
  | 12, _ => (unfold CRun; intro v; kernel_rfl)
  | 13, _ => (unfold CRun; intro v; kernel_rfl)
  | 14, _ => (unfold CRun; intro v; kernel_rfl)
  | 15, _ => (unfold CRun; intro v; kernel_rfl)
  | n + 16, h => exact absurd h (by omega)
theorem cRun_48 : ∀ j : Nat, j < 16 → CRun (48 + j) := by
  intro j h2
  match j, h2 with
  | 0, _ => (unfold CRun; intro v; kernel_rfl)
  | 1, _ => (unfold CRun; intro v; kernel_rfl)
  | 2, _ => (unfold CRun; intro v; kernel_rfl)
  | 3, _ => (unfold CRun; intro v; kernel_rfl)
  | 4, _ => (unfold CRun; intro v; kernel_rfl)
  | 5, _ => (unfold CRun; intro v; kernel_rfl)
  | 6, _ => (unfold CRun; intro v; kernel_rfl)
  | 7, _ => (unfold CRun; intro v; kernel_rfl)
  | 8, _ => (unfold CRun; intro v; kernel_rfl)
  | 9, _ => (unfold CRun; intro v; kernel_rfl)
  | 10, _ => (unfold CRun; intro v; kernel_rfl)
  | 11, _ => (unfold CRun; intro v; kernel_rfl)
  | 12, _ => (unfold CRun; intro v; kernel_rfl)
  | 13, _ => (unfold CRun; intro v; kernel_rfl)
  | 14, _ => (unfold CRun; intro v; kernel_rfl)
  | 15, _ => (unfold CRun; intro v; kernel_rfl)
  | n + 16, h => exact absurd h (by omega)
theorem cRun_64 : ∀ j : Nat, j < 16 → CRun (64 + j) := by
  intro j h2
  match j, h2 with
  | 0, _ => (unfold CRun; intro v; kernel_rfl)
  | 1, _ => (unfold CRun; intro v; kernel_rfl)
  | 2, _ => (unfold CRun; intro v; kernel_rfl)
  | 3, _ => (unfold CRun; intro v; kernel_rfl)
  | 4, _ => (unfold CRun; intro v; kernel_rfl)
  | 5, _ => (unfold CRun; intro v; kernel_rfl)
  | 6, _ => (unfold CRun; intro v; kernel_rfl)
  | 7, _ => (unfold CRun; intro v; kernel_rfl)
  | 8, _ => (unfold CRun; intro v; kernel_rfl)
  | 9, _ => (unfold CRun; intro v; kernel_rfl)
  | 10, _ => (unfold CRun; intro v; kernel_rfl)
  | 11, _ => (unfold CRun; intro v; kernel_rfl)
  | 12, _ => (unfold CRun; intro v; kernel_rfl)
  | 13, _ => (unfold CRun; intro v; kernel_rfl)
  | 14, _ => (unfold CRun; intro v; kernel_rfl)
  | 15, _ => (unfold CRun; intro v; kernel_rfl)
  | n + 16, h => exact absurd h (by omega)
theorem cRun_80 : ∀ j : Nat, j < 16 → CRun (80 + j) := by
  intro j h2
  match j, h2 with
  | 0, _ => (unfold CRun; intro v; kernel_rfl)
  | 1, _ => (unfold CRun; intro v; kernel_rfl)
  | 2, _ => (unfold CRun; intro v; kernel_rfl)
  | 3, _ => (unfold CRun; intro v; kernel_rfl)
  | 4, _ => (unfold CRun; intro v; kernel_rfl)
  | 5, _ => (unfold CRun; intro v; kernel_rfl)
  | 6, _ => (unfold CRun; intro v; kernel_rfl)
  | 7, _ => (unfold CRun; intro v; kernel_rfl)
  | 8, _ => (unfold CRun; intro v; kernel_rfl)
  | 9, _ => (unfold CRun; intro v; kernel_rfl)
  | 10, _ => (unfold CRun; intro v; kernel_rfl)
  | 11, _ => (unfold CRun; intro v; kernel_rfl)
  | 12, _ => (unfold CRun; intro v; kernel_rfl)
  | 13, _ => (unfold CRun; intro v; kernel_rfl)
  | 14, _ => (unfold CRun; intro v; kernel_rfl)
  | 15, _ => (unfold CRun; intro v; kernel_rfl)
  | n + 16, h => exact absurd h (by omega)
theorem cRun_96 : ∀ j : Nat, j < 10 → CRun (96 + j) := by
  intro j h2
  match j, h2 with
  | 0, _ => (unfold CRun; intro v; kernel_rfl)
  | 1, _ => (unfold CRun; intro v; kernel_rfl)
  | 2, _ => (unfold CRun; intro v; kernel_rfl)
  | 3, _ => (unfold CRun; intro v; kernel_rfl)
  | 4, _ => (unfold CRun; intro v; kernel_rfl)
  | 5, _ => (unfold CRun; intro v; kernel_rfl)
  | 6, _ => (unfold CRun; intro v; kernel_rfl)
  | 7, _ => (unfold CRun; intro v; kernel_rfl)
  | 8, _ => (unfold CRun; intro v; kernel_rfl)
  | 9, _ => (unfold CRun; intro v; kernel_rfl)
  | n + 10, h => exact absurd h (by omega)
theorem cRun (n : Nat) (h : n < 106) : CRun n := by
  by_cases h0 : n < 16
  · have := cRun_0 (n - 0) (by omega)
    rwa [show 0 + (n - 0) = n by omega] at this
  by_cases h16 : n < 32
  · have := cRun_16 (n - 16) (by omega)
    rwa [show 16 + (n - 16) = n by omega] at this
  by_cases h32 : n < 48
  · have := cRun_32 (n - 32) (by omega)
    rwa [show 32 + (n - 32) = n by omega] at this
  by_cases h48 : n < 64
  · have := cRun_48 (n - 48) (by omega)
    rwa [show 48 + (n - 48) = n by omega] at this
  by_cases h64 : n < 80
  · have := cRun_64 (n - 64) (by omega)
    rwa [show 64 + (n - 64) = n by omega] at this
  by_cases h80 : n < 96
  · have := cRun_80 (n - 80) (by omega)
    rwa [show 80 + (n - 80) = n by omega] at this
  have := cRun_96 (n - 96) (by omega)
  rwa [show 96 + (n - 96) = n by omega] at this
def GCosine : List ArgV → Option (Prop × Value)
  | [.val (.int .i64 k)] => some ((0 ≤ k ∧ k < 106), .float .f64 (cosT.getD k.toNat 0))
  | _ => none
theorem conCos : ConP Try.prog 25 GCosine := by
  refine conP_of_runW hm hT FnsOk.none Try.func25 Try.call25 fun avs p u h hp => ?_
  unfold GCosine at h
  split at h
  · rename_i k
    simp only [Option.some.injEq, Prod.mk.injEq] at h
    obtain ⟨rfl, rfl⟩ := h
    obtain ⟨n, rfl⟩ : ∃ n : Nat, k = (n : Int) := ⟨k.toNat, by omega⟩
    have h2 : n < 106 := by omega
    exact ⟨[true], 900, [], _, _, rfl, of_run (cRun n h2 _) (by rw [Int.toNat_natCast])⟩
  · cases h
def flt (x y : Nat) : Bool := FloatKind.f64.format.order x y == some .lt
def fgt (x y : Nat) : Bool := FloatKind.f64.format.order x y == some .gt
def c255 : Nat := 4643176031446892544
def clampW (x : Nat) : Nat := bif flt x 0 then 0 else bif fgt x c255 then c255 else x
theorem runClamp (x : Nat) (u : Value) : runK Try.prog T Fns.none 300 Try.f9 [AF x] [] [] (fun r _ => resW r = some u) =
    ((flt x 0 = true → some (Value.float .f64 0) = some u) ∧ (flt x 0 = false → (fgt x c255 = true → some (Value.float .f64 c255) = some u) ∧ (fgt x c255 = false → some (Value.float .f64 x) = some u))) := by kernel_rfl
def GClamp : List ArgV → Option Value
  | [.val (.float .f64 x)] => some (.float .f64 (clampW x))
  | _ => none
theorem conClamp : Con Try.prog 9 GClamp := by
  refine con_of_runW hm hT FnsOk.none Try.func9 Try.call9 fun avs u h => ?_
  unfold GClamp at h
  split at h
  · simp only [Option.some.injEq] at h; subst h
    exact ⟨[], 300, [], _, _, rfl, of_run (runClamp _ _) ⟨fun h => by unfold clampW; rw [h]; rfl, fun h => ⟨fun h2 => by unfold clampW; rw [h, h2]; rfl, fun h2 => by unfold clampW; rw [h, h2]; rfl⟩⟩⟩
  · cases h
def i2f (n : Int) : Nat := FloatKind.f64.nearest n
def fsub (x y : Nat) : Nat := fbin .sub .f64 x y
def awayF (x : Nat) : Nat := bif flt x 0 then Op.negFloat .f64 x else x
theorem runApart (n : Int) (x : Nat) (u : Value) : runK Try.prog T Fns.none 300 Try.f11 [.one (.sc (.int .u8 n) false), AF x] [] [] (fun r _ => resW r = some u) =
    (fok .sub .f64 (i2f n) x = true ∧ (flt (fsub (i2f n) x) 0 = true → some (Value.float .f64 (Op.negFloat .f64 (fsub (i2f n) x))) = some u) ∧ (flt (fsub (i2f n) x) 0 = false → some (Value.float .f64 (fsub (i2f n) x)) = some u)) := by kernel_rfl
def GApart : List ArgV → Option (Prop × Value)
  | [.val (.int .u8 n), .val (.float .f64 x)] => some (fok .sub .f64 (i2f n) x = true, .float .f64 (awayF (fsub (i2f n) x)))
  | _ => none
theorem conApart : ConP Try.prog 11 GApart := by
  refine conP_of_runW hm hT FnsOk.none Try.func11 Try.call11 fun avs p u h hp => ?_
  unfold GApart at h
  split at h
  · simp only [Option.some.injEq, Prod.mk.injEq] at h
    obtain ⟨rfl, rfl⟩ := h
    exact ⟨[], 300, [], _, _, rfl, of_run (runApart _ _ _) ⟨hp, fun h => by unfold awayF; rw [h]; rfl, fun h => by unfold awayF; rw [h]; rfl⟩⟩
  · cases h
/-! colours -/
def c3 (n : Int) : List AV := [.one (.sc (.int .i64 n) false), .one (.sc (.int .i64 0) true), .one (.sc (.int .i64 255) true)]
def clipC (n : Int) : Int := if n < 0 then 0 else if n > 255 then 255 else n
theorem runCl1 (n : Int) (u : Value) : runK Try.prog T Fns.none 300 Try.f55 (c3 n) [] [.b true] (fun r _ => resW r = some u) = ((bif n != n then true else decide (n < 0)) = true ∧ some (Value.int .i64 0) = some u) := by kernel_rfl
theorem runCl2 (n : Int) (u : Value) : runK Try.prog T Fns.none 300 Try.f55 (c3 n) [] [.b false, .b true] (fun r _ => resW r = some u) = ((bif n != n then true else decide (n < 0)) = false ∧ decide (n > 255) = true ∧ some (Value.int .i64 255) = some u) := by kernel_rfl
theorem runCl3 (n : Int) (u : Value) : runK Try.prog T Fns.none 300 Try.f55 (c3 n) [] [.b false, .b false] (fun r _ => resW r = some u) = ((bif n != n then true else decide (n < 0)) = false ∧ decide (n > 255) = false ∧ some (Value.int .i64 n) = some u) := by kernel_rfl
def GClampI : List ArgV → Option Value
  | [.val (.int .i64 n), .val (.int .i64 0), .val (.int .i64 255)] => some (.int .i64 (clipC n))
  | _ => none
theorem conClampI : Con Try.prog 55 GClampI := by
  refine con_of_runW hm hT FnsOk.none Try.func55 Try.call55 fun avs u h => ?_
  unfold GClampI at h
  split at h
  · rename_i n
    simp only [Option.some.injEq] at h; subst h
    have e : ∀ b : Bool, (bif n != n then true else b) = b := fun b => by simp
    unfold clipC
    by_cases h1 : n < 0
    · rw [if_pos h1]
      exact ⟨[false, true, true], 300, [.b true], _, _, rfl, of_run (runCl1 n _) ⟨by rw [e]; exact decide_eq_true h1, rfl⟩⟩
    · rw [if_neg h1]
      by_cases h2 : n > 255
      · rw [if_pos h2]
        exact ⟨[false, true, true], 300, [.b false, .b true], _, _, rfl, of_run (runCl2 n _) ⟨by rw [e]; exact decide_eq_false h1, decide_eq_true h2, rfl⟩⟩
      · rw [if_neg h2]
        exact ⟨[false, true, true], 300, [.b false, .b false], _, _, rfl, of_run (runCl3 n _) ⟨by rw [e]; exact decide_eq_false h1, decide_eq_false h2, rfl⟩⟩
  · cases h
noncomputable def FCl : Fns := Fns.none.add 55 GClampI
theorem FClok : FnsOk Try.prog FCl := FnsOk.none.add conClampI
theorem runClip (n : Int) (u : Value) : runK Try.prog T FCl 300 Try.f26 [.one (.sc (.int .i64 n) false)] [] [] (fun r _ => resW r = some u) = (some (Value.int .u8 (IntKind.u8.wrap (clipC n))) = some u) := by kernel_rfl
def GClip : List ArgV → Option Value
  | [.val (.int .i64 n)] => some (.int .u8 (IntKind.u8.wrap (clipC n)))
  | _ => none
theorem conClip : Con Try.prog 26 GClip := by
  refine con_of_runW hm hT FClok Try.func26 Try.call26 fun avs u h => ?_
  unfold GClip at h
  split at h
  · simp only [Option.some.injEq] at h; subst h
    exact ⟨[], 300, [], _, _, rfl, of_run (runClip _ _) rfl⟩
  · cases h
noncomputable def FRgb : Fns := FCl.add 26 GClip
theorem FRgbok : FnsOk Try.prog FRgb := FClok.add conClip
def AU (x : Int) : AV := .one (.sc (.int .u8 x) false)
def yS (c : Int) : Int := W (W c - 128)
def u8c (n : Int) : Int := IntKind.u8.wrap (clipC n)
def redI (a c : Int) : Int := u8c (W (W a + (W (W (91881 * yS c) + 32768)).fdiv 65536))
def grnI (a b c : Int) : Int := u8c (W (W a - (W (W (W (22553 * yS b) + W (46802 * yS c)) + 32767)).fdiv 65536))
def bluI (a b : Int) : Int := u8c (W (W a + (W (W (116130 * yS b) + 32768)).fdiv 65536))
def rgbV (a b c : Int) : Value := .tuple #[.int .u8 (redI a c), .int .u8 (grnI a b c), .int .u8 (bluI a b)]
theorem runRgb (a b c : Int) (u : Value) : runK Try.prog T FRgb 300 Try.f12 [AU a, AU b, AU c] [] [] (fun r _ => resW r = some u) = (some (rgbV a b c) = some u) := by kernel_rfl
def GRgb : List ArgV → Option Value
  | [.val (.int .u8 a), .val (.int .u8 b), .val (.int .u8 c)] => some (rgbV a b c)
  | _ => none
theorem conRgb : Con Try.prog 12 GRgb := by
  refine con_of_runW hm hT FRgbok Try.func12 Try.call12 fun avs u h => ?_
  unfold GRgb at h
  split at h
  · simp only [Option.some.injEq] at h; subst h
    exact ⟨[], 300, [], _, _, rfl, of_run (runRgb _ _ _ _) rfl⟩
  · cases h
/-! steady -/
noncomputable def FS0 : Fns := (F2.add 8 GP_13).add 12 GRgb
theorem FS0ok : FnsOk Try.prog FS0 := (F2ok.add conP_13).add conRgb
theorem runSteady (u : Value) : runK Try.prog T FS0 3000 Try.f6 [] [] [] (fun r _ => resW r = some u) = (some (Value.bool true) = some u) := by kernel_rfl
def GSteady : List ArgV → Option Value
  | [] => some (.bool true)
  | _ => none
theorem conSteady : Con Try.prog 6 GSteady := by
  refine con_of_runW hm hT FS0ok Try.func6 Try.call6 fun avs u h => ?_
  cases avs with
  | nil =>
    simp only [GSteady, Option.some.injEq] at h; subst h
    exact ⟨[], 3000, [], [], [], rfl, of_run (runSteady _) rfl⟩
  | cons a l => cases h
end Go.Proofs.Ytgpbpgbokfdbeaa
