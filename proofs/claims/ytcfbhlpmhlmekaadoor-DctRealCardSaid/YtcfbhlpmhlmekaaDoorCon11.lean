/-
  What is proved here: the contract of math.Cos at the places that the cosines ask. A text to be imported.
-/
import Derived.Test.YtcfbhlpmhlmekaaDoorCon8
namespace Go.Proofs.YtcfbhlpmhlmekaaDoor
open Sm Go Go.RowKit
set_option maxRecDepth 1000000
set_option linter.unusedVariables false
def argW : List Nat := [0, 0, 0, 0, 0, 0, 0, 0, 4596242258042563864, 4603480897859297746, 4607018016735311966, 4608868777205671797, 4610637336643678907, 4612045957254536960, 4612930236973540516, 4613814516692544070, 4600745857669934360, 4607984497486668242, 4611521616362682462, 4613372376833042293, 4615140936271049403, 4616549556881907456, 4617433836600911012, 4618318116319914566, 4603480897859297746, 4610637336643678907, 4613814516692544070, 4616328486952156568, 4617654906530661900, 4618981326109167233, 4620307745687672565, 4621163691474153397, 4605249457297304856, 4612488097114038738, 4616025215990052958, 4617875976460412789, 4619644535898419899, 4621053156509277952, 4621937436228281508, 4622821715947285062, 4607018016735311966, 4613814516692544070, 4617212766671160123, 4619423465968669010, 4621163691474153397, 4622269041122907841, 4623374390771662284, 4624479740420416728, 4607984497486668242, 4615140936271049403, 4618318116319914566, 4620832086579527064, 4622158506158032396, 4623484925736537729, 4624811345315043061, 4625667291101523893, 4608868777205671797, 4616328486952156568, 4619423465968669010, 4621605831333655174, 4623153320841911396, 4624700810350167617, 4625722558583961615, 4626496303338089726]
def cosV (i : Nat) : Nat := match Nat.blt i 8 with
  | true => 4607182418800017408
  | false => cosW.getD i 0
def CRun (n : Nat) : Prop := ∀ v : Value, runK Tryd.prog T FM 900 Tryd.f26 [.one (.sc (.float .f64 (argW.getD n 0)) true)] [] [] (fun r _ => resW r = some v) = (some (Value.float .f64 (cosV n)) = some v)
theorem cRun_0 : ∀ i : Nat, 0 ≤ i → i < 8 → CRun i := by
  intro i h0 h1
  match i, h0, h1 with
  | 0, _, _ => (unfold CRun; intro v; kernel_rfl)
  | 1, _, _ => (unfold CRun; intro v; kernel_rfl)
  | 2, _, _ => (unfold CRun; intro v; kernel_rfl)
  | 3, _, _ => (unfold CRun; intro v; kernel_rfl)
  | 4, _, _ => (unfold CRun; intro v; kernel_rfl)
  | 5, _, _ => (unfold CRun; intro v; kernel_rfl)
  | 6, _, _ => (unfold CRun; intro v; kernel_rfl)
  | 7, _, _ => (unfold CRun; intro v; kernel_rfl)
  | n + 8, _, h => exact absurd h (by omega)
theorem cRun_8 : ∀ i : Nat, 8 ≤ i → i < 24 → CRun i := by
  intro i h0 h1
  obtain ⟨j, rfl⟩ : ∃ j, i = 8 + j := ⟨i - 8, by omega⟩
  have h2 : j < 16 := by omega
  clear h0 h1
  match j, h2 with
  | 0, _ => (unfold CRun; intro v; kernel_rfl)
  | 1, _ => (unfold CRun; intro v; kernel_rfl)
  | 2, _ => (unfold CRun; intro v; kernel_rfl)
  | 3, _ => (unfold CRun; intro v; kernel_rfl)
  | 4, _ => (unfold CRun; intro v; kernel_rfl)
  | 5, _ => (unfold CRun; intro v; kernel_rfl)
  | 6, _ => (unfold CRun; intro v; kernel_rfl)
  | 7, _ => (unfold CRun; intro v; kernel_rfl)
  | 8, _ => (unfold CRun; intro v; kernel_rfl)
  | 9, _ => (unfold CRun; intro v; kernel_rfl)
  | 10, _ => (unfold CRun; intro v; kernel_rfl)
  | 11, _ => (unfold CRun; intro v; kernel_rfl)
  | 12, _ => (unfold CRun; intro v; kernel_rfl)
  | 13, _ => (unfold CRun; intro v; kernel_rfl)
  | 14, _ => (unfold CRun; intro v; kernel_rfl)
  | 15, _ => (unfold CRun; intro v; kernel_rfl)
  | n + 16, h => exact absurd h (by omega)
theorem cRun_24 : ∀ i : Nat, 24 ≤ i → i < 40 → CRun i := by
  intro i h0 h1
  obtain ⟨j, rfl⟩ : ∃ j, i = 24 + j := ⟨i - 24, by omega⟩
  have h2 : j < 16 := by omega
  clear h0 h1
  match j, h2 with
  | 0, _ => (unfold CRun; intro v; kernel_rfl)
  | 1, _ => (unfold CRun; intro v; kernel_rfl)
  | 2, _ => (unfold CRun; intro v; kernel_rfl)
  | 3, _ => (unfold CRun; intro v; kernel_rfl)
  | 4, _ => (unfold CRun; intro v; kernel_rfl)
  | 5, _ => (unfold CRun; intro v; kernel_rfl)
  | 6, _ => (unfold CRun; intro v; kernel_rfl)
  | 7, _ => (unfold CRun; intro v; kernel_rfl)
  | 8, _ => (unfold CRun; intro v; kernel_rfl)
  | 9, _ => (unfold CRun; intro v; kernel_rfl)
  | 10, _ => (unfold CRun; intro v; kernel_rfl)
  | 11, _ => (unfold CRun; intro v; kernel_rfl)
  | 12, _ => (unfold CRun; intro v; kernel_rfl)
  | 13, _ => (unfold CRun; intro v; kernel_rfl)
  | 14, _ => (unfold CRun; intro v; kernel_rfl)
  | 15, _ => (unfold CRun; intro v; kernel_rfl)
  | n + 16, h => exact absurd h (by omega)
theorem cRun_40 : ∀ i : Nat, 40 ≤ i → i < 56 → CRun i := by
  intro i h0 h1
  obtain ⟨j, rfl⟩ : ∃ j, i = 40 + j := ⟨i - 40, by omega⟩
  have h2 : j < 16 := by omega
  clear h0 h1
  match j, h2 with
  | 0, _ => (unfold CRun; intro v; kernel_rfl)
  | 1, _ => (unfold CRun; intro v; kernel_rfl)
  | 2, _ => (unfold CRun; intro v; kernel_rfl)
  | 3, _ => (unfold CRun; intro v; kernel_rfl)
  | 4, _ => (unfold CRun; intro v; kernel_rfl)
  | 5, _ => (unfold CRun; intro v; kernel_rfl)
  | 6, _ => (unfold CRun; intro v; kernel_rfl)
  | 7, _ => (unfold CRun; intro v; kernel_rfl)
  | 8, _ => (unfold CRun; intro v; kernel_rfl)
  | 9, _ => (unfold CRun; intro v; kernel_rfl)
  | 10, _ => (unfold CRun; intro v; kernel_rfl)
  | 11, _ => (unfold CRun; intro v; kernel_rfl)
  | 12, _ => (unfold CRun; intro v; kernel_rfl)
  | 13, _ => (unfold CRun; intro v; kernel_rfl)
  | 14, _ => (unfold CRun; intro v; kernel_rfl)
  | 15, _ => (unfold CRun; intro v; kernel_rfl)
  | n + 16, h => exact absurd h (by omega)
theorem cRun_56 : ∀ i : Nat, 56 ≤ i → i < 64 → CRun i := by
  intro i h0 h1
  obtain ⟨j, rfl⟩ : ∃ j, i = 56 + j := ⟨i - 56, by omega⟩
  have h2 : j < 8 := by omega
  clear h0 h1
  match j, h2 with
  | 0, _ => (unfold CRun; intro v; kernel_rfl)
  | 1, _ => (unfold CRun; intro v; kernel_rfl)
  | 2, _ => (unfold CRun; intro v; kernel_rfl)
  | 3, _ => (unfold CRun; intro v; kernel_rfl)
  | 4, _ => (unfold CRun; intro v; kernel_rfl)
  | 5, _ => (unfold CRun; intro v; kernel_rfl)
  | 6, _ => (unfold CRun; intro v; kernel_rfl)
  | 7, _ => (unfold CRun; intro v; kernel_rfl)
  | n + 8, h => exact absurd h (by omega)
theorem cRun (i : Nat) (h : i < 64) : CRun i := by
  if h8 : i < 8 then exact cRun_0 i (by omega) h8 else
  if h24 : i < 24 then exact cRun_8 i (by omega) h24 else
  if h40 : i < 40 then exact cRun_24 i (by omega) h40 else
  if h56 : i < 56 then exact cRun_40 i (by omega) h56 else
  exact cRun_56 i (by omega) h
def findW (x : Nat) : Nat → Nat → Option Value
  | 0, _ => none
  | n + 1, i => match Nat.beq (argW.getD i 0) x with
    | true => some (.float .f64 (cosV i))
    | false => findW x n (i + 1)
theorem findW_spec {x : Nat} {u : Value} : ∀ (n i : Nat), findW x n i = some u → ∃ j, j < i + n ∧ x = argW.getD j 0 ∧ u = .float .f64 (cosV j)
  | 0, _, h => by cases h
  | n + 1, i, h => by
    unfold findW at h
    cases hb : Nat.beq (argW.getD i 0) x with
    | true =>
      rw [hb] at h
      exact ⟨i, by omega, (Nat.eq_of_beq_eq_true hb).symm, (Option.some.inj h).symm⟩
    | false =>
      rw [hb] at h
      obtain ⟨j, h1, h2⟩ := findW_spec n (i + 1) h
      exact ⟨j, by omega, h2⟩
def GCosT : List ArgV → Option Value
  | [.val (.float .f64 x)] => findW x 64 0
  | _ => none
theorem con26 : Con Tryd.prog 26 GCosT := by
  refine con_of_runW hm hT FMok Tryd.func26 Tryd.call26 fun avs v h => ?_
  unfold GCosT at h
  split at h
  · rename_i x
    obtain ⟨j, hj, rfl, rfl⟩ := findW_spec 64 0 h
    have hr := cRun j (by omega)
    unfold CRun at hr
    exact ⟨[true], 900, [], _, _, rfl, of_run (hr _) rfl⟩
  · cases h
noncomputable def FC : Fns := Fns.none.add 26 GCosT
theorem FCok : FnsOk Tryd.prog FC := FnsOk.none.add con26
end Go.Proofs.YtcfbhlpmhlmekaaDoor
