/-
  What is proved here: contracts of quant.Coarse and quant.Fine, of the reference's too. A text to be imported.
-/
import Derived.Test.YteikdpagoojdlaaCon6
namespace Go.Proofs.Yteikdpagoojdlaa
open Sm Go Go.RowKit
set_option maxRecDepth 1000000
def ord (k : Nat) : Nat := orderL.getD k 0
def pos (i : Nat) : Nat := posL.getD i 0
def mx (x y : Int) : Int := if y > x then y else x
def mn (x y : Int) : Int := if y < x then y else x
def leastV (k : Nat) : Int := bif Nat.beq k 0 then -1024 else -1023
/-- A coefficient made coarse. -/
def coarseV (f s : Nat → Int) (k : Nat) : Int := IntKind.i16.wrap (mn (mx (nearU (W (f (ord k))) (s k)) (leastV k)) 1023)
def coarseR (f s : Nat → Int) (k : Nat) : Int :=
  IntKind.i16.wrap (bif decide ((bif decide (nearU (W (f (ord k))) (s k) < leastV k) then leastV k else nearU (W (f (ord k))) (s k)) > 1023) then 1023 else bif decide (nearU (W (f (ord k))) (s k) < leastV k) then leastV k else nearU (W (f (ord k))) (s k))
theorem clamp_eq (n a b : Int) : (bif decide ((bif decide (n < a) then a else n) > b) then b else bif decide (n < a) then a else n) = mn (mx n a) b := by
  unfold mn mx
  by_cases h : n < a
  · by_cases h2 : b < a <;> simp [h, h2]
  · by_cases h2 : b < n <;> simp [h, h2]
theorem coarseR_eq (f s : Nat → Int) (k : Nat) : coarseR f s k = coarseV f s k := by
  unfold coarseR coarseV
  rw [clamp_eq]
def nearPs (f s : Nat → Int) : List Prop := (List.range 64).map fun k => nearP (W (f (ord k))) (s k)
/-- Fine coefficients of 32 bits, steps from 1 to 65535. -/
def fits (f s : Nat → Int) : Prop := (∀ i, i < 64 → -2147483648 ≤ f i ∧ f i ≤ 2147483647) ∧ ∀ i, i < 64 → 1 ≤ s i ∧ s i ≤ 65535
/-- The same, place by place. -/
def fitsN (f s : Nat → Int) : Nat → Nat → Prop
  | 0, _ => True
  | n + 1, i => (-2147483648 ≤ f i ∧ f i ≤ 2147483647) ∧ (1 ≤ s i ∧ s i ≤ 65535) ∧ fitsN f s n (i + 1)
theorem fitsN_spec {f s : Nat → Int} : ∀ (n i : Nat), fitsN f s n i ↔ ∀ j, i ≤ j → j < i + n → (-2147483648 ≤ f j ∧ f j ≤ 2147483647) ∧ 1 ≤ s j ∧ s j ≤ 65535
  | 0, i => by simp only [fitsN, true_iff]; intro j h1 h2; omega
  | n + 1, i => by
    simp only [fitsN, fitsN_spec n (i + 1)]
    constructor
    · rintro ⟨h1, h2, h3⟩ j hj hj2
      by_cases e : j = i
      · subst e; exact ⟨h1, h2⟩
      · exact h3 j (by omega) (by omega)
    · intro h
      exact ⟨(h i (by omega) (by omega)).1, (h i (by omega) (by omega)).2, fun j hj hj2 => h j (by omega) (by omega)⟩
theorem fits_of {f s : Nat → Int} (h : fitsN f s 64 0) : fits f s :=
  ⟨fun i hi => ((fitsN_spec 64 0).1 h i (by omega) (by omega)).1, fun i hi => ((fitsN_spec 64 0).1 h i (by omega) (by omega)).2⟩
theorem fitsN_of {f s : Nat → Int} (h : fits f s) : fitsN f s 64 0 :=
  (fitsN_spec 64 0).2 fun j _ hj => ⟨h.1 j (by omega), h.2 j (by omega)⟩
theorem ord_lt : ∀ k, k < 64 → ord k < 64 := by decide
theorem pos_lt : ∀ k, k < 64 → pos k < 64 := by decide
theorem nearPs_ok {f s : Nat → Int} (h : fits f s) : ∀ p ∈ nearPs f s, p := by
  intro p hp
  simp only [nearPs, List.mem_map, List.mem_range] at hp
  obtain ⟨k, hk, rfl⟩ := hp
  obtain ⟨h1, h2⟩ := h.1 (ord k) (ord_lt k hk)
  obtain ⟨h3, h4⟩ := h.2 k hk
  rw [W, w64 (by omega) (by omega)]
  exact ⟨h3, h4, h1, h2⟩
theorem stepV_ok {x : Int} (h1 : 0 ≤ x) (h2 : x ≤ 65535) : 1 ≤ stepV x ∧ stepV x ≤ 65535 := by
  unfold stepV
  cases hx : x == 0 with
  | true => simp
  | false =>
    have : x ≠ 0 := by simpa using hx
    rw [cond_false, W, w64 (by omega) (by omega)]
    omega
theorem run14_11 (e : TypeId) (f : Nat → Int) (e' : TypeId) (t : Nat → Int) (u : Value) : runK Try.prog T FD 4000 Try.f14 [.one (.ptr 0 0), .one (.ptr 1 0)] [mbK .i32 e f, mbK .u16 e' t] [] (fun r _ => resW r = some u) = obsP (nearPs f (fun i => stepV (t i))) (some (vI16 (coarseV f (fun i => stepV (t i)))) = some u) := by kernel_rfl
theorem run14_10 (e : TypeId) (f : Nat → Int) (u : Value) : runK Try.prog T FD 4000 Try.f14 [.one (.ptr 0 0), nilA] [mbK .i32 e f] [] (fun r _ => resW r = some u) = obsP (nearPs f (fun _ => 1)) (some (vI16 (coarseV f (fun _ => 1))) = some u) := by kernel_rfl
theorem run14_01 (e' : TypeId) (t : Nat → Int) (u : Value) : runK Try.prog T FD 4000 Try.f14 [nilA, .one (.ptr 0 0)] [mbK .u16 e' t] [] (fun r _ => resW r = some u) = obsP (nearPs (fun _ => 0) (fun i => stepV (t i))) (some (vI16 (coarseV (fun _ => 0) (fun i => stepV (t i)))) = some u) := by kernel_rfl
theorem run14_00 (u : Value) : runK Try.prog T FD 4000 Try.f14 [nilA, nilA] [] [] (fun r _ => resW r = some u) = obsP (nearPs (fun _ => 0) (fun _ => 1)) (some (vI16 (coarseV (fun _ => 0) (fun _ => 1))) = some u) := by kernel_rfl
def viewF {α : Type} (a : ArgV) (k : (Nat → Int) → Option α) : Option α :=
  match a with
  | .val (.pointer none) => k (fun _ => 0)
  | .mem _ cs => intsK .i32 cs (vecN 64 k)
  | _ => none
def viewT {α : Type} (a : ArgV) (k : (Nat → Int) → Option α) : Option α :=
  match a with
  | .val (.pointer none) => k (fun _ => 1)
  | .mem _ cs => intsK .u16 cs (vecN 64 fun t => k (fun i => stepV (t i)))
  | _ => none
theorem viewF_spec {α : Type} {a : ArgV} {k : (Nat → Int) → Option α} {u : α} (h : viewF a k = some u) : (a = .val (.pointer none) ∧ k (fun _ => 0) = some u) ∨ ∃ e f, a = .mem e (valsK .i32 64 f) ∧ k f = some u := by
  unfold viewF at h
  split at h
  · exact .inl ⟨rfl, h⟩
  · rename_i e cs
    obtain ⟨b, rfl, h2⟩ := arrK_spec h
    exact .inr ⟨e, b, rfl, h2⟩
  · cases h
theorem viewT_spec {α : Type} {a : ArgV} {k : (Nat → Int) → Option α} {u : α} (h : viewT a k = some u) : (a = .val (.pointer none) ∧ k (fun _ => 1) = some u) ∨ ∃ e t, a = .mem e (valsK .u16 64 t) ∧ k (fun i => stepV (t i)) = some u := by
  unfold viewT at h
  split at h
  · exact .inl ⟨rfl, h⟩
  · rename_i e cs
    obtain ⟨b, rfl, h2⟩ := arrK_spec h
    exact .inr ⟨e, b, rfl, h2⟩
  · cases h
def GCoarse : List ArgV → Option (Prop × Value)
  | [a, b] => viewF a fun f => viewT b fun s => some (fitsN f s 64 0, vI16 (coarseV f s))
  | _ => none
theorem canon11 (e e' : TypeId) (f t : Nat → Int) : canon2 [] [.mem e (valsK .i32 64 f), .mem e' (valsK .u16 64 t)] 0 = some ([.one (.ptr 0 0), .one (.ptr 1 0)], [mbK .i32 e f, mbK .u16 e' t]) := by kernel_rfl
theorem canon10 (e : TypeId) (f : Nat → Int) : canon2 [false, true] [.mem e (valsK .i32 64 f), .val (.pointer none)] 0 = some ([.one (.ptr 0 0), nilA], [mbK .i32 e f]) := by kernel_rfl
theorem canon01 (e' : TypeId) (t : Nat → Int) : canon2 [true, false] [.val (.pointer none), .mem e' (valsK .u16 64 t)] 0 = some ([nilA, .one (.ptr 0 0)], [mbK .u16 e' t]) := by kernel_rfl
theorem con14 : ConP Try.prog 14 GCoarse := by
  refine conP_of_runW hm hT FDok Try.func14 Try.call14 fun avs p u h hp => ?_
  unfold GCoarse at h
  split at h
  · rename_i a b
    rcases viewF_spec h with ⟨rfl, h2⟩ | ⟨e, f, rfl, h2⟩ <;> rcases viewT_spec h2 with ⟨rfl, h3⟩ | ⟨e', t, rfl, h3⟩ <;> simp only [Option.some.injEq, Prod.mk.injEq] at h3 <;> obtain ⟨rfl, rfl⟩ := h3
    · exact ⟨[true, true], 4000, [], _, _, rfl, of_run (run14_00 _) (obsP_of _ _ (nearPs_ok (fits_of hp)) rfl)⟩
    · exact ⟨[true, false], 4000, [], _, _, canon01 e' t, of_run (run14_01 e' t _) (obsP_of _ _ (nearPs_ok (fits_of hp)) rfl)⟩
    · exact ⟨[false, true], 4000, [], _, _, canon10 e f, of_run (run14_10 e f _) (obsP_of _ _ (nearPs_ok (fits_of hp)) rfl)⟩
    · exact ⟨[], 4000, [], _, _, canon11 e e' f t, of_run (run14_11 e f e' t _) (obsP_of _ _ (nearPs_ok (fits_of hp)) rfl)⟩
  · cases h
theorem run15 (f t : Nat → Int) (u : Value) : runK Try.prog T FE 6000 Try.f15 [.agg (cellsK .i32 false 64 f), .agg (cellsK .u16 false 64 t)] [] [] (fun r _ => resW r = some u) = obsP (nearPs f fun i => stepV (t i)) (some (vI16 (coarseR f fun i => stepV (t i))) = some u) := by kernel_rfl
def GCoarseR : List ArgV → Option (Prop × Value)
  | [.val (.agg cs), .val (.agg ds)] => intsK .i32 cs.toList (vecN 64 fun f => intsK .u16 ds.toList (vecN 64 fun t => some (fitsN f (fun i => stepV (t i)) 64 0, vI16 (coarseV f fun i => stepV (t i)))))
  | _ => none
theorem canonFT (f t : Nat → Int) : canon2 [] [.val (.agg (valsK .i32 64 f).toArray), .val (.agg (valsK .u16 64 t).toArray)] 0 = some ([.agg (cellsK .i32 false 64 f), .agg (cellsK .u16 false 64 t)], []) := by kernel_rfl
theorem con15 : ConP Try.prog 15 GCoarseR := by
  refine conP_of_runW hm hT FEok Try.func15 Try.call15 fun avs p u h hp => ?_
  unfold GCoarseR at h
  split at h
  · rename_i cs ds
    obtain ⟨f, rfl, h2⟩ := arrA_spec h
    obtain ⟨t, rfl, h3⟩ := arrA_spec h2
    simp only [Option.some.injEq, Prod.mk.injEq] at h3
    obtain ⟨rfl, rfl⟩ := h3
    refine ⟨[], 6000, [], _, _, canonFT f t, of_run (run15 f t _) (obsP_of _ _ (nearPs_ok (fits_of hp)) ?_)⟩
    rw [show coarseR f (fun i => stepV (t i)) = coarseV f (fun i => stepV (t i)) from funext fun k => coarseR_eq _ _ k]
  · cases h
/-- A coefficient made fine. -/
def fineV (b s : Nat → Int) (i : Nat) : Int := IntKind.i32.wrap (mn (mx (W (W (b (pos i)) * s (pos i))) (-32767)) 32767)
def fineR (b s : Nat → Int) (i : Nat) : Int :=
  IntKind.i32.wrap (bif decide ((bif decide (W (W (b (pos i)) * s (pos i)) < -32767) then -32767 else W (W (b (pos i)) * s (pos i))) > 32767) then 32767 else bif decide (W (W (b (pos i)) * s (pos i)) < -32767) then -32767 else W (W (b (pos i)) * s (pos i)))
theorem fineR_eq (b s : Nat → Int) (i : Nat) : fineR b s i = fineV b s i := by
  unfold fineR fineV
  rw [clamp_eq]
theorem run16_1 (b : Nat → Int) (e : TypeId) (t : Nat → Int) (u : Value) : runK Try.prog T FD 4000 Try.f16 [.agg (cellsK .i16 false 64 b), .one (.ptr 0 0)] [mbK .u16 e t] [] (fun r _ => resW r = some u) = (some (vI32 (fineV b fun i => stepV (t i))) = some u) := by kernel_rfl
theorem run16_0 (b : Nat → Int) (u : Value) : runK Try.prog T FD 4000 Try.f16 [.agg (cellsK .i16 false 64 b), nilA] [] [] (fun r _ => resW r = some u) = (some (vI32 (fineV b fun _ => 1)) = some u) := by kernel_rfl
theorem run17 (b t : Nat → Int) (u : Value) : runK Try.prog T FE 6000 Try.f17 [.agg (cellsK .i16 false 64 b), .agg (cellsK .u16 false 64 t)] [] [] (fun r _ => resW r = some u) = (some (vI32 (fineR b fun i => stepV (t i))) = some u) := by kernel_rfl
def GFine : List ArgV → Option Value
  | [.val (.agg cs), a] => intsK .i16 cs.toList (vecN 64 fun b => viewT a fun s => some (vI32 (fineV b s)))
  | _ => none
def GFineR : List ArgV → Option Value
  | [.val (.agg cs), .val (.agg ds)] => intsK .i16 cs.toList (vecN 64 fun b => intsK .u16 ds.toList (vecN 64 fun t => some (vI32 (fineV b fun i => stepV (t i)))))
  | _ => none
theorem canonB1 (b : Nat → Int) (e : TypeId) (t : Nat → Int) : canon2 [] [.val (.agg (valsK .i16 64 b).toArray), .mem e (valsK .u16 64 t)] 0 = some ([.agg (cellsK .i16 false 64 b), .one (.ptr 0 0)], [mbK .u16 e t]) := by kernel_rfl
theorem canonB0 (b : Nat → Int) : canon2 [false, true] [.val (.agg (valsK .i16 64 b).toArray), .val (.pointer none)] 0 = some ([.agg (cellsK .i16 false 64 b), nilA], []) := by kernel_rfl
theorem canonBT (b t : Nat → Int) : canon2 [] [.val (.agg (valsK .i16 64 b).toArray), .val (.agg (valsK .u16 64 t).toArray)] 0 = some ([.agg (cellsK .i16 false 64 b), .agg (cellsK .u16 false 64 t)], []) := by kernel_rfl
theorem con16 : Con Try.prog 16 GFine := by
  refine con_of_runW hm hT FDok Try.func16 Try.call16 fun avs u h => ?_
  unfold GFine at h
  split at h
  · rename_i cs a
    obtain ⟨b, rfl, h2⟩ := arrA_spec h
    rcases viewT_spec h2 with ⟨rfl, h3⟩ | ⟨e', t, rfl, h3⟩ <;> simp only [Option.some.injEq] at h3 <;> subst h3
    · exact ⟨[false, true], 4000, [], _, _, canonB0 b, of_run (run16_0 b _) rfl⟩
    · exact ⟨[], 4000, [], _, _, canonB1 b e' t, of_run (run16_1 b e' t _) rfl⟩
  · cases h
theorem con17 : Con Try.prog 17 GFineR := by
  refine con_of_runW hm hT FEok Try.func17 Try.call17 fun avs u h => ?_
  unfold GFineR at h
  split at h
  · rename_i cs ds
    obtain ⟨b, rfl, h2⟩ := arrA_spec h
    obtain ⟨t, rfl, h3⟩ := arrA_spec h2
    simp only [Option.some.injEq] at h3; subst h3
    refine ⟨[], 6000, [], _, _, canonBT b t, of_run (run17 b t _) ?_⟩
    rw [show fineR b (fun i => stepV (t i)) = fineV b (fun i => stepV (t i)) from funext fun k => fineR_eq _ _ k]
  · cases h
noncomputable def FG : Fns := (((FE.addP 14 GCoarse).addP 15 GCoarseR).add 16 GFine).add 17 GFineR
theorem FGok : FnsOk Try.prog FG := (((FEok.addP con14).addP con15).add con16).add con17
end Go.Proofs.Yteikdpagoojdlaa
