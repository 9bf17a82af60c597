/-
  What is proved here: contracts of math.Sincos, math.Sin, math.Cos. A text to be imported.
-/
import Derived.Test.YthddkcoflnbjbaaDoorQSimFm
import Derived.Test.YthddkcoflnbjbaaDoorQSimZ
namespace Go.Proofs.YthddkcoflnbjbaaDoor
open Sm Go Go.RowKit Fl Ieee
set_option maxRecDepth 1000000
set_option linter.unusedVariables false
def hOf (x : Nat) : Nat := ((mOf x).toNat + 1) / 2
def zV (x : Nat) : Nat := zR x (hOf x)
def qV (x : Nat) : Nat := sq (zV x)
def sel4 (h : Nat) (a b c d : Nat) : Nat := match h % 4 with
  | 0 => a | 1 => b | 2 => c | _ => d
def sinV (x : Nat) : Nat := sel4 (hOf x) (sinP (zV x) (qV x)) (cosP (qV x)) (ng (sinP (zV x) (qV x))) (ng (cosP (qV x)))
def cosV (x : Nat) : Nat := sel4 (hOf x) (cosP (qV x)) (ng (sinP (zV x) (qV x))) (ng (cosP (qV x))) (sinP (zV x) (qV x))
structure OkX (x : Nat) : Prop where
  eq : feq x 0 = false
  nan : nanB x = false
  inf : infB x = false
  lt : flt x 0 = false
  abs : absW x = x
  m : ∀ p ∈ okM x, p
  m0 : 0 ≤ mOf x
  m7 : mOf x ≤ 7
  r : ∀ p ∈ okR x (hOf x), p
  z : fok .mul .f64 (zV x) (zV x) = true
  c : ∀ p ∈ okC (qV x), p
  s : ∀ p ∈ okS (zV x) (qV x), p
theorem all_app {l m : List Prop} (h1 : ∀ p ∈ l, p) (h2 : ∀ p ∈ m, p) : ∀ p ∈ l ++ m, p := fun p hp => (List.mem_append.1 hp).elim (h1 p) (h2 p)
theorem all_one {a : Prop} (h : a) : ∀ p ∈ [a], p := fun p hp => by rw [List.mem_singleton.1 hp]; exact h
theorem all_cons {a : Prop} {l : List Prop} (h : a) (h2 : ∀ p ∈ l, p) : ∀ p ∈ a :: l, p := fun p hp => by
  rcases List.mem_cons.1 hp with rfl | hp
  · exact h
  · exact h2 p hp
theorem OkX.h {x : Nat} {m : Nat} (hm : mOf x = (m : Int)) : hOf x = (m + 1) / 2 := by unfold hOf; rw [hm]; rfl
theorem runSC {x : Nat} (k : OkX x) (u : Value) (hu : some (Value.tuple #[.float .f64 (sinV x), .float .f64 (cosV x)]) = some u) : ∃ n orc, runK Tryd.prog T FM n Tryd.f33 [AF x] [] orc (fun r _ => resW r = some u) := by
  have h0 := k.m0
  have h7 := k.m7
  have hr := k.r
  have hz := k.z
  have hc := k.c
  have hs := k.s
  have hm := k.m
  obtain ⟨m, em⟩ := Int.eq_ofNat_of_zero_le h0
  have hm8 : m < 8 := by omega
  have eh := OkX.h em
  unfold sinV cosV at hu
  unfold qV zV at *
  rw [eh] at hr hz hc hs hu
  match m, em, hm8, eh, hr, hz, hc, hs, hu with
  | 0, em, _, _, hr, hz, hc, hs, hu => exact ⟨900, [.b false, .b false, .b false, .b false, .n 0], of_run (runSC0 x u) (obsP_of _ _ (all_app (all_app (all_app (all_app (all_app (all_app (all_cons k.eq (all_cons (by rw [k.nan]; exact k.inf) (all_one k.lt))) hm) (all_one (beq_iff_eq.2 em))) hr) (all_one hz)) hc) hs) hu)⟩
  | 1, em, _, _, hr, hz, hc, hs, hu => exact ⟨900, [.b false, .b false, .b false, .b false, .n 1], of_run (runSC1 x u) (obsP_of _ _ (all_app (all_app (all_app (all_app (all_app (all_app (all_cons k.eq (all_cons (by rw [k.nan]; exact k.inf) (all_one k.lt))) hm) (all_one (beq_iff_eq.2 em))) hr) (all_one hz)) hc) hs) hu)⟩
  | 2, em, _, _, hr, hz, hc, hs, hu => exact ⟨900, [.b false, .b false, .b false, .b false, .n 2], of_run (runSC2 x u) (obsP_of _ _ (all_app (all_app (all_app (all_app (all_app (all_app (all_cons k.eq (all_cons (by rw [k.nan]; exact k.inf) (all_one k.lt))) hm) (all_one (beq_iff_eq.2 em))) hr) (all_one hz)) hc) hs) hu)⟩
  | 3, em, _, _, hr, hz, hc, hs, hu => exact ⟨900, [.b false, .b false, .b false, .b false, .n 3], of_run (runSC3 x u) (obsP_of _ _ (all_app (all_app (all_app (all_app (all_app (all_app (all_cons k.eq (all_cons (by rw [k.nan]; exact k.inf) (all_one k.lt))) hm) (all_one (beq_iff_eq.2 em))) hr) (all_one hz)) hc) hs) hu)⟩
  | 4, em, _, _, hr, hz, hc, hs, hu => exact ⟨900, [.b false, .b false, .b false, .b false, .n 4], of_run (runSC4 x u) (obsP_of _ _ (all_app (all_app (all_app (all_app (all_app (all_app (all_cons k.eq (all_cons (by rw [k.nan]; exact k.inf) (all_one k.lt))) hm) (all_one (beq_iff_eq.2 em))) hr) (all_one hz)) hc) hs) hu)⟩
  | 5, em, _, _, hr, hz, hc, hs, hu => exact ⟨900, [.b false, .b false, .b false, .b false, .n 5], of_run (runSC5 x u) (obsP_of _ _ (all_app (all_app (all_app (all_app (all_app (all_app (all_cons k.eq (all_cons (by rw [k.nan]; exact k.inf) (all_one k.lt))) hm) (all_one (beq_iff_eq.2 em))) hr) (all_one hz)) hc) hs) hu)⟩
  | 6, em, _, _, hr, hz, hc, hs, hu => exact ⟨900, [.b false, .b false, .b false, .b false, .n 6], of_run (runSC6 x u) (obsP_of _ _ (all_app (all_app (all_app (all_app (all_app (all_app (all_cons k.eq (all_cons (by rw [k.nan]; exact k.inf) (all_one k.lt))) hm) (all_one (beq_iff_eq.2 em))) hr) (all_one hz)) hc) hs) hu)⟩
  | 7, em, _, _, hr, hz, hc, hs, hu => exact ⟨900, [.b false, .b false, .b false, .b false, .n 7], of_run (runSC7 x u) (obsP_of _ _ (all_app (all_app (all_app (all_app (all_app (all_app (all_cons k.eq (all_cons (by rw [k.nan]; exact k.inf) (all_one k.lt))) hm) (all_one (beq_iff_eq.2 em))) hr) (all_one hz)) hc) hs) hu)⟩
  | n + 8, _, h, _, _, _, _, _, _ => exact absurd h (by omega)
theorem runS {x : Nat} (k : OkX x) (u : Value) (hu : some (Value.float .f64 (sinV x)) = some u) : ∃ n orc, runK Tryd.prog T FM n Tryd.f57 [AF x] [] orc (fun r _ => resW r = some u) := by
  have h0 := k.m0
  have h7 := k.m7
  have hr := k.r
  have hz := k.z
  have hc := k.c
  have hs := k.s
  have hm := k.m
  obtain ⟨m, em⟩ := Int.eq_ofNat_of_zero_le h0
  have hm8 : m < 8 := by omega
  have eh := OkX.h em
  unfold sinV at hu
  unfold qV zV at *
  rw [eh] at hr hz hc hs hu
  match m, em, hm8, eh, hr, hz, hc, hs, hu with
  | 0, em, _, _, hr, hz, hc, hs, hu => exact ⟨900, [.b false, .b false, .b false, .b false, .n 0], of_run (runS0 x u) (obsP_of _ _ (all_app (all_app (all_app (all_app (all_app (all_cons (by rw [k.eq]; exact k.nan) (all_cons k.inf (all_one k.lt))) hm) (all_one (beq_iff_eq.2 em))) hr) (all_one hz)) hs) hu)⟩
  | 1, em, _, _, hr, hz, hc, hs, hu => exact ⟨900, [.b false, .b false, .b false, .b false, .n 1], of_run (runS1 x u) (obsP_of _ _ (all_app (all_app (all_app (all_app (all_app (all_cons (by rw [k.eq]; exact k.nan) (all_cons k.inf (all_one k.lt))) hm) (all_one (beq_iff_eq.2 em))) hr) (all_one hz)) hc) hu)⟩
  | 2, em, _, _, hr, hz, hc, hs, hu => exact ⟨900, [.b false, .b false, .b false, .b false, .n 2], of_run (runS2 x u) (obsP_of _ _ (all_app (all_app (all_app (all_app (all_app (all_cons (by rw [k.eq]; exact k.nan) (all_cons k.inf (all_one k.lt))) hm) (all_one (beq_iff_eq.2 em))) hr) (all_one hz)) hc) hu)⟩
  | 3, em, _, _, hr, hz, hc, hs, hu => exact ⟨900, [.b false, .b false, .b false, .b false, .n 3], of_run (runS3 x u) (obsP_of _ _ (all_app (all_app (all_app (all_app (all_app (all_cons (by rw [k.eq]; exact k.nan) (all_cons k.inf (all_one k.lt))) hm) (all_one (beq_iff_eq.2 em))) hr) (all_one hz)) hs) hu)⟩
  | 4, em, _, _, hr, hz, hc, hs, hu => exact ⟨900, [.b false, .b false, .b false, .b false, .n 4], of_run (runS4 x u) (obsP_of _ _ (all_app (all_app (all_app (all_app (all_app (all_cons (by rw [k.eq]; exact k.nan) (all_cons k.inf (all_one k.lt))) hm) (all_one (beq_iff_eq.2 em))) hr) (all_one hz)) hs) hu)⟩
  | 5, em, _, _, hr, hz, hc, hs, hu => exact ⟨900, [.b false, .b false, .b false, .b false, .n 5], of_run (runS5 x u) (obsP_of _ _ (all_app (all_app (all_app (all_app (all_app (all_cons (by rw [k.eq]; exact k.nan) (all_cons k.inf (all_one k.lt))) hm) (all_one (beq_iff_eq.2 em))) hr) (all_one hz)) hc) hu)⟩
  | 6, em, _, _, hr, hz, hc, hs, hu => exact ⟨900, [.b false, .b false, .b false, .b false, .n 6], of_run (runS6 x u) (obsP_of _ _ (all_app (all_app (all_app (all_app (all_app (all_cons (by rw [k.eq]; exact k.nan) (all_cons k.inf (all_one k.lt))) hm) (all_one (beq_iff_eq.2 em))) hr) (all_one hz)) hc) hu)⟩
  | 7, em, _, _, hr, hz, hc, hs, hu => exact ⟨900, [.b false, .b false, .b false, .b false, .n 7], of_run (runS7 x u) (obsP_of _ _ (all_app (all_app (all_app (all_app (all_app (all_cons (by rw [k.eq]; exact k.nan) (all_cons k.inf (all_one k.lt))) hm) (all_one (beq_iff_eq.2 em))) hr) (all_one hz)) hs) hu)⟩
  | n + 8, _, h, _, _, _, _, _, _ => exact absurd h (by omega)
theorem runC {x : Nat} (k : OkX x) (u : Value) (hu : some (Value.float .f64 (cosV x)) = some u) : ∃ n orc, runK Tryd.prog T FM n Tryd.f55 [AF x] [] orc (fun r _ => resW r = some u) := by
  have h0 := k.m0
  have h7 := k.m7
  have hr := k.r
  have hz := k.z
  have hc := k.c
  have hs := k.s
  have hm := k.m
  have ha := k.abs
  obtain ⟨m, em⟩ := Int.eq_ofNat_of_zero_le h0
  have hm8 : m < 8 := by omega
  have eh := OkX.h em
  unfold cosV at hu
  unfold qV zV at *
  rw [eh] at hr hz hc hs hu
  match m, em, hm8, eh, hr, hz, hc, hs, hu with
  | 0, em, _, _, hr, hz, hc, hs, hu => exact ⟨900, [.b false, .b false, .n 0], of_run (runC0 x u) (by rw [ha]; exact obsP_of _ _ (all_app (all_app (all_app (all_app (all_app (all_one (by rw [k.nan]; exact k.inf)) hm) (all_one (beq_iff_eq.2 em))) hr) (all_one hz)) hc) hu)⟩
  | 1, em, _, _, hr, hz, hc, hs, hu => exact ⟨900, [.b false, .b false, .n 1], of_run (runC1 x u) (by rw [ha]; exact obsP_of _ _ (all_app (all_app (all_app (all_app (all_app (all_one (by rw [k.nan]; exact k.inf)) hm) (all_one (beq_iff_eq.2 em))) hr) (all_one hz)) hs) hu)⟩
  | 2, em, _, _, hr, hz, hc, hs, hu => exact ⟨900, [.b false, .b false, .n 2], of_run (runC2 x u) (by rw [ha]; exact obsP_of _ _ (all_app (all_app (all_app (all_app (all_app (all_one (by rw [k.nan]; exact k.inf)) hm) (all_one (beq_iff_eq.2 em))) hr) (all_one hz)) hs) hu)⟩
  | 3, em, _, _, hr, hz, hc, hs, hu => exact ⟨900, [.b false, .b false, .n 3], of_run (runC3 x u) (by rw [ha]; exact obsP_of _ _ (all_app (all_app (all_app (all_app (all_app (all_one (by rw [k.nan]; exact k.inf)) hm) (all_one (beq_iff_eq.2 em))) hr) (all_one hz)) hc) hu)⟩
  | 4, em, _, _, hr, hz, hc, hs, hu => exact ⟨900, [.b false, .b false, .n 4], of_run (runC4 x u) (by rw [ha]; exact obsP_of _ _ (all_app (all_app (all_app (all_app (all_app (all_one (by rw [k.nan]; exact k.inf)) hm) (all_one (beq_iff_eq.2 em))) hr) (all_one hz)) hc) hu)⟩
  | 5, em, _, _, hr, hz, hc, hs, hu => exact ⟨900, [.b false, .b false, .n 5], of_run (runC5 x u) (by rw [ha]; exact obsP_of _ _ (all_app (all_app (all_app (all_app (all_app (all_one (by rw [k.nan]; exact k.inf)) hm) (all_one (beq_iff_eq.2 em))) hr) (all_one hz)) hs) hu)⟩
  | 6, em, _, _, hr, hz, hc, hs, hu => exact ⟨900, [.b false, .b false, .n 6], of_run (runC6 x u) (by rw [ha]; exact obsP_of _ _ (all_app (all_app (all_app (all_app (all_app (all_one (by rw [k.nan]; exact k.inf)) hm) (all_one (beq_iff_eq.2 em))) hr) (all_one hz)) hs) hu)⟩
  | 7, em, _, _, hr, hz, hc, hs, hu => exact ⟨900, [.b false, .b false, .n 7], of_run (runC7 x u) (by rw [ha]; exact obsP_of _ _ (all_app (all_app (all_app (all_app (all_app (all_one (by rw [k.nan]; exact k.inf)) hm) (all_one (beq_iff_eq.2 em))) hr) (all_one hz)) hc) hu)⟩
  | n + 8, _, h, _, _, _, _, _, _ => exact absurd h (by omega)
def GSC : List ArgV → Option (Prop × Value)
  | [.val (.float .f64 x)] => some (OkX x, .tuple #[.float .f64 (sinV x), .float .f64 (cosV x)])
  | _ => none
def GSin : List ArgV → Option (Prop × Value)
  | [.val (.float .f64 x)] => some (OkX x, .float .f64 (sinV x))
  | _ => none
def GCos : List ArgV → Option (Prop × Value)
  | [.val (.float .f64 x)] => some (OkX x, .float .f64 (cosV x))
  | _ => none
theorem con33 : ConP Tryd.prog 33 GSC := by
  refine conP_of_runW hm hT FMok Tryd.func33 Tryd.call33 fun avs p u h hp => ?_
  unfold GSC at h
  split at h
  · simp only [Option.some.injEq, Prod.mk.injEq] at h
    obtain ⟨rfl, hu⟩ := h
    obtain ⟨n, orc, hr⟩ := runSC hp u (congrArg some hu)
    exact ⟨[], n, orc, _, _, rfl, hr⟩
  · cases h
theorem con57 : ConP Tryd.prog 57 GSin := by
  refine conP_of_runW hm hT FMok Tryd.func57 Tryd.call57 fun avs p u h hp => ?_
  unfold GSin at h
  split at h
  · simp only [Option.some.injEq, Prod.mk.injEq] at h
    obtain ⟨rfl, hu⟩ := h
    obtain ⟨n, orc, hr⟩ := runS hp u (congrArg some hu)
    exact ⟨[], n, orc, _, _, rfl, hr⟩
  · cases h
theorem con55 : ConP Tryd.prog 55 GCos := by
  refine conP_of_runW hm hT FMok Tryd.func55 Tryd.call55 fun avs p u h hp => ?_
  unfold GCos at h
  split at h
  · simp only [Option.some.injEq, Prod.mk.injEq] at h
    obtain ⟨rfl, hu⟩ := h
    obtain ⟨n, orc, hr⟩ := runC hp u (congrArg some hu)
    exact ⟨[], n, orc, _, _, rfl, hr⟩
  · cases h
noncomputable def FT0 : Fns := ((FM.addP 33 GSC).addP 57 GSin).addP 55 GCos
theorem FT0ok : FnsOk Tryd.prog FT0 := ((FMok.addP con33).addP con57).addP con55
theorem run37 (x : Nat) (u : Value) : runK Tryd.prog T FT0 300 Tryd.f37 [AF x] [] [] (fun r _ => resW r = some u) = (OkX x ∧ some (Value.float .f64 (cosV x)) = some u) := by kernel_rfl
theorem run38 (x : Nat) (u : Value) : runK Tryd.prog T FT0 300 Tryd.f38 [AF x] [] [] (fun r _ => resW r = some u) = (OkX x ∧ some (Value.float .f64 (sinV x)) = some u) := by kernel_rfl
theorem con37 : ConP Tryd.prog 37 GCos := by
  refine conP_of_runW hm hT FT0ok Tryd.func37 Tryd.call37 fun avs p u h hp => ?_
  unfold GCos at h
  split at h
  · simp only [Option.some.injEq, Prod.mk.injEq] at h
    obtain ⟨rfl, rfl⟩ := h
    exact ⟨[], 300, [], _, _, rfl, of_run (run37 _ _) ⟨hp, rfl⟩⟩
  · cases h
theorem con38 : ConP Tryd.prog 38 GSin := by
  refine conP_of_runW hm hT FT0ok Tryd.func38 Tryd.call38 fun avs p u h hp => ?_
  unfold GSin at h
  split at h
  · simp only [Option.some.injEq, Prod.mk.injEq] at h
    obtain ⟨rfl, rfl⟩ := h
    exact ⟨[], 300, [], _, _, rfl, of_run (run38 _ _) ⟨hp, rfl⟩⟩
  · cases h
noncomputable def FT1 : Fns := (FT0.addP 37 GCos).addP 38 GSin
theorem FT1ok : FnsOk Tryd.prog FT1 := (FT0ok.addP con37).addP con38
end Go.Proofs.YthddkcoflnbjbaaDoor
