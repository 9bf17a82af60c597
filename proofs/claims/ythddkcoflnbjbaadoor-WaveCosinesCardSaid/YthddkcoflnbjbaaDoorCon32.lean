/-
  What is proved here: contracts of wave.Cosines and the reference's Cosines, of tame numbers and of any. A text to be imported.
-/
import Derived.Test.YthddkcoflnbjbaaDoorCon31
import Derived.Test.YthddkcoflnbjbaaDoorCon17
namespace Go.Proofs.YthddkcoflnbjbaaDoor
open Sm Go Go.RowKit Fl Ieee
set_option maxRecDepth 1000000
set_option linter.unusedVariables false
noncomputable def FR : Fns := (FM.add 37 GCosT).addP 25 GSqrt
theorem FRok : FnsOk Tryd.prog FR := (FMok.add con37T).addP con25
def w2 : Nat := 4611686018427387904
def cw (u n : Nat) : Nat := cosTV (8 * u + n)
def tK (x : Nat → Nat) (u n : Nat) : Nat := fbin .mul .f64 (x n) (cw u n)
def sK (x : Nat → Nat) (u : Nat) : Nat → Nat
  | 0 => 0
  | n + 1 => fbin .add .f64 (sK x u n) (tK x u n)
def zK (x : Nat → Nat) (u : Nat) : Nat := fbin .quo .f64 (sK x u 8) w2
def okK1 (x : Nat → Nat) (u n : Nat) (r : Prop) : Prop := fok .mul .f64 (x n) (cw u n) = true ∧ fok .add .f64 (sK x u n) (tK x u n) = true ∧ r
def okZ (x : Nat → Nat) (u : Nat) (r : Prop) : Prop := okK1 x u 0 (okK1 x u 1 (okK1 x u 2 (okK1 x u 3 (okK1 x u 4 (okK1 x u 5 (okK1 x u 6 (okK1 x u 7 (fok .quo .f64 (sK x u 8) w2 = true ∧ r))))))))
def zQ (x : Nat → Nat) (u : Nat) : Nat := match u with
  | 0 => fbin .quo .f64 (zK x 0) (rootF w2)
  | u + 1 => zK x (u + 1)
def zA (x : Nat → Nat) : Value := .agg #[.float .f64 (zQ x 0), .float .f64 (zQ x 1), .float .f64 (zQ x 2), .float .f64 (zQ x 3), .float .f64 (zQ x 4), .float .f64 (zQ x 5), .float .f64 (zQ x 6), .float .f64 (zQ x 7)]
theorem run27 (x : Nat → Nat) (u : Value) : runK Tryd.prog T FR 3000 Tryd.f27 [aF x] [] [] (fun r _ => resW r = some u) = okZ x 0 (okZ x 1 (okZ x 2 (okZ x 3 (okZ x 4 (okZ x 5 (okZ x 6 (okZ x 7 (rtO w2 ∧ fok .quo .f64 (zK x 0) (rootF w2) = true ∧ some (zA x) = some u)))))))) := by kernel_rfl
def okRc (x : Nat → Nat) : Prop := (∀ u, u < 8 → (∀ n, n < 8 → fok .mul .f64 (x n) (cw u n) = true ∧ fok .add .f64 (sK x u n) (tK x u n) = true) ∧ fok .quo .f64 (sK x u 8) w2 = true) ∧ rtO w2 ∧ fok .quo .f64 (zK x 0) (rootF w2) = true
theorem okZ_of {x : Nat → Nat} {u : Nat} {r : Prop} (h : (∀ n, n < 8 → fok .mul .f64 (x n) (cw u n) = true ∧ fok .add .f64 (sK x u n) (tK x u n) = true) ∧ fok .quo .f64 (sK x u 8) w2 = true) (hr : r) : okZ x u r :=
  ⟨(h.1 0 (by decide)).1, (h.1 0 (by decide)).2, ⟨(h.1 1 (by decide)).1, (h.1 1 (by decide)).2, ⟨(h.1 2 (by decide)).1, (h.1 2 (by decide)).2, ⟨(h.1 3 (by decide)).1, (h.1 3 (by decide)).2, ⟨(h.1 4 (by decide)).1, (h.1 4 (by decide)).2, ⟨(h.1 5 (by decide)).1, (h.1 5 (by decide)).2, ⟨(h.1 6 (by decide)).1, (h.1 6 (by decide)).2, ⟨(h.1 7 (by decide)).1, (h.1 7 (by decide)).2, h.2, hr⟩⟩⟩⟩⟩⟩⟩⟩
def GRc : List ArgV → Option (Prop × Value)
  | [.val (.agg a)] => fltsK .f64 a.toList fun xs => if xs.length = 8 then some (okRc (xs.getD · 0), zA (xs.getD · 0)) else none
  | _ => none
theorem con27 : ConP Tryd.prog 27 GRc := by
  refine conP_of_runW hm hT FRok Tryd.func27 Tryd.call27 fun avs p u h hp => ?_
  unfold GRc at h
  split at h
  · rename_i a
    obtain ⟨xs, ha, h⟩ := fltsK_spec _ _ _ h
    split at h
    · rename_i hl
      simp only [Option.some.injEq, Prod.mk.injEq] at h
      obtain ⟨rfl, rfl⟩ := h
      obtain ⟨a⟩ := a
      have ha' : a = xs.map (Value.float .f64) := ha
      subst ha'
      match xs, hl, hp with
      | [x0, x1, x2, x3, x4, x5, x6, x7], _, hp =>
        obtain ⟨h1, h2, h3⟩ := hp
        refine ⟨[false], 3000, [], _, _, rfl, of_run (run27 ([x0, x1, x2, x3, x4, x5, x6, x7].getD · 0) _) ?_⟩
        exact okZ_of (h1 0 (by decide)) (okZ_of (h1 1 (by decide)) (okZ_of (h1 2 (by decide)) (okZ_of (h1 3 (by decide)) (okZ_of (h1 4 (by decide)) (okZ_of (h1 5 (by decide)) (okZ_of (h1 6 (by decide)) (okZ_of (h1 7 (by decide)) (⟨h2, h3, rfl⟩))))))))
    · cases h
  · cases h
/-! any numbers -/
def FU8 : List C1 := [.fl .f64, .fl .f64, .fl .f64, .fl .f64, .fl .f64, .fl .f64, .fl .f64, .fl .f64]
def CU16 : List C1 := [CU, CU, CU, CU, CU, CU, CU, CU, CU, CU, CU, CU, CU, CU, CU, CU]
def b8 : Blk := { body := .li FU8, elem := 41, live := true, ro := false }
def bD16 : Blk := { body := .li CU16, elem := 28, live := false, ro := false }
def okBU (k : Nat) (r : Prop) : Prop := decide ((k : Int) < 8) = true ∧ (0 ≤ (k : Int) ∧ (k : Int) < 8) ∧ k < 16 ∧ r
theorem run24U (K : Option AV → List Blk → Prop) : runK Tryd.prog T FDU 900 Tryd.f24 [.agg FU8] [deadB] [.b true, .b true, .b true, .b true, .b true, .b true, .b true, .b true, .b false] K =
  ((0 ≤ (16 : Int) ∧ (16 : Int) ≤ 16 ∧ (16 : Int) * 16 ≤ 281474976710656 ∧ (16 : Int) ≤ 9223372036854775807) ∧ ((True ∧ True ∧ True) ∧ okTU 1 16 16 (fun k => [normC (CU16.getD k .em)])) ∧ (0 ≤ (0 : Int) ∧ (0 : Int) ≤ 8 ∧ (8 : Int) ≤ 16 ∧ ((0 : Int) < 16 ∨ (0 : Int) = 0)) ∧
   okBU 0 (okBU 1 (okBU 2 (okBU 3 (okBU 4 (okBU 5 (okBU 6 (okBU 7 (decide ((8 : Int) < 8) = false ∧ K (some (.agg FU8)) [deadB, b8, b8, bD16, b8, bX 16]))))))))) := by kernel_rfl
theorem run27U (K : Option AV → List Blk → Prop) : runK Tryd.prog T FR 3000 Tryd.f27 [.agg FU8] [deadB] [] K = (rtO w2 ∧ K (some (.agg FU8)) [deadB, b8, b8, b8]) := by kernel_rfl
def flB : C1 → Bool
  | .fl k => decide (k = .f64)
  | .sc (.float k _) _ => decide (k = .f64)
  | _ => false
theorem flB_RC {E : Env} {c : C1} {u : Value} (h : flB c = true) (hr : RC E c u) : RC E (.fl .f64) u := by
  unfold flB at h
  split at h
  · simp only [decide_eq_true_eq] at h; subst h; exact hr
  · simp only [decide_eq_true_eq] at h; subst h; exact ⟨_, hr.1⟩
  · cases h
theorem flB_RV {E : Env} {l : List C1} {u : Value} (hl : l.length = 8) (h : l.all flB = true) (hr : RV E (.agg l) u) : RV E (.agg FU8) u := by
  obtain ⟨vs, hu, h1, h2⟩ := hr
  refine ⟨vs, hu, by rw [← h1, hl]; rfl, fun j c v hc hv => ?_⟩
  have hj : j < 8 := by have := (List.getElem?_eq_some_iff.1 hc).1; exact this
  have hcU : c = .fl .f64 := by
    match j, hj, hc with
    | 0, _, hc => exact (Option.some.inj hc).symm
    | 1, _, hc => exact (Option.some.inj hc).symm
    | 2, _, hc => exact (Option.some.inj hc).symm
    | 3, _, hc => exact (Option.some.inj hc).symm
    | 4, _, hc => exact (Option.some.inj hc).symm
    | 5, _, hc => exact (Option.some.inj hc).symm
    | 6, _, hc => exact (Option.some.inj hc).symm
    | 7, _, hc => exact (Option.some.inj hc).symm
    | n + 8, h, _ => omega
  subst hcU
  obtain ⟨d, hd⟩ : ∃ d, l[j]? = some d := ⟨l[j]'(by omega), List.getElem?_eq_getElem _⟩
  exact flB_RC (List.all_eq_true.1 h d (List.mem_of_getElem? hd)) (h2 j d v hd hv)
def GAny8 : List AV → Option (Prop × AV × Blk)
  | [.agg l] => some (l.length = 8 ∧ l.all flB = true, .agg FU8, deadB)
  | _ => none
theorem LU_eq : ∀ k, k < 16 → [normC (CU16.getD k .em)] = [CU]
  | 0, _ => rfl
  | 1, _ => rfl
  | 2, _ => rfl
  | 3, _ => rfl
  | 4, _ => rfl
  | 5, _ => rfl
  | 6, _ => rfl
  | 7, _ => rfl
  | 8, _ => rfl
  | 9, _ => rfl
  | 10, _ => rfl
  | 11, _ => rfl
  | 12, _ => rfl
  | 13, _ => rfl
  | 14, _ => rfl
  | 15, _ => rfl
  | n + 16, h => by omega
theorem fu8_left {hp0 : List Blk} : Export [] (.agg FU8) hp0 (.agg FU8) deadB :=
  nothing_left noFroz ⟨rfl, rfl, rfl, rfl, rfl, rfl, rfl, rfl, trivial⟩
theorem gcon24U : GCon Tryd.prog 24 GAny8 := by
  refine gcon_of_runA hm hT Tryd.func24 Tryd.call24 fun args p v b h hp => ?_
  unfold GAny8 at h
  split at h
  · rename_i l
    simp only [Option.some.injEq, Prod.mk.injEq] at h
    obtain ⟨rfl, rfl, rfl⟩ := h
    refine ⟨.inl rfl, dead_free, FDU, [.agg FU8], FDUok, fun E us hr => ?_, 900, [.b true, .b true, .b true, .b true, .b true, .b true, .b true, .b true, .b false], [], ?_⟩
    · obtain ⟨u, us, rfl, h1, h2⟩ := hr.cons
      exact .mk (flB_RV hp.1 hp.2 h1) h2
    · exact of_run (run24U _) ⟨⟨by decide, by decide, by decide, by decide⟩, ⟨⟨trivial, trivial, trivial⟩, ⟨4, by decide, rfl⟩, .inl rfl, Nat.le_refl _, LU_eq⟩, ⟨by decide, by decide, by decide, .inl (by decide)⟩,
        by decide, ⟨by decide, by decide⟩, by decide, by decide, ⟨by decide, by decide⟩, by decide, by decide, ⟨by decide, by decide⟩, by decide, by decide, ⟨by decide, by decide⟩, by decide, by decide, ⟨by decide, by decide⟩, by decide, by decide, ⟨by decide, by decide⟩, by decide, by decide, ⟨by decide, by decide⟩, by decide, by decide, ⟨by decide, by decide⟩, by decide, by decide, _, rfl, fu8_left⟩
  · cases h
theorem gcon27U : GCon Tryd.prog 27 GAny8 := by
  refine gcon_of_runA hm hT Tryd.func27 Tryd.call27 fun args p v b h hp => ?_
  unfold GAny8 at h
  split at h
  · rename_i l
    simp only [Option.some.injEq, Prod.mk.injEq] at h
    obtain ⟨rfl, rfl, rfl⟩ := h
    refine ⟨.inl rfl, dead_free, FR, [.agg FU8], FRok, fun E us hr => ?_, 3000, [], [], ?_⟩
    · obtain ⟨u, us, rfl, h1, h2⟩ := hr.cons
      exact .mk (flB_RV hp.1 hp.2 h1) h2
    · exact of_run (run27U _) ⟨by unfold rtO; decide +kernel, _, rfl, fu8_left⟩
  · cases h
noncomputable def FT10 : Fns := (FM.addP 24 GCosn).addP 27 GRc
theorem FT10ok : FnsOk Tryd.prog FT10 := (FMok.addP con24).addP con27
noncomputable def FU10 : Fns := (FM.addG 24 GAny8).addG 27 GAny8
theorem FU10ok : FnsOk Tryd.prog FU10 := (FMok.addG gcon24U).addG gcon27U
end Go.Proofs.YthddkcoflnbjbaaDoor
