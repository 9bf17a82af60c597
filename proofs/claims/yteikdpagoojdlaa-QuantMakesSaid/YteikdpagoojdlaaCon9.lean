/-
  What is proved here: contracts of quant.Share, of the reference's too. A text to be imported.
-/
import Derived.Test.YteikdpagoojdlaaLaw0
import Derived.Test.YteikdpagoojdlaaSimR
namespace Go.Proofs.Yteikdpagoojdlaa
open Sm Go Go.RowKit Fl
set_option maxRecDepth 1000000
def fI (n : Int) : Nat := FloatKind.f32.nearest n
def quoV (f s : Nat → Int) (k : Nat) : Nat := fbin .quo .f32 (fI (f (ord k))) (fI (s k))
def shareV (f s : Nat → Int) (k : Nat) : Nat := fbin .sub .f32 (quoV f s k) (fI (coarseV f s k))
def shareO (f s : Nat → Int) : List Prop := (List.range 64).flatMap fun k => [fok .quo .f32 (fI (f (ord k))) (fI (s k)) = true, fok .sub .f32 (quoV f s k) (fI (coarseV f s k)) = true]
def vF32 (f : Nat → Nat) : Value := .agg ((List.range 64).map fun i => Value.float .f32 (f i)).toArray
theorem small_lt {n : Int} (h1 : -2147483648 ≤ n) (h2 : n ≤ 2147483648) : (n : Rat) < tp .f32 ∧ -tp .f32 < (n : Rat) := by
  have ht := tp_ge .f32
  have a : (n : Rat) ≤ ((2147483648 : Int) : Rat) := Rat.intCast_le_intCast.2 h2
  have b : ((-2147483648 : Int) : Rat) ≤ (n : Rat) := Rat.intCast_le_intCast.2 h1
  have c : ((2147483648 : Int) : Rat) = 2147483648 := rfl
  have d : ((-2147483648 : Int) : Rat) = -2147483648 := rfl
  rw [c] at a
  rw [d] at b
  constructor <;> grind
theorem rep32 {n : Int} (h1 : -16777216 ≤ n) (h2 : n ≤ 16777216) : rep FloatKind.f32.format (n : Rat) :=
  rep_int (lp0 .f32) (show -((2 ^ 24 : Nat) : Int) ≤ n by omega) (show n ≤ ((2 ^ 24 : Nat) : Int) by omega)
theorem rep31 (s : Bool) : rep FloatKind.f32.format (sg s * 2147483648) := ⟨s, 1, 31, by decide, by decide, by rw [show (31 : Int) = ((31 : Nat) : Int) from rfl, pw_nat, show (2 ^ 31 : Nat) = 2147483648 from rfl, Rat.natCast_ofNat, Rat.natCast_ofNat, Rat.mul_one]⟩
theorem fI_small {n : Int} (h1 : -16777216 ≤ n) (h2 : n ≤ 16777216) : fnum .f32 (fI n) ∧ fv .f32 (fI n) = (n : Rat) := by
  obtain ⟨a, b⟩ := small_lt (n := n) (by omega) (by omega)
  have h : Rnd FloatKind.f32.format (fI n) (n : Rat) := fint (k := .f32) n a b
  exact ⟨h.num, h.exact (rep32 h1 h2)⟩
theorem fI_any {n : Int} (h1 : -2147483648 ≤ n) (h2 : n ≤ 2147483648) : fnum .f32 (fI n) ∧ fv .f32 (fI n) ≤ 2147483648 ∧ -2147483648 ≤ fv .f32 (fI n) := by
  obtain ⟨a, b⟩ := small_lt h1 h2
  have h : Rnd FloatKind.f32.format (fI n) (n : Rat) := fint (k := .f32) n a b
  refine ⟨h.num, ?_, ?_⟩
  · have := h.le _ (rep31 false) (by
      have : (n : Rat) ≤ ((2147483648 : Int) : Rat) := Rat.intCast_le_intCast.2 h2
      have c : ((2147483648 : Int) : Rat) = 2147483648 := rfl
      rw [c] at this
      simp only [sg, Bool.false_eq_true, if_false]
      grind)
    simp only [sg, Bool.false_eq_true, if_false] at this
    grind
  · have := h.ge _ (rep31 true) (by
      have : ((-2147483648 : Int) : Rat) ≤ (n : Rat) := Rat.intCast_le_intCast.2 h1
      have d : ((-2147483648 : Int) : Rat) = -2147483648 := rfl
      rw [d] at this
      simp only [sg, if_true]
      grind)
    simp only [sg, if_true] at this
    grind
theorem div_bounds {a s B : Rat} (hs : 1 ≤ s) (h1 : a ≤ B) (h2 : -B ≤ a) : a / s ≤ B ∧ -B ≤ a / s := by
  have hs0 : 0 < s := by grind
  have hB : 0 ≤ B := by grind
  have hc := Rat.div_mul_cancel (a := a) (Rat.ne_of_gt hs0)
  have hBs := Rat.mul_le_mul_of_nonneg_left hs hB
  constructor
  · refine Rat.le_of_mul_le_mul_right (c := s) ?_ hs0
    rw [hc]; grind
  · refine Rat.le_of_mul_le_mul_right (c := s) ?_ hs0
    rw [hc]; grind
theorem quo_ok {f s : Nat → Int} (h : fits f s) {k : Nat} (hk : k < 64) :
    fok .quo .f32 (fI (f (ord k))) (fI (s k)) = true ∧ Rnd FloatKind.f32.format (quoV f s k) (fv .f32 (fI (f (ord k))) / (s k : Rat)) ∧ fv .f32 (quoV f s k) ≤ 2147483648 ∧ -2147483648 ≤ fv .f32 (quoV f s k) := by
  obtain ⟨f1, f2⟩ := h.1 _ (ord_lt k hk)
  obtain ⟨s1, s2⟩ := h.2 k hk
  obtain ⟨a1, a2, a3⟩ := fI_any (n := f (ord k)) f1 (by omega)
  obtain ⟨b1, b2⟩ := fI_small (n := s k) (by omega) (by omega)
  have hs : (1 : Rat) ≤ (s k : Rat) := by
    have : ((1 : Int) : Rat) ≤ (s k : Rat) := Rat.intCast_le_intCast.2 s1
    exact this
  obtain ⟨d1, d2⟩ := div_bounds hs a2 a3
  have ht := tp_ge .f32
  obtain ⟨o, r⟩ := fbin_quo a1 b1 (by rw [b2]; grind) (by rw [b2]; grind) (by rw [b2]; grind)
  rw [b2] at r
  refine ⟨o, r, ?_, ?_⟩
  · have := r.le _ (rep31 false) (by simp only [sg, Bool.false_eq_true, if_false]; grind)
    simp only [sg, Bool.false_eq_true, if_false] at this
    unfold quoV; grind
  · have := r.ge _ (rep31 true) (by simp only [sg, if_true]; grind)
    simp only [sg, if_true] at this
    unfold quoV; grind
theorem share_ok {f s : Nat → Int} (h : fits f s) {k : Nat} (hk : k < 64) :
    fok .sub .f32 (quoV f s k) (fI (coarseV f s k)) = true ∧ Rnd FloatKind.f32.format (shareV f s k) (fv .f32 (quoV f s k) - (coarseV f s k : Rat)) := by
  obtain ⟨_, q1, q2, q3⟩ := quo_ok h hk
  have hr := coarseV_range (f := f) (s := s) (k := k) (h.1 _ (ord_lt k hk))
  have hl : -1024 ≤ leastV k := by rw [leastV_eq]; split <;> omega
  obtain ⟨c1, c2⟩ := fI_small (n := coarseV f s k) (by omega) (by omega)
  have e1 : ((-1024 : Int) : Rat) ≤ (coarseV f s k : Rat) := Rat.intCast_le_intCast.2 (by omega)
  have e2 : (coarseV f s k : Rat) ≤ ((1023 : Int) : Rat) := Rat.intCast_le_intCast.2 hr.2
  have ht := tp_ge .f32
  have c3 : ((-1024 : Int) : Rat) = -1024 := rfl
  have c4 : ((1023 : Int) : Rat) = 1023 := rfl
  rw [c3] at e1
  rw [c4] at e2
  have := fbin_sub q1.num c1 (by rw [c2]; grind) (by rw [c2]; grind)
  rw [c2] at this
  exact this
theorem shareO_ok {f s : Nat → Int} (h : fits f s) : ∀ p ∈ shareO f s, p := by
  intro p hp
  simp only [shareO, List.mem_flatMap, List.mem_range, List.mem_cons, List.not_mem_nil, or_false] at hp
  obtain ⟨k, hk, rfl | rfl⟩ := hp
  · exact (quo_ok h hk).1
  · exact (share_ok h hk).1
theorem run18_11 (e : TypeId) (f : Nat → Int) (e' : TypeId) (t : Nat → Int) (u : Value) : runK Try.prog T FG 4000 Try.f18 [.one (.ptr 0 0), .one (.ptr 1 0)] [mbK .i32 e f, mbK .u16 e' t] [] (fun r _ => resW r = some u) = (fitsN f (fun i => stepV (t i)) 64 0 ∧ obsP (shareO f (fun i => stepV (t i))) (some (vF32 (shareV f (fun i => stepV (t i)))) = some u)) := by kernel_rfl
theorem run18_10 (e : TypeId) (f : Nat → Int) (u : Value) : runK Try.prog T FG 4000 Try.f18 [.one (.ptr 0 0), nilA] [mbK .i32 e f] [] (fun r _ => resW r = some u) = (fitsN f (fun _ => 1) 64 0 ∧ obsP (shareO f (fun _ => 1)) (some (vF32 (shareV f (fun _ => 1))) = some u)) := by kernel_rfl
theorem run18_01 (e' : TypeId) (t : Nat → Int) (u : Value) : runK Try.prog T FG 4000 Try.f18 [nilA, .one (.ptr 0 0)] [mbK .u16 e' t] [] (fun r _ => resW r = some u) = (fitsN (fun _ => 0) (fun i => stepV (t i)) 64 0 ∧ obsP (shareO (fun _ => 0) (fun i => stepV (t i))) (some (vF32 (shareV (fun _ => 0) (fun i => stepV (t i)))) = some u)) := by kernel_rfl
theorem run18_00 (u : Value) : runK Try.prog T FG 4000 Try.f18 [nilA, nilA] [] [] (fun r _ => resW r = some u) = (fitsN (fun _ => 0) (fun _ => 1) 64 0 ∧ obsP [] (some (vF32 (shareV (fun _ => 0) (fun _ => 1))) = some u)) := by kernel_rfl
def GShare : List ArgV → Option (Prop × Value)
  | [a, b] => viewF a fun f => viewT b fun s => some (fitsN f s 64 0, vF32 (shareV f s))
  | _ => none
theorem con18 : ConP Try.prog 18 GShare := by
  refine conP_of_runW hm hT FGok Try.func18 Try.call18 fun avs p u h hp => ?_
  unfold GShare at h
  split at h
  · rename_i a b
    rcases viewF_spec h with ⟨rfl, h2⟩ | ⟨e, f, rfl, h2⟩ <;> rcases viewT_spec h2 with ⟨rfl, h3⟩ | ⟨e', t, rfl, h3⟩ <;> simp only [Option.some.injEq, Prod.mk.injEq] at h3 <;> obtain ⟨rfl, rfl⟩ := h3
    · exact ⟨[true, true], 4000, [], _, _, rfl, of_run (run18_00 _) ⟨hp, rfl⟩⟩
    · exact ⟨[true, false], 4000, [], _, _, canon01 e' t, of_run (run18_01 e' t _) ⟨hp, obsP_of _ _ (shareO_ok (fits_of hp)) rfl⟩⟩
    · exact ⟨[false, true], 4000, [], _, _, canon10 e f, of_run (run18_10 e f _) ⟨hp, obsP_of _ _ (shareO_ok (fits_of hp)) rfl⟩⟩
    · exact ⟨[], 4000, [], _, _, canon11 e e' f t, of_run (run18_11 e f e' t _) ⟨hp, obsP_of _ _ (shareO_ok (fits_of hp)) rfl⟩⟩
  · cases h
theorem run19 (f t : Nat → Int) (u : Value) : runK Try.prog T FG 6000 Try.f19 [.agg (cellsK .i32 false 64 f), .agg (cellsK .u16 false 64 t)] [] [] (fun r _ => resW r = some u) = (fitsN f (fun i => stepV (t i)) 64 0 ∧ obsP (shareO f fun i => stepV (t i)) (some (vF32 (shareV f fun i => stepV (t i))) = some u)) := by kernel_rfl
def GShareR : List ArgV → Option (Prop × Value)
  | [.val (.agg cs), .val (.agg ds)] => intsK .i32 cs.toList (vecN 64 fun f => intsK .u16 ds.toList (vecN 64 fun t => some (fitsN f (fun i => stepV (t i)) 64 0, vF32 (shareV f fun i => stepV (t i)))))
  | _ => none
theorem con19 : ConP Try.prog 19 GShareR := by
  refine conP_of_runW hm hT FGok Try.func19 Try.call19 fun avs p u h hp => ?_
  unfold GShareR at h
  split at h
  · rename_i cs ds
    obtain ⟨f, rfl, h2⟩ := arrA_spec h
    obtain ⟨t, rfl, h3⟩ := arrA_spec h2
    simp only [Option.some.injEq, Prod.mk.injEq] at h3
    obtain ⟨rfl, rfl⟩ := h3
    exact ⟨[], 6000, [], _, _, canonFT f t, of_run (run19 f t _) ⟨hp, obsP_of _ _ (shareO_ok (fits_of hp)) rfl⟩⟩
  · cases h
noncomputable def FK : Fns := (FJ.addP 18 GShare).addP 19 GShareR
theorem FKok : FnsOk Try.prog FK := (FJok.addP con18).addP con19
end Go.Proofs.Yteikdpagoojdlaa
