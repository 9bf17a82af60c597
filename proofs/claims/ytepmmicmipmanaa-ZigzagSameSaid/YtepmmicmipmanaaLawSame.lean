/-
  What is proved here: for every two lists of blocks the law ZigzagSame returns true and its arguments read as before. No condition.
-/
import Derived.Test.YtepmmicmipmanaaCon9
namespace Go.Proofs.Ytepmmicmipmanaa.ZigzagSame
open Sm Go Go.RowKit Go.ChangeShapes Go.WideShapes Go.ChangeAt
set_option maxRecDepth 1000000
set_option linter.unusedVariables false
theorem own : ownKnob Try.prog.godebug = none := by kernel_rfl
theorem laidOut : laidOutB Try.prog = true := by kernel_rfl
def gA (f : Nat → Int) (j : Nat) : C1 := .sc (.int .i16 (f j)) false
def gX (f : Nat → Int) (j : Nat) : C1 := gA f (0 + j)
abbrev VL : Type := Prop × Nat × (Nat → Int)
def vE : VL := (True, 0, fun _ => 0)
def vG (n : Nat) (g : Nat → C1) : VL := (0 < n ∧ n * 64 = n * 64 ∧ (∀ j, j < n * 64 → g j = .sc (.int .i16 (toI (g j))) false), n, fun j => toI (g j))
def sm (a b : VL) : Bool := sameB a.2.1 b.2.1 a.2.2 b.2.2
def appP (n : Nat) : Prop := n ≠ 0 ∧ 0 + n * 64 ≤ n * 64 ∧ n * 128 ≤ 140737488355328 ∧ n ≤ maxLen
def lastB (x y a b : VL) : Bool :=
  bif bif bif sm x y == sm a b then bif sm x x then sm y x == sm b a else false else false then sm x a else false then sm y b else false
def lawP (x y a b : VL) : Prop :=
  (x.1 ∧ y.1) ∧ ((a.1 ∧ b.1) ∧ ((x.1 ∧ x.1) ∧ ((y.1 ∧ x.1) ∧ ((b.1 ∧ a.1) ∧ ((x.1 ∧ a.1) ∧ ((y.1 ∧ b.1) ∧ lastB x y a b = true))))))
theorem walkEE : runK Try.prog T FS 3000 Try.f3 [emA, emA] [] [] (fun r _ => isTrue r) = lawP vE vE vE vE := by kernel_rfl
theorem walkES (m : Nat) (g : Nat → Int) (t : TypeId) : runK Try.prog T FS 3000 Try.f3 [emA, s0 m] [lB m g t] [] (fun r _ => isTrue r) = (appP m ∧ lawP vE (vG m (gX g)) vE (vG m (gA g))) := by kernel_rfl
theorem walkSE (n : Nat) (f : Nat → Int) (t : TypeId) : runK Try.prog T FS 3000 Try.f3 [s0 n, emA] [lB n f t] [] (fun r _ => isTrue r) = (appP n ∧ lawP (vG n (gX f)) vE (vG n (gA f)) vE) := by kernel_rfl
theorem walkSS (n m : Nat) (f g : Nat → Int) (t1 t2 : TypeId) : runK Try.prog T FS 3000 Try.f3 [s0 n, s1 m] [lB n f t1, lB m g t2] [] (fun r _ => isTrue r) = (appP n ∧ (appP m ∧ lawP (vG n (gX f)) (vG m (gX g)) (vG n (gA f)) (vG m (gA g)))) := by kernel_rfl
theorem tA (f : Nat → Int) : (fun j => toI (gA f j)) = f := rfl
theorem tX (f : Nat → Int) : (fun j => toI (gX f j)) = f := by funext j; show f (0 + j) = f j; rw [Nat.zero_add]
theorem vG_ok {n : Nat} (h : 0 < n) (f : Nat → Int) : (vG n (gA f)).1 ∧ (vG n (gX f)).1 := ⟨⟨h, rfl, fun j _ => rfl⟩, ⟨h, rfl, fun j _ => rfl⟩⟩
theorem self (n : Nat) (f : Nat → Int) : sameB n n f f = true := by simp [sameB, allB]
theorem law_ok {x y a b : VL} (px : x.1) (py : y.1) (pa : a.1) (pb : b.1) (hx : x.2 = a.2) (hy : y.2 = b.2) : lawP x y a b := by
  refine ⟨⟨px, py⟩, ⟨pa, pb⟩, ⟨px, px⟩, ⟨py, px⟩, ⟨pb, pa⟩, ⟨px, pa⟩, ⟨py, pb⟩, ?_⟩
  unfold lastB sm
  rw [hx, hy, self, self]
  simp
theorem app_ok {n : Nat} {f : Nat → Int} {w : World} {u : Value} (l : Len n f w u) (h : n * 128 ≤ 140737488355328) : appP n := ⟨by have := l.pos; omega, by omega, h, Nat.le_trans l.le l.max⟩
theorem walk (n0 n1 : Nat) (f0 f1 : Nat → Int) (u0 u1 : Value) (w : World) (l0 : LV w .i16 64 n0 f0 u0) (l1 : LV w .i16 64 n1 f1 u1) (b0 : n0 * 128 ≤ 140737488355328) (b1 : n1 * 128 ≤ 140737488355328) :
    Calls Try.prog 3 #[u0, u1] w fun e w' => e = .returned (.bool true) ∧ Below w.heap.size w w' := by
  rcases lv_cases l0 with ⟨rfl, c0, k0, rfl⟩ | ⟨l0, _⟩ <;> rcases lv_cases l1 with ⟨rfl, c1, k1, rfl⟩ | ⟨l1, _⟩
  · exact law_of_env hm hT FSok Try.func3 (rh0 w) (RA.two (emRV _ _ _) (emRV _ _ _)) (of_run walkEE (law_ok trivial trivial trivial trivial rfl rfl))
  · exact law_of_env hm hT FSok Try.func3 (rh1 l1) (RA.two (emRV _ _ _) (l1.rv rfl)) (of_run (walkES n1 f1 l1.t) ⟨app_ok l1 b1, law_ok trivial (vG_ok l1.pos f1).2 trivial (vG_ok l1.pos f1).1 rfl (by show (n1, _) = (n1, _); rw [tX, tA])⟩)
  · exact law_of_env hm hT FSok Try.func3 (rh1 l0) (RA.two (l0.rv rfl) (emRV _ _ _)) (of_run (walkSE n0 f0 l0.t) ⟨app_ok l0 b0, law_ok (vG_ok l0.pos f0).2 trivial (vG_ok l0.pos f0).1 trivial (by show (n0, _) = (n0, _); rw [tX, tA]) rfl⟩)
  · exact law_of_env hm hT FSok Try.func3 (rh2 l0 l1) (RA.two (l0.rv rfl) (l1.rv rfl)) (of_run (walkSS n0 n1 f0 f1 l0.t l1.t) ⟨app_ok l0 b0, app_ok l1 b1, law_ok (vG_ok l0.pos f0).2 (vG_ok l1.pos f1).2 (vG_ok l0.pos f0).1 (vG_ok l1.pos f1).1 (by show (n0, _) = (n0, _); rw [tX, tA]) (by show (n1, _) = (n1, _); rw [tX, tA])⟩)
theorem bytes38 : Try.prog.bytesOf 38 = 128 := by kernel_rfl
theorem cells36 : Try.prog.cellsOf 36 = 1 := by kernel_rfl
theorem cells38 : Try.prog.cellsOf 38 = 64 := by kernel_rfl
theorem lifted (os : Os) (started : os.Started) (H : Type) (enc : TypeId × Value → H) :
    ReturnsInHanded {} Try.checked os 3 .any (Rows.zigzagSameSpec.pre6 enc Try.prog Try.f3 Rows.zigzagSameRow.domain false) (Rows.zigzagSameSpec.post enc Try.prog Try.f3 false true false false) := by
  refine returnsInHanded_of_change_sized (C := Try.checked) own started (by kernel_rfl) Try.func3
    (ChangeSpec.witness6 (enc := enc) (C := Try.checked) false ⟨#[], #[.slice none 0 0, .slice none 0 0], []⟩ 8 (by kernel_rfl) (by kernel_rfl) (by kernel_rfl) (by kernel_rfl)) ?_
  intro W base args ds gs before hval0 hW hcnd hsz0 _
  have hsz : (DataW.weightsEach Try.prog (Try.f3.params.toList ++ Rows.zigzagSameSpec.plain.varTypes Try.prog) (ds ++ gs)).all (· ≤ reachBytes) = true := hsz0
  have hval : ∀ (j : Nat) t v, Try.f3.params[j]? = some t → args[j]? = some v → Value.okWide Try.prog W .any base t v := hval0
  have hW' := hW
  obtain ⟨p, q, hA0, hV, rfl, hfz, hnd⟩ := hW
  have hA : DataW.TrodAll enc Try.prog W 0 (fun _ => true) true Try.f3.params.toList args.toList ds p := hA0
  rw [Try.params3] at hA hval hsz
  have hA2 := hA
  have hlt := trodAll_lt _ _ _ _ hA2
  obtain ⟨v0, vs0, d0, ds0, p0, q0, hargs, rfl, rfl, h0, r0⟩ := trodAll_cons hA
  obtain ⟨v1, vs1, d1, ds1, p1, q1, rfl, rfl, rfl, h1, r1⟩ := trodAll_cons r0
  obtain ⟨rfl, rfl, rfl⟩ := trodAll_nil r1
  obtain rfl : args = #[v0, v1] := by cases args; simp_all
  obtain ⟨rfl, rfl⟩ := trodVars_none hV
  obtain ⟨n0, f0, l0, z0⟩ := open_arrs Try.underlying22 Try.underlying38 Try.underlying36 cells36 cells38 (by omega) (hval 0 22 v0 rfl rfl) h0
  obtain ⟨n1, f1, l1, z1⟩ := open_arrs Try.underlying22 Try.underlying38 Try.underlying36 cells36 cells38 (by omega) (hval 1 22 v1 rfl rfl) h1
  have hr : reachBytes = 140737488351232 := rfl
  have b0 : n0 * 128 ≤ 140737488355328 := by
    rcases z0 with rfl | ⟨m, hm1, hm2⟩
    · omega
    · have := List.all_eq_true.1 hsz _ (DataW.weights_mem_each (j := 0) (t := 22) (d := d0) rfl rfl m hm2)
      rw [bytes38] at hm1
      simp only [decide_eq_true_eq] at this
      omega
  have b1 : n1 * 128 ≤ 140737488355328 := by
    rcases z1 with rfl | ⟨m, hm1, hm2⟩
    · omega
    · have := List.all_eq_true.1 hsz _ (DataW.weights_mem_each (j := 1) (t := 22) (d := d1) rfl rfl m hm2)
      rw [bytes38] at hm1
      simp only [decide_eq_true_eq] at this
      omega
  refine (walk n0 n1 f0 f1 v0 v1 W l0 l1 b0 b1).mono fun e W' ⟨he, bel⟩ => ?_
  subst he
  exact ⟨_, rfl, _, _, _, [], _, [], hW', trodAll_mk1 (shut_bool Try.underlying4 _), trodAll_below laidOut bel _ _ _ _ (by kernel_rfl) hA2 hlt, rfl, bel.frame _, fun h => by cases h⟩
theorem over : Rows.zigzagSameRow.holds Try.pinned (OpenSpec.ofChange Rows.zigzagSameSpec) :=
  OpenClaim.holds_of_wide 3 Try.f3 rfl rfl rfl rfl rfl rfl rfl ⟨rfl, rfl, rfl, rfl, rfl⟩ rfl rfl rfl rfl rfl (by kernel_rfl) Try.func3 (by kernel_rfl)
    (of_decide_eq_true (by kernel_rfl)) (by unfold Func.isWrapper; rw [if_neg (of_decide_eq_false (by kernel_rfl))]; exact ⟨rfl, rfl⟩)
    (fun os started H enc _ => lifted os started H enc)
end Go.Proofs.Ytepmmicmipmanaa.ZigzagSame
namespace Go.Proofs.Ytepmmicmipmanaa
theorem zigzagSame_holds : Rows.ZigzagSameSaid := ZigzagSame.over
#print axioms zigzagSame_holds
end Go.Proofs.Ytepmmicmipmanaa
