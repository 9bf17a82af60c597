/-
  What is proved here: for every block the law ZigzagSquare returns true and its argument reads as before. No condition.
-/
import Derived.Test.YtepmmicmipmanaaCon7
import Derived.Test.YtepmmicmipmanaaSimN
namespace Go.Proofs.Ytepmmicmipmanaa.ZigzagSquare
open Sm Go Go.RowKit Go.ChangeShapes Go.WideShapes Go.ChangeAt
set_option maxRecDepth 1000000
theorem own : ownKnob Try.prog.godebug = none := by kernel_rfl
theorem laidOut : laidOutB Try.prog = true := by kernel_rfl
theorem valsB_of (xs : List Int) (h : xs.length = 64) : xs.map (Value.int .i16) = valsB (fun i => xs.getD i 0) := by
  conv => lhs; rw [list_of_fn xs 64 h]
  simp [valsB]
def eqB (f g : Nat → Int) : Nat → Nat → Bool
  | 0, _ => true
  | n + 1, i => (f i == g i) && eqB f g n (i + 1)
theorem eqB_of {f g : Nat → Int} : ∀ (n i : Nat), (∀ j, j < i + n → f j = g j) → eqB f g n i = true
  | 0, _, _ => rfl
  | n + 1, i, h => by
    simp only [eqB, Bool.and_eq_true, beq_iff_eq]
    exact ⟨h i (by omega), eqB_of n (i + 1) fun j hj => h j (by omega)⟩
theorem eqB_same (f : Nat → Int) : eqB f f 64 0 = true := eqB_of 64 0 fun _ _ => rfl
def at' (p : List Nat) (b : Nat → Int) (i : Nat) : Int := b (p.getD i 0)

theorem wrap16 (n : Int) : IntKind.i16.wrap n = (n + 32768) % 65536 - 32768 := by
  simp only [IntKind.wrap, IntKind.bits, IntKind.signed]; simp; split <;> omega
def R16 (n : Int) : Prop := -32768 ≤ n ∧ n ≤ 32767
theorem neg16_R {n : Int} (_h : R16 n) : R16 (neg16 n) := by
  unfold R16 neg16 at *
  rw [wrap16]
  omega
theorem neg16_neg {n : Int} (h : R16 n) : neg16 (neg16 n) = n := by
  unfold R16 neg16 at *
  rw [wrap16, wrap16]
  omega
theorem neg16_zero {n : Int} (h : R16 n) : (neg16 n != 0) = (n != 0) := by
  unfold R16 neg16 at *
  rw [wrap16, Bool.eq_iff_iff, bne_iff_ne, bne_iff_ne]
  omega
theorem flipI_R {d : Bool} {i : Nat} {n : Int} (h : R16 n) : R16 (flipI d i n) := by
  unfold flipI
  split
  · exact neg16_R h
  · exact h
theorem flipI_flipI {d : Bool} {i : Nat} {n : Int} (h : R16 n) : flipI d i (flipI d i n) = n := by
  unfold flipI
  cases flipN d i
  · rfl
  · exact neg16_neg h
theorem flipI_comm {d e : Bool} {i j : Nat} {n : Int} : flipI d i (flipI e j n) = flipI e j (flipI d i n) := by
  unfold flipI
  cases flipN d i <;> cases flipN e j <;> rfl
theorem flipI_zero {d : Bool} {i : Nat} {n : Int} (h : R16 n) : (flipI d i n != 0) = (n != 0) := by
  unfold flipI
  cases flipN d i
  · rfl
  · exact neg16_zero h
theorem last_flip (d : Bool) (b : Nat → Int) : ∀ n, (∀ i, i < n → R16 (b i)) → lastU n (fun i => flipI d i (b i)) = lastU n b
  | 0, _ => rfl
  | n + 1, h => by
    simp only [lastU, flipI_zero (h n (by omega)), last_flip d b n fun i hi => h i (by omega)]
def sw (i : Nat) : Nat := swL.getD i 0
theorem sw_sw : ∀ i, i < 64 → sw (sw i) = i := by decide
theorem sw_lt : ∀ i, i < 64 → sw i < 64 := by decide
theorem flip_sw : ∀ i, i < 64 → flipN false (sw i) = flipN true i ∧ flipN true (sw i) = flipN false i := by decide
theorem flipI_sw {i : Nat} (h : i < 64) (n : Int) : flipI false (sw i) n = flipI true i n ∧ flipI true (sw i) n = flipI false i n := by
  unfold flipI
  rw [(flip_sw i h).1, (flip_sw i h).2]
  exact ⟨rfl, rfl⟩
def fl (d : Bool) (b : Nat → Int) (i : Nat) : Int := flipI d i (b i)
def swp (b : Nat → Int) (i : Nat) : Int := b (sw i)
def turn (b : Nat → Int) : Nat → Int := swp (fl true b)
def squareL (b : Nat → Int) : List (Bool × Bool) :=
  [(eqB b b 64 0, true), (eqB (fl false (fl false b)) b 64 0, true), (eqB (fl true (fl true b)) b 64 0, true), (eqB (fl true (fl false b)) (fl false (fl true b)) 64 0, true),
   (eqB (swp (fl false b)) (fl true (swp b)) 64 0, true), (lastU 64 (fl false b) == lastU 64 b, true),
   (eqB b b 64 0, true), (eqB (swp (fl true b)) (fl false (swp b)) 64 0, true), (lastU 64 (fl true b) == lastU 64 b, true)]
theorem squareL_ok (b : Nat → Int) (h : ∀ i, i < 64 → R16 (b i)) : ∀ p ∈ squareL b, p.1 = p.2 := by
  intro p hp
  simp only [squareL, List.mem_cons, List.not_mem_nil, or_false] at hp
  rcases hp with rfl | rfl | rfl | rfl | rfl | rfl | rfl | rfl | rfl
  · exact eqB_same b
  · exact eqB_of 64 0 fun j hj => flipI_flipI (h j (by omega))
  · exact eqB_of 64 0 fun j hj => flipI_flipI (h j (by omega))
  · exact eqB_of 64 0 fun j hj => flipI_comm
  · exact eqB_of 64 0 fun j hj => (flipI_sw (by omega) _).1
  · exact beq_iff_eq.2 (last_flip false b 64 h)
  · exact eqB_same b
  · exact eqB_of 64 0 fun j hj => (flipI_sw (by omega) _).2
  · exact beq_iff_eq.2 (last_flip true b 64 h)
theorem turn2 (b : Nat → Int) {i : Nat} (h : i < 64) : turn (turn b) i = flipI false i (flipI true i (b i)) := by
  show flipI true (sw i) (flipI true (sw (sw i)) (b (sw (sw i)))) = _
  rw [sw_sw i h, (flipI_sw h _).2]
theorem turned_ok (b : Nat → Int) (h : ∀ i, i < 64 → R16 (b i)) : eqB (turn (turn (turn (turn b)))) b 64 0 = true := by
  refine eqB_of 64 0 fun j hj => ?_
  have hj : j < 64 := by omega
  rw [turn2 _ hj, turn2 _ hj, flipI_comm (d := true) (e := false), flipI_flipI (flipI_R (flipI_R (h j hj))), flipI_flipI (h j hj)]
theorem walked (b : Nat → Int) : runK Try.prog T F8 6000 Try.f9 [.agg (cellsD b)] [] (List.replicate 9 true) (fun r _ => isTrue r) = obs (squareL b) (eqB (turn (turn (turn (turn b)))) b 64 0 = true) := by kernel_rfl
theorem key (w : World) (b : Nat → Int) (hb : ∀ i, i < 64 → R16 (b i)) : Calls Try.prog 9 #[.agg (valsB b).toArray] w fun e w' => e = .returned (.bool true) ∧ Below w.heap.size w w' :=
  law_of_run (st := false) (avs := [.val (.agg (valsB b).toArray)]) hm hT F8ok Try.func9 (canonD b) (of_run (walked b) (obs_of _ _ (squareL_ok b hb) (turned_ok b hb))) (ARs_vals w [.agg (valsB b).toArray])

theorem walk (a0 : List Int) (l0 : a0.length = 64) (w0 : ∀ x ∈ a0, (Lit.int .i16 x).wf = true) (w : World) :
    Calls Try.prog 9 #[.agg (a0.map (Value.int .i16)).toArray] w fun e w' => e = .returned (.bool true) ∧ Below w.heap.size w w' := by
  have hb : ∀ i, i < 64 → R16 (a0.getD i 0) := fun i hi => by
    have hm : a0.getD i 0 ∈ a0 := by
      rw [List.getD_eq_getElem?_getD, List.getElem?_eq_getElem (by omega)]
      exact List.getElem_mem _
    have := w0 _ hm
    simpa [Lit.wf, IntKind.min, IntKind.max, IntKind.signed, IntKind.bits, R16] using this
  rw [valsB_of a0 l0]
  exact key w _ hb

theorem lifted (os : Os) (started : os.Started) (H : Type) (enc : TypeId × Value → H) :
    ReturnsInHanded {} Try.checked os 9 .any (Rows.zigzagSquareSpec.pre6 enc Try.prog Try.f9 Rows.zigzagSquareRow.domain false) (Rows.zigzagSquareSpec.post enc Try.prog Try.f9 false true false false) := by
  refine returnsInHanded_of_change (C := Try.checked) own started (by kernel_rfl) Try.func9
    (ChangeSpec.witness6 (enc := enc) (C := Try.checked) false ⟨#[], #[.agg (Array.replicate 64 (.int .i16 0))], []⟩ 8 (by kernel_rfl) (by kernel_rfl) (by kernel_rfl) (by kernel_rfl)) ?_
  intro W base args ds gs before hval0 hW hcnd _
  have hval : ∀ (j : Nat) t v, Try.f9.params[j]? = some t → args[j]? = some v → Value.okWide Try.prog W .any base t v := hval0
  have hW' := hW
  obtain ⟨p, q, hA0, hV, rfl, hfz, hnd⟩ := hW
  have hA : DataW.TrodAll enc Try.prog W 0 (fun _ => true) true Try.f9.params.toList args.toList ds p := hA0
  rw [Try.params9] at hA hval
  have hA2 := hA
  have hlt := trodAll_lt _ _ _ _ hA2
  obtain ⟨v0, vs0, d0, ds0, p0, q0, hargs, rfl, rfl, h0, r0⟩ := trodAll_cons hA
  obtain ⟨rfl, rfl, rfl⟩ := trodAll_nil r0
  obtain rfl : args = #[v0] := by cases args; simp_all
  obtain ⟨rfl, rfl⟩ := trodVars_none hV
  obtain ⟨a0, l0, rfl, w0⟩ := open_arr Try.underlying38 Try.underlying36 (by kernel_rfl) (by kernel_rfl) (hval 0 38 v0 rfl rfl) h0
  refine (walk a0 l0 w0 W).mono fun e W' ⟨he, bel⟩ => ?_
  subst he
  exact ⟨_, rfl, _, _, _, [], _, [], hW', trodAll_mk1 (shut_bool Try.underlying4 _), trodAll_below laidOut bel _ _ _ _ (by kernel_rfl) hA2 hlt, rfl, bel.frame _, fun h => by cases h⟩
theorem over : Rows.zigzagSquareRow.holds Try.pinned (OpenSpec.ofChange Rows.zigzagSquareSpec) :=
  OpenClaim.holds_of_wide 9 Try.f9 rfl rfl rfl rfl rfl rfl rfl ⟨rfl, rfl, rfl, rfl, rfl⟩ rfl rfl rfl rfl rfl (by kernel_rfl) Try.func9 (by kernel_rfl)
    (of_decide_eq_true (by kernel_rfl)) (by unfold Func.isWrapper; rw [if_neg (of_decide_eq_false (by kernel_rfl))]; exact ⟨rfl, rfl⟩)
    (fun os started H enc _ => lifted os started H enc)
end Go.Proofs.Ytepmmicmipmanaa.ZigzagSquare
namespace Go.Proofs.Ytepmmicmipmanaa
theorem zigzagSquare_holds : Rows.ZigzagSquareSaid := ZigzagSquare.over
#print axioms zigzagSquare_holds
end Go.Proofs.Ytepmmicmipmanaa
