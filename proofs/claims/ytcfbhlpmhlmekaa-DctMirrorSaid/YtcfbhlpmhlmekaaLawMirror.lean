/-
  What is proved here: for all coefficients the law DctMirror returns true and its arguments read as before. No condition.
-/
import Derived.Test.YtcfbhlpmhlmekaaCon7
import Derived.Test.YtcfbhlpmhlmekaaLaw1
namespace Go.Proofs.Ytcfbhlpmhlmekaa.DctMirror
open Sm Go Go.RowKit Go.ChangeShapes Go.WideShapes Go.ChangeAt
set_option maxRecDepth 1000000
theorem own : ownKnob Try.prog.godebug = none := by kernel_rfl
theorem laidOut : laidOutB Try.prog = true := by kernel_rfl
def fM (c : Nat → Int) (i : Nat) : Int := mx (IntKind.i32.wrap (c i)) (-32767)
def acrM (c : Nat → Int) (i : Nat) : Int := if i % 2 = 1 then IntKind.i32.wrap (0 - fM c i) else fM c i
def dwnM (c : Nat → Int) (i : Nat) : Int := if i / 8 % 2 = 1 then IntKind.i32.wrap (0 - fM c i) else fM c i
def swpM (c : Nat → Int) (i : Nat) : Int := fM c (i % 8 * 8 + i / 8)
def mirB (c : Nat → Int) (i : Nat) : Bool := bif bif resP_13 (lst (acrM c)) (i / 8 * 8 + 7 - i % 8) != resP_13 (lst (fM c)) i then true else resP_13 (lst (dwnM c)) ((7 - i / 8) * 8 + i % 8) != resP_13 (lst (fM c)) i then true else resP_13 (lst (swpM c)) (i % 8 * 8 + i / 8) != resP_13 (lst (fM c)) i
theorem canon (s : Nat → Int) : Sm.canon false [.val (.agg (valsK .i16 64 s).toArray)] 0 = some ([.agg (cellsK .i16 false 64 s)], []) := by kernel_rfl
theorem walked (c : Nat → Int) : runK Try.prog T FG 6000 Try.f7 [.agg (cellsK .i16 false 64 c)] [] (List.replicate 64 (.b false)) (fun r _ => isTrue r) = obsP ((List.range 64).map fun i => mirB c i = false) (true = true) := by kernel_rfl
theorem fM_b {c : Nat → Int} (h : ∀ i, i < 64 → -32768 ≤ c i ∧ c i ≤ 32767) (i : Nat) (hi : i < 64) : -32767 ≤ fM c i ∧ fM c i ≤ 32767 := by
  have := h i hi
  unfold fM mx
  rw [w32 (by omega) (by omega)]
  split <;> omega
theorem neg_eq {x : Int} (h : -32767 ≤ x ∧ x ≤ 32767) : IntKind.i32.wrap (0 - x) = -x := by
  rw [w32 (by omega) (by omega)]; omega
theorem clip_neg (x : Int) : clipI (-x) (-32767) 32767 = -clipI x (-32767) 32767 := by
  unfold clipI mn mx
  (repeat' split) <;> omega
theorem w_mir : ∀ u, u < 8 → ∀ x, x < 8 → wF (8 * u + (7 - x)) = if u % 2 = 1 then -wF (8 * u + x) else wF (8 * u + x) := by decide
theorem acr {c : Nat → Int} (h : ∀ i, i < 64 → -32768 ≤ c i ∧ c i ≤ 32767) (y k : Nat) (hk : k < 8) : invS (lst (acrM c)) y (7 - k) = invS (lst (fM c)) y k := by
  unfold invS dbl
  refine S_congr fun v hv => S_congr fun u hu => ?_
  show wF (8 * v + y) * wF (8 * u + (7 - k)) * clipI (lst (acrM c) (8 * v + u)) (-32767) 32767 = wF (8 * v + y) * wF (8 * u + k) * clipI (lst (fM c) (8 * v + u)) (-32767) 32767
  rw [lst_eq _ _ (by omega), lst_eq _ _ (by omega), w_mir u hu k hk, acrM, show (8 * v + u) % 2 = u % 2 from by omega]
  by_cases ho : u % 2 = 1
  · rw [if_pos ho, if_pos ho, neg_eq (fM_b h _ (by omega)), clip_neg, Int.mul_neg, Int.mul_neg, Int.neg_mul, Int.neg_neg]
  · rw [if_neg ho, if_neg ho]
theorem dwn {c : Nat → Int} (h : ∀ i, i < 64 → -32768 ≤ c i ∧ c i ≤ 32767) (y k : Nat) (hy : y < 8) : invS (lst (dwnM c)) (7 - y) k = invS (lst (fM c)) y k := by
  unfold invS dbl
  refine S_congr fun v hv => S_congr fun u hu => ?_
  show wF (8 * v + (7 - y)) * wF (8 * u + k) * clipI (lst (dwnM c) (8 * v + u)) (-32767) 32767 = wF (8 * v + y) * wF (8 * u + k) * clipI (lst (fM c) (8 * v + u)) (-32767) 32767
  rw [lst_eq _ _ (by omega), lst_eq _ _ (by omega), w_mir v hv y hy, dwnM, show (8 * v + u) / 8 = v from by omega]
  by_cases ho : v % 2 = 1
  · rw [if_pos ho, if_pos ho, neg_eq (fM_b h _ (by omega)), clip_neg, Int.neg_mul, Int.mul_neg, Int.neg_mul, Int.neg_neg]
  · rw [if_neg ho, if_neg ho]
theorem swp (c : Nat → Int) (y k : Nat) : invS (lst (swpM c)) k y = invS (lst (fM c)) y k := by
  unfold invS
  rw [dbl_swap]
  unfold dbl
  refine S_congr fun v hv => S_congr fun u hu => ?_
  show wF (8 * v + y) * wF (8 * u + k) * clipI (lst (swpM c) (8 * u + v)) (-32767) 32767 = wF (8 * v + y) * wF (8 * u + k) * clipI (lst (fM c) (8 * v + u)) (-32767) 32767
  rw [lst_eq _ _ (by omega), lst_eq _ _ (by omega), swpM, show (8 * u + v) % 8 * 8 + (8 * u + v) / 8 = 8 * v + u from by omega]
theorem mir_ok {c : Nat → Int} (h : ∀ i, i < 64 → -32768 ≤ c i ∧ c i ≤ 32767) (i : Nat) (hi : i < 64) : mirB c i = false := by
  have e1 : resP_13 (lst (acrM c)) (i / 8 * 8 + 7 - i % 8) = resP_13 (lst (fM c)) i := by
    rw [prog_inv, prog_inv, show (i / 8 * 8 + 7 - i % 8) / 8 = i / 8 from by omega, show (i / 8 * 8 + 7 - i % 8) % 8 = 7 - i % 8 from by omega, acr h _ _ (by omega)]
  have e2 : resP_13 (lst (dwnM c)) ((7 - i / 8) * 8 + i % 8) = resP_13 (lst (fM c)) i := by
    rw [prog_inv, prog_inv, show ((7 - i / 8) * 8 + i % 8) / 8 = 7 - i / 8 from by omega, show ((7 - i / 8) * 8 + i % 8) % 8 = i % 8 from by omega, dwn h _ _ (by omega)]
  have e3 : resP_13 (lst (swpM c)) (i % 8 * 8 + i / 8) = resP_13 (lst (fM c)) i := by
    rw [prog_inv, prog_inv, show (i % 8 * 8 + i / 8) / 8 = i % 8 from by omega, show (i % 8 * 8 + i / 8) % 8 = i / 8 from by omega, swp]
  unfold mirB
  rw [e1, e2, e3]
  simp
theorem key (w : World) (s : Nat → Int) (hs : ∀ i, i < 64 → -32768 ≤ s i ∧ s i ≤ 32767) :
    Calls Try.prog 7 #[.agg (valsK .i16 64 s).toArray] w fun e w' => e = .returned (.bool true) ∧ Below w.heap.size w w' := by
  refine law_of_run (st := false) (avs := [.val (.agg (valsK .i16 64 s).toArray)]) hm hT FGok Try.func7 (canon s) (of_run (walked s) (obsP_of _ _ (fun p hp => ?_) rfl)) (ARs_vals w [.agg (valsK .i16 64 s).toArray])
  simp only [List.mem_map, List.mem_range] at hp
  obtain ⟨i, hi, rfl⟩ := hp
  exact mir_ok hs i hi

theorem walk (a0 : List Int) (l0 : a0.length = 64) (w0 : ∀ x ∈ a0, (Lit.int .i16 x).wf = true) (w : World) :
    Calls Try.prog 7 #[.agg (a0.map (Value.int .i16)).toArray] w fun e w' => e = .returned (.bool true) ∧ Below w.heap.size w w' := by
  have hs : ∀ i, i < 64 → -32768 ≤ a0.getD i 0 ∧ a0.getD i 0 ≤ 32767 := fun i hi => wf_i16 (wf_at l0 w0 hi)
  rw [valsK_of a0 l0]
  exact key w _ hs

theorem lifted (os : Os) (started : os.Started) (H : Type) (enc : TypeId × Value → H) :
    ReturnsInHanded {} Try.checked os 7 .any (Rows.dctMirrorSpec.pre6 enc Try.prog Try.f7 Rows.dctMirrorRow.domain false) (Rows.dctMirrorSpec.post enc Try.prog Try.f7 false true false false) := by
  refine returnsInHanded_of_change (C := Try.checked) own started (by kernel_rfl) Try.func7
    (ChangeSpec.witness6 (enc := enc) (C := Try.checked) false ⟨#[], #[.agg (Array.replicate 64 (.int .i16 0))], []⟩ 8 (by kernel_rfl) (by kernel_rfl) (by kernel_rfl) (by kernel_rfl)) ?_
  intro W base args ds gs before hval0 hW hcnd _
  have hval : ∀ (j : Nat) t v, Try.f7.params[j]? = some t → args[j]? = some v → Value.okWide Try.prog W .any base t v := hval0
  have hW' := hW
  obtain ⟨p, q, hA0, hV, rfl, hfz, hnd⟩ := hW
  have hA : DataW.TrodAll enc Try.prog W 0 (fun _ => true) true Try.f7.params.toList args.toList ds p := hA0
  rw [Try.params7] at hA hval
  have hA2 := hA
  have hlt := trodAll_lt _ _ _ _ hA2
  obtain ⟨v0, vs0, d0, ds0, p0, q0, hargs, rfl, rfl, h0, r0⟩ := trodAll_cons hA
  obtain ⟨rfl, rfl, rfl⟩ := trodAll_nil r0
  obtain rfl : args = #[v0] := by cases args; simp_all
  obtain ⟨rfl, rfl⟩ := trodVars_none hV
  obtain ⟨a0, l0, rfl, w0⟩ := open_arr Try.underlying25 Try.underlying24 (by kernel_rfl) (by kernel_rfl) (hval 0 25 v0 rfl rfl) h0
  refine (walk a0 l0 w0 W).mono fun e W' ⟨he, bel⟩ => ?_
  subst he
  exact ⟨_, rfl, _, _, _, [], _, [], hW', trodAll_mk1 (shut_bool Try.underlying4 _), trodAll_below laidOut bel _ _ _ _ (by kernel_rfl) hA2 hlt, rfl, bel.frame _, fun h => by cases h⟩
theorem over : Rows.dctMirrorRow.holds Try.pinned (OpenSpec.ofChange Rows.dctMirrorSpec) :=
  OpenClaim.holds_of_wide 7 Try.f7 rfl rfl rfl rfl rfl rfl rfl ⟨rfl, rfl, rfl, rfl, rfl⟩ rfl rfl rfl rfl rfl (by kernel_rfl) Try.func7 (by kernel_rfl)
    (of_decide_eq_true (by kernel_rfl)) (by unfold Func.isWrapper; rw [if_neg (of_decide_eq_false (by kernel_rfl))]; exact ⟨rfl, rfl⟩)
    (fun os started H enc _ => lifted os started H enc)
end Go.Proofs.Ytcfbhlpmhlmekaa.DctMirror
namespace Go.Proofs.Ytcfbhlpmhlmekaa
theorem dctMirror_holds : Rows.DctMirrorSaid := DctMirror.over
#print axioms dctMirror_holds
end Go.Proofs.Ytcfbhlpmhlmekaa
