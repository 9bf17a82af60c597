/-
  What is proved here: for every two qualities the law QuantBetter returns true. No condition.
-/
import Derived.Test.YteikdpagoojdlaaLaw2
import Derived.Laws.Cover2
namespace Go.Proofs.Yteikdpagoojdlaa.QuantBetter
open Sm Go Go.RowKit Go.ChangeShapes Go.WideShapes Go.ChangeAt
set_option maxRecDepth 1000000
theorem own : ownKnob Try.prog.godebug = none := by kernel_rfl
theorem laidOut : laidOutB Try.prog = true := by kernel_rfl
open Fl
def bel (k : Nat) : Nat := pos (ord k + 8)
def rig (k : Nat) : Nat := pos (ord k + 1)
def hasB (k : Nat) : Bool := Nat.blt (ord k / 8) 7
def hasR (k : Nat) : Bool := Nat.blt (ord k % 8) 7
def kL (a b : Nat) (g : Bool) (k : Nat) : List (Bool × Bool) :=
  [(decide (tabQ a false k < 1), false), (decide (tabQ a false k > 255), false), (decide (tabQ a true k < tabQ a false k), false), (leF a b, g)] ++
  ((bif g then [(decide (tabQ a false k < tabQ b false k), false)] else []) ++
  ((bif hasB k then [(decide (tabQ a false (bel k) < tabQ a false k), false)] else []) ++
  ((bif hasR k then [(decide (tabQ a false (rig k) < tabQ a false k), false)] else []) ++
  (bif hasB k && hasR k then [(tabQ a false (bel k) != tabQ a false (rig k), false)] else []))))
def goodL (a b : Nat) (g : Bool) : List (Bool × Bool) :=
  [(errQ a != 0, false), (errQ b != 0, false), (errQ a != 0, false)] ++ (((List.range 64).map (kL a b g)).flatten ++ [(geF a c1, true)])
def sgs (l : List (Bool × Bool)) : List Sg := l.map fun p => .b p.2
def prs (l : List (Bool × Bool)) : List Prop := l.map fun p => p.1 = p.2
theorem good_true (a b : Nat) : runK Try.prog T0 FT 9000 Try.f11 [fx a, fx b] [] (sgs (goodL a b true)) (fun r _ => isTrue r) = obsP (prs (goodL a b true)) (leF a c100 = true) := by kernel_rfl
theorem good_false (a b : Nat) : runK Try.prog T0 FT 9000 Try.f11 [fx a, fx b] [] (sgs (goodL a b false)) (fun r _ => isTrue r) = obsP (prs (goodL a b false)) (leF a c100 = true) := by kernel_rfl
def bad1 (a : Nat) : List (Bool × Bool) := [(errQ a != 0, true), (geF a c1, false), (errQ a == 0, false)]
def bad2 (a : Nat) : List (Bool × Bool) := [(errQ a != 0, true), (geF a c1, true), (!leF a c100, true), (errQ a == 0, false)]
def bad3 (a b : Nat) : List (Bool × Bool) := [(errQ a != 0, false), (errQ b != 0, true), (geF a c1, true), (!leF a c100, false), (geF b c1, false), (errQ a == 0, true)]
def bad4 (a b : Nat) : List (Bool × Bool) := [(errQ a != 0, false), (errQ b != 0, true), (geF a c1, true), (!leF a c100, false), (geF b c1, true), (!leF b c100, true), (errQ a == 0, true)]
theorem run_bad1 (a b : Nat) : runK Try.prog T0 FT 9000 Try.f11 [fx a, fx b] [] (sgs (bad1 a)) (fun r _ => isTrue r) = obsP (prs (bad1 a)) ((errQ a == 81) = true) := by kernel_rfl
theorem run_bad2 (a b : Nat) : runK Try.prog T0 FT 9000 Try.f11 [fx a, fx b] [] (sgs (bad2 a)) (fun r _ => isTrue r) = obsP (prs (bad2 a)) ((errQ a == 81) = true) := by kernel_rfl
theorem run_bad3 (a b : Nat) : runK Try.prog T0 FT 9000 Try.f11 [fx a, fx b] [] (sgs (bad3 a b)) (fun r _ => isTrue r) = obsP (prs (bad3 a b)) (true = true) := by kernel_rfl
theorem run_bad4 (a b : Nat) : runK Try.prog T0 FT 9000 Try.f11 [fx a, fx b] [] (sgs (bad4 a b)) (fun r _ => isTrue r) = obsP (prs (bad4 a b)) (true = true) := by kernel_rfl
theorem base_bel : ∀ k, k < 64 → hasB k = true → uvK (bel k) = uvK k + 1 := by decide
theorem base_rig : ∀ k, k < 64 → hasR k = true → uvK (rig k) = uvK k + 1 := by decide
theorem prs_of {l : List (Bool × Bool)} (h : ∀ p ∈ l, p.1 = p.2) : ∀ q ∈ prs l, q := by
  intro q hq
  simp only [prs, List.mem_map] at hq
  obtain ⟨p, hp, rfl⟩ := hq
  exact h p hp
theorem k_ok {a b : Nat} (ha : inQ a = true) (hb : inQ b = true) (g : Bool) (hg : leF a b = g) (k : Nat) (hk : k < 64) : ∀ p ∈ kL a b g k, p.1 = p.2 := by
  intro p hp
  have r1 := sN_range ha false k
  have t1 := tabQ_eq ha false k
  simp only [kL, List.mem_append, List.mem_cons, List.not_mem_nil, or_false] at hp
  rcases hp with (rfl | rfl | rfl | rfl) | hp | hp | hp | hp
  · exact decide_eq_false (by rw [t1]; omega)
  · exact decide_eq_false (by rw [t1]; omega)
  · refine decide_eq_false ?_
    have h : sN a false k ≤ sN a true k := sN_base ha (by unfold baseN; simp only [cond_true, cond_false]; omega)
    rw [t1, tabQ_eq ha true k]
    omega
  · exact hg
  · cases g with
    | false => simp at hp
    | true =>
      simp only [cond_true, List.mem_cons, List.not_mem_nil, or_false] at hp
      subst hp
      refine decide_eq_false ?_
      have h := sN_better ha hb hg false k
      rw [t1, tabQ_eq hb false k]
      omega
  · cases hB : hasB k with
    | false => rw [hB] at hp; simp at hp
    | true =>
      rw [hB] at hp
      simp only [cond_true, List.mem_cons, List.not_mem_nil, or_false] at hp
      subst hp
      refine decide_eq_false ?_
      have h : sN a false k ≤ sN a false (bel k) := sN_base ha (by unfold baseN; simp only [cond_false]; rw [base_bel k hk hB]; omega)
      rw [t1, tabQ_eq ha false (bel k)]
      omega
  · cases hR : hasR k with
    | false => rw [hR] at hp; simp at hp
    | true =>
      rw [hR] at hp
      simp only [cond_true, List.mem_cons, List.not_mem_nil, or_false] at hp
      subst hp
      refine decide_eq_false ?_
      have h : sN a false k ≤ sN a false (rig k) := sN_base ha (by unfold baseN; simp only [cond_false]; rw [base_rig k hk hR]; omega)
      rw [t1, tabQ_eq ha false (rig k)]
      omega
  · cases hB : hasB k with
    | false => rw [hB] at hp; simp at hp
    | true =>
      cases hR : hasR k with
      | false => rw [hB, hR] at hp; simp at hp
      | true =>
        rw [hB, hR] at hp
        simp only [Bool.and_self, cond_true, List.mem_cons, List.not_mem_nil, or_false] at hp
        subst hp
        have h : sN a false (bel k) = sN a false (rig k) := sN_same (by rw [base_bel k hk hB, base_rig k hk hR])
        show (tabQ a false (bel k) != tabQ a false (rig k)) = false
        rw [tabQ_eq ha, tabQ_eq ha, h]
        simp
theorem good_ok {a b : Nat} (ha : inQ a = true) (hb : inQ b = true) (g : Bool) (hg : leF a b = g) (hge : geF a c1 = true) : ∀ p ∈ goodL a b g, p.1 = p.2 := by
  intro p hp
  have ea : errQ a = 0 := by unfold errQ; rw [ha]; rfl
  have eb : errQ b = 0 := by unfold errQ; rw [hb]; rfl
  simp only [goodL, List.mem_append, List.mem_cons, List.not_mem_nil, or_false, List.mem_flatten, List.mem_map, List.mem_range] at hp
  rcases hp with (rfl | rfl | rfl) | ⟨l, ⟨k, hk, rfl⟩, hp⟩ | rfl
  · show (errQ a != 0) = false
    rw [ea]; rfl
  · show (errQ b != 0) = false
    rw [eb]; rfl
  · show (errQ a != 0) = false
    rw [ea]; rfl
  · exact k_ok ha hb g hg k hk p hp
  · exact hge
theorem key (a b : Nat) (w : World) : Calls Try.prog 11 #[.float .f64 a, .float .f64 b] w fun e w' => e = .returned (.bool true) ∧ Below w.heap.size w w' := by
  have go : ∀ (l : List (Bool × Bool)) (q : Prop), (runK Try.prog T0 FT 9000 Try.f11 [fx a, fx b] [] (sgs l) (fun r _ => isTrue r) = obsP (prs l) q) → (∀ p ∈ l, p.1 = p.2) → q → Calls Try.prog 11 #[.float .f64 a, .float .f64 b] w fun e w' => e = .returned (.bool true) ∧ Below w.heap.size w w' := fun l q hr hl hq =>
    law_of_run (st := false) (avs := [.val (.float .f64 a), .val (.float .f64 b)]) hm hT0 FTok Try.func11 rfl (of_run hr (obsP_of _ _ (prs_of hl) hq)) (ARs_vals w [.float .f64 a, .float .f64 b])
  have split : ∀ {q : Nat}, inQ q = true → geF q c1 = true ∧ leF q c100 = true := fun {q} h => by
    unfold inQ at h
    cases hg : geF q c1 with
    | false => rw [hg] at h; cases h
    | true => rw [hg] at h; exact ⟨rfl, h⟩
  have bad : ∀ {q : Nat}, inQ q = false → geF q c1 = true → leF q c100 = false := fun {q} h hg => by
    unfold inQ at h
    rw [hg] at h
    exact h
  have err1 : ∀ {q : Nat}, inQ q = false → errQ q = 81 := fun {q} h => by unfold errQ; rw [h]; rfl
  have err0 : ∀ {q : Nat}, inQ q = true → errQ q = 0 := fun {q} h => by unfold errQ; rw [h]; rfl
  cases ha : inQ a with
  | false =>
    cases hg : geF a c1 with
    | false => exact go _ _ (run_bad1 a b) (by simp [bad1, err1 ha, hg]) (by rw [err1 ha]; rfl)
    | true => exact go _ _ (run_bad2 a b) (by simp [bad2, err1 ha, hg, bad ha hg]) (by rw [err1 ha]; rfl)
  | true =>
    obtain ⟨ha1, ha2⟩ := split ha
    cases hb : inQ b with
    | false =>
      cases hg : geF b c1 with
      | false => exact go _ _ (run_bad3 a b) (by simp [bad3, err0 ha, err1 hb, hg, ha1, ha2]) rfl
      | true => exact go _ _ (run_bad4 a b) (by simp [bad4, err0 ha, err1 hb, hg, ha1, ha2, bad hb hg]) rfl
    | true =>
      cases hl : leF a b with
      | true => exact go _ _ (good_true a b) (good_ok ha hb true hl ha1) ha2
      | false => exact go _ _ (good_false a b) (good_ok ha hb false hl ha1) ha2

theorem walk (a0 : Nat) (a1 : Nat) (_w0 : (Lit.float .f64 a0).wf = true) (_w1 : (Lit.float .f64 a1).wf = true) (w : World) :
    Calls Try.prog 11 #[.float .f64 a0, .float .f64 a1] w fun e w' => e = .returned (.bool true) ∧ Below w.heap.size w w' := by
  exact key a0 a1 w

theorem lifted (os : Os) (started : os.Started) (H : Type) (enc : TypeId × Value → H) :
    ReturnsInHanded {} Try.checked os 11 .any (Rows.quantBetterSpec.pre6 enc Try.prog Try.f11 Rows.quantBetterRow.domain false) (Rows.quantBetterSpec.post enc Try.prog Try.f11 false true false false) := by
  refine returnsInHanded_of_change (C := Try.checked) own started (by kernel_rfl) Try.func11
    (ChangeSpec.witness6 (enc := enc) (C := Try.checked) false ⟨#[], #[.float .f64 0, .float .f64 0], []⟩ 8 (by kernel_rfl) (by kernel_rfl) (by kernel_rfl) (by kernel_rfl)) ?_
  intro W base args ds gs before hval0 hW hcnd _
  have hval : ∀ (j : Nat) t v, Try.f11.params[j]? = some t → args[j]? = some v → Value.okWide Try.prog W .any base t v := hval0
  have hW' := hW
  obtain ⟨p, q, hA0, hV, rfl, hfz, hnd⟩ := hW
  have hA : DataW.TrodAll enc Try.prog W 0 (fun _ => true) true Try.f11.params.toList args.toList ds p := hA0
  rw [Try.params11] at hA hval
  have hA2 := hA
  have hlt := trodAll_lt _ _ _ _ hA2
  obtain ⟨v0, vs0, d0, ds0, p0, q0, hargs, rfl, rfl, h0, r0⟩ := trodAll_cons hA
  obtain ⟨v1, vs1, d1, ds1, p1, q1, rfl, rfl, rfl, h1, r1⟩ := trodAll_cons r0
  obtain ⟨rfl, rfl, rfl⟩ := trodAll_nil r1
  obtain rfl : args = #[v0, v1] := by cases args; simp_all
  obtain ⟨rfl, rfl⟩ := trodVars_none hV
  obtain ⟨a0, rfl, _, _, w0⟩ := open_float Try.underlying45 (hval 0 45 v0 rfl rfl) h0
  obtain ⟨a1, rfl, _, _, w1⟩ := open_float Try.underlying45 (hval 1 45 v1 rfl rfl) h1
  refine (walk a0 a1 w0 w1 W).mono fun e W' ⟨he, bel⟩ => ?_
  subst he
  exact ⟨_, rfl, _, _, _, [], _, [], hW', trodAll_mk1 (shut_bool Try.underlying4 _), trodAll_below laidOut bel _ _ _ _ (by kernel_rfl) hA2 hlt, rfl, bel.frame _, fun h => by cases h⟩
theorem over : Rows.quantBetterRow.holds Try.pinned (OpenSpec.ofChange Rows.quantBetterSpec) :=
  OpenClaim.holds_of_wide 11 Try.f11 rfl rfl rfl rfl rfl rfl rfl ⟨rfl, rfl, rfl, rfl, rfl⟩ rfl rfl rfl rfl rfl (by kernel_rfl) Try.func11 (by kernel_rfl)
    (of_decide_eq_true (by kernel_rfl)) (by unfold Func.isWrapper; rw [if_neg (of_decide_eq_false (by kernel_rfl))]; exact ⟨rfl, rfl⟩)
    (fun os started H enc _ => lifted os started H enc)
end Go.Proofs.Yteikdpagoojdlaa.QuantBetter
namespace Go.Proofs.Yteikdpagoojdlaa
theorem quantBetter_holds : Rows.QuantBetterSaid := QuantBetter.over
#print axioms quantBetter_holds
end Go.Proofs.Yteikdpagoojdlaa
