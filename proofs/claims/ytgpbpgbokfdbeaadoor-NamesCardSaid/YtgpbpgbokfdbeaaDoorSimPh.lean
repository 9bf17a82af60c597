/-
  What is proved here: a region that draws its order, walked in parts: operations that yield one value whatever comes between are carried out ahead, those that make memory one behind the other, a new variable when it is waited for. A text to be imported.
-/
import Derived.Test.YtgpbpgbokfdbeaaDoorSimLd
namespace Sm
open Go Go.RowKit
set_option linter.unusedVariables false
set_option linter.unusedSimpArgs false

/-! ### bits -/

theorem hasB_eq (m i : Nat) : hasB m i = m.testBit i := by
  unfold hasB
  rw [beq_eq, Nat.testBit]
  show decide ((m >>> i) &&& 1 = 1) = ((1 &&& (m >>> i)) != 0)
  rw [Nat.and_comm 1, Nat.and_one_is_mod]
  have := Nat.mod_lt (m >>> i) (show 0 < 2 by decide)
  by_cases h : (m >>> i) % 2 = 1
  · rw [h]; rfl
  · have h0 : (m >>> i) % 2 = 0 := by omega
    rw [h0]; rfl

theorem hasB_zero (i : Nat) : hasB 0 i = false := by rw [hasB_eq]; exact Nat.zero_testBit i

theorem hasB_lor (m n i : Nat) : hasB (Nat.lor m n) i = (hasB m i || hasB n i) := by
  rw [hasB_eq, hasB_eq, hasB_eq]; exact Nat.testBit_or m n i

theorem hasB_one (i j : Nat) : hasB (Nat.shiftLeft 1 i) j = decide (i = j) := by
  rw [hasB_eq]
  show (1 <<< i).testBit j = _
  rw [Nat.one_shiftLeft, Nat.testBit_two_pow]

theorem hasB_add (m i j : Nat) : hasB (addB m i) j = (hasB m j || decide (i = j)) := by
  unfold addB; rw [hasB_lor, hasB_one]

theorem hasB_land (m n i : Nat) : hasB (Nat.land m n) i = (hasB m i && hasB n i) := by
  rw [hasB_eq, hasB_eq, hasB_eq]; exact Nat.testBit_and m n i

theorem hasB_mask : ∀ (l : List Nat) (j : Nat), hasB (maskL l) j = decide (j ∈ l)
  | [], j => by simp [maskL, hasB_zero]
  | i :: r, j => by
    rw [maskL, hasB_add, hasB_mask r j]
    by_cases h1 : i = j <;> by_cases h2 : j ∈ r <;> simp [h1, h2, eq_comm]

theorem hasB_sub {m W : Nat} (h : Nat.beq (Nat.land m W) W = true) {i : Nat} (hi : hasB W i = true) : hasB m i = true := by
  have h1 := Nat.eq_of_beq_eq_true h
  rw [← h1, hasB_land, Bool.and_eq_true] at hi
  exact hi.1

/-! ### what waits for what -/

def AncSpec (ops : List Oper) (A : List Nat) : Prop :=
  ∀ (j : Nat) (o : Oper), ops[j]? = some o → ∀ k, hasB (A.getD j 0) k = true → ∃ e ∈ o.after, Region.binds .any e = true ∧ (e.on = k ∨ hasB (A.getD e.on 0) k = true)

theorem ancFold_spec {A : List Nat} : ∀ {l : List Edge} {k : Nat}, hasB (ancFold A l) k = true → ∃ e ∈ l, Region.binds .any e = true ∧ (e.on = k ∨ hasB (A.getD e.on 0) k = true)
  | [], k, h => by rw [ancFold, hasB_zero] at h; cases h
  | e :: l, k, h => by
    unfold ancFold at h
    split at h
    · rename_i hb
      rw [hasB_lor, hasB_add, Bool.or_eq_true, Bool.or_eq_true, decide_eq_true_eq] at h
      rcases h with (h | h) | h
      · exact ⟨e, by simp, hb, .inr h⟩
      · exact ⟨e, by simp, hb, .inl h⟩
      · obtain ⟨e', h1, h2⟩ := ancFold_spec h
        exact ⟨e', by simp [h1], h2⟩
    · obtain ⟨e', h1, h2⟩ := ancFold_spec h
      exact ⟨e', by simp [h1], h2⟩

theorem ancOk_spec {ops : List Oper} {A : List Nat} (h : ancOk ops A = true) : AncSpec ops A := fun j o ho k hk => by
  have h1 := List.all_eq_true.1 h j (List.mem_range.2 (List.getElem?_eq_some_iff.1 ho).1)
  simp only [ho] at h1
  have h2 := Nat.eq_of_beq_eq_true h1
  have h3 : hasB (ancFold A o.after.toList) k = true := by rw [← h2, hasB_lor, hk, Bool.true_or]
  obtain ⟨e, he, hb, hr⟩ := ancFold_spec h3
  exact ⟨e, by simpa using he, hb, hr⟩

theorem mem_ready_of {ops : List Oper} {listed : Array Bool} {j : Nat} {o : Oper} (ho : ops[j]? = some o) (h1 : listed.getD j true = false) (h2 : ∀ e ∈ o.after, Region.binds .any e = true → listed.getD e.on false = true) : j ∈ Region.ready .any ops.toArray listed :=
  mem_ready.2 ⟨h1, o, by simpa using ho, h2⟩

/-- What is listed: a set, closed under what is waited for. -/
structure LM (ops : List Oper) (A : List Nat) (M : Nat) (listed : Array Bool) : Prop where
  size : listed.size = ops.length
  bits : ∀ i, listed.getD i false = hasB M i
  ac : ∀ j k, hasB M j = true → hasB (A.getD j 0) k = true → hasB M k = true

section parts
variable {P : Program} {T : Tab} {F : Fns} {ops : List Oper} {A : List Nat} {Q : Exit → Act → World → Prop}

theorem LM.none (ops : List Oper) (A : List Nat) : LM ops A 0 (Array.replicate ops.length false) :=
  ⟨by simp, fun i => by
    rw [hasB_zero, Array.getD_eq_getD_getElem?, Array.getElem?_replicate]
    split <;> rfl, fun j k h => by rw [hasB_zero] at h; cases h⟩

theorem LM.lt {M : Nat} {listed : Array Bool} (h : LM ops A M listed) {i : Nat} (hi : hasB M i = true) : i < ops.length := by
  rw [← h.bits i, Array.getD_eq_getD_getElem?] at hi
  by_cases hlt : i < listed.size
  · rw [← h.size]; exact hlt
  · rw [Array.getElem?_eq_none (by omega)] at hi; cases hi

theorem LM.ready (hA : AncSpec ops A) {M : Nat} {listed : Array Bool} (h : LM ops A M listed) {j : Nat} (hj : j ∈ Region.ready .any ops.toArray listed) :
    hasB M j = false ∧ j < ops.length ∧ ∀ k, hasB (A.getD j 0) k = true → hasB M k = true := by
  obtain ⟨g, o, ho, hall⟩ := mem_ready.1 hj
  have ho' : ops[j]? = some o := by simpa using ho
  refine ⟨by rw [← h.bits j]; exact getD_both' g, (List.getElem?_eq_some_iff.1 ho').1, fun k hk => ?_⟩
  obtain ⟨e, he, hb, hr⟩ := hA j o ho' k hk
  have h1 := hall e he hb
  rw [h.bits] at h1
  rcases hr with rfl | hr
  · exact h1
  · exact h.ac e.on k h1 hr

theorem LM.add (hA : AncSpec ops A) {M : Nat} {listed : Array Bool} (h : LM ops A M listed) {j : Nat} (hj : j ∈ Region.ready .any ops.toArray listed) : LM ops A (addB M j) (listed.setIfInBounds j true) := by
  obtain ⟨h1, h2, h3⟩ := h.ready hA hj
  refine ⟨by simp [h.size], fun i => ?_, fun i k hi hk => ?_⟩
  · rw [hasB_add]
    by_cases hij : j = i
    · subst hij
      have : j < listed.size := by rw [h.size]; exact h2
      simp [this]
    · rw [getD_set_ne false hij, h.bits i]
      simp [hij]
  · rw [hasB_add, Bool.or_eq_true, decide_eq_true_eq] at hi
    rw [hasB_add, Bool.or_eq_true]
    rcases hi with hi | rfl
    · exact .inl (h.ac i k hi hk)
    · exact .inl (h3 k hk)

theorem LM.mem_ready {M : Nat} {listed : Array Bool} (h : LM ops A M listed) {j : Nat} {o : Oper} (ho : ops[j]? = some o) (hj : hasB M j = false) (ha : aftersIn M o = true) : j ∈ Region.ready .any ops.toArray listed := by
  refine Sm.mem_ready_of ho ?_ fun e he hb => ?_
  · have hlt : j < listed.size := by rw [h.size]; exact (List.getElem?_eq_some_iff.1 ho).1
    have h1 := h.bits j
    rw [hj] at h1
    simp [hlt] at h1 ⊢
    exact h1
  · have h1 := List.all_eq_true.1 ha e (by simpa using he)
    rw [hb] at h1
    rw [h.bits]
    simpa using h1

/-! ### one operation that stands ready alone -/

theorem wp_noexit {Q1 Q2 : Exit → Act → World → Prop} (hQ : NoExit Q1) {o : Oper} {a : Act} {w : World} {K K' : Act → World → Prop} (hK : ∀ a w, K a w → K' a w) (h : o.wp P a w K Q1) : o.wp P a w K' Q2 := by
  have noOut : ¬ LetsOut Q1 := fun ⟨a, w, h⟩ => by have := hQ _ _ _ h; cases this
  unfold Oper.wp at *
  generalize (execOp a.eval o).run P w = r at *
  cases r with
  | ok n w' =>
    cases n <;> simp only [Oper.upon] at h ⊢
    case value u => exact hK _ _ h
    case skip => exact hK _ _ h
    case defer d => exact hK _ _ h
    case enter f args =>
      refine Calls.mono h fun e w'' he => ?_
      cases e with
      | returned u => exact hK _ _ he
      | panicked ch => have := hQ _ _ _ he; cases this
      | outgrown => exact absurd he noOut
    case row f args => exact Rows.mono h fun u w'' he => hK _ _ he
  | halt x w' =>
    cases x <;> simp only [Oper.upon] at h ⊢
    have := hQ _ _ _ h
    cases this

theorem ready_one (hA : AncSpec ops A) {M : Nat} {listed : Array Bool} (h : LM ops A M listed) {j : Nat} (hj : onlyJ ops A M j = true) : Region.ready .any ops.toArray listed = [j] := by
  unfold onlyJ at hj
  simp only [Bool.and_eq_true, Bool.not_eq_true'] at hj
  obtain ⟨⟨⟨h1, h2⟩, h3⟩, h4⟩ := hj
  have mem : ∀ i, i ∈ Region.ready .any ops.toArray listed ↔ i = j := by
    intro i
    constructor
    · intro hi
      obtain ⟨g1, g2, g3⟩ := h.ready hA hi
      have h5 := List.all_eq_true.1 h4 i (List.mem_range.2 g2)
      simp only [Bool.or_eq_true, g1, Bool.false_eq_true, false_or] at h5
      rcases h5 with h5 | h5
      · exact Nat.eq_of_beq_eq_true h5
      · have := g3 j h5
        rw [h2] at this; cases this
    · rintro rfl
      split at h3
      · rename_i o ho; exact h.mem_ready ho h2 h3
      · cases h3
  have hsub : (Region.ready .any ops.toArray listed).Nodup := by
    unfold Region.ready
    exact List.Pairwise.filter _ List.nodup_range
  match hq : Region.ready .any ops.toArray listed, hsub, mem with
  | [], _, mem => exact absurd ((mem j).2 rfl) (by simp)
  | [x], _, mem => rw [(mem x).1 (by simp)]
  | x :: y :: l, hnd, mem =>
    have e1 := (mem x).1 (by simp)
    have e2 := (mem y).1 (by simp)
    rw [e1, e2] at hnd
    simp at hnd

theorem ready_full {M : Nat} {listed : Array Bool} (hA : AncSpec ops A) (h : LM ops A M listed) (hf : fullB ops M = true) : Region.ready .any ops.toArray listed = [] := by
  apply List.eq_nil_iff_forall_not_mem.2
  intro i hi
  obtain ⟨g1, g2, _⟩ := h.ready hA hi
  have := List.all_eq_true.1 hf i (List.mem_range.2 g2)
  rw [g1] at this; cases this

theorem wpAny_one {listed : Array Bool} {j fuel : Nat} {a : Act} {w : World} (hr : Region.ready .any ops.toArray listed = [j]) (h : wpOp P ops.toArray Q j (wpAny P .any ops.toArray Q fuel (listed.setIfInBounds j true)) a w) : wpAny P .any ops.toArray Q (fuel + 1) listed a w :=
  ⟨fun h0 => (by rw [hr] at h0; cases h0), fun i hi => by rw [hr] at hi; simp only [List.mem_singleton] at hi; subst hi; exact h⟩

/-- Operations one behind the other. -/
theorem seq_any (hA : AncSpec ops A) {Q1 : Exit → Act → World → Prop} (hQ1 : NoExit Q1) : ∀ (js : List Nat) (M M' f : Nat) (listed : Array Bool) (a : Act) (w : World), seqOk ops A M js = some M' → LM ops A M listed →
    (∀ a w listed, Q1 .normal a w → LM ops A M' listed → wpAny P .any ops.toArray Q f listed a w) → wpList P ops.toArray Q1 (getOps ops js) a w → wpAny P .any ops.toArray Q (js.length + f) listed a w
  | [], M, M', f, listed, a, w, h, hl, hK, hw => by
    simp only [seqOk, Option.some.injEq] at h
    subst h
    rw [List.length_nil, Nat.zero_add]
    exact hK a w listed hw hl
  | j :: r, M, M', f, listed, a, w, h, hl, hK, hw => by
    have noOut : ¬ LetsOut Q1 := fun ⟨a, w, h⟩ => by have := hQ1 _ _ _ h; cases this
    unfold seqOk at h
    split at h
    · rename_i hj
      have hr := ready_one hA hl hj
      have hjr : j ∈ Region.ready .any ops.toArray listed := by rw [hr]; simp
      obtain ⟨_, o, ho, _⟩ := mem_ready.1 hjr
      have ho' : ops[j]? = some o := by simpa using ho
      have hl' := hl.add hA hjr
      rw [List.length_cons, show r.length + 1 + f = (r.length + f) + 1 from by omega]
      refine wpAny_one hr ?_
      have ih : ∀ a w, wpList P ops.toArray Q1 (getOps ops r) a w → wpAny P .any ops.toArray Q (r.length + f) (listed.setIfInBounds j true) a w := fun a w h' => seq_any hA hQ1 r _ M' f _ a w h hl' hK h'
      unfold getOps at hw
      simp only [ho'] at hw
      unfold wpOp
      simp only [ho]
      unfold wpList at hw
      split
      · rename_i hwt
        rw [if_pos hwt] at hw
        rcases hw with hw | ⟨_, hw⟩
        · exact .inl (wp_noexit hQ1 ih hw)
        · exact absurd hw noOut
      · rename_i hwt
        rw [if_neg hwt] at hw
        exact ih _ _ hw
    · cases h

/-! ### operations that may be carried out ahead -/

/-- In all worlds of a class: the one value, or none if the operation is not wanted. -/
def YieldL (P : Program) (ops : Array Oper) (L : World → Prop) (o : Oper) (v : Value) (a : Act) : Prop :=
  (Region.wanted o (yielded ops a.tmps) = true ∧ ∀ w, L w → (execOp a.eval o).run P w = .ok (.value v) w) ∨ (Region.wanted o (yielded ops a.tmps) = false ∧ v = undef)

theorem YieldL.keep {L : World → Prop} {ops : Array Oper} {o : Oper} {v : Value} {a : Act} (hs : ∀ cs b, o.op ≠ .select cs b) (h : YieldL P ops L o v a) {y : Option Tmp} (u : Value) (h3 : ∀ d, y = some d → d ∉ o.looksAt ops) : YieldL P ops L o v (a.put y u) := by
  unfold YieldL at *
  rw [execOp_put (ops := ops) o hs a y u h3, wanted_put o a y u h3]
  exact h

theorem YieldL.defers {L : World → Prop} {ops : Array Oper} {o : Oper} {v : Value} {a : Act} (h : YieldL P ops L o v a) (ds : List Deferred) : YieldL P ops L o v { a with defers := ds } := h

theorem wpOp_yl {L : World → Prop} {ops : Array Oper} {j : Nat} {oi oj : Oper} {v : Value} (hj : ops[j]? = some oj) (hap : oi.apart ops oj = true)
    (hsi : ∀ cs b, oi.op ≠ .select cs b) (hsj : ∀ cs b, oj.op ≠ .select cs b) {K : Act → World → Prop} {a : Act} {w : World} (hQ : NoExit Q)
    (hy : YieldL P ops L oi v a) (h : wpOp P ops Q j K (a.put oi.dst v) w) :
    wpOp P ops Q j (fun a' w' => YieldL P ops L oi v a' ∧ K (a'.put oi.dst v) w') a w := by
  obtain ⟨h1, h2, h3⟩ := Oper.apart_spec hap
  have noOut : ¬ LetsOut Q := fun ⟨a, w, h⟩ => by have := hQ _ _ _ h; cases this
  have fin : ∀ (u : Value) (w' : World), K ((a.put oi.dst v).put oj.dst u) w' → YieldL P ops L oi v (a.put oj.dst u) ∧ K ((a.put oj.dst u).put oi.dst v) w' := fun u w' hk =>
    ⟨hy.keep hsi u h3, by rw [← Act.put_comm a v u h2]; exact hk⟩
  unfold wpOp at *
  simp only [hj] at *
  rw [wanted_put oj a oi.dst v h1] at h
  split
  · rename_i hw
    rw [if_pos hw] at h
    rcases h with h | ⟨_, h⟩
    · left
      unfold Oper.wp at *
      rw [execOp_put oj hsj a oi.dst v h1] at h
      generalize (execOp a.eval oj).run P w = r at *
      cases r with
      | ok n w' =>
        cases n <;> simp only [Oper.upon] at h ⊢
        case value u => exact fin u w' h
        case skip => exact fin _ w' h
        case defer d =>
          refine ⟨(hy.defers (d :: a.defers)).keep hsi _ h3, ?_⟩
          rw [Act.put_defers] at h
          rw [← Act.put_comm _ v _ h2]
          exact h
        case enter f args =>
          refine Calls.mono h fun e w'' he => ?_
          cases e with
          | returned u => exact fin u w'' he
          | panicked ch => have := hQ _ _ _ he; cases this
          | outgrown => exact absurd he noOut
        case row f args => exact Rows.mono h fun u w'' he => fin u w'' he
      | halt x w' =>
        cases x <;> simp only [Oper.upon] at h ⊢
        have := hQ _ _ _ h
        cases this
    · exact absurd h noOut
  · rename_i hw
    rw [if_neg hw] at h
    exact fin _ w h

/-- Like wpAny; and behind an operation of a part the world is of a class. -/
def wpAnyW (P : Program) (ops : Array Oper) (Q : Exit → Act → World → Prop) (W : Nat) (L : World → Prop) : Nat → Array Bool → Act → World → Prop
  | 0, listed, a, w => Region.ready .any ops listed = [] ∧ Q .normal a w
  | fuel + 1, listed, a, w =>
    (Region.ready .any ops listed = [] → Q .normal a w) ∧
    ∀ i ∈ Region.ready .any ops listed, wpOp P ops Q i (fun a' w' => (hasB W i = true → L w') ∧ wpAnyW P ops Q W L fuel (listed.setIfInBounds i true) a' w') a w

theorem wpAnyW.any {ops : Array Oper} {W : Nat} {L : World → Prop} : ∀ (fuel : Nat) (listed : Array Bool) (a : Act) (w : World), wpAnyW P ops Q W L fuel listed a w → wpAny P .any ops Q fuel listed a w
  | 0, _, _, _, h => h
  | fuel + 1, _, _, _, h => ⟨h.1, fun i hi => wpOp_mono (fun a' w' h' => wpAnyW.any fuel _ a' w' h'.2) (h.2 i hi)⟩

theorem wpAnyW.of {W : Nat} {L : World → Prop} (hA : AncSpec ops A) : ∀ (fuel M : Nat) (listed : Array Bool) (a : Act) (w : World), LM ops A M listed → (∀ i, hasB W i = true → hasB M i = true) → wpAny P .any ops.toArray Q fuel listed a w → wpAnyW P ops.toArray Q W L fuel listed a w
  | 0, _, _, _, _, _, _, h => h
  | fuel + 1, M, listed, a, w, hl, hW, h => ⟨h.1, fun i hi => wpOp_mono (fun a' w' h' => ⟨(fun hw => by
      have h1 := (hl.ready hA hi).1
      rw [hW i hw] at h1; cases h1), wpAnyW.of hA fuel _ _ a' w' (hl.add hA hi) (fun k hk => by rw [hasB_add, hW k hk, Bool.true_or]) h'⟩) (h.2 i hi)⟩

/-- An operation that yields one value whatever comes between may be carried out first. -/
theorem early_first (hQ : NoExit Q) (hA : AncSpec ops A) {L : World → Prop} {W M0 i : Nat} {oi : Oper} {v : Value} (hi : ops[i]? = some oi) (hsel : ∀ (j : Nat) (o : Oper) cs b, ops.toArray[j]? = some o → o.op ≠ .select cs b)
    (hfree : ∀ j oj, ops[j]? = some oj → j ≠ i → hasB M0 j = false → hasB (A.getD j 0) i = false → oi.apart ops.toArray oj = true)
    (hlater : ∀ j, j < ops.length → hasB M0 j = false → hasB W j = false → hasB (A.getD j 0) i = true) :
    ∀ (fuel M : Nat) (listed : Array Bool) (a : Act) (w : World), (∀ k, hasB M0 k = true → hasB M k = true) → LM ops A M listed → hasB M i = false → i ∈ Region.ready .any ops.toArray listed → L w → YieldL P ops.toArray L oi v a →
      wpAnyW P ops.toArray Q W L fuel (listed.setIfInBounds i true) (a.put oi.dst v) w → wpAnyW P ops.toArray Q W L (fuel + 1) listed a w := by
  have hia : ops.toArray[i]? = some oi := by simpa using hi
  have first : ∀ (K : Act → World → Prop) (a : Act) (w : World), L w → YieldL P ops.toArray L oi v a → K (a.put oi.dst v) w → wpOp P ops.toArray Q i K a w := fun K a w hL hy H => by
    unfold wpOp
    simp only [hia]
    rcases hy with ⟨hw, hr⟩ | ⟨hw, rfl⟩
    · rw [if_pos hw]
      left
      unfold Oper.wp
      rw [hr w hL]
      exact H
    · rw [if_neg (by rw [hw]; simp)]
      exact H
  intro fuel
  induction fuel with
  | zero =>
    intro M listed a w hM hl hiM hr hL hy H
    refine ⟨fun h => (by rw [h] at hr; cases hr), fun j hj => ?_⟩
    by_cases hji : j = i
    · subst hji; exact first _ a w hL hy ⟨fun _ => hL, H⟩
    · have := ready_mono hj hji
      rw [H.1] at this
      cases this
  | succ fuel ih =>
    intro M listed a w hM hl hiM hr hL hy H
    refine ⟨fun h => (by rw [h] at hr; cases hr), fun j hj => ?_⟩
    by_cases hji : j = i
    · subst hji; exact first _ a w hL hy ⟨fun _ => hL, H⟩
    · have h1 := H.2 j (ready_mono hj hji)
      obtain ⟨g1, g2, g3⟩ := hl.ready hA hj
      obtain ⟨_, oj, hoj, _⟩ := mem_ready.1 hj
      have hoj' : ops[j]? = some oj := by simpa using hoj
      have hnot : hasB (A.getD j 0) i = false := by
        cases h : hasB (A.getD j 0) i with
        | false => rfl
        | true => have := g3 i h; rw [hiM] at this; cases this
      have hM0j : hasB M0 j = false := by
        cases h : hasB M0 j with
        | false => rfl
        | true => have := hM j h; rw [g1] at this; cases this
      have hWj : hasB W j = true := by
        cases h : hasB W j with
        | true => rfl
        | false => have := hlater j g2 hM0j h; rw [hnot] at this; cases this
      have h2 := wpOp_yl hoj (hfree j oj hoj' hji hM0j hnot) (fun cs b => hsel i oi cs b hia) (fun cs b => hsel j oj cs b hoj) hQ hy h1
      refine wpOp_mono (fun a' w' h3 => ⟨fun _ => h3.2.1 hWj, ih (addB M j) (listed.setIfInBounds j true) a' w' (fun k hk => by rw [hasB_add, hM k hk, Bool.true_or]) (hl.add hA hj) ?_ (ready_mono hr (Ne.symm hji)) (h3.2.1 hWj) h3.1 ?_⟩) h2
      · rw [hasB_add, hiM]; simpa using hji
      · rw [Array.setIfInBounds_comm _ _ hji]
        exact h3.2.2

theorem wanted_holds {o : Oper} {ops : List Oper} {tmps : Array Value} {j d : Nat} {want : Bool} (hg : o.guard = some (j, want)) (hd : dstOf ops j = some d) : Region.wanted o (yielded ops.toArray tmps) = true ↔ boolAt tmps[d]? = some want := by
  simp only [Region.wanted, hg, yielded_of hd]
  cases hb : boolAt tmps[d]? with
  | none => simp
  | some b => cases b <;> cases want <;> simp

/-- What a guard asks. -/
theorem guardK_spec {E : Env} {o : Oper} {tm : Tm} {orc : List Sg} {K : Bool → Tm → List Sg → Prop} {a : Act} (h : guardK ops o tm orc K) (ht : RT E tm a.tmps) :
    ∃ g tm' orc', K g tm' orc' ∧ RT E tm' a.tmps ∧ Region.wanted o (yielded ops.toArray a.tmps) = g := by
  unfold guardK at h
  split at h
  · rename_i hg
    exact ⟨true, tm, orc, h, ht, by simp [Region.wanted, hg]⟩
  · rename_i j want hg
    split at h
    · exact h.elim
    · rename_i d hd
      have key : ∀ b : Bool, boolAt a.tmps[d]? = some b → Region.wanted o (yielded ops.toArray a.tmps) = (b == want) := fun b hb => by
        rw [Bool.eq_iff_iff, wanted_holds hg hd, hb]
        simp
      split at h
      · rename_i b st hb
        have hbt := ht.bool hb
        have hbt' : boolAt a.tmps[d]? = some b := by rw [hbt]; rfl
        split at h
        · exact ⟨_, tm, orc, h, ht, key b hbt'⟩
        · obtain ⟨orc', h⟩ := guess_spec h
          refine ⟨_, _, orc', h, ht.reset (x := .one (.sc (.bool b) true)) ?_, key b hbt'⟩
          rw [Array.getD_eq_getD_getElem?, hbt]
          exact ⟨rfl, rfl⟩
      · rename_i hb
        have hu := ht.undef hb
        refine ⟨false, tm, orc, h, ht, ?_⟩
        cases hw : Region.wanted o (yielded ops.toArray a.tmps) with
        | false => rfl
        | true =>
          rw [wanted_holds hg hd, hu] at hw
          cases hw
      · exact h.elim

theorem noCallee_spec {o : Oper} (h : noCallee o = true) : callee? o = none := by
  unfold callee?
  split
  · rename_i c hc
    unfold noCallee at h
    simp only [hc] at h
    split
    · rename_i f hf
      rw [hf] at h
      cases h
    · rfl
  · rfl

/-- The operations carried out ahead. -/
theorem early_any (hT : TabOk P T) (hQ : NoExit Q) (hA : AncSpec ops A) (hS : Region.noSelect ops.toArray = true) {W Mf : Nat} {B : Nat} {w0 : World} {E : Env} {hp : List Blk} {w : World} (hh : RH B w0 E hp w)
    (hlater : ∀ j, j < ops.length → hasB Mf j = false → ∀ i, hasB W i = true → hasB (A.getD j 0) i = true) :
    ∀ (qs : List Nat) (M MQ f : Nat) (listed : Array Bool) (tm : Tm) (orc : List Sg) (K : Tm → List Sg → Prop) (a : Act), earlyOk ops A W M qs = some MQ → LM ops A M listed → (∀ j, j < ops.length → hasB M j = false → hasB Mf j = true → hasB W j = true) →
    earlyK P T ops hp qs tm orc K → RT E tm a.tmps →
    (∀ tm' orc' a' listed', K tm' orc' → RT E tm' a'.tmps → a'.defers = a.defers → LM ops A MQ listed' → wpAnyW P ops.toArray Q W (Below w.heap.size w) f listed' a' w) → wpAnyW P ops.toArray Q W (Below w.heap.size w) (qs.length + f) listed a w
  | [], M, MQ, f, listed, tm, orc, K, a, h, hl, hM, hk, ht, hK => by
    simp only [earlyOk, Option.some.injEq] at h
    subst h
    rw [List.length_nil, Nat.zero_add]
    exact hK tm orc a listed hk ht rfl hl
  | i :: r, M, MQ, f, listed, tm, orc, K, a, h, hl, hM, hk, ht, hK => by
    have hsel : ∀ (j : Nat) (o : Oper) cs b, ops.toArray[j]? = some o → o.op ≠ .select cs b := fun j o cs b hj => Region.noSelect_spec hS j o cs b hj
    unfold earlyOk at h
    split at h
    · rename_i h1
      unfold earlyOne at h1
      simp only [Bool.and_eq_true, Bool.not_eq_true'] at h1
      obtain ⟨⟨⟨h2, h3⟩, h4⟩, h5⟩ := h1
      unfold earlyK at hk
      split at h5
      · rename_i o ho
        simp only [Bool.and_eq_true] at h5
        obtain ⟨⟨⟨hq, hnc⟩, haf⟩, hap⟩ := h5
        simp only [ho] at hk
        obtain ⟨g, tm1, orc1, hk1, ht1, hw⟩ := guardK_spec hk ht
        have hrd := hl.mem_ready ho h3 haf
        have hfree : ∀ j oj, ops[j]? = some oj → j ≠ i → hasB M j = false → hasB (A.getD j 0) i = false → o.apart ops.toArray oj = true := fun j oj hj hji hMj hAj => by
          have h6 := List.all_eq_true.1 hap j (List.mem_range.2 (List.getElem?_eq_some_iff.1 hj).1)
          simp only [hMj, hAj, hj, Bool.false_or, Bool.or_false, Bool.or_eq_true] at h6
          rcases h6 with h6 | h6
          · exact absurd (Nat.eq_of_beq_eq_true h6) hji
          · exact h6
        have hlat : ∀ j, j < ops.length → hasB M j = false → hasB W j = false → hasB (A.getD j 0) i = true := fun j hj hMj hWj => by
          refine hlater j hj ?_ i h4
          cases h6 : hasB Mf j with
          | false => rfl
          | true => have := hM j hj hMj h6; rw [hWj] at this; cases this
        have hl' := hl.add hA hrd
        have hM' : ∀ j, j < ops.length → hasB (addB M i) j = false → hasB Mf j = true → hasB W j = true := fun j hj hMj hf => by
          rw [hasB_add, Bool.or_eq_false_iff] at hMj
          exact hM j hj hMj.1 hf
        rw [List.length_cons, show r.length + 1 + f = (r.length + f) + 1 from by omega]
        have go : ∀ (v : AV) (u : Value) (orc2 : List Sg), earlyK P T ops hp r (putT tm1 o.dst v) orc2 K → RV E v u → YieldL P ops.toArray (Below w.heap.size w) o u a → wpAnyW P ops.toArray Q W (Below w.heap.size w) ((r.length + f) + 1) listed a w := fun v u orc2 hk2 hrv hy => by
          refine early_first hQ hA ho hsel hfree hlat (r.length + f) M listed a w (fun k hk => hk) hl h3 hrd (Below.refl _ _) hy ?_
          exact early_any hT hQ hA hS hh hlater r (addB M i) MQ f _ (putT tm1 o.dst v) orc2 K (a.put o.dst u) h hl' hM' hk2 (ht1.put o.dst hrv) fun tm' orc' a' listed' k1 k2 k3 k4 => hK tm' orc' a' listed' k1 k2 (by rw [k3, put_defers]) k4
        cases g with
        | true =>
          obtain ⟨v, u, hKv, hrv, hrun⟩ := quiet_sound hT hh ht1 o hq (noCallee_spec hnc) hk1
          obtain ⟨v', orc2, hk2, hrv'⟩ := fixA_spec hKv
          exact go v' u orc2 hk2 (hrv' E u hrv) (.inl ⟨hw, fun w' hw' => hrun w' hw'⟩)
        | false => exact go .undef Go.undef orc1 hk1 rfl (.inr ⟨hw, rfl⟩)
      · cases h5
    · cases h

theorem silentG_run {o : Oper} (hs : silentG o = true) {a : Act} {v : Value} {w : World} (h : (execOp a.eval o).run P w = .ok (.value v) w) (w' : World) : (execOp a.eval o).run P w' = .ok (.value v) w' := by
  unfold silentG at hs
  split at hs
  · rename_i x ho
    simp only [execOp, ho, Sem.run_pure, Result.ok.injEq, Next.value.injEq] at h ⊢
    exact ⟨h.1, trivial⟩
  · rename_i x ho
    simp only [execOp, ho, Sem.run_pure, Result.ok.injEq, Next.value.injEq] at h ⊢
    exact ⟨h.1, trivial⟩
  · rename_i x ix ho
    simp only [execOp, ho, Instr.extract] at h ⊢
    split at h
    · rename_i vs hv
      split at h
      · rename_i u hu
        simp only [hu, Sem.run_bind, Sem.run_pure, Result.andThen_ok, Result.ok.injEq, Next.value.injEq] at h ⊢
        exact ⟨h.1, trivial⟩
      · simp at h
    · simp at h
  · cases hs

theorem scal_all {E : Env} {tm : Tm} {a : Act} {hp : List Blk} {K : Post} (ht : RT E tm a.tmps) (o : Oper) (hsel : ∀ cs b, o.op ≠ .select cs b) (h : scalK P o tm hp K) : ∃ v u, K v hp ∧ RV E v u ∧ ∀ w', (execOp a.eval o).run P w' = .ok (.value u) w' := by
  unfold scalK at h
  split at h
  · rename_i hall
    split at h
    · rename_i v hv
      split at h
      · rename_i b hb
        have hc : execOp a.eval o = execOp (fun x => ((evalO tm x).toV).getD Go.undef) o := by
          refine Go.execOp_congr o hsel fun x hx => ?_
          have h1 := List.all_eq_true.1 hall x (by simpa using hx)
          obtain ⟨u, hu⟩ := Option.isSome_iff_exists.1 h1
          rw [hu]
          exact toV_RV hu (ht.eval x)
        refine ⟨_, _, h, (ofV_RV hb), fun w' => ?_⟩
        rw [hc]
        exact pureNext_run hv w'
      · exact h.elim
    · exact h.elim
  · exact h.elim

theorem sil_any (hT : TabOk P T) (hQ : NoExit Q) (hA : AncSpec ops A) (hS : Region.noSelect ops.toArray = true) {B : Nat} {w0 : World} {E : Env} {hp : List Blk} {w : World} (hh : RH B w0 E hp w) :
    ∀ (qs : List Nat) (M MQ f : Nat) (listed : Array Bool) (tm : Tm) (orc : List Sg) (K : Tm → List Sg → Prop) (a : Act), silOk ops A M qs = some MQ → LM ops A M listed →
    earlyS P T ops hp qs tm orc K → RT E tm a.tmps →
    (∀ tm' orc' a' listed', K tm' orc' → RT E tm' a'.tmps → a'.defers = a.defers → LM ops A MQ listed' → wpAnyW P ops.toArray Q (maskL (List.range ops.length)) (fun _ => True) f listed' a' w) → wpAnyW P ops.toArray Q (maskL (List.range ops.length)) (fun _ => True) (qs.length + f) listed a w
  | [], M, MQ, f, listed, tm, orc, K, a, h, hl, hk, ht, hK => by
    simp only [silOk, Option.some.injEq] at h
    subst h
    rw [List.length_nil, Nat.zero_add]
    exact hK tm orc a listed hk ht rfl hl
  | i :: r, M, MQ, f, listed, tm, orc, K, a, h, hl, hk, ht, hK => by
    have hsel : ∀ (j : Nat) (o : Oper) cs b, ops.toArray[j]? = some o → o.op ≠ .select cs b := fun j o cs b hj => Region.noSelect_spec hS j o cs b hj
    unfold silOk at h
    split at h
    · rename_i h1
      unfold silOne at h1
      simp only [Bool.and_eq_true, Bool.not_eq_true'] at h1
      obtain ⟨⟨h2, h3⟩, h5⟩ := h1
      unfold earlyS at hk
      split at h5
      · rename_i o ho
        simp only [Bool.and_eq_true] at h5
        obtain ⟨⟨hsil, haf⟩, hap⟩ := h5
        simp only [ho] at hk
        obtain ⟨g, tm1, orc1, hk1, ht1, hw⟩ := guardK_spec hk ht
        have hrd := hl.mem_ready ho h3 haf
        have hfree : ∀ j oj, ops[j]? = some oj → j ≠ i → hasB M j = false → hasB (A.getD j 0) i = false → o.apart ops.toArray oj = true := fun j oj hj hji hMj hAj => by
          have h6 := List.all_eq_true.1 hap j (List.mem_range.2 (List.getElem?_eq_some_iff.1 hj).1)
          simp only [hMj, hAj, hj, Bool.false_or, Bool.or_false, Bool.or_eq_true] at h6
          rcases h6 with h6 | h6
          · exact absurd (Nat.eq_of_beq_eq_true h6) hji
          · exact h6
        have hlat : ∀ j, j < ops.length → hasB M j = false → hasB (maskL (List.range ops.length)) j = false → hasB (A.getD j 0) i = true := fun j hj _ hW => by
          rw [hasB_mask] at hW
          simp [hj] at hW
        have hl' := hl.add hA hrd
        rw [List.length_cons, show r.length + 1 + f = (r.length + f) + 1 from by omega]
        have go : ∀ (v : AV) (u : Value) (orc2 : List Sg), earlyS P T ops hp r (putT tm1 o.dst v) orc2 K → RV E v u → YieldL P ops.toArray (fun _ => True) o u a → wpAnyW P ops.toArray Q (maskL (List.range ops.length)) (fun _ => True) ((r.length + f) + 1) listed a w := fun v u orc2 hk2 hrv hy => by
          refine early_first hQ hA ho hsel hfree hlat (r.length + f) M listed a w (fun k hk => hk) hl h3 hrd trivial hy ?_
          exact sil_any hT hQ hA hS hh r (addB M i) MQ f _ (putT tm1 o.dst v) orc2 K (a.put o.dst u) h hl' hk2 (ht1.put o.dst hrv) fun tm' orc' a' listed' k1 k2 k3 k4 => hK tm' orc' a' listed' k1 k2 (by rw [k3, put_defers]) k4
        cases g with
        | true =>
          simp only at hk1
          split at hk1
          · rename_i hsl
            have hq : quietOp o = true := by
              unfold silentG at hsl
              unfold quietOp
              split at hsl
              · rename_i e; rw [e]
              · rename_i e; rw [e]
              · rename_i e; rw [e]
              · cases hsl
            have hnc : noCallee o = true := by
              unfold silentG at hsl
              unfold noCallee
              split at hsl
              · rename_i e; rw [e]
              · rename_i e; rw [e]
              · rename_i e; rw [e]
              · cases hsl
            obtain ⟨v, u, hKv, hrv, hrun⟩ := quiet_sound hT hh ht1 o hq (noCallee_spec hnc) hk1
            obtain ⟨v', orc2, hk2, hrv'⟩ := fixA_spec hKv
            exact go v' u orc2 hk2 (hrv' E u hrv) (.inl ⟨hw, fun w' _ => silentG_run hsl (hrun w (Below.refl _ _)) w'⟩)
          · obtain ⟨v, u, hKv, hrv, hrun⟩ := scal_all ht1 o (hsel i o · · (by simpa using ho)) hk1
            obtain ⟨v', orc2, hk2, hrv'⟩ := fixA_spec hKv
            exact go v' u orc2 hk2 (hrv' E u hrv) (.inl ⟨hw, fun w' _ => hrun w'⟩)
        | false => exact go .undef Go.undef orc1 hk1 rfl (.inr ⟨hw, rfl⟩)
      · cases h5
    · cases h

theorem wpAnyW.triv {W : Nat} : ∀ (fuel : Nat) (listed : Array Bool) (a : Act) (w : World), wpAny P .any ops.toArray Q fuel listed a w → wpAnyW P ops.toArray Q W (fun _ => True) fuel listed a w
  | 0, _, _, _, h => h
  | fuel + 1, listed, a, w, h => ⟨h.1, fun i hi => wpOp_mono (fun a' w' h' => ⟨fun _ => trivial, wpAnyW.triv fuel _ a' w' h'⟩) (h.2 i hi)⟩

/-! ### operations that make memory; a new variable -/

/-- A variable that nobody knows of yet. -/
structure Spare (B : Nat) (E : Env) (hp : List Blk) (w : World) (b : Nat) (c : Array Value) (t : TypeId) : Prop where
  cell : w.heap[b]? = some (.cells c t (0, 0))
  base : B ≤ b
  live : ∀ (i : Nat) (bi : Blk) (ei : EB), hp[i]? = some bi → E[i]? = some ei → bi.live = true → ei.b ≠ b
  fz : ∀ (j : Nat) (e : EB) (b' q : Nat) (cs : List C1), E[j]? = some e → e.fz b' q cs → b' ≠ b

theorem Spare.lt {B : Nat} {E : Env} {hp : List Blk} {w : World} {b : Nat} {c : Array Value} {t : TypeId} (h : Spare B E hp w b c t) : b < w.heap.size := (Array.getElem?_eq_some_iff.1 h.cell).1

theorem Spare.new {B : Nat} {w0 : World} {E : Env} {hp : List Blk} {w : World} (h : RH B w0 E hp w) (c : Array Value) (t : TypeId) : Spare B E hp (w.alloc (.cells c t)) w.heap.size c t where
  cell := heap_alloc_new w _
  base := h.size
  live := fun i bi ei hi hei hl => by
    obtain ⟨c', fz, hc, _⟩ := h.blk i bi ei hi hei hl
    have := (Array.getElem?_eq_some_iff.1 hc).1
    omega
  fz := fun j e b' q cs he hz => by
    obtain ⟨⟨c', t', z, hc, _⟩, _⟩ := h.frz.1 j e b' q cs he hz
    have := (Array.getElem?_eq_some_iff.1 hc).1
    omega

theorem Spare.step {B : Nat} {w0 : World} {E E2 : Env} {hp hp2 : List Blk} {w w2 : World} {b : Nat} {c : Array Value} {t : TypeId} (h : RH B w0 E hp w) (hs : Spare B E hp w b c t)
    (hpre : E.map (addOwn fun x => ownS E hp x ∨ x = b) <+: E2) (h2 : RH w.heap.size w E2 hp2 w2) (hne : hp ≠ []) : Spare B (backE E E2) (backH hp hp2) w2 b c t where
  cell := by rw [h2.below.block b hs.lt]; exact hs.cell
  base := hs.base
  live := fun i bi ei hi hei hl => by
    by_cases hlt : i < hp.length
    · rw [backH_old hlt] at hi
      rw [backE_old (by rw [h.len]; exact hlt)] at hei
      exact hs.live i bi ei hi hei hl
    · obtain ⟨g1, g2⟩ := backH_new hlt hi hl
      obtain ⟨e0, g3, rfl⟩ := backE_new (by rw [h.len]; exact hlt) hei
      obtain ⟨c', fz, k1, k2, k3, _⟩ := h2.blk i bi e0 g1 g3 hl
      have := (k3 g2).2.1
      have hb := hs.lt
      show e0.b ≠ b
      omega
  fz := fun j e b' q cs he hz => by
    have hsame := backE_same hpre
    obtain ⟨e', h1, _, _, _, h4⟩ := hsame.symm.2 j e he
    obtain ⟨_, _, h6⟩ := h2.frz.1 j e' b' q cs h1 (by rw [h4]; exact hz)
    intro hb
    obtain ⟨x, hx⟩ : ∃ x, E[0]? = some x := by
      cases hE : E with
      | nil => have := h.len; rw [hE] at this; exact absurd (List.eq_nil_of_length_eq_zero this.symm) hne
      | cons x l => exact ⟨x, rfl⟩
    exact h6 0 (addOwn (fun x => ownS E hp x ∨ x = b) x) (prefix_get hpre (by rw [List.getElem?_map, hx]; rfl)) (.inr (.inr hb))

/-- The variable is known from here on. -/
theorem RH.insert {B : Nat} {w0 : World} {E : Env} {hp : List Blk} {w : World} {b : Nat} {c : Array Value} {t : TypeId} (h : RH B w0 E hp w) (hs : Spare B E hp w b c t) (cs : List C1) (hlen : cs.length ≤ c.size) (hcs : ∀ E', RCs E' cs (c.toList.take cs.length)) :
    RH B w0 (E ++ [EB.at b 0 c.size]) (hp ++ [{ body := .li cs, elem := t, live := true, ro := false }]) w := by
  have hpre : E <+: E ++ [EB.at b 0 c.size] := ⟨_, rfl⟩
  have cut : ∀ (i : Nat) (x : Blk) (e : EB), (hp ++ [({ body := .li cs, elem := t, live := true, ro := false } : Blk)])[i]? = some x → (E ++ [EB.at b 0 c.size])[i]? = some e →
      (hp[i]? = some x ∧ E[i]? = some e) ∨ (i = hp.length ∧ x = { body := .li cs, elem := t, live := true, ro := false } ∧ e = EB.at b 0 c.size) := fun i x e hi he => by
    by_cases hlt : i < hp.length
    · rw [List.getElem?_append_left hlt] at hi
      rw [List.getElem?_append_left (by rw [h.len]; exact hlt)] at he
      exact .inl ⟨hi, he⟩
    · rw [List.getElem?_append_right (by omega)] at hi
      rw [List.getElem?_append_right (by rw [h.len]; omega)] at he
      have h0 := (List.getElem?_eq_some_iff.1 hi).1
      have h1 : i - hp.length = 0 := by simp at h0; omega
      rw [h1] at hi
      rw [h.len, h1] at he
      simp only [List.getElem?_cons_zero, Option.some.injEq] at hi he
      exact .inr ⟨by omega, hi.symm, he.symm⟩
  refine ⟨h.below, h.base, h.laid, by simp [h.len], fun i x e hi he hl => ?_, fun i j bi bj ei ej hij hi hj hei hej hli hlj hro => ?_, ⟨fun j e b' q cs' he hz => ?_, fun j e b' he ho => ?_⟩,
    h.maps.snoc h.len _ (fun l h => by cases h) fun _ _ _ h => h⟩
  · rcases cut i x e hi he with ⟨g1, g2⟩ | ⟨_, rfl, rfl⟩
    · obtain ⟨c', fz, a1, a2, a3, a4, a5⟩ := h.blk i x e g1 g2 hl
      exact ⟨c', fz, a1, a2, a3, a4, a5.mono hpre⟩
    · exact ⟨c, (0, 0), hs.cell, (Nat.zero_add _).symm, fun _ => ⟨rfl, hs.base, rfl⟩, ⟨hlen, fun hf _ => by cases hf⟩, hcs _⟩
  · rcases cut i bi ei hi hei with ⟨g1, g2⟩ | ⟨g0, rfl, rfl⟩ <;> rcases cut j bj ej hj hej with ⟨k1, k2⟩ | ⟨k0, rfl, rfl⟩
    · exact h.inj i j bi bj ei ej hij g1 k1 g2 k2 hli hlj hro
    · exact hs.live i bi ei g1 g2 hli
    · exact Ne.symm (hs.live j bj ej k1 k2 hlj)
    · exact absurd (g0.trans k0.symm) hij
  · have hE : ∃ (j' : Nat) (e' : EB), E[j']? = some e' ∧ e'.fz b' q cs' := by
      rcases env_two he with g | ⟨_, rfl⟩
      · exact ⟨j, e, g, hz⟩
      · exact hz.elim
    obtain ⟨j', e', he', hz'⟩ := hE
    obtain ⟨⟨c', t', z, r1, r2, r3, r4⟩, r5, r6⟩ := h.frz.1 j' e' b' q cs' he' hz'
    refine ⟨⟨c', t', z, r1, r2, r3.mono hpre, r4⟩, fun i bi ei hi hei hl hro => ?_, fun i ei hei ho => ?_⟩
    · rcases cut i bi ei hi hei with ⟨g1, g2⟩ | ⟨_, rfl, rfl⟩
      · exact r5 i bi ei g1 g2 hl hro
      · exact Ne.symm (hs.fz j' e' b' q cs' he' hz')
    · rcases env_two hei with g | ⟨_, rfl⟩
      · exact r6 i ei g ho
      · exact ho
  · rcases env_two he with g | ⟨_, rfl⟩
    · exact h.frz.2 j e b' g ho
    · exact ho.elim

theorem chainOne_spec {W M c : Nat} {r : List Nat} (h : chainOne ops A W M c r = true) : hasB M c = false ∧ hasB W c = true ∧ (∃ o, ops[c]? = some o ∧ o.guard = none ∧ aftersIn M o = true) ∧ ∀ c' ∈ r, hasB (A.getD c' 0) c = true := by
  unfold chainOne at h
  simp only [Bool.and_eq_true, Bool.not_eq_true'] at h
  obtain ⟨⟨⟨⟨h1, h2⟩, h3⟩, h4⟩, h5⟩ := h
  refine ⟨h2, h3, ?_, fun c' hc => List.all_eq_true.1 h5 c' hc⟩
  split at h4
  · rename_i o ho
    rw [Bool.and_eq_true] at h4
    refine ⟨o, ho, ?_, h4.2⟩
    have := h4.1
    unfold noGuard at this
    split at this
    · assumption
    · cases this
  · cases h4

theorem wpAnyW_all {W : Nat} {L : World → Prop} {fuel : Nat} {listed : Array Bool} {a : Act} {w : World} {j : Nat} (hj : j ∈ Region.ready .any ops.toArray listed)
    (h : ∀ i ∈ Region.ready .any ops.toArray listed, wpOp P ops.toArray Q i (fun a' w' => (hasB W i = true → L w') ∧ wpAnyW P ops.toArray Q W L fuel (listed.setIfInBounds i true) a' w') a w) : wpAnyW P ops.toArray Q W L (fuel + 1) listed a w :=
  ⟨fun h0 => (by rw [h0] at hj; cases hj), h⟩

/-- One operation that writes nothing that is there. -/
theorem late_step (hT : TabOk P T) (hF : FnsOk P F) {B : Nat} {w0 : World} {E : Env} {hp : List Blk} {w : World} {a : Act} {tm : Tm} {o : Oper} {K : Post} {next : Act → World → Prop} {S2 : Nat → Prop} (hs1 : ∀ b, S2 b → b < w.heap.size) (hs2 : ∀ (j : Nat) (e : EB) (b q : Nat) (cs : List C1), E[j]? = some e → e.fz b q cs → ¬ S2 b)
    (hh : RH B w0 E hp w) (ht : RT E tm a.tmps) (h : stepK P T F o tm (roH hp) K)
    (hk : ∀ v hp2 E2 u w', K v hp2 → E.map (addOwn fun b => ownS E hp b ∨ S2 b) <+: E2 → RH w.heap.size w E2 hp2 w' → RV (backE E E2) v u → RT (backE E E2) tm a.tmps → RH B w0 (backE E E2) (backH hp hp2) w' → next (a.put o.dst u) w') : o.wp P a w next Q := by
  refine step_sound hT hF (hh.roS hs1 hs2) ((SameE.add E _).RT ht) o h fun v hp2 E2 u w' hK hpre hrv hrh => ?_
  exact hk v hp2 E2 u w' hK hpre hrh ((backE_same hpre).RV hrv) (ht.mono (backE_pre E E2)) (hh.back (fun _ h => .inl h) hpre hrh)

/-- The operations that make memory, where no variable waits to be made ('S': what is known of the spare variable). -/
theorem late_any (hT : TabOk P T) (hF : FnsOk P F) (hA : AncSpec ops A) {W MC : Nat} {B : Nat} {w0 w1 : World} {f : Nat} {S2 : Nat → Prop} {S : Env → List Blk → World → Prop}
    (hSlt : ∀ E hp w, S E hp w → ∀ b, S2 b → b < w.heap.size ∧ ∀ (j : Nat) (e : EB) (b' q : Nat) (cs : List C1), E[j]? = some e → e.fz b' q cs → b' ≠ b)
    (hSstep : ∀ E hp w E2 hp2 w2, RH B w0 E hp w → S E hp w → E.map (addOwn fun x => ownS E hp x ∨ S2 x) <+: E2 → RH w.heap.size w E2 hp2 w2 → S (backE E E2) (backH hp hp2) w2) {D : Act → Prop} :
    ∀ (cs : List Nat) (M : Nat) (listed : Array Bool) (tm : Tm) (hp : List Blk) (orc : List Sg) (K : Tm → List Blk → List Sg → Prop) (E : Env) (a : Act) (w : World), chainC ops A W M cs = some MC → LM ops A M listed →
    (∀ j, j < ops.length → hasB M j = false → j ∈ cs ∨ ∀ c ∈ cs, hasB (A.getD j 0) c = true) → (∀ c ∈ cs, ∀ o, ops[c]? = some o → ∀ (a : Act) (u : Value), D a → D (a.put o.dst u)) →
    lateW P T F ops cs tm hp orc K → RH B w0 E hp w → RT E tm a.tmps → S E hp w → D a → Below w1.heap.size w1 w →
    (∀ tm' hp' orc' E' a' w' listed', K tm' hp' orc' → E <+: E' → RT E' tm' a'.tmps → a'.defers = a.defers → RH B w0 E' hp' w' → S E' hp' w' → D a' → Below w1.heap.size w1 w' → LM ops A MC listed' → wpAnyW P ops.toArray Q W (Below w1.heap.size w1) f listed' a' w') →
    wpAnyW P ops.toArray Q W (Below w1.heap.size w1) (cs.length + f) listed a w
  | [], M, listed, tm, hp, orc, K, E, a, w, h, hl, hR, hd, hk, hh, ht, hs, hp0, hw, hK => by
    simp only [chainC, Option.some.injEq] at h
    subst h
    rw [List.length_nil, Nat.zero_add]
    exact hK tm hp orc E a w listed hk (List.prefix_refl _) ht rfl hh hs hp0 hw hl
  | c :: r, M, listed, tm, hp, orc, K, E, a, w, h, hl, hR, hd, hk, hh, ht, hs, hp0, hw, hK => by
    unfold chainC at h
    split at h
    · rename_i h1
      obtain ⟨h2, h3, ⟨o, ho, hg, haf⟩, h4⟩ := chainOne_spec h1
      have hrd := hl.mem_ready ho h2 haf
      unfold lateW at hk
      simp only [ho] at hk
      rw [List.length_cons, show r.length + 1 + f = (r.length + f) + 1 from by omega]
      refine wpAnyW_all hrd fun j hj => ?_
      obtain ⟨g1, g2, g3⟩ := hl.ready hA hj
      have hjc : j = c := by
        rcases hR j g2 g1 with hm | hm
        · rcases List.mem_cons.1 hm with e | hm
          · exact e
          · have := g3 c (h4 j hm); rw [h2] at this; cases this
        · have := g3 c (hm c (by simp)); rw [h2] at this; cases this
      subst hjc
      unfold wpOp
      rw [show ops.toArray[j]? = some o from by simpa using ho]
      simp only
      rw [if_pos (by simp [Region.wanted, hg])]
      have hsl := hSlt E hp w hs
      refine .inl (late_step hT hF (S2 := S2) (fun x hx => (hsl x hx).1) (fun j e b' q cs he hz hb => (hsl b' hb).2 j e b' q cs he hz rfl) hh ht hk fun v hp2 E2 u w' hK0 hpre h2' hrv hrt hrh => ?_)
      obtain ⟨v', orc', hk', hrv'⟩ := fixA_spec hK0
      have hw' : Below w1.heap.size w1 w' := hw.trans (h2'.below.mono hw.size)
      refine ⟨fun _ => hw', late_any (D := D) hT hF hA hSlt hSstep r (addB M j) _ _ _ orc' K (backE E E2) _ w' h (hl.add hA hrd) (fun i hi hMi => ?_) (fun c hc => hd c (by simp [hc])) hk' hrh (hrt.put o.dst (hrv' _ u hrv)) (hSstep E hp w E2 hp2 w' hh hs hpre h2') (hd j (by simp) o ho a u hp0) hw' ?_⟩
      · rw [hasB_add, Bool.or_eq_false_iff] at hMi
        rcases hR i hi hMi.1 with hm | hm
        · rcases List.mem_cons.1 hm with rfl | hm
          · simp at hMi
          · exact .inl hm
        · exact .inr fun c hc => hm c (by simp [hc])
      · intro tm' hp' orc' E' a' w'' listed' k1 k2 k3 k4 k5 k6 k7 k8 k9
        exact hK tm' hp' orc' E' a' w'' listed' k1 ((backE_pre E E2).trans k2) k3 (by rw [k4, put_defers]) k5 k6 k7 k8 k9
    · cases h

theorem addB_comm (m i j : Nat) : addB (addB m i) j = addB (addB m j) i := by
  unfold addB
  show (m ||| _) ||| _ = (m ||| _) ||| _
  rw [Nat.or_assoc, Nat.or_assoc, Nat.or_comm (Nat.shiftLeft 1 i)]

theorem chainC_add {W k : Nat} : ∀ (cs : List Nat) (M MC : Nat), chainC ops A W M cs = some MC → k ∉ cs → chainC ops A W (addB M k) cs = some (addB MC k)
  | [], M, MC, h, _ => by
    simp only [chainC, Option.some.injEq] at h ⊢
    rw [h]
  | c :: r, M, MC, h, hk => by
    unfold chainC at h
    split at h
    · rename_i h1
      have hck : k ≠ c := fun e => hk (by rw [e]; simp)
      have h2 : chainOne ops A W (addB M k) c r = true := by
        unfold chainOne at h1 ⊢
        simp only [Bool.and_eq_true, Bool.not_eq_true'] at h1 ⊢
        obtain ⟨⟨⟨⟨g1, g2⟩, g3⟩, g4⟩, g5⟩ := h1
        refine ⟨⟨⟨⟨g1, by rw [hasB_add, g2]; simpa using hck⟩, g3⟩, ?_⟩, g5⟩
        split at g4
        · rename_i o ho
          rw [Bool.and_eq_true] at g4 ⊢
          refine ⟨g4.1, List.all_eq_true.2 fun e he => ?_⟩
          have := List.all_eq_true.1 g4.2 e he
          rw [hasB_add]
          simp only [Bool.or_eq_true] at this ⊢
          rcases this with h | h
          · exact .inl h
          · exact .inr (.inl h)
        · cases g4
      unfold chainC
      rw [h2]
      simp only
      rw [addB_comm]
      exact chainC_add r (addB M c) MC h fun hm => hk (by simp [hm])
    · cases h

theorem RT.setBad {E : Env} {tm : Tm} {tmps : Array Value} {d : Nat} (ht : RT E tm tmps) (hb : getT tm d = .bad) (u : Value) : RT E tm (tmps.setIfInBounds d u) := by
  refine ⟨by simp [ht.1], ht.2.1, fun i hi => ?_⟩
  by_cases hid : d = i
  · subst hid; rw [hb]; trivial
  · have := ht.2.2 i hi
    rw [Array.getD_eq_getD_getElem?, Array.getElem?_setIfInBounds, if_neg hid, ← Array.getD_eq_getD_getElem?]
    exact this

theorem getT_put {E : Env} {tm : Tm} {tmps : Array Value} (ht : RT E tm tmps) {d : Nat} (hd : d < tm.n) {x : Option Tmp} (hx : x ≠ some d) (v : AV) : getT (putT tm x v) d = getT tm d ∧ (putT tm x v).n = tm.n := by
  cases x with
  | none => exact ⟨rfl, rfl⟩
  | some y =>
    have hy : y ≠ d := fun e => hx (by rw [e])
    exact ⟨by show getT (setT tm y v) d = _; rw [getT_setT ht.2.1 hd, if_neg hy], setT_n tm y v⟩

theorem alOne_spec {W M k : Nat} {cs : List Nat} (h : alOne ops W M k cs = true) : hasB M k = false ∧ hasB W k = true ∧ ∃ o e d, ops[k]? = some o ∧ o.guard = none ∧ o.op = .alloc e ∧ o.dst = some d ∧ (∀ ed ∈ o.after, Region.binds .any ed = false) ∧
    ∀ c ∈ cs, ∃ oc, ops[c]? = some oc ∧ o.apart ops.toArray oc = true := by
  unfold alOne at h
  simp only [Bool.and_eq_true, Bool.not_eq_true'] at h
  obtain ⟨⟨⟨h1, h2⟩, h3⟩, h4⟩ := h
  refine ⟨h2, h3, ?_⟩
  split at h4
  · rename_i o ho
    simp only [Bool.and_eq_true] at h4
    obtain ⟨⟨⟨⟨g1, g2⟩, g3⟩, g4⟩, g5⟩ := h4
    split at g2
    · rename_i e he
      split at g3
      · rename_i d hd
        refine ⟨o, e, d, ho, ?_, he, hd, fun ed hed => ?_, fun c hc => ?_⟩
        · unfold noGuard at g1
          split at g1
          · assumption
          · cases g1
        · have := List.all_eq_true.1 g4 ed (by simpa using hed)
          simpa using this
        · have := List.all_eq_true.1 g5 c hc
          split at this
          · rename_i oc hoc; exact ⟨oc, hoc, this⟩
          · cases this
      · cases g3
    · cases g2
  · cases h4

/-- The operations that make memory, where a variable waits to be made. -/
theorem late_pend (hT : TabOk P T) (hF : FnsOk P F) (hA : AncSpec ops A) {W MC : Nat} {B : Nat} {w0 w1 : World} {f k : Nat} {ok : Oper} {e : TypeId} {d : Tmp} {ti : TI} (hok : ops[k]? = some ok) (hkg : ok.guard = none) (hke : ok.op = .alloc e) (hkd : ok.dst = some d) (hka : ∀ ed ∈ ok.after, Region.binds .any ed = false) (hkW : hasB W k = true) (hti : T.ty e = some ti) (hz : ti.zero.isEmpty = false) :
    ∀ (cs : List Nat) (M : Nat) (listed : Array Bool) (tm : Tm) (hp : List Blk) (orc : List Sg) (K : Tm → List Blk → List Sg → Prop) (E : Env) (a : Act) (w : World), chainC ops A W M cs = some MC → LM ops A M listed → hasB M k = false → k ∉ cs →
    (∀ j, j < ops.length → hasB M j = false → j = k ∨ j ∈ cs ∨ ((∀ c ∈ cs, hasB (A.getD j 0) c = true) ∧ hasB (A.getD j 0) k = true)) → (∀ c ∈ cs, ∀ o, ops[c]? = some o → o.dst ≠ some d) →
    lateW P T F ops cs tm hp orc K → RH B w0 E hp w → RT E tm a.tmps → getT tm d = .bad → d < tm.n → hp ≠ [] → Below w1.heap.size w1 w →
    (∀ tm' hp' orc' E' a' w' listed', K tm' hp' orc' → E <+: E' → RT E' tm' a'.tmps → a'.defers = a.defers → (∃ b n, a'.tmps.getD d Go.undef = .pointer (some ⟨b, 0, none⟩) ∧ RH B w0 (E' ++ [EB.at b 0 n]) (hp' ++ [{ body := .li ti.zero, elem := e, live := true, ro := false }]) w') → LM ops A (addB MC k) listed' → wpAnyW P ops.toArray Q W (Below w1.heap.size w1) f listed' a' w') →
    wpAnyW P ops.toArray Q W (Below w1.heap.size w1) (cs.length + (f + 1)) listed a w := by
  obtain ⟨hu, inf, hinf, hsz, _, hzz⟩ := hT.ty e ti hti
  obtain ⟨z, vs, hzv, hall, hcs, hone, hlen⟩ := hzz (by intro e1; rw [e1] at hz; cases hz)
  have hrc : ∀ E', RCs E' ti.zero z.cells.toList := fun E' => hcs ▸ allV_RCs hall hone
  have hzl : ti.zero.length = z.cells.size := by have := (hrc []).1; simpa using this
  -- the variable is made
  have make : ∀ (cs : List Nat) (M : Nat) (listed : Array Bool) (tm : Tm) (hp : List Blk) (orc : List Sg) (K : Tm → List Blk → List Sg → Prop) (E : Env) (a : Act) (w : World), chainC ops A W M cs = some MC → LM ops A M listed → hasB M k = false → k ∉ cs →
      (∀ j, j < ops.length → hasB M j = false → j = k ∨ j ∈ cs ∨ ((∀ c ∈ cs, hasB (A.getD j 0) c = true) ∧ hasB (A.getD j 0) k = true)) → (∀ c ∈ cs, ∀ o, ops[c]? = some o → o.dst ≠ some d) →
      lateW P T F ops cs tm hp orc K → RH B w0 E hp w → RT E tm a.tmps → getT tm d = .bad → d < tm.n → hp ≠ [] → Below w1.heap.size w1 w → k ∈ Region.ready .any ops.toArray listed →
      (∀ tm' hp' orc' E' a' w' listed', K tm' hp' orc' → E <+: E' → RT E' tm' a'.tmps → a'.defers = a.defers → (∃ b n, a'.tmps.getD d Go.undef = .pointer (some ⟨b, 0, none⟩) ∧ RH B w0 (E' ++ [EB.at b 0 n]) (hp' ++ [{ body := .li ti.zero, elem := e, live := true, ro := false }]) w') → LM ops A (addB MC k) listed' → wpAnyW P ops.toArray Q W (Below w1.heap.size w1) f listed' a' w') →
      wpOp P ops.toArray Q k (fun a' w' => (hasB W k = true → Below w1.heap.size w1 w') ∧ wpAnyW P ops.toArray Q W (Below w1.heap.size w1) (cs.length + f) (listed.setIfInBounds k true) a' w') a w := by
    intro cs M listed tm hp orc K E a w h hl hMk hkcs hR hd hk hh ht hbad hdn hne hw hrd hK
    unfold wpOp
    rw [show ops.toArray[k]? = some ok from by simpa using hok]
    simp only
    rw [if_pos (by simp [Region.wanted, hkg])]
    left
    have hrun : (execOp a.eval ok).run P w = .ok (.value (.pointer (some ⟨w.heap.size, 0, none⟩))) (w.alloc (.cells z.cells e)) := by
      simp only [execOp, hke, Instr.alloc, Sem.run_bind, zeroValue_run hinf hzv, Result.andThen_ok, newVar, newRow, run_newObj, Sem.run_pure]
      rfl
    unfold Oper.wp
    rw [hrun]
    simp only [Oper.upon]
    have hbel : Below w.heap.size w (w.alloc (.cells z.cells e)) := (Below.refl _ _).alloc (Nat.le_refl _) _
    have hw' : Below w1.heap.size w1 (w.alloc (.cells z.cells e)) := hw.trans (hbel.mono hw.size)
    refine ⟨fun _ => hw', ?_⟩
    have hl' := hl.add hA hrd
    have hdt : d < a.tmps.size := by rw [ht.1]; exact hdn
    refine late_any (S2 := fun x => x = w.heap.size) (S := fun E hp w' => Spare B E hp w' w.heap.size z.cells e ∧ hp ≠ []) (D := fun a => a.tmps.getD d Go.undef = .pointer (some ⟨w.heap.size, 0, none⟩)) hT hF hA (fun E hp w' hs b hb => by
        subst hb
        exact ⟨hs.1.lt, fun j e b' q cs he hz => hs.1.fz j e b' q cs he hz⟩) (fun E hp w' E2 hp2 w2 hrh hs hpre h2 => ⟨Spare.step hrh hs.1 hpre h2 hs.2, fun e => hs.2 (by
        cases hp with
        | nil => rfl
        | cons x l => simp [backH] at e)⟩) cs (addB M k) _ tm hp orc K E _ _ (chainC_add cs M MC h hkcs) hl' (fun j hj hMj => ?_) (fun c hc o ho a u hD => by
        have hne := hd c hc o ho
        rw [← hD]
        cases hdst : o.dst with
        | none => rfl
        | some d' =>
          have : d' ≠ d := fun e => hne (by rw [hdst, e])
          simp only [Act.put]
          rw [Array.getD_eq_getD_getElem?, Array.getD_eq_getD_getElem?, Array.getElem?_setIfInBounds, if_neg this]) hk (hh.congr hbel) ?_ ⟨Spare.new hh z.cells e, hne⟩ ?_ hw' ?_
    · rw [hasB_add, Bool.or_eq_false_iff] at hMj
      rcases hR j hj hMj.1 with rfl | hm | ⟨hm, _⟩
      · simp at hMj
      · exact .inl hm
      · exact .inr hm
    · rw [hkd]
      exact ht.setBad hbad _
    · rw [hkd]
      simp only [Act.put]
      rw [Array.getD_eq_getD_getElem?, Array.getElem?_setIfInBounds, if_pos rfl, if_pos hdt]
      rfl
    · intro tm' hp' orc' E' a' w' listed' k1 k2 k3 k4 k5 k6 k7 k8 k9
      refine hK tm' hp' orc' E' a' w' listed' k1 k2 k3 (by rw [k4, put_defers]) ⟨w.heap.size, z.cells.size, k7, k5.insert k6.1 ti.zero (by rw [hzl]; exact Nat.le_refl _) fun E' => ?_⟩ k9
      rw [hzl]
      have : z.cells.toList.take z.cells.size = z.cells.toList := List.take_of_length_le (by simp)
      rw [this]
      exact hrc E'
  intro cs
  induction cs with
  | nil =>
    intro M listed tm hp orc K E a w h hl hMk hkcs hR hd hk hh ht hbad hdn hne hw hK
    have hrd : k ∈ Region.ready .any ops.toArray listed := hl.mem_ready hok hMk (List.all_eq_true.2 fun ed hed => by rw [hka ed (by simpa using hed)]; rfl)
    rw [List.length_nil, Nat.zero_add]
    refine wpAnyW_all hrd fun j hj => ?_
    obtain ⟨g1, g2, g3⟩ := hl.ready hA hj
    have hjk : j = k := by
      rcases hR j g2 g1 with hm | hm | ⟨_, hm⟩
      · exact hm
      · cases hm
      · have := g3 k hm; rw [hMk] at this; cases this
    subst hjk
    have := make [] M listed tm hp orc K E a w h hl hMk hkcs hR hd hk hh ht hbad hdn hne hw hrd hK
    rw [List.length_nil, Nat.zero_add] at this
    exact this
  | cons c r ih =>
    intro M listed tm hp orc K E a w h hl hMk hkcs hR hd hk hh ht hbad hdn hne hw hK
    have hrdk : k ∈ Region.ready .any ops.toArray listed := hl.mem_ready hok hMk (List.all_eq_true.2 fun ed hed => by rw [hka ed (by simpa using hed)]; rfl)
    have h0 := h
    have hk0 := hk
    unfold chainC at h
    split at h
    · rename_i h1
      obtain ⟨h2, h3, ⟨o, ho, hg, haf⟩, h4⟩ := chainOne_spec h1
      have hrd := hl.mem_ready ho h2 haf
      unfold lateW at hk
      simp only [ho] at hk
      rw [List.length_cons, show r.length + 1 + (f + 1) = (r.length + (f + 1)) + 1 from by omega]
      refine wpAnyW_all hrd fun j hj => ?_
      obtain ⟨g1, g2, g3⟩ := hl.ready hA hj
      by_cases hjk : j = k
      · subst hjk
        have := make (c :: r) M listed tm hp orc K E a w h0 hl hMk hkcs hR hd hk0 hh ht hbad hdn hne hw hrdk hK
        rw [List.length_cons, show r.length + 1 + f = r.length + (f + 1) from by omega] at this
        exact this
      have hjc : j = c := by
        rcases hR j g2 g1 with hm | hm | ⟨hm, _⟩
        · exact absurd hm hjk
        · rcases List.mem_cons.1 hm with e | hm
          · exact e
          · have := g3 c (h4 j hm); rw [h2] at this; cases this
        · have := g3 c (hm c (by simp)); rw [h2] at this; cases this
      subst hjc
      unfold wpOp
      rw [show ops.toArray[j]? = some o from by simpa using ho]
      simp only
      rw [if_pos (by simp [Region.wanted, hg])]
      refine .inl (late_step hT hF (S2 := fun _ => False) (fun _ h => h.elim) (fun _ _ _ _ _ _ _ h => h) hh ht hk fun v hp2 E2 u w' hK0 hpre h2' hrv hrt hrh => ?_)
      obtain ⟨v', orc', hk', hrv'⟩ := fixA_spec hK0
      have hw' : Below w1.heap.size w1 w' := hw.trans (h2'.below.mono hw.size)
      have hod := hd j (by simp) o ho
      have hgt := getT_put ht hdn hod v'
      refine ⟨fun _ => hw', ih (addB M j) _ _ _ orc' K (backE E E2) _ w' h (hl.add hA hrd) (by rw [hasB_add, hMk]; simpa using hjk) (fun hm => hkcs (by simp [hm])) (fun i hi hMi => ?_) (fun c hc => hd c (by simp [hc])) hk' hrh (hrt.put o.dst (hrv' _ u hrv)) (by rw [hgt.1]; exact hbad) (by rw [hgt.2]; exact hdn) (fun e => hne ?_) hw' ?_⟩
      · rw [hasB_add, Bool.or_eq_false_iff] at hMi
        rcases hR i hi hMi.1 with hm | hm | ⟨hm, hm2⟩
        · exact .inl hm
        · rcases List.mem_cons.1 hm with rfl | hm
          · simp at hMi
          · exact .inr (.inl hm)
        · exact .inr (.inr ⟨fun c hc => hm c (by simp [hc]), hm2⟩)
      · cases hp with
        | nil => rfl
        | cons x l => simp [backH] at e
      · intro tm' hp' orc' E' a' w'' listed' k1 k2 k3 k4 k5 k6
        exact hK tm' hp' orc' E' a' w'' listed' k1 ((backE_pre E E2).trans k2) k3 (by rw [k4, put_defers]) k5 k6
    · cases h

theorem early_bits {W : Nat} : ∀ (qs : List Nat) (M MQ : Nat), earlyOk ops A W M qs = some MQ → ∀ j, hasB MQ j = (hasB M j || decide (j ∈ qs))
  | [], M, MQ, h, j => by
    simp only [earlyOk, Option.some.injEq] at h
    subst h; simp
  | i :: r, M, MQ, h, j => by
    unfold earlyOk at h
    split at h
    · rw [early_bits r _ MQ h j, hasB_add]
      by_cases h1 : i = j
      · subst h1; simp
      · have : ¬ j = i := fun e => h1 e.symm
        simp [h1, this]
    · cases h

theorem chain_bits {W : Nat} : ∀ (cs : List Nat) (M MC : Nat), chainC ops A W M cs = some MC → ∀ j, hasB MC j = (hasB M j || decide (j ∈ cs))
  | [], M, MQ, h, j => by
    simp only [chainC, Option.some.injEq] at h
    subst h; simp
  | i :: r, M, MQ, h, j => by
    unfold chainC at h
    split at h
    · rw [chain_bits r _ MQ h j, hasB_add]
      by_cases h1 : i = j
      · subst h1; simp
      · have : ¬ j = i := fun e => h1 e.symm
        simp [h1, this]
    · cases h

end parts
end Sm
