/-
  What is proved here: an operation that reads what does not change for a while may be carried out ahead of others. A text to be imported.
-/
import Derived.Test.YtgpbpgbokfdbeaaDoorSimNs
import Derived.Test.YtgpbpgbokfdbeaaDoorSimI2
namespace Sm
open Go Go.RowKit

section draw
variable {P : Program} {Q : Exit → Act → World → Prop}

/-- An operation that yields a value in all worlds of a class. -/
def SilL (P : Program) (L : World → Prop) (o : Oper) (v : Value) (a : Act) : Prop := o.guard = none ∧ ∀ w, L w → (execOp a.eval o).run P w = .ok (.value v) w

theorem SilL.keep {L : World → Prop} {ops : Array Oper} {o : Oper} {v : Value} {a : Act} (hs : ∀ cs b, o.op ≠ .select cs b) (h : SilL P L o v a) {y : Option Tmp} (u : Value) (h3 : ∀ d, y = some d → d ∉ o.looksAt ops) : SilL P L o v (a.put y u) :=
  ⟨h.1, fun w hL => by rw [execOp_put (ops := ops) o hs a y u h3]; exact h.2 w hL⟩

theorem SilL.defers {L : World → Prop} {o : Oper} {v : Value} {a : Act} (h : SilL P L o v a) (ds : List Deferred) : SilL P L o v { a with defers := ds } := ⟨h.1, fun w => h.2 w⟩

theorem wpOp_silL {L : World → Prop} {ops : Array Oper} {j : Nat} {oi oj : Oper} {v : Value} (hj : ops[j]? = some oj) (hap : oi.apart ops oj = true)
    (hsi : ∀ cs b, oi.op ≠ .select cs b) (hsj : ∀ cs b, oj.op ≠ .select cs b) {K : Act → World → Prop} {a : Act} {w : World} (hQ : NoExit Q)
    (hy : SilL P L oi v a) (h : wpOp P ops Q j K (a.put oi.dst v) w) :
    wpOp P ops Q j (fun a' w' => SilL P L oi v a' ∧ K (a'.put oi.dst v) w') a w := by
  obtain ⟨h1, h2, h3⟩ := Oper.apart_spec hap
  have noOut : ¬ LetsOut Q := fun ⟨a, w, h⟩ => by have := hQ _ _ _ h; cases this
  have fin : ∀ (u : Value) (w' : World), K ((a.put oi.dst v).put oj.dst u) w' → SilL P L oi v (a.put oj.dst u) ∧ K ((a.put oj.dst u).put oi.dst v) w' := fun u w' hk =>
    ⟨hy.keep hsi u h3, by rw [← Act.put_comm a v u h2]; exact hk⟩
  unfold wpOp at *
  simp only [hj] at *
  rw [wanted_put oj a oi.dst v h1] at h
  split
  · rename_i hw
    rw [if_pos hw] at h
    rcases h with h | ⟨_, h⟩
    · left
      unfold Oper.wp at *
      rw [execOp_put oj hsj a oi.dst v h1] at h
      generalize (execOp a.eval oj).run P w = r at *
      cases r with
      | ok n w' =>
        cases n <;> simp only [Oper.upon] at h ⊢
        case value u => exact fin u w' h
        case skip => exact fin _ w' h
        case defer d =>
          refine ⟨(hy.defers (d :: a.defers)).keep hsi _ h3, ?_⟩
          rw [Act.put_defers] at h
          rw [← Act.put_comm _ v _ h2]
          exact h
        case enter f args =>
          refine Calls.mono h fun e w'' he => ?_
          cases e with
          | returned u => exact fin u w'' he
          | panicked ch => have := hQ _ _ _ he; cases this
          | outgrown => exact absurd he noOut
        case row f args => exact Rows.mono h fun u w'' he => fin u w'' he
      | halt x w' =>
        cases x <;> simp only [Oper.upon] at h ⊢
        have := hQ _ _ _ h
        cases this
    · exact absurd h noOut
  · rename_i hw
    rw [if_neg hw] at h
    exact fin _ w h


/-- Like wpAny; and as long as operation 'm' is not listed, the world is of a class. -/
def wpAnyL (P : Program) (ops : Array Oper) (Q : Exit → Act → World → Prop) (m : Nat) (L : World → Prop) : Nat → Array Bool → Act → World → Prop
  | 0, listed, a, w => Region.ready .any ops listed = [] ∧ Q .normal a w
  | fuel + 1, listed, a, w =>
    (Region.ready .any ops listed = [] → Q .normal a w) ∧
    ∀ i ∈ Region.ready .any ops listed, wpOp P ops Q i (fun a' w' => ((listed.setIfInBounds i true).getD m false = false → L w') ∧ wpAnyL P ops Q m L fuel (listed.setIfInBounds i true) a' w') a w

theorem wpAnyL.any {ops : Array Oper} {m : Nat} {L : World → Prop} : ∀ (fuel : Nat) (listed : Array Bool) (a : Act) (w : World), wpAnyL P ops Q m L fuel listed a w → wpAny P .any ops Q fuel listed a w
  | 0, _, _, _, h => h
  | fuel + 1, _, _, _, h => ⟨h.1, fun i hi => wpOp_mono (fun a' w' h' => wpAnyL.any fuel _ a' w' h'.2) (h.2 i hi)⟩

/-- What reads a place that does not change until operation 'm', which waits for it, may be carried out first. -/
theorem any_firstL {ops : Array Oper} {i m : Nat} {L : World → Prop} {oi om : Oper} {v : Value} (hQ : NoExit Q) (hi : ops[i]? = some oi) (hom : ops[m]? = some om) (hmi : ∃ e ∈ om.after, Region.binds .any e = true ∧ e.on = i) (hne : m ≠ i)
    (hsel : ∀ (j : Nat) (o : Oper) cs b, ops[j]? = some o → o.op ≠ .select cs b)
    (ex : Nat → Bool) (hfree : ∀ j oj, ops[j]? = some oj → j ≠ i → ex j = false → (∀ e ∈ oj.after, Region.binds .any e = true → e.on ≠ i) → oi.apart ops oj = true) :
    ∀ (fuel : Nat) (listed : Array Bool) (a : Act) (w : World), (∀ k, ex k = true → listed.getD k false = true) → i ∈ Region.ready .any ops listed → listed.getD m false = false → L w → SilL P L oi v a →
      wpAnyL P ops Q m L fuel (listed.setIfInBounds i true) (a.put oi.dst v) w → wpAny P .any ops Q (fuel + 1) listed a w := by
  have first : ∀ (K : Act → World → Prop) (a : Act) (w : World), L w → SilL P L oi v a → K (a.put oi.dst v) w → wpOp P ops Q i K a w := fun K a w hL hy H => by
    unfold wpOp
    simp only [hi]
    rw [if_pos (by simp [Region.wanted, hy.1])]
    left
    unfold Oper.wp
    rw [hy.2 w hL]
    exact H
  intro fuel
  induction fuel with
  | zero =>
    intro listed a w hex hr hlm hL hy H
    refine ⟨fun h => (by rw [h] at hr; cases hr), fun j hj => ?_⟩
    by_cases hji : j = i
    · subst hji; exact first _ a w hL hy H
    · have := ready_mono hj hji
      rw [H.1] at this
      cases this
  | succ fuel ih =>
    intro listed a w hex hr hlm hL hy H
    refine ⟨fun h => (by rw [h] at hr; cases hr), fun j hj => ?_⟩
    by_cases hji : j = i
    · subst hji; exact first _ a w hL hy (wpAnyL.any _ _ _ _ H)
    · have h1 := H.2 j (ready_mono hj hji)
      obtain ⟨hjun, oj, hoj, hall⟩ := mem_ready.1 hj
      have hnot : ∀ e ∈ oj.after, Region.binds .any e = true → e.on ≠ i := fun e he hb heq => by
        have h1 := hall e he hb
        have h0 := (mem_ready.1 hr).1
        rw [heq] at h1
        rcases Nat.lt_or_ge i listed.size with h' | h'
        · simp [h'] at h0 h1; rw [h0] at h1; cases h1
        · simp [Array.getElem?_eq_none h'] at h1
      have hjm : j ≠ m := fun e => by
        subst e
        rw [hom] at hoj
        obtain rfl := Option.some.inj hoj
        obtain ⟨e, he, hb, hon⟩ := hmi
        exact hnot e he hb hon
      have hej : ex j = false := by
        cases he : ex j with
        | false => rfl
        | true =>
          have h1 := hex j he
          rw [getD_both' hjun] at h1
          cases h1
      have hk1 : (listed.setIfInBounds j true).getD m false = false := by rw [getD_set_ne false hjm]; exact hlm
      have hk2 : ((listed.setIfInBounds i true).setIfInBounds j true).getD m false = false := by rw [getD_set_ne false hjm, getD_set_ne false (Ne.symm hne)]; exact hlm
      have h2 := wpOp_silL hoj (hfree j oj hoj hji hej hnot) (fun cs b => hsel i oi cs b hi) (fun cs b => hsel j oj cs b hoj) hQ hy h1
      refine wpOp_mono (fun a' w' h3 => ih (listed.setIfInBounds j true) a' w' (fun k hk => getD_set_true (hex k hk)) (ready_mono hr (Ne.symm hji)) hk1 (h3.2.1 hk2) h3.1 ?_) h2
      rw [Array.setIfInBounds_comm _ _ hji]
      exact h3.2.2
/-- Like wpList; and behind each operation ahead of operation 'm' the world is of a class. -/
def wpListL (P : Program) (ops : Array Oper) (Q : Exit → Act → World → Prop) (m : Nat) (L : World → Prop) : Nat → List Oper → Act → World → Prop
  | _, [], a, w => Q .normal a w
  | j, o :: rest, a, w =>
    if Region.wanted o (yielded ops a.tmps) then o.wp P a w (fun a' w' => (j < m → L w') ∧ wpListL P ops Q m L (j + 1) rest a' w') Q ∨ (o.asks P a w ∧ LetsOut Q) else (j < m → L w) ∧ wpListL P ops Q m L (j + 1) rest (a.put o.dst undef) w

theorem wpAnyL_all {ops : Array Oper} {m : Nat} {L : World → Prop} {rs : List Nat} {fuel : Nat} {listed : Array Bool} {a : Act} {w : World} (hr : Region.ready .any ops listed = rs) (hne : rs ≠ [])
    (h : ∀ i ∈ rs, wpOp P ops Q i (fun a' w' => ((listed.setIfInBounds i true).getD m false = false → L w') ∧ wpAnyL P ops Q m L fuel (listed.setIfInBounds i true) a' w') a w) : wpAnyL P ops Q m L (fuel + 1) listed a w :=
  ⟨fun h0 => absurd (hr ▸ h0) hne, hr ▸ h⟩
theorem wpAnyL_done {ops : Array Oper} {m : Nat} {L : World → Prop} {listed : Array Bool} {a : Act} {w : World} (hr : Region.ready .any ops listed = []) (h : Q .normal a w) :
    ∀ fuel, wpAnyL P ops Q m L fuel listed a w
  | 0 => ⟨hr, h⟩
  | _ + 1 => ⟨fun _ => h, by rw [hr]; simp⟩

theorem chain_prev {ops : List Oper} {n : Nat} (h : chainOk ops n = true) {j : Nat} (hn : n < j) {o : Oper} (ho : ops[j]? = some o) : ∃ e ∈ o.after, Region.binds .any e = true ∧ e.on = j - 1 := by
  have hlt := (List.getElem?_eq_some_iff.1 ho).1
  unfold chainOk at h
  have h1 := List.all_eq_true.1 h (j - n - 1) (List.mem_range.2 (by omega))
  rw [show n + (j - n - 1) + 1 = j from by omega, show n + (j - n - 1) = j - 1 from by omega] at h1
  obtain ⟨o', ho', h2⟩ := waitsOn_spec h1
  rw [ho] at ho'
  obtain rfl := Option.some.inj ho'
  exact h2
theorem tail_anyL {ops : List Oper} {n m : Nat} {L : World → Prop} (hB : backEdges ops = true) (hW : chainOk ops n = true) : ∀ (rest : List Oper) (j f : Nat) (listed : Array Bool) (a : Act) (w : World),
    n ≤ j → j + rest.length = ops.length → (∀ k, rest[k]? = ops[j + k]?) → listed.size = ops.length → (∀ i, i < j → listed.getD i false = true) → (∀ i, j ≤ i → i < ops.length → listed.getD i true = false) →
    wpListL P ops.toArray Q m L j rest a w → wpAnyL P ops.toArray Q m L (rest.length + f) listed a w
  | [], j, f, listed, a, w, hn, hl, hr, hs, h1, h2, h => by
    refine wpAnyL_done ?_ h _
    apply List.eq_nil_iff_forall_not_mem.2
    intro i hi
    obtain ⟨g, o, ho, _⟩ := mem_ready.1 hi
    have hlt : i < ops.length := by
      have := (Array.getElem?_eq_some_iff.1 ho).1
      simpa using this
    simp at hl
    have := h1 i (by omega)
    rw [getD_both' g] at this
    cases this
  | o :: rest, j, f, listed, a, w, hn, hl, hr, hs, h1, h2, h => by
    simp only [List.length_cons] at hl
    have ho : ops[j]? = some o := by have := hr 0; simpa using this.symm
    have hready : Region.ready .any ops.toArray listed = [j] := by
      have mem : ∀ i, i ∈ Region.ready .any ops.toArray listed ↔ i = j := by
        intro i
        constructor
        · intro hi
          obtain ⟨g, o', ho', hall⟩ := mem_ready.1 hi
          have hlt : i < ops.length := by
            have := (Array.getElem?_eq_some_iff.1 ho').1
            simpa using this
          by_cases hij : i < j
          · have := h1 i hij
            rw [getD_both' g] at this
            cases this
          · by_cases hji : j < i
            · obtain ⟨e, he, hb, hon⟩ := chain_prev hW (show n < i by omega) (by simpa using ho')
              have h3 := hall e he hb
              rw [hon, getD_both' (h2 (i - 1) (by omega) (by omega))] at h3
              cases h3
            · omega
        · rintro rfl
          exact mem_ready.2 ⟨h2 _ (Nat.le_refl _) (by omega), o, by simpa using ho, fun e he hb => h1 e.on (backEdges_spec hB ho e he hb)⟩
      have hsub : (Region.ready .any ops.toArray listed).Nodup := by
        unfold Region.ready
        exact List.Pairwise.filter _ List.nodup_range
      match hq : Region.ready .any ops.toArray listed, hsub, mem with
      | [], _, mem => exact absurd ((mem j).2 rfl) (by simp)
      | [x], _, mem => rw [(mem x).1 (by simp)]
      | x :: y :: l, hnd, mem =>
        have e1 := (mem x).1 (by simp)
        have e2 := (mem y).1 (by simp)
        rw [e1, e2] at hnd
        simp at hnd
    rw [show (o :: rest).length + f = (rest.length + f) + 1 from by simp; omega]
    refine wpAnyL_all hready (by simp) fun i hi => ?_
    simp only [List.mem_singleton] at hi
    subst hi
    have ih : ∀ a w, (i < m → L w) ∧ wpListL P ops.toArray Q m L (i + 1) rest a w → ((listed.setIfInBounds i true).getD m false = false → L w) ∧ wpAnyL P ops.toArray Q m L (rest.length + f) (listed.setIfInBounds i true) a w := fun a w h' => by
      refine ⟨fun hm => h'.1 ?_, tail_anyL hB hW rest (i + 1) f (listed.setIfInBounds i true) a w (by omega) (by omega) (fun k => by have := hr (k + 1); simpa [Nat.add_assoc, Nat.add_comm 1 k] using this) (by simpa using hs) (fun k hk => ?_) (fun k hk hk2 => ?_) h'.2⟩
      · rcases Nat.lt_or_ge i m with hlt | hge
        · exact hlt
        · exfalso
          have : (listed.setIfInBounds i true).getD m false = true := by
            by_cases hmi : m = i
            · subst hmi; simp [hs]; omega
            · exact getD_set_true (h1 m (by omega))
          rw [hm] at this
          cases this
      · by_cases hki : k = i
        · subst hki; simp [hs]; omega
        · exact getD_set_true (h1 k (by omega))
      · rw [getD_set_ne true (by omega)]
        exact h2 k (by omega) hk2
    unfold wpOp
    rw [show ops.toArray[i]? = some o from by simpa using ho]
    simp only
    unfold wpListL at h
    split
    · rename_i hw
      rw [if_pos hw] at h
      exact h.imp (fun h => Oper.wp_mono ih h) id
    · rename_i hw
      rw [if_neg hw] at h
      exact ih _ _ h

/-- The head, in whatever order, where what is exempt is listed; then the tail. -/
theorem head_anyL {C : World → Prop} {S : Nat → Value → Prop} {ops : List Oper} {n m : Nat} {L : World → Prop} {ex : Nat → Bool} (hCL : ∀ w, C w → L w) (hn : n ≤ ops.length) (hB : backEdges ops = true) (hG : guardBack ops = true) (hW : chainOk ops n = true) (hX : ∀ k, k < n → n < ops.length → ex k = true ∨ ∃ i, k < i ∧ i ≤ n ∧ ∃ o, ops[i]? = some o ∧ ∃ e ∈ o.after, Region.binds .any e = true ∧ e.on = k) {K : Act → Prop}
    (hK : ∀ a w, C w → K a → wpListL P ops.toArray Q m L n (ops.drop n) a w) : ∀ (f : Nat) (lh : Array Bool) (a : Act) (w : World), lh.size = n → C w →
    (∀ i o, i < n → ops[i]? = some o → lh.getD i false = true → ∀ e ∈ o.after, Region.binds .any e = true → lh.getD e.on false = true) → (∀ k, k < n → ex k = true → lh.getD k false = true) →
    wpAnyS P .any (ops.take n).toArray C S K f lh a → wpAnyL P ops.toArray Q m L ((ops.drop n).length + f) (lh ++ Array.replicate (ops.length - n) false) a w := by
  -- what stands ready
  have hhead : ∀ (lh : Array Bool), lh.size = n → ∀ i, i ∈ Region.ready .any (ops.take n).toArray lh → i < n ∧ i ∈ Region.ready .any ops.toArray (lh ++ Array.replicate (ops.length - n) false) := by
    intro lh hs i hi
    obtain ⟨g, o, ho, hall⟩ := mem_ready.1 hi
    have hlt : i < n := by
      have := (Array.getElem?_eq_some_iff.1 ho).1
      simp at this; omega
    have ho' : ops[i]? = some o := by simpa [List.getElem?_take, hlt] using ho
    refine ⟨hlt, mem_ready.2 ⟨?_, o, by simpa using ho', fun e he hb => ?_⟩⟩
    · rw [Array.getD_eq_getD_getElem?, Array.getElem?_append_left (by omega)]
      rw [Array.getD_eq_getD_getElem?] at g
      exact g
    · have h1 := hall e he hb
      have h2 := backEdges_spec hB ho' e he hb
      rw [Array.getD_eq_getD_getElem?, Array.getElem?_append_left (by omega)]
      rw [Array.getD_eq_getD_getElem?] at h1
      exact h1
  have hall : ∀ (lh : Array Bool), lh.size = n → Region.ready .any (ops.take n).toArray lh = [] → ∀ i, i < n → lh.getD i false = true := by
    intro lh hs hr i
    induction i using Nat.strongRecOn with
    | _ i ih =>
      intro hi
      by_cases hu : lh.getD i true = false
      · exfalso
        have ho : ops[i]? = some (ops[i]'(by omega)) := List.getElem?_eq_getElem _
        have : i ∈ Region.ready .any (ops.take n).toArray lh := mem_ready.2 ⟨hu, ops[i]'(by omega), by simpa only [List.getElem?_toArray, List.getElem?_take, if_pos hi] using ho, fun e he hb => ih e.on (backEdges_spec hB ho e he hb) (by have := backEdges_spec hB ho e he hb; omega)⟩
        rw [hr] at this
        cases this
      · exact listed_cases hu (by omega)
  have htail : ∀ (lh : Array Bool), lh.size = n → (∀ i o, i < n → ops[i]? = some o → lh.getD i false = true → ∀ e ∈ o.after, Region.binds .any e = true → lh.getD e.on false = true) → ∀ i, i ∈ Region.ready .any ops.toArray (lh ++ Array.replicate (ops.length - n) false) → (∀ k, k < n → ex k = true → lh.getD k false = true) → (¬ ∀ k, k < n → lh.getD k false = true) → i ∈ Region.ready .any (ops.take n).toArray lh := by
    intro lh hs hcl i hi hloose hnot
    obtain ⟨g, o, ho, hal⟩ := mem_ready.1 hi
    have hlt0 : i < ops.length := by
      have := (Array.getElem?_eq_some_iff.1 ho).1
      simpa using this
    have ho' : ops[i]? = some o := by simpa using ho
    by_cases hlt : i < n
    · refine mem_ready.2 ⟨?_, o, by simpa [List.getElem?_take, hlt] using ho, fun e he hb => ?_⟩
      · rw [Array.getD_eq_getD_getElem?, Array.getElem?_append_left (by omega)] at g
        rw [Array.getD_eq_getD_getElem?]
        exact g
      · have h1 := hal e he hb
        have h2 := backEdges_spec hB ho' e he hb
        rw [Array.getD_eq_getD_getElem?, Array.getElem?_append_left (by omega)] at h1
        rw [Array.getD_eq_getD_getElem?]
        exact h1
    · exfalso
      by_cases hin : n < i
      · obtain ⟨e, he, hb, hon⟩ := chain_prev hW hin ho'
        have h1 := hal e he hb
        rw [hon, Array.getD_eq_getD_getElem?, Array.getElem?_append_right (by omega), Array.getElem?_replicate, if_pos (by omega)] at h1
        cases h1
      · obtain rfl : i = n := by omega
        have key : ∀ d k, k + d + 1 = i → lh.getD k false = true := by
          intro d
          induction d using Nat.strongRecOn with
          | _ d ih =>
            intro k hkd
            rcases hX k (by omega) hlt0 with hlo | ⟨m, hm1, hm2, o2, ho2, e, he, hb, hon⟩
            · exact hloose k (by omega) hlo
            by_cases hmi : m = i
            · subst hmi
              rw [ho'] at ho2
              obtain rfl := Option.some.inj ho2
              have h1 := hal e he hb
              rw [hon, Array.getD_eq_getD_getElem?, Array.getElem?_append_left (by omega)] at h1
              rw [Array.getD_eq_getD_getElem?]
              exact h1
            · have h3 := ih (i - m - 1) (by omega) m (by omega)
              have h4 := hcl m o2 (by omega) ho2 h3 e he hb
              rwa [hon] at h4
        exact hnot fun k hk => key (i - k - 1) k (by omega)
  have base : ∀ (f : Nat) (lh : Array Bool) (a : Act) (w : World), lh.size = n → C w → Region.ready .any (ops.take n).toArray lh = [] → K a → wpAnyL P ops.toArray Q m L ((ops.drop n).length + f) (lh ++ Array.replicate (ops.length - n) false) a w := by
    intro f lh a w hs hC hr hk
    have hl := hall lh hs hr
    refine tail_anyL hB hW (ops.drop n) n f _ a w (Nat.le_refl _) (by simp; omega) (fun k => by simp [List.getElem?_drop]) (by simp; omega) (fun i hi => ?_) (fun i hi hi2 => ?_) (hK a w hC hk)
    · have := hl i hi
      rw [Array.getD_eq_getD_getElem?, Array.getElem?_append_left (by omega)]
      rw [Array.getD_eq_getD_getElem?] at this
      exact this
    · rw [Array.getD_eq_getD_getElem?, Array.getElem?_append_right (by omega)]
      rw [Array.getElem?_replicate, if_pos (by omega)]
      rfl
  intro f
  induction f with
  | zero => intro lh a w hs hC _ _ h; exact base 0 lh a w hs hC h.1 h.2
  | succ f ih =>
    intro lh a w hs hC hcl hex h
    by_cases hr : Region.ready .any (ops.take n).toArray lh = []
    · exact base (f + 1) lh a w hs hC hr (h.1 hr)
    · have hnot : ¬ ∀ k, k < n → lh.getD k false = true := by
        intro hall'
        apply hr
        apply List.eq_nil_iff_forall_not_mem.2
        intro i hi
        obtain ⟨g, _⟩ := mem_ready.1 hi
        have := hall' i (hhead lh hs i hi).1
        rw [getD_both' g] at this
        cases this
      have hset : ∀ i, i < n → (lh ++ Array.replicate (ops.length - n) false).setIfInBounds i true = lh.setIfInBounds i true ++ Array.replicate (ops.length - n) false := fun i hlt => by
        apply Array.ext'
        simp only [Array.toList_setIfInBounds, Array.toList_append]
        rw [List.set_append_left _ _ (by simp; omega)]
      have hloose := hex
      refine ⟨fun h0 => ?_, fun i hi => ?_⟩
      · exfalso
        obtain ⟨i, hi⟩ := List.exists_mem_of_ne_nil _ hr
        have := (hhead lh hs i hi).2
        rw [h0] at this
        cases this
      · have hi' := htail lh hs hcl i hi hloose hnot
        have hcl' : ∀ k o, k < n → ops[k]? = some o → (lh.setIfInBounds i true).getD k false = true → ∀ e ∈ o.after, Region.binds .any e = true → (lh.setIfInBounds i true).getD e.on false = true := by
          intro k o hk ho hkt e he hb
          by_cases hki : k = i
          · subst hki
            obtain ⟨_, o2, ho2, hal⟩ := mem_ready.1 hi'
            have ho2' : ops[k]? = some o2 := by simpa only [List.getElem?_toArray, List.getElem?_take, if_pos hk] using ho2
            rw [ho] at ho2'
            obtain rfl := Option.some.inj ho2'
            exact getD_set_true (hal e he hb)
          · rw [getD_set_ne false (fun e => hki e.symm)] at hkt
            exact getD_set_true (hcl k o hk ho hkt e he hb)
        have hlt := (hhead lh hs i hi').1
        have h1 := h.2 i hi'
        have h2 := wpOp_of_qOpS (Q' := Q) (K' := fun a' w' => (((lh ++ Array.replicate (ops.length - n) false).setIfInBounds i true).getD m false = false → L w') ∧ wpAnyL P ops.toArray Q m L ((ops.drop n).length + f) ((lh ++ Array.replicate (ops.length - n) false).setIfInBounds i true) a' w') hC (fun a' w' hw' hk => ⟨fun _ => hCL w' hw', by rw [hset i hlt]; exact ih _ a' w' (by simpa using hs) hw' hcl' (fun k hk he => getD_set_true (hex k hk he)) hk⟩) h1
        have ho : ops[i]? = some (ops[i]'(by omega)) := List.getElem?_eq_getElem _
        unfold wpOp at h2 ⊢
        rw [show (ops.take n).toArray[i]? = some (ops[i]'(by omega)) from by simp [hlt]] at h2
        rw [show ops.toArray[i]? = some (ops[i]'(by omega)) from by simp]
        simp only at h2 ⊢
        rw [wanted_take hG hlt ho] at h2
        exact h2

/-- What may be carried out ahead of everything: an operation that waits for nothing, looks at the temporaries alone, and stands apart from whatever does not wait for it. -/
def Loose (P : Program) (C : World → Prop) (ops : List Oper) (lo : Nat → Bool) : Prop :=
  ∀ k, lo k = true → ∃ o, ops[k]? = some o ∧ o.guard = none ∧ (∀ e ∈ o.after, Region.binds .any e = false) ∧ (∀ a V w, C w → atS P o a C V → ∃ v, V v ∧ Sil P o v a) ∧
    ∀ j oj, ops[j]? = some oj → j ≠ k → (∀ e ∈ oj.after, Region.binds .any e = true → e.on ≠ k) → o.apart ops.toArray oj = true

/-- The loose operations first, then the one that reads what does not change, then the head in whatever order and the tail. -/
theorem start_any {C : World → Prop} {S : Nat → Value → Prop} {ops : List Oper} {n m i : Nat} {L : World → Prop} {oi om : Oper} {lo : Nat → Bool} (hlo : Loose P C ops lo) (hCL : ∀ w, C w → L w) (hn : n ≤ ops.length) (hB : backEdges ops = true) (hG : guardBack ops = true) (hW : chainOk ops n = true)
    (hX : ∀ k, k < n → n < ops.length → (lo k || Nat.beq k i) = true ∨ ∃ i, k < i ∧ i ≤ n ∧ ∃ o, ops[i]? = some o ∧ ∃ e ∈ o.after, Region.binds .any e = true ∧ e.on = k) (hQ : NoExit Q) (hS : Region.noSelect ops.toArray = true)
    (hin : i < n) (hnm : n ≤ m) (hoi : ops[i]? = some oi) (hom : ops[m]? = some om) (hmi : ∃ e ∈ om.after, Region.binds .any e = true ∧ e.on = i) (hgi : oi.guard = none) (hil : lo i = false)
    (haft : ∀ e ∈ oi.after, Region.binds .any e = true → lo e.on = true)
    (hapi : ∀ j oj, ops[j]? = some oj → j ≠ i → (lo j && Nat.blt j n) = false → (∀ e ∈ oj.after, Region.binds .any e = true → e.on ≠ i) → oi.apart ops.toArray oj = true)
    {K : Act → Prop} (hSil : ∀ a V w, C w → atS P oi a C V → ∃ v, V v ∧ SilL P L oi v a)
    (hK : ∀ a w, C w → K a → wpListL P ops.toArray Q m L n (ops.drop n) a w) : ∀ (f : Nat) (lh : Array Bool) (a : Act) (w : World), lh.size = n → C w →
    (∀ i o, i < n → ops[i]? = some o → lh.getD i false = true → ∀ e ∈ o.after, Region.binds .any e = true → lh.getD e.on false = true) → lh.getD i false = false →
    wpAnyS P .any (ops.take n).toArray C S K f lh a → wpAny P .any ops.toArray Q ((ops.drop n).length + f) (lh ++ Array.replicate (ops.length - n) false) a w := by
  have hhead : ∀ (lh : Array Bool), lh.size = n → ∀ i, i ∈ Region.ready .any (ops.take n).toArray lh → i < n ∧ i ∈ Region.ready .any ops.toArray (lh ++ Array.replicate (ops.length - n) false) := by
    intro lh hs i hi
    obtain ⟨g, o, ho, hall⟩ := mem_ready.1 hi
    have hlt : i < n := by
      have := (Array.getElem?_eq_some_iff.1 ho).1
      simp at this; omega
    have ho' : ops[i]? = some o := by simpa [List.getElem?_take, hlt] using ho
    refine ⟨hlt, mem_ready.2 ⟨?_, o, by simpa using ho', fun e he hb => ?_⟩⟩
    · rw [Array.getD_eq_getD_getElem?, Array.getElem?_append_left (by omega)]
      rw [Array.getD_eq_getD_getElem?] at g
      exact g
    · have h1 := hall e he hb
      have h2 := backEdges_spec hB ho' e he hb
      rw [Array.getD_eq_getD_getElem?, Array.getElem?_append_left (by omega)]
      rw [Array.getD_eq_getD_getElem?] at h1
      exact h1
  have hall : ∀ (lh : Array Bool), lh.size = n → Region.ready .any (ops.take n).toArray lh = [] → ∀ i, i < n → lh.getD i false = true := by
    intro lh hs hr i
    induction i using Nat.strongRecOn with
    | _ i ih =>
      intro hi
      by_cases hu : lh.getD i true = false
      · exfalso
        have ho : ops[i]? = some (ops[i]'(by omega)) := List.getElem?_eq_getElem _
        have : i ∈ Region.ready .any (ops.take n).toArray lh := mem_ready.2 ⟨hu, ops[i]'(by omega), by simpa only [List.getElem?_toArray, List.getElem?_take, if_pos hi] using ho, fun e he hb => ih e.on (backEdges_spec hB ho e he hb) (by have := backEdges_spec hB ho e he hb; omega)⟩
        rw [hr] at this
        cases this
      · exact listed_cases hu (by omega)
  intro f
  induction f with
  | zero =>
    intro lh a w hs hC _ hli h
    have := hall lh hs h.1 i hin
    rw [hli] at this; cases this
  | succ f ih =>
    intro lh a w hs hC hcl hli h
    have hsel : ∀ (j : Nat) (o : Oper) cs b, ops.toArray[j]? = some o → o.op ≠ .select cs b := fun j o cs b hj => Region.noSelect_spec hS j o cs b hj
    have hset : ∀ i, i < n → (lh ++ Array.replicate (ops.length - n) false).setIfInBounds i true = lh.setIfInBounds i true ++ Array.replicate (ops.length - n) false := fun i hlt => by
      apply Array.ext'
      simp only [Array.toList_setIfInBounds, Array.toList_append]
      rw [List.set_append_left _ _ (by simp; omega)]
    by_cases hlo' : ∃ k, k < n ∧ lo k = true ∧ lh.getD k false = false
    · obtain ⟨k, hkn, hlk, hlf⟩ := hlo'
      obtain ⟨o, ho, hg, hna, hsil, hap⟩ := hlo k hlk
      have hki : k ≠ i := fun e => by subst e; rw [hil] at hlk; cases hlk
      have hrd : k ∈ Region.ready .any (ops.take n).toArray lh := mem_ready.2 ⟨by
        have hlt : k < lh.size := by omega
        simp [hlt] at hlf ⊢; exact hlf, o, by simpa only [List.getElem?_toArray, List.getElem?_take, if_pos hkn] using ho, fun e he hb => by rw [hna e he] at hb; cases hb⟩
      have h1 := h.2 k hrd
      have hot : (ops.take n).toArray[k]? = some o := by simpa only [List.getElem?_toArray, List.getElem?_take, if_pos hkn] using ho
      unfold qOpS at h1
      rw [hot] at h1
      simp only at h1
      rw [if_pos (by simp [Region.wanted, hg])] at h1
      obtain ⟨hv0, hv1⟩ := h1
      obtain ⟨v, hVv, hsv⟩ := hsil a _ w hC hv0
      have hv2 := hv1 v hVv
      have hcl' : ∀ k' o', k' < n → ops[k']? = some o' → (lh.setIfInBounds k true).getD k' false = true → ∀ e ∈ o'.after, Region.binds .any e = true → (lh.setIfInBounds k true).getD e.on false = true := by
        intro k' o' hk ho' hkt e he hb
        by_cases hki' : k' = k
        · subst hki'
          rw [ho] at ho'
          obtain rfl := Option.some.inj ho'
          rw [hna e he] at hb
          cases hb
        · rw [getD_set_ne false (fun e => hki' e.symm)] at hkt
          exact getD_set_true (hcl k' o' hk ho' hkt e he hb)
      have hgo := ih _ (a.put o.dst v) w (by simpa using hs) hC hcl' (by rw [getD_set_ne false hki]; exact hli) hv2
      rw [← hset k hkn] at hgo
      exact any_first hQ (by simpa using ho) hsel (fun j oj hj hji hno => hap j oj (by simpa using hj) hji hno) ((ops.drop n).length + f) _ a w (hhead lh hs k hrd).2 hsv hgo
    · have hloose : ∀ k, k < n → lo k = true → lh.getD k false = true := fun k hk hl => by
        cases hh : lh.getD k false with
        | true => rfl
        | false => exact absurd ⟨k, hk, hl, hh⟩ hlo'
      have hrd : i ∈ Region.ready .any (ops.take n).toArray lh := mem_ready.2 ⟨by
        have hlt : i < lh.size := by omega
        simp [hlt] at hli ⊢; exact hli, oi, by simpa only [List.getElem?_toArray, List.getElem?_take, if_pos hin] using hoi, fun e he hb => hloose e.on (by have := backEdges_spec hB hoi e he hb; omega) (haft e he hb)⟩
      have h1 := h.2 i hrd
      have hot : (ops.take n).toArray[i]? = some oi := by simpa only [List.getElem?_toArray, List.getElem?_take, if_pos hin] using hoi
      unfold qOpS at h1
      rw [hot] at h1
      simp only at h1
      rw [if_pos (by simp [Region.wanted, hgi])] at h1
      obtain ⟨hv0, hv1⟩ := h1
      obtain ⟨v, hVv, hsv⟩ := hSil a _ w hC hv0
      have hv2 := hv1 v hVv
      have hcl' : ∀ k' o', k' < n → ops[k']? = some o' → (lh.setIfInBounds i true).getD k' false = true → ∀ e ∈ o'.after, Region.binds .any e = true → (lh.setIfInBounds i true).getD e.on false = true := by
        intro k' o' hk ho' hkt e he hb
        by_cases hki' : k' = i
        · subst hki'
          rw [hoi] at ho'
          obtain rfl := Option.some.inj ho'
          exact getD_set_true (hloose e.on (by have := backEdges_spec hB hoi e he hb; omega) (haft e he hb))
        · rw [getD_set_ne false (fun e => hki' e.symm)] at hkt
          exact getD_set_true (hcl k' o' hk ho' hkt e he hb)
      have hgo := head_anyL (C := C) (S := S) (m := m) (L := L) (ex := fun k => lo k || Nat.beq k i) hCL hn hB hG hW hX hK f _ (a.put oi.dst v) w (by simpa using hs) hC hcl' (fun k hk he => by
        by_cases hki : k = i
        · subst hki; simp [hs]; omega
        · have hl : lo k = true := by
            cases h0 : lo k with
            | true => rfl
            | false =>
              rw [h0, Bool.false_or] at he
              exact absurd (Nat.eq_of_beq_eq_true he) hki
          exact getD_set_true (hloose k hk hl)) hv2
      rw [← hset i hin] at hgo
      refine any_firstL hQ (by simpa using hoi) (by simpa using hom) hmi (by omega) hsel (fun j => lo j && Nat.blt j n) (fun j oj hj hji hej hno => hapi j oj (by simpa using hj) hji hej hno) ((ops.drop n).length + f) _ a w (fun k hk => ?_) (hhead lh hs i hrd).2 ?_ (hCL w hC) hsv hgo
      · rw [Bool.and_eq_true, blt_eq] at hk
        have hkn : k < n := by simpa using hk.2
        have h1 := hloose k hkn hk.1
        rw [Array.getD_eq_getD_getElem?] at h1 ⊢
        rw [Array.getElem?_append_left (by omega)]
        exact h1
      have hlm := (List.getElem?_eq_some_iff.1 hom).1
      rw [Array.getD_eq_getD_getElem?, Array.getElem?_append_right (by omega), Array.getElem?_replicate, if_pos (by omega)]
      rfl
/-- A region that draws its order, with one operation in its quiet head that reads what does not change until operation 'm', which waits for it. -/
theorem wp_draw3 {C : World → Prop} {Vs : List (Value → Prop)} {lo : Nat → Bool} {id : Nat} {ops : List Oper} {n m i : Nat} {L : World → Prop} {oi om : Oper} {a : Act} {w : World} (hm : P.follows .mixedOrders = true) (hn : n ≤ ops.length) (hL : Region.lexB .any (ops.take n).toArray = true)
    (hlo : Loose P C ops lo) (hB : backEdges ops = true) (hG : guardBack ops = true) (hW : chainOk ops n = true)
    (hX : ∀ k, k < n → n < ops.length → (lo k || Nat.beq k i) = true ∨ ∃ i, k < i ∧ i ≤ n ∧ ∃ o, ops[i]? = some o ∧ ∃ e ∈ o.after, Region.binds .any e = true ∧ e.on = k) (hS : Region.noSelect ops.toArray = true)
    (hin : i < n) (hnm : n ≤ m) (hoi : ops[i]? = some oi) (hom : ops[m]? = some om) (hmi : ∃ e ∈ om.after, Region.binds .any e = true ∧ e.on = i) (hgi : oi.guard = none) (hil : lo i = false)
    (haft : ∀ e ∈ oi.after, Region.binds .any e = true → lo e.on = true)
    (hapi : ∀ j oj, ops[j]? = some oj → j ≠ i → (lo j && Nat.blt j n) = false → (∀ e ∈ oj.after, Region.binds .any e = true → e.on ≠ i) → oi.apart ops.toArray oj = true)
    {Q0 : Exit → Act → World → Prop} (hQ0 : NoExit Q0) (hQQ : ∀ a w, Q0 .normal a w → Q .normal a w) (hC : C { w with drawn := w.drawn + 1 }) (hCL : ∀ w, C w → L w) (hSil : ∀ a V w, C w → atS P oi a C V → ∃ v, V v ∧ SilL P L oi v a)
    (h : wpLexS P (ops.take n).toArray C (fun a' => ∀ w', C w' → wpListL P ops.toArray Q0 m L n (ops.drop n) a' w') (ops.take n) Vs a) : (Code.region id ops.toArray true).wp P Q a w := by
  simp only [Region.lexB, Bool.and_eq_true] at hL
  refine wp_region_any hm ?_
  have h1 := wpAnyS_lex (C := C) (S := fun i => Vs.getD i fun _ => False) (md := .any) hL.1 (ops.take n) Vs 0 (Array.replicate (ops.take n).toArray.size false) a (by simp) (fun j V hj => by simp [hj]) (by simpa using hL.2) h
  have h2 := start_any (Q := Q0) hlo hCL hn hB hG hW hX hQ0 hS hin hnm hoi hom hmi hgi hil haft hapi hSil (fun a' w' hC' hk => hk w' hC') (ops.take n).length _ a { w with drawn := w.drawn + 1 } (by simp; omega) hC (fun i o hi ho ht => by
    exfalso
    rw [Array.getD_eq_getD_getElem?, Array.getElem?_replicate] at ht
    split at ht <;> cases ht) (by
    rw [Array.getD_eq_getD_getElem?, Array.getElem?_replicate]
    split <;> rfl) h1
  have e1 : (ops.drop n).length + (ops.take n).length = ops.toArray.size := by simp; omega
  have e2 : Array.replicate (ops.take n).toArray.size false ++ Array.replicate (ops.length - n) false = Array.replicate ops.toArray.size false := by
    rw [Array.replicate_append_replicate]
    congr 1
    simp; omega
  rw [e1, e2] at h2
  exact any_exits hQ0 hQQ _ _ _ _ h2
theorem wpListL_of {ops : Array Oper} {m : Nat} {L : World → Prop} : ∀ (rest : List Oper) (j : Nat) (a : Act) (w : World), m ≤ j → wpList P ops Q rest a w → wpListL P ops Q m L j rest a w
  | [], _, _, _, _, h => h
  | o :: rest, j, a, w, hj, h => by
    unfold wpListL
    unfold wpList at h
    split
    · rename_i hw
      rw [if_pos hw] at h
      exact h.imp (fun h => Oper.wp_mono (fun a w h => ⟨fun hlt => absurd hlt (by omega), wpListL_of rest (j + 1) a w (by omega) h⟩) h) id
    · rename_i hw
      rw [if_neg hw] at h
      exact ⟨fun hlt => absurd hlt (by omega), wpListL_of rest (j + 1) _ w (by omega) h⟩
end draw

/-! ### what a part of a walk leaves alone -/

/-- The same places. -/
def SameE (E E' : Env) : Prop := E.length = E'.length ∧ ∀ (i : Nat) (e : EB), E[i]? = some e → ∃ e', E'[i]? = some e' ∧ e'.b = e.b ∧ e'.o = e.o ∧ e'.n = e.n ∧ e'.fz = e.fz

theorem SameE.map (E : Env) (f : EB → EB) (hf : ∀ e, (f e).b = e.b ∧ (f e).o = e.o ∧ (f e).n = e.n ∧ (f e).fz = e.fz) : SameE E (E.map f) :=
  ⟨by simp, fun i e h => ⟨f e, by simp [h], hf e⟩⟩

theorem SameE.symm {E E' : Env} (h : SameE E E') : SameE E' E :=
  ⟨h.1.symm, fun i e he => by
    have hlt := (List.getElem?_eq_some_iff.1 he).1
    obtain ⟨e', he', h1, h2, h3, h4⟩ := h.2 i _ (List.getElem?_eq_getElem (by have := h.1; omega : i < E.length))
    rw [he] at he'
    obtain rfl := Option.some.inj he'
    exact ⟨_, List.getElem?_eq_getElem (by have := h.1; omega : i < E.length), h1.symm, h2.symm, h3.symm, h4.symm⟩⟩

theorem SameE.RC {E E' : Env} (h : SameE E E') {c : C1} {u : Value} (hc : RC E c u) : RC E' c u := by
  have fz : ∀ (j : Nat) (e : EB) (b q : Nat) (cs : List C1), E[j]? = some e → e.fz b q cs → ∃ (j' : Nat) (e' : EB), E'[j']? = some e' ∧ e'.fz b q cs := fun j e b q cs he hz => by
    obtain ⟨e', he', _, _, _, h4⟩ := h.2 j e he
    exact ⟨j, e', he', by rw [h4]; exact hz⟩
  cases c with
  | sc v st => exact hc
  | em => exact hc
  | fl k => exact hc
  | cf k => exact hc
  | ez => exact hc
  | ptr i off =>
    obtain ⟨e, he, hu⟩ := hc
    obtain ⟨e', he', h1, h2, h3, h4⟩ := h.2 i e he
    exact ⟨e', he', by rw [h1, h2]; exact hu⟩
  | sl i off len sz =>
    obtain ⟨e, cap, he, hu, h5, h6, h7⟩ := hc
    obtain ⟨e', he', h1, h2, h3, h4⟩ := h.2 i e he
    exact ⟨e', cap, he', by rw [h1, h2]; exact hu, h5, h6, by rw [h3]; exact h7⟩
  | e0 i off =>
    obtain ⟨e, he, hu⟩ := hc
    obtain ⟨e', he', h1, h2, h3, h4⟩ := h.2 i e he
    exact ⟨e', he', by rw [h1, h2]; exact hu⟩
  | fn f ps =>
    obtain ⟨caps, hu, hl, hp⟩ := hc
    refine ⟨caps, hu, hl, fun j p v h1 h2 => ?_⟩
    obtain ⟨e, he, hv⟩ := hp j p v h1 h2
    obtain ⟨e', he', h1, h2, h3, h4⟩ := h.2 p.1 e he
    exact ⟨e', he', by rw [h1, h2]; exact hv⟩
  | lst n N sz f =>
    rcases hc with hc | ⟨j, e, b, q, o, cap, cs, he, hz, r⟩
    · exact .inl hc
    · obtain ⟨j', e', he', hz'⟩ := fz j e b q cs he hz
      exact .inr ⟨j', e', b, q, o, cap, cs, he', hz', r⟩
  | pl ds o =>
    obtain ⟨j, e, b, q, p, cs, he, hz, r⟩ := hc
    obtain ⟨j', e', he', hz'⟩ := fz j e b q cs he hz
    exact ⟨j', e', b, q, p, cs, he', hz', r⟩
  | pr i k sz o =>
    obtain ⟨e, he, hu⟩ := hc
    obtain ⟨e', he', h1, h2, h3, h4⟩ := h.2 i e he
    exact ⟨e', he', by rw [h1, h2]; exact hu⟩
  | gr i n sz =>
    rcases hc with hc | ⟨hn, e, cap, he, hu, h5, h6, h7⟩
    · exact .inl hc
    · obtain ⟨e', he', h1, h2, h3, h4⟩ := h.2 i e he
      exact .inr ⟨hn, e', cap, he', by rw [h1, h2]; exact hu, h5, h6, by rw [h3]; exact h7⟩
  | mp i =>
    obtain ⟨e, he, hu⟩ := hc
    obtain ⟨e', he', h1, h2, h3, h4⟩ := h.2 i e he
    exact ⟨e', he', by rw [h1]; exact hu⟩

theorem SameE.RCs {E E' : Env} (h : SameE E E') {cs : List C1} {vs : List Value} (hc : RCs E cs vs) : RCs E' cs vs :=
  ⟨hc.1, fun j c v h1 h2 => h.RC (hc.2 j c v h1 h2)⟩

theorem SameE.RP {E E' : Env} (h : SameE E E') {p : Bool × List C1} {u : Value} (hc : RP E p u) : RP E' p u := by
  obtain ⟨b, cs⟩ := p
  cases b with
  | false => obtain ⟨c, h1, h2⟩ := hc; exact ⟨c, h1, h.RC h2⟩
  | true => obtain ⟨vs, h1, h2⟩ := hc; exact ⟨vs, h1, h.RCs h2⟩

theorem SameE.RV {E E' : Env} (h : SameE E E') {a : AV} {u : Value} (hc : RV E a u) : RV E' a u := by
  cases a with
  | one c => exact h.RC hc
  | agg l => obtain ⟨vs, h1, h2⟩ := hc; exact ⟨vs, h1, h.RCs h2⟩
  | tup l => obtain ⟨us, h1, h2, h3⟩ := hc; exact ⟨us, h1, h2, fun j p v h4 h5 => h.RP (h3 j p v h4 h5)⟩
  | undef => exact hc
  | bad => trivial

theorem SameE.RT {E E' : Env} (h : SameE E E') {tm : Tm} {tmps : Array Value} (ht : RT E tm tmps) : RT E' tm tmps :=
  ⟨ht.1, ht.2.1, fun i hi => h.RV (ht.2.2 i hi)⟩

theorem SameE.CE {E E' : Env} (h : SameE E E') {ce : List Ent} {tmps : Array Value} (hc : CE E ce tmps) : CE E' ce tmps :=
  fun e he => ⟨fun hh => h.RV ((hc e he).1 hh), (hc e he).2⟩

/-- Blocks of one's own, told as blocks of those who called. -/
def addOwn (S : Nat → Prop) (e : EB) : EB := { e with own := fun b => e.own b ∨ S b }
def noOwn (e : EB) : EB := { e with own := fun _ => False }
def ownS (E : Env) (hp : List Blk) (b : Nat) : Prop := ∃ (i : Nat) (bi : Blk) (ei : EB), hp[i]? = some bi ∧ E[i]? = some ei ∧ bi.live = true ∧ bi.ro = false ∧ ei.b = b

theorem SameE.add (E : Env) (S : Nat → Prop) : SameE E (E.map (addOwn S)) := .map E _ fun _ => ⟨rfl, rfl, rfl, rfl⟩

theorem roB_cells (b : Blk) : (roB b).cells = b.cells := by
  unfold roB Blk.cells
  cases b.body <;> rfl

theorem roB_noMap (b : Blk) (l : List (Int × C1)) : (roB b).body ≠ .mp l := by
  unfold roB
  cases b.body <;> intro h <;> cases h

theorem roH_get {hp : List Blk} {i : Nat} {b : Blk} (h : (roH hp)[i]? = some b) : ∃ b0, hp[i]? = some b0 ∧ b = roB b0 := by
  unfold roH at h
  rw [List.getElem?_map, Option.map_eq_some_iff] at h
  obtain ⟨b0, h1, h2⟩ := h
  exact ⟨b0, h1, h2.symm⟩

theorem addOwn_get {E : Env} {S : Nat → Prop} {i : Nat} {e : EB} (h : (E.map (addOwn S))[i]? = some e) : ∃ e0, E[i]? = some e0 ∧ e = addOwn S e0 := by
  rw [List.getElem?_map, Option.map_eq_some_iff] at h
  obtain ⟨b0, h1, h2⟩ := h
  exact ⟨b0, h1, h2.symm⟩

/-- A walk from here on that writes nothing that is there. -/
theorem RH.roS {B : Nat} {w0 : World} {E : Env} {hp : List Blk} {w : World} (h : RH B w0 E hp w) {S2 : Nat → Prop} (hs1 : ∀ b, S2 b → b < w.heap.size) (hs2 : ∀ (j : Nat) (e : EB) (b q : Nat) (cs : List C1), E[j]? = some e → e.fz b q cs → ¬ S2 b) : RH w.heap.size w (E.map (addOwn fun b => ownS E hp b ∨ S2 b)) (roH hp) w where
  below := .refl _ _
  base := Nat.le_refl _
  laid := h.laidW
  len := by simp [roH, h.len]
  blk := fun i b e hi he hl => by
    obtain ⟨b0, hi0, rfl⟩ := roH_get hi
    obtain ⟨e0, he0, rfl⟩ := addOwn_get he
    obtain ⟨c, fz, h1, h2, h3, h4, h5⟩ := h.blk i b0 e0 hi0 he0 hl
    exact ⟨c, fz, h1, h2, (fun hf => by cases hf), ⟨by rw [roB_cells]; exact h4.1, fun _ hf => by cases hf⟩, by rw [roB_cells]; exact (SameE.add E _).RCs h5⟩
  inj := fun i j bi bj ei ej hij h1 h2 h3 h4 h5 h6 h7 => by
    obtain ⟨b0, hi0, rfl⟩ := roH_get h1
    cases h7
  frz := by
    refine ⟨fun j e b q cs he hz => ?_, fun j e b he ho => ?_⟩
    · obtain ⟨e0, he0, rfl⟩ := addOwn_get he
      obtain ⟨⟨c, t, z, h1, h2, h3, h4⟩, h5, h6⟩ := h.frz.1 j e0 b q cs he0 hz
      refine ⟨⟨c, t, z, h1, h2, (SameE.add E _).RCs h3, h4⟩, fun i bi ei hi hei hl hro => ?_, fun i ei hei ho => ?_⟩
      · obtain ⟨b0, hi0, rfl⟩ := roH_get hi
        cases hro
      · obtain ⟨e1, he1, rfl⟩ := addOwn_get hei
        rcases ho with ho | ⟨i', bi, ei, g1, g2, g3, g4, g5⟩ | ho
        · exact h6 i e1 he1 ho
        · exact h5 i' bi ei g1 g2 g3 g4 g5
        · exact hs2 j e0 b q cs he0 hz ho
    · obtain ⟨e0, he0, rfl⟩ := addOwn_get he
      rcases ho with ho | ⟨i', bi, ei, g1, g2, g3, g4, g5⟩ | ho
      rotate_right
      · exact hs1 b ho
      · exact Nat.lt_of_lt_of_le (h.frz.2 j e0 b he0 ho) h.size
      · obtain ⟨c, fz, k1, _⟩ := h.blk i' bi ei g1 g2 g3
        rw [← g5]
        exact (Array.getElem?_eq_some_iff.1 k1).1
  maps := .none fun i b l hi hb => by
    obtain ⟨b0, hi0, rfl⟩ := roH_get hi
    exact roB_noMap b0 l hb

theorem RH.ro {B : Nat} {w0 : World} {E : Env} {hp : List Blk} {w : World} (h : RH B w0 E hp w) : RH w.heap.size w (E.map (addOwn fun b => ownS E hp b ∨ False)) (roH hp) w :=
  h.roS (S2 := fun _ => False) (fun _ h => h.elim) fun _ _ _ _ _ _ _ h => h

def backE (E E' : Env) : Env := E ++ (E'.drop E.length).map noOwn

theorem backE_pre (E E' : Env) : E <+: backE E E' := List.prefix_append _ _

theorem backE_old {E E' : Env} {i : Nat} (hi : i < E.length) : (backE E E')[i]? = E[i]? := by
  unfold backE; rw [List.getElem?_append_left hi]
theorem backE_new {E E' : Env} {i : Nat} {e : EB} (hi : ¬ i < E.length) (h : (backE E E')[i]? = some e) : ∃ e0, E'[i]? = some e0 ∧ e = noOwn e0 := by
  unfold backE at h
  rw [List.getElem?_append_right (by omega), List.getElem?_map, Option.map_eq_some_iff, List.getElem?_drop] at h
  obtain ⟨b0, h1, h2⟩ := h
  rw [show E.length + (i - E.length) = i from by omega] at h1
  exact ⟨b0, h1, h2.symm⟩

theorem backE_same {E E' : Env} {S : Nat → Prop} (hp : E.map (addOwn S) <+: E') : SameE E' (backE E E') := by
  have hlen : E.length ≤ E'.length := by have := hp.length_le; simpa using this
  refine ⟨by simp [backE]; omega, fun i e he => ?_⟩
  by_cases hi : i < E.length
  · refine ⟨E[i], by rw [backE_old hi]; exact List.getElem?_eq_getElem hi, ?_⟩
    have h1 : (E.map (addOwn S))[i]? = some (addOwn S E[i]) := by simp [hi]
    have h2 := prefix_get hp h1
    rw [he] at h2
    obtain rfl := Option.some.inj h2
    exact ⟨rfl, rfl, rfl, rfl⟩
  · refine ⟨noOwn e, ?_, rfl, rfl, rfl, rfl⟩
    unfold backE
    rw [List.getElem?_append_right (by omega), List.getElem?_map, List.getElem?_drop, show E.length + (i - E.length) = i from by omega, he]
    rfl

theorem newB_live {b : Blk} (h : (newB b).live = true) : newB b = b ∧ b.ro = false := by
  unfold newB at h ⊢
  cases hb : b.ro with
  | true => rw [hb] at h; cases h
  | false => exact ⟨rfl, rfl⟩

theorem backH_new {hp hp2 : List Blk} {i : Nat} {b : Blk} (hi : ¬ i < hp.length) (h : (backH hp hp2)[i]? = some b) (hl : b.live = true) : hp2[i]? = some b ∧ b.ro = false := by
  unfold backH at h
  rw [List.getElem?_append_right (by omega), List.getElem?_map, Option.map_eq_some_iff, List.getElem?_drop] at h
  obtain ⟨b0, h1, h2⟩ := h
  rw [show hp.length + (i - hp.length) = i from by omega] at h1
  subst h2
  obtain ⟨h3, h4⟩ := newB_live hl
  rw [h3]
  exact ⟨h1, h4⟩
theorem backH_old {hp hp2 : List Blk} {i : Nat} (hi : i < hp.length) : (backH hp hp2)[i]? = hp[i]? := by
  unfold backH; rw [List.getElem?_append_left hi]

/-- Back from a walk that wrote nothing that was there. -/
theorem RH.back {B : Nat} {w0 : World} {E E' : Env} {hp hp2 : List Blk} {w w2 : World} (h : RH B w0 E hp w) {S : Nat → Prop} (hS : ∀ b, ownS E hp b → S b) (hpre : E.map (addOwn S) <+: E') (h2 : RH w.heap.size w E' hp2 w2) :
    RH B w0 (backE E E') (backH hp hp2) w2 := by
  have hsame := backE_same hpre
  have hlen : E.length ≤ E'.length := by have := hpre.length_le; simpa using this
  have keep : ∀ (k : Nat) (c : Array Value) (t : TypeId) (z : Nat × Nat), w.heap[k]? = some (.cells c t z) → w2.heap[k]? = some (.cells c t z) := fun k c t z hk => by
    rw [h2.below.block k (Array.getElem?_eq_some_iff.1 hk).1]; exact hk
  have old : ∀ (i : Nat) (b : Blk) (e : EB), i < hp.length → (backH hp hp2)[i]? = some b → (backE E E')[i]? = some e → hp[i]? = some b ∧ E[i]? = some e := fun i b e hi hb he => by
    rw [backH_old hi] at hb
    rw [backE_old (by rw [h.len]; exact hi)] at he
    exact ⟨hb, he⟩
  have new : ∀ (i : Nat) (b : Blk) (e : EB), ¬ i < hp.length → (backH hp hp2)[i]? = some b → b.live = true → (backE E E')[i]? = some e → hp2[i]? = some b ∧ b.ro = false ∧ ∃ e0, E'[i]? = some e0 ∧ e = noOwn e0 ∧ w.heap.size ≤ e0.b := fun i b e hi hb hl he => by
    obtain ⟨g1, g2⟩ := backH_new hi hb hl
    obtain ⟨e0, g3, g4⟩ := backE_new (by rw [h.len]; exact hi) he
    obtain ⟨c, fz, k1, k2, k3, _⟩ := h2.blk i b e0 g1 g3 hl
    exact ⟨g1, g2, e0, g3, g4, (k3 g2).2.1⟩
  have oldlt : ∀ (i : Nat) (b : Blk) (e : EB), hp[i]? = some b → E[i]? = some e → b.live = true → e.b < w.heap.size := fun i b e hi he hl => by
    obtain ⟨c, fz, k1, _⟩ := h.blk i b e hi he hl
    exact (Array.getElem?_eq_some_iff.1 k1).1
  have cut : ∀ (i : Nat) (b : Blk) (e : EB) (l : List (Int × C1)), (backH hp hp2)[i]? = some b → (backE E E')[i]? = some e → b.body = .mp l →
      (i < hp.length ∧ hp[i]? = some b ∧ E[i]? = some e ∧ e.b < w.heap.size) ∨ (¬ i < hp.length ∧ ∃ b0 e0, hp2[i]? = some b0 ∧ E'[i]? = some e0 ∧ b0.body = .mp l ∧ e0.b = e.b ∧ w.heap.size ≤ e.b) := fun i b e l hi he hb => by
    by_cases hlt : i < hp.length
    · obtain ⟨g1, g2⟩ := old i b e hlt hi he
      obtain ⟨_, es, cl, k2, _⟩ := h.maps.1 i b e l g1 g2 hb
      exact .inl ⟨hlt, g1, g2, (Array.getElem?_eq_some_iff.1 k2).1⟩
    · unfold backH at hi
      rw [List.getElem?_append_right (by omega), List.getElem?_map, Option.map_eq_some_iff, List.getElem?_drop] at hi
      obtain ⟨b0, h1, h3⟩ := hi
      rw [show hp.length + (i - hp.length) = i from by omega] at h1
      obtain ⟨e0, g3, rfl⟩ := backE_new (by rw [h.len]; exact hlt) he
      have hb0 : b0.body = .mp l := by
        rw [← h3] at hb
        unfold newB at hb
        split at hb <;> exact hb
      exact .inr ⟨hlt, b0, e0, h1, g3, hb0, rfl, (h2.maps.1 i b0 e0 l h1 g3 hb0).1⟩
  refine ⟨h.below.trans (h2.below.mono h.size), h.base, h.laid, ?_, ?_, ?_, ?_, fun i b e l hi he hb => ?_, fun i j bi bj ei ej l m hij h3 h4 h5 h6 h7 h8 => ?_⟩
  · have := h2.len
    simp only [backE, backH, List.length_append, List.length_map, List.length_drop, h.len]
    omega
  · intro i b e hi he hl
    by_cases hlt : i < hp.length
    · obtain ⟨g1, g2⟩ := old i b e hlt hi he
      obtain ⟨c, fz, k1, k2, k3, k4, k5⟩ := h.blk i b e g1 g2 hl
      exact ⟨c, fz, keep _ _ _ _ k1, k2, k3, k4, k5.mono (backE_pre E E')⟩
    · obtain ⟨g1, g2, e0, g3, rfl, g5⟩ := new i b e hlt hi hl he
      obtain ⟨c, fz, k1, k2, k3, k4, k5⟩ := h2.blk i b e0 g1 g3 hl
      exact ⟨c, fz, k1, k2, fun hf => ⟨(k3 hf).1, Nat.le_trans h.size (k3 hf).2.1, (k3 hf).2.2⟩, k4, hsame.RCs k5⟩
  · intro i j bi bj ei ej hij h3 h4 h5 h6 h7 h8 h9
    by_cases hi : i < hp.length
    · obtain ⟨g1, g2⟩ := old i bi ei hi h3 h5
      by_cases hj : j < hp.length
      · obtain ⟨g3, g4⟩ := old j bj ej hj h4 h6
        exact h.inj i j bi bj ei ej hij g1 g3 g2 g4 h7 h8 h9
      · obtain ⟨g3, g4, e0, g5, rfl, g7⟩ := new j bj ej hj h4 h8 h6
        have := oldlt i bi ei g1 g2 h7
        have e1 : (noOwn e0).b = e0.b := rfl
        omega
    · obtain ⟨g1, g2, e1, g5, rfl, g7⟩ := new i bi ei hi h3 h7 h5
      by_cases hj : j < hp.length
      · obtain ⟨g3, g4⟩ := old j bj ej hj h4 h6
        have := oldlt j bj ej g3 g4 h8
        have e2 : (noOwn e1).b = e1.b := rfl
        omega
      · obtain ⟨g3, g4, e0, g6, rfl, g8⟩ := new j bj ej hj h4 h8 h6
        exact h2.inj i j bi bj e1 e0 hij g1 g3 g5 g6 h7 h8 h9
  · refine ⟨fun j e b q cs he hz => ?_, fun j e b he ho => ?_⟩
    · obtain ⟨j', e', he', hz'⟩ : ∃ (j' : Nat) (e' : EB), E'[j']? = some e' ∧ e'.fz b q cs := by
        obtain ⟨e', h1, _, _, _, h4⟩ := hsame.symm.2 j e he
        exact ⟨j, e', h1, by rw [h4]; exact hz⟩
      obtain ⟨⟨c, t, z, h3, h4, h5, h6⟩, h7, h8⟩ := h2.frz.1 j' e' b q cs he' hz'
      refine ⟨⟨c, t, z, h3, h4, hsame.RCs h5, h6⟩, fun i bi ei hi hei hl hro => ?_, fun i ei hei ho => ?_⟩
      · by_cases hlt : i < hp.length
        · obtain ⟨g1, g2⟩ := old i bi ei hlt hi hei
          intro heq
          refine h8 i (addOwn S ei) (prefix_get hpre (by rw [List.getElem?_map, g2]; rfl)) (.inr (hS _ ⟨i, bi, ei, g1, g2, hl, hro, heq⟩))
        · obtain ⟨g1, g2, e0, g5, rfl, g7⟩ := new i bi ei hlt hi hl hei
          exact h7 i bi e0 g1 g5 hl g2
      · by_cases hlt : i < E.length
        · rw [backE_old hlt] at hei
          exact h8 i (addOwn S ei) (prefix_get hpre (by rw [List.getElem?_map, hei]; rfl)) (.inl ho)
        · obtain ⟨e0, _, rfl⟩ := backE_new hlt hei
          exact ho
    · by_cases hlt : j < E.length
      · rw [backE_old hlt] at he
        exact h.frz.2 j e b he ho
      · obtain ⟨e0, _, rfl⟩ := backE_new hlt he
        exact ho.elim
  · rcases cut i b e l hi he hb with ⟨_, g1, g2, g3⟩ | ⟨_, b0, e0, g1, g2, g3, g4, g5⟩
    · obtain ⟨k1, es, cl, k2, k3, k4⟩ := h.maps.1 i b e l g1 g2 hb
      exact ⟨k1, es, cl, by rw [h2.below.block _ g3]; exact k2, k3, fun j p en a1 a2 => ⟨(k4 j p en a1 a2).1, (k4 j p en a1 a2).2.mono (backE_pre E E')⟩⟩
    · obtain ⟨k1, es, cl, k2, k3, k4⟩ := h2.maps.1 i b0 e0 l g1 g2 g3
      exact ⟨Nat.le_trans h.size g5, es, cl, by rw [← g4]; exact k2, k3, fun j p en a1 a2 => ⟨(k4 j p en a1 a2).1, hsame.RC (k4 j p en a1 a2).2⟩⟩
  · rcases cut i bi ei l h3 h5 h7 with ⟨_, a1, a2, a3⟩ | ⟨_, b0, e0, a1, a2, a3, a4, a5⟩ <;> rcases cut j bj ej m h4 h6 h8 with ⟨_, b1, b2, b3⟩ | ⟨_, b0', e0', b1, b2, b3, b4, b5⟩
    · exact h.maps.2 i j bi bj ei ej l m hij a1 b1 a2 b2 h7 h8
    · omega
    · omega
    · have := h2.maps.2 i j b0 b0' e0 e0' l m hij a1 b1 a2 b2 a3 b3
      rwa [a4, b4] at this

/-! ### operations whose value does not hang on the world -/
set_option linter.unusedSimpArgs false in
theorem seen_lt {P : Program} {w : World} {at_ : Addr} {u : TypeId} {k : Addr} {b : Bool} {r : Array Value × TypeId × (Nat × Nat) × Nat × Value × List (Nat × Nat × List UInt8)} (h : w.seen P at_ u k b = .ok r) : at_.block < w.heap.size := by
  by_cases hlt : at_.block < w.heap.size
  · exact hlt
  · exfalso
    have hn : w.heap[at_.block]? = none := Array.getElem?_eq_none (by omega)
    unfold World.seen at h
    simp only [hn] at h
    simp only [bind, Except.bind, MonadExcept.throw, throwThe, MonadExceptOf.throw, pure, Except.pure] at h
    repeat' split at h
    all_goals first | cases h | skip
theorem far_stable {P : Program} {w w' : World} {ad : Addr} {m : Bool} {r : Value × List Addr} (hb : Below w.heap.size w w') (h : w.farLoad P ad m = .ok r) : w'.farLoad P ad m = .ok r := by
  unfold World.farLoad at h ⊢
  split at h
  · rename_i at_ u hh
    rw [hb.block _ (Array.getElem?_eq_some_iff.1 hh).1, hh]
    simp only
    have key : w'.viewLoad P at_ u ad m = w.viewLoad P at_ u ad m := by
      unfold World.viewLoad
      cases hs : w.seen P at_ u ad m with
      | error e =>
        exfalso
        unfold World.viewLoad at h
        rw [hs] at h
        cases h
      | ok r =>
        have : w'.seen P at_ u ad m = w.seen P at_ u ad m := by
          unfold World.seen
          rw [hb.block _ (seen_lt hs)]
        rw [this, hs]
    rw [key]
    exact h
  · cases h

section late
variable {P : Program} {T : Tab} {ops : List Oper}

theorem silentT_sil (hT : TabOk P T) {C : World → Prop} {o : Oper} (hs : silentT T o = true) : o.guard = none ∧ ∀ (a : Act) (V : Value → Prop) (w : World), C w → atS P o a C V → ∃ v, V v ∧ Sil P o v a := by
  unfold silentT at hs
  split at hs
  · rename_i hg
    refine ⟨hg, fun a V w hC hat => ?_⟩
    have h0 := hat.1 w hC
    split at hs
    · rename_i x ho
      have hr : ∀ w, (execOp a.eval o).run P w = .ok (.value (a.eval x)) w := fun w => by simp only [execOp, ho, Sem.run_pure]
      rw [hr w] at h0
      exact ⟨_, h0.2, hg, hr⟩
    · rename_i s x f ho
      split at hs
      · rename_i ti hti
        split at hs
        · rename_i fs hfs
          split at hs
          · rename_i fd hfd
            split at hs
            · rename_i fi hfi
              obtain ⟨hu, _⟩ := hT.ty s ti hti
              rw [hfs] at hu
              obtain ⟨hu2, inf, hinf, hsz, _⟩ := hT.ty fd.type fi hfi
              have hne : ¬ fi.size = 0 := by simpa [beq_eq] using hs
              by_cases hp : ∃ ad, a.eval x = .pointer (some ad)
              · obtain ⟨ad, hx⟩ := hp
                have hr : ∀ w, (execOp a.eval o).run P w = .ok (.value (.pointer (some (ad.add fd.offset)))) w := fun w => by
                  simp only [execOp, ho, hx, Instr.fieldAt, Instr.sureAddr, Sem.run_bind, run_underlying hu, Result.andThen_ok, hfd, Sem.run_pure, fieldPlace, sizeOf_run hinf, hsz, if_neg hne]
                rw [hr w] at h0
                exact ⟨_, h0.2, hg, hr⟩
              · exfalso
                have hst : Instr.sureAddr (a.eval x) = stuck "an address expected (no nilCheck in front?)" := by
                  unfold Instr.sureAddr
                  split
                  · rename_i ad hx
                    exact absurd ⟨ad, hx⟩ hp
                  · rfl
                simp only [execOp, ho, Instr.fieldAt, hst, Sem.run_bind, run_underlying hu, Result.andThen_ok, hfd] at h0
                exact h0
            · cases hs
          · cases hs
        · cases hs
      · cases hs
    · cases hs
  · cases hs

theorem loadOne_sil (hT : TabOk P T) {w1 : World} {o : Oper} (hs : loadOne T o = true) : o.guard = none ∧ ∀ (a : Act) (V : Value → Prop) (w : World), Below w1.heap.size w1 w → atS P o a (Below w1.heap.size w1) V → ∃ v, V v ∧ SilL P (Below w1.heap.size w1) o v a := by
  unfold loadOne at hs
  split at hs
  · rename_i hg
    refine ⟨hg, fun a V w hC hat => ?_⟩
    have h0 := hat.1 w1 (Below.refl _ _)
    split at hs
    · rename_i t x ho
      split at hs
      · rename_i ti hti
        obtain ⟨hu, _⟩ := hT.ty t ti hti
        have hagg : isAggD ti.desc = false := by simpa using hs
        by_cases hp : ∃ ad, a.eval x = .pointer (some ad)
        · obtain ⟨ad, hx⟩ := hp
          cases hc : w1.cell? ad with
          | none =>
            cases hf : w1.farLoad P ad (Mode.plain == Mode.atomic) with
            | error e =>
              exfalso
              simp [execOp, ho, hx, Instr.loadAt, Instr.sureAddr, loadVar, isAgg_run hu, hagg, hc, hf, uponS] at h0
            | ok r =>
              have hr : ∀ w, Below w1.heap.size w1 w → (execOp a.eval o).run P w = .ok (.value r.1) w := fun w hw => by
                have hf' := far_stable hw hf
                have hlt : ad.block < w1.heap.size := by
                  unfold World.farLoad at hf
                  split at hf
                  · rename_i h; exact (Array.getElem?_eq_some_iff.1 h).1
                  · cases hf
                have hc' : w.cell? ad = none := by
                  unfold World.cell? at hc ⊢
                  rw [hw.block _ hlt]
                  exact hc
                simp [execOp, ho, hx, Instr.loadAt, Instr.sureAddr, loadVar, isAgg_run hu, hagg, hc', hf']
              rw [hr w1 (Below.refl _ _)] at h0
              exact ⟨r.1, h0.2, hg, fun w hw => hr w hw⟩
          | some v =>
            have hr : ∀ w, Below w1.heap.size w1 w → (execOp a.eval o).run P w = .ok (.value v) w := fun w hw => by
              have hlt : ad.block < w1.heap.size := by
                unfold World.cell? at hc
                split at hc
                · rename_i h; exact (Array.getElem?_eq_some_iff.1 h).1
                · cases hc
              have hc' : w.cell? ad = some v := by
                unfold World.cell? at hc ⊢
                rw [hw.block _ hlt]
                exact hc
              simp [execOp, ho, hx, Instr.loadAt, Instr.sureAddr, loadVar, isAgg_run hu, hagg, hc']
            rw [hr w1 (Below.refl _ _)] at h0
            exact ⟨v, h0.2, hg, fun w hw => hr w hw⟩
        · exfalso
          have hst : Instr.sureAddr (a.eval x) = stuck "an address expected (no nilCheck in front?)" := by
            unfold Instr.sureAddr
            split
            · rename_i ad hx
              exact absurd ⟨ad, hx⟩ hp
            · rfl
          simp only [execOp, ho, Instr.loadAt, hst, Sem.run_bind] at h0
          exact h0
      · cases hs
    · cases hs
  · cases hs

theorem aloneOp_spec {i : Nat} {o : Oper} (h : aloneOp ops i o = true) : ∀ j oj, ops[j]? = some oj → j ≠ i → (∀ e ∈ oj.after, Region.binds .any e = true → e.on ≠ i) → o.apart ops.toArray oj = true := fun j oj hj hji hno => by
  have h4 := List.all_eq_true.1 h j (List.mem_range.2 (List.getElem?_eq_some_iff.1 hj).1)
  rw [hj] at h4
  simp only [Bool.or_eq_true, beq_eq, decide_eq_true_eq] at h4
  rcases h4 with (h4 | h4) | h4
  · exact absurd h4 hji
  · obtain ⟨o2, ho2, e, he, hb, hon⟩ := waitsOn_spec h4
    rw [hj] at ho2
    obtain rfl := Option.some.inj ho2
    exact absurd hon (hno e he hb)
  · exact h4

theorem looseT_ok (hT : TabOk P T) (C : World → Prop) : Loose P C ops (looseT T ops) := fun k hk => by
  unfold looseT at hk
  split at hk
  · rename_i o ho
    simp only [Bool.and_eq_true] at hk
    obtain ⟨⟨h1, h2⟩, h3⟩ := hk
    obtain ⟨hg, hs⟩ := silentT_sil hT (C := C) h1
    exact ⟨o, ho, hg, fun e he => by have := (Array.all_eq_true_iff_forall_mem.1 h2) e he; simpa using this, hs, aloneOp_spec h3⟩
  · cases hk

theorem aloneL_spec {n i : Nat} {o : Oper} (h : aloneL T ops n i o = true) : ∀ j oj, ops[j]? = some oj → j ≠ i → (looseT T ops j && Nat.blt j n) = false → (∀ e ∈ oj.after, Region.binds .any e = true → e.on ≠ i) → o.apart ops.toArray oj = true := fun j oj hj hji hlj hno => by
  have h4 := List.all_eq_true.1 h j (List.mem_range.2 (List.getElem?_eq_some_iff.1 hj).1)
  rw [hj, hlj] at h4
  simp only [Bool.or_eq_true, beq_eq, decide_eq_true_eq] at h4
  rcases h4 with ((h4 | h4) | h4) | h4
  · exact absurd h4 hji
  · obtain ⟨o2, ho2, e, he, hb, hon⟩ := waitsOn_spec h4
    rw [hj] at ho2
    obtain rfl := Option.some.inj ho2
    exact absurd hon (hno e he hb)
  · cases h4
  · exact h4

end late
end Sm
