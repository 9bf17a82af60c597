/-
  What is proved here: a region that draws its order may be walked in the order of the text, where its head is quiet and each operation behind the head waits for all ahead of it. what the abstract evaluator says of a piece of code, and of a call, holds of the model's run. A text to be imported.
-/
import Derived.Test.YtgpbpgbokfdbeaaDoorSimNf
namespace Sm
open Go Go.RowKit

section draw
variable {P : Program} {Q : Exit → Act → World → Prop} {C : World → Prop}

theorem backEdges_spec {ops : List Oper} (h : backEdges ops = true) {j : Nat} {o : Oper} (ho : ops[j]? = some o) : ∀ e ∈ o.after, Region.binds .any e = true → e.on < j := by
  have hlt := (List.getElem?_eq_some_iff.1 ho).1
  have := List.all_eq_true.1 h j (List.mem_range.2 hlt)
  rw [ho] at this
  simp only at this
  intro e he hb
  have h1 := (Array.all_eq_true_iff_forall_mem.1 this) e he
  simpa [hb] using h1

theorem waitsOn_spec {ops : List Oper} {j i : Nat} (h : waitsOn ops j i = true) : ∃ o, ops[j]? = some o ∧ ∃ e ∈ o.after, Region.binds .any e = true ∧ e.on = i := by
  unfold waitsOn at h
  split at h
  · rename_i o ho
    obtain ⟨e, he, hb⟩ := Array.any_eq_true'.1 h
    simp only [Bool.and_eq_true, beq_iff_eq] at hb
    exact ⟨o, ho, e, he, hb.1, hb.2⟩
  · cases h

theorem tailWaits_prev {ops : List Oper} {n : Nat} (h : tailWaits ops n = true) {j : Nat} (hn : n < j) {o : Oper} (ho : ops[j]? = some o) : ∃ e ∈ o.after, Region.binds .any e = true ∧ e.on = j - 1 := by
  have hlt := (List.getElem?_eq_some_iff.1 ho).1
  unfold tailWaits at h
  simp only [Bool.and_eq_true] at h
  have h1 := List.all_eq_true.1 h.1 (j - n - 1) (List.mem_range.2 (by omega))
  rw [show n + (j - n - 1) + 1 = j from by omega, show n + (j - n - 1) = j - 1 from by omega] at h1
  obtain ⟨o', ho', h2⟩ := waitsOn_spec h1
  rw [ho] at ho'
  obtain rfl := Option.some.inj ho'
  exact h2

theorem tailWaits_head {ops : List Oper} {n : Nat} (h : tailWaits ops n = true) (hn : n < ops.length) {k : Nat} (hk : k < n) : ∃ i, k < i ∧ i ≤ n ∧ ∃ o, ops[i]? = some o ∧ ∃ e ∈ o.after, Region.binds .any e = true ∧ e.on = k := by
  unfold tailWaits at h
  simp only [Bool.and_eq_true, Bool.or_eq_true, beq_eq, decide_eq_true_eq] at h
  rcases h.2 with h2 | h2
  · omega
  · have h3 := List.all_eq_true.1 h2 k (List.mem_range.2 hk)
    obtain ⟨d, hd, h4⟩ := List.any_eq_true.1 h3
    have hd := List.mem_range.1 hd
    exact ⟨k + 1 + d, by omega, by omega, waitsOn_spec h4⟩

theorem guardBack_spec {ops : List Oper} (h : guardBack ops = true) {j : Nat} {o : Oper} (ho : ops[j]? = some o) {i : Nat} {b : Bool} (hg : o.guard = some (i, b)) : i < j := by
  have hlt := (List.getElem?_eq_some_iff.1 ho).1
  have := List.all_eq_true.1 h j (List.mem_range.2 hlt)
  rw [ho] at this
  simp only [hg, decide_eq_true_eq] at this
  exact this

theorem getD_both' {listed : Array Bool} {i : Nat} (h : listed.getD i true = false) : listed.getD i false = false := by
  rcases Nat.lt_or_ge i listed.size with h' | h'
  · simp [h'] at h ⊢; exact h
  · simp [Array.getElem?_eq_none h'] at h

theorem listed_cases {listed : Array Bool} {i : Nat} (h : ¬ listed.getD i true = false) : i < listed.size → listed.getD i false = true := by
  intro hlt
  simp [hlt] at h ⊢
  exact h

/-- The tail: one order alone. -/
theorem tail_any {ops : List Oper} {n : Nat} (hB : backEdges ops = true) (hW : tailWaits ops n = true) : ∀ (rest : List Oper) (j f : Nat) (listed : Array Bool) (a : Act) (w : World),
    n ≤ j → j + rest.length = ops.length → (∀ k, rest[k]? = ops[j + k]?) → listed.size = ops.length → (∀ i, i < j → listed.getD i false = true) → (∀ i, j ≤ i → i < ops.length → listed.getD i true = false) →
    wpList P ops.toArray Q rest a w → wpAny P .any ops.toArray Q (rest.length + f) listed a w
  | [], j, f, listed, a, w, hn, hl, hr, hs, h1, h2, h => by
    refine wpAny_done ?_ h _
    apply List.eq_nil_iff_forall_not_mem.2
    intro i hi
    obtain ⟨g, o, ho, _⟩ := mem_ready.1 hi
    have hlt : i < ops.length := by
      have := (Array.getElem?_eq_some_iff.1 ho).1
      simpa using this
    simp at hl
    have := h1 i (by omega)
    rw [getD_both' g] at this
    cases this
  | o :: rest, j, f, listed, a, w, hn, hl, hr, hs, h1, h2, h => by
    simp only [List.length_cons] at hl
    have ho : ops[j]? = some o := by have := hr 0; simpa using this.symm
    have hready : Region.ready .any ops.toArray listed = [j] := by
      have mem : ∀ i, i ∈ Region.ready .any ops.toArray listed ↔ i = j := by
        intro i
        constructor
        · intro hi
          obtain ⟨g, o', ho', hall⟩ := mem_ready.1 hi
          have hlt : i < ops.length := by
            have := (Array.getElem?_eq_some_iff.1 ho').1
            simpa using this
          by_cases hij : i < j
          · have := h1 i hij
            rw [getD_both' g] at this
            cases this
          · by_cases hji : j < i
            · obtain ⟨e, he, hb, hon⟩ := tailWaits_prev hW (show n < i by omega) (by simpa using ho')
              have h3 := hall e he hb
              rw [hon, getD_both' (h2 (i - 1) (by omega) (by omega))] at h3
              cases h3
            · omega
        · rintro rfl
          exact mem_ready.2 ⟨h2 _ (Nat.le_refl _) (by omega), o, by simpa using ho, fun e he hb => h1 e.on (backEdges_spec hB ho e he hb)⟩
      have hsub : (Region.ready .any ops.toArray listed).Nodup := by
        unfold Region.ready
        exact List.Pairwise.filter _ List.nodup_range
      match hq : Region.ready .any ops.toArray listed, hsub, mem with
      | [], _, mem => exact absurd ((mem j).2 rfl) (by simp)
      | [x], _, mem => rw [(mem x).1 (by simp)]
      | x :: y :: l, hnd, mem =>
        have e1 := (mem x).1 (by simp)
        have e2 := (mem y).1 (by simp)
        rw [e1, e2] at hnd
        simp at hnd
    rw [show (o :: rest).length + f = (rest.length + f) + 1 from by simp; omega]
    refine wpAny_all hready (by simp) fun i hi => ?_
    simp only [List.mem_singleton] at hi
    subst hi
    have ih : ∀ a w, wpList P ops.toArray Q rest a w → wpAny P .any ops.toArray Q (rest.length + f) (listed.setIfInBounds i true) a w := fun a w h' => by
      refine tail_any hB hW rest (i + 1) f (listed.setIfInBounds i true) a w (by omega) (by omega) (fun k => by have := hr (k + 1); simpa [Nat.add_assoc, Nat.add_comm 1 k] using this) (by simpa using hs) (fun k hk => ?_) (fun k hk hk2 => ?_) h'
      · by_cases hki : k = i
        · subst hki; simp [hs]; omega
        · exact getD_set_true (h1 k (by omega))
      · rw [getD_set_ne true (by omega)]
        exact h2 k (by omega) hk2
    unfold wpOp
    rw [show ops.toArray[i]? = some o from by simpa using ho]
    simp only
    unfold wpList at h
    split
    · rename_i hw
      rw [if_pos hw] at h
      exact h.imp (fun h => Oper.wp_mono ih h) id
    · rename_i hw
      rw [if_neg hw] at h
      exact ih _ _ h

theorem yielded_take {ops : List Oper} {n j : Nat} (hj : j < n) (tmps : Array Value) : yielded (ops.take n).toArray tmps j = yielded ops.toArray tmps j := by
  unfold yielded
  simp [hj]

theorem wanted_take {ops : List Oper} {n i : Nat} (hG : guardBack ops = true) (hi : i < n) {o : Oper} (ho : ops[i]? = some o) (tmps : Array Value) :
    Region.wanted o (yielded (ops.take n).toArray tmps) = Region.wanted o (yielded ops.toArray tmps) := by
  unfold Region.wanted
  cases hg : o.guard with
  | none => rfl
  | some p =>
    obtain ⟨j, b⟩ := p
    have := guardBack_spec hG ho hg
    simp only [yielded_take (ops := ops) (show j < n by omega)]

/-- The head, in whatever order; then the tail. -/
theorem head_any {ops : List Oper} {n : Nat} (hn : n ≤ ops.length) (hB : backEdges ops = true) (hG : guardBack ops = true) (hW : tailWaits ops n = true) {K : Act → Prop}
    (hK : ∀ a w, C w → K a → wpList P ops.toArray Q (ops.drop n) a w) : ∀ (f : Nat) (lh : Array Bool) (a : Act) (w : World), lh.size = n → C w →
    (∀ i o, i < n → ops[i]? = some o → lh.getD i false = true → ∀ e ∈ o.after, Region.binds .any e = true → lh.getD e.on false = true) →
    wpAnyQ P .any (ops.take n).toArray C K f lh a → wpAny P .any ops.toArray Q ((ops.drop n).length + f) (lh ++ Array.replicate (ops.length - n) false) a w := by
  -- what stands ready
  have hhead : ∀ (lh : Array Bool), lh.size = n → ∀ i, i ∈ Region.ready .any (ops.take n).toArray lh → i < n ∧ i ∈ Region.ready .any ops.toArray (lh ++ Array.replicate (ops.length - n) false) := by
    intro lh hs i hi
    obtain ⟨g, o, ho, hall⟩ := mem_ready.1 hi
    have hlt : i < n := by
      have := (Array.getElem?_eq_some_iff.1 ho).1
      simp at this; omega
    have ho' : ops[i]? = some o := by simpa [List.getElem?_take, hlt] using ho
    refine ⟨hlt, mem_ready.2 ⟨?_, o, by simpa using ho', fun e he hb => ?_⟩⟩
    · rw [Array.getD_eq_getD_getElem?, Array.getElem?_append_left (by omega)]
      rw [Array.getD_eq_getD_getElem?] at g
      exact g
    · have h1 := hall e he hb
      have h2 := backEdges_spec hB ho' e he hb
      rw [Array.getD_eq_getD_getElem?, Array.getElem?_append_left (by omega)]
      rw [Array.getD_eq_getD_getElem?] at h1
      exact h1
  have hall : ∀ (lh : Array Bool), lh.size = n → Region.ready .any (ops.take n).toArray lh = [] → ∀ i, i < n → lh.getD i false = true := by
    intro lh hs hr i
    induction i using Nat.strongRecOn with
    | _ i ih =>
      intro hi
      by_cases hu : lh.getD i true = false
      · exfalso
        have ho : ops[i]? = some (ops[i]'(by omega)) := List.getElem?_eq_getElem _
        have : i ∈ Region.ready .any (ops.take n).toArray lh := mem_ready.2 ⟨hu, ops[i]'(by omega), by simpa only [List.getElem?_toArray, List.getElem?_take, if_pos hi] using ho, fun e he hb => ih e.on (backEdges_spec hB ho e he hb) (by have := backEdges_spec hB ho e he hb; omega)⟩
        rw [hr] at this
        cases this
      · exact listed_cases hu (by omega)
  have htail : ∀ (lh : Array Bool), lh.size = n → (∀ i o, i < n → ops[i]? = some o → lh.getD i false = true → ∀ e ∈ o.after, Region.binds .any e = true → lh.getD e.on false = true) → ∀ i, i ∈ Region.ready .any ops.toArray (lh ++ Array.replicate (ops.length - n) false) → (¬ ∀ k, k < n → lh.getD k false = true) → i ∈ Region.ready .any (ops.take n).toArray lh := by
    intro lh hs hcl i hi hnot
    obtain ⟨g, o, ho, hal⟩ := mem_ready.1 hi
    have hlt0 : i < ops.length := by
      have := (Array.getElem?_eq_some_iff.1 ho).1
      simpa using this
    have ho' : ops[i]? = some o := by simpa using ho
    by_cases hlt : i < n
    · refine mem_ready.2 ⟨?_, o, by simpa [List.getElem?_take, hlt] using ho, fun e he hb => ?_⟩
      · rw [Array.getD_eq_getD_getElem?, Array.getElem?_append_left (by omega)] at g
        rw [Array.getD_eq_getD_getElem?]
        exact g
      · have h1 := hal e he hb
        have h2 := backEdges_spec hB ho' e he hb
        rw [Array.getD_eq_getD_getElem?, Array.getElem?_append_left (by omega)] at h1
        rw [Array.getD_eq_getD_getElem?]
        exact h1
    · exfalso
      by_cases hin : n < i
      · obtain ⟨e, he, hb, hon⟩ := tailWaits_prev hW hin ho'
        have h1 := hal e he hb
        rw [hon, Array.getD_eq_getD_getElem?, Array.getElem?_append_right (by omega), Array.getElem?_replicate, if_pos (by omega)] at h1
        cases h1
      · obtain rfl : i = n := by omega
        have key : ∀ d k, k + d + 1 = i → lh.getD k false = true := by
          intro d
          induction d using Nat.strongRecOn with
          | _ d ih =>
            intro k hkd
            obtain ⟨m, hm1, hm2, o2, ho2, e, he, hb, hon⟩ := tailWaits_head hW hlt0 (show k < i by omega)
            by_cases hmi : m = i
            · subst hmi
              rw [ho'] at ho2
              obtain rfl := Option.some.inj ho2
              have h1 := hal e he hb
              rw [hon, Array.getD_eq_getD_getElem?, Array.getElem?_append_left (by omega)] at h1
              rw [Array.getD_eq_getD_getElem?]
              exact h1
            · have h3 := ih (i - m - 1) (by omega) m (by omega)
              have h4 := hcl m o2 (by omega) ho2 h3 e he hb
              rwa [hon] at h4
        exact hnot fun k hk => key (i - k - 1) k (by omega)
  have base : ∀ (f : Nat) (lh : Array Bool) (a : Act) (w : World), lh.size = n → C w → Region.ready .any (ops.take n).toArray lh = [] → K a → wpAny P .any ops.toArray Q ((ops.drop n).length + f) (lh ++ Array.replicate (ops.length - n) false) a w := by
    intro f lh a w hs hC hr hk
    have hl := hall lh hs hr
    refine tail_any hB hW (ops.drop n) n f _ a w (Nat.le_refl _) (by simp; omega) (fun k => by simp [List.getElem?_drop]) (by simp; omega) (fun i hi => ?_) (fun i hi hi2 => ?_) (hK a w hC hk)
    · have := hl i hi
      rw [Array.getD_eq_getD_getElem?, Array.getElem?_append_left (by omega)]
      rw [Array.getD_eq_getD_getElem?] at this
      exact this
    · rw [Array.getD_eq_getD_getElem?, Array.getElem?_append_right (by omega)]
      rw [Array.getElem?_replicate, if_pos (by omega)]
      rfl
  intro f
  induction f with
  | zero => intro lh a w hs hC _ h; exact base 0 lh a w hs hC h.1 h.2
  | succ f ih =>
    intro lh a w hs hC hcl h
    by_cases hr : Region.ready .any (ops.take n).toArray lh = []
    · exact base (f + 1) lh a w hs hC hr (h.1 hr)
    · have hnot : ¬ ∀ k, k < n → lh.getD k false = true := by
        intro hall'
        apply hr
        apply List.eq_nil_iff_forall_not_mem.2
        intro i hi
        obtain ⟨g, _⟩ := mem_ready.1 hi
        have := hall' i (hhead lh hs i hi).1
        rw [getD_both' g] at this
        cases this
      refine ⟨fun h0 => ?_, fun i hi => ?_⟩
      · exfalso
        obtain ⟨i, hi⟩ := List.exists_mem_of_ne_nil _ hr
        have := (hhead lh hs i hi).2
        rw [h0] at this
        cases this
      · have hi' := htail lh hs hcl i hi hnot
        have hcl' : ∀ k o, k < n → ops[k]? = some o → (lh.setIfInBounds i true).getD k false = true → ∀ e ∈ o.after, Region.binds .any e = true → (lh.setIfInBounds i true).getD e.on false = true := by
          intro k o hk ho hkt e he hb
          by_cases hki : k = i
          · subst hki
            obtain ⟨_, o2, ho2, hal⟩ := mem_ready.1 hi'
            have ho2' : ops[k]? = some o2 := by simpa only [List.getElem?_toArray, List.getElem?_take, if_pos hk] using ho2
            rw [ho] at ho2'
            obtain rfl := Option.some.inj ho2'
            exact getD_set_true (hal e he hb)
          · rw [getD_set_ne false (fun e => hki e.symm)] at hkt
            exact getD_set_true (hcl k o hk ho hkt e he hb)
        have hlt := (hhead lh hs i hi').1
        have h1 := h.2 i hi'
        have hset : (lh ++ Array.replicate (ops.length - n) false).setIfInBounds i true = lh.setIfInBounds i true ++ Array.replicate (ops.length - n) false := by
          apply Array.ext'
          simp only [Array.toList_setIfInBounds, Array.toList_append]
          rw [List.set_append_left _ _ (by simp; omega)]
        have h2 := wpOp_of_qOp (Q' := Q) (K' := fun a' w' => wpAny P .any ops.toArray Q ((ops.drop n).length + f) ((lh ++ Array.replicate (ops.length - n) false).setIfInBounds i true) a' w') hC (fun a' w' hw' hk => by rw [hset]; exact ih _ a' w' (by simpa using hs) hw' hcl' hk) h1
        have ho : ops[i]? = some (ops[i]'(by omega)) := List.getElem?_eq_getElem _
        unfold wpOp at h2 ⊢
        rw [show (ops.take n).toArray[i]? = some (ops[i]'(by omega)) from by simp [hlt]] at h2
        rw [show ops.toArray[i]? = some (ops[i]'(by omega)) from by simp]
        simp only at h2 ⊢
        rw [wanted_take hG hlt ho] at h2
        exact h2

/-- A region that draws its order: the head quiet in a class of worlds, walked in the order of the text; then the tail. -/
theorem wp_draw {id : Nat} {ops : List Oper} {n : Nat} {a : Act} {w : World} (hm : P.follows .mixedOrders = true) (hn : n ≤ ops.length) (hL : Region.lexB .any (ops.take n).toArray = true)
    (hB : backEdges ops = true) (hG : guardBack ops = true) (hW : tailWaits ops n = true) (hC : C { w with drawn := w.drawn + 1 })
    (h : wpQuiet P (ops.take n).toArray C (fun a' => ∀ w', C w' → wpList P ops.toArray Q (ops.drop n) a' w') (ops.take n) a) : (Code.region id ops.toArray true).wp P Q a w := by
  simp only [Region.lexB, Bool.and_eq_true] at hL
  refine wp_region_any hm ?_
  have h1 := wpAnyQ_lex (C := C) (md := .any) hL.1 (ops.take n) 0 (Array.replicate (ops.take n).toArray.size false) a (by simp) (by simpa using hL.2) h
  have h2 := head_any (Q := Q) hn hB hG hW (fun a' w' hC' hk => hk w' hC') (ops.take n).length _ a { w with drawn := w.drawn + 1 } (by simp; omega) hC (fun i o hi ho ht => by
    exfalso
    rw [Array.getD_eq_getD_getElem?, Array.getElem?_replicate] at ht
    split at ht <;> cases ht) h1
  have e1 : (ops.drop n).length + (ops.take n).length = ops.toArray.size := by simp; omega
  have e2 : Array.replicate (ops.take n).toArray.size false ++ Array.replicate (ops.length - n) false = Array.replicate ops.toArray.size false := by
    rw [Array.replicate_append_replicate]
    congr 1
    simp; omega
  rw [e1, e2] at h2
  exact h2

/-- Nothing is said of any way out but the end. -/
def NoExit (Q : Exit → Act → World → Prop) : Prop := ∀ e a w, Q e a w → e = .normal

/-- An operation that yields one value in every world. -/
def Sil (P : Program) (o : Oper) (v : Value) (a : Act) : Prop := o.guard = none ∧ ∀ w, (execOp a.eval o).run P w = .ok (.value v) w

theorem Sil.keep {ops : Array Oper} {o : Oper} {v : Value} {a : Act} (hs : ∀ cs b, o.op ≠ .select cs b) (h : Sil P o v a) {y : Option Tmp} (u : Value) (h3 : ∀ d, y = some d → d ∉ o.looksAt ops) : Sil P o v (a.put y u) :=
  ⟨h.1, fun w => by rw [execOp_put (ops := ops) o hs a y u h3]; exact h.2 w⟩

theorem Sil.defers {o : Oper} {v : Value} {a : Act} (h : Sil P o v a) (ds : List Deferred) : Sil P o v { a with defers := ds } := ⟨h.1, fun w => h.2 w⟩

theorem wpOp_sil {ops : Array Oper} {j : Nat} {oi oj : Oper} {v : Value} (hj : ops[j]? = some oj) (hap : oi.apart ops oj = true)
    (hsi : ∀ cs b, oi.op ≠ .select cs b) (hsj : ∀ cs b, oj.op ≠ .select cs b) {K : Act → World → Prop} {a : Act} {w : World} (hQ : NoExit Q)
    (hy : Sil P oi v a) (h : wpOp P ops Q j K (a.put oi.dst v) w) :
    wpOp P ops Q j (fun a' w' => Sil P oi v a' ∧ K (a'.put oi.dst v) w') a w := by
  obtain ⟨h1, h2, h3⟩ := Oper.apart_spec hap
  have noOut : ¬ LetsOut Q := fun ⟨a, w, h⟩ => by have := hQ _ _ _ h; cases this
  have fin : ∀ (u : Value) (w' : World), K ((a.put oi.dst v).put oj.dst u) w' → Sil P oi v (a.put oj.dst u) ∧ K ((a.put oj.dst u).put oi.dst v) w' := fun u w' hk =>
    ⟨hy.keep hsi u h3, by rw [← Act.put_comm a v u h2]; exact hk⟩
  unfold wpOp at *
  simp only [hj] at *
  rw [wanted_put oj a oi.dst v h1] at h
  split
  · rename_i hw
    rw [if_pos hw] at h
    rcases h with h | ⟨_, h⟩
    · left
      unfold Oper.wp at *
      rw [execOp_put oj hsj a oi.dst v h1] at h
      generalize (execOp a.eval oj).run P w = r at *
      cases r with
      | ok n w' =>
        cases n <;> simp only [Oper.upon] at h ⊢
        case value u => exact fin u w' h
        case skip => exact fin _ w' h
        case defer d =>
          refine ⟨(hy.defers (d :: a.defers)).keep hsi _ h3, ?_⟩
          rw [Act.put_defers] at h
          rw [← Act.put_comm _ v _ h2]
          exact h
        case enter f args =>
          refine Calls.mono h fun e w'' he => ?_
          cases e with
          | returned u => exact fin u w'' he
          | panicked ch => have := hQ _ _ _ he; cases this
          | outgrown => exact absurd he noOut
        case row f args => exact Rows.mono h fun u w'' he => fin u w'' he
      | halt x w' =>
        cases x <;> simp only [Oper.upon] at h ⊢
        have := hQ _ _ _ h
        cases this
    · exact absurd h noOut
  · rename_i hw
    rw [if_neg hw] at h
    exact fin _ w h

/-- A loose operation that stands ready may be carried out first. -/
theorem any_first {ops : Array Oper} {i : Nat} {oi : Oper} {v : Value} (hQ : NoExit Q) (hi : ops[i]? = some oi) (hsel : ∀ (j : Nat) (o : Oper) cs b, ops[j]? = some o → o.op ≠ .select cs b)
    (hfree : ∀ j oj, ops[j]? = some oj → j ≠ i → (∀ e ∈ oj.after, Region.binds .any e = true → e.on ≠ i) → oi.apart ops oj = true) :
    ∀ (fuel : Nat) (listed : Array Bool) (a : Act) (w : World), i ∈ Region.ready .any ops listed → Sil P oi v a →
      wpAny P .any ops Q fuel (listed.setIfInBounds i true) (a.put oi.dst v) w → wpAny P .any ops Q (fuel + 1) listed a w := by
  have first : ∀ (K : Act → World → Prop) (a : Act) (w : World), Sil P oi v a → K (a.put oi.dst v) w → wpOp P ops Q i K a w := fun K a w hy H => by
    unfold wpOp
    simp only [hi]
    rw [if_pos (by simp [Region.wanted, hy.1])]
    left
    unfold Oper.wp
    rw [hy.2 w]
    exact H
  intro fuel
  induction fuel with
  | zero =>
    intro listed a w hr hy H
    refine ⟨fun h => (by rw [h] at hr; cases hr), fun j hj => ?_⟩
    by_cases hji : j = i
    · subst hji; exact first _ a w hy H
    · have := ready_mono hj hji
      rw [H.1] at this
      cases this
  | succ fuel ih =>
    intro listed a w hr hy H
    refine ⟨fun h => (by rw [h] at hr; cases hr), fun j hj => ?_⟩
    by_cases hji : j = i
    · subst hji; exact first _ a w hy H
    · have h1 := H.2 j (ready_mono hj hji)
      obtain ⟨hjun, oj, hoj, hall⟩ := mem_ready.1 hj
      have hnot : ∀ e ∈ oj.after, Region.binds .any e = true → e.on ≠ i := fun e he hb heq => by
        have h1 := hall e he hb
        have h0 := (mem_ready.1 hr).1
        rw [heq] at h1
        rcases Nat.lt_or_ge i listed.size with h' | h'
        · simp [h'] at h0 h1; rw [h0] at h1; cases h1
        · simp [Array.getElem?_eq_none h'] at h1
      have h2 := wpOp_sil hoj (hfree j oj hoj hji hnot) (fun cs b => hsel i oi cs b hi) (fun cs b => hsel j oj cs b hoj) hQ hy h1
      refine wpOp_mono (fun a' w' h3 => ih (listed.setIfInBounds j true) a' w' (ready_mono hr (Ne.symm hji)) h3.1 ?_) h2
      rw [Array.setIfInBounds_comm _ _ hji]
      exact h3.2

/-- What is asked of more ways out is asked of these. -/
theorem any_exits {ops : Array Oper} {Q' : Exit → Act → World → Prop} (hQ : NoExit Q) (hQQ : ∀ a w, Q .normal a w → Q' .normal a w) : ∀ (fuel : Nat) (listed : Array Bool) (a : Act) (w : World),
    wpAny P .any ops Q fuel listed a w → wpAny P .any ops Q' fuel listed a w := by
  have noOut : ¬ LetsOut Q := fun ⟨a, w, h⟩ => by have := hQ _ _ _ h; cases this
  have op : ∀ (i : Nat) (K K' : Act → World → Prop) (a : Act) (w : World), (∀ a w, K a w → K' a w) → wpOp P ops Q i K a w → wpOp P ops Q' i K' a w := fun i K K' a w hK h => by
    unfold wpOp at *
    split
    · rename_i ho; simp only [ho] at h; exact hK _ _ h
    · rename_i o ho
      simp only [ho] at h
      split
      · rename_i hw
        rw [if_pos hw] at h
        rcases h with h | ⟨_, h⟩
        · left
          unfold Oper.wp at *
          generalize (execOp a.eval o).run P w = r at *
          cases r with
          | ok n w' =>
            cases n <;> simp only [Oper.upon] at h ⊢
            case value u => exact hK _ _ h
            case skip => exact hK _ _ h
            case defer d => exact hK _ _ h
            case enter f args =>
              refine Calls.mono h fun e w'' he => ?_
              cases e with
              | returned u => exact hK _ _ he
              | panicked ch => have := hQ _ _ _ he; cases this
              | outgrown => exact absurd he noOut
            case row f args => exact Rows.mono h fun u w'' he => hK _ _ he
          | halt x w' =>
            cases x <;> simp only [Oper.upon] at h ⊢
            have := hQ _ _ _ h
            cases this
        · exact absurd h noOut
      · rename_i hw
        rw [if_neg hw] at h
        exact hK _ _ h
  intro fuel
  induction fuel with
  | zero => intro listed a w h; exact ⟨h.1, hQQ _ _ h.2⟩
  | succ fuel ih => intro listed a w h; exact ⟨fun h0 => hQQ _ _ (h.1 h0), fun i hi => op i _ _ a w (fun a w => ih _ a w) (h.2 i hi)⟩

theorem tailWaits2_prev {ops : List Oper} {n : Nat} (h : tailWaits2 ops n = true) {j : Nat} (hn : n < j) {o : Oper} (ho : ops[j]? = some o) : ∃ e ∈ o.after, Region.binds .any e = true ∧ e.on = j - 1 := by
  have hlt := (List.getElem?_eq_some_iff.1 ho).1
  unfold tailWaits2 at h
  simp only [Bool.and_eq_true] at h
  have h1 := List.all_eq_true.1 h.1 (j - n - 1) (List.mem_range.2 (by omega))
  rw [show n + (j - n - 1) + 1 = j from by omega, show n + (j - n - 1) = j - 1 from by omega] at h1
  obtain ⟨o', ho', h2⟩ := waitsOn_spec h1
  rw [ho] at ho'
  obtain rfl := Option.some.inj ho'
  exact h2

theorem looseOp_spec {ops : List Oper} {i : Nat} (h : looseOp ops i = true) : ∃ o, ops[i]? = some o ∧ silentOp o = true ∧ (∀ e ∈ o.after, Region.binds .any e = false) ∧
    ∀ j oj, ops[j]? = some oj → j ≠ i → (∀ e ∈ oj.after, Region.binds .any e = true → e.on ≠ i) → o.apart ops.toArray oj = true := by
  unfold looseOp at h
  split at h
  · rename_i o ho
    simp only [Bool.and_eq_true] at h
    obtain ⟨⟨h1, h2⟩, h3⟩ := h
    refine ⟨o, ho, h1, fun e he => by have := (Array.all_eq_true_iff_forall_mem.1 h2) e he; simpa using this, fun j oj hj hji hno => ?_⟩
    have h4 := List.all_eq_true.1 h3 j (List.mem_range.2 (List.getElem?_eq_some_iff.1 hj).1)
    rw [hj] at h4
    simp only [Bool.or_eq_true, beq_eq, decide_eq_true_eq] at h4
    rcases h4 with (h4 | h4) | h4
    · exact absurd h4 hji
    · obtain ⟨o2, ho2, e, he, hb, hon⟩ := waitsOn_spec h4
      rw [hj] at ho2
      obtain rfl := Option.some.inj ho2
      exact absurd hon (hno e he hb)
    · exact h4
  · cases h

theorem tailWaits2_head {ops : List Oper} {n : Nat} (h : tailWaits2 ops n = true) (hn : n < ops.length) {k : Nat} (hk : k < n) : looseOp ops k = true ∨ ∃ i, k < i ∧ i ≤ n ∧ ∃ o, ops[i]? = some o ∧ ∃ e ∈ o.after, Region.binds .any e = true ∧ e.on = k := by
  unfold tailWaits2 at h
  simp only [Bool.and_eq_true, Bool.or_eq_true, beq_eq, decide_eq_true_eq] at h
  rcases h.2 with h2 | h2
  · omega
  · have h3 := List.all_eq_true.1 h2 k (List.mem_range.2 hk)
    simp only [Bool.or_eq_true] at h3
    rcases h3 with h3 | h3
    · exact .inl h3
    · obtain ⟨d, hd, h4⟩ := List.any_eq_true.1 h3
      have hd := List.mem_range.1 hd
      exact .inr ⟨k + 1 + d, by omega, by omega, waitsOn_spec h4⟩

theorem silent_val {o : Oper} {a : Act} {C : World → Prop} {v : Value} (hs : silentOp o = true) {w : World} (hq : o.quietAt P a C w v) : Sil P o v a := by
  unfold silentOp at hs
  split at hs
  · rename_i x hop hg
    refine ⟨hg, fun w' => ?_⟩
    unfold Oper.quietAt at hq
    simp only [execOp, hop, Sem.run_pure, Oper.quietUpon] at hq ⊢
    rw [hq.2]
  · cases hs

/-- The tail: one order alone. -/
theorem tail_any2 {ops : List Oper} {n : Nat} (hB : backEdges ops = true) (hW : tailWaits2 ops n = true) : ∀ (rest : List Oper) (j f : Nat) (listed : Array Bool) (a : Act) (w : World),
    n ≤ j → j + rest.length = ops.length → (∀ k, rest[k]? = ops[j + k]?) → listed.size = ops.length → (∀ i, i < j → listed.getD i false = true) → (∀ i, j ≤ i → i < ops.length → listed.getD i true = false) →
    wpList P ops.toArray Q rest a w → wpAny P .any ops.toArray Q (rest.length + f) listed a w
  | [], j, f, listed, a, w, hn, hl, hr, hs, h1, h2, h => by
    refine wpAny_done ?_ h _
    apply List.eq_nil_iff_forall_not_mem.2
    intro i hi
    obtain ⟨g, o, ho, _⟩ := mem_ready.1 hi
    have hlt : i < ops.length := by
      have := (Array.getElem?_eq_some_iff.1 ho).1
      simpa using this
    simp at hl
    have := h1 i (by omega)
    rw [getD_both' g] at this
    cases this
  | o :: rest, j, f, listed, a, w, hn, hl, hr, hs, h1, h2, h => by
    simp only [List.length_cons] at hl
    have ho : ops[j]? = some o := by have := hr 0; simpa using this.symm
    have hready : Region.ready .any ops.toArray listed = [j] := by
      have mem : ∀ i, i ∈ Region.ready .any ops.toArray listed ↔ i = j := by
        intro i
        constructor
        · intro hi
          obtain ⟨g, o', ho', hall⟩ := mem_ready.1 hi
          have hlt : i < ops.length := by
            have := (Array.getElem?_eq_some_iff.1 ho').1
            simpa using this
          by_cases hij : i < j
          · have := h1 i hij
            rw [getD_both' g] at this
            cases this
          · by_cases hji : j < i
            · obtain ⟨e, he, hb, hon⟩ := tailWaits2_prev hW (show n < i by omega) (by simpa using ho')
              have h3 := hall e he hb
              rw [hon, getD_both' (h2 (i - 1) (by omega) (by omega))] at h3
              cases h3
            · omega
        · rintro rfl
          exact mem_ready.2 ⟨h2 _ (Nat.le_refl _) (by omega), o, by simpa using ho, fun e he hb => h1 e.on (backEdges_spec hB ho e he hb)⟩
      have hsub : (Region.ready .any ops.toArray listed).Nodup := by
        unfold Region.ready
        exact List.Pairwise.filter _ List.nodup_range
      match hq : Region.ready .any ops.toArray listed, hsub, mem with
      | [], _, mem => exact absurd ((mem j).2 rfl) (by simp)
      | [x], _, mem => rw [(mem x).1 (by simp)]
      | x :: y :: l, hnd, mem =>
        have e1 := (mem x).1 (by simp)
        have e2 := (mem y).1 (by simp)
        rw [e1, e2] at hnd
        simp at hnd
    rw [show (o :: rest).length + f = (rest.length + f) + 1 from by simp; omega]
    refine wpAny_all hready (by simp) fun i hi => ?_
    simp only [List.mem_singleton] at hi
    subst hi
    have ih : ∀ a w, wpList P ops.toArray Q rest a w → wpAny P .any ops.toArray Q (rest.length + f) (listed.setIfInBounds i true) a w := fun a w h' => by
      refine tail_any2 hB hW rest (i + 1) f (listed.setIfInBounds i true) a w (by omega) (by omega) (fun k => by have := hr (k + 1); simpa [Nat.add_assoc, Nat.add_comm 1 k] using this) (by simpa using hs) (fun k hk => ?_) (fun k hk hk2 => ?_) h'
      · by_cases hki : k = i
        · subst hki; simp [hs]; omega
        · exact getD_set_true (h1 k (by omega))
      · rw [getD_set_ne true (by omega)]
        exact h2 k (by omega) hk2
    unfold wpOp
    rw [show ops.toArray[i]? = some o from by simpa using ho]
    simp only
    unfold wpList at h
    split
    · rename_i hw
      rw [if_pos hw] at h
      exact h.imp (fun h => Oper.wp_mono ih h) id
    · rename_i hw
      rw [if_neg hw] at h
      exact ih _ _ h

/-- The head, in whatever order; then the tail. -/
theorem head_any2 {ops : List Oper} {n : Nat} (hn : n ≤ ops.length) (hB : backEdges ops = true) (hG : guardBack ops = true) (hW : tailWaits2 ops n = true) (hQ : NoExit Q) (hS : Region.noSelect ops.toArray = true) {K : Act → Prop}
    (hK : ∀ a w, C w → K a → wpList P ops.toArray Q (ops.drop n) a w) : ∀ (f : Nat) (lh : Array Bool) (a : Act) (w : World), lh.size = n → C w →
    (∀ i o, i < n → ops[i]? = some o → lh.getD i false = true → ∀ e ∈ o.after, Region.binds .any e = true → lh.getD e.on false = true) →
    wpAnyQ P .any (ops.take n).toArray C K f lh a → wpAny P .any ops.toArray Q ((ops.drop n).length + f) (lh ++ Array.replicate (ops.length - n) false) a w := by
  -- what stands ready
  have hhead : ∀ (lh : Array Bool), lh.size = n → ∀ i, i ∈ Region.ready .any (ops.take n).toArray lh → i < n ∧ i ∈ Region.ready .any ops.toArray (lh ++ Array.replicate (ops.length - n) false) := by
    intro lh hs i hi
    obtain ⟨g, o, ho, hall⟩ := mem_ready.1 hi
    have hlt : i < n := by
      have := (Array.getElem?_eq_some_iff.1 ho).1
      simp at this; omega
    have ho' : ops[i]? = some o := by simpa [List.getElem?_take, hlt] using ho
    refine ⟨hlt, mem_ready.2 ⟨?_, o, by simpa using ho', fun e he hb => ?_⟩⟩
    · rw [Array.getD_eq_getD_getElem?, Array.getElem?_append_left (by omega)]
      rw [Array.getD_eq_getD_getElem?] at g
      exact g
    · have h1 := hall e he hb
      have h2 := backEdges_spec hB ho' e he hb
      rw [Array.getD_eq_getD_getElem?, Array.getElem?_append_left (by omega)]
      rw [Array.getD_eq_getD_getElem?] at h1
      exact h1
  have hall : ∀ (lh : Array Bool), lh.size = n → Region.ready .any (ops.take n).toArray lh = [] → ∀ i, i < n → lh.getD i false = true := by
    intro lh hs hr i
    induction i using Nat.strongRecOn with
    | _ i ih =>
      intro hi
      by_cases hu : lh.getD i true = false
      · exfalso
        have ho : ops[i]? = some (ops[i]'(by omega)) := List.getElem?_eq_getElem _
        have : i ∈ Region.ready .any (ops.take n).toArray lh := mem_ready.2 ⟨hu, ops[i]'(by omega), by simpa only [List.getElem?_toArray, List.getElem?_take, if_pos hi] using ho, fun e he hb => ih e.on (backEdges_spec hB ho e he hb) (by have := backEdges_spec hB ho e he hb; omega)⟩
        rw [hr] at this
        cases this
      · exact listed_cases hu (by omega)
  have htail : ∀ (lh : Array Bool), lh.size = n → (∀ i o, i < n → ops[i]? = some o → lh.getD i false = true → ∀ e ∈ o.after, Region.binds .any e = true → lh.getD e.on false = true) → ∀ i, i ∈ Region.ready .any ops.toArray (lh ++ Array.replicate (ops.length - n) false) → (∀ k, k < n → looseOp ops k = true → lh.getD k false = true) → (¬ ∀ k, k < n → lh.getD k false = true) → i ∈ Region.ready .any (ops.take n).toArray lh := by
    intro lh hs hcl i hi hloose hnot
    obtain ⟨g, o, ho, hal⟩ := mem_ready.1 hi
    have hlt0 : i < ops.length := by
      have := (Array.getElem?_eq_some_iff.1 ho).1
      simpa using this
    have ho' : ops[i]? = some o := by simpa using ho
    by_cases hlt : i < n
    · refine mem_ready.2 ⟨?_, o, by simpa [List.getElem?_take, hlt] using ho, fun e he hb => ?_⟩
      · rw [Array.getD_eq_getD_getElem?, Array.getElem?_append_left (by omega)] at g
        rw [Array.getD_eq_getD_getElem?]
        exact g
      · have h1 := hal e he hb
        have h2 := backEdges_spec hB ho' e he hb
        rw [Array.getD_eq_getD_getElem?, Array.getElem?_append_left (by omega)] at h1
        rw [Array.getD_eq_getD_getElem?]
        exact h1
    · exfalso
      by_cases hin : n < i
      · obtain ⟨e, he, hb, hon⟩ := tailWaits2_prev hW hin ho'
        have h1 := hal e he hb
        rw [hon, Array.getD_eq_getD_getElem?, Array.getElem?_append_right (by omega), Array.getElem?_replicate, if_pos (by omega)] at h1
        cases h1
      · obtain rfl : i = n := by omega
        have key : ∀ d k, k + d + 1 = i → lh.getD k false = true := by
          intro d
          induction d using Nat.strongRecOn with
          | _ d ih =>
            intro k hkd
            rcases tailWaits2_head hW hlt0 (show k < i by omega) with hlo | ⟨m, hm1, hm2, o2, ho2, e, he, hb, hon⟩
            · exact hloose k (by omega) hlo
            by_cases hmi : m = i
            · subst hmi
              rw [ho'] at ho2
              obtain rfl := Option.some.inj ho2
              have h1 := hal e he hb
              rw [hon, Array.getD_eq_getD_getElem?, Array.getElem?_append_left (by omega)] at h1
              rw [Array.getD_eq_getD_getElem?]
              exact h1
            · have h3 := ih (i - m - 1) (by omega) m (by omega)
              have h4 := hcl m o2 (by omega) ho2 h3 e he hb
              rwa [hon] at h4
        exact hnot fun k hk => key (i - k - 1) k (by omega)
  have base : ∀ (f : Nat) (lh : Array Bool) (a : Act) (w : World), lh.size = n → C w → Region.ready .any (ops.take n).toArray lh = [] → K a → wpAny P .any ops.toArray Q ((ops.drop n).length + f) (lh ++ Array.replicate (ops.length - n) false) a w := by
    intro f lh a w hs hC hr hk
    have hl := hall lh hs hr
    refine tail_any2 hB hW (ops.drop n) n f _ a w (Nat.le_refl _) (by simp; omega) (fun k => by simp [List.getElem?_drop]) (by simp; omega) (fun i hi => ?_) (fun i hi hi2 => ?_) (hK a w hC hk)
    · have := hl i hi
      rw [Array.getD_eq_getD_getElem?, Array.getElem?_append_left (by omega)]
      rw [Array.getD_eq_getD_getElem?] at this
      exact this
    · rw [Array.getD_eq_getD_getElem?, Array.getElem?_append_right (by omega)]
      rw [Array.getElem?_replicate, if_pos (by omega)]
      rfl
  intro f
  induction f with
  | zero => intro lh a w hs hC _ h; exact base 0 lh a w hs hC h.1 h.2
  | succ f ih =>
    intro lh a w hs hC hcl h
    by_cases hr : Region.ready .any (ops.take n).toArray lh = []
    · exact base (f + 1) lh a w hs hC hr (h.1 hr)
    · have hnot : ¬ ∀ k, k < n → lh.getD k false = true := by
        intro hall'
        apply hr
        apply List.eq_nil_iff_forall_not_mem.2
        intro i hi
        obtain ⟨g, _⟩ := mem_ready.1 hi
        have := hall' i (hhead lh hs i hi).1
        rw [getD_both' g] at this
        cases this
      have hset : ∀ i, i < n → (lh ++ Array.replicate (ops.length - n) false).setIfInBounds i true = lh.setIfInBounds i true ++ Array.replicate (ops.length - n) false := fun i hlt => by
        apply Array.ext'
        simp only [Array.toList_setIfInBounds, Array.toList_append]
        rw [List.set_append_left _ _ (by simp; omega)]
      by_cases hlo : ∃ k, k < n ∧ looseOp ops k = true ∧ lh.getD k false = false
      · obtain ⟨i, hin, hli, hlf⟩ := hlo
        obtain ⟨o, ho, hsil, hna, hap⟩ := looseOp_spec hli
        have hrd : i ∈ Region.ready .any (ops.take n).toArray lh := mem_ready.2 ⟨by
          have hlt : i < lh.size := by omega
          simp [hlt] at hlf ⊢; exact hlf, o, by simpa only [List.getElem?_toArray, List.getElem?_take, if_pos hin] using ho, fun e he hb => by rw [hna e he] at hb; cases hb⟩
        have h1 := h.2 i hrd
        have hot : (ops.take n).toArray[i]? = some o := by simpa only [List.getElem?_toArray, List.getElem?_take, if_pos hin] using ho
        have hg : o.guard = none := by
          unfold silentOp at hsil
          split at hsil
          · assumption
          · cases hsil
        unfold qOp at h1
        rw [hot] at h1
        simp only at h1
        rw [if_pos (by simp [Region.wanted, hg])] at h1
        obtain ⟨v, hv1, hv2⟩ := h1
        have hsv := silent_val hsil (hv1 w hC)
        have hsel : ∀ (j : Nat) (o : Oper) cs b, ops.toArray[j]? = some o → o.op ≠ .select cs b := fun j o cs b hj => Region.noSelect_spec hS j o cs b hj
        have hcl' : ∀ k o', k < n → ops[k]? = some o' → (lh.setIfInBounds i true).getD k false = true → ∀ e ∈ o'.after, Region.binds .any e = true → (lh.setIfInBounds i true).getD e.on false = true := by
          intro k o' hk ho' hkt e he hb
          by_cases hki : k = i
          · subst hki
            rw [ho] at ho'
            obtain rfl := Option.some.inj ho'
            rw [hna e he] at hb
            cases hb
          · rw [getD_set_ne false (fun e => hki e.symm)] at hkt
            exact getD_set_true (hcl k o' hk ho' hkt e he hb)
        have hgo := ih _ (a.put o.dst v) w (by simpa using hs) hC hcl' hv2
        rw [← hset i hin] at hgo
        exact any_first hQ (by simpa using ho) hsel (fun j oj hj hji hno => hap j oj (by simpa using hj) hji hno) ((ops.drop n).length + f) _ a w (hhead lh hs i hrd).2 hsv hgo
      have hloose : ∀ k, k < n → looseOp ops k = true → lh.getD k false = true := fun k hk hl => by
        cases hh : lh.getD k false with
        | true => rfl
        | false => exact absurd ⟨k, hk, hl, hh⟩ hlo
      refine ⟨fun h0 => ?_, fun i hi => ?_⟩
      · exfalso
        obtain ⟨i, hi⟩ := List.exists_mem_of_ne_nil _ hr
        have := (hhead lh hs i hi).2
        rw [h0] at this
        cases this
      · have hi' := htail lh hs hcl i hi hloose hnot
        have hcl' : ∀ k o, k < n → ops[k]? = some o → (lh.setIfInBounds i true).getD k false = true → ∀ e ∈ o.after, Region.binds .any e = true → (lh.setIfInBounds i true).getD e.on false = true := by
          intro k o hk ho hkt e he hb
          by_cases hki : k = i
          · subst hki
            obtain ⟨_, o2, ho2, hal⟩ := mem_ready.1 hi'
            have ho2' : ops[k]? = some o2 := by simpa only [List.getElem?_toArray, List.getElem?_take, if_pos hk] using ho2
            rw [ho] at ho2'
            obtain rfl := Option.some.inj ho2'
            exact getD_set_true (hal e he hb)
          · rw [getD_set_ne false (fun e => hki e.symm)] at hkt
            exact getD_set_true (hcl k o hk ho hkt e he hb)
        have hlt := (hhead lh hs i hi').1
        have h1 := h.2 i hi'
        have h2 := wpOp_of_qOp (Q' := Q) (K' := fun a' w' => wpAny P .any ops.toArray Q ((ops.drop n).length + f) ((lh ++ Array.replicate (ops.length - n) false).setIfInBounds i true) a' w') hC (fun a' w' hw' hk => by rw [hset i hlt]; exact ih _ a' w' (by simpa using hs) hw' hcl' hk) h1
        have ho : ops[i]? = some (ops[i]'(by omega)) := List.getElem?_eq_getElem _
        unfold wpOp at h2 ⊢
        rw [show (ops.take n).toArray[i]? = some (ops[i]'(by omega)) from by simp [hlt]] at h2
        rw [show ops.toArray[i]? = some (ops[i]'(by omega)) from by simp]
        simp only at h2 ⊢
        rw [wanted_take hG hlt ho] at h2
        exact h2

/-- A region that draws its order: the head quiet in a class of worlds, walked in the order of the text; then the tail. -/
theorem wp_draw2 {id : Nat} {ops : List Oper} {n : Nat} {a : Act} {w : World} (hm : P.follows .mixedOrders = true) (hn : n ≤ ops.length) (hL : Region.lexB .any (ops.take n).toArray = true)
    (hB : backEdges ops = true) (hG : guardBack ops = true) (hW : tailWaits2 ops n = true) (hS : Region.noSelect ops.toArray = true) {Q0 : Exit → Act → World → Prop} (hQ0 : NoExit Q0) (hQQ : ∀ a w, Q0 .normal a w → Q .normal a w) (hC : C { w with drawn := w.drawn + 1 })
    (h : wpQuiet P (ops.take n).toArray C (fun a' => ∀ w', C w' → wpList P ops.toArray Q0 (ops.drop n) a' w') (ops.take n) a) : (Code.region id ops.toArray true).wp P Q a w := by
  simp only [Region.lexB, Bool.and_eq_true] at hL
  refine wp_region_any hm ?_
  have h1 := wpAnyQ_lex (C := C) (md := .any) hL.1 (ops.take n) 0 (Array.replicate (ops.take n).toArray.size false) a (by simp) (by simpa using hL.2) h
  have h2 := head_any2 (Q := Q0) hn hB hG hW hQ0 hS (fun a' w' hC' hk => hk w' hC') (ops.take n).length _ a { w with drawn := w.drawn + 1 } (by simp; omega) hC (fun i o hi ho ht => by
    exfalso
    rw [Array.getD_eq_getD_getElem?, Array.getElem?_replicate] at ht
    split at ht <;> cases ht) h1
  have e1 : (ops.drop n).length + (ops.take n).length = ops.toArray.size := by simp; omega
  have e2 : Array.replicate (ops.take n).toArray.size false ++ Array.replicate (ops.length - n) false = Array.replicate ops.toArray.size false := by
    rw [Array.replicate_append_replicate]
    congr 1
    simp; omega
  rw [e1, e2] at h2
  exact any_exits hQ0 hQQ _ _ _ _ h2

end draw
end Sm
namespace Sm
open Go Go.RowKit

def partV : Bool × List C1 → Option Value
  | (false, [c]) => c.toV
  | (true, cs) => (allV cs).map fun vs => .agg vs.toArray
  | _ => none

def allP : List (Bool × List C1) → Option (List Value)
  | [] => some []
  | p :: l => match partV p, allP l with
    | some v, some vs => some (v :: vs)
    | _, _ => none

/-- The model's value of one without memory, several results among them. -/
def AV.toW : AV → Option Value
  | .tup l => (allP l).map fun vs => .tuple vs.toArray
  | a => a.toV

theorem allP_spec : ∀ (ps : List (Bool × List C1)) (vs : List Value), allP ps = some vs → ps.length = vs.length ∧ ∀ (j : Nat) (p : Bool × List C1) (v : Value), ps[j]? = some p → vs[j]? = some v → partV p = some v
  | [], vs, h => by simp only [allP, Option.some.injEq] at h; subst h; simp
  | p :: l, vs, h => by
    simp only [allP] at h
    split at h
    · rename_i v ws hv hws
      simp only [Option.some.injEq] at h; subst h
      obtain ⟨h1, h2⟩ := allP_spec l ws hws
      refine ⟨by simp [h1], fun j c' v' hc hv' => ?_⟩
      cases j with
      | zero => simp at hc hv'; subst hc; subst hv'; exact hv
      | succ j => simp at hc hv'; exact h2 j c' v' hc hv'
    · cases h

theorem partV_RP {E : Env} {p : Bool × List C1} {v u : Value} (hv : partV p = some v) (h : RP E p u) : u = v := by
  obtain ⟨b, cs⟩ := p
  cases b with
  | false =>
    obtain ⟨c, rfl, hc⟩ := h
    exact toV_RC hv hc
  | true =>
    obtain ⟨vs, rfl, hc⟩ := h
    simp only [partV, Option.map_eq_some_iff] at hv
    obtain ⟨ws, hws, rfl⟩ := hv
    rw [toV_RCs hws hc]

theorem toW_RV {E : Env} {a : AV} {v u : Value} (hv : a.toW = some v) (h : RV E a u) : u = v := by
  cases a with
  | tup l =>
    simp only [AV.toW, Option.map_eq_some_iff] at hv
    obtain ⟨vs, hvs, rfl⟩ := hv
    obtain ⟨us, rfl, hl, hr⟩ := h
    obtain ⟨h1, h2⟩ := allP_spec l vs hvs
    congr 2
    apply List.ext_getElem?
    intro j
    by_cases hj : j < l.length
    · have hc : l[j]? = some l[j] := List.getElem?_eq_getElem hj
      have hu : us[j]? = some (us[j]'(by rw [← hl]; exact hj)) := List.getElem?_eq_getElem _
      have hw : vs[j]? = some (vs[j]'(by rw [← h1]; exact hj)) := List.getElem?_eq_getElem _
      rw [hu, hw, partV_RP (h2 j _ _ hc hw) (hr j _ _ hc hu)]
    · rw [List.getElem?_eq_none (by rw [← hl]; omega), List.getElem?_eq_none (by rw [← h1]; omega)]
  | one c => exact toV_RV (a := .one c) hv h
  | agg cs => exact toV_RV (a := .agg cs) hv h
  | undef => exact toV_RV (a := .undef) hv h
  | bad => simp [AV.toW, AV.toV] at hv

/-- Arguments stand for arguments. -/
def RA (E : Env) (args : List AV) (us : List Value) : Prop :=
  args.length = us.length ∧ ∀ (j : Nat) (v : AV) (u : Value), args[j]? = some v → us[j]? = some u → RV E v u

def Ex.to : Ex → Exit
  | .normal => .normal
  | .exit id => .exit id
  | .ret => .ret

/-- A loop, from the head of a round on. -/
def InLoop (P : Program) (c : Code) (Q : Exit → Act → World → Prop) (a : Act) (w : World) : Prop :=
  ∀ (b : Frame) (k : List Item) (cs : List Frame), ∃ e a' w', Q e a' w' ∧ Arrives P (lone (b.at a (.code c :: .inLoop c :: k)) cs w) b k cs e a' w'

theorem InLoop.loop {P : Program} {c : Code} {Q : Exit → Act → World → Prop} {a : Act} {w : World} (h : InLoop P c Q a w) : (Code.loop c).wp P Q a w := by
  intro b k cs
  obtain ⟨e, a', w', hq, harr⟩ := h b k cs
  exact ⟨e, a', w', hq, .of_steps (.one step_loop) harr⟩

theorem InLoop.round {P : Program} {c : Code} {Q : Exit → Act → World → Prop} {a : Act} {w : World} (h : c.wp P (Exit.then (InLoop P c Q) Q) a w) : InLoop P c Q a w := by
  intro b k cs
  obtain ⟨e, a₁, w₁, hq, harr⟩ := h b (.inLoop c :: k) cs
  cases e with
  | normal =>
    obtain ⟨e₂, a₂, w₂, hq₂, harr₂⟩ := hq b k cs
    exact ⟨e₂, a₂, w₂, hq₂, .of_steps (Steps.trans harr (.one step_inLoop)) harr₂⟩
  | exit id => exact ⟨_, a₁, w₁, hq, .pass (x := .inLoop c) rfl (fun _ _ => .inl (by simp)) harr⟩
  | goto l => exact ⟨_, a₁, w₁, hq, .pass (x := .inLoop c) rfl (fun _ _ => .inl (by simp)) harr⟩
  | ret => exact ⟨_, a₁, w₁, hq, .pass (x := .inLoop c) rfl (fun _ _ => .inl (by simp)) harr⟩
  | panic ch => exact ⟨_, a₁, w₁, hq, .pass (x := .inLoop c) rfl (fun _ _ => .inl (by simp)) harr⟩
  | outgrown => exact ⟨_, a₁, w₁, hq, .pass (x := .inLoop c) rfl (fun _ _ => .inl (by simp)) harr⟩

structure FnsOk (P : Program) (F : Fns) : Prop where
  pr : ∀ c, F.pr = some c → c = true
  pure : ∀ (f : FuncId) (args : List AV) (hp : List Blk) (v : AV), F.pure f args hp = some v →
    (∀ (vs : Array Value) (w : World), (callFunc f vs).run P w = .ok (.enter f vs) w) ∧
    ∃ u, v.toW = some u ∧ (∀ E, RV E v u) ∧
    ∀ (B : Nat) (w0 : World) (E : Env) (w : World) (us : List Value), RH B w0 E hp w → RA E args us →
      Calls P f us.toArray w fun e w' => e = .returned u ∧ Below w.heap.size w w'
  pre : ∀ (f : FuncId) (args : List AV) (hp : List Blk) (p : Prop) (v : AV), F.pre f args hp = some (p, v) → p →
    (∀ (vs : Array Value) (w : World), (callFunc f vs).run P w = .ok (.enter f vs) w) ∧
    ∃ u, v.toW = some u ∧ (∀ E, RV E v u) ∧
    ∀ (B : Nat) (w0 : World) (E : Env) (w : World) (us : List Value), RH B w0 E hp w → RA E args us →
      Calls P f us.toArray w fun e w' => e = .returned u ∧ Below w.heap.size w w'
  ext : ∀ (f : FuncId) (args : List AV) (p : Option Prop) (v : AV), F.ext f args = some (p, v) → (∀ q, p = some q → q) →
    ∃ u, (∀ E, RV E v u) ∧ ∀ (E : Env) (us : List Value), RA E args us → ∀ w, (callFunc f us.toArray).run P w = .ok (.value u) w
  gen : ∀ (f : FuncId) (args : List AV) (hp : List Blk) (v : AV) (hp' : List Blk), F.gen f args hp = some (v, hp') →
    (∀ (vs : Array Value) (w : World), (callFunc f vs).run P w = .ok (.enter f vs) w) ∧
    ∀ (B : Nat) (w0 : World) (E : Env) (w : World) (us : List Value), RH B w0 E hp w → RA E args us →
      Calls P f us.toArray w fun e w' => ∃ E' u, e = .returned u ∧ E <+: E' ∧ RV E' v u ∧ RH B w0 E' hp' w'
  gnp : ∀ (f : FuncId) (args : List AV) (hp : List Blk) (p : Prop) (v : AV) (hp' : List Blk), F.gnp f args hp = some (p, v, hp') → p →
    (∀ (vs : Array Value) (w : World), (callFunc f vs).run P w = .ok (.enter f vs) w) ∧
    ∀ (B : Nat) (w0 : World) (E : Env) (w : World) (us : List Value), RH B w0 E hp w → RA E args us →
      Calls P f us.toArray w fun e w' => ∃ E' u, e = .returned u ∧ E <+: E' ∧ RV E' v u ∧ RH B w0 E' hp' w'
  cal : ∀ (f : FuncId) (args : List AV) (hp : List Blk) (K : Post), F.cal f args hp K →
    (∀ (vs : Array Value) (w : World), (callFunc f vs).run P w = .ok (.enter f vs) w) ∧
    ∀ (B : Nat) (w0 : World) (E : Env) (w : World) (us : List Value), RH B w0 E hp w → RA E args us →
      Calls P f us.toArray w fun e w' => ∃ v hp' E' u, e = .returned u ∧ K v hp' ∧ E <+: E' ∧ RV E' v u ∧ RH B w0 E' hp' w'
  loops : ∀ (k : Nat) (c : Code) (g : Tm → List Blk → Option (Prop × Ex × Tm × List Blk)), F.loops k = some (c, g) → ∀ (tm : Tm) (hp : List Blk) (p : Prop) (x : Ex) (tm' : Tm) (hp' : List Blk), g tm hp = some (p, x, tm', hp') → p →
    ∀ (B : Nat) (w0 : World) (E : Env) (a : Act) (w : World) (Q : Exit → Act → World → Prop), RH B w0 E hp w → RT E tm a.tmps →
      (∀ E' a' w', E <+: E' → RT E' tm' a'.tmps → a'.defers = a.defers → RH B w0 E' hp' w' → Q x.to a' w') → InLoop P c Q a w

theorem FnsOk.quiet {P : Program} {F : Fns} (h : FnsOk P F) : FnsOk P F.quiet :=
  ⟨h.pr, h.pure, h.pre, h.ext, (fun f args hp v hp' e => by cases e), (fun f args hp p v hp' e => by cases e), (fun f args hp K e => False.elim e), h.loops⟩

theorem FnsOk.under {P : Program} {F : Fns} (h : FnsOk P F) : FnsOk P (F.under true) := by
  refine ⟨fun c hc => ?_, h.pure, h.pre, h.ext, (fun f args hp v hp' e => by cases e), (fun f args hp p v hp' e => by cases e), (fun f args hp K e => False.elim e), h.loops⟩
  simp only [Fns.under, Option.some.injEq] at hc
  subst hc
  split
  · rfl
  · rename_i c hc
    rw [h.pr c hc]
    rfl

section run
variable {P : Program} {T : Tab} {F : Fns} {B : Nat} {w0 : World} {E : Env} {hp : List Blk} {w : World} {a : Act} {tm : Tm}

theorem callee_spec {o : Oper} {f : FuncId} {xs : List Operand} (h : callee? o = some (f, xs)) (a : Act) : execOp a.eval o = callFunc f (xs.map a.eval).toArray := by
  unfold callee? at h
  split at h
  · rename_i c hc
    split at h
    · rename_i g hg
      simp only [Option.some.injEq, Prod.mk.injEq] at h
      obtain ⟨rfl, rfl⟩ := h
      have : (c.args.toList.map a.eval).toArray = #[] ++ c.args.map a.eval ++ #[] := by
        apply Array.ext'; simp
      rw [this]
      simp only [execOp, hc, resolve, hg, Act.eval, Deferred.ofValue, invoke]
      rfl
    · cases h
  · cases h

theorem args_RA (ht : RT E tm a.tmps) (xs : List Operand) : RA E (xs.map (evalO tm)) (xs.map a.eval) :=
  ⟨by simp, fun j v u h1 h2 => by
    simp only [List.getElem?_map, Option.map_eq_some_iff] at h1 h2
    obtain ⟨x, hx, rfl⟩ := h1
    obtain ⟨y, hy, rfl⟩ := h2
    rw [hx] at hy
    obtain rfl := Option.some.inj hy
    exact ht.eval x⟩

theorem calleeA_spec {tm : Tm} {o : Oper} {f : FuncId} {args : List AV} (h : calleeA tm o = some (f, args)) (ht : RT E tm a.tmps) : ∃ us, RA E args us ∧ execOp a.eval o = callFunc f us.toArray := by
  unfold calleeA at h
  split at h
  · rename_i g xs hc
    simp only [Option.some.injEq, Prod.mk.injEq] at h
    obtain ⟨rfl, rfl⟩ := h
    exact ⟨_, args_RA ht xs, callee_spec hc a⟩
  · split at h
    · rename_i c ho
      split at h
      · rename_i t hct
        split at h
        · rename_i g ps hg
          simp only [Option.some.injEq, Prod.mk.injEq] at h
          obtain ⟨rfl, rfl⟩ := h
          have hv := ht.eval (.tmp t)
          rw [show evalO tm (.tmp t) = getT tm t from rfl, hg] at hv
          obtain ⟨caps, hv, hl, hcaps⟩ := hv
          refine ⟨c.args.toList.map a.eval ++ caps, ⟨?_, fun j v u h1 h2 => ?_⟩, ?_⟩
          · simp [hl]
          · by_cases hj : j < c.args.toList.length
            · rw [List.getElem?_append_left (by simpa using hj)] at h1 h2
              exact (args_RA ht c.args.toList).2 j v u h1 h2
            · rw [List.getElem?_append_right (by simp at hj ⊢; omega)] at h1 h2
              simp only [List.length_map] at h1 h2
              rw [List.getElem?_map, Option.map_eq_some_iff] at h1
              obtain ⟨p, hp, rfl⟩ := h1
              exact hcaps _ p u hp h2
          · have e1 : (c.args.toList.map a.eval ++ caps).toArray = #[] ++ c.args.map a.eval ++ caps.toArray := by
              apply Array.ext'; simp
            rw [e1]
            simp only [execOp, ho, resolve, hct, hv, Deferred.ofValue, invoke]
            rfl
        · cases h
      · cases h
    · cases h

theorem calleeA_none {tm : Tm} {o : Oper} (h : calleeA tm o = none) : callee? o = none := by
  unfold calleeA at h
  split at h
  · cases h
  · assumption

/-- One operation. -/
theorem step_sound (hT : TabOk P T) (hF : FnsOk P F) (hh : RH B w0 E hp w) (ht : RT E tm a.tmps) (o : Oper) {K : Post} {next : Act → World → Prop} {Q : Exit → Act → World → Prop}
    (h : stepK P T F o tm hp K) (hk : ∀ v hp' E' u w', K v hp' → E <+: E' → RV E' v u → RH B w0 E' hp' w' → next (a.put o.dst u) w') : o.wp P a w next Q := by
  unfold Oper.wp
  unfold stepK at h
  split at h
  · rename_i f xs hc
    obtain ⟨us, hra, hex⟩ := calleeA_spec hc ht
    rw [hex]
    split at h
    · rename_i v hv
      obtain ⟨hcall, u, hu, hrv, hcalls⟩ := hF.pure f _ hp v hv
      rw [hcall]
      simp only [Oper.upon]
      refine (hcalls B w0 E w _ hh hra).mono ?_
      rintro e w' ⟨rfl, hb⟩
      exact hk v hp E u w' h (List.prefix_refl _) (hrv E) (hh.congr hb)
    · split at h
      · rename_i p v hv
        obtain ⟨hcall, u, hu, hrv, hcalls⟩ := hF.pre f _ hp p v hv h.1
        rw [hcall]
        simp only [Oper.upon]
        refine (hcalls B w0 E w _ hh hra).mono ?_
        rintro e w' ⟨rfl, hb⟩
        exact hk v hp E u w' h.2 (List.prefix_refl _) (hrv E) (hh.congr hb)
      split at h
      · rename_i p v hv
        obtain ⟨hp1, hK⟩ : (∀ q, p = some q → q) ∧ K v hp := by
          cases p with
          | none => exact ⟨(fun q e => by cases e), h⟩
          | some p => exact ⟨(fun q e => by cases e; exact h.1), h.2⟩
        obtain ⟨u, hrv, hrun⟩ := hF.ext f _ p v hv hp1
        rw [hrun E _ hra w]
        simp only [Oper.upon]
        exact hk v hp E u w hK (List.prefix_refl _) (hrv E) hh
      split at h
      · rename_i v hp' hv
        obtain ⟨hcall, hcalls⟩ := hF.gen f _ hp v hp' hv
        rw [hcall]
        simp only [Oper.upon]
        refine (hcalls B w0 E w _ hh hra).mono ?_
        rintro e w' ⟨E', u, rfl, hpre, hrv, hrh⟩
        exact hk v hp' E' u w' h hpre hrv hrh
      split at h
      · rename_i p v hp' hv
        obtain ⟨hcall, hcalls⟩ := hF.gnp f _ hp p v hp' hv h.1
        rw [hcall]
        simp only [Oper.upon]
        refine (hcalls B w0 E w _ hh hra).mono ?_
        rintro e w' ⟨E', u, rfl, hpre, hrv, hrh⟩
        exact hk v hp' E' u w' h.2 hpre hrv hrh
      · obtain ⟨hcall, hcalls⟩ := hF.cal f _ hp K h
        rw [hcall]
        simp only [Oper.upon]
        refine (hcalls B w0 E w _ hh hra).mono ?_
        rintro e w' ⟨v, hp', E', u, rfl, hk1, hpre, hrv, hrh⟩
        exact hk v hp' E' u w' hk1 hpre hrv hrh
  · rename_i hc
    have hc := calleeA_none hc
    obtain ⟨v, hp', E', u, w', hr, hK, hpre, hrv, hrh⟩ : Out K B w0 E ((execOp a.eval o).run P w) := by
      split at h
      · exact opK_sound hT hh ht o hc h
      · rename_i c hp1
        obtain rfl := hF.pr c hp1
        split at h
        · rename_i t x y ho
          exact storeP_sound hT hh ht o ho h
        · exact opK_sound hT hh ht o hc h
    rcases hr with hr | ⟨hr, rfl⟩
    · rw [hr]; exact hk v hp' E' u w' hK hpre hrv hrh
    · rw [hr]; exact hk v hp' E' _ w' hK hpre hrv hrh

theorem guess_spec {b : Bool} {orc : List Sg} {K : Bool → List Sg → Prop} (h : guess b orc K) : ∃ orc', K b orc' := by
  unfold guess at h
  split at h
  · obtain ⟨rfl, h⟩ := h; exact ⟨_, h⟩
  · cases b with
    | true => exact ⟨_, h.1 rfl⟩
    | false => exact ⟨_, h.2 rfl⟩
  · exact h.elim

theorem fixA_spec {o : Oper} {v : AV} {orc : List Sg} {K : AV → List Sg → Prop} (h : fixA o v orc K) : ∃ v' orc', K v' orc' ∧ ∀ E u, RV E v u → RV E v' u := by
  unfold fixA at h
  split at h
  · exact ⟨_, _, h, fun _ _ hr => hr⟩
  · split at h
    · split at h
      · obtain ⟨hx, h⟩ := h
        refine ⟨_, _, h, fun E u hr => ?_⟩
        rw [← beq_iff_eq.1 hx]
        exact hr
      · exact ⟨_, _, h, fun _ _ hr => hr⟩
    · exact ⟨_, _, h, fun _ _ hr => hr⟩

theorem RT.reset {E : Env} {tm : Tm} {tmps : Array Value} (ht : RT E tm tmps) {i : Nat} {x : AV} (hx : RV E x (tmps.getD i Go.undef)) : RT E (setT tm i x) tmps := by
  refine ⟨by simp [setT_n, ht.1], by rw [setT_n]; exact ht.2.1, fun j hj => ?_⟩
  rw [setT_n] at hj
  rw [getT_setT ht.2.1 hj]
  by_cases hij : i = j
  · subst hij; rw [if_pos rfl]; exact hx
  · rw [if_neg hij]; exact ht.2.2 j hj

theorem dstOf_eq : ∀ (ops : List Oper) (j : Nat), dstOf ops j = (ops[j]?).bind (·.dst)
  | [], j => by cases j <;> rfl
  | o :: l, 0 => rfl
  | o :: l, j + 1 => by simp only [dstOf, dstOf_eq l j]; rfl

/-- What a guard reads. -/
def boolAt : Option Value → Option Bool
  | some (.bool b) => some b
  | _ => none

theorem yielded_of {ops : List Oper} {j d : Nat} {tmps : Array Value} (hd : dstOf ops j = some d) : yielded ops.toArray tmps j = boolAt tmps[d]? := by
  unfold yielded
  rw [dstOf_eq] at hd
  rw [show (ops.toArray[j]?).bind (·.dst) = some d from by simpa using hd]
  rfl

theorem RT.bool {E : Env} {tm : Tm} {tmps : Array Value} (ht : RT E tm tmps) {d : Nat} {b st : Bool} (h : getT tm d = .one (.sc (.bool b) st)) : tmps[d]? = some (.bool b) := by
  by_cases hd : d < tm.n
  · have h1 := ht.2.2 d hd
    rw [h] at h1
    have hs : d < tmps.size := by rw [ht.1]; exact hd
    have h2 := h1.1
    rw [Array.getD_eq_getD_getElem?, Array.getElem?_eq_getElem hs] at h2
    rw [Array.getElem?_eq_getElem hs]
    exact congrArg some h2
  · have h1 : Nat.blt d tm.n = false := by rw [blt_eq]; simpa using hd
    simp only [getT, h1] at h
    cases h

theorem RT.undef {E : Env} {tm : Tm} {tmps : Array Value} (ht : RT E tm tmps) {d : Nat} (h : getT tm d = .undef) : boolAt tmps[d]? = none := by
  by_cases hd : d < tm.n
  · have h1 := ht.2.2 d hd
    rw [h] at h1
    have hs : d < tmps.size := by rw [ht.1]; exact hd
    have h2 : tmps.getD d Go.undef = Go.undef := h1
    rw [Array.getD_eq_getD_getElem?, Array.getElem?_eq_getElem hs] at h2
    rw [Array.getElem?_eq_getElem hs]
    simp only [Option.getD_some] at h2
    rw [h2]
    rfl
  · have hs : ¬ d < tmps.size := by rw [ht.1]; exact hd
    rw [Array.getElem?_eq_none (by omega)]
    rfl

/-- What follows: whatever the abstract continuation lets, the model's continuation lets. -/
def Follows (B : Nat) (w0 : World) (E : Env) (ds : List Deferred) (K : Tm → List Blk → List Sg → Prop) (next : Act → World → Prop) : Prop :=
  ∀ tm hp orc E' a w, K tm hp orc → E <+: E' → RT E' tm a.tmps → a.defers = ds → RH B w0 E' hp w → next a w

theorem put_defers (a : Act) (d : Option Tmp) (v : Value) : (a.put d v).defers = a.defers := by cases d <;> rfl

end run
end Sm
