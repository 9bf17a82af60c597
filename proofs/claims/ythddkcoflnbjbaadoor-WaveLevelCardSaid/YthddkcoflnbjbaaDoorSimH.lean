/-
  What is proved here: a region that draws its order may be walked in the order of the text, where its head is quiet and each operation behind the head waits for all ahead of it. A text to be imported.
-/
import Derived.Test.YthddkcoflnbjbaaDoorSimG
namespace Sm
open Go Go.RowKit

section draw
variable {P : Program} {Q : Exit → Act → World → Prop} {C : World → Prop}

theorem backEdges_spec {ops : List Oper} (h : backEdges ops = true) {j : Nat} {o : Oper} (ho : ops[j]? = some o) : ∀ e ∈ o.after, Region.binds .any e = true → e.on < j := by
  have hlt := (List.getElem?_eq_some_iff.1 ho).1
  have := List.all_eq_true.1 h j (List.mem_range.2 hlt)
  rw [ho] at this
  simp only at this
  intro e he hb
  have h1 := (Array.all_eq_true_iff_forall_mem.1 this) e he
  simpa [hb] using h1

theorem waitsOn_spec {ops : List Oper} {j i : Nat} (h : waitsOn ops j i = true) : ∃ o, ops[j]? = some o ∧ ∃ e ∈ o.after, Region.binds .any e = true ∧ e.on = i := by
  unfold waitsOn at h
  split at h
  · rename_i o ho
    obtain ⟨e, he, hb⟩ := Array.any_eq_true'.1 h
    simp only [Bool.and_eq_true, beq_iff_eq] at hb
    exact ⟨o, ho, e, he, hb.1, hb.2⟩
  · cases h

theorem tailWaits_prev {ops : List Oper} {n : Nat} (h : tailWaits ops n = true) {j : Nat} (hn : n < j) {o : Oper} (ho : ops[j]? = some o) : ∃ e ∈ o.after, Region.binds .any e = true ∧ e.on = j - 1 := by
  have hlt := (List.getElem?_eq_some_iff.1 ho).1
  unfold tailWaits at h
  simp only [Bool.and_eq_true] at h
  have h1 := List.all_eq_true.1 h.1 (j - n - 1) (List.mem_range.2 (by omega))
  rw [show n + (j - n - 1) + 1 = j from by omega, show n + (j - n - 1) = j - 1 from by omega] at h1
  obtain ⟨o', ho', h2⟩ := waitsOn_spec h1
  rw [ho] at ho'
  obtain rfl := Option.some.inj ho'
  exact h2

theorem tailWaits_head {ops : List Oper} {n : Nat} (h : tailWaits ops n = true) (hn : n < ops.length) {k : Nat} (hk : k < n) : ∃ i, k < i ∧ i ≤ n ∧ ∃ o, ops[i]? = some o ∧ ∃ e ∈ o.after, Region.binds .any e = true ∧ e.on = k := by
  unfold tailWaits at h
  simp only [Bool.and_eq_true, Bool.or_eq_true, beq_eq, decide_eq_true_eq] at h
  rcases h.2 with h2 | h2
  · omega
  · have h3 := List.all_eq_true.1 h2 k (List.mem_range.2 hk)
    obtain ⟨d, hd, h4⟩ := List.any_eq_true.1 h3
    have hd := List.mem_range.1 hd
    exact ⟨k + 1 + d, by omega, by omega, waitsOn_spec h4⟩

theorem guardBack_spec {ops : List Oper} (h : guardBack ops = true) {j : Nat} {o : Oper} (ho : ops[j]? = some o) {i : Nat} {b : Bool} (hg : o.guard = some (i, b)) : i < j := by
  have hlt := (List.getElem?_eq_some_iff.1 ho).1
  have := List.all_eq_true.1 h j (List.mem_range.2 hlt)
  rw [ho] at this
  simp only [hg, decide_eq_true_eq] at this
  exact this

theorem getD_both' {listed : Array Bool} {i : Nat} (h : listed.getD i true = false) : listed.getD i false = false := by
  rcases Nat.lt_or_ge i listed.size with h' | h'
  · simp [h'] at h ⊢; exact h
  · simp [Array.getElem?_eq_none h'] at h

theorem listed_cases {listed : Array Bool} {i : Nat} (h : ¬ listed.getD i true = false) : i < listed.size → listed.getD i false = true := by
  intro hlt
  simp [hlt] at h ⊢
  exact h

/-- The tail: one order alone. -/
theorem tail_any {ops : List Oper} {n : Nat} (hB : backEdges ops = true) (hW : tailWaits ops n = true) : ∀ (rest : List Oper) (j f : Nat) (listed : Array Bool) (a : Act) (w : World),
    n ≤ j → j + rest.length = ops.length → (∀ k, rest[k]? = ops[j + k]?) → listed.size = ops.length → (∀ i, i < j → listed.getD i false = true) → (∀ i, j ≤ i → i < ops.length → listed.getD i true = false) →
    wpList P ops.toArray Q rest a w → wpAny P .any ops.toArray Q (rest.length + f) listed a w
  | [], j, f, listed, a, w, hn, hl, hr, hs, h1, h2, h => by
    refine wpAny_done ?_ h _
    apply List.eq_nil_iff_forall_not_mem.2
    intro i hi
    obtain ⟨g, o, ho, _⟩ := mem_ready.1 hi
    have hlt : i < ops.length := by
      have := (Array.getElem?_eq_some_iff.1 ho).1
      simpa using this
    simp at hl
    have := h1 i (by omega)
    rw [getD_both' g] at this
    cases this
  | o :: rest, j, f, listed, a, w, hn, hl, hr, hs, h1, h2, h => by
    simp only [List.length_cons] at hl
    have ho : ops[j]? = some o := by have := hr 0; simpa using this.symm
    have hready : Region.ready .any ops.toArray listed = [j] := by
      have mem : ∀ i, i ∈ Region.ready .any ops.toArray listed ↔ i = j := by
        intro i
        constructor
        · intro hi
          obtain ⟨g, o', ho', hall⟩ := mem_ready.1 hi
          have hlt : i < ops.length := by
            have := (Array.getElem?_eq_some_iff.1 ho').1
            simpa using this
          by_cases hij : i < j
          · have := h1 i hij
            rw [getD_both' g] at this
            cases this
          · by_cases hji : j < i
            · obtain ⟨e, he, hb, hon⟩ := tailWaits_prev hW (show n < i by omega) (by simpa using ho')
              have h3 := hall e he hb
              rw [hon, getD_both' (h2 (i - 1) (by omega) (by omega))] at h3
              cases h3
            · omega
        · rintro rfl
          exact mem_ready.2 ⟨h2 _ (Nat.le_refl _) (by omega), o, by simpa using ho, fun e he hb => h1 e.on (backEdges_spec hB ho e he hb)⟩
      have hsub : (Region.ready .any ops.toArray listed).Nodup := by
        unfold Region.ready
        exact List.Pairwise.filter _ List.nodup_range
      match hq : Region.ready .any ops.toArray listed, hsub, mem with
      | [], _, mem => exact absurd ((mem j).2 rfl) (by simp)
      | [x], _, mem => rw [(mem x).1 (by simp)]
      | x :: y :: l, hnd, mem =>
        have e1 := (mem x).1 (by simp)
        have e2 := (mem y).1 (by simp)
        rw [e1, e2] at hnd
        simp at hnd
    rw [show (o :: rest).length + f = (rest.length + f) + 1 from by simp; omega]
    refine wpAny_all hready (by simp) fun i hi => ?_
    simp only [List.mem_singleton] at hi
    subst hi
    have ih : ∀ a w, wpList P ops.toArray Q rest a w → wpAny P .any ops.toArray Q (rest.length + f) (listed.setIfInBounds i true) a w := fun a w h' => by
      refine tail_any hB hW rest (i + 1) f (listed.setIfInBounds i true) a w (by omega) (by omega) (fun k => by have := hr (k + 1); simpa [Nat.add_assoc, Nat.add_comm 1 k] using this) (by simpa using hs) (fun k hk => ?_) (fun k hk hk2 => ?_) h'
      · by_cases hki : k = i
        · subst hki; simp [hs]; omega
        · exact getD_set_true (h1 k (by omega))
      · rw [getD_set_ne true (by omega)]
        exact h2 k (by omega) hk2
    unfold wpOp
    rw [show ops.toArray[i]? = some o from by simpa using ho]
    simp only
    unfold wpList at h
    split
    · rename_i hw
      rw [if_pos hw] at h
      exact h.imp (fun h => Oper.wp_mono ih h) id
    · rename_i hw
      rw [if_neg hw] at h
      exact ih _ _ h

theorem yielded_take {ops : List Oper} {n j : Nat} (hj : j < n) (tmps : Array Value) : yielded (ops.take n).toArray tmps j = yielded ops.toArray tmps j := by
  unfold yielded
  simp [hj]

theorem wanted_take {ops : List Oper} {n i : Nat} (hG : guardBack ops = true) (hi : i < n) {o : Oper} (ho : ops[i]? = some o) (tmps : Array Value) :
    Region.wanted o (yielded (ops.take n).toArray tmps) = Region.wanted o (yielded ops.toArray tmps) := by
  unfold Region.wanted
  cases hg : o.guard with
  | none => rfl
  | some p =>
    obtain ⟨j, b⟩ := p
    have := guardBack_spec hG ho hg
    simp only [yielded_take (ops := ops) (show j < n by omega)]

/-- The head, in whatever order; then the tail. -/
theorem head_any {ops : List Oper} {n : Nat} (hn : n ≤ ops.length) (hB : backEdges ops = true) (hG : guardBack ops = true) (hW : tailWaits ops n = true) {K : Act → Prop}
    (hK : ∀ a w, C w → K a → wpList P ops.toArray Q (ops.drop n) a w) : ∀ (f : Nat) (lh : Array Bool) (a : Act) (w : World), lh.size = n → C w →
    (∀ i o, i < n → ops[i]? = some o → lh.getD i false = true → ∀ e ∈ o.after, Region.binds .any e = true → lh.getD e.on false = true) →
    wpAnyQ P .any (ops.take n).toArray C K f lh a → wpAny P .any ops.toArray Q ((ops.drop n).length + f) (lh ++ Array.replicate (ops.length - n) false) a w := by
  -- what stands ready
  have hhead : ∀ (lh : Array Bool), lh.size = n → ∀ i, i ∈ Region.ready .any (ops.take n).toArray lh → i < n ∧ i ∈ Region.ready .any ops.toArray (lh ++ Array.replicate (ops.length - n) false) := by
    intro lh hs i hi
    obtain ⟨g, o, ho, hall⟩ := mem_ready.1 hi
    have hlt : i < n := by
      have := (Array.getElem?_eq_some_iff.1 ho).1
      simp at this; omega
    have ho' : ops[i]? = some o := by simpa [List.getElem?_take, hlt] using ho
    refine ⟨hlt, mem_ready.2 ⟨?_, o, by simpa using ho', fun e he hb => ?_⟩⟩
    · rw [Array.getD_eq_getD_getElem?, Array.getElem?_append_left (by omega)]
      rw [Array.getD_eq_getD_getElem?] at g
      exact g
    · have h1 := hall e he hb
      have h2 := backEdges_spec hB ho' e he hb
      rw [Array.getD_eq_getD_getElem?, Array.getElem?_append_left (by omega)]
      rw [Array.getD_eq_getD_getElem?] at h1
      exact h1
  have hall : ∀ (lh : Array Bool), lh.size = n → Region.ready .any (ops.take n).toArray lh = [] → ∀ i, i < n → lh.getD i false = true := by
    intro lh hs hr i
    induction i using Nat.strongRecOn with
    | _ i ih =>
      intro hi
      by_cases hu : lh.getD i true = false
      · exfalso
        have ho : ops[i]? = some (ops[i]'(by omega)) := List.getElem?_eq_getElem _
        have : i ∈ Region.ready .any (ops.take n).toArray lh := mem_ready.2 ⟨hu, ops[i]'(by omega), by simpa only [List.getElem?_toArray, List.getElem?_take, if_pos hi] using ho, fun e he hb => ih e.on (backEdges_spec hB ho e he hb) (by have := backEdges_spec hB ho e he hb; omega)⟩
        rw [hr] at this
        cases this
      · exact listed_cases hu (by omega)
  have htail : ∀ (lh : Array Bool), lh.size = n → (∀ i o, i < n → ops[i]? = some o → lh.getD i false = true → ∀ e ∈ o.after, Region.binds .any e = true → lh.getD e.on false = true) → ∀ i, i ∈ Region.ready .any ops.toArray (lh ++ Array.replicate (ops.length - n) false) → (¬ ∀ k, k < n → lh.getD k false = true) → i ∈ Region.ready .any (ops.take n).toArray lh := by
    intro lh hs hcl i hi hnot
    obtain ⟨g, o, ho, hal⟩ := mem_ready.1 hi
    have hlt0 : i < ops.length := by
      have := (Array.getElem?_eq_some_iff.1 ho).1
      simpa using this
    have ho' : ops[i]? = some o := by simpa using ho
    by_cases hlt : i < n
    · refine mem_ready.2 ⟨?_, o, by simpa [List.getElem?_take, hlt] using ho, fun e he hb => ?_⟩
      · rw [Array.getD_eq_getD_getElem?, Array.getElem?_append_left (by omega)] at g
        rw [Array.getD_eq_getD_getElem?]
        exact g
      · have h1 := hal e he hb
        have h2 := backEdges_spec hB ho' e he hb
        rw [Array.getD_eq_getD_getElem?, Array.getElem?_append_left (by omega)] at h1
        rw [Array.getD_eq_getD_getElem?]
        exact h1
    · exfalso
      by_cases hin : n < i
      · obtain ⟨e, he, hb, hon⟩ := tailWaits_prev hW hin ho'
        have h1 := hal e he hb
        rw [hon, Array.getD_eq_getD_getElem?, Array.getElem?_append_right (by omega), Array.getElem?_replicate, if_pos (by omega)] at h1
        cases h1
      · obtain rfl : i = n := by omega
        have key : ∀ d k, k + d + 1 = i → lh.getD k false = true := by
          intro d
          induction d using Nat.strongRecOn with
          | _ d ih =>
            intro k hkd
            obtain ⟨m, hm1, hm2, o2, ho2, e, he, hb, hon⟩ := tailWaits_head hW hlt0 (show k < i by omega)
            by_cases hmi : m = i
            · subst hmi
              rw [ho'] at ho2
              obtain rfl := Option.some.inj ho2
              have h1 := hal e he hb
              rw [hon, Array.getD_eq_getD_getElem?, Array.getElem?_append_left (by omega)] at h1
              rw [Array.getD_eq_getD_getElem?]
              exact h1
            · have h3 := ih (i - m - 1) (by omega) m (by omega)
              have h4 := hcl m o2 (by omega) ho2 h3 e he hb
              rwa [hon] at h4
        exact hnot fun k hk => key (i - k - 1) k (by omega)
  have base : ∀ (f : Nat) (lh : Array Bool) (a : Act) (w : World), lh.size = n → C w → Region.ready .any (ops.take n).toArray lh = [] → K a → wpAny P .any ops.toArray Q ((ops.drop n).length + f) (lh ++ Array.replicate (ops.length - n) false) a w := by
    intro f lh a w hs hC hr hk
    have hl := hall lh hs hr
    refine tail_any hB hW (ops.drop n) n f _ a w (Nat.le_refl _) (by simp; omega) (fun k => by simp [List.getElem?_drop]) (by simp; omega) (fun i hi => ?_) (fun i hi hi2 => ?_) (hK a w hC hk)
    · have := hl i hi
      rw [Array.getD_eq_getD_getElem?, Array.getElem?_append_left (by omega)]
      rw [Array.getD_eq_getD_getElem?] at this
      exact this
    · rw [Array.getD_eq_getD_getElem?, Array.getElem?_append_right (by omega)]
      rw [Array.getElem?_replicate, if_pos (by omega)]
      rfl
  intro f
  induction f with
  | zero => intro lh a w hs hC _ h; exact base 0 lh a w hs hC h.1 h.2
  | succ f ih =>
    intro lh a w hs hC hcl h
    by_cases hr : Region.ready .any (ops.take n).toArray lh = []
    · exact base (f + 1) lh a w hs hC hr (h.1 hr)
    · have hnot : ¬ ∀ k, k < n → lh.getD k false = true := by
        intro hall'
        apply hr
        apply List.eq_nil_iff_forall_not_mem.2
        intro i hi
        obtain ⟨g, _⟩ := mem_ready.1 hi
        have := hall' i (hhead lh hs i hi).1
        rw [getD_both' g] at this
        cases this
      refine ⟨fun h0 => ?_, fun i hi => ?_⟩
      · exfalso
        obtain ⟨i, hi⟩ := List.exists_mem_of_ne_nil _ hr
        have := (hhead lh hs i hi).2
        rw [h0] at this
        cases this
      · have hi' := htail lh hs hcl i hi hnot
        have hcl' : ∀ k o, k < n → ops[k]? = some o → (lh.setIfInBounds i true).getD k false = true → ∀ e ∈ o.after, Region.binds .any e = true → (lh.setIfInBounds i true).getD e.on false = true := by
          intro k o hk ho hkt e he hb
          by_cases hki : k = i
          · subst hki
            obtain ⟨_, o2, ho2, hal⟩ := mem_ready.1 hi'
            have ho2' : ops[k]? = some o2 := by simpa only [List.getElem?_toArray, List.getElem?_take, if_pos hk] using ho2
            rw [ho] at ho2'
            obtain rfl := Option.some.inj ho2'
            exact getD_set_true (hal e he hb)
          · rw [getD_set_ne false (fun e => hki e.symm)] at hkt
            exact getD_set_true (hcl k o hk ho hkt e he hb)
        have hlt := (hhead lh hs i hi').1
        have h1 := h.2 i hi'
        have hset : (lh ++ Array.replicate (ops.length - n) false).setIfInBounds i true = lh.setIfInBounds i true ++ Array.replicate (ops.length - n) false := by
          apply Array.ext'
          simp only [Array.toList_setIfInBounds, Array.toList_append]
          rw [List.set_append_left _ _ (by simp; omega)]
        have h2 := wpOp_of_qOp (Q' := Q) (K' := fun a' w' => wpAny P .any ops.toArray Q ((ops.drop n).length + f) ((lh ++ Array.replicate (ops.length - n) false).setIfInBounds i true) a' w') hC (fun a' w' hw' hk => by rw [hset]; exact ih _ a' w' (by simpa using hs) hw' hcl' hk) h1
        have ho : ops[i]? = some (ops[i]'(by omega)) := List.getElem?_eq_getElem _
        unfold wpOp at h2 ⊢
        rw [show (ops.take n).toArray[i]? = some (ops[i]'(by omega)) from by simp [hlt]] at h2
        rw [show ops.toArray[i]? = some (ops[i]'(by omega)) from by simp]
        simp only at h2 ⊢
        rw [wanted_take hG hlt ho] at h2
        exact h2

/-- A region that draws its order: the head quiet in a class of worlds, walked in the order of the text; then the tail. -/
theorem wp_draw {id : Nat} {ops : List Oper} {n : Nat} {a : Act} {w : World} (hm : P.follows .mixedOrders = true) (hn : n ≤ ops.length) (hL : Region.lexB .any (ops.take n).toArray = true)
    (hB : backEdges ops = true) (hG : guardBack ops = true) (hW : tailWaits ops n = true) (hC : C { w with drawn := w.drawn + 1 })
    (h : wpQuiet P (ops.take n).toArray C (fun a' => ∀ w', C w' → wpList P ops.toArray Q (ops.drop n) a' w') (ops.take n) a) : (Code.region id ops.toArray true).wp P Q a w := by
  simp only [Region.lexB, Bool.and_eq_true] at hL
  refine wp_region_any hm ?_
  have h1 := wpAnyQ_lex (C := C) (md := .any) hL.1 (ops.take n) 0 (Array.replicate (ops.take n).toArray.size false) a (by simp) (by simpa using hL.2) h
  have h2 := head_any (Q := Q) hn hB hG hW (fun a' w' hC' hk => hk w' hC') (ops.take n).length _ a { w with drawn := w.drawn + 1 } (by simp; omega) hC (fun i o hi ho ht => by
    exfalso
    rw [Array.getD_eq_getD_getElem?, Array.getElem?_replicate] at ht
    split at ht <;> cases ht) h1
  have e1 : (ops.drop n).length + (ops.take n).length = ops.toArray.size := by simp; omega
  have e2 : Array.replicate (ops.take n).toArray.size false ++ Array.replicate (ops.length - n) false = Array.replicate ops.toArray.size false := by
    rw [Array.replicate_append_replicate]
    congr 1
    simp; omega
  rw [e1, e2] at h2
  exact h2

end draw
end Sm
