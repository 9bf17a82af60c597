/-
  What is proved here: a region that draws its order, each of whose operations yields a value out of a set that is fixed before the walk, in every world of a class: the walk in the order of the text serves every order. A text to be imported.
-/
import Derived.Test.YtgpbpgbokfdbeaaDoorSimH
namespace Sm
open Go Go.RowKit
set_option linter.unusedSimpArgs false

section sets
variable {P : Program} {ops : Array Oper} {md : Region.Mode} {C : World → Prop} {S : Nat → Value → Prop}

/-- What is asked of one operation that is carried out in a world: a value out of a set, and a world of the class. -/
def uponS (P : Program) (C : World → Prop) (V : Value → Prop) : Result Next → Prop
  | .ok (.value u) w' => C w' ∧ V u
  | .ok .skip w' => C w' ∧ V undef
  | .ok (.enter f args) w' => Calls P f args w' (fun e w'' => ∃ u, e = .returned u ∧ V u ∧ C w'')
  | _ => False

/-- The operation yields a value out of the set, in every world of the class. -/
def atS (P : Program) (o : Oper) (a : Act) (C : World → Prop) (V : Value → Prop) : Prop := (∀ w, C w → uponS P C V ((execOp a.eval o).run P w)) ∧ ∃ u, V u

/-- Operation number i comes up in the state a. -/
def qOpS (P : Program) (ops : Array Oper) (C : World → Prop) (S : Nat → Value → Prop) (i : Nat) (K : Act → Prop) (a : Act) : Prop :=
  match ops[i]? with
  | none => K a
  | some o => if Region.wanted o (yielded ops a.tmps) then atS P o a C (S i) ∧ ∀ u, S i u → K (a.put o.dst u) else K (a.put o.dst undef)

theorem qOpS_mono {i : Nat} {a : Act} {K K' : Act → Prop} (h : ∀ a, K a → K' a) (hh : qOpS P ops C S i K a) : qOpS P ops C S i K' a := by
  unfold qOpS at *
  split
  · rename_i ho; rw [ho] at hh; exact h _ hh
  · rename_i o ho
    rw [ho] at hh
    simp only at hh
    split
    · rename_i hw; rw [if_pos hw] at hh; exact ⟨hh.1, fun u hu => h _ (hh.2 u hu)⟩
    · rename_i hw; rw [if_neg hw] at hh; exact h _ hh

/-- Whatever order is picked from here on. -/
def wpAnyS (P : Program) (md : Region.Mode) (ops : Array Oper) (C : World → Prop) (S : Nat → Value → Prop) (Q : Act → Prop) : Nat → Array Bool → Act → Prop
  | 0, listed, a => Region.ready md ops listed = [] ∧ Q a
  | fuel + 1, listed, a => (Region.ready md ops listed = [] → Q a) ∧ ∀ i ∈ Region.ready md ops listed, qOpS P ops C S i (wpAnyS P md ops C S Q fuel (listed.setIfInBounds i true)) a

/-- The walk in the order of the text. -/
def wpLexS (P : Program) (ops : Array Oper) (C : World → Prop) (Q : Act → Prop) : List Oper → List (Value → Prop) → Act → Prop
  | [], _, a => Q a
  | _ :: _, [], _ => False
  | o :: rest, V :: Vs, a => if Region.wanted o (yielded ops a.tmps) then atS P o a C V ∧ ∀ u, V u → wpLexS P ops C Q rest Vs (a.put o.dst u) else wpLexS P ops C Q rest Vs (a.put o.dst undef)

theorem wpOp_of_qOpS {i : Nat} {a : Act} {K : Act → Prop} {K' : Act → World → Prop} {Q' : Exit → Act → World → Prop} {w : World} (hC : C w) (h : ∀ a w', C w' → K a → K' a w') (hh : qOpS P ops C S i K a) : wpOp P ops Q' i K' a w := by
  unfold qOpS at hh
  unfold wpOp
  split
  · rename_i ho; rw [ho] at hh; exact h _ _ hC hh
  · rename_i o ho
    rw [ho] at hh
    simp only at hh
    split
    · rename_i hw
      rw [if_pos hw] at hh
      refine .inl ?_
      have h3 := hh.1.1 w hC
      unfold Oper.wp
      generalize (execOp a.eval o).run P w = r at *
      cases r with
      | ok n w' =>
        cases n <;> simp only [uponS] at h3 <;> simp only [Oper.upon]
        case value u => exact h _ _ h3.1 (hh.2 u h3.2)
        case skip => exact h _ _ h3.1 (hh.2 _ h3.2)
        case enter f args => exact h3.mono fun e w'' ⟨u, he, hv, hw''⟩ => by subst he; exact h _ _ hw'' (hh.2 u hv)
      | halt x w' => simp only [uponS] at h3
    · rename_i hw; rw [if_neg hw] at hh; exact h _ _ hC hh

theorem wp_of_atS {o : Oper} {a : Act} {V : Value → Prop} {K' : Act → World → Prop} {Q' : Exit → Act → World → Prop} {w : World} (hC : C w) (hh : atS P o a C V) (h : ∀ u w', C w' → V u → K' (a.put o.dst u) w') : o.wp P a w K' Q' := by
  have h3 := hh.1 w hC
  unfold Oper.wp
  generalize (execOp a.eval o).run P w = r at *
  cases r with
  | ok n w' =>
    cases n <;> simp only [uponS] at h3 <;> simp only [Oper.upon]
    case value u => exact h _ _ h3.1 h3.2
    case skip => exact h _ _ h3.1 h3.2
    case enter f args => exact h3.mono fun e w'' ⟨u, he, hv, hw''⟩ => by subst he; exact h _ _ hw'' hv
  | halt x w' => simp only [uponS] at h3

/-- In state 'a', in every world of the class, operation number i leaves a value of the set in its temporary, and a world of the class. -/
def YieldsS (P : Program) (ops : Array Oper) (C : World → Prop) (S : Nat → Value → Prop) (i : Nat) (o : Oper) (V : Value → Prop) (a : Act) : Prop :=
  (Region.wanted o (yielded ops a.tmps) = true ∧ V = S i ∧ atS P o a C (S i)) ∨
  (Region.wanted o (yielded ops a.tmps) = false ∧ V = fun u => u = undef)

theorem YieldsS.some {i : Nat} {o : Oper} {V : Value → Prop} {a : Act} (hy : YieldsS P ops C S i o V a) : ∃ u, V u := by
  rcases hy with ⟨_, rfl, h⟩ | ⟨_, rfl⟩
  · exact h.2
  · exact ⟨undef, rfl⟩

theorem YieldsS.qOp {i : Nat} {o : Oper} {V : Value → Prop} {a : Act} (hi : ops[i]? = Option.some o) (hy : YieldsS P ops C S i o V a) {K : Act → Prop} (h : ∀ u, V u → K (a.put o.dst u)) : qOpS P ops C S i K a := by
  unfold qOpS
  simp only [hi]
  rcases hy with ⟨hw, rfl, hv⟩ | ⟨hw, rfl⟩
  · simp only [hw, if_true]; exact ⟨hv, h⟩
  · simp only [hw, Bool.false_eq_true, if_false]; exact h _ rfl

theorem YieldsS.of_same {i : Nat} {o : Oper} {V : Value → Prop} {a a' : Act} (hy : YieldsS P ops C S i o V a) (he : execOp a'.eval o = execOp a.eval o)
    (hw : Region.wanted o (yielded ops a'.tmps) = Region.wanted o (yielded ops a.tmps)) : YieldsS P ops C S i o V a' := by
  unfold YieldsS atS at *
  rw [he, hw]
  exact hy

/-- What the walk shows of one operation. -/
theorem yieldsS_of_qOp {i : Nat} {o : Oper} {a : Act} {K : Act → Prop} (hi : ops[i]? = Option.some o) (h : qOpS P ops C S i K a) : ∃ V, YieldsS P ops C S i o V a ∧ ∀ u, V u → K (a.put o.dst u) := by
  unfold qOpS at h
  simp only [hi] at h
  by_cases hw : Region.wanted o (yielded ops a.tmps) = true
  · simp only [hw, if_true] at h
    exact ⟨S i, .inl ⟨hw, rfl, h.1⟩, h.2⟩
  · simp only [hw] at h
    exact ⟨fun u => u = undef, .inr ⟨by simpa using hw, rfl⟩, fun u hu => by subst hu; exact h⟩

theorem qOpS_put {i j : Nat} {oi oj : Oper} {V : Value → Prop} (hj : ops[j]? = Option.some oj) (hap : oi.apart ops oj = true)
    (hsi : ∀ cs b, oi.op ≠ .select cs b) (hsj : ∀ cs b, oj.op ≠ .select cs b) {K : Act → Prop} {a : Act}
    (hy : YieldsS P ops C S i oi V a) (h : ∀ v, V v → qOpS P ops C S j K (a.put oi.dst v)) :
    qOpS P ops C S j (fun a' => YieldsS P ops C S i oi V a' ∧ ∀ v, V v → K (a'.put oi.dst v)) a := by
  obtain ⟨h1, h2, h3⟩ := Oper.apart_spec hap
  have keep : ∀ (a : Act), YieldsS P ops C S i oi V a → ∀ u, YieldsS P ops C S i oi V (a.put oj.dst u) := fun a hy u =>
    hy.of_same (execOp_put oi hsi a oj.dst u h3) (wanted_put oi a oj.dst u h3)
  obtain ⟨v0, hv0⟩ := hy.some
  unfold qOpS at *
  simp only [hj] at *
  have hw0 : ∀ v, Region.wanted oj (yielded ops (a.put oi.dst v).tmps) = Region.wanted oj (yielded ops a.tmps) := fun v => wanted_put oj a oi.dst v h1
  split
  · rename_i hw
    have h' : ∀ v, V v → atS P oj (a.put oi.dst v) C (S j) ∧ ∀ u, S j u → K ((a.put oi.dst v).put oj.dst u) := fun v hv => by
      have := h v hv
      rw [hw0 v, if_pos hw] at this
      exact this
    refine ⟨?_, fun u hu => ⟨keep a hy u, fun v hv => by rw [← Act.put_comm a v u h2]; exact (h' v hv).2 u hu⟩⟩
    have := (h' v0 hv0).1
    unfold atS at *
    rwa [execOp_put oj hsj a oi.dst v0 h1] at this
  · rename_i hw
    refine ⟨keep a hy _, fun v hv => ?_⟩
    have := h v hv
    rw [hw0 v, if_neg hw] at this
    rw [← Act.put_comm a v undef h2]
    exact this

theorem wpAnyS_first {Q : Act → Prop} {i : Nat} {oi : Oper} {V : Value → Prop} (hi : ops[i]? = Option.some oi) (hsel : ∀ (j : Nat) (o : Oper) cs b, ops[j]? = Option.some o → o.op ≠ .select cs b) :
    ∀ (fuel : Nat) (listed : Array Bool) (a : Act),
      (∀ j oj, ops[j]? = Option.some oj → j ≠ i → listed.getD j true = false → (∀ e ∈ oj.after, Region.binds md e = true → e.on ≠ i) → oi.apart ops oj = true) →
      i ∈ Region.ready md ops listed → YieldsS P ops C S i oi V a →
      (∀ v, V v → wpAnyS P md ops C S Q fuel (listed.setIfInBounds i true) (a.put oi.dst v)) → wpAnyS P md ops C S Q (fuel + 1) listed a := by
  intro fuel
  induction fuel with
  | zero =>
    intro listed a _ hr hy H
    refine ⟨fun h => (by rw [h] at hr; cases hr), fun j hj => ?_⟩
    by_cases hji : j = i
    · subst hji; exact hy.qOp hi H
    · obtain ⟨v0, hv0⟩ := hy.some
      have := ready_mono hj hji
      rw [(H v0 hv0).1] at this
      cases this
  | succ fuel ih =>
    intro listed a hfree hr hy H
    refine ⟨fun h => (by rw [h] at hr; cases hr), fun j hj => ?_⟩
    by_cases hji : j = i
    · subst hji; exact hy.qOp hi H
    · have h1 := fun v hv => (H v hv).2 j (ready_mono hj hji)
      obtain ⟨hjun, oj, hoj, hall⟩ := mem_ready.1 hj
      have hnot : ∀ e ∈ oj.after, Region.binds md e = true → e.on ≠ i := fun e he hb heq => by
        have h1 := hall e he hb
        have h0 := (mem_ready.1 hr).1
        rw [heq] at h1
        rcases Nat.lt_or_ge i listed.size with h' | h'
        · simp [h'] at h0 h1; rw [h0] at h1; cases h1
        · simp [Array.getElem?_eq_none h'] at h1
      have h2 := qOpS_put hoj (hfree j oj hoj hji hjun hnot) (fun cs b => hsel i oi cs b hi) (fun cs b => hsel j oj cs b hoj) hy h1
      have hfree' : ∀ k ok, ops[k]? = Option.some ok → k ≠ i → (listed.setIfInBounds j true).getD k true = false →
          (∀ e ∈ ok.after, Region.binds md e = true → e.on ≠ i) → oi.apart ops ok = true := fun k ok hk hki hun hno => by
        refine hfree k ok hk hki ?_ hno
        by_cases hjk : j = k
        · subst hjk; exact hjun
        · rw [getD_set_ne true hjk] at hun; exact hun
      refine qOpS_mono (fun a' h3 => ih (listed.setIfInBounds j true) a' hfree' (ready_mono hr (Ne.symm hji)) h3.1 fun v hv => ?_) h2
      rw [Array.setIfInBounds_comm _ _ hji]
      exact h3.2 v hv

theorem wpAnyS_lex {Q : Act → Prop} (hs : Region.noSelect ops = true) : ∀ (l : List Oper) (Vs : List (Value → Prop)) (k : Nat) (listed : Array Bool) (a : Act), (∀ j, l[j]? = ops[k + j]?) → (∀ (j : Nat) V, Vs[j]? = Option.some V → S (k + j) = V) →
    Region.lexFrom md ops l.length k listed = true → wpLexS P ops C Q l Vs a → wpAnyS P md ops C S Q l.length listed a
  | [], _, _, _, _, _, _, hB, h => ⟨by simpa [Region.lexFrom] using hB, h⟩
  | _ :: _, [], _, _, _, _, _, _, h => by simp only [wpLexS] at h
  | o :: l, V :: Vs, k, listed, a, hl, hV, hB, h => by
    have h0 : ops[k]? = Option.some o := by simpa using (hl 0).symm
    have hk : S k = V := by simpa using hV 0 V rfl
    simp only [List.length_cons, Region.lexFrom, Bool.and_eq_true] at hB
    obtain ⟨⟨hr, hf⟩, hB'⟩ := hB
    have hst : qOpS P ops C S k (wpLexS P ops C Q l Vs) a := by unfold qOpS; simp only [h0]; rw [hk]; exact h
    obtain ⟨V', hy, hK⟩ := yieldsS_of_qOp h0 hst
    exact wpAnyS_first h0 (Region.noSelect_spec hs) l.length listed a (Region.free_spec h0 hf) (by simpa using hr) hy fun v hv =>
      wpAnyS_lex hs l Vs (k + 1) _ _ (fun j => by have := hl (j + 1); simpa [Nat.add_assoc, Nat.add_comm 1 j] using this) (fun j V hj => by have := hV (j + 1) V (by simpa using hj); rw [show k + 1 + j = k + (j + 1) from by omega]; exact this) hB' (hK v hv)
end sets

section draw
variable {P : Program} {C : World → Prop} {S : Nat → Value → Prop} {Q : Exit → Act → World → Prop}
/-- The head, in whatever order; then the tail. -/
theorem head_anyS {ops : List Oper} {n : Nat} (hn : n ≤ ops.length) (hB : backEdges ops = true) (hG : guardBack ops = true) (hW : tailWaits ops n = true) {K : Act → Prop}
    (hK : ∀ a w, C w → K a → wpList P ops.toArray Q (ops.drop n) a w) : ∀ (f : Nat) (lh : Array Bool) (a : Act) (w : World), lh.size = n → C w →
    (∀ i o, i < n → ops[i]? = some o → lh.getD i false = true → ∀ e ∈ o.after, Region.binds .any e = true → lh.getD e.on false = true) →
    wpAnyS P .any (ops.take n).toArray C S K f lh a → wpAny P .any ops.toArray Q ((ops.drop n).length + f) (lh ++ Array.replicate (ops.length - n) false) a w := by
  -- what stands ready
  have hhead : ∀ (lh : Array Bool), lh.size = n → ∀ i, i ∈ Region.ready .any (ops.take n).toArray lh → i < n ∧ i ∈ Region.ready .any ops.toArray (lh ++ Array.replicate (ops.length - n) false) := by
    intro lh hs i hi
    obtain ⟨g, o, ho, hall⟩ := mem_ready.1 hi
    have hlt : i < n := by
      have := (Array.getElem?_eq_some_iff.1 ho).1
      simp at this; omega
    have ho' : ops[i]? = some o := by simpa [List.getElem?_take, hlt] using ho
    refine ⟨hlt, mem_ready.2 ⟨?_, o, by simpa using ho', fun e he hb => ?_⟩⟩
    · rw [Array.getD_eq_getD_getElem?, Array.getElem?_append_left (by omega)]
      rw [Array.getD_eq_getD_getElem?] at g
      exact g
    · have h1 := hall e he hb
      have h2 := backEdges_spec hB ho' e he hb
      rw [Array.getD_eq_getD_getElem?, Array.getElem?_append_left (by omega)]
      rw [Array.getD_eq_getD_getElem?] at h1
      exact h1
  have hall : ∀ (lh : Array Bool), lh.size = n → Region.ready .any (ops.take n).toArray lh = [] → ∀ i, i < n → lh.getD i false = true := by
    intro lh hs hr i
    induction i using Nat.strongRecOn with
    | _ i ih =>
      intro hi
      by_cases hu : lh.getD i true = false
      · exfalso
        have ho : ops[i]? = some (ops[i]'(by omega)) := List.getElem?_eq_getElem _
        have : i ∈ Region.ready .any (ops.take n).toArray lh := mem_ready.2 ⟨hu, ops[i]'(by omega), by simpa only [List.getElem?_toArray, List.getElem?_take, if_pos hi] using ho, fun e he hb => ih e.on (backEdges_spec hB ho e he hb) (by have := backEdges_spec hB ho e he hb; omega)⟩
        rw [hr] at this
        cases this
      · exact listed_cases hu (by omega)
  have htail : ∀ (lh : Array Bool), lh.size = n → (∀ i o, i < n → ops[i]? = some o → lh.getD i false = true → ∀ e ∈ o.after, Region.binds .any e = true → lh.getD e.on false = true) → ∀ i, i ∈ Region.ready .any ops.toArray (lh ++ Array.replicate (ops.length - n) false) → (¬ ∀ k, k < n → lh.getD k false = true) → i ∈ Region.ready .any (ops.take n).toArray lh := by
    intro lh hs hcl i hi hnot
    obtain ⟨g, o, ho, hal⟩ := mem_ready.1 hi
    have hlt0 : i < ops.length := by
      have := (Array.getElem?_eq_some_iff.1 ho).1
      simpa using this
    have ho' : ops[i]? = some o := by simpa using ho
    by_cases hlt : i < n
    · refine mem_ready.2 ⟨?_, o, by simpa [List.getElem?_take, hlt] using ho, fun e he hb => ?_⟩
      · rw [Array.getD_eq_getD_getElem?, Array.getElem?_append_left (by omega)] at g
        rw [Array.getD_eq_getD_getElem?]
        exact g
      · have h1 := hal e he hb
        have h2 := backEdges_spec hB ho' e he hb
        rw [Array.getD_eq_getD_getElem?, Array.getElem?_append_left (by omega)] at h1
        rw [Array.getD_eq_getD_getElem?]
        exact h1
    · exfalso
      by_cases hin : n < i
      · obtain ⟨e, he, hb, hon⟩ := tailWaits_prev hW hin ho'
        have h1 := hal e he hb
        rw [hon, Array.getD_eq_getD_getElem?, Array.getElem?_append_right (by omega), Array.getElem?_replicate, if_pos (by omega)] at h1
        cases h1
      · obtain rfl : i = n := by omega
        have key : ∀ d k, k + d + 1 = i → lh.getD k false = true := by
          intro d
          induction d using Nat.strongRecOn with
          | _ d ih =>
            intro k hkd
            obtain ⟨m, hm1, hm2, o2, ho2, e, he, hb, hon⟩ := tailWaits_head hW hlt0 (show k < i by omega)
            by_cases hmi : m = i
            · subst hmi
              rw [ho'] at ho2
              obtain rfl := Option.some.inj ho2
              have h1 := hal e he hb
              rw [hon, Array.getD_eq_getD_getElem?, Array.getElem?_append_left (by omega)] at h1
              rw [Array.getD_eq_getD_getElem?]
              exact h1
            · have h3 := ih (i - m - 1) (by omega) m (by omega)
              have h4 := hcl m o2 (by omega) ho2 h3 e he hb
              rwa [hon] at h4
        exact hnot fun k hk => key (i - k - 1) k (by omega)
  have base : ∀ (f : Nat) (lh : Array Bool) (a : Act) (w : World), lh.size = n → C w → Region.ready .any (ops.take n).toArray lh = [] → K a → wpAny P .any ops.toArray Q ((ops.drop n).length + f) (lh ++ Array.replicate (ops.length - n) false) a w := by
    intro f lh a w hs hC hr hk
    have hl := hall lh hs hr
    refine tail_any hB hW (ops.drop n) n f _ a w (Nat.le_refl _) (by simp; omega) (fun k => by simp [List.getElem?_drop]) (by simp; omega) (fun i hi => ?_) (fun i hi hi2 => ?_) (hK a w hC hk)
    · have := hl i hi
      rw [Array.getD_eq_getD_getElem?, Array.getElem?_append_left (by omega)]
      rw [Array.getD_eq_getD_getElem?] at this
      exact this
    · rw [Array.getD_eq_getD_getElem?, Array.getElem?_append_right (by omega)]
      rw [Array.getElem?_replicate, if_pos (by omega)]
      rfl
  intro f
  induction f with
  | zero => intro lh a w hs hC _ h; exact base 0 lh a w hs hC h.1 h.2
  | succ f ih =>
    intro lh a w hs hC hcl h
    by_cases hr : Region.ready .any (ops.take n).toArray lh = []
    · exact base (f + 1) lh a w hs hC hr (h.1 hr)
    · have hnot : ¬ ∀ k, k < n → lh.getD k false = true := by
        intro hall'
        apply hr
        apply List.eq_nil_iff_forall_not_mem.2
        intro i hi
        obtain ⟨g, _⟩ := mem_ready.1 hi
        have := hall' i (hhead lh hs i hi).1
        rw [getD_both' g] at this
        cases this
      refine ⟨fun h0 => ?_, fun i hi => ?_⟩
      · exfalso
        obtain ⟨i, hi⟩ := List.exists_mem_of_ne_nil _ hr
        have := (hhead lh hs i hi).2
        rw [h0] at this
        cases this
      · have hi' := htail lh hs hcl i hi hnot
        have hcl' : ∀ k o, k < n → ops[k]? = some o → (lh.setIfInBounds i true).getD k false = true → ∀ e ∈ o.after, Region.binds .any e = true → (lh.setIfInBounds i true).getD e.on false = true := by
          intro k o hk ho hkt e he hb
          by_cases hki : k = i
          · subst hki
            obtain ⟨_, o2, ho2, hal⟩ := mem_ready.1 hi'
            have ho2' : ops[k]? = some o2 := by simpa only [List.getElem?_toArray, List.getElem?_take, if_pos hk] using ho2
            rw [ho] at ho2'
            obtain rfl := Option.some.inj ho2'
            exact getD_set_true (hal e he hb)
          · rw [getD_set_ne false (fun e => hki e.symm)] at hkt
            exact getD_set_true (hcl k o hk ho hkt e he hb)
        have hlt := (hhead lh hs i hi').1
        have h1 := h.2 i hi'
        have hset : (lh ++ Array.replicate (ops.length - n) false).setIfInBounds i true = lh.setIfInBounds i true ++ Array.replicate (ops.length - n) false := by
          apply Array.ext'
          simp only [Array.toList_setIfInBounds, Array.toList_append]
          rw [List.set_append_left _ _ (by simp; omega)]
        have h2 := wpOp_of_qOpS (Q' := Q) (K' := fun a' w' => wpAny P .any ops.toArray Q ((ops.drop n).length + f) ((lh ++ Array.replicate (ops.length - n) false).setIfInBounds i true) a' w') hC (fun a' w' hw' hk => by rw [hset]; exact ih _ a' w' (by simpa using hs) hw' hcl' hk) h1
        have ho : ops[i]? = some (ops[i]'(by omega)) := List.getElem?_eq_getElem _
        unfold wpOp at h2 ⊢
        rw [show (ops.take n).toArray[i]? = some (ops[i]'(by omega)) from by simp [hlt]] at h2
        rw [show ops.toArray[i]? = some (ops[i]'(by omega)) from by simp]
        simp only at h2 ⊢
        rw [wanted_take hG hlt ho] at h2
        exact h2

theorem wp_drawS {id : Nat} {ops : List Oper} {n : Nat} {a : Act} {w : World} {Vs : List (Value → Prop)} (hm : P.follows .mixedOrders = true) (hn : n ≤ ops.length) (hL : Region.lexB .any (ops.take n).toArray = true)
    (hB : backEdges ops = true) (hG : guardBack ops = true) (hW : tailWaits ops n = true) (hC : C { w with drawn := w.drawn + 1 })
    (h : wpLexS P (ops.take n).toArray C (fun a' => ∀ w', C w' → wpList P ops.toArray Q (ops.drop n) a' w') (ops.take n) Vs a) : (Code.region id ops.toArray true).wp P Q a w := by
  simp only [Region.lexB, Bool.and_eq_true] at hL
  refine wp_region_any hm ?_
  have h1 := wpAnyS_lex (C := C) (S := fun i => Vs.getD i fun _ => False) (md := .any) hL.1 (ops.take n) Vs 0 (Array.replicate (ops.take n).toArray.size false) a (by simp) (fun j V hj => by simp [hj]) (by simpa using hL.2) h
  have h2 := head_anyS (Q := Q) hn hB hG hW (fun a' w' hC' hk => hk w' hC') (ops.take n).length _ a { w with drawn := w.drawn + 1 } (by simp; omega) hC (fun i o hi ho ht => by
    exfalso
    rw [Array.getD_eq_getD_getElem?, Array.getElem?_replicate] at ht
    split at ht <;> cases ht) h1
  have e1 : (ops.drop n).length + (ops.take n).length = ops.toArray.size := by simp; omega
  have e2 : Array.replicate (ops.take n).toArray.size false ++ Array.replicate (ops.length - n) false = Array.replicate ops.toArray.size false := by
    rw [Array.replicate_append_replicate]
    congr 1
    simp; omega
  rw [e1, e2] at h2
  exact h2

theorem silent_valS {o : Oper} {a : Act} {V : Value → Prop} (hs : silentOp o = true) {w : World} (hq : uponS P C V ((execOp a.eval o).run P w)) : ∃ v, V v ∧ Sil P o v a := by
  unfold silentOp at hs
  split at hs
  · rename_i x ho hg
    have hr : ∀ w, (execOp a.eval o).run P w = .ok (.value (a.eval x)) w := fun w => by simp only [execOp, ho, Sem.run_pure]
    rw [hr w] at hq
    exact ⟨_, hq.2, hg, hr⟩
  · cases hs

/-- The head, in whatever order; then the tail. -/
theorem head_anyS2 {ops : List Oper} {n : Nat} (hn : n ≤ ops.length) (hB : backEdges ops = true) (hG : guardBack ops = true) (hW : tailWaits2 ops n = true) (hQ : NoExit Q) (hS : Region.noSelect ops.toArray = true) {K : Act → Prop}
    (hK : ∀ a w, C w → K a → wpList P ops.toArray Q (ops.drop n) a w) : ∀ (f : Nat) (lh : Array Bool) (a : Act) (w : World), lh.size = n → C w →
    (∀ i o, i < n → ops[i]? = some o → lh.getD i false = true → ∀ e ∈ o.after, Region.binds .any e = true → lh.getD e.on false = true) →
    wpAnyS P .any (ops.take n).toArray C S K f lh a → wpAny P .any ops.toArray Q ((ops.drop n).length + f) (lh ++ Array.replicate (ops.length - n) false) a w := by
  -- what stands ready
  have hhead : ∀ (lh : Array Bool), lh.size = n → ∀ i, i ∈ Region.ready .any (ops.take n).toArray lh → i < n ∧ i ∈ Region.ready .any ops.toArray (lh ++ Array.replicate (ops.length - n) false) := by
    intro lh hs i hi
    obtain ⟨g, o, ho, hall⟩ := mem_ready.1 hi
    have hlt : i < n := by
      have := (Array.getElem?_eq_some_iff.1 ho).1
      simp at this; omega
    have ho' : ops[i]? = some o := by simpa [List.getElem?_take, hlt] using ho
    refine ⟨hlt, mem_ready.2 ⟨?_, o, by simpa using ho', fun e he hb => ?_⟩⟩
    · rw [Array.getD_eq_getD_getElem?, Array.getElem?_append_left (by omega)]
      rw [Array.getD_eq_getD_getElem?] at g
      exact g
    · have h1 := hall e he hb
      have h2 := backEdges_spec hB ho' e he hb
      rw [Array.getD_eq_getD_getElem?, Array.getElem?_append_left (by omega)]
      rw [Array.getD_eq_getD_getElem?] at h1
      exact h1
  have hall : ∀ (lh : Array Bool), lh.size = n → Region.ready .any (ops.take n).toArray lh = [] → ∀ i, i < n → lh.getD i false = true := by
    intro lh hs hr i
    induction i using Nat.strongRecOn with
    | _ i ih =>
      intro hi
      by_cases hu : lh.getD i true = false
      · exfalso
        have ho : ops[i]? = some (ops[i]'(by omega)) := List.getElem?_eq_getElem _
        have : i ∈ Region.ready .any (ops.take n).toArray lh := mem_ready.2 ⟨hu, ops[i]'(by omega), by simpa only [List.getElem?_toArray, List.getElem?_take, if_pos hi] using ho, fun e he hb => ih e.on (backEdges_spec hB ho e he hb) (by have := backEdges_spec hB ho e he hb; omega)⟩
        rw [hr] at this
        cases this
      · exact listed_cases hu (by omega)
  have htail : ∀ (lh : Array Bool), lh.size = n → (∀ i o, i < n → ops[i]? = some o → lh.getD i false = true → ∀ e ∈ o.after, Region.binds .any e = true → lh.getD e.on false = true) → ∀ i, i ∈ Region.ready .any ops.toArray (lh ++ Array.replicate (ops.length - n) false) → (∀ k, k < n → looseOp ops k = true → lh.getD k false = true) → (¬ ∀ k, k < n → lh.getD k false = true) → i ∈ Region.ready .any (ops.take n).toArray lh := by
    intro lh hs hcl i hi hloose hnot
    obtain ⟨g, o, ho, hal⟩ := mem_ready.1 hi
    have hlt0 : i < ops.length := by
      have := (Array.getElem?_eq_some_iff.1 ho).1
      simpa using this
    have ho' : ops[i]? = some o := by simpa using ho
    by_cases hlt : i < n
    · refine mem_ready.2 ⟨?_, o, by simpa [List.getElem?_take, hlt] using ho, fun e he hb => ?_⟩
      · rw [Array.getD_eq_getD_getElem?, Array.getElem?_append_left (by omega)] at g
        rw [Array.getD_eq_getD_getElem?]
        exact g
      · have h1 := hal e he hb
        have h2 := backEdges_spec hB ho' e he hb
        rw [Array.getD_eq_getD_getElem?, Array.getElem?_append_left (by omega)] at h1
        rw [Array.getD_eq_getD_getElem?]
        exact h1
    · exfalso
      by_cases hin : n < i
      · obtain ⟨e, he, hb, hon⟩ := tailWaits2_prev hW hin ho'
        have h1 := hal e he hb
        rw [hon, Array.getD_eq_getD_getElem?, Array.getElem?_append_right (by omega), Array.getElem?_replicate, if_pos (by omega)] at h1
        cases h1
      · obtain rfl : i = n := by omega
        have key : ∀ d k, k + d + 1 = i → lh.getD k false = true := by
          intro d
          induction d using Nat.strongRecOn with
          | _ d ih =>
            intro k hkd
            rcases tailWaits2_head hW hlt0 (show k < i by omega) with hlo | ⟨m, hm1, hm2, o2, ho2, e, he, hb, hon⟩
            · exact hloose k (by omega) hlo
            by_cases hmi : m = i
            · subst hmi
              rw [ho'] at ho2
              obtain rfl := Option.some.inj ho2
              have h1 := hal e he hb
              rw [hon, Array.getD_eq_getD_getElem?, Array.getElem?_append_left (by omega)] at h1
              rw [Array.getD_eq_getD_getElem?]
              exact h1
            · have h3 := ih (i - m - 1) (by omega) m (by omega)
              have h4 := hcl m o2 (by omega) ho2 h3 e he hb
              rwa [hon] at h4
        exact hnot fun k hk => key (i - k - 1) k (by omega)
  have base : ∀ (f : Nat) (lh : Array Bool) (a : Act) (w : World), lh.size = n → C w → Region.ready .any (ops.take n).toArray lh = [] → K a → wpAny P .any ops.toArray Q ((ops.drop n).length + f) (lh ++ Array.replicate (ops.length - n) false) a w := by
    intro f lh a w hs hC hr hk
    have hl := hall lh hs hr
    refine tail_any2 hB hW (ops.drop n) n f _ a w (Nat.le_refl _) (by simp; omega) (fun k => by simp [List.getElem?_drop]) (by simp; omega) (fun i hi => ?_) (fun i hi hi2 => ?_) (hK a w hC hk)
    · have := hl i hi
      rw [Array.getD_eq_getD_getElem?, Array.getElem?_append_left (by omega)]
      rw [Array.getD_eq_getD_getElem?] at this
      exact this
    · rw [Array.getD_eq_getD_getElem?, Array.getElem?_append_right (by omega)]
      rw [Array.getElem?_replicate, if_pos (by omega)]
      rfl
  intro f
  induction f with
  | zero => intro lh a w hs hC _ h; exact base 0 lh a w hs hC h.1 h.2
  | succ f ih =>
    intro lh a w hs hC hcl h
    by_cases hr : Region.ready .any (ops.take n).toArray lh = []
    · exact base (f + 1) lh a w hs hC hr (h.1 hr)
    · have hnot : ¬ ∀ k, k < n → lh.getD k false = true := by
        intro hall'
        apply hr
        apply List.eq_nil_iff_forall_not_mem.2
        intro i hi
        obtain ⟨g, _⟩ := mem_ready.1 hi
        have := hall' i (hhead lh hs i hi).1
        rw [getD_both' g] at this
        cases this
      have hset : ∀ i, i < n → (lh ++ Array.replicate (ops.length - n) false).setIfInBounds i true = lh.setIfInBounds i true ++ Array.replicate (ops.length - n) false := fun i hlt => by
        apply Array.ext'
        simp only [Array.toList_setIfInBounds, Array.toList_append]
        rw [List.set_append_left _ _ (by simp; omega)]
      by_cases hlo : ∃ k, k < n ∧ looseOp ops k = true ∧ lh.getD k false = false
      · obtain ⟨i, hin, hli, hlf⟩ := hlo
        obtain ⟨o, ho, hsil, hna, hap⟩ := looseOp_spec hli
        have hrd : i ∈ Region.ready .any (ops.take n).toArray lh := mem_ready.2 ⟨by
          have hlt : i < lh.size := by omega
          simp [hlt] at hlf ⊢; exact hlf, o, by simpa only [List.getElem?_toArray, List.getElem?_take, if_pos hin] using ho, fun e he hb => by rw [hna e he] at hb; cases hb⟩
        have h1 := h.2 i hrd
        have hot : (ops.take n).toArray[i]? = some o := by simpa only [List.getElem?_toArray, List.getElem?_take, if_pos hin] using ho
        have hg : o.guard = none := by
          unfold silentOp at hsil
          split at hsil
          · assumption
          · cases hsil
        unfold qOpS at h1
        rw [hot] at h1
        simp only at h1
        rw [if_pos (by simp [Region.wanted, hg])] at h1
        obtain ⟨hv0, hv2⟩ := h1
        obtain ⟨v, hVv, hsv⟩ := silent_valS hsil (hv0.1 w hC)
        have hsel : ∀ (j : Nat) (o : Oper) cs b, ops.toArray[j]? = some o → o.op ≠ .select cs b := fun j o cs b hj => Region.noSelect_spec hS j o cs b hj
        have hcl' : ∀ k o', k < n → ops[k]? = some o' → (lh.setIfInBounds i true).getD k false = true → ∀ e ∈ o'.after, Region.binds .any e = true → (lh.setIfInBounds i true).getD e.on false = true := by
          intro k o' hk ho' hkt e he hb
          by_cases hki : k = i
          · subst hki
            rw [ho] at ho'
            obtain rfl := Option.some.inj ho'
            rw [hna e he] at hb
            cases hb
          · rw [getD_set_ne false (fun e => hki e.symm)] at hkt
            exact getD_set_true (hcl k o' hk ho' hkt e he hb)
        have hgo := ih _ (a.put o.dst v) w (by simpa using hs) hC hcl' (hv2 v hVv)
        rw [← hset i hin] at hgo
        exact any_first hQ (by simpa using ho) hsel (fun j oj hj hji hno => hap j oj (by simpa using hj) hji hno) ((ops.drop n).length + f) _ a w (hhead lh hs i hrd).2 hsv hgo
      have hloose : ∀ k, k < n → looseOp ops k = true → lh.getD k false = true := fun k hk hl => by
        cases hh : lh.getD k false with
        | true => rfl
        | false => exact absurd ⟨k, hk, hl, hh⟩ hlo
      refine ⟨fun h0 => ?_, fun i hi => ?_⟩
      · exfalso
        obtain ⟨i, hi⟩ := List.exists_mem_of_ne_nil _ hr
        have := (hhead lh hs i hi).2
        rw [h0] at this
        cases this
      · have hi' := htail lh hs hcl i hi hloose hnot
        have hcl' : ∀ k o, k < n → ops[k]? = some o → (lh.setIfInBounds i true).getD k false = true → ∀ e ∈ o.after, Region.binds .any e = true → (lh.setIfInBounds i true).getD e.on false = true := by
          intro k o hk ho hkt e he hb
          by_cases hki : k = i
          · subst hki
            obtain ⟨_, o2, ho2, hal⟩ := mem_ready.1 hi'
            have ho2' : ops[k]? = some o2 := by simpa only [List.getElem?_toArray, List.getElem?_take, if_pos hk] using ho2
            rw [ho] at ho2'
            obtain rfl := Option.some.inj ho2'
            exact getD_set_true (hal e he hb)
          · rw [getD_set_ne false (fun e => hki e.symm)] at hkt
            exact getD_set_true (hcl k o hk ho hkt e he hb)
        have hlt := (hhead lh hs i hi').1
        have h1 := h.2 i hi'
        have h2 := wpOp_of_qOpS (Q' := Q) (K' := fun a' w' => wpAny P .any ops.toArray Q ((ops.drop n).length + f) ((lh ++ Array.replicate (ops.length - n) false).setIfInBounds i true) a' w') hC (fun a' w' hw' hk => by rw [hset i hlt]; exact ih _ a' w' (by simpa using hs) hw' hcl' hk) h1
        have ho : ops[i]? = some (ops[i]'(by omega)) := List.getElem?_eq_getElem _
        unfold wpOp at h2 ⊢
        rw [show (ops.take n).toArray[i]? = some (ops[i]'(by omega)) from by simp [hlt]] at h2
        rw [show ops.toArray[i]? = some (ops[i]'(by omega)) from by simp]
        simp only at h2 ⊢
        rw [wanted_take hG hlt ho] at h2
        exact h2

theorem wp_drawS2 {id : Nat} {ops : List Oper} {n : Nat} {a : Act} {w : World} {Vs : List (Value → Prop)} (hm : P.follows .mixedOrders = true) (hn : n ≤ ops.length) (hL : Region.lexB .any (ops.take n).toArray = true)
    (hB : backEdges ops = true) (hG : guardBack ops = true) (hW : tailWaits2 ops n = true) (hS : Region.noSelect ops.toArray = true) {Q0 : Exit → Act → World → Prop} (hQ0 : NoExit Q0) (hQQ : ∀ a w, Q0 .normal a w → Q .normal a w) (hC : C { w with drawn := w.drawn + 1 })
    (h : wpLexS P (ops.take n).toArray C (fun a' => ∀ w', C w' → wpList P ops.toArray Q0 (ops.drop n) a' w') (ops.take n) Vs a) : (Code.region id ops.toArray true).wp P Q a w := by
  simp only [Region.lexB, Bool.and_eq_true] at hL
  refine wp_region_any hm ?_
  have h1 := wpAnyS_lex (C := C) (S := fun i => Vs.getD i fun _ => False) (md := .any) hL.1 (ops.take n) Vs 0 (Array.replicate (ops.take n).toArray.size false) a (by simp) (fun j V hj => by simp [hj]) (by simpa using hL.2) h
  have h2 := head_anyS2 (Q := Q0) hn hB hG hW hQ0 hS (fun a' w' hC' hk => hk w' hC') (ops.take n).length _ a { w with drawn := w.drawn + 1 } (by simp; omega) hC (fun i o hi ho ht => by
    exfalso
    rw [Array.getD_eq_getD_getElem?, Array.getElem?_replicate] at ht
    split at ht <;> cases ht) h1
  have e1 : (ops.drop n).length + (ops.take n).length = ops.toArray.size := by simp; omega
  have e2 : Array.replicate (ops.take n).toArray.size false ++ Array.replicate (ops.length - n) false = Array.replicate ops.toArray.size false := by
    rw [Array.replicate_append_replicate]
    congr 1
    simp; omega
  rw [e1, e2] at h2
  exact any_exits hQ0 hQQ _ _ _ _ h2

end draw
end Sm
