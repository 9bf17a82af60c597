/-
  What is proved here: laws of the abstract values: how they stand to the model's values and to its memory. the abstract memory stands for the model's; each operation of the abstract evaluator stands for the model's operation. A text to be imported.
-/
import Derived.Test.YtgpbpgbokfdbeaaDoorSimA
namespace Sm
open Go Go.RowKit
set_option linter.unusedVariables false

/-- Where a block lies, from which cell on, how many cells it has from there. 'fz': memory that nobody writes: the block, from which cell on, the cells. 'own': blocks of those who called, which they may write. -/
structure EB where
  b : Nat
  o : Nat
  n : Nat
  fz : Nat → Nat → List C1 → Prop
  own : Nat → Prop

/-- A block alone. -/
def EB.at (b o n : Nat) : EB := ⟨b, o, n, fun _ _ _ => False, fun _ => False⟩
@[simp] theorem EB.at_b (b o n : Nat) : (EB.at b o n).b = b := rfl
@[simp] theorem EB.at_o (b o n : Nat) : (EB.at b o n).o = o := rfl
@[simp] theorem EB.at_n (b o n : Nat) : (EB.at b o n).n = n := rfl

abbrev Env := List EB

def RC (E : Env) : C1 → Value → Prop
  | .sc v _, u => u = v ∧ v.oneCell' = true
  | .ptr i off, u => ∃ e, E[i]? = some e ∧ u = .pointer (some ⟨e.b, e.o + off, none⟩)
  | .sl i off len sz, u => ∃ e cap, E[i]? = some e ∧ u = .slice (some ⟨e.b, e.o + off, none⟩) len cap ∧ len ≤ cap ∧ cap ≤ maxLen ∧ off + cap * sz ≤ e.n
  | .e0 i off, u => ∃ e, E[i]? = some e ∧ u = .slice (some ⟨e.b, e.o + off, none⟩) 0 0
  | .fn f ps, u => ∃ caps : List Value, u = .func (.func f) #[] caps.toArray ∧ caps.length = ps.length ∧ ∀ (j : Nat) (p : Nat × Nat) (v : Value), ps[j]? = some p → caps[j]? = some v → ∃ e, E[p.1]? = some e ∧ v = .pointer (some ⟨e.b, e.o + p.2, none⟩)
  | .em, u => ∃ base c, u = .slice base 0 c
  | .fl k, u => ∃ n, u = .float k n
  | .cf k, u => ∃ a b, u = .complex k a b
  | .lst n N sz f, u => (n = 0 ∧ N = 0 ∧ ∃ base c, u = .slice base 0 c) ∨
      ∃ (j : Nat) (e : EB) (b q o cap : Nat) (cs : List C1), E[j]? = some e ∧ e.fz b q cs ∧ u = .slice (some ⟨b, q + o, none⟩) n cap ∧ n ≤ N ∧ N ≤ cap ∧ cap ≤ maxLen ∧ o + N * sz ≤ cs.length ∧ ∀ k, k < N → f k = (cs.drop (o + k * sz)).take sz
  | .pl ds o, u => ∃ (j : Nat) (e : EB) (b q p : Nat) (cs : List C1), E[j]? = some e ∧ e.fz b q cs ∧ u = .pointer (some ⟨b, q + p + o, none⟩) ∧ p + ds.length ≤ cs.length ∧ ds = (cs.drop p).take ds.length
  | .pr i k sz o, u => ∃ e, E[i]? = some e ∧ u = .pointer (some ⟨e.b, e.o + (k * sz + o), none⟩)
  | .gr i n sz, u => (n = 0 ∧ u = .slice none 0 0) ∨ (n ≠ 0 ∧ ∃ e cap, E[i]? = some e ∧ u = .slice (some ⟨e.b, e.o + 0, none⟩) n cap ∧ n ≤ cap ∧ cap ≤ maxLen ∧ 0 + cap * sz ≤ e.n)
  | .ez, u => ∃ base, u = .slice base 0 0
  | .mp i, u => ∃ e, E[i]? = some e ∧ u = .map (some e.b)

def RCs (E : Env) (cs : List C1) (vs : List Value) : Prop :=
  cs.length = vs.length ∧ ∀ (j : Nat) (c : C1) (v : Value), cs[j]? = some c → vs[j]? = some v → RC E c v

def RP (E : Env) : Bool × List C1 → Value → Prop
  | (false, cs), v => ∃ c, cs = [c] ∧ RC E c v
  | (true, cs), v => ∃ vs, v = .agg vs.toArray ∧ RCs E cs vs

def RV (E : Env) : AV → Value → Prop
  | .one c, u => RC E c u
  | .agg cs, u => ∃ vs, u = .agg vs.toArray ∧ RCs E cs vs
  | .tup l, u => ∃ us : List Value, u = .tuple us.toArray ∧ l.length = us.length ∧ ∀ (j : Nat) (p : Bool × List C1) (v : Value), l[j]? = some p → us[j]? = some v → RP E p v
  | .undef, u => u = Go.undef
  | .bad, _ => True

theorem RC.one {E : Env} {c : C1} {u : Value} (h : RC E c u) : u.oneCell' = true := by
  cases c with
  | sc v st => exact h.1 ▸ h.2
  | ptr i off => obtain ⟨e, _, rfl⟩ := h; rfl
  | sl i off len sz => obtain ⟨e, cap, _, rfl, _⟩ := h; rfl
  | e0 i off => obtain ⟨e, _, rfl⟩ := h; rfl
  | fn f ps => obtain ⟨caps, rfl, _⟩ := h; rfl
  | em => obtain ⟨base, c, rfl⟩ := h; rfl
  | fl k => obtain ⟨n, rfl⟩ := h; rfl
  | cf k => obtain ⟨a, b, rfl⟩ := h; rfl
  | lst n N sz f =>
    rcases h with ⟨_, _, base, c, rfl⟩ | ⟨_, _, _, _, _, _, _, _, _, rfl, _⟩
    · rfl
    · rfl
  | pl ds o => obtain ⟨_, _, _, _, _, _, _, _, rfl, _⟩ := h; rfl
  | pr i k sz o => obtain ⟨e, _, rfl⟩ := h; rfl
  | gr i n sz =>
    rcases h with ⟨_, rfl⟩ | ⟨_, e, cap, _, rfl, _⟩
    · rfl
    · rfl
  | ez => obtain ⟨base, rfl⟩ := h; rfl
  | mp i => obtain ⟨e, _, rfl⟩ := h; rfl

theorem cells_one {u : Value} (h : u.oneCell' = true) : u.cells = #[u] := by
  cases u <;> first | rfl | cases h

theorem prefix_get {E E' : Env} (h : E <+: E') {i : Nat} {e : EB} (hi : E[i]? = some e) : E'[i]? = some e := by
  obtain ⟨t, rfl⟩ := h
  rw [List.getElem?_append_left (List.getElem?_eq_some_iff.1 hi).1]
  exact hi

theorem RC.mono {E E' : Env} (h : E <+: E') {c : C1} {u : Value} (hc : RC E c u) : RC E' c u := by
  cases c with
  | sc v st => exact hc
  | ptr i off => obtain ⟨e, he, rfl⟩ := hc; exact ⟨e, prefix_get h he, rfl⟩
  | sl i off len sz => obtain ⟨e, cap, he, r⟩ := hc; exact ⟨e, cap, prefix_get h he, r⟩
  | e0 i off => obtain ⟨e, he, r⟩ := hc; exact ⟨e, prefix_get h he, r⟩
  | fn f ps => obtain ⟨caps, hu, hl, r⟩ := hc; exact ⟨caps, hu, hl, fun j p v h1 h2 => by obtain ⟨e, he, hv⟩ := r j p v h1 h2; exact ⟨e, prefix_get h he, hv⟩⟩
  | em => exact hc
  | fl k => exact hc
  | cf k => exact hc
  | lst n N sz f =>
    rcases hc with hc | ⟨j, e, b, q, o, cap, cs, he, r⟩
    · exact .inl hc
    · exact .inr ⟨j, e, b, q, o, cap, cs, prefix_get h he, r⟩
  | pl ds o => obtain ⟨j, e, b, q, p, cs, he, r⟩ := hc; exact ⟨j, e, b, q, p, cs, prefix_get h he, r⟩
  | pr i k sz o => obtain ⟨e, he, rfl⟩ := hc; exact ⟨e, prefix_get h he, rfl⟩
  | gr i n sz =>
    rcases hc with hc | ⟨hn, e, cap, he, r⟩
    · exact .inl hc
    · exact .inr ⟨hn, e, cap, prefix_get h he, r⟩
  | ez => exact hc
  | mp i => obtain ⟨e, he, r⟩ := hc; exact ⟨e, prefix_get h he, r⟩

theorem RCs.mono {E E' : Env} (h : E <+: E') {cs : List C1} {vs : List Value} (hc : RCs E cs vs) : RCs E' cs vs :=
  ⟨hc.1, fun j c v h1 h2 => (hc.2 j c v h1 h2).mono h⟩

theorem RP.mono {E E' : Env} (h : E <+: E') {p : Bool × List C1} {u : Value} (hc : RP E p u) : RP E' p u := by
  obtain ⟨b, cs⟩ := p
  cases b with
  | false => obtain ⟨c, rfl, hc⟩ := hc; exact ⟨c, rfl, hc.mono h⟩
  | true => obtain ⟨vs, rfl, hc⟩ := hc; exact ⟨vs, rfl, hc.mono h⟩

theorem RV.mono {E E' : Env} (h : E <+: E') {a : AV} {u : Value} (hc : RV E a u) : RV E' a u := by
  cases a with
  | one c => exact RC.mono h hc
  | agg cs => obtain ⟨vs, rfl, hc⟩ := hc; exact ⟨vs, rfl, hc.mono h⟩
  | tup l => obtain ⟨us, rfl, hl, hc⟩ := hc; exact ⟨us, rfl, hl, fun j p v h1 h2 => (hc j p v h1 h2).mono h⟩
  | undef => exact hc
  | bad => trivial

/-! ### lists of cells -/

theorem RCs.nil (E : Env) : RCs E [] [] := ⟨rfl, by simp⟩

theorem RCs.single {E : Env} {c : C1} {v : Value} (h : RC E c v) : RCs E [c] [v] :=
  ⟨rfl, fun j c' v' h1 h2 => by
    cases j with
    | zero => simp at h1 h2; subst h1; subst h2; exact h
    | succ j => simp at h1⟩

theorem RCs.append {E : Env} {cs ds : List C1} {vs us : List Value} (h : RCs E cs vs) (k : RCs E ds us) : RCs E (cs ++ ds) (vs ++ us) := by
  refine ⟨by simp [h.1, k.1], fun j c v h1 h2 => ?_⟩
  by_cases hj : j < cs.length
  · rw [List.getElem?_append_left hj] at h1
    rw [List.getElem?_append_left (by rw [← h.1]; exact hj)] at h2
    exact h.2 j c v h1 h2
  · rw [List.getElem?_append_right (by omega)] at h1
    rw [List.getElem?_append_right (by rw [← h.1]; omega), ← h.1] at h2
    exact k.2 _ c v h1 h2

theorem RCs.take {E : Env} {cs : List C1} {vs : List Value} (h : RCs E cs vs) (n : Nat) : RCs E (cs.take n) (vs.take n) := by
  refine ⟨by simp [h.1], fun j c v h1 h2 => ?_⟩
  rw [List.getElem?_take] at h1 h2
  split at h1
  · rename_i hj; rw [if_pos hj] at h2; exact h.2 j c v h1 h2
  · cases h1

theorem RCs.drop {E : Env} {cs : List C1} {vs : List Value} (h : RCs E cs vs) (n : Nat) : RCs E (cs.drop n) (vs.drop n) := by
  refine ⟨by simp [h.1], fun j c v h1 h2 => ?_⟩
  rw [List.getElem?_drop] at h1 h2
  exact h.2 _ c v h1 h2

theorem RCs.splice {E : Env} {cs ds : List C1} {vs us : List Value} (h : RCs E cs vs) (k : RCs E ds us) (off : Nat) :
    RCs E (splice cs off ds) (vs.take off ++ us ++ vs.drop (off + us.length)) := by
  unfold Sm.splice
  rw [k.1]
  exact ((h.take off).append k).append (h.drop _)

theorem RCs.get {E : Env} {cs : List C1} {vs : List Value} (h : RCs E cs vs) {j : Nat} {c : C1} (hc : cs[j]? = some c) : ∃ v, vs[j]? = some v ∧ RC E c v := by
  have hj : j < cs.length := (List.getElem?_eq_some_iff.1 hc).1
  have hv : vs[j]? = some (vs[j]'(by rw [← h.1]; exact hj)) := List.getElem?_eq_getElem _
  exact ⟨_, hv, h.2 j c _ hc hv⟩

theorem RCs.ones {E : Env} {cs : List C1} {vs : List Value} (h : RCs E cs vs) : ∀ v ∈ vs, v.oneCell' = true := by
  intro v hv
  obtain ⟨j, hj⟩ := List.mem_iff_getElem?.1 hv
  have hlt : j < vs.length := (List.getElem?_eq_some_iff.1 hj).1
  have hc : cs[j]? = some (cs[j]'(by rw [h.1]; exact hlt)) := List.getElem?_eq_getElem _
  exact (h.2 j _ v hc hj).one

theorem allV_spec : ∀ (cs : List C1) (vs : List Value), allV cs = some vs → cs.length = vs.length ∧ ∀ (j : Nat) (c : C1) (v : Value), cs[j]? = some c → vs[j]? = some v → c.toV = some v
  | [], vs, h => by simp only [allV, Option.some.injEq] at h; subst h; simp
  | c :: l, vs, h => by
    simp only [allV] at h
    split at h
    · rename_i v ws hv hws
      simp only [Option.some.injEq] at h; subst h
      obtain ⟨h1, h2⟩ := allV_spec l ws hws
      refine ⟨by simp [h1], fun j c' v' hc hv' => ?_⟩
      cases j with
      | zero => simp at hc hv'; subst hc; subst hv'; exact hv
      | succ j => simp at hc hv'; exact h2 j c' v' hc hv'
    · cases h

theorem toV_RC {E : Env} {c : C1} {v u : Value} (hv : c.toV = some v) (h : RC E c u) : u = v := by
  cases c with
  | sc w st => simp only [C1.toV, Option.some.injEq] at hv; exact h.1.trans hv
  | ptr i off => simp [C1.toV] at hv
  | sl i off len sz => simp [C1.toV] at hv
  | e0 i off => simp [C1.toV] at hv
  | fn f ps => simp [C1.toV] at hv
  | em => simp [C1.toV] at hv
  | fl k => simp [C1.toV] at hv
  | cf k => simp [C1.toV] at hv
  | lst n N sz f => simp [C1.toV] at hv
  | pl ds o => simp [C1.toV] at hv
  | pr i k sz o => simp [C1.toV] at hv
  | gr i n sz => simp [C1.toV] at hv
  | ez => simp [C1.toV] at hv
  | mp i => simp [C1.toV] at hv

theorem toV_RCs {E : Env} {cs : List C1} {vs us : List Value} (hv : allV cs = some vs) (h : RCs E cs us) : us = vs := by
  obtain ⟨h1, h2⟩ := allV_spec cs vs hv
  apply List.ext_getElem?
  intro j
  by_cases hj : j < cs.length
  · have hc : cs[j]? = some cs[j] := List.getElem?_eq_getElem hj
    have hu : us[j]? = some (us[j]'(by rw [← h.1]; exact hj)) := List.getElem?_eq_getElem _
    have hw : vs[j]? = some (vs[j]'(by rw [← h1]; exact hj)) := List.getElem?_eq_getElem _
    rw [hu, hw, toV_RC (h2 j _ _ hc hw) (h.2 j _ _ hc hu)]
  · rw [List.getElem?_eq_none (by rw [← h.1]; omega), List.getElem?_eq_none (by rw [← h1]; omega)]

/-- What a value without memory stands for is told by it. -/
theorem toV_RV {E : Env} {a : AV} {v u : Value} (hv : a.toV = some v) (h : RV E a u) : u = v := by
  cases a with
  | one c => exact toV_RC hv h
  | agg cs =>
    simp only [AV.toV, Option.map_eq_some_iff] at hv
    obtain ⟨vs, hvs, rfl⟩ := hv
    obtain ⟨us, rfl, hu⟩ := h
    rw [toV_RCs hvs hu]
  | tup l => simp [AV.toV] at hv
  | undef => simp only [AV.toV, Option.some.injEq] at hv; exact h.trans hv
  | bad => simp [AV.toV] at hv

theorem oneC_eq (v : Value) : oneC v = v.oneCell' := by cases v <;> rfl

theorem RCs_scs {E : Env} {vs : List Value} {st : Bool} (h : ∀ v ∈ vs, v.oneCell' = true) : RCs E (vs.map fun v => .sc v st) vs :=
  ⟨by simp, fun j c v h1 h2 => by
    simp only [List.getElem?_map, h2, Option.map_some, Option.some.injEq] at h1
    subst h1
    exact ⟨rfl, h v (List.mem_of_getElem? h2)⟩⟩

theorem ofV_RV {E : Env} {v : Value} {st : Bool} {a : AV} (h : ofV v st = some a) : RV E a v := by
  unfold ofV at h
  split at h
  · rename_i vs
    split at h
    · rename_i hall
      simp only [Option.some.injEq] at h; subst h
      refine ⟨vs.toList, by simp, RCs_scs fun v hv => ?_⟩
      rw [← oneC_eq]
      exact List.all_eq_true.1 hall v hv
    · cases h
  · cases h
  · rename_i h1 h2
    simp only [Option.some.injEq] at h; subst h
    refine ⟨rfl, ?_⟩
    cases v <;> first | rfl | exact absurd rfl (h1 _) | exact absurd rfl (h2 _)

theorem cells_RV {E : Env} {a : AV} {cs : List C1} {u : Value} (hc : a.cells = some cs) (h : RV E a u) : RCs E cs u.cells.toList := by
  cases a with
  | one c =>
    simp only [AV.cells, Option.some.injEq] at hc; subst hc
    rw [cells_one (RC.one h)]
    exact RCs.single h
  | agg ds =>
    simp only [AV.cells, Option.some.injEq] at hc; subst hc
    obtain ⟨vs, rfl, hr⟩ := h
    simpa [Value.cells] using hr
  | tup l => simp [AV.cells] at hc
  | undef => simp [AV.cells] at hc
  | bad => simp [AV.cells] at hc

/-! ### the temporaries -/

theorem beq_eq (a b : Nat) : Nat.beq a b = decide (a = b) := by
  rw [Bool.eq_iff_iff]; simp

set_option linter.unusedSimpArgs false in
theorem Tr.get_set : ∀ (f : Nat) (t : Tr) (i j : Nat) (x : AV), 1 ≤ i → i < 2 ^ f → 1 ≤ j → Tr.get f (Tr.set f t i x) j = if i = j then x else Tr.get f t j
  | 0, t, i, j, x, h1, h2, _ => by simp at h2; omega
  | f + 1, t, i, j, x, h1, h2, h3 => by
    have hp : 2 ^ (f + 1) = 2 * 2 ^ f := by rw [Nat.pow_succ]; omega
    have leafget : ∀ k, Tr.get f .leaf k = .undef := fun k => by cases f <;> rfl
    have fillget : ∀ k, Tr.get f .fill k = .bad := fun k => by cases f <;> rfl
    by_cases hi : i = 1
    · subst hi
      by_cases hj : j = 1
      · subst hj
        cases t <;> simp [Tr.set, Tr.get]
      · have hj' : Nat.beq j 1 = false := by rw [beq_eq]; simpa using hj
        have hne : ¬ (1 = j) := by omega
        cases t with
        | leaf => simp only [Tr.set, Tr.get, Nat.beq, hj', if_neg hne, leafget]; cases Nat.beq (j % 2) 0 <;> rfl
        | fill => simp only [Tr.set, Tr.get, Nat.beq, hj', if_neg hne, fillget]; cases Nat.beq (j % 2) 0 <;> rfl
        | node v l r => simp only [Tr.set, Tr.get, Nat.beq, hj', if_neg hne]
    · have hi' : Nat.beq i 1 = false := by rw [beq_eq]; simpa using hi
      have hihalf : 1 ≤ i / 2 ∧ i / 2 < 2 ^ f := by omega
      by_cases hj : j = 1
      · subst hj
        have hne : ¬ (i = 1) := hi
        cases t with
        | leaf => cases hb : Nat.beq (i % 2) 0 <;> simp [Tr.set, Tr.get, hi', hb, hne]
        | fill => cases hb : Nat.beq (i % 2) 0 <;> simp [Tr.set, Tr.get, hi', hb, hne]
        | node v l r => cases hb : Nat.beq (i % 2) 0 <;> simp [Tr.set, Tr.get, hi', hb, hne]
      · have hj' : Nat.beq j 1 = false := by rw [beq_eq]; simpa using hj
        have hjhalf : 1 ≤ j / 2 := by omega
        have ih := fun (t : Tr) => Tr.get_set f t (i / 2) (j / 2) x hihalf.1 hihalf.2 hjhalf
        have hie : Nat.beq (i % 2) 0 = decide (i % 2 = 0) := beq_eq _ _
        have hje : Nat.beq (j % 2) 0 = decide (j % 2 = 0) := beq_eq _ _
        by_cases hb : i % 2 = 0 <;> by_cases hc : j % 2 = 0
        · have heq : (i / 2 = j / 2) ↔ (i = j) := by omega
          cases t <;> simp [Tr.set, Tr.get, hi', hj', hie, hje, hb, hc, ih, heq, leafget, fillget]
        · have hne : ¬ i = j := by omega
          cases t <;> simp [Tr.set, Tr.get, hi', hj', hie, hje, hb, hc, hne, leafget, fillget]
        · have hne : ¬ i = j := by omega
          cases t <;> simp [Tr.set, Tr.get, hi', hj', hie, hje, hb, hc, hne, leafget, fillget]
        · have heq : (i / 2 = j / 2) ↔ (i = j) := by omega
          cases t <;> simp [Tr.set, Tr.get, hi', hj', hie, hje, hb, hc, ih, heq, leafget, fillget]

/-- The temporaries of a frame stand for those of the model's. -/
def RT (E : Env) (tm : Tm) (tmps : Array Value) : Prop :=
  tmps.size = tm.n ∧ tm.n ≤ 4000 ∧ ∀ i, i < tm.n → RV E (getT tm i) (tmps.getD i Go.undef)

theorem RT.mono {E E' : Env} (h : E <+: E') {tm : Tm} {tmps : Array Value} (ht : RT E tm tmps) : RT E' tm tmps :=
  ⟨ht.1, ht.2.1, fun i hi => (ht.2.2 i hi).mono h⟩

theorem blt_eq (a b : Nat) : Nat.blt a b = decide (a < b) := by
  rw [Bool.eq_iff_iff]; simp [Nat.blt_eq]

theorem setT_n (tm : Tm) (i : Nat) (x : AV) : (setT tm i x).n = tm.n := by
  unfold setT
  cases Nat.blt i tm.n <;> rfl

theorem getT_setT {tm : Tm} {i j : Nat} {x : AV} (hn : tm.n ≤ 4000) (hj : j < tm.n) : getT (setT tm i x) j = if i = j then x else getT tm j := by
  by_cases hi : i < tm.n
  · have h1 : Nat.blt i tm.n = true := by rw [blt_eq]; simpa using hi
    have h2 : Nat.blt j tm.n = true := by rw [blt_eq]; simpa using hj
    simp only [getT, setT, h1, h2]
    rw [Tr.get_set 12 tm.t (i + 1) (j + 1) x (by omega) (by omega) (by omega)]
    simp
  · have h1 : Nat.blt i tm.n = false := by rw [blt_eq]; simpa using hi
    have hne : ¬ i = j := by omega
    simp only [setT, h1, if_neg hne]

theorem RT.set {E : Env} {tm : Tm} {tmps : Array Value} (ht : RT E tm tmps) (i : Nat) {x : AV} {u : Value} (hx : RV E x u) : RT E (setT tm i x) (tmps.setIfInBounds i u) := by
  refine ⟨by simp [setT_n, ht.1], by rw [setT_n]; exact ht.2.1, fun j hj => ?_⟩
  rw [setT_n] at hj
  rw [getT_setT ht.2.1 hj]
  have hsz : j < tmps.size := by rw [ht.1]; exact hj
  by_cases hij : i = j
  · subst hij
    simp [Array.getD, hsz, hx]
  · rw [if_neg hij]
    have h0 := ht.2.2 j hj
    have e : (tmps.setIfInBounds i u).getD j Go.undef = tmps.getD j Go.undef := by
      simp [hij]
    rw [e]
    exact h0

theorem RT.put {E : Env} {tm : Tm} {a : Act} (ht : RT E tm a.tmps) (d : Option Tmp) {x : AV} {u : Value} (hx : RV E x u) : RT E (putT tm d x) (a.put d u).tmps := by
  cases d with
  | none => exact ht
  | some d => exact ht.set d hx

theorem RT.eval {E : Env} {tm : Tm} {a : Act} (ht : RT E tm a.tmps) (x : Operand) : RV E (evalO tm x) (a.eval x) := by
  cases x with
  | tmp t =>
    simp only [evalO, Act.eval]
    by_cases h : t < tm.n
    · exact ht.2.2 t h
    · have h1 : Nat.blt t tm.n = false := by rw [blt_eq]; simpa using h
      have hs : ¬ t < a.tmps.size := by rw [ht.1]; exact h
      simp only [getT, h1, Array.getD, hs, dif_neg, not_false_eq_true]
      rfl
  | const v =>
    simp only [evalO, Act.eval]
    split
    · rename_i a h; exact ofV_RV h
    · trivial
  | global g => exact ⟨rfl, rfl⟩
  | func f => exact ⟨[], rfl, rfl, by simp⟩


/-! ### values that refer to no block -/

/-- A value that refers to no block by its number. -/
def freeC : C1 → Prop
  | .sc _ _ | .em | .fl _ | .cf _ | .lst _ _ _ _ | .pl _ _ | .ez => True
  | .fn _ ps => ps = []
  | _ => False

/-- What lies in memory that nobody writes is there, too. -/
def FzLe (E E' : Env) : Prop := ∀ (j : Nat) (e : EB) (b q : Nat) (cs : List C1), E[j]? = some e → e.fz b q cs → ∃ (j' : Nat) (e' : EB), E'[j']? = some e' ∧ e'.fz b q cs

theorem FzLe.of {E E' : Env} (h : E <+: E') : FzLe E E' := fun j e _ _ _ he hf => ⟨j, e, prefix_get h he, hf⟩

theorem FzLe.trans {E E' E2 : Env} (h : FzLe E E') (h2 : FzLe E' E2) : FzLe E E2 := fun j e b q cs he hf => by
  obtain ⟨j', e', he', hf'⟩ := h j e b q cs he hf
  exact h2 j' e' b q cs he' hf'

theorem freeC_RC {E E' : Env} (h : FzLe E E') {c : C1} {u : Value} (hf : freeC c) (hr : RC E c u) : RC E' c u := by
  cases c with
  | sc v st => exact hr
  | em => exact hr
  | fl k => exact hr
  | cf k => exact hr
  | lst n N sz f =>
    rcases hr with hr | ⟨j, e, b, q, o, cap, cs, he, hz, r⟩
    · exact .inl hr
    · obtain ⟨j', e', he', hz'⟩ := h j e b q cs he hz
      exact .inr ⟨j', e', b, q, o, cap, cs, he', hz', r⟩
  | pl ds o =>
    obtain ⟨j, e, b, q, p, cs, he, hz, r⟩ := hr
    obtain ⟨j', e', he', hz'⟩ := h j e b q cs he hz
    exact ⟨j', e', b, q, p, cs, he', hz', r⟩
  | ez => exact hr
  | fn f ps =>
    have hf : ps = [] := hf
    subst hf
    obtain ⟨caps, hu, hl, _⟩ := hr
    exact ⟨caps, hu, hl, fun j p v hp => by simp at hp⟩
  | ptr i off => exact hf.elim
  | sl i off len sz => exact hf.elim
  | e0 i off => exact hf.elim
  | pr i k sz o => exact hf.elim
  | gr i n sz => exact hf.elim
  | mp i => exact hf.elim

theorem freeCs_RCs {E E' : Env} (h : FzLe E E') {cs : List C1} {vs : List Value} (hf : ∀ c ∈ cs, freeC c) (hr : RCs E cs vs) : RCs E' cs vs :=
  ⟨hr.1, fun j c v h1 h2 => freeC_RC h (hf c (List.mem_of_getElem? h1)) (hr.2 j c v h1 h2)⟩

def NoFz (E : Env) : Prop := ∀ (j : Nat) (e : EB), E[j]? = some e → (∀ (b q : Nat) (cs : List C1), ¬ e.fz b q cs) ∧ ∀ b, ¬ e.own b

theorem NoFz.nil : NoFz [] := fun j e h => by simp at h

theorem NoFz.cons {E : Env} (h : NoFz E) (b o n : Nat) : NoFz (EB.at b o n :: E) := fun j e he => by
  cases j with
  | zero => simp at he; subst he; exact ⟨fun _ _ _ hz => hz, fun _ hz => hz⟩
  | succ j => exact h j e (by simpa using he)

/-- Of those who called, and of what nobody writes, one knows nothing more. -/
def EvLe (E' E : Env) : Prop := FzLe E' E ∧ ∀ (j : Nat) (e : EB) (b : Nat), E'[j]? = some e → e.own b → ∃ (j' : Nat) (e' : EB), E[j']? = some e' ∧ e'.own b
end Sm
namespace Sm
open Go Go.RowKit
set_option linter.unusedVariables false

theorem getB_eq : ∀ (hp : List Blk) (i : Nat), getB hp i = hp[i]?
  | [], i => by cases i <;> rfl
  | b :: l, 0 => rfl
  | b :: l, i + 1 => by simp only [getB, getB_eq l i]; rfl

theorem setB_eq : ∀ (hp : List Blk) (i : Nat) (b : Blk), setB hp i b = hp.set i b
  | [], i, b => by cases i <;> rfl
  | a :: l, 0, b => rfl
  | a :: l, i + 1, b => by simp only [setB, setB_eq l i b]; rfl

/-- The listed package-level variables hold what is listed. -/
def LaidW (B : Nat) (w : World) : Prop := ∀ (g : Nat) (vs : List Value), laidT g = some vs → g < B ∧ ∃ c e fz, w.heap[g]? = some (.cells c e fz) ∧ c.toList = vs ∧ ∀ v ∈ vs, v.oneCell' = true

theorem laidNone {B : Nat} {w : World} (h : ∀ g, laidT g = none) : LaidW B w := fun g vs hg => by rw [h g] at hg; cases hg

/-- What lies in memory that nobody writes lies there, and no block of one's own lies there; the blocks of those who called were there before. -/
def Frz (B : Nat) (E : Env) (hp : List Blk) (w : World) : Prop := (∀ (j : Nat) (e : EB) (b q : Nat) (cs : List C1), E[j]? = some e → e.fz b q cs →
    (∃ c t z, w.heap[b]? = some (.cells c t z) ∧ q + cs.length ≤ c.size ∧ RCs E cs ((c.toList.drop q).take cs.length) ∧ ∀ x ∈ cs, freeC x) ∧
    (∀ (i : Nat) (bi : Blk) (ei : EB), hp[i]? = some bi → E[i]? = some ei → bi.live = true → bi.ro = false → ei.b ≠ b) ∧
    ∀ (i : Nat) (ei : EB), E[i]? = some ei → ¬ ei.own b) ∧ ∀ (j : Nat) (e : EB) (b : Nat), E[j]? = some e → e.own b → b < B

theorem Frz.keep {B : Nat} {E E' : Env} {hp hp' : List Blk} {w w' : World} (h : Frz B E hp w) (h1 : EvLe E' E) (h2 : FzLe E E')
    (hw : ∀ (b : Nat) c t z, w.heap[b]? = some (.cells c t z) → (∃ (j : Nat) (e : EB) (q : Nat) (cs : List C1), E[j]? = some e ∧ e.fz b q cs) → w'.heap[b]? = some (.cells c t z))
    (hn : ∀ (i : Nat) (bi : Blk) (ei : EB), hp'[i]? = some bi → E'[i]? = some ei → bi.live = true → bi.ro = false →
      (∃ (i' : Nat) (bi' : Blk) (ei' : EB), hp[i']? = some bi' ∧ E[i']? = some ei' ∧ bi'.live = true ∧ bi'.ro = false ∧ ei'.b = ei.b) ∨ w.heap.size ≤ ei.b) : Frz B E' hp' w' := by
  refine ⟨fun j e b q cs he hf => ?_, fun j e b he ho => ?_⟩
  · obtain ⟨j', e', he', hf'⟩ := h1.1 j e b q cs he hf
    obtain ⟨⟨c, t, z, hc, h3, h4, h5⟩, h6, h7⟩ := h.1 j' e' b q cs he' hf'
    refine ⟨⟨c, t, z, hw b c t z hc ⟨j', e', q, cs, he', hf'⟩, h3, freeCs_RCs h2 h5 h4, h5⟩, fun i bi ei hi hei hl hro => ?_, fun i ei hei ho => ?_⟩
    · rcases hn i bi ei hi hei hl hro with ⟨i', bi', ei', a1, a2, a3, a4, a5⟩ | hge
      · rw [← a5]; exact h6 i' bi' ei' a1 a2 a3 a4
      · have := (Array.getElem?_eq_some_iff.1 hc).1
        omega
    · obtain ⟨i', ei', g1, g2⟩ := h1.2 i ei b hei ho
      exact h7 i' ei' g1 g2
  · obtain ⟨j', e', he', ho'⟩ := h1.2 j e b he ho
    exact h.2 j' e' b he' ho'

theorem NoFz.frz {E : Env} (h : NoFz E) (B : Nat) (hp : List Blk) (w : World) : Frz B E hp w := ⟨fun j e b q cs he hz => ((h j e he).1 b q cs hz).elim, fun j e b he ho => ((h j e he).2 b ho).elim⟩

theorem FzLe.refl (E : Env) : FzLe E E := fun j e _ _ _ he hf => ⟨j, e, he, hf⟩

theorem EvLe.refl (E : Env) : EvLe E E := ⟨.refl E, fun j e _ he hf => ⟨j, e, he, hf⟩⟩

theorem env_two {E : Env} {x y : EB} {j : Nat} (h : (E ++ [x])[j]? = some y) : E[j]? = some y ∨ (j = E.length ∧ y = x) := by
  by_cases hj : j < E.length
  · rw [List.getElem?_append_left hj] at h
    exact .inl h
  · rw [List.getElem?_append_right (by omega)] at h
    have h0 := (List.getElem?_eq_some_iff.1 h).1
    have h1 : j - E.length = 0 := by simp at h0; omega
    rw [h1] at h
    simp only [List.getElem?_cons_zero, Option.some.injEq] at h
    exact .inr ⟨by omega, h.symm⟩

theorem EvLe.none {E : Env} {x : EB} (h1 : ∀ b q cs, ¬ x.fz b q cs) (h2 : ∀ b, ¬ x.own b) : EvLe (E ++ [x]) E :=
  ⟨fun j e b' q cs he hf => by
    rcases env_two he with he | ⟨_, rfl⟩
    · exact ⟨j, e, he, hf⟩
    · exact (h1 _ _ _ hf).elim,
  fun j e b' he hf => by
    rcases env_two he with he | ⟨_, rfl⟩
    · exact ⟨j, e, he, hf⟩
    · exact (h2 _ hf).elim⟩

theorem EvLe.at (E : Env) (b o n : Nat) : EvLe (E ++ [EB.at b o n]) E := .none (fun _ _ _ h => h) (fun _ h => h)

theorem EvLe.one {E : Env} {x : EB} {i : Nat} (h : E[i]? = some x) : EvLe (E ++ [x]) E :=
  ⟨fun j e b' q cs he hf => by
    rcases env_two he with he | ⟨_, rfl⟩
    · exact ⟨j, e, he, hf⟩
    · exact ⟨i, _, h, hf⟩,
  fun j e b' he hf => by
    rcases env_two he with he | ⟨_, rfl⟩
    · exact ⟨j, e, he, hf⟩
    · exact ⟨i, _, h, hf⟩⟩

/-- A block's cells, and how many there are in memory; behind those of a full one there are no others. -/
def Fits (b : Blk) (n : Nat) : Prop := b.cells.length ≤ n ∧ (b.full = true → b.ro = false → n = b.cells.length)

theorem noMp_spec {b : Body} (h : noMp b = true) (l : List (Int × C1)) : b ≠ .mp l := fun e => by rw [e] at h; cases h

/-- A map's entries: keys that are whole numbers, and what they hold. -/
def MapR (E : Env) (l : List (Int × C1)) (es : Array MapEntry) : Prop :=
  l.length = es.size ∧ ∀ (j : Nat) (p : Int × C1) (en : MapEntry), l[j]? = some p → es[j]? = some en → en.key = .int .i64 p.1 ∧ RC E p.2 en.val

/-- The maps stand for maps of the world, no two for the same one. -/
def Maps (B : Nat) (E : Env) (hp : List Blk) (w : World) : Prop :=
  (∀ (i : Nat) (b : Blk) (e : EB) (l : List (Int × C1)), hp[i]? = some b → E[i]? = some e → b.body = .mp l → B ≤ e.b ∧ ∃ es cl, w.heap[e.b]? = some (.map es cl) ∧ MapR E l es) ∧
  ∀ (i j : Nat) (bi bj : Blk) (ei ej : EB) (l m : List (Int × C1)), i ≠ j → hp[i]? = some bi → hp[j]? = some bj → E[i]? = some ei → E[j]? = some ej → bi.body = .mp l → bj.body = .mp m → ei.b ≠ ej.b

theorem Maps.keepE {B : Nat} {E E' : Env} {hp hp' : List Blk} {w w' : World} (h : Maps B E hp w) (hRC : ∀ c u, RC E c u → RC E' c u)
    (hw : ∀ (b : Nat) es cl, w.heap[b]? = some (.map es cl) → w'.heap[b]? = some (.map es cl))
    (back : ∀ (i : Nat) (b : Blk) (e : EB) (l : List (Int × C1)), hp'[i]? = some b → E'[i]? = some e → b.body = .mp l → ∃ b0 e0, hp[i]? = some b0 ∧ E[i]? = some e0 ∧ e0.b = e.b ∧ b0.body = .mp l) : Maps B E' hp' w' := by
  refine ⟨fun i b e l hi he hb => ?_, fun i j bi bj ei ej l m hij h1 h2 h3 h4 h5 h6 => ?_⟩
  · obtain ⟨b0, e0, g1, g2, g3, g4⟩ := back i b e l hi he hb
    obtain ⟨k1, es, cl, k2, k3, k4⟩ := h.1 i b0 e0 l g1 g2 g4
    rw [g3] at k1 k2
    exact ⟨k1, es, cl, hw _ _ _ k2, k3, fun j p en a1 a2 => ⟨(k4 j p en a1 a2).1, hRC _ _ (k4 j p en a1 a2).2⟩⟩
  · obtain ⟨b0, e0, g1, g2, g3, g4⟩ := back i bi ei l h1 h3 h5
    obtain ⟨b1, e1, g5, g6, g7, g8⟩ := back j bj ej m h2 h4 h6
    have := h.2 i j b0 b1 e0 e1 l m hij g1 g5 g2 g6 g4 g8
    rwa [g3, g7] at this

theorem Maps.keep {B : Nat} {E E' : Env} {hp hp' : List Blk} {w w' : World} (h : Maps B E hp w) (hl : E.length = hp.length) (hE : E <+: E')
    (hw : ∀ (b : Nat) es cl, w.heap[b]? = some (.map es cl) → w'.heap[b]? = some (.map es cl))
    (hn : ∀ (i : Nat) (b : Blk) (l : List (Int × C1)), hp'[i]? = some b → b.body = .mp l → ∃ b0, hp[i]? = some b0 ∧ b0.body = .mp l) : Maps B E' hp' w' :=
  h.keepE (fun c u hc => hc.mono hE) hw fun i b e l hi he hb => by
    obtain ⟨b0, h1, h2⟩ := hn i b l hi hb
    have hlt := (List.getElem?_eq_some_iff.1 h1).1
    have h3 : E[i]? = some (E[i]'(by omega)) := List.getElem?_eq_getElem _
    have h4 := prefix_get hE h3
    rw [he] at h4
    rw [← Option.some.inj h4] at h3
    exact ⟨b0, e, h1, h3, rfl, h2⟩

theorem Maps.same {B : Nat} {E : Env} {hp hp' : List Blk} {w : World} (h : Maps B E hp w) 
    (hn : ∀ (i : Nat) (b : Blk) (l : List (Int × C1)), hp'[i]? = some b → b.body = .mp l → ∃ b0, hp[i]? = some b0 ∧ b0.body = .mp l) : Maps B E hp' w :=
  h.keepE (fun _ _ hc => hc) (fun _ _ _ h => h) fun i b e l hi he hb => by
    obtain ⟨b0, h1, h2⟩ := hn i b l hi hb
    exact ⟨b0, e, h1, he, rfl, h2⟩

theorem snoc_old {hp : List Blk} {x b : Blk} {i : Nat} (h : (hp ++ [x])[i]? = some b) (hb : b ≠ x) : hp[i]? = some b := by
  by_cases hj : i < hp.length
  · rwa [List.getElem?_append_left hj] at h
  · rw [List.getElem?_append_right (by omega)] at h
    have h0 := (List.getElem?_eq_some_iff.1 h).1
    have h1 : i - hp.length = 0 := by simp at h0; omega
    rw [h1] at h
    simp only [List.getElem?_cons_zero, Option.some.injEq] at h
    exact absurd h.symm hb

theorem snoc_maps {hp : List Blk} {x y : Blk} (hx : ∀ l, x.body ≠ .mp l) (i : Nat) (b : Blk) (l : List (Int × C1)) (h : (hp ++ [x])[i]? = some b) (hb : b.body = .mp l) : ∃ b0, (hp ++ [y])[i]? = some b0 ∧ b0.body = .mp l :=
  ⟨b, by
    have := snoc_old h fun e => hx l (e ▸ hb)
    have hlt := (List.getElem?_eq_some_iff.1 this).1
    rw [List.getElem?_append_left hlt]
    exact this, hb⟩

theorem snoc_dead {hp : List Blk} {x y z : Blk} (hx : ∀ l, x.body ≠ .mp l) (i : Nat) (b : Blk) (l : List (Int × C1)) (h : (hp ++ [x])[i]? = some b) (hb : b.body = .mp l) : ∃ b0, ((hp ++ [y]).set hp.length z)[i]? = some b0 ∧ b0.body = .mp l :=
  ⟨b, by
    have := snoc_old h fun e => hx l (e ▸ hb)
    have hlt := (List.getElem?_eq_some_iff.1 this).1
    rw [List.getElem?_set_ne (by omega), List.getElem?_append_left hlt]
    exact this, hb⟩

/-- One block more that is no map. -/
theorem Maps.snoc {B : Nat} {E : Env} {hp : List Blk} {w w' : World} (h : Maps B E hp w) (hl : E.length = hp.length) (e : EB) {x : Blk} (hx : ∀ l, x.body ≠ .mp l)
    (hw : ∀ (b : Nat) es cl, w.heap[b]? = some (.map es cl) → w'.heap[b]? = some (.map es cl)) : Maps B (E ++ [e]) (hp ++ [x]) w' :=
  h.keep hl ⟨_, rfl⟩ hw fun i b l hi hb => ⟨b, snoc_old hi (fun e => hx l (e ▸ hb)), hb⟩

/-- A block that is written anew, and is no map then. -/
theorem Maps.set {B : Nat} {E : Env} {hp : List Blk} {w w' : World} (h : Maps B E hp w) (i : Nat) {x : Blk} (hx : ∀ l, x.body = .mp l → ∃ b0, hp[i]? = some b0 ∧ b0.body = .mp l)
    (hw : ∀ (b : Nat) es cl, w.heap[b]? = some (.map es cl) → w'.heap[b]? = some (.map es cl)) : Maps B E (hp.set i x) w' :=
  h.keepE (fun _ _ hc => hc) hw fun j b e l hj he hb => by
    by_cases hij : i = j
    · subst hij
      have hlt : i < hp.length := by have := (List.getElem?_eq_some_iff.1 hj).1; simpa using this
      rw [List.getElem?_set_self hlt] at hj
      simp only [Option.some.injEq] at hj
      subst hj
      obtain ⟨b0, h1, h2⟩ := hx l hb
      exact ⟨b0, e, h1, he, rfl, h2⟩
    · rw [List.getElem?_set_ne hij] at hj
      exact ⟨b, e, hj, he, rfl, hb⟩

theorem Maps.none {B : Nat} {E : Env} {hp : List Blk} {w : World} (h : ∀ (i : Nat) (b : Blk) (l : List (Int × C1)), hp[i]? = some b → b.body ≠ .mp l) : Maps B E hp w :=
  ⟨fun i b e l hi _ hb => absurd hb (h i b l hi), fun i j bi bj ei ej l m _ hi _ _ _ hb _ => absurd hb (h i bi l hi)⟩

/-- The blocks stand for blocks of the world; what lay below block B when the call began has not turned. -/
structure RH (B : Nat) (w0 : World) (E : Env) (hp : List Blk) (w : World) : Prop where
  below : Below B w0 w
  base : B ≤ w0.heap.size
  laid : LaidW B w0
  len : E.length = hp.length
  blk : ∀ (i : Nat) (b : Blk) (e : EB), hp[i]? = some b → E[i]? = some e → b.live = true →
    ∃ c fz, w.heap[e.b]? = some (.cells c b.elem fz) ∧ c.size = e.o + e.n ∧ (b.ro = false → fz = (0, 0) ∧ B ≤ e.b ∧ e.o = 0) ∧ Fits b e.n ∧ RCs E b.cells ((c.toList.drop e.o).take b.cells.length)
  inj : ∀ (i j : Nat) (bi bj : Blk) (ei ej : EB), i ≠ j → hp[i]? = some bi → hp[j]? = some bj → E[i]? = some ei → E[j]? = some ej → bi.live = true → bj.live = true → bi.ro = false → ei.b ≠ ej.b
  frz : Frz B E hp w
  maps : Maps B E hp w

theorem RH.size {B : Nat} {w0 : World} {E : Env} {hp : List Blk} {w : World} (h : RH B w0 E hp w) : B ≤ w.heap.size := Nat.le_trans h.base h.below.size

theorem RH.laidB {B : Nat} {w0 : World} {E : Env} {hp : List Blk} {w : World} (h : RH B w0 E hp w) : LaidW B w := fun g vs hg => by
  obtain ⟨h1, c, e, fz, h2, h3⟩ := h.laid g vs hg
  exact ⟨h1, c, e, fz, by rw [h.below.block g h1]; exact h2, h3⟩

theorem RH.laidW {B : Nat} {w0 : World} {E : Env} {hp : List Blk} {w : World} (h : RH B w0 E hp w) : LaidW w.heap.size w := fun g vs hg => by
  obtain ⟨h1, h2⟩ := h.laidB g vs hg
  exact ⟨Nat.lt_of_lt_of_le h1 h.size, h2⟩

theorem RH.env {B : Nat} {w0 : World} {E : Env} {hp : List Blk} {w : World} (h : RH B w0 E hp w) {i : Nat} {b : Blk} (hi : hp[i]? = some b) : ∃ e, E[i]? = some e := by
  have : i < E.length := by rw [h.len]; exact (List.getElem?_eq_some_iff.1 hi).1
  exact ⟨E[i], List.getElem?_eq_getElem this⟩

/-- A block of one's own. -/
theorem RH.own {B : Nat} {w0 : World} {E : Env} {hp : List Blk} {w : World} (h : RH B w0 E hp w) {i : Nat} {b : Blk} {e : EB} (hi : hp[i]? = some b) (he : E[i]? = some e) (hl : b.live = true) (hro : b.ro = false) :
    ∃ c, w.heap[e.b]? = some (.cells c b.elem (0, 0)) ∧ c.size = e.n ∧ B ≤ e.b ∧ e.o = 0 ∧ b.cells.length ≤ c.size ∧ RCs E b.cells (c.toList.take b.cells.length) := by
  obtain ⟨c, fz, hc, h1, h2, ⟨h3, _⟩, h4⟩ := h.blk i b e hi he hl
  obtain ⟨rfl, hB, ho⟩ := h2 hro
  rw [ho, Nat.zero_add] at h1
  rw [ho, List.drop_zero] at h4
  exact ⟨c, hc, h1, hB, ho, by omega, h4⟩

/-- Another world with the same blocks. -/
theorem RH.congr {B : Nat} {w0 : World} {E : Env} {hp : List Blk} {w w' : World} (h : RH B w0 E hp w) (hb : Below w.heap.size w w') : RH B w0 E hp w' where
  below := h.below.trans (hb.mono h.size)
  base := h.base
  laid := h.laid
  len := h.len
  blk := fun i b e hi he hl => by
    obtain ⟨c, fz, hc, r⟩ := h.blk i b e hi he hl
    exact ⟨c, fz, by rw [hb.block e.b (Array.getElem?_eq_some_iff.1 hc).1]; exact hc, r⟩
  inj := h.inj
  frz := h.frz.keep (.refl E) (.refl E) (fun b c t z hc _ => by rw [hb.block b (Array.getElem?_eq_some_iff.1 hc).1]; exact hc) fun i bi ei h1 h2 h3 h4 => .inl ⟨i, bi, ei, h1, h2, h3, h4, rfl⟩
  maps := h.maps.keep h.len (List.prefix_refl _) (fun b es cl hc => by rw [hb.block b (Array.getElem?_eq_some_iff.1 hc).1]; exact hc) fun i b l h1 h2 => ⟨b, h1, h2⟩

theorem below_self_drew (w : World) : Below w.heap.size w w.drew := (Below.refl _ _).drew

/-- A new block. -/
theorem RH.newF {B : Nat} {w0 : World} {E : Env} {hp : List Blk} {w : World} (h : RH B w0 E hp w) (c : Array Value) (t : TypeId) (cs : List C1) (hlen : cs.length ≤ c.size)
    (hcs : RCs E cs (c.toList.take cs.length)) (fu : Bool) (hfu : fu = true → c.size = cs.length) :
    RH B w0 (E ++ [EB.at w.heap.size 0 c.size]) (hp ++ [{ body := .li (cs), elem := t, live := true, ro := false, full := fu }]) (w.alloc (.cells c t)) := by
  have hpre : E <+: E ++ [EB.at w.heap.size 0 c.size] := ⟨_, rfl⟩
  have hsz := h.size
  refine ⟨h.below.alloc hsz _, h.base, h.laid, by simp [h.len], fun i b e hi he hl => ?_, fun i j bi bj ei ej hij hi hj hei hej hli hlj hro => ?_,
    h.frz.keep (.at E _ _ _) (.of hpre) (fun b c' t' z hc _ => by rw [Below.heap_alloc _ _ _ (Array.getElem?_eq_some_iff.1 hc).1]; exact hc) fun i bi ei hi he hl hro => ?_,
    h.maps.snoc h.len _ (fun l h => by cases h) fun b es cl hc => by rw [Below.heap_alloc _ _ _ (Array.getElem?_eq_some_iff.1 hc).1]; exact hc⟩
  · by_cases hlt : i < hp.length
    · rw [List.getElem?_append_left hlt] at hi
      rw [List.getElem?_append_left (by rw [h.len]; exact hlt)] at he
      obtain ⟨c', fz, hc, h1, h2, h3, h4⟩ := h.blk i b e hi he hl
      refine ⟨c', fz, ?_, h1, h2, h3, h4.mono hpre⟩
      rw [Below.heap_alloc _ _ _ (Array.getElem?_eq_some_iff.1 hc).1]
      exact hc
    · rw [List.getElem?_append_right (by omega)] at hi
      rw [List.getElem?_append_right (by rw [h.len]; omega)] at he
      have hi0 : i - hp.length = 0 := by
        have := (List.getElem?_eq_some_iff.1 hi).1
        simp at this; omega
      rw [hi0] at hi
      rw [h.len, hi0] at he
      simp at hi he
      subst hi; subst he
      exact ⟨c, (0, 0), heap_alloc_new w _, (Nat.zero_add _).symm, fun _ => ⟨rfl, hsz, rfl⟩, ⟨hlen, fun h _ => hfu h⟩, hcs.mono hpre⟩
  · have old : ∀ (k : Nat) (b : Blk) (e : EB), k < hp.length → hp[k]? = some b → (E ++ [EB.at w.heap.size 0 c.size] : Env)[k]? = some e → b.live = true → e.b < w.heap.size := fun k b e hk hb he hl => by
      rw [List.getElem?_append_left (by rw [h.len]; exact hk)] at he
      obtain ⟨c', fz, hc, _⟩ := h.blk k b e hb he hl
      exact (Array.getElem?_eq_some_iff.1 hc).1
    have new : ∀ (k : Nat) (e : EB), ¬ k < hp.length → (E ++ [EB.at w.heap.size 0 c.size] : Env)[k]? = some e → k = hp.length ∧ e.b = w.heap.size := fun k e hk he => by
      rw [List.getElem?_append_right (by rw [h.len]; omega)] at he
      have h0 := (List.getElem?_eq_some_iff.1 he).1
      simp at h0
      have hk0 : k - E.length = 0 := by omega
      rw [hk0] at he
      simp at he
      subst he
      exact ⟨by rw [h.len] at hk0; omega, rfl⟩
    by_cases hlt : i < hp.length <;> by_cases hlt' : j < hp.length
    · rw [List.getElem?_append_left hlt] at hi
      rw [List.getElem?_append_left hlt'] at hj
      rw [List.getElem?_append_left (by rw [h.len]; exact hlt)] at hei
      rw [List.getElem?_append_left (by rw [h.len]; exact hlt')] at hej
      exact h.inj i j bi bj ei ej hij hi hj hei hej hli hlj hro
    · rw [List.getElem?_append_left hlt] at hi
      have h1 := old i bi ei hlt hi hei hli
      have h2 := new j ej hlt' hej
      omega
    · rw [List.getElem?_append_left hlt'] at hj
      have h1 := old j bj ej hlt' hj hej hlj
      have h2 := new i ei hlt hei
      omega
    · have h1 := new i ei hlt hei
      have h2 := new j ej hlt' hej
      omega
  · by_cases hlt : i < hp.length
    · rw [List.getElem?_append_left hlt] at hi
      rw [List.getElem?_append_left (by rw [h.len]; exact hlt)] at he
      exact .inl ⟨i, bi, ei, hi, he, hl, hro, rfl⟩
    · rw [List.getElem?_append_right (by rw [h.len]; omega)] at he
      have h0 := (List.getElem?_eq_some_iff.1 he).1
      have h1 : i - E.length = 0 := by simp at h0; omega
      rw [h1] at he
      simp only [List.getElem?_cons_zero, Option.some.injEq] at he
      subst he
      exact .inr (Nat.le_refl _)

theorem RH.new {B : Nat} {w0 : World} {E : Env} {hp : List Blk} {w : World} (h : RH B w0 E hp w) (c : Array Value) (t : TypeId) (cs : List C1) (hlen : cs.length ≤ c.size)
    (hcs : RCs E cs (c.toList.take cs.length)) :
    RH B w0 (E ++ [EB.at w.heap.size 0 c.size]) (hp ++ [{ body := .li (cs), elem := t, live := true, ro := false }]) (w.alloc (.cells c t)) :=
  h.newF c t cs hlen hcs false fun h => by cases h

/-- Cells of a block written. -/
theorem RH.row {B : Nat} {w0 : World} {E : Env} {hp : List Blk} {w : World} (h : RH B w0 E hp w) {i : Nat} {b : Blk} {e : EB} (hi : hp[i]? = some b) (he : E[i]? = some e) (hl : b.live = true) (hro : b.ro = false)
    (c' : Array Value) (bd : Body) (hsz : c'.size = e.n) (hlen : bd.cells.length ≤ c'.size) (hcs : RCs E bd.cells (c'.toList.take bd.cells.length)) (hfu : b.full = true → bd.cells.length = b.cells.length) (hbd : ∀ l, bd ≠ .mp l) :
    RH B w0 E (hp.set i { b with body := bd }) (w.setRow e.b c') := by
  obtain ⟨c, hc, h1, hB, ho, h3, h4⟩ := h.own hi he hl hro
  have hlt : i < hp.length := (List.getElem?_eq_some_iff.1 hi).1
  have hset : ∀ (k : Nat) (x : Blk), (hp.set i { b with body := bd })[k]? = some x → ∃ y, hp[k]? = some y ∧ x.live = y.live ∧ x.ro = y.ro ∧ x.elem = y.elem ∧ (k ≠ i → x = y) := fun k x hx => by
    by_cases hk : i = k
    · subst hk
      rw [List.getElem?_set_self hlt] at hx
      simp only [Option.some.injEq] at hx
      subst hx
      exact ⟨b, hi, rfl, rfl, rfl, fun hne => absurd rfl hne⟩
    · rw [List.getElem?_set_ne hk] at hx
      exact ⟨x, hx, rfl, rfl, rfl, fun _ => rfl⟩
  have hbelow : Below B w (w.setRow e.b c') := ⟨rfl, rfl, rfl, by simp, fun k hk => setRow_other w e.b k _ (by omega)⟩
  refine ⟨h.below.trans hbelow, h.base, h.laid, by simp [h.len], fun k x ek hk hek hlk => ?_, fun i' j' bi bj ei ej hij hi' hj' hei hej hli hlj hroi => ?_,
    h.frz.keep (.refl E) (.refl E) (fun b' c' t' z hc' ⟨j, e', q, cs, he', hf⟩ => by rw [setRow_other w e.b b' _ (fun e1 => (h.frz.1 j e' b' q cs he' hf).2.1 i b e hi he hl hro e1.symm)]; exact hc') fun k x ek hk hek hlk hrk => by
      obtain ⟨y, hy, l1, r1, _⟩ := hset k x hk
      exact .inl ⟨k, y, ek, hy, hek, by rw [← l1]; exact hlk, by rw [← r1]; exact hrk, rfl⟩,
    h.maps.set i (fun l h => absurd h (hbd l)) fun b' es cl hc' => by rw [setRow_other w e.b b' _ (fun e1 => by rw [e1, hc] at hc'; cases hc')]; exact hc'⟩
  · by_cases hik : i = k
    · subst hik
      rw [List.getElem?_set_self hlt] at hk
      simp only [Option.some.injEq] at hk
      subst hk
      have : ek = e := by rw [he] at hek; exact (Option.some.inj hek).symm
      subst this
      exact ⟨c', (0, 0), setRow_heap w _ c _ b.elem _ hc, by rw [ho, Nat.zero_add]; exact hsz, fun _ => ⟨rfl, hB, ho⟩, ⟨by rw [← hsz]; exact hlen, fun hf hr => by obtain ⟨_, _, _, _, _, ⟨_, q⟩, _⟩ := h.blk i b ek hi he hl; exact (q hf hr).trans (hfu hf).symm⟩, by rw [ho, List.drop_zero]; exact hcs⟩
    · rw [List.getElem?_set_ne hik] at hk
      obtain ⟨c2, fz2, hc2, r⟩ := h.blk k x ek hk hek hlk
      refine ⟨c2, fz2, ?_, r⟩
      rw [setRow_other w e.b ek.b _ (fun e1 => h.inj i k b x e ek hik hi hk he hek hl hlk hro e1.symm)]
      exact hc2
  · obtain ⟨y1, hy1, l1, r1, _⟩ := hset i' bi hi'
    obtain ⟨y2, hy2, l2, r2, _⟩ := hset j' bj hj'
    exact h.inj i' j' y1 y2 ei ej hij hy1 hy2 hei hej (by rw [← l1]; exact hli) (by rw [← l2]; exact hlj) (by rw [← r1]; exact hroi)

theorem RH.rowL {B : Nat} {w0 : World} {E : Env} {hp : List Blk} {w : World} (h : RH B w0 E hp w) {i : Nat} {b : Blk} {e : EB} (hi : hp[i]? = some b) (he : E[i]? = some e) (hl : b.live = true) (hro : b.ro = false)
    (c' : Array Value) (cs : List C1) (hsz : c'.size = e.n) (hlen : cs.length ≤ c'.size) (hcs : RCs E cs (c'.toList.take cs.length)) (hfu : b.full = true → cs.length = b.cells.length) :
    RH B w0 E (hp.set i { b with body := .li cs }) (w.setRow e.b c') :=
  h.row hi he hl hro c' (.li cs) hsz hlen hcs hfu fun l h => by cases h

/-- A block that is not looked at any more. -/
theorem RH.kill {B : Nat} {w0 : World} {E : Env} {hp : List Blk} {w : World} (h : RH B w0 E hp w) (i : Nat) (b : Blk) (hi : hp[i]? = some b) : RH B w0 E (hp.set i { b with live := false }) w := by
  have hlt : i < hp.length := (List.getElem?_eq_some_iff.1 hi).1
  have hset : ∀ (k : Nat) (x : Blk), (hp.set i { b with live := false })[k]? = some x → x.live = true → hp[k]? = some x := fun k x hx hl => by
    by_cases hk : i = k
    · subst hk
      rw [List.getElem?_set_self hlt] at hx
      simp only [Option.some.injEq] at hx
      subst hx
      cases hl
    · rw [List.getElem?_set_ne hk] at hx
      exact hx
  exact ⟨h.below, h.base, h.laid, by simp [h.len], fun k x ek hk hek hl => h.blk k x ek (hset k x hk hl) hek hl,
    fun i' j' bi bj ei ej hij hi' hj' hei hej hli hlj hro => h.inj i' j' bi bj ei ej hij (hset i' bi hi' hli) (hset j' bj hj' hlj) hei hej hli hlj hro,
    h.frz.keep (.refl E) (.refl E) (fun _ _ _ _ hc _ => hc) fun k x ek hk hek hlk hrk => .inl ⟨k, x, ek, hset k x hk hlk, hek, hlk, hrk, rfl⟩,
    h.maps.set i (fun l hl => ⟨b, hi, hl⟩) fun _ _ _ h => h⟩

/-- A live block is no map. -/
theorem RH.noMap {B : Nat} {w0 : World} {E : Env} {hp : List Blk} {w : World} (h : RH B w0 E hp w) {i : Nat} {b : Blk} (hi : hp[i]? = some b) (hl : b.live = true) (l : List (Int × C1)) : b.body ≠ .mp l := fun hb => by
  obtain ⟨e, he⟩ := h.env hi
  obtain ⟨c, fz, hc, _⟩ := h.blk i b e hi he hl
  obtain ⟨_, es, cl, hm, _⟩ := h.maps.1 i b e l hi he hb
  rw [hc] at hm
  cases hm

/-! ### the tables -/

structure TabOk (P : Program) (T : Tab) : Prop where
  ty : ∀ (t : TypeId) (ti : TI), T.ty t = some ti → P.underlying t = some ti.desc ∧ ∃ i, P.info? t = some i ∧ i.size = ti.size ∧ i.bytes = ti.bytes ∧
    (ti.zero ≠ [] → ∃ z vs, i.zero = some z ∧ allV ti.zero = some vs ∧ z.cells.toList = vs ∧ (∀ v ∈ vs, v.oneCell' = true) ∧ ti.zero.length = ti.size)
  eq : ∀ (t : TypeId), T.eqOk t = true → P.stoodInHeld t = false ∧ P.eqGuardType P.depth t = false
  fn : ∀ (f : FuncId) (fn : Func), T.fn f = some fn → P.funcs[f]? = some fn ∧ ∀ (vs : Array Value) (w : World), (callFunc f vs).run P w = .ok (.enter f vs) w

theorem allV_RCs {E : Env} {cs : List C1} {vs : List Value} (h : allV cs = some vs) (h1 : ∀ v ∈ vs, v.oneCell' = true) : RCs E cs vs := by
  obtain ⟨hl, hv⟩ := allV_spec cs vs h
  refine ⟨hl, fun j c v hc hv' => ?_⟩
  have := hv j c v hc hv'
  cases c with
  | sc w st => simp only [C1.toV, Option.some.injEq] at this; exact ⟨this.symm, this ▸ h1 v (List.mem_of_getElem? hv')⟩
  | _ => simp [C1.toV] at this

theorem isAgg_run {P : Program} {t : TypeId} {d : TypeDesc} (h : P.underlying t = some d) (w : World) : (isAgg t).run P w = .ok (isAggD d) w := by
  unfold isAgg
  rw [Sem.run_bind, run_underlying h w]
  cases d <;> rfl

theorem sizeOf_run {P : Program} {t : TypeId} {i : TypeInfo} (h : P.info? t = some i) (w : World) : (Go.sizeOf t).run P w = .ok i.size w := by
  simp [Go.sizeOf, typeInfo, h]

theorem zeroValue_run {P : Program} {t : TypeId} {i : TypeInfo} {z : Value} (h : P.info? t = some i) (hz : i.zero = some z) (w : World) : (zeroValue t).run P w = .ok z w := by
  simp [zeroValue, typeInfo, h, hz]

theorem add_row (g o j : Nat) : (⟨g, o, none⟩ : Addr).add j = ⟨g, o + j, none⟩ := by
  unfold Addr.add; split <;> simp_all

/-- A load of a value of a type. -/
theorem loadVar_run {P : Program} {t : TypeId} {d : TypeDesc} {i : TypeInfo} (hu : P.underlying t = some d) (hi : P.info? t = some i) {w : World} {g o : Nat} {c : Array Value} {e : TypeId} {fz : Nat × Nat}
    (hg : w.heap[g]? = some (.cells c e fz)) (hagg : isAggD d = true) (hfit : o + i.size ≤ c.size) :
    (loadVar t ⟨g, o, none⟩).run P w = .ok (.agg ((c.toList.drop o).take i.size).toArray) w := by
  have hl : ((c.toList.drop o).take i.size).length = i.size := by simp; omega
  have h1 := run_loadCells_list (P := P) w ⟨g, o, none⟩ ((c.toList.drop o).take i.size) (fun j v hv => by
    rw [add_row, cell_of_row w g (o + j) c e fz hg]
    rw [List.getElem?_take] at hv
    split at hv
    · rw [List.getElem?_drop] at hv; simpa using hv
    · cases hv)
  rw [hl] at h1
  simp only [loadVar, Sem.run_bind, isAgg_run hu, hagg, Result.andThen_ok, if_true, sizeOf_run hi, h1, Sem.run_pure]

theorem loadVar_run1 {P : Program} {t : TypeId} {d : TypeDesc} (hu : P.underlying t = some d) {w : World} {g o : Nat} {v : Value} (hc : w.cell? ⟨g, o, none⟩ = some v) (hagg : isAggD d = false) :
    (loadVar t ⟨g, o, none⟩).run P w = .ok v w := by
  simp [loadVar, isAgg_run hu, hagg, hc]

/-- What an operation comes to. -/
def Out (K : Post) (B : Nat) (w0 : World) (E : Env) (r : Result Next) : Prop :=
  ∃ v hp' E' u w', (r = .ok (.value u) w' ∨ (r = .ok .skip w' ∧ u = Go.undef)) ∧ K v hp' ∧ E <+: E' ∧ RV E' v u ∧ RH B w0 E' hp' w'

theorem Out.same {K : Post} {B : Nat} {w0 : World} {E : Env} {hp : List Blk} {w : World} {v : AV} {u : Value} (hh : RH B w0 E hp w) (hk : K v hp) (hv : RV E v u) : Out K B w0 E (.ok (.value u) w) :=
  ⟨v, hp, E, u, w, .inl rfl, hk, List.prefix_refl _, hv, hh⟩

/-- What a quiet operation comes to, in every world in which what is there now is as it is now. -/
def QOut (P : Program) (K : Post) (E : Env) (hp : List Blk) (w : World) (s : Sem Next) : Prop :=
  ∃ v u, K v hp ∧ RV E v u ∧ ∀ w', Below w.heap.size w w' → s.run P w' = .ok (.value u) w'

theorem QOut.out {P : Program} {K : Post} {B : Nat} {w0 : World} {E : Env} {hp : List Blk} {w : World} {s : Sem Next} (hh : RH B w0 E hp w) (h : QOut P K E hp w s) : Out K B w0 E (s.run P w) := by
  obtain ⟨v, u, hk, hv, hr⟩ := h
  rw [hr w (Below.refl _ _)]
  exact Out.same hh hk hv

section ops
variable {P : Program} {T : Tab} {B : Nat} {w0 : World} {E : Env} {hp : List Blk} {w : World} {K : Post} {a : Act} {tm : Tm}

theorem liveB_some {i : Nat} {b : Blk} (h : liveB hp i = some b) : hp[i]? = some b ∧ b.live = true := by
  unfold liveB at h
  rw [getB_eq] at h
  split at h
  · split at h
    · rename_i b' hb hl; simp only [Option.some.injEq] at h; subst h; exact ⟨hb, hl⟩
    · cases h
  · cases h

theorem drop_take_take {α : Type} (l : List α) (n o s : Nat) (h : o + s ≤ n) : ((l.take n).drop o).take s = (l.drop o).take s := by
  apply List.ext_getElem?
  intro j
  simp only [List.getElem?_take, List.getElem?_drop]
  by_cases hj : j < s
  · rw [if_pos hj, if_pos hj, if_pos (by omega)]
  · rw [if_neg hj, if_neg hj]

theorem load_run (hT : TabOk P T) (hh : RH B w0 E hp w) {t : TypeId} {i off : Nat} {v : AV} {e : EB} (he : E[i]? = some e) (hl : loadA T t hp i off = some v) :
    ∃ u, (∀ w', w'.heap[e.b]? = w.heap[e.b]? → (loadVar t ⟨e.b, e.o + off, none⟩).run P w' = .ok u w') ∧ e.b < w.heap.size ∧ RV E v u := by
  unfold loadA at hl
  split at hl
  · rename_i ti b ht hb
    obtain ⟨hi, hlive⟩ := liveB_some hb
    obtain ⟨hu, inf, hinf, hsz, _, _⟩ := hT.ty t ti ht
    obtain ⟨c, fz, hc, h1, _, ⟨h3, _⟩, h4⟩ := hh.blk i b e hi he hlive
    have hlt0 : e.b < w.heap.size := (Array.getElem?_eq_some_iff.1 hc).1
    split at hl
    · cases hl
    · unfold partA at hl
      split at hl
      · rename_i hagg
        split at hl
        · rename_i hfit
          simp only [Option.some.injEq] at hl; subst hl
          refine ⟨_, fun w' hw' => loadVar_run hu hinf (hw'.trans hc) hagg (by rw [hsz]; omega), hlt0, ((c.toList.drop (e.o + off)).take inf.size), rfl, ?_⟩
          have := (h4.drop off).take ti.size
          rw [drop_take_take _ _ _ _ hfit, List.drop_drop] at this
          rw [hsz]; exact this
        · cases hl
      · rename_i hagg
        simp only [Option.map_eq_some_iff] at hl
        obtain ⟨c1, hc1, rfl⟩ := hl
        obtain ⟨u, hu2, hr⟩ := h4.get hc1
        have hlt : off < b.cells.length := (List.getElem?_eq_some_iff.1 hc1).1
        rw [List.getElem?_take, if_pos hlt, List.getElem?_drop] at hu2
        exact ⟨u, fun w' hw' => loadVar_run1 hu (by rw [cell_of_row w' e.b (e.o + off) c b.elem fz (hw'.trans hc)]; simpa using hu2) (by simpa using hagg), hlt0, hr⟩
  · cases hl

theorem list_key {α : Type} (l us : List α) (n off : Nat) (hn : n ≤ l.length) (h : off + us.length ≤ n) :
    (l.take n).take off ++ us ++ (l.take n).drop (off + us.length) = (l.take off ++ us ++ l.drop (off + us.length)).take n := by
  rw [List.take_take, Nat.min_eq_left (by omega), List.drop_take]
  have h1 : (l.take off ++ us).length = off + us.length := by simp; omega
  rw [List.take_append (l₁ := l.take off ++ us), h1, List.take_of_length_le (l := l.take off ++ us) (by omega)]

theorem store_run (hT : TabOk P T) (hh : RH B w0 E hp w) {t : TypeId} {ti : TI} (ht : T.ty t = some ti) {i off : Nat} {cs : List C1} {hp' : List Blk} {e : EB} (he : E[i]? = some e) {u : Value}
    (hs : storeA hp i off cs = some hp') (hcs : RCs E cs u.cells.toList) (hlen : cs.length = ti.size) :
    ∃ w', (storeVar t ⟨e.b, e.o + off, none⟩ u).run P w = .ok () w' ∧ RH B w0 E hp' w' := by
  unfold storeA at hs
  split at hs
  · rename_i b hb
    obtain ⟨hi, hlive⟩ := liveB_some hb
    split at hs
    · rename_i hcond
      simp only [Bool.and_eq_true, Bool.not_eq_true', decide_eq_true_eq] at hcond
      obtain ⟨hro, hfit⟩ := hcond
      simp only [Option.some.injEq] at hs; subst hs
      obtain ⟨hu, inf, hinf, hsz, _, _⟩ := hT.ty t ti ht
      obtain ⟨c, hc, h1, _, ho, h3, h4⟩ := hh.own hi he hlive hro
      rw [ho, Nat.zero_add]
      have hl2 : u.cells.toList.length = cs.length := hcs.1.symm
      have hst := run_storeCells_at P e.b off b.elem u.cells.toList 0 c w hc (by omega) hcs.ones
      simp only [Nat.add_zero] at hst
      refine ⟨w.setRow e.b (c.toList.take off ++ u.cells.toList ++ c.toList.drop (off + u.cells.toList.length)).toArray, ?_, ?_⟩
      · simp only [storeVar, Sem.run_bind, sizeOf_run hinf, Result.andThen_ok]
        rw [if_neg (by simp only [ne_eq, Decidable.not_not]; rw [← Array.length_toList, hl2, hlen, hsz])]
        exact hst
      · rw [setB_eq]
        have hrc := h4.splice hcs off
        have hll : (splice b.cells off cs).length = b.cells.length := by simp [splice]; omega
        refine hh.rowL hi he hlive hro _ (splice b.cells off cs) (by simp only [List.size_toArray, List.length_append, List.length_take, List.length_drop, Array.length_toList] at *; omega) (by rw [hll]; simp only [List.size_toArray, List.length_append, List.length_take, List.length_drop, Array.length_toList] at *; omega) ?_ (fun _ => hll)
        have key := list_key c.toList u.cells.toList b.cells.length off (by simpa using h3) (by omega)
        rw [hll]
        rw [← key]
        exact hrc
    · cases hs
  · cases hs

end ops
end Sm
