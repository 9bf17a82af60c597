/-
  What is proved here: laws of the abstract values: how they stand to the model's values and to its memory. A text to be imported.
-/
import Derived.Test.YthddkcoflnbjbaaDoorSimB
namespace Sm
open Go Go.RowKit

/-- Where a block lies, from which cell on, how many cells it has from there. 'fz': memory that nobody writes: the block, from which cell on, the cells. 'own': blocks of those who called, which they may write. -/
structure EB where
  b : Nat
  o : Nat
  n : Nat
  fz : Nat → Nat → List C1 → Prop
  own : Nat → Prop

/-- A block alone. -/
def EB.at (b o n : Nat) : EB := ⟨b, o, n, fun _ _ _ => False, fun _ => False⟩
@[simp] theorem EB.at_b (b o n : Nat) : (EB.at b o n).b = b := rfl
@[simp] theorem EB.at_o (b o n : Nat) : (EB.at b o n).o = o := rfl
@[simp] theorem EB.at_n (b o n : Nat) : (EB.at b o n).n = n := rfl

abbrev Env := List EB

def RC (E : Env) : C1 → Value → Prop
  | .sc v _, u => u = v ∧ v.oneCell' = true
  | .ptr i off, u => ∃ e, E[i]? = some e ∧ u = .pointer (some ⟨e.b, e.o + off, none⟩)
  | .sl i off len sz, u => ∃ e cap, E[i]? = some e ∧ u = .slice (some ⟨e.b, e.o + off, none⟩) len cap ∧ len ≤ cap ∧ cap ≤ maxLen ∧ off + cap * sz ≤ e.n
  | .e0 i off, u => ∃ e, E[i]? = some e ∧ u = .slice (some ⟨e.b, e.o + off, none⟩) 0 0
  | .fn f ps, u => ∃ caps : List Value, u = .func (.func f) #[] caps.toArray ∧ caps.length = ps.length ∧ ∀ (j : Nat) (p : Nat × Nat) (v : Value), ps[j]? = some p → caps[j]? = some v → ∃ e, E[p.1]? = some e ∧ v = .pointer (some ⟨e.b, e.o + p.2, none⟩)
  | .em, u => ∃ base c, u = .slice base 0 c
  | .fl k, u => ∃ n, u = .float k n
  | .cf k, u => ∃ a b, u = .complex k a b
  | .lst n N sz f, u => (n = 0 ∧ N = 0 ∧ ∃ base c, u = .slice base 0 c) ∨
      ∃ (j : Nat) (e : EB) (b q o cap : Nat) (cs : List C1), E[j]? = some e ∧ e.fz b q cs ∧ u = .slice (some ⟨b, q + o, none⟩) n cap ∧ n ≤ N ∧ N ≤ cap ∧ cap ≤ maxLen ∧ o + N * sz ≤ cs.length ∧ ∀ k, k < N → f k = (cs.drop (o + k * sz)).take sz
  | .pl ds o, u => ∃ (j : Nat) (e : EB) (b q p : Nat) (cs : List C1), E[j]? = some e ∧ e.fz b q cs ∧ u = .pointer (some ⟨b, q + p + o, none⟩) ∧ p + ds.length ≤ cs.length ∧ ds = (cs.drop p).take ds.length
  | .pr i k sz o, u => ∃ e, E[i]? = some e ∧ u = .pointer (some ⟨e.b, e.o + (k * sz + o), none⟩)
  | .gr i n sz, u => (n = 0 ∧ u = .slice none 0 0) ∨ (n ≠ 0 ∧ ∃ e cap, E[i]? = some e ∧ u = .slice (some ⟨e.b, e.o + 0, none⟩) n cap ∧ n ≤ cap ∧ cap ≤ maxLen ∧ 0 + cap * sz ≤ e.n)
  | .ez, u => ∃ base, u = .slice base 0 0

def RCs (E : Env) (cs : List C1) (vs : List Value) : Prop :=
  cs.length = vs.length ∧ ∀ (j : Nat) (c : C1) (v : Value), cs[j]? = some c → vs[j]? = some v → RC E c v

def RP (E : Env) : Bool × List C1 → Value → Prop
  | (false, cs), v => ∃ c, cs = [c] ∧ RC E c v
  | (true, cs), v => ∃ vs, v = .agg vs.toArray ∧ RCs E cs vs

def RV (E : Env) : AV → Value → Prop
  | .one c, u => RC E c u
  | .agg cs, u => ∃ vs, u = .agg vs.toArray ∧ RCs E cs vs
  | .tup l, u => ∃ us : List Value, u = .tuple us.toArray ∧ l.length = us.length ∧ ∀ (j : Nat) (p : Bool × List C1) (v : Value), l[j]? = some p → us[j]? = some v → RP E p v
  | .undef, u => u = Go.undef
  | .bad, _ => True

theorem RC.one {E : Env} {c : C1} {u : Value} (h : RC E c u) : u.oneCell' = true := by
  cases c with
  | sc v st => exact h.1 ▸ h.2
  | ptr i off => obtain ⟨e, _, rfl⟩ := h; rfl
  | sl i off len sz => obtain ⟨e, cap, _, rfl, _⟩ := h; rfl
  | e0 i off => obtain ⟨e, _, rfl⟩ := h; rfl
  | fn f ps => obtain ⟨caps, rfl, _⟩ := h; rfl
  | em => obtain ⟨base, c, rfl⟩ := h; rfl
  | fl k => obtain ⟨n, rfl⟩ := h; rfl
  | cf k => obtain ⟨a, b, rfl⟩ := h; rfl
  | lst n N sz f =>
    rcases h with ⟨_, _, base, c, rfl⟩ | ⟨_, _, _, _, _, _, _, _, _, rfl, _⟩
    · rfl
    · rfl
  | pl ds o => obtain ⟨_, _, _, _, _, _, _, _, rfl, _⟩ := h; rfl
  | pr i k sz o => obtain ⟨e, _, rfl⟩ := h; rfl
  | gr i n sz =>
    rcases h with ⟨_, rfl⟩ | ⟨_, e, cap, _, rfl, _⟩
    · rfl
    · rfl
  | ez => obtain ⟨base, rfl⟩ := h; rfl

theorem cells_one {u : Value} (h : u.oneCell' = true) : u.cells = #[u] := by
  cases u <;> first | rfl | cases h

theorem prefix_get {E E' : Env} (h : E <+: E') {i : Nat} {e : EB} (hi : E[i]? = some e) : E'[i]? = some e := by
  obtain ⟨t, rfl⟩ := h
  rw [List.getElem?_append_left (List.getElem?_eq_some_iff.1 hi).1]
  exact hi

theorem RC.mono {E E' : Env} (h : E <+: E') {c : C1} {u : Value} (hc : RC E c u) : RC E' c u := by
  cases c with
  | sc v st => exact hc
  | ptr i off => obtain ⟨e, he, rfl⟩ := hc; exact ⟨e, prefix_get h he, rfl⟩
  | sl i off len sz => obtain ⟨e, cap, he, r⟩ := hc; exact ⟨e, cap, prefix_get h he, r⟩
  | e0 i off => obtain ⟨e, he, r⟩ := hc; exact ⟨e, prefix_get h he, r⟩
  | fn f ps => obtain ⟨caps, hu, hl, r⟩ := hc; exact ⟨caps, hu, hl, fun j p v h1 h2 => by obtain ⟨e, he, hv⟩ := r j p v h1 h2; exact ⟨e, prefix_get h he, hv⟩⟩
  | em => exact hc
  | fl k => exact hc
  | cf k => exact hc
  | lst n N sz f =>
    rcases hc with hc | ⟨j, e, b, q, o, cap, cs, he, r⟩
    · exact .inl hc
    · exact .inr ⟨j, e, b, q, o, cap, cs, prefix_get h he, r⟩
  | pl ds o => obtain ⟨j, e, b, q, p, cs, he, r⟩ := hc; exact ⟨j, e, b, q, p, cs, prefix_get h he, r⟩
  | pr i k sz o => obtain ⟨e, he, rfl⟩ := hc; exact ⟨e, prefix_get h he, rfl⟩
  | gr i n sz =>
    rcases hc with hc | ⟨hn, e, cap, he, r⟩
    · exact .inl hc
    · exact .inr ⟨hn, e, cap, prefix_get h he, r⟩
  | ez => exact hc

theorem RCs.mono {E E' : Env} (h : E <+: E') {cs : List C1} {vs : List Value} (hc : RCs E cs vs) : RCs E' cs vs :=
  ⟨hc.1, fun j c v h1 h2 => (hc.2 j c v h1 h2).mono h⟩

theorem RP.mono {E E' : Env} (h : E <+: E') {p : Bool × List C1} {u : Value} (hc : RP E p u) : RP E' p u := by
  obtain ⟨b, cs⟩ := p
  cases b with
  | false => obtain ⟨c, rfl, hc⟩ := hc; exact ⟨c, rfl, hc.mono h⟩
  | true => obtain ⟨vs, rfl, hc⟩ := hc; exact ⟨vs, rfl, hc.mono h⟩

theorem RV.mono {E E' : Env} (h : E <+: E') {a : AV} {u : Value} (hc : RV E a u) : RV E' a u := by
  cases a with
  | one c => exact RC.mono h hc
  | agg cs => obtain ⟨vs, rfl, hc⟩ := hc; exact ⟨vs, rfl, hc.mono h⟩
  | tup l => obtain ⟨us, rfl, hl, hc⟩ := hc; exact ⟨us, rfl, hl, fun j p v h1 h2 => (hc j p v h1 h2).mono h⟩
  | undef => exact hc
  | bad => trivial

/-! ### lists of cells -/

theorem RCs.nil (E : Env) : RCs E [] [] := ⟨rfl, by simp⟩

theorem RCs.single {E : Env} {c : C1} {v : Value} (h : RC E c v) : RCs E [c] [v] :=
  ⟨rfl, fun j c' v' h1 h2 => by
    cases j with
    | zero => simp at h1 h2; subst h1; subst h2; exact h
    | succ j => simp at h1⟩

theorem RCs.append {E : Env} {cs ds : List C1} {vs us : List Value} (h : RCs E cs vs) (k : RCs E ds us) : RCs E (cs ++ ds) (vs ++ us) := by
  refine ⟨by simp [h.1, k.1], fun j c v h1 h2 => ?_⟩
  by_cases hj : j < cs.length
  · rw [List.getElem?_append_left hj] at h1
    rw [List.getElem?_append_left (by rw [← h.1]; exact hj)] at h2
    exact h.2 j c v h1 h2
  · rw [List.getElem?_append_right (by omega)] at h1
    rw [List.getElem?_append_right (by rw [← h.1]; omega), ← h.1] at h2
    exact k.2 _ c v h1 h2

theorem RCs.take {E : Env} {cs : List C1} {vs : List Value} (h : RCs E cs vs) (n : Nat) : RCs E (cs.take n) (vs.take n) := by
  refine ⟨by simp [h.1], fun j c v h1 h2 => ?_⟩
  rw [List.getElem?_take] at h1 h2
  split at h1
  · rename_i hj; rw [if_pos hj] at h2; exact h.2 j c v h1 h2
  · cases h1

theorem RCs.drop {E : Env} {cs : List C1} {vs : List Value} (h : RCs E cs vs) (n : Nat) : RCs E (cs.drop n) (vs.drop n) := by
  refine ⟨by simp [h.1], fun j c v h1 h2 => ?_⟩
  rw [List.getElem?_drop] at h1 h2
  exact h.2 _ c v h1 h2

theorem RCs.splice {E : Env} {cs ds : List C1} {vs us : List Value} (h : RCs E cs vs) (k : RCs E ds us) (off : Nat) :
    RCs E (splice cs off ds) (vs.take off ++ us ++ vs.drop (off + us.length)) := by
  unfold Sm.splice
  rw [k.1]
  exact ((h.take off).append k).append (h.drop _)

theorem RCs.get {E : Env} {cs : List C1} {vs : List Value} (h : RCs E cs vs) {j : Nat} {c : C1} (hc : cs[j]? = some c) : ∃ v, vs[j]? = some v ∧ RC E c v := by
  have hj : j < cs.length := (List.getElem?_eq_some_iff.1 hc).1
  have hv : vs[j]? = some (vs[j]'(by rw [← h.1]; exact hj)) := List.getElem?_eq_getElem _
  exact ⟨_, hv, h.2 j c _ hc hv⟩

theorem RCs.ones {E : Env} {cs : List C1} {vs : List Value} (h : RCs E cs vs) : ∀ v ∈ vs, v.oneCell' = true := by
  intro v hv
  obtain ⟨j, hj⟩ := List.mem_iff_getElem?.1 hv
  have hlt : j < vs.length := (List.getElem?_eq_some_iff.1 hj).1
  have hc : cs[j]? = some (cs[j]'(by rw [h.1]; exact hlt)) := List.getElem?_eq_getElem _
  exact (h.2 j _ v hc hj).one

theorem allV_spec : ∀ (cs : List C1) (vs : List Value), allV cs = some vs → cs.length = vs.length ∧ ∀ (j : Nat) (c : C1) (v : Value), cs[j]? = some c → vs[j]? = some v → c.toV = some v
  | [], vs, h => by simp only [allV, Option.some.injEq] at h; subst h; simp
  | c :: l, vs, h => by
    simp only [allV] at h
    split at h
    · rename_i v ws hv hws
      simp only [Option.some.injEq] at h; subst h
      obtain ⟨h1, h2⟩ := allV_spec l ws hws
      refine ⟨by simp [h1], fun j c' v' hc hv' => ?_⟩
      cases j with
      | zero => simp at hc hv'; subst hc; subst hv'; exact hv
      | succ j => simp at hc hv'; exact h2 j c' v' hc hv'
    · cases h

theorem toV_RC {E : Env} {c : C1} {v u : Value} (hv : c.toV = some v) (h : RC E c u) : u = v := by
  cases c with
  | sc w st => simp only [C1.toV, Option.some.injEq] at hv; exact h.1.trans hv
  | ptr i off => simp [C1.toV] at hv
  | sl i off len sz => simp [C1.toV] at hv
  | e0 i off => simp [C1.toV] at hv
  | fn f ps => simp [C1.toV] at hv
  | em => simp [C1.toV] at hv
  | fl k => simp [C1.toV] at hv
  | cf k => simp [C1.toV] at hv
  | lst n N sz f => simp [C1.toV] at hv
  | pl ds o => simp [C1.toV] at hv
  | pr i k sz o => simp [C1.toV] at hv
  | gr i n sz => simp [C1.toV] at hv
  | ez => simp [C1.toV] at hv

theorem toV_RCs {E : Env} {cs : List C1} {vs us : List Value} (hv : allV cs = some vs) (h : RCs E cs us) : us = vs := by
  obtain ⟨h1, h2⟩ := allV_spec cs vs hv
  apply List.ext_getElem?
  intro j
  by_cases hj : j < cs.length
  · have hc : cs[j]? = some cs[j] := List.getElem?_eq_getElem hj
    have hu : us[j]? = some (us[j]'(by rw [← h.1]; exact hj)) := List.getElem?_eq_getElem _
    have hw : vs[j]? = some (vs[j]'(by rw [← h1]; exact hj)) := List.getElem?_eq_getElem _
    rw [hu, hw, toV_RC (h2 j _ _ hc hw) (h.2 j _ _ hc hu)]
  · rw [List.getElem?_eq_none (by rw [← h.1]; omega), List.getElem?_eq_none (by rw [← h1]; omega)]

/-- What a value without memory stands for is told by it. -/
theorem toV_RV {E : Env} {a : AV} {v u : Value} (hv : a.toV = some v) (h : RV E a u) : u = v := by
  cases a with
  | one c => exact toV_RC hv h
  | agg cs =>
    simp only [AV.toV, Option.map_eq_some_iff] at hv
    obtain ⟨vs, hvs, rfl⟩ := hv
    obtain ⟨us, rfl, hu⟩ := h
    rw [toV_RCs hvs hu]
  | tup l => simp [AV.toV] at hv
  | undef => simp only [AV.toV, Option.some.injEq] at hv; exact h.trans hv
  | bad => simp [AV.toV] at hv

theorem oneC_eq (v : Value) : oneC v = v.oneCell' := by cases v <;> rfl

theorem RCs_scs {E : Env} {vs : List Value} {st : Bool} (h : ∀ v ∈ vs, v.oneCell' = true) : RCs E (vs.map fun v => .sc v st) vs :=
  ⟨by simp, fun j c v h1 h2 => by
    simp only [List.getElem?_map, h2, Option.map_some, Option.some.injEq] at h1
    subst h1
    exact ⟨rfl, h v (List.mem_of_getElem? h2)⟩⟩

theorem ofV_RV {E : Env} {v : Value} {st : Bool} {a : AV} (h : ofV v st = some a) : RV E a v := by
  unfold ofV at h
  split at h
  · rename_i vs
    split at h
    · rename_i hall
      simp only [Option.some.injEq] at h; subst h
      refine ⟨vs.toList, by simp, RCs_scs fun v hv => ?_⟩
      rw [← oneC_eq]
      exact List.all_eq_true.1 hall v hv
    · cases h
  · cases h
  · rename_i h1 h2
    simp only [Option.some.injEq] at h; subst h
    refine ⟨rfl, ?_⟩
    cases v <;> first | rfl | exact absurd rfl (h1 _) | exact absurd rfl (h2 _)

theorem cells_RV {E : Env} {a : AV} {cs : List C1} {u : Value} (hc : a.cells = some cs) (h : RV E a u) : RCs E cs u.cells.toList := by
  cases a with
  | one c =>
    simp only [AV.cells, Option.some.injEq] at hc; subst hc
    rw [cells_one (RC.one h)]
    exact RCs.single h
  | agg ds =>
    simp only [AV.cells, Option.some.injEq] at hc; subst hc
    obtain ⟨vs, rfl, hr⟩ := h
    simpa [Value.cells] using hr
  | tup l => simp [AV.cells] at hc
  | undef => simp [AV.cells] at hc
  | bad => simp [AV.cells] at hc

/-! ### the temporaries -/

theorem beq_eq (a b : Nat) : Nat.beq a b = decide (a = b) := by
  rw [Bool.eq_iff_iff]; simp

set_option linter.unusedSimpArgs false in
theorem Tr.get_set : ∀ (f : Nat) (t : Tr) (i j : Nat) (x : AV), 1 ≤ i → i < 2 ^ f → 1 ≤ j → Tr.get f (Tr.set f t i x) j = if i = j then x else Tr.get f t j
  | 0, t, i, j, x, h1, h2, _ => by simp at h2; omega
  | f + 1, t, i, j, x, h1, h2, h3 => by
    have hp : 2 ^ (f + 1) = 2 * 2 ^ f := by rw [Nat.pow_succ]; omega
    have leafget : ∀ k, Tr.get f .leaf k = .undef := fun k => by cases f <;> rfl
    have fillget : ∀ k, Tr.get f .fill k = .bad := fun k => by cases f <;> rfl
    by_cases hi : i = 1
    · subst hi
      by_cases hj : j = 1
      · subst hj
        cases t <;> simp [Tr.set, Tr.get]
      · have hj' : Nat.beq j 1 = false := by rw [beq_eq]; simpa using hj
        have hne : ¬ (1 = j) := by omega
        cases t with
        | leaf => simp only [Tr.set, Tr.get, Nat.beq, hj', if_neg hne, leafget]; cases Nat.beq (j % 2) 0 <;> rfl
        | fill => simp only [Tr.set, Tr.get, Nat.beq, hj', if_neg hne, fillget]; cases Nat.beq (j % 2) 0 <;> rfl
        | node v l r => simp only [Tr.set, Tr.get, Nat.beq, hj', if_neg hne]
    · have hi' : Nat.beq i 1 = false := by rw [beq_eq]; simpa using hi
      have hihalf : 1 ≤ i / 2 ∧ i / 2 < 2 ^ f := by omega
      by_cases hj : j = 1
      · subst hj
        have hne : ¬ (i = 1) := hi
        cases t with
        | leaf => cases hb : Nat.beq (i % 2) 0 <;> simp [Tr.set, Tr.get, hi', hb, hne]
        | fill => cases hb : Nat.beq (i % 2) 0 <;> simp [Tr.set, Tr.get, hi', hb, hne]
        | node v l r => cases hb : Nat.beq (i % 2) 0 <;> simp [Tr.set, Tr.get, hi', hb, hne]
      · have hj' : Nat.beq j 1 = false := by rw [beq_eq]; simpa using hj
        have hjhalf : 1 ≤ j / 2 := by omega
        have ih := fun (t : Tr) => Tr.get_set f t (i / 2) (j / 2) x hihalf.1 hihalf.2 hjhalf
        have hie : Nat.beq (i % 2) 0 = decide (i % 2 = 0) := beq_eq _ _
        have hje : Nat.beq (j % 2) 0 = decide (j % 2 = 0) := beq_eq _ _
        by_cases hb : i % 2 = 0 <;> by_cases hc : j % 2 = 0
        · have heq : (i / 2 = j / 2) ↔ (i = j) := by omega
          cases t <;> simp [Tr.set, Tr.get, hi', hj', hie, hje, hb, hc, ih, heq, leafget, fillget]
        · have hne : ¬ i = j := by omega
          cases t <;> simp [Tr.set, Tr.get, hi', hj', hie, hje, hb, hc, hne, leafget, fillget]
        · have hne : ¬ i = j := by omega
          cases t <;> simp [Tr.set, Tr.get, hi', hj', hie, hje, hb, hc, hne, leafget, fillget]
        · have heq : (i / 2 = j / 2) ↔ (i = j) := by omega
          cases t <;> simp [Tr.set, Tr.get, hi', hj', hie, hje, hb, hc, ih, heq, leafget, fillget]

/-- The temporaries of a frame stand for those of the model's. -/
def RT (E : Env) (tm : Tm) (tmps : Array Value) : Prop :=
  tmps.size = tm.n ∧ tm.n ≤ 4000 ∧ ∀ i, i < tm.n → RV E (getT tm i) (tmps.getD i Go.undef)

theorem RT.mono {E E' : Env} (h : E <+: E') {tm : Tm} {tmps : Array Value} (ht : RT E tm tmps) : RT E' tm tmps :=
  ⟨ht.1, ht.2.1, fun i hi => (ht.2.2 i hi).mono h⟩

theorem blt_eq (a b : Nat) : Nat.blt a b = decide (a < b) := by
  rw [Bool.eq_iff_iff]; simp [Nat.blt_eq]

theorem setT_n (tm : Tm) (i : Nat) (x : AV) : (setT tm i x).n = tm.n := by
  unfold setT
  cases Nat.blt i tm.n <;> rfl

theorem getT_setT {tm : Tm} {i j : Nat} {x : AV} (hn : tm.n ≤ 4000) (hj : j < tm.n) : getT (setT tm i x) j = if i = j then x else getT tm j := by
  by_cases hi : i < tm.n
  · have h1 : Nat.blt i tm.n = true := by rw [blt_eq]; simpa using hi
    have h2 : Nat.blt j tm.n = true := by rw [blt_eq]; simpa using hj
    simp only [getT, setT, h1, h2]
    rw [Tr.get_set 12 tm.t (i + 1) (j + 1) x (by omega) (by omega) (by omega)]
    simp
  · have h1 : Nat.blt i tm.n = false := by rw [blt_eq]; simpa using hi
    have hne : ¬ i = j := by omega
    simp only [setT, h1, if_neg hne]

theorem RT.set {E : Env} {tm : Tm} {tmps : Array Value} (ht : RT E tm tmps) (i : Nat) {x : AV} {u : Value} (hx : RV E x u) : RT E (setT tm i x) (tmps.setIfInBounds i u) := by
  refine ⟨by simp [setT_n, ht.1], by rw [setT_n]; exact ht.2.1, fun j hj => ?_⟩
  rw [setT_n] at hj
  rw [getT_setT ht.2.1 hj]
  have hsz : j < tmps.size := by rw [ht.1]; exact hj
  by_cases hij : i = j
  · subst hij
    simp [Array.getD, hsz, hx]
  · rw [if_neg hij]
    have h0 := ht.2.2 j hj
    have e : (tmps.setIfInBounds i u).getD j Go.undef = tmps.getD j Go.undef := by
      simp [hij]
    rw [e]
    exact h0

theorem RT.put {E : Env} {tm : Tm} {a : Act} (ht : RT E tm a.tmps) (d : Option Tmp) {x : AV} {u : Value} (hx : RV E x u) : RT E (putT tm d x) (a.put d u).tmps := by
  cases d with
  | none => exact ht
  | some d => exact ht.set d hx

theorem RT.eval {E : Env} {tm : Tm} {a : Act} (ht : RT E tm a.tmps) (x : Operand) : RV E (evalO tm x) (a.eval x) := by
  cases x with
  | tmp t =>
    simp only [evalO, Act.eval]
    by_cases h : t < tm.n
    · exact ht.2.2 t h
    · have h1 : Nat.blt t tm.n = false := by rw [blt_eq]; simpa using h
      have hs : ¬ t < a.tmps.size := by rw [ht.1]; exact h
      simp only [getT, h1, Array.getD, hs, dif_neg, not_false_eq_true]
      rfl
  | const v =>
    simp only [evalO, Act.eval]
    split
    · rename_i a h; exact ofV_RV h
    · trivial
  | global g => exact ⟨rfl, rfl⟩
  | func f => exact ⟨[], rfl, rfl, by simp⟩


/-! ### values that refer to no block -/

/-- A value that refers to no block by its number. -/
def freeC : C1 → Prop
  | .sc _ _ | .em | .fl _ | .cf _ | .lst _ _ _ _ | .pl _ _ | .ez => True
  | .fn _ ps => ps = []
  | _ => False

/-- What lies in memory that nobody writes is there, too. -/
def FzLe (E E' : Env) : Prop := ∀ (j : Nat) (e : EB) (b q : Nat) (cs : List C1), E[j]? = some e → e.fz b q cs → ∃ (j' : Nat) (e' : EB), E'[j']? = some e' ∧ e'.fz b q cs

theorem FzLe.of {E E' : Env} (h : E <+: E') : FzLe E E' := fun j e _ _ _ he hf => ⟨j, e, prefix_get h he, hf⟩

theorem FzLe.trans {E E' E2 : Env} (h : FzLe E E') (h2 : FzLe E' E2) : FzLe E E2 := fun j e b q cs he hf => by
  obtain ⟨j', e', he', hf'⟩ := h j e b q cs he hf
  exact h2 j' e' b q cs he' hf'

theorem freeC_RC {E E' : Env} (h : FzLe E E') {c : C1} {u : Value} (hf : freeC c) (hr : RC E c u) : RC E' c u := by
  cases c with
  | sc v st => exact hr
  | em => exact hr
  | fl k => exact hr
  | cf k => exact hr
  | lst n N sz f =>
    rcases hr with hr | ⟨j, e, b, q, o, cap, cs, he, hz, r⟩
    · exact .inl hr
    · obtain ⟨j', e', he', hz'⟩ := h j e b q cs he hz
      exact .inr ⟨j', e', b, q, o, cap, cs, he', hz', r⟩
  | pl ds o =>
    obtain ⟨j, e, b, q, p, cs, he, hz, r⟩ := hr
    obtain ⟨j', e', he', hz'⟩ := h j e b q cs he hz
    exact ⟨j', e', b, q, p, cs, he', hz', r⟩
  | ez => exact hr
  | fn f ps =>
    have hf : ps = [] := hf
    subst hf
    obtain ⟨caps, hu, hl, _⟩ := hr
    exact ⟨caps, hu, hl, fun j p v hp => by simp at hp⟩
  | ptr i off => exact hf.elim
  | sl i off len sz => exact hf.elim
  | e0 i off => exact hf.elim
  | pr i k sz o => exact hf.elim
  | gr i n sz => exact hf.elim

theorem freeCs_RCs {E E' : Env} (h : FzLe E E') {cs : List C1} {vs : List Value} (hf : ∀ c ∈ cs, freeC c) (hr : RCs E cs vs) : RCs E' cs vs :=
  ⟨hr.1, fun j c v h1 h2 => freeC_RC h (hf c (List.mem_of_getElem? h1)) (hr.2 j c v h1 h2)⟩

def NoFz (E : Env) : Prop := ∀ (j : Nat) (e : EB), E[j]? = some e → (∀ (b q : Nat) (cs : List C1), ¬ e.fz b q cs) ∧ ∀ b, ¬ e.own b

theorem NoFz.nil : NoFz [] := fun j e h => by simp at h

theorem NoFz.cons {E : Env} (h : NoFz E) (b o n : Nat) : NoFz (EB.at b o n :: E) := fun j e he => by
  cases j with
  | zero => simp at he; subst he; exact ⟨fun _ _ _ hz => hz, fun _ hz => hz⟩
  | succ j => exact h j e (by simpa using he)

/-- Of those who called, and of what nobody writes, one knows nothing more. -/
def EvLe (E' E : Env) : Prop := FzLe E' E ∧ ∀ (j : Nat) (e : EB) (b : Nat), E'[j]? = some e → e.own b → ∃ (j' : Nat) (e' : EB), E[j']? = some e' ∧ e'.own b
end Sm
