/-
  What is proved here: loops behind whose rounds blocks are left that are forgotten, or are never written any more; lists that grow by append. contracts of functions that take and hand back lists. A text to be imported.
-/
import Derived.Test.YtcplpomnfnimbaaSimV
namespace Sm
open Go Go.RowKit

/-- The env behind a round: the first 'a' entries; of the others the one behind 'z' more, which takes over what nobody writes, the blocks of a list among it. -/
def cutF (a z : Nat) (js : List Nat) (hp : List Blk) (E : Env) : Env :=
  E.take a ++ (E.drop (a + z)).map fun e => { e with fz := fun b q cs => (∃ (j : Nat) (e' : EB), E[j]? = some e' ∧ e'.fz b q cs) ∨
    ∃ (j : Nat) (x : Blk) (e' : EB), j ∈ js ∧ hp[j]? = some x ∧ E[j]? = some e' ∧ x.live = true ∧ b = e'.b ∧ q = 0 ∧ cs = x.cells, own := fun b => ∃ (j : Nat) (e' : EB), E[j]? = some e' ∧ e'.own b }

/-- The value that stands for the same behind the round. -/
def renS (a z : Nat) (js : List Nat) (hp : List Blk) (c d : C1) : Prop :=
  ∀ (B : Nat) (w0 : World) (E : Env) (w : World) (u : Value), E.length = a + z + 1 → RH B w0 E hp w → RC E c u → RC (cutF a z js hp E) d u

def renI (a z i i' : Nat) : Bool := (Nat.blt i a && Nat.beq i' i) || (Nat.beq i (a + z) && Nat.beq i' a)

theorem renI_spec {a z i i' : Nat} (h : renI a z i i' = true) : (i < a ∧ i' = i) ∨ (i = a + z ∧ i' = a) := by
  unfold renI at h
  simp only [Bool.or_eq_true, Bool.and_eq_true, blt_eq, beq_eq, decide_eq_true_eq] at h
  exact h

theorem cutF_low {a z : Nat} {js : List Nat} {hp : List Blk} {E : Env} {i : Nat} (hl : E.length = a + z + 1) (h : i < a) : (cutF a z js hp E)[i]? = E[i]? := by
  unfold cutF
  rw [List.getElem?_append_left (by simp; omega), List.getElem?_take, if_pos h]

theorem cutF_last {a z : Nat} {js : List Nat} {hp : List Blk} {E : Env} {e : EB} (hl : E.length = a + z + 1) (he : E[a + z]? = some e) : ∃ e', (cutF a z js hp E)[a]? = some e' ∧ e'.b = e.b ∧ e'.o = e.o ∧ e'.n = e.n ∧
    (∀ b q cs, e'.fz b q cs ↔ (∃ (j : Nat) (e' : EB), E[j]? = some e' ∧ e'.fz b q cs) ∨ ∃ (j : Nat) (x : Blk) (e' : EB), j ∈ js ∧ hp[j]? = some x ∧ E[j]? = some e' ∧ x.live = true ∧ b = e'.b ∧ q = 0 ∧ cs = x.cells) ∧
    ∀ b, e'.own b ↔ ∃ (j : Nat) (e' : EB), E[j]? = some e' ∧ e'.own b := by
  unfold cutF
  rw [List.getElem?_append_right (by simp; omega), List.length_take, Nat.min_eq_left (by omega), Nat.sub_self, List.getElem?_map, List.getElem?_drop, Nat.add_zero, he]
  exact ⟨_, rfl, rfl, rfl, rfl, fun b q cs => Iff.rfl, fun b => Iff.rfl⟩

theorem cutF_len {a z : Nat} {js : List Nat} {hp : List Blk} {E : Env} (hl : E.length = a + z + 1) : (cutF a z js hp E).length = a + 1 := by
  unfold cutF
  simp
  omega

theorem cutF_fz {a z : Nat} {js : List Nat} {hp : List Blk} {E : Env} (hl : E.length = a + z + 1) : FzLe E (cutF a z js hp E) := fun j e b q cs he hz => by
  obtain ⟨e', h1, _, _, _, h2, _⟩ := cutF_last (js := js) (hp := hp) hl (List.getElem?_eq_getElem (show a + z < E.length by omega))
  exact ⟨a, e', h1, (h2 b q cs).2 (.inl ⟨j, e, he, hz⟩)⟩

theorem cutF_ren {a z : Nat} {js : List Nat} {hp : List Blk} {E : Env} {i i' : Nat} {e : EB} (hl : E.length = a + z + 1) (h : renI a z i i' = true) (he : E[i]? = some e) : ∃ e', (cutF a z js hp E)[i']? = some e' ∧ e'.b = e.b ∧ e'.o = e.o ∧ e'.n = e.n := by
  rcases renI_spec h with ⟨h1, rfl⟩ | ⟨rfl, rfl⟩
  · exact ⟨e, by rw [cutF_low hl h1]; exact he, rfl, rfl, rfl⟩
  · obtain ⟨e', h1, h2, h3, h4, _⟩ := cutF_last (js := js) (hp := hp) hl he
    exact ⟨e', h1, h2, h3, h4⟩

/-- What must hold of a block that nobody will write any more and that is such a list. -/
def frozB (js : List Nat) (hp : List Blk) (i n sz : Nat) (f : Nat → List C1) : Prop :=
  i ∈ js ∧ ∃ (x : Blk) (f' : Nat → List C1), hp[i]? = some x ∧ x.body = .rs n sz f' ∧ (n = 0 ∨ x.live = true) ∧ x.ro = false ∧ ∀ k, k < n → f k = f' k ∧ (f' k).length = sz

/-- The same value, told of constructors. -/
def renC (a z : Nat) (js : List Nat) (hp : List Blk) : C1 → C1 → Prop
  | .sc v _, .sc u _ => v = u
  | .sc (.slice none 0 0) _, .gr _ n _ => n = 0
  | .ptr i off, .ptr i' off' => renI a z i i' = true ∧ off = off'
  | .sl i off len sz, .sl i' off' len' sz' => renI a z i i' = true ∧ off = off' ∧ len = len' ∧ sz = sz'
  | .e0 i off, .e0 i' off' => renI a z i i' = true ∧ off = off'
  | .fn f ps, .fn f' ps' => f = f' ∧ ps = ps' ∧ ∀ p ∈ ps, p.1 < a
  | .em, .em => True
  | .ez, .ez => True
  | .fl k, .fl k' => k = k'
  | .cf k, .cf k' => k = k'
  | .pr i k sz o, .pr i' k' sz' o' => renI a z i i' = true ∧ k = k' ∧ sz = sz' ∧ o = o'
  | .gr i n sz, .gr i' n' sz' => renI a z i i' = true ∧ n = n' ∧ sz = sz'
  | .gr i n sz, .lst n' N' sz' f => n = n' ∧ n = N' ∧ sz = sz' ∧ frozB js hp i n sz f
  | .sl i off n sz, .lst n' N' sz' f => off = 0 ∧ n = n' ∧ n = N' ∧ sz = sz' ∧ frozB js hp i n sz f
  | .sc (.slice none 0 0) _, .lst n' N' _ _ => n' = 0 ∧ N' = 0
  | .lst n N sz f, .lst n' N' sz' f' => n = n' ∧ N = N' ∧ sz = sz' ∧ ∀ k, k < N → f k = f' k
  | .pl cs o, .pl cs' o' => cs = cs' ∧ o = o'
  | _, _ => False

theorem fn_low {a z : Nat} {js : List Nat} {hp : List Blk} {E : Env} {f : FuncId} {ps : List (Nat × Nat)} {u : Value} (hl : E.length = a + z + 1) (hp1 : ∀ p ∈ ps, p.1 < a) (hr : RC E (.fn f ps) u) : RC (cutF a z js hp E) (.fn f ps) u := by
  obtain ⟨caps, hu, hlen, hc⟩ := hr
  refine ⟨caps, hu, hlen, fun j p v hp' hv => ?_⟩
  obtain ⟨e, he, hv'⟩ := hc j p v hp' hv
  exact ⟨e, by rw [cutF_low hl (hp1 p (List.mem_of_getElem? hp'))]; exact he, hv'⟩

/-- A block that is frozen is such a list. -/
theorem froz_lst {a z : Nat} {js : List Nat} {hp : List Blk} {B : Nat} {w0 : World} {E : Env} {w : World} (hl : E.length = a + z + 1) (hh : RH B w0 E hp w) {i n sz : Nat} {f : Nat → List C1} (hf : frozB js hp i n sz f) {u : Value} (hn : n ≠ 0)
    (hr : RC E (.sl i 0 n sz) u) : RC (cutF a z js hp E) (.lst n n sz f) u := by
  obtain ⟨hj, x, f', hx, hb, hlv, hro, hff⟩ := hf
  have hlv := hlv.resolve_left hn
  obtain ⟨e, cap, he, rfl, h1, h2, h3⟩ := hr
  obtain ⟨c, hc, r1, hB, ho, r3, r4⟩ := hh.own hx he hlv hro
  obtain ⟨e', g1, g2, g3, g4, g5, _⟩ := cutF_last (js := js) (hp := hp) hl (List.getElem?_eq_getElem (show a + z < E.length by omega))
  have hce : x.cells = recC n sz f' := by rw [Blk.cells, hb]; rfl
  refine .inr ⟨a, e', e.b, 0, 0, cap, x.cells, g1, (g5 _ _ _).2 (.inr ⟨i, x, e, hj, hx, he, hlv, rfl, rfl, rfl⟩), by rw [ho], Nat.le_refl _, h1, h2, by rw [hce, recC_length]; omega, fun k hk => ?_⟩
  obtain ⟨q1, q2⟩ := hff k hk
  rw [q1, Nat.zero_add, hce, recC_at n sz f' hk q2]

theorem renC_S {a z : Nat} {js : List Nat} {hp : List Blk} {c d : C1} (h : renC a z js hp c d) : renS a z js hp c d := by
  intro B w0 E w u hl hh hr
  unfold renC at h
  split at h
  · subst h; exact hr
  · subst h; exact .inl ⟨rfl, hr.1⟩
  · obtain ⟨hi, rfl⟩ := h
    obtain ⟨e, he, hu⟩ := hr
    obtain ⟨e', h1, h2, h3, h4⟩ := cutF_ren (js := js) (hp := hp) hl hi he
    exact ⟨e', h1, by rw [h2, h3]; exact hu⟩
  · obtain ⟨hi, rfl, rfl, rfl⟩ := h
    obtain ⟨e, cap, he, hu, r1, r2, r3⟩ := hr
    obtain ⟨e', h1, h2, h3, h4⟩ := cutF_ren (js := js) (hp := hp) hl hi he
    exact ⟨e', cap, h1, by rw [h2, h3]; exact hu, r1, r2, by rw [h4]; exact r3⟩
  · obtain ⟨hi, rfl⟩ := h
    obtain ⟨e, he, hu⟩ := hr
    obtain ⟨e', h1, h2, h3, h4⟩ := cutF_ren (js := js) (hp := hp) hl hi he
    exact ⟨e', h1, by rw [h2, h3]; exact hu⟩
  · obtain ⟨rfl, rfl, hlow⟩ := h
    exact fn_low hl hlow hr
  · exact hr
  · exact hr
  · subst h; exact hr
  · subst h; exact hr
  · obtain ⟨hi, rfl, rfl, rfl⟩ := h
    obtain ⟨e, he, hu⟩ := hr
    obtain ⟨e', h1, h2, h3, h4⟩ := cutF_ren (js := js) (hp := hp) hl hi he
    exact ⟨e', h1, by rw [h2, h3]; exact hu⟩
  · obtain ⟨hi, rfl, rfl⟩ := h
    rcases hr with hr | ⟨hn, e, cap, he, hu, r1, r2, r3⟩
    · exact .inl hr
    · obtain ⟨e', h1, h2, h3, h4⟩ := cutF_ren (js := js) (hp := hp) hl hi he
      exact .inr ⟨hn, e', cap, h1, by rw [h2, h3]; exact hu, r1, r2, by rw [h4]; exact r3⟩
  · obtain ⟨rfl, rfl, rfl, hf⟩ := h
    rcases hr with ⟨rfl, rfl⟩ | ⟨hn, hr⟩
    · exact .inl ⟨rfl, rfl, _, _, rfl⟩
    · exact froz_lst hl hh hf hn hr
  · rename_i i off n sz n' N' sz' f
    obtain ⟨rfl, rfl, rfl, rfl, hf⟩ := h
    by_cases hn : n = 0
    · subst hn
      obtain ⟨e, cap, he, hu, _⟩ := hr
      exact .inl ⟨rfl, rfl, _, _, hu⟩
    · exact froz_lst hl hh hf hn hr
  · obtain ⟨rfl, rfl⟩ := h
    exact .inl ⟨rfl, rfl, _, _, hr.1⟩
  · obtain ⟨rfl, rfl, rfl, hf⟩ := h
    have h2 := freeC_RC (cutF_fz (js := js) (hp := hp) hl) (show freeC (.lst _ _ _ _) from trivial) hr
    rcases h2 with h2 | ⟨j, e, b, q, o, cap, cs, r1, r2, r3, r4, r5, r6, r7, r8⟩
    · exact .inl h2
    · exact .inr ⟨j, e, b, q, o, cap, cs, r1, r2, r3, r4, r5, r6, r7, fun k hk => by rw [← hf k hk]; exact r8 k hk⟩
  · obtain ⟨rfl, rfl⟩ := h
    exact freeC_RC (cutF_fz (js := js) (hp := hp) hl) trivial hr
  · exact h.elim

theorem pickC_t {E : Env} {c d : C1} {u : Value} (h : RC E (pickC true c d) u) : RC E c u := by
  unfold pickC at h
  split at h
  · split at h
    · rename_i hk; subst hk; exact h
    · exact h
  · split at h
    · rename_i hk; subst hk; exact h
    · exact h
  · exact h
  · split at h
    · rename_i hk; subst hk; exact h
    · exact h
  · split at h
    · rename_i hk; subst hk; exact h
    · exact h
  · split at h
    · rename_i hk; subst hk; exact h
    · exact h
  · exact h

theorem pickC_f {E : Env} {c d : C1} {u : Value} (h : RC E (pickC false c d) u) : RC E d u := by
  unfold pickC at h
  split at h
  · split at h
    · rename_i hk; subst hk; exact h
    · exact h
  · split at h
    · rename_i hk; subst hk; exact h
    · exact h
  · exact h
  · split at h
    · rename_i hk; subst hk; exact h
    · exact h
  · split at h
    · rename_i hk; subst hk; exact h
    · exact h
  · split at h
    · rename_i hk; subst hk; exact h
    · exact h
  · exact h

def renCs (a z : Nat) (js : List Nat) (hp : List Blk) : List C1 → List C1 → Prop
  | [], [] => True
  | c :: l, d :: m => renC a z js hp c d ∧ renCs a z js hp l m
  | _, _ => False

/-- Cells that stand for the same behind the round. -/
def renL (a z : Nat) (js : List Nat) (hp : List Blk) (l m : List C1) : Prop :=
  l.length = m.length ∧ ∀ (j : Nat) (c d : C1), l[j]? = some c → m[j]? = some d → renS a z js hp c d

theorem renCs_L {a z : Nat} {js : List Nat} {hp : List Blk} : ∀ {l m : List C1}, renCs a z js hp l m → renL a z js hp l m
  | [], [], _ => ⟨rfl, by simp⟩
  | c :: l, d :: m, h => by
    obtain ⟨h1, h2⟩ := renCs_L h.2
    refine ⟨by simp [h1], fun j x y hx hy => ?_⟩
    cases j with
    | zero => simp at hx hy; subst hx; subst hy; exact renC_S h.1
    | succ j => exact h2 j x y (by simpa using hx) (by simpa using hy)
  | [], _ :: _, h => h.elim
  | _ :: _, [], h => h.elim

theorem pickL_len {t : Bool} : ∀ {l m : List C1}, l.length = m.length → (pickL t l m).length = l.length
  | [], [], _ => rfl
  | c :: l, d :: m, h => by simp only [pickL, List.length_cons]; rw [pickL_len (by simpa using h)]
  | [], _ :: _, h => by simp at h
  | _ :: _, [], h => by simp at h

theorem pickL_at {t : Bool} : ∀ {l m : List C1} {j : Nat} {c : C1}, (pickL t l m)[j]? = some c → ∃ x y, l[j]? = some x ∧ m[j]? = some y ∧ c = pickC t x y
  | [], m, j, c, h => by simp [pickL] at h
  | _ :: _, [], j, c, h => by simp [pickL] at h
  | x :: l, y :: m, j, c, h => by
    cases j with
    | zero => simp only [pickL, List.getElem?_cons_zero, Option.some.injEq] at h; exact ⟨x, y, rfl, rfl, h.symm⟩
    | succ j => simp only [pickL, List.getElem?_cons_succ] at h ⊢; exact pickL_at h

theorem renL_t {a z : Nat} {js : List Nat} {hp : List Blk} {l m l' : List C1} (hlen : l.length = m.length) (h : renL a z js hp l l') : renL a z js hp (pickL true l m) l' :=
  ⟨by rw [pickL_len hlen]; exact h.1, fun j c d hc hd B w0 E w u hl hh hr => by
    obtain ⟨x, y, h1, h2, rfl⟩ := pickL_at hc
    exact h.2 j x d h1 hd B w0 E w u hl hh (pickC_t hr)⟩

theorem renL_f {a z : Nat} {js : List Nat} {hp : List Blk} {l m l' : List C1} (hlen : l.length = m.length) (h : renL a z js hp m l') : renL a z js hp (pickL false l m) l' :=
  ⟨by rw [pickL_len hlen, hlen]; exact h.1, fun j c d hc hd B w0 E w u hl hh hr => by
    obtain ⟨x, y, h1, h2, rfl⟩ := pickL_at hc
    exact h.2 j y d h2 hd B w0 E w u hl hh (pickC_f hr)⟩

/-- A list to which one element has been appended. -/
theorem renL_cat {a z : Nat} {js : List Nat} {hp : List Blk} {n : Nat} {f g f' : Nat → List C1} (hlen : ∀ k, (f k).length = (g (k - n)).length) (h1 : ∀ k, k < n → renL a z js hp (f k) (f' k)) (h2 : ∀ k, n ≤ k → renL a z js hp (g (k - n)) (f' k)) (k : Nat) : renL a z js hp (catR n f g k) (f' k) := by
  unfold catR
  by_cases hk : k < n
  · rw [show Nat.blt k n = true from by rw [blt_eq]; exact decide_eq_true hk]
    exact renL_t (hlen k) (h1 k hk)
  · rw [show Nat.blt k n = false from by rw [blt_eq]; exact decide_eq_false hk]
    exact renL_f (hlen k) (h2 k (by omega))

def renBody (a z : Nat) (js : List Nat) (hp : List Blk) : Body → Body → Prop
  | .li l, .li m => renCs a z js hp l m
  | .sy n g, .sy n' g' => n = n' ∧ ∀ j, j < n → renS a z js hp (g j) (g' j)
  | .rs n sz f, .rs n' sz' f' => n = n' ∧ sz = sz' ∧ ∀ k, k < n → renL a z js hp (f k) (f' k)
  | _, _ => False

/-- A block that is the same behind the round, or is not looked at any more. -/
def renB (a z : Nat) (js : List Nat) (hp : List Blk) (b b' : Blk) : Prop :=
  b'.live = false ∨ (b.live = true ∧ (b.elem, b.full) = (b'.elem, b'.full) ∧ b.ro = b'.ro ∧ renBody a z js hp b.body b'.body)

theorem renBody_RCs {a z : Nat} {js : List Nat} {hp : List Blk} {x y : Body} (h : renBody a z js hp x y) {B : Nat} {w0 : World} {E : Env} {w : World} (hl : E.length = a + z + 1) (hh : RH B w0 E hp w) {vs : List Value} (hr : RCs E x.cells vs) : RCs (cutF a z js hp E) y.cells vs := by
  unfold renBody at h
  split at h
  · obtain ⟨h1, h2⟩ := renCs_L h
    exact ⟨h1.symm.trans hr.1, fun j d v hd hv => by
      have hj : j < _ := (List.getElem?_eq_some_iff.1 hd).1
      exact h2 j _ d (List.getElem?_eq_getElem (show j < _ by rw [h1]; exact hj)) hd B w0 E w v hl hh (hr.2 j _ v (List.getElem?_eq_getElem _) hv)⟩
  · rename_i n g n' g'
    obtain ⟨rfl, h⟩ := h
    refine ⟨by have := hr.1; simpa [Body.cells, symC] using this, fun j d v hd hv => ?_⟩
    have hj : j < n := by have := (List.getElem?_eq_some_iff.1 hd).1; rwa [show (Body.sy n g').cells = symC n g' from rfl, symC_length] at this
    rw [show (Body.sy n g').cells = symC n g' from rfl, symC_get _ _ hj] at hd
    simp only [Option.some.injEq] at hd
    subst hd
    exact h j hj B w0 E w v hl hh (hr.2 j _ v (symC_get _ _ hj) hv)
  · rename_i n sz f n' sz' f'
    obtain ⟨rfl, rfl, h⟩ := h
    refine ⟨by have := hr.1; simpa [Body.cells, recC] using this, fun j d v hd hv => ?_⟩
    have hj : j < n * sz := by have := (List.getElem?_eq_some_iff.1 hd).1; rwa [show (Body.rs n sz f').cells = recC n sz f' from rfl, recC_length] at this
    have hsz : 0 < sz := by
      refine Nat.pos_of_ne_zero fun e0 => ?_
      rw [e0] at hj; omega
    have hk : j / sz < n := by rw [Nat.div_lt_iff_lt_mul hsz]; exact hj
    rw [show (Body.rs n sz f').cells = recC n sz f' from rfl, recC_get _ _ _ hj] at hd
    simp only [Option.some.injEq] at hd
    subst hd
    have hr2 := hr.2 j _ v (recC_get _ _ _ hj) hv
    obtain ⟨q1, q2⟩ := h _ hk
    by_cases hlt : j % sz < (f (j / sz)).length
    · have e1 : (f (j / sz)).getD (j % sz) .em = (f (j / sz))[j % sz] := by rw [List.getD_eq_getElem?_getD, List.getElem?_eq_getElem hlt]; rfl
      have hlt' : j % sz < (f' (j / sz)).length := by rw [← q1]; exact hlt
      have e2 : (f' (j / sz)).getD (j % sz) .em = (f' (j / sz))[j % sz] := by rw [List.getD_eq_getElem?_getD, List.getElem?_eq_getElem hlt']; rfl
      rw [e2]
      rw [e1] at hr2
      exact q2 _ _ _ (List.getElem?_eq_getElem hlt) (List.getElem?_eq_getElem hlt') B w0 E w v hl hh hr2
    · have e1 : (f (j / sz)).getD (j % sz) .em = .em := by rw [List.getD_eq_getElem?_getD, List.getElem?_eq_none (by omega)]; rfl
      have e2 : (f' (j / sz)).getD (j % sz) .em = .em := by rw [List.getD_eq_getElem?_getD, List.getElem?_eq_none (by omega)]; rfl
      rw [e2]
      rw [e1] at hr2
      exact hr2
  · exact h.elim

def renBs (a z : Nat) (js : List Nat) (hp : List Blk) : List Blk → List Blk → Prop
  | [], [] => True
  | b :: l, b' :: l' => renB a z js hp b b' ∧ renBs a z js hp l l'
  | _, _ => False

theorem renBs_get {a z : Nat} {js : List Nat} {hp : List Blk} : ∀ {l l' : List Blk}, renBs a z js hp l l' → l'.length = l.length ∧ ∀ (i : Nat) (b' : Blk), l'[i]? = some b' → ∃ b, l[i]? = some b ∧ renB a z js hp b b'
  | [], [], _ => ⟨rfl, fun i b' h => by simp at h⟩
  | b :: l, c :: l', h => by
    obtain ⟨h1, h2⟩ := renBs_get h.2
    refine ⟨by simp [h1], fun i b' hb => ?_⟩
    cases i with
    | zero => simp at hb; subst hb; exact ⟨b, rfl, h.1⟩
    | succ i => obtain ⟨x, a1, a2⟩ := h2 i b' (by simpa using hb); exact ⟨x, by simpa using a1, a2⟩
  | [], _ :: _, h => h.elim
  | _ :: _, [], h => h.elim

/-- Blocks that may be frozen: each lies behind the first 'a', is one's own, refers to no block, and is not looked at behind the round. -/
def frozOk (a z : Nat) (js : List Nat) (hp : List Blk) : Prop := ∀ j ∈ js, a ≤ j ∧ j < a + z ∧ ∀ x, hp[j]? = some x → x.ro = false ∧ ∀ c ∈ x.cells, freeC c

/-- Behind a round: blocks are forgotten, some are frozen. -/
theorem RH.cut {B : Nat} {w0 : World} {E : Env} {hp A D A' : List Blk} {b b' : Blk} {js : List Nat} {w : World} (hhp : hp = A ++ D ++ [b]) (h : RH B w0 E hp w) (hf : frozOk A.length D.length js hp) (hA : renBs A.length D.length js hp A A') (hb : renB A.length D.length js hp b b') :
    RH B w0 (cutF A.length D.length js hp E) (A' ++ [b']) w := by
  have hl : E.length = A.length + D.length + 1 := by rw [h.len, hhp]; simp; omega
  obtain ⟨hlA, hgA⟩ := renBs_get hA
  -- where a live block comes from
  have at_ : ∀ (i : Nat) (x : Blk) (e : EB), (A' ++ [b'])[i]? = some x → (cutF A.length D.length js hp E)[i]? = some e → x.live = true → ∃ k y ek, renI A.length D.length k i = true ∧ hp[k]? = some y ∧ E[k]? = some ek ∧ ek.b = e.b ∧ ek.o = e.o ∧ ek.n = e.n ∧ y.live = true ∧ (y.elem, y.full) = (x.elem, x.full) ∧ y.ro = x.ro ∧ renBody A.length D.length js hp y.body x.body := fun i x e hx he hlx => by
    by_cases hi : i < A.length
    · rw [List.getElem?_append_left (by rw [hlA]; exact hi)] at hx
      rw [cutF_low hl hi] at he
      obtain ⟨y, hy, hr⟩ := hgA i x hx
      rcases hr with hr | ⟨r1, r2, r3, r4⟩
      · rw [hr] at hlx; cases hlx
      · refine ⟨i, y, e, ?_, by rw [hhp, List.append_assoc, List.getElem?_append_left hi]; exact hy, he, rfl, rfl, rfl, r1, r2, r3, r4⟩
        unfold renI
        rw [blt_eq, decide_eq_true hi, Nat.beq_refl]; rfl
    · rw [List.getElem?_append_right (by rw [hlA]; omega)] at hx
      have h0 := (List.getElem?_eq_some_iff.1 hx).1
      have hi0 : i = A.length := by rw [hlA] at h0; simp at h0; omega
      subst hi0
      rw [hlA, Nat.sub_self] at hx
      simp only [List.getElem?_cons_zero, Option.some.injEq] at hx
      subst hx
      rcases hb with hb | ⟨r1, r2, r3, r4⟩
      · rw [hb] at hlx; cases hlx
      · have hE : E[A.length + D.length]? = some (E[A.length + D.length]'(by omega)) := List.getElem?_eq_getElem _
        obtain ⟨e', g1, g2, g3, g4, _⟩ := cutF_last (js := js) (hp := hp) hl hE
        rw [he] at g1
        obtain rfl := Option.some.inj g1
        refine ⟨A.length + D.length, b, _, ?_, ?_, hE, g2.symm, g3.symm, g4.symm, r1, r2, r3, r4⟩
        · unfold renI
          rw [Nat.beq_refl, Nat.beq_refl]; simp
        · rw [hhp, List.getElem?_append_right (by simp)]; simp
  have own_ : ∀ (j : Nat) (e : EB) (b0 : Nat), (cutF A.length D.length js hp E)[j]? = some e → e.own b0 → ∃ (j' : Nat) (e' : EB), E[j']? = some e' ∧ e'.own b0 := fun j e b0 he ho => by
    by_cases hj : j < A.length
    · rw [cutF_low hl hj] at he
      exact ⟨j, e, he, ho⟩
    · have hjl : j = A.length := by
        have := (List.getElem?_eq_some_iff.1 he).1
        rw [cutF_len hl] at this
        omega
      subst hjl
      obtain ⟨e', g1, _, _, _, _, g5⟩ := cutF_last (js := js) (hp := hp) hl (List.getElem?_eq_getElem (show A.length + D.length < E.length by omega))
      rw [he] at g1
      obtain rfl := Option.some.inj g1
      exact (g5 b0).1 ho
  have inj2 : ∀ k k' i i', renI A.length D.length k i = true → renI A.length D.length k' i' = true → i ≠ i' → k ≠ k' := fun k k' i i' h1 h2 hne e => by
    subst e
    rcases renI_spec h1 with ⟨a1, rfl⟩ | ⟨a1, rfl⟩ <;> rcases renI_spec h2 with ⟨a2, rfl⟩ | ⟨a2, rfl⟩ <;> omega
  refine ⟨h.below, h.base, h.laid, ?_, fun i x e hx he hlx => ?_, fun i j bi bj ei ej hij hi hj hei hej hli hlj hro => ?_, ⟨fun j e b0 q cs he hz => ?_, fun j e b0 he ho => by
      obtain ⟨j', e', g1, g2⟩ := own_ j e b0 he ho
      exact h.frz.2 j' e' b0 g1 g2⟩⟩
  · rw [cutF_len hl]; simp [hlA]
  · obtain ⟨k, y, ek, _, hy, hek, e1, e2, e3, l1, l2, l3, l4⟩ := at_ i x e hx he hlx
    obtain ⟨c, fz, r1, r2, r3, r4, r5⟩ := h.blk k y ek hy hek l1
    have h6 := renBody_RCs l4 hl h r5
    have hlen : x.cells.length = y.cells.length := h6.1.trans r5.1.symm
    obtain ⟨l2, l2f⟩ := Prod.mk.inj l2
    refine ⟨c, fz, by rw [← e1, ← l2]; exact r1, by rw [← e2, ← e3]; exact r2, fun hro => ?_, ⟨by rw [hlen, ← e3]; exact r4.1, fun hf hr => by rw [hlen, ← e3]; exact r4.2 (l2f.trans hf) (l3.trans hr)⟩, by rw [hlen, ← e2]; exact h6⟩
    rw [← e1, ← e2]
    exact r3 (by rw [l3]; exact hro)
  · obtain ⟨k1, y1, ek1, q1, hy1, hek1, e1, _, _, l1, _, l3, _⟩ := at_ i bi ei hi hei hli
    obtain ⟨k2, y2, ek2, q2, hy2, hek2, f1, _, _, m1, _, _, _⟩ := at_ j bj ej hj hej hlj
    rw [← e1, ← f1]
    exact h.inj k1 k2 y1 y2 ek1 ek2 (inj2 k1 k2 i j q1 q2 hij) hy1 hy2 hek1 hek2 l1 m1 (by rw [l3]; exact hro)
  · -- what nobody writes
    have sep : ∀ (b1 : Nat), (∀ (k : Nat) (y : Blk) (ek : EB), (k < A.length ∨ k = A.length + D.length) → hp[k]? = some y → E[k]? = some ek → y.live = true → y.ro = false → ek.b ≠ b1) → ∀ (i : Nat) (bi : Blk) (ei : EB), (A' ++ [b'])[i]? = some bi → (cutF A.length D.length js hp E)[i]? = some ei → bi.live = true → bi.ro = false → ei.b ≠ b1 := fun b1 hs i bi ei hi hei hli hro => by
      obtain ⟨k, y, ek, q, hy, hek, e1, _, _, l1, _, l3, _⟩ := at_ i bi ei hi hei hli
      rw [← e1]
      refine hs k y ek ?_ hy hek l1 (by rw [l3]; exact hro)
      rcases renI_spec q with ⟨q1, _⟩ | ⟨q1, _⟩
      · exact .inl q1
      · exact .inr q1
    have old : ∀ (j0 : Nat) (e0 : EB), E[j0]? = some e0 → e0.fz b0 q cs → (∃ c t z, w.heap[b0]? = some (.cells c t z) ∧ q + cs.length ≤ c.size ∧ RCs (cutF A.length D.length js hp E) cs ((c.toList.drop q).take cs.length) ∧ ∀ x ∈ cs, freeC x) ∧
        (∀ (i : Nat) (bi : Blk) (ei : EB), (A' ++ [b'])[i]? = some bi → (cutF A.length D.length js hp E)[i]? = some ei → bi.live = true → bi.ro = false → ei.b ≠ b0) ∧ ∀ (i : Nat) (ei : EB), (cutF A.length D.length js hp E)[i]? = some ei → ¬ ei.own b0 := fun j0 e0 he0 hz0 => by
      obtain ⟨⟨c, t, z, r1, r2, r3, r4⟩, r5, r6⟩ := h.frz.1 j0 e0 b0 q cs he0 hz0
      exact ⟨⟨c, t, z, r1, r2, freeCs_RCs (cutF_fz hl) r4 r3, r4⟩, sep b0 fun k y ek _ hy hek l1 l2 => r5 k y ek hy hek l1 l2, fun i ei hei ho => by
        obtain ⟨j', e', g1, g2⟩ := own_ i ei b0 hei ho
        exact r6 j' e' g1 g2⟩
    by_cases hj : j < A.length
    · rw [cutF_low hl hj] at he
      exact old j e he hz
    · have hjl : j = A.length := by
        have := (List.getElem?_eq_some_iff.1 he).1
        rw [cutF_len hl] at this
        omega
      subst hjl
      obtain ⟨e', g1, _, _, _, g5, _⟩ := cutF_last (js := js) (hp := hp) hl (List.getElem?_eq_getElem (show A.length + D.length < E.length by omega))
      rw [he] at g1
      obtain rfl := Option.some.inj g1
      rcases (g5 b0 q cs).1 hz with ⟨j0, e0, he0, hz0⟩ | ⟨j0, x, e0, hj0, hx, he0, hlx, rfl, rfl, rfl⟩
      · exact old j0 e0 he0 hz0
      · obtain ⟨hj1, hj2, hj3⟩ := hf j0 hj0
        obtain ⟨hro, hfr⟩ := hj3 x hx
        obtain ⟨c, hc, r1, hB, ho, r3, r4⟩ := h.own hx he0 hlx hro
        refine ⟨⟨c, x.elem, (0, 0), hc, by omega, by rw [List.drop_zero]; exact freeCs_RCs (cutF_fz hl) hfr r4, hfr⟩, sep e0.b fun k y ek hk hy hek l1 l2 => ?_, fun i ei hei ho' => by
          obtain ⟨j', e', g1, g2⟩ := own_ i ei e0.b hei ho'
          have := h.frz.2 j' e' e0.b g1 g2
          omega⟩
        exact h.inj k j0 y x ek e0 (by omega) hy hx hek he0 l1 hlx l2

/-- Several results that stand for the same. -/
def renT (a z : Nat) (js : List Nat) (hp : List Blk) : List (Bool × List C1) → List (Bool × List C1) → Prop
  | [], [] => True
  | p :: x, q :: y => (p.1 = q.1 ∧ renCs a z js hp p.2 q.2) ∧ renT a z js hp x y
  | _, _ => False

theorem renT_at {a z : Nat} {js : List Nat} {hp : List Blk} : ∀ {l m : List (Bool × List C1)}, renT a z js hp l m → l.length = m.length ∧ ∀ (j : Nat) (p q : Bool × List C1), l[j]? = some p → m[j]? = some q → p.1 = q.1 ∧ renCs a z js hp p.2 q.2
  | [], [], _ => ⟨rfl, by simp⟩
  | p :: l, q :: m, h => by
    obtain ⟨h1, h2⟩ := renT_at h.2
    refine ⟨by simp [h1], fun j x y hx hy => ?_⟩
    cases j with
    | zero => simp at hx hy; subst hx; subst hy; exact h.1
    | succ j => exact h2 j x y (by simpa using hx) (by simpa using hy)
  | [], _ :: _, h => h.elim
  | _ :: _, [], h => h.elim

theorem renCs_RCs {a z : Nat} {js : List Nat} {hp : List Blk} {l m : List C1} (h : renCs a z js hp l m) {B : Nat} {w0 : World} {E : Env} {w : World} (hl : E.length = a + z + 1) (hh : RH B w0 E hp w) {vs : List Value} (hr : RCs E l vs) : RCs (cutF a z js hp E) m vs := by
  obtain ⟨h1, h2⟩ := renCs_L h
  exact ⟨h1.symm.trans hr.1, fun j d v hd hv => by
    have hj : j < _ := (List.getElem?_eq_some_iff.1 hd).1
    exact h2 j _ d (List.getElem?_eq_getElem (show j < _ by rw [h1]; exact hj)) hd B w0 E w v hl hh (hr.2 j _ v (List.getElem?_eq_getElem _) hv)⟩

theorem RP_ren {a z : Nat} {js : List Nat} {hp : List Blk} {p q : Bool × List C1} (h1 : p.1 = q.1) (h : renCs a z js hp p.2 q.2) {B : Nat} {w0 : World} {E : Env} {w : World} (hl : E.length = a + z + 1) (hh : RH B w0 E hp w) {v : Value} (hr : RP E p v) : RP (cutF a z js hp E) q v := by
  obtain ⟨t, l⟩ := p
  obtain ⟨t', m⟩ := q
  obtain rfl : t = t' := h1
  cases t with
  | false =>
    obtain ⟨c, hc, hr⟩ := hr
    obtain rfl : l = [c] := hc
    cases m with
    | nil => exact h.elim
    | cons d m => cases m with
      | nil => exact ⟨d, rfl, renC_S h.1 B w0 E w v hl hh hr⟩
      | cons d' m => exact h.2.elim
  | true =>
    obtain ⟨vs, hv, hr⟩ := hr
    exact ⟨vs, hv, renCs_RCs h hl hh hr⟩

def renA (a z : Nat) (js : List Nat) (hp : List Blk) : AV → AV → Prop
  | .one c, .one d => renC a z js hp c d
  | .agg l, .agg m => renCs a z js hp l m
  | .tup l, .tup m => renT a z js hp l m
  | .undef, .undef => True
  | _, .bad => True
  | _, _ => False

theorem renA_RV {a z : Nat} {js : List Nat} {hp : List Blk} {x y : AV} (h : renA a z js hp x y) {B : Nat} {w0 : World} {E : Env} {w : World} (hl : E.length = a + z + 1) (hh : RH B w0 E hp w) {u : Value} (hr : RV E x u) : RV (cutF a z js hp E) y u := by
  unfold renA at h
  split at h
  · exact renC_S h B w0 E w u hl hh hr
  · obtain ⟨vs, hu, hr⟩ := hr
    obtain ⟨h1, h2⟩ := renCs_L h
    exact ⟨vs, hu, h1.symm.trans hr.1, fun j d v hd hv => by
      have hj : j < _ := (List.getElem?_eq_some_iff.1 hd).1
      exact h2 j _ d (List.getElem?_eq_getElem (show j < _ by rw [h1]; exact hj)) hd B w0 E w v hl hh (hr.2 j _ v (List.getElem?_eq_getElem _) hv)⟩
  · obtain ⟨us, hu, h3, hr⟩ := hr
    obtain ⟨h1, h2⟩ := renT_at h
    refine ⟨us, hu, h1.symm.trans h3, fun j q v hq hv => ?_⟩
    have hj : j < _ := (List.getElem?_eq_some_iff.1 hq).1
    have hp := List.getElem?_eq_getElem (show j < _ by rw [h1]; exact hj)
    obtain ⟨e1, e2⟩ := h2 j _ q hp hq
    have r := hr j _ v hp hv
    exact RP_ren e1 e2 hl hh r
  · exact hr
  · trivial
  · exact h.elim

def renVs (a z : Nat) (js : List Nat) (hp : List Blk) : List AV → List AV → Prop
  | [], [] => True
  | x :: l, y :: m => renA a z js hp x y ∧ renVs a z js hp l m
  | _, _ => False

theorem RT.ren {a z : Nat} {js : List Nat} {hp : List Blk} {B : Nat} {w0 : World} {E : Env} {w : World} (hlE : E.length = a + z + 1) (hh : RH B w0 E hp w) {tm : Tm} {ts : Array Value} (h : RT E tm ts) : ∀ (l : List (Nat × AV)), renVs a z js hp (l.map fun p => getT tm p.1) (l.map (·.2)) → RT (cutF a z js hp E) (tmL tm.n l) ts
  | [], _ => by
    refine ⟨h.1, h.2.1, fun i hi => ?_⟩
    have : getT (tmL tm.n []) i = .bad := by
      simp only [tmL, getT]
      rw [show Nat.blt i tm.n = true from by rw [blt_eq]; simpa [tmL] using hi]
      rfl
    rw [this]; trivial
  | (k, v) :: l, hl => by
    have ih := RT.ren hlE hh h l hl.2
    refine ⟨by rw [tmL, setT_n, tmL_n]; exact h.1, by rw [tmL, setT_n, tmL_n]; exact h.2.1, fun i hi => ?_⟩
    rw [tmL, setT_n, tmL_n] at hi
    rw [tmL, getT_setT (by rw [tmL_n]; exact h.2.1) (by rw [tmL_n]; exact hi)]
    by_cases hk : k = i
    · subst hk
      rw [if_pos rfl]
      exact renA_RV hl.1 hlE hh (h.2.2 k hi)
    · rw [if_neg hk]
      exact ih.2.2 i (by rw [tmL_n]; exact hi)

/-- Behind a round, or behind the loop: blocks are forgotten, some are frozen. -/
def AfterG (e : Ex) (a : Nat) (n : Nat) (js : List Nat) (l : List (Nat × AV)) (hp' : List Blk) : Ex → Nat → List AV → List Blk → Prop :=
  fun x m vs hp0 => x = e ∧ m = n ∧ ∃ hp A D b A' b', (hp = hp0 ∨ hp = hp0 ++ [deadB]) ∧ A.length = a ∧ hp = A ++ D ++ [b] ∧ hp' = A' ++ [b'] ∧ frozOk a D.length js hp ∧ renVs a D.length js hp vs (l.map (·.2)) ∧ renBs a D.length js hp A A' ∧ renB a D.length js hp b b'

/-- A contract of a loop that keeps the first 'a' blocks' places alone. -/
def LoopOkB (P : Program) (a : Nat) (c : Code) (tm : Tm) (hp : List Blk) (x : Ex) (tm' : Tm) (hp' : List Blk) : Prop :=
  ∀ (B : Nat) (w0 : World) (E : Env) (ac : Act) (w : World) (Q : Exit → Act → World → Prop), RH B w0 E hp w → RT E tm ac.tmps →
    (∀ E' a' w', E.take a <+: E' → RT E' tm' a'.tmps → a'.defers = ac.defers → RH B w0 E' hp' w' → Q x.to a' w') → InLoop P c Q ac w

theorem after_cut {e x : Ex} {a n : Nat} {js : List Nat} {l : List (Nat × AV)} {hp' hp : List Blk} {tm : Tm} (h : AfterG e a n js l hp' x tm.n ((l.map (·.1)).map (getT tm)) hp) {B : Nat} {w0 : World} {E0 E : Env} {w : World} {ts : Array Value} (hpre : E0 <+: E) (ha : a ≤ E0.length) (hh : RH B w0 E hp w) (ht : RT E tm ts) :
    x = e ∧ ∃ E', E0.take a <+: E' ∧ RH B w0 E' hp' w ∧ RT E' (tmL n l) ts := by
  obtain ⟨rfl, hn, hp1, A, D, b, A', b', hor, hA, hhp, rfl, hf, hv, hrA, hrb⟩ := h
  subst hA
  have go : ∀ (E1 : Env), E0 <+: E1 → RH B w0 E1 hp1 w → RT E1 tm ts → ∃ E', E0.take A.length <+: E' ∧ RH B w0 E' (A' ++ [b']) w ∧ RT E' (tmL n l) ts := fun E1 hpre hh ht => by
    have hl : E1.length = A.length + D.length + 1 := by rw [hh.len, hhp]; simp; omega
    refine ⟨cutF A.length D.length js hp1 E1, ?_, hh.cut hhp hf hrA hrb, ?_⟩
    · have e1 : E1.take A.length = E0.take A.length := by
        obtain ⟨t, rfl⟩ := hpre
        rw [List.take_append_of_le_length ha]
      unfold cutF
      rw [e1]
      exact ⟨_, rfl⟩
    · rw [← hn]
      exact ht.ren hl hh l (by rw [List.map_map] at hv; exact hv)
  rcases hor with rfl | rfl
  · exact ⟨rfl, go E hpre hh ht⟩
  · have hp2 : E <+: E ++ [EB.at 0 0 0] := ⟨_, rfl⟩
    exact ⟨rfl, go _ (hpre.trans hp2) hh.dead1 (ht.mono hp2)⟩

/-- Rounds, each of which may leave blocks behind. -/
theorem grow_rounds {P : Program} {T : Tab} (hm : P.follows .mixedOrders = true) (hT : TabOk P T) {c : Code} (a n0 N : Nat) (l : Nat → List (Nat × AV)) (hps : Nat → List Blk) (x : Ex) (lf : List (Nat × AV)) (hpf : List Blk) (hx : x ≠ .normal) (ha : ∀ i, i ≤ N → a ≤ (hps i).length)
    (hs : ∀ i, i < N → ∃ F, FnsOk P F ∧ ∃ n orc js, roundK P T F n c (tmL n0 (l i)) (hps i) orc ((l (i + 1)).map (·.1)) (AfterG .normal a n0 js (l (i + 1)) (hps (i + 1))))
    (hN : ∃ F, FnsOk P F ∧ ∃ n orc js, roundK P T F n c (tmL n0 (l N)) (hps N) orc (lf.map (·.1)) (AfterG x a n0 js lf hpf)) :
    ∀ i, i ≤ N → LoopOkB P a c (tmL n0 (l i)) (hps i) x (tmL n0 lf) hpf := by
  intro i hi
  obtain ⟨d, hd⟩ : ∃ d, N - i = d := ⟨_, rfl⟩
  induction d generalizing i with
  | zero =>
    obtain rfl : i = N := by omega
    intro B w0 E ac w Q hh ht hq
    obtain ⟨F, hF, n, orc, js, h⟩ := hN
    unfold roundK at h
    refine InLoop.round ((code_both hm hT n B w0 F hF c).1 _ _ _ _ E ac w _ h hh ht ?_)
    intro y tm' hp' orc' E' a' w' hk hpre hrt hd' hrh
    obtain ⟨rfl, E2, h1, h2, h3⟩ := after_cut hk hpre (by rw [hh.len]; exact ha i (Nat.le_refl _)) hrh hrt
    have hq' := hq E2 a' w' h1 h3 hd' h2
    cases y with
    | normal => exact absurd rfl hx
    | exit id => exact hq'
    | ret => exact hq'
  | succ d ih =>
    intro B w0 E ac w Q hh ht hq
    obtain ⟨F, hF, n, orc, js, h⟩ := hs i (by omega)
    unfold roundK at h
    refine InLoop.round ((code_both hm hT n B w0 F hF c).1 _ _ _ _ E ac w _ h hh ht ?_)
    intro y tm' hp' orc' E' a' w' hk hpre hrt hd' hrh
    have haE : a ≤ E.length := by rw [hh.len]; exact ha i hi
    obtain ⟨rfl, E2, h1, h2, h3⟩ := after_cut hk hpre haE hrh hrt
    refine ih (i + 1) (by omega) (by omega) B w0 E2 a' w' Q h2 h3 fun E3 a3 w3 hpre3 hrt3 hd3 hrh3 => hq E3 a3 w3 (List.IsPrefix.trans ?_ hpre3) hrt3 (hd3.trans hd') hrh3
    obtain ⟨t, rfl⟩ := h1
    rw [List.take_append_of_le_length (by rw [List.length_take]; omega), List.take_take, Nat.min_self]
    exact List.prefix_refl _

/-- A value at the beginning of a loop in which lists grow: nothing yet is a list of no elements. -/
def startA : AV → AV → Prop
  | .one (.sc v _), .one (.sc u _) => v = u
  | .one (.sc (.slice none 0 0) _), .one (.gr _ 0 _) => True
  | a, b => a = b

theorem startA_RV {E : Env} {a b : AV} {u : Value} (h : startA a b) (hr : RV E a u) : RV E b u := by
  unfold startA at h
  split at h
  · subst h; exact hr
  · exact .inl ⟨rfl, hr.1⟩
  · subst h; exact hr

def startVs (tm : Tm) : List (Nat × AV) → Prop
  | [] => True
  | (k, v) :: l => startA (getT tm k) v ∧ startVs tm l

theorem RT.start' {E : Env} {tm : Tm} {ts : Array Value} (h : RT E tm ts) : ∀ (l : List (Nat × AV)), startVs tm l → RT E (tmL tm.n l) ts
  | [], _ => by
    refine ⟨h.1, h.2.1, fun i hi => ?_⟩
    have : getT (tmL tm.n []) i = .bad := by
      simp only [tmL, getT]
      rw [show Nat.blt i tm.n = true from by rw [blt_eq]; simpa [tmL] using hi]
      rfl
    rw [this]; trivial
  | (k, v) :: l, hl => by
    have ih := RT.start' h l hl.2
    refine ⟨by rw [tmL, setT_n, tmL_n]; exact h.1, by rw [tmL, setT_n, tmL_n]; exact h.2.1, fun i hi => ?_⟩
    rw [tmL, setT_n, tmL_n] at hi
    rw [tmL, getT_setT (by rw [tmL_n]; exact h.2.1) (by rw [tmL_n]; exact hi)]
    by_cases hk : k = i
    · subst hk
      rw [if_pos rfl]
      exact startA_RV hl.1 (h.2.2 k hi)
    · rw [if_neg hk]
      exact ih.2.2 i (by rw [tmL_n]; exact hi)

/-- Blocks at the beginning of such a loop: cells that say the same. -/
def startB (b b' : Blk) : Prop := b'.live = false ∨ (b.live = true ∧ (b.elem, b.full) = (b'.elem, b'.full) ∧ b.ro = b'.ro ∧ ∀ E vs, RCs E b.cells vs → RCs E b'.cells vs)

def startBs : List Blk → List Blk → Prop
  | [], [] => True
  | b :: l, b' :: l' => startB b b' ∧ startBs l l'
  | _, _ => False

theorem startB.refl (b : Blk) : startB b b := by
  cases h : b.live with
  | false => exact .inl h
  | true => exact .inr ⟨h, rfl, rfl, fun _ _ h => h⟩

theorem startBs.refl : ∀ l, startBs l l
  | [] => trivial
  | b :: l => ⟨.refl b, startBs.refl l⟩

theorem startBs_get : ∀ {l l' : List Blk}, startBs l l' → l'.length = l.length ∧ ∀ (i : Nat) (b' : Blk), l'[i]? = some b' → ∃ b, l[i]? = some b ∧ startB b b'
  | [], [], _ => ⟨rfl, fun i b' h => by simp at h⟩
  | b :: l, c :: l', h => by
    obtain ⟨h1, h2⟩ := startBs_get h.2
    refine ⟨by simp [h1], fun i b' hb => ?_⟩
    cases i with
    | zero => simp at hb; subst hb; exact ⟨b, rfl, h.1⟩
    | succ i => obtain ⟨x, a1, a2⟩ := h2 i b' (by simpa using hb); exact ⟨x, by simpa using a1, a2⟩
  | [], _ :: _, h => h.elim
  | _ :: _, [], h => h.elim

/-- A loop whose rounds have one block more than there was. -/
theorem grow_enter {P : Program} {c : Code} {a n0 : Nat} {tm : Tm} {l0 : List (Nat × AV)} {hp0 hp1 : List Blk} {b0 : Blk} {x : Ex} {tm' : Tm} {hpf : List Blk} (hlen : hp0.length = a) (hn : tm.n = n0) (hl : startVs tm l0) (hb : startBs hp0 hp1) (hb0 : b0.live = false)
    (h : LoopOkB P a c (tmL n0 l0) (hp1 ++ [b0]) x tm' hpf) : LoopOk P c tm hp0 x tm' hpf := by
  intro B w0 E ac w Q hh ht hq
  obtain ⟨h1, h2⟩ := startBs_get hb
  have hh1 : RH B w0 (E ++ [EB.at 0 0 0]) (hp1 ++ [b0]) w := by
    refine hh.dead1.weaken (by simp [h1]) fun i b' hi hlv => ?_
    by_cases hib : i < hp0.length
    · rw [List.getElem?_append_left (by rw [h1]; exact hib)] at hi
      obtain ⟨b, g1, g2⟩ := h2 i b' hi
      rcases g2 with g2 | ⟨g2, g3, g4, g5⟩
      · rw [g2] at hlv; cases hlv
      · exact ⟨b, by rw [List.getElem?_append_left hib]; exact g1, g2, g3, fun hr => by rw [g4]; exact hr, fun vs hr => g5 _ vs hr⟩
    · rw [List.getElem?_append_right (by rw [h1]; omega)] at hi
      have h0 := (List.getElem?_eq_some_iff.1 hi).1
      have h3 : i - hp1.length = 0 := by simp at h0; omega
      rw [h3] at hi
      simp only [List.getElem?_cons_zero, Option.some.injEq] at hi
      subst hi
      rw [hb0] at hlv; cases hlv
  have hpre : E <+: E ++ [EB.at 0 0 0] := ⟨_, rfl⟩
  refine h B w0 (E ++ [EB.at 0 0 0]) ac w Q hh1 (hn ▸ (ht.mono hpre).start' l0 hl) fun E2 a2 w2 hpre2 hrt2 hd2 hrh2 => hq E2 a2 w2 ?_ hrt2 hd2 hrh2
  have e : (E ++ [EB.at 0 0 0]).take a = E := by
    rw [← hlen, ← hh.len]
    exact List.take_left
  rw [e] at hpre2
  exact hpre2
end Sm
namespace Sm
open Go Go.RowKit
set_option linter.unusedVariables false

/-- Numbers as if they were not written out. -/
def normC : C1 → C1
  | .sc v _ => .sc v false
  | c => c

def normA : AV → AV
  | .one c => .one (normC c)
  | .agg l => .agg (l.map normC)
  | a => a

theorem normC_RC {E : Env} {c : C1} {u : Value} (h : RC E c u) : RC E (normC c) u := by
  cases c <;> exact h

theorem normC_free {c : C1} (h : freeC c) : freeC (normC c) := by
  cases c <;> first | exact h | trivial

theorem normCs_RCs {E : Env} {cs : List C1} {vs : List Value} (h : RCs E cs vs) : RCs E (cs.map normC) vs :=
  ⟨by rw [List.length_map]; exact h.1, fun j c v hc hv => by
    simp only [List.getElem?_map, Option.map_eq_some_iff] at hc
    obtain ⟨c', hc', rfl⟩ := hc
    exact normC_RC (h.2 j c' v hc' hv)⟩

theorem normCs_free {cs : List C1} (h : ∀ c ∈ cs, freeC c) : ∀ c ∈ cs.map normC, freeC c := fun c hc => by
  obtain ⟨c', hc', rfl⟩ := List.mem_map.1 hc
  exact normC_free (h c' hc')

/-- What one knows in a call: what nobody writes, some blocks that are handed over among it; the blocks of those who called. -/
def callE (E : Env) (hp : List Blk) (js : List Nat) : EB :=
  { b := 0, o := 0, n := 0, fz := fun b q cs => (∃ (j : Nat) (e : EB), E[j]? = some e ∧ e.fz b q cs) ∨ ∃ (j : Nat) (x : Blk) (e : EB), j ∈ js ∧ hp[j]? = some x ∧ E[j]? = some e ∧ x.live = true ∧ b = e.b ∧ q = 0 ∧ cs = x.cells.map normC,
    own := fun b => (∃ (j : Nat) (e : EB), E[j]? = some e ∧ e.own b) ∨ ∃ (i : Nat) (x : Blk) (e : EB), i ∉ js ∧ hp[i]? = some x ∧ E[i]? = some e ∧ x.live = true ∧ x.ro = false ∧ b = e.b }

theorem callE_fz (E : Env) (hp : List Blk) (js : List Nat) : FzLe E [callE E hp js] := fun j e b q cs he hz => ⟨0, _, rfl, .inl ⟨j, e, he, hz⟩⟩

theorem one_get {x e : EB} {j : Nat} (h : [x][j]? = some e) : j = 0 ∧ e = x := by
  cases j with
  | zero => simp at h; exact ⟨rfl, h.symm⟩
  | succ j => simp at h

theorem blk_get {x b : Blk} {j : Nat} (h : [x][j]? = some b) : j = 0 ∧ b = x := by
  cases j with
  | zero => simp at h; exact ⟨rfl, h.symm⟩
  | succ j => simp at h

/-- Blocks that may be handed over. -/
def handOk (hp : List Blk) (js : List Nat) : Prop := ∀ j ∈ js, ∀ x, hp[j]? = some x → x.ro = false ∧ ∀ c ∈ x.cells, freeC c

theorem RH.call {B : Nat} {w0 : World} {E : Env} {hp : List Blk} {w : World} {js : List Nat} (h : RH B w0 E hp w) (hj : handOk hp js) : RH w.heap.size w [callE E hp js] [deadB] w := by
  refine ⟨Below.refl _ _, Nat.le_refl _, h.laidW, rfl, fun i b e hi he hl => ?_, fun i j bi bj ei ej hij hi hj hei hej hli hlj hro => ?_, ⟨fun j e b q cs he hz => ?_, fun j e b he ho => ?_⟩⟩
  · obtain ⟨_, rfl⟩ := blk_get hi
    cases hl
  · obtain ⟨_, rfl⟩ := blk_get hi
    cases hli
  · obtain ⟨_, rfl⟩ := one_get he
    rcases hz with ⟨j', e', he', hz'⟩ | ⟨j', x', e', hjs, hx', he', hl', rfl, rfl, rfl⟩
    · obtain ⟨⟨c, t, z, r1, r2, r3, r4⟩, r5, r6⟩ := h.frz.1 j' e' b q cs he' hz'
      refine ⟨⟨c, t, z, r1, r2, freeCs_RCs (callE_fz E hp js) r4 r3, r4⟩, fun i bi ei hi hei hl hro => ?_, fun i ei hei ho => ?_⟩
      · obtain ⟨_, rfl⟩ := blk_get hi
        cases hl
      · obtain ⟨_, rfl⟩ := one_get hei
        rcases ho with ⟨j1, e1, g1, g2⟩ | ⟨i1, x1, e1, g0, g1, g2, g3, g4, rfl⟩
        · exact r6 j1 e1 g1 g2
        · exact r5 i1 x1 e1 g1 g2 g3 g4 rfl
    · obtain ⟨hro', hfr⟩ := hj j' hjs x' hx'
      obtain ⟨c, hc, r1, hB, ho', r3, r4⟩ := h.own hx' he' hl' hro'
      refine ⟨⟨c, x'.elem, (0, 0), hc, by rw [List.length_map]; omega, by rw [List.drop_zero, List.length_map]; exact normCs_RCs (freeCs_RCs (callE_fz E hp js) hfr r4), normCs_free hfr⟩, fun i bi ei hi hei hl hro => ?_, fun i ei hei ho => ?_⟩
      · obtain ⟨_, rfl⟩ := blk_get hi
        cases hl
      · obtain ⟨_, rfl⟩ := one_get hei
        rcases ho with ⟨j1, e1, g1, g2⟩ | ⟨i1, x1, e1, g0, g1, g2, g3, g4, g5⟩
        · have := h.frz.2 j1 e1 e'.b g1 g2
          omega
        · exact h.inj i1 j' x1 x' e1 e' (fun e => g0 (by rw [e]; exact hjs)) g1 hx' g2 he' g3 hl' g4 g5.symm
  · obtain ⟨_, rfl⟩ := one_get he
    rcases ho with ⟨j1, e1, g1, g2⟩ | ⟨i1, x1, e1, g0, g1, g2, g3, g4, rfl⟩
    · exact Nat.lt_of_lt_of_le (h.frz.2 j1 e1 b g1 g2) h.size
    · obtain ⟨c, fz, hc, _⟩ := h.blk i1 x1 e1 g1 g2 g3
      exact (Array.getElem?_eq_some_iff.1 hc).1

/-- A value that refers to no block, so far as one sees. -/
def freeCB : C1 → Bool
  | .sc _ _ | .em | .fl _ | .cf _ | .lst _ _ _ _ | .pl _ _ | .ez => true
  | .fn _ ps => match ps with
    | [] => true
    | _ => false
  | _ => false

theorem freeCB_spec {c : C1} (h : freeCB c = true) : freeC c := by
  unfold freeCB at h
  split at h <;> first | trivial | cases h | skip
  split at h
  · exact rfl
  · cases h

def freeAB : AV → Bool
  | .one c => freeCB c
  | .agg l => l.all freeCB
  | _ => false

theorem freeAB_RV {E E' : Env} (hz : FzLe E E') {a : AV} {u : Value} (h : freeAB a = true) (hr : RV E a u) : RV E' a u := by
  unfold freeAB at h
  split at h
  · exact freeC_RC hz (freeCB_spec h) hr
  · obtain ⟨vs, hu, hr⟩ := hr
    exact ⟨vs, hu, freeCs_RCs hz (fun c hc => freeCB_spec (List.all_eq_true.1 h c hc)) hr⟩
  · cases h

theorem freeAB_RA {E E' : Env} (hz : FzLe E E') {l : List AV} {us : List Value} (h : l.all freeAB = true) (hr : RA E l us) : RA E' l us :=
  ⟨hr.1, fun j a u ha hu => freeAB_RV hz (List.all_eq_true.1 h a (List.mem_of_getElem? ha)) (hr.2 j a u ha hu)⟩

/-- A value whose block has another number. -/
def shiftC (k : Nat) : C1 → C1
  | .ptr i off => .ptr (k + i) off
  | .sl i off len sz => .sl (k + i) off len sz
  | .e0 i off => .e0 (k + i) off
  | .fn f ps => .fn f (ps.map fun p => (k + p.1, p.2))
  | .pr i m sz o => .pr (k + i) m sz o
  | .gr i n sz => .gr (k + i) n sz
  | c => c

def shiftP (k : Nat) : Bool × List C1 → Bool × List C1 := fun p => (p.1, p.2.map (shiftC k))

def shiftA (k : Nat) : AV → AV
  | .one c => .one (shiftC k c)
  | .agg l => .agg (l.map (shiftC k))
  | .tup l => .tup (l.map (shiftP k))
  | a => a

theorem shiftC_RC {E : Env} {e e' : EB} (h1 : e'.b = e.b) (h2 : e'.o = e.o) (h3 : e'.n = e.n) (hz : FzLe [e] (E ++ [e'])) {c : C1} {u : Value} (hr : RC [e] c u) : RC (E ++ [e']) (shiftC E.length c) u := by
  have get : ∀ {i : Nat} {x : EB}, [e][i]? = some x → (E ++ [e'])[E.length + i]? = some e' ∧ x = e := fun {i x} hx => by
    obtain ⟨rfl, rfl⟩ := one_get hx
    exact ⟨by simp, rfl⟩
  cases c with
  | ptr i off => obtain ⟨x, hx, hu⟩ := hr; obtain ⟨g, rfl⟩ := get hx; exact ⟨e', g, by rw [h1, h2]; exact hu⟩
  | sl i off len sz => obtain ⟨x, cap, hx, hu, r1, r2, r3⟩ := hr; obtain ⟨g, rfl⟩ := get hx; exact ⟨e', cap, g, by rw [h1, h2]; exact hu, r1, r2, by rw [h3]; exact r3⟩
  | e0 i off => obtain ⟨x, hx, hu⟩ := hr; obtain ⟨g, rfl⟩ := get hx; exact ⟨e', g, by rw [h1, h2]; exact hu⟩
  | pr i m sz o => obtain ⟨x, hx, hu⟩ := hr; obtain ⟨g, rfl⟩ := get hx; exact ⟨e', g, by rw [h1, h2]; exact hu⟩
  | gr i n sz =>
    rcases hr with hr | ⟨hn, x, cap, hx, hu, r1, r2, r3⟩
    · exact .inl hr
    · obtain ⟨g, rfl⟩ := get hx
      exact .inr ⟨hn, e', cap, g, by rw [h1, h2]; exact hu, r1, r2, by rw [h3]; exact r3⟩
  | fn f ps =>
    obtain ⟨caps, hu, hl, hc⟩ := hr
    refine ⟨caps, hu, by simpa using hl, fun j p v hp hv => ?_⟩
    simp only [List.getElem?_map, Option.map_eq_some_iff] at hp
    obtain ⟨p', hp', rfl⟩ := hp
    obtain ⟨x, hx, hv'⟩ := hc j p' v hp' hv
    obtain ⟨g, rfl⟩ := get hx
    exact ⟨e', g, by rw [h1, h2]; exact hv'⟩
  | sc v st => exact hr
  | em => exact hr
  | fl k => exact hr
  | cf k => exact hr
  | ez => exact hr
  | lst n N sz f => exact freeC_RC hz trivial hr
  | pl ds o => exact freeC_RC hz trivial hr

theorem shiftCs_RCs {E : Env} {e e' : EB} (h1 : e'.b = e.b) (h2 : e'.o = e.o) (h3 : e'.n = e.n) (hz : FzLe [e] (E ++ [e'])) {cs : List C1} {vs : List Value} (hr : RCs [e] cs vs) : RCs (E ++ [e']) (cs.map (shiftC E.length)) vs :=
  ⟨by rw [List.length_map]; exact hr.1, fun j c v hc hv => by
    simp only [List.getElem?_map, Option.map_eq_some_iff] at hc
    obtain ⟨c', hc', rfl⟩ := hc
    exact shiftC_RC h1 h2 h3 hz (hr.2 j c' v hc' hv)⟩

theorem shiftA_RV {E : Env} {e e' : EB} (h1 : e'.b = e.b) (h2 : e'.o = e.o) (h3 : e'.n = e.n) (hz : FzLe [e] (E ++ [e'])) {a : AV} {u : Value} (hr : RV [e] a u) : RV (E ++ [e']) (shiftA E.length a) u := by
  cases a with
  | one c => exact shiftC_RC h1 h2 h3 hz hr
  | agg l => obtain ⟨vs, hu, hr⟩ := hr; exact ⟨vs, hu, shiftCs_RCs h1 h2 h3 hz hr⟩
  | tup l =>
    obtain ⟨us, hu, hl, hr⟩ := hr
    refine ⟨us, hu, by rw [List.length_map]; exact hl, fun j p v hp hv => ?_⟩
    simp only [List.getElem?_map, Option.map_eq_some_iff] at hp
    obtain ⟨⟨t, cs⟩, hp', rfl⟩ := hp
    have := hr j _ v hp' hv
    cases t with
    | false => obtain ⟨c, rfl, hc⟩ := this; exact ⟨_, rfl, shiftC_RC h1 h2 h3 hz hc⟩
    | true => obtain ⟨vs, hv', hc⟩ := this; exact ⟨vs, hv', shiftCs_RCs h1 h2 h3 hz hc⟩
  | undef => exact hr
  | bad => trivial

/-- A contract of a function whose arguments refer to no block: what must hold, what it hands back, the one block that is new (its number in the result: 0). -/
def GCon (P : Program) (f : FuncId) (G : List AV → Option (Prop × AV × Blk)) : Prop :=
  (∀ (vs : Array Value) (w : World), (callFunc f vs).run P w = .ok (.enter f vs) w) ∧
  ∀ (args : List AV) (p : Prop) (v : AV) (b : Blk), G args = some (p, v, b) → p → (b.live = false ∨ b.ro = false) ∧ (∀ c ∈ b.cells, freeC c) ∧
    ∀ (w : World) (e0 : EB) (us : List Value), RH w.heap.size w [e0] [deadB] w → RA [e0] args us → Calls P f us.toArray w fun e w' => ∃ u e', e = .returned u ∧ RV [e'] v u ∧ RH w.heap.size w [e'] [b] w' ∧ ∀ x, e0.own x → e'.own x

theorem normA_RV {E : Env} {a : AV} {u : Value} (h : RV E a u) : RV E (normA a) u := by
  cases a with
  | one c => exact normC_RC h
  | agg l =>
    obtain ⟨vs, hu, h⟩ := h
    refine ⟨vs, hu, by rw [List.length_map]; exact h.1, fun j c v hc hv => ?_⟩
    simp only [List.getElem?_map, Option.map_eq_some_iff] at hc
    obtain ⟨c', hc', rfl⟩ := hc
    exact normC_RC (h.2 j c' v hc' hv)
  | tup l => exact h
  | undef => exact h
  | bad => exact h

theorem normA_RA {E : Env} {l : List AV} {us : List Value} (h : RA E l us) : RA E (l.map normA) us :=
  ⟨by rw [List.length_map]; exact h.1, fun j a u ha hu => by
    simp only [List.getElem?_map, Option.map_eq_some_iff] at ha
    obtain ⟨a', ha', rfl⟩ := ha
    exact normA_RV (h.2 j a' u ha' hu)⟩

theorem rec_free {n sz : Nat} {f : Nat → List C1} (h : ∀ k, ∀ c ∈ f k, freeC c) : ∀ c ∈ recC n sz f, freeC c := fun c hc => by
  unfold recC at hc
  obtain ⟨j, _, rfl⟩ := List.mem_map.1 hc
  rw [List.getD_eq_getElem?_getD]
  cases hq : (f (j / sz))[j % sz]? with
  | none => trivial
  | some x => exact h _ x (List.mem_of_getElem? hq)

theorem sym_free {n : Nat} {g : Nat → C1} (h : ∀ k, freeC (g k)) : ∀ c ∈ symC n g, freeC c := fun c hc => by
  unfold symC at hc
  obtain ⟨j, _, rfl⟩ := List.mem_map.1 hc
  exact h j

/-- An argument as it is handed over: a list of one's own is never written any more. What must hold, the argument, the block. -/
def argF (hp : List Blk) : AV → Option (Prop × AV × Option Nat)
  | .one (.gr i n sz) => match getB hp i with
    | some b => match b.body with
      | .rs n' sz' f => if sz' = sz ∧ b.ro = false then some (n' = n ∧ (n = 0 ∨ b.live = true) ∧ (∀ k, (f k).length = sz) ∧ ∀ k, ∀ c ∈ f k, freeC c, .one (.lst n n sz fun k => (f k).map normC), some i) else none
      | _ => none
    | none => none
  | .one (.sl i 0 n sz) => match liveB hp i with
    | some b => match b.ro with
      | true => none
      | false => match b.body with
        | .rs n' sz' f => if sz' = sz then some (n ≤ n' ∧ (∀ k, (f k).length = sz) ∧ ∀ k, ∀ c ∈ f k, freeC c, .one (.lst n n sz fun k => (f k).map normC), some i) else none
        | .sy n' g => if sz = 1 then some (n ≤ n' ∧ ∀ k, freeC (g k), .one (.lst n n sz fun k => [normC (g k)]), some i) else none
        | .li l => if sz = 1 ∧ n ≤ l.length ∧ l.all freeCB = true then some (True, .one (.lst n n sz fun k => [normC (l.getD k .em)]), some i) else none
    | none => none
  | a => match freeAB a with
    | true => some (True, a, none)
    | false => none

theorem argF_spec {B : Nat} {w0 : World} {E : Env} {hp : List Blk} {w : World} {js : List Nat} (hh : RH B w0 E hp w) {a a' : AV} {p : Prop} {i : Option Nat} {u : Value} (h : argF hp a = some (p, a', i)) (hp1 : p) (hr : RV E a u) :
    (∀ j, i = some j → ∀ x, hp[j]? = some x → x.ro = false ∧ ∀ c ∈ x.cells, freeC c) ∧ ((∀ j, i = some j → j ∈ js) → RV [callE E hp js] a' u) := by
  -- a block that is handed over
  have mk : ∀ {j n sz : Nat} {x : Blk} {f : Nat → List C1}, hp[j]? = some x → x.live = true → x.ro = false → n * sz ≤ x.cells.length → (∀ k, k < n → f k = (x.cells.drop (k * sz)).take sz) → RC E (.sl j 0 n sz) u → j ∈ js → RC [callE E hp js] (.lst n n sz fun k => (f k).map normC) u := fun {j n sz x f} hx hl hro hfit hf hr hj => by
    obtain ⟨e, cap, he, rfl, h1, h2, h3⟩ := hr
    obtain ⟨c, hc, r1, hB, ho, r3, r4⟩ := hh.own hx he hl hro
    exact .inr ⟨0, _, e.b, 0, 0, cap, x.cells.map normC, rfl, .inr ⟨j, x, e, hj, hx, he, hl, rfl, rfl, rfl⟩, by rw [ho], Nat.le_refl _, h1, h2, by rw [List.length_map]; omega, fun k hk => by rw [Nat.zero_add, ← List.map_drop, ← List.map_take, ← hf k hk]⟩
  unfold argF at h
  split at h
  · rename_i j n sz
    split at h
    · rename_i b hb
      rw [getB_eq] at hb
      split at h
      · rename_i n' sz' f hbd
        split at h
        · rename_i hc
          obtain ⟨rfl, hro⟩ := hc
          simp only [Option.some.injEq, Prod.mk.injEq] at h
          obtain ⟨rfl, rfl, rfl⟩ := h
          obtain ⟨rfl, hlive, hlen, hfr⟩ := hp1
          have hce : b.cells = recC n' sz' f := by rw [Blk.cells, hbd]; rfl
          refine ⟨fun j' hj' x hx => ?_, fun hjs => ?_⟩
          · obtain rfl := Option.some.inj hj'
            rw [hb] at hx
            obtain rfl := Option.some.inj hx
            exact ⟨hro, by rw [hce]; exact rec_free hfr⟩
          · rcases hr with ⟨rfl, hu⟩ | ⟨hn, hr⟩
            · exact .inl ⟨rfl, rfl, _, _, hu⟩
            · exact mk hb (hlive.resolve_left hn) hro (by rw [hce, recC_length]; exact Nat.le_refl _) (fun k hk => by rw [hce]; exact (recC_at n' sz' f hk (hlen k)).symm) hr (hjs _ rfl)
        · cases h
      · cases h
    · cases h
  · rename_i j n sz
    split at h
    · rename_i b hb
      obtain ⟨hi, hl⟩ := liveB_some hb
      split at h
      · cases h
      · rename_i hro
        split at h
        · rename_i n' sz' f hbd
          split at h
          · rename_i hc
            subst hc
            simp only [Option.some.injEq, Prod.mk.injEq] at h
            obtain ⟨rfl, rfl, rfl⟩ := h
            obtain ⟨hn, hlen, hfr⟩ := hp1
            have hce : b.cells = recC n' sz' f := by rw [Blk.cells, hbd]; rfl
            refine ⟨fun j' hj' x hx => ?_, fun hjs => ?_⟩
            · obtain rfl := Option.some.inj hj'
              rw [hi] at hx
              obtain rfl := Option.some.inj hx
              exact ⟨hro, by rw [hce]; exact rec_free hfr⟩
            · exact mk hi hl hro (by rw [hce, recC_length]; exact Nat.mul_le_mul_right _ hn) (fun k hk => by rw [hce]; exact (recC_at n' sz' f (by omega) (hlen k)).symm) hr (hjs _ rfl)
          · cases h
        · rename_i n' g hbd
          split at h
          · rename_i hc
            subst hc
            simp only [Option.some.injEq, Prod.mk.injEq] at h
            obtain ⟨rfl, rfl, rfl⟩ := h
            obtain ⟨hn, hfr⟩ := hp1
            have hce : b.cells = symC n' g := by rw [Blk.cells, hbd]; rfl
            refine ⟨fun j' hj' x hx => ?_, fun hjs => ?_⟩
            · obtain rfl := Option.some.inj hj'
              rw [hi] at hx
              obtain rfl := Option.some.inj hx
              exact ⟨hro, by rw [hce]; exact sym_free hfr⟩
            · refine mk (f := fun k => [g k]) hi hl hro (by rw [hce, symC_length]; omega) (fun k hk => ?_) hr (hjs _ rfl)
              rw [hce, Nat.mul_one, symC_cut n' 1 k g (by omega)]
              rfl
          · cases h
        · rename_i l hbd
          split at h
          · rename_i hc
            obtain ⟨rfl, hn, hfr⟩ := hc
            simp only [Option.some.injEq, Prod.mk.injEq] at h
            obtain ⟨rfl, rfl, rfl⟩ := h
            have hce : b.cells = l := by rw [Blk.cells, hbd]; rfl
            refine ⟨fun j' hj' x hx => ?_, fun hjs => ?_⟩
            · obtain rfl := Option.some.inj hj'
              rw [hi] at hx
              obtain rfl := Option.some.inj hx
              exact ⟨hro, by rw [hce]; exact fun c hc => freeCB_spec (List.all_eq_true.1 hfr c hc)⟩
            · refine mk (f := fun k => [l.getD k .em]) hi hl hro (by rw [hce]; omega) (fun k hk => ?_) hr (hjs _ rfl)
              rw [hce, Nat.mul_one, List.drop_eq_getElem_cons (by omega), List.take_succ_cons, List.take_zero, List.getD_eq_getElem?_getD, List.getElem?_eq_getElem (by omega)]
              rfl
          · cases h
    · cases h
  · split at h
    · rename_i hfr
      simp only [Option.some.injEq, Prod.mk.injEq] at h
      obtain ⟨rfl, rfl, rfl⟩ := h
      exact ⟨(fun j hj => by cases hj), fun _ => freeAB_RV (callE_fz E hp js) hfr hr⟩
    · cases h

/-- The arguments as they are handed over. -/
def argsF (hp : List Blk) : List AV → Option (Prop × List AV × List Nat)
  | [] => some (True, [], [])
  | a :: l => match argF hp a, argsF hp l with
    | some (p, a', i), some (q, l', js) => some (p ∧ q, normA a' :: l', match i with
      | some i => i :: js
      | none => js)
    | _, _ => none

theorem argsF_spec {B : Nat} {w0 : World} {E : Env} {hp : List Blk} {w : World} {ks : List Nat} (hh : RH B w0 E hp w) : ∀ {l l' : List AV} {p : Prop} {js : List Nat} {us : List Value}, argsF hp l = some (p, l', js) → p → RA E l us →
    (∀ j ∈ js, ∀ x, hp[j]? = some x → x.ro = false ∧ ∀ c ∈ x.cells, freeC c) ∧ ((∀ j ∈ js, j ∈ ks) → RA [callE E hp ks] l' us)
  | [], l', p, js, us, h, _, hr => by
    simp only [argsF, Option.some.injEq, Prod.mk.injEq] at h
    obtain ⟨_, rfl, rfl⟩ := h
    exact ⟨fun j hj => (by cases hj), fun _ => ⟨hr.1, fun j a u ha => by simp at ha⟩⟩
  | a :: l, l', p, js, us, h, hp1, hr => by
    simp only [argsF] at h
    split at h
    · rename_i p0 a' i q l2 js2 h1 h2
      simp only [Option.some.injEq, Prod.mk.injEq] at h
      obtain ⟨rfl, rfl, rfl⟩ := h
      cases us with
      | nil => have := hr.1; simp at this
      | cons u us =>
        obtain ⟨k1, k2⟩ := argF_spec (js := ks) hh h1 hp1.1 (hr.2 0 a u rfl rfl)
        obtain ⟨m1, m2⟩ := argsF_spec (ks := ks) (us := us) hh h2 hp1.2 ⟨by have := hr.1; simpa using this, fun j v' u' g1 g2 => hr.2 (j + 1) v' u' (by simpa using g1) (by simpa using g2)⟩
        refine ⟨fun j hj x hx => ?_, fun hks => ⟨?_, fun j v' u' g1 g2 => ?_⟩⟩
        · cases i with
          | none => exact m1 j hj x hx
          | some i =>
            rcases List.mem_cons.1 hj with rfl | hj
            · exact k1 j rfl x hx
            · exact m1 j hj x hx
        · have := (m2 fun j hj => hks j (by cases i with
            | none => exact hj
            | some i => exact List.mem_cons_of_mem _ hj)).1
          simp [this]
        · cases j with
          | zero =>
            simp at g1 g2; subst g1; subst g2
            exact normA_RV (k2 fun j hj => hks j (by subst hj; exact List.mem_cons_self))
          | succ j =>
            exact (m2 fun j hj => hks j (by cases i with
              | none => exact hj
              | some i => exact List.mem_cons_of_mem _ hj)).2 j v' u' (by simpa using g1) (by simpa using g2)
    · cases h

def killL (hp : List Blk) : List Nat → List Blk
  | [] => hp
  | j :: js => kill (killL hp js) j

theorem killL_get (hp : List Blk) : ∀ (js : List Nat), (killL hp js).length = hp.length ∧ ∀ (i : Nat) (x : Blk), (killL hp js)[i]? = some x → x.live = true → i ∉ js ∧ hp[i]? = some x
  | [] => ⟨rfl, fun i x hx _ => ⟨by simp, hx⟩⟩
  | j :: js => by
    obtain ⟨h1, h2⟩ := killL_get hp js
    have hk : killL hp (j :: js) = kill (killL hp js) j := rfl
    rw [hk]
    unfold kill
    rw [getB_eq]
    cases hb : (killL hp js)[j]? with
    | none =>
      refine ⟨h1, fun i x hx hl => ?_⟩
      obtain ⟨a1, a2⟩ := h2 i x hx hl
      refine ⟨fun hm => ?_, a2⟩
      rcases List.mem_cons.1 hm with rfl | hm
      · rw [hx] at hb; cases hb
      · exact a1 hm
    | some b =>
      simp only [setB_eq]
      refine ⟨by simp [h1], fun i x hx hl => ?_⟩
      have hjl : j < (killL hp js).length := (List.getElem?_eq_some_iff.1 hb).1
      by_cases hij : j = i
      · subst hij
        rw [List.getElem?_set_self hjl] at hx
        simp only [Option.some.injEq] at hx
        subst hx
        cases hl
      · rw [List.getElem?_set_ne hij] at hx
        obtain ⟨a1, a2⟩ := h2 i x hx hl
        refine ⟨fun hm => ?_, a2⟩
        rcases List.mem_cons.1 hm with e | hm
        · exact hij e.symm
        · exact a1 hm

def Fns.addG (F : Fns) (f : FuncId) (G : List AV → Option (Prop × AV × Blk)) : Fns :=
  { F with gnp := fun g args hp => match Nat.beq g f with
      | true => match argsF hp args with
        | some (q, args', js) => match G args' with
          | some (p, v, b) => some (q ∧ p, shiftA hp.length v, killL hp js ++ [b])
          | .none => .none
        | .none => .none
      | false => F.gnp g args hp }

theorem FnsOk.addG {P : Program} {F : Fns} {f : FuncId} {G : List AV → Option (Prop × AV × Blk)} (hF : FnsOk P F) (hc : GCon P f G) : FnsOk P (F.addG f G) := by
  refine ⟨hF.pr, hF.pure, hF.pre, hF.ext, hF.gen, fun g args hp p v hp' h hp1 => ?_, hF.cal, hF.loops⟩
  simp only [Fns.addG] at h
  split at h
  · rename_i hg
    have hg' : g = f := by rw [beq_eq] at hg; simpa using hg
    subst hg'
    split at h
    · rename_i q0 args' js hargs
      split at h
      · rename_i p' v' b hG
        simp only [Option.some.injEq, Prod.mk.injEq] at h
        obtain ⟨rfl, rfl, rfl⟩ := h
        refine ⟨hc.1, fun B w0 E w us hh hr => ?_⟩
        obtain ⟨hbl, hbf, hcall⟩ := hc.2 args' p' v' b hG hp1.2
        obtain ⟨hj1, hj2⟩ := argsF_spec (ks := js) hh hargs hp1.1 hr
        refine (hcall w (callE E hp js) us (hh.call hj1) (hj2 fun j hj => hj)).mono ?_
        rintro e w' ⟨u, e', rfl, hrv, hrh, hown⟩
        have hsz := hh.size
        have hEl := hh.len
        obtain ⟨hkl, hkg⟩ := killL_get hp js
        have hz : FzLe [e'] (E ++ [({ e' with own := fun _ => False } : EB)]) := fun j x b q cs hx hz => by
          obtain ⟨_, e1⟩ := one_get hx
          rw [e1] at hz
          exact ⟨E.length, _, List.getElem?_concat_length, hz⟩
        have hpre : E <+: E ++ [({ e' with own := fun _ => False } : EB)] := ⟨_, rfl⟩
        refine ⟨E ++ [{ e' with own := fun _ => False }], u, rfl, hpre, by rw [← hEl]; exact shiftA_RV (e := e') (e' := { e' with own := fun _ => False }) rfl rfl rfl hz hrv, ?_⟩
        have hb := hrh.below
        have h := hh.congr hb
        -- the new block
        have new : ∀ (i : Nat) (x : Blk) (ex : EB), (killL hp js ++ [b])[i]? = some x → (E ++ [({ e' with own := fun _ => False } : EB)])[i]? = some ex → x.live = true → (i ∉ js ∧ hp[i]? = some x ∧ E[i]? = some ex) ∨ (i = hp.length ∧ x = b ∧ ex = { e' with own := fun _ => False }) := fun i x ex hx hex hl => by
          rcases env_two hex with g | ⟨g1, g2⟩
          · have hlt : i < hp.length := by rw [← hEl]; exact (List.getElem?_eq_some_iff.1 g).1
            rw [List.getElem?_append_left (by rw [hkl]; exact hlt)] at hx
            obtain ⟨a1, a2⟩ := hkg i x hx hl
            exact .inl ⟨a1, a2, g⟩
          · rw [hEl] at g1
            rw [g1, ← hkl] at hx
            simp at hx
            exact .inr ⟨g1, hx.symm, g2⟩
        have own_new : b.live = true → b.ro = false → w.heap.size ≤ e'.b := fun hl hro => by
          obtain ⟨c, fz, _, _, r2, _⟩ := hrh.blk 0 b e' rfl rfl hl
          exact (r2 hro).2.1
        have old_lt : ∀ (i : Nat) (x : Blk) (ex : EB), hp[i]? = some x → E[i]? = some ex → x.live = true → ex.b < w.heap.size := fun i x ex hx hex hl => by
          obtain ⟨c, fz, hc', _⟩ := hh.blk i x ex hx hex hl
          exact (Array.getElem?_eq_some_iff.1 hc').1
        refine ⟨h.below, h.base, h.laid, by simp [hEl, hkl], fun i x ex hx hex hl => ?_, fun i j bi bj ei ej hij hi hj hei hej hli hlj hro => ?_, ⟨fun j ex b0 q cs hex hzz => ?_, fun j ex b0 hex ho => ?_⟩⟩
        · rcases new i x ex hx hex hl with ⟨_, g1, g2⟩ | ⟨_, rfl, rfl⟩
          · obtain ⟨c, fz, r1, r2, r3, r4, r5⟩ := h.blk i x ex g1 g2 hl
            exact ⟨c, fz, r1, r2, r3, r4, r5.mono hpre⟩
          · obtain ⟨c, fz, r1, r2, r3, r4, r5⟩ := hrh.blk 0 x e' rfl rfl hl
            exact ⟨c, fz, r1, r2, fun hro => ⟨(r3 hro).1, Nat.le_trans hsz (r3 hro).2.1, (r3 hro).2.2⟩, r4, freeCs_RCs hz hbf r5⟩
        · rcases new i bi ei hi hei hli with ⟨_, g1, g2⟩ | ⟨g0, rfl, rfl⟩ <;> rcases new j bj ej hj hej hlj with ⟨_, k1, k2⟩ | ⟨k0, rfl, rfl⟩
          · exact h.inj i j bi bj ei ej hij g1 k1 g2 k2 hli hlj hro
          · have h1 := old_lt i bi ei g1 g2 hli
            have h2 : bj.ro = false := hbl.resolve_left (by rw [hlj]; simp)
            have h3 := own_new hlj h2
            show ei.b ≠ e'.b
            omega
          · have h1 := old_lt j bj ej k1 k2 hlj
            have h3 := own_new hli hro
            show e'.b ≠ ej.b
            omega
          · exact absurd (g0.trans k0.symm) hij
        · rcases env_two hex with g | ⟨_, rfl⟩
          · obtain ⟨⟨c, t, z, r1, r2, r3, r4⟩, r5, r6⟩ := h.frz.1 j ex b0 q cs g hzz
            have hb0 : b0 < w.heap.size := by
              obtain ⟨⟨c', t', z', r1', _⟩, _⟩ := hh.frz.1 j ex b0 q cs g hzz
              exact (Array.getElem?_eq_some_iff.1 r1').1
            refine ⟨⟨c, t, z, r1, r2, r3.mono hpre, r4⟩, fun i bi ei hi hei hl hro => ?_, fun i ei hei ho => ?_⟩
            · rcases new i bi ei hi hei hl with ⟨_, g1, g2⟩ | ⟨_, rfl, rfl⟩
              · exact r5 i bi ei g1 g2 hl hro
              · have := own_new hl hro
                show e'.b ≠ b0
                omega
            · rcases env_two hei with g2 | ⟨_, rfl⟩
              · exact r6 i ei g2 ho
              · exact ho
          · obtain ⟨⟨c, t, z, r1, r2, r3, r4⟩, r5, r6⟩ := hrh.frz.1 0 e' b0 q cs rfl hzz
            refine ⟨⟨c, t, z, r1, r2, freeCs_RCs hz r4 r3, r4⟩, fun i bi ei hi hei hl hro => ?_, fun i ei hei ho => ?_⟩
            · rcases new i bi ei hi hei hl with ⟨g0, g1, g2⟩ | ⟨_, rfl, rfl⟩
              · intro he
                exact r6 0 e' rfl (hown b0 (.inr ⟨i, bi, ei, g0, g1, g2, hl, hro, he.symm⟩))
              · exact r5 0 bi e' rfl rfl hl hro
            · rcases env_two hei with g2 | ⟨_, rfl⟩
              · exact r6 0 e' rfl (hown b0 (.inl ⟨i, ei, g2, ho⟩))
              · exact ho
        · rcases env_two hex with g | ⟨_, rfl⟩
          · exact h.frz.2 j ex b0 g ho
          · exact ho.elim
      · cases h
    · cases h
  · exact hF.gnp g args hp p v hp' h hp1

/-- What a call leaves: blocks are forgotten, some are frozen, the last one is handed on. -/
def Export (js : List Nat) (vr : AV) (hp0 : List Blk) (v : AV) (b : Blk) : Prop :=
  ∃ hp D x, (hp = hp0 ∨ hp = hp0 ++ [deadB]) ∧ hp = D ++ [x] ∧ frozOk 0 D.length js hp ∧ renA 0 D.length js hp vr v ∧ renB 0 D.length js hp x b

theorem gcon_of_runA {P : Program} {T : Tab} (hm : P.follows .mixedOrders = true) (hT : TabOk P T) {f : FuncId} {fn : Func} (hf : P.funcs[f]? = some fn)
    (hcall : ∀ (vs : Array Value) (w : World), (callFunc f vs).run P w = .ok (.enter f vs) w) {G : List AV → Option (Prop × AV × Blk)}
    (h : ∀ (args : List AV) (p : Prop) (v : AV) (b : Blk), G args = some (p, v, b) → p → (b.live = false ∨ b.ro = false) ∧ (∀ c ∈ b.cells, freeC c) ∧ ∃ F args', FnsOk P F ∧ (∀ (E : Env) (us : List Value), RA E args us → RA E args' us) ∧ ∃ n orc js, runK P T F n fn args' [deadB] orc (fun r hp => ∃ vr, r = some vr ∧ Export js vr hp v b)) : GCon P f G := by
  refine ⟨hcall, fun args p v b hG hp => ?_⟩
  obtain ⟨hbl, hbf, F, args', hF, hle, n, orc, js, hrun⟩ := h args p v b hG hp
  refine ⟨hbl, hbf, fun w e0 us hh hra => ?_⟩
  refine (run_sound hm hT hF hf hrun hh (hle _ _ hra) (fun r hp' hr => by obtain ⟨vr, hv, _⟩ := hr; exact ⟨vr, hv⟩)).mono ?_
  rintro e w' ⟨v', hp', E', u', rfl, ⟨vr, hvr, hp1, D, x, hor, hhp, hfr, hra1, hrb⟩, hpre, hrv, hrh⟩
  simp only [Option.some.injEq] at hvr
  subst hvr
  have go : ∀ (E1 : Env), [e0] <+: E1 → RH w.heap.size w E1 hp1 w' → RV E1 v' u' → ∃ e', RV [e'] v u' ∧ RH w.heap.size w [e'] [b] w' ∧ ∀ x, e0.own x → e'.own x := fun E1 hpre hrh hrv => by
    have hl : E1.length = ([] : List Blk).length + D.length + 1 := by rw [hrh.len, hhp]; simp
    have hlen := cutF_len (js := js) (hp := hp1) hl
    have h2 := hrh.cut (A := []) (A' := []) (b := x) (b' := b) (by rw [hhp]; rfl) hfr trivial hrb
    have h3 := renA_RV hra1 hl hrh hrv
    obtain ⟨e', he'⟩ : ∃ e', cutF ([] : List Blk).length D.length js hp1 E1 = [e'] := by
      match hq : cutF ([] : List Blk).length D.length js hp1 E1, hlen with
      | [e'], _ => exact ⟨e', rfl⟩
    obtain ⟨e2, g1, _, _, _, _, g5⟩ := cutF_last (js := js) (hp := hp1) hl (List.getElem?_eq_getElem (show ([] : List Blk).length + D.length < E1.length by omega))
    rw [he'] at h2 g1
    have h3' : RV (cutF ([] : List Blk).length D.length js hp1 E1) v u' := h3
    rw [he'] at h3'
    simp at g1
    subst g1
    refine ⟨e', h3', h2, fun x hx => (g5 x).2 ?_⟩
    obtain ⟨t, rfl⟩ := hpre
    exact ⟨0, e0, rfl, hx⟩
  rcases hor with rfl | rfl
  · obtain ⟨e', r1, r2, r3⟩ := go E' hpre hrh hrv
    exact ⟨u', e', rfl, r1, r2, r3⟩
  · have hp2 : E' <+: E' ++ [EB.at 0 0 0] := ⟨_, rfl⟩
    obtain ⟨e', r1, r2, r3⟩ := go _ (hpre.trans hp2) hrh.dead1 (hrv.mono hp2)
    exact ⟨u', e', rfl, r1, r2, r3⟩

theorem gcon_of_run {P : Program} {T : Tab} (hm : P.follows .mixedOrders = true) (hT : TabOk P T) {f : FuncId} {fn : Func} (hf : P.funcs[f]? = some fn)
    (hcall : ∀ (vs : Array Value) (w : World), (callFunc f vs).run P w = .ok (.enter f vs) w) {G : List AV → Option (Prop × AV × Blk)}
    (h : ∀ (args : List AV) (p : Prop) (v : AV) (b : Blk), G args = some (p, v, b) → p → (b.live = false ∨ b.ro = false) ∧ (∀ c ∈ b.cells, freeC c) ∧ ∃ F, FnsOk P F ∧ ∃ n orc js, runK P T F n fn args [deadB] orc (fun r hp => ∃ vr, r = some vr ∧ Export js vr hp v b)) : GCon P f G :=
  gcon_of_runA hm hT hf hcall fun args p v b hG hp => by
    obtain ⟨h1, h2, F, hF, n, orc, js, h3⟩ := h args p v b hG hp
    exact ⟨h1, h2, F, args, hF, fun _ _ h => h, n, orc, js, h3⟩

/-- Less of a list. -/
theorem lst_less {E : Env} {n N N' sz : Nat} {f f' : Nat → List C1} (h1 : n ≤ N') (h2 : N' ≤ N) (h3 : ∀ k, k < N' → f k = f' k) {u : Value} (h : RC E (.lst n N sz f) u) : RC E (.lst n N' sz f') u := by
  rcases h with ⟨rfl, rfl, h⟩ | ⟨j, e, b, q, o, cap, cs, he, hz, hu, g1, g2, g3, g4, g5⟩
  · exact .inl ⟨rfl, by omega, h⟩
  · have := Nat.mul_le_mul_right sz h2
    exact .inr ⟨j, e, b, q, o, cap, cs, he, hz, hu, h1, by omega, g3, by omega, fun k hk => by rw [← h3 k hk]; exact g5 k (by omega)⟩

theorem RA.nil {E : Env} : RA E [] [] := ⟨rfl, by simp⟩

theorem RA.cons {E : Env} {a : AV} {l : List AV} {us : List Value} (h : RA E (a :: l) us) : ∃ u us', us = u :: us' ∧ RV E a u ∧ RA E l us' := by
  cases us with
  | nil => have := h.1; simp at this
  | cons u us => exact ⟨u, us, rfl, h.2 0 a u rfl rfl, by have := h.1; simpa using this, fun j v' u' h1 h2 => h.2 (j + 1) v' u' (by simpa using h1) (by simpa using h2)⟩

theorem RA.mk {E : Env} {a : AV} {l : List AV} {u : Value} {us : List Value} (h : RV E a u) (h2 : RA E l us) : RA E (a :: l) (u :: us) :=
  ⟨by simp [h2.1], fun j v' u' g1 g2 => by
    cases j with
    | zero => simp at g1 g2; subst g1; subst g2; exact h
    | succ j => exact h2.2 j v' u' (by simpa using g1) (by simpa using g2)⟩

/-- The contract of such a call. -/
theorem nothing_left {js : List Nat} {vr v : AV} {hp0 : List Blk} (hf : frozOk 0 hp0.length js (hp0 ++ [deadB])) (h : renA 0 hp0.length js (hp0 ++ [deadB]) vr v) : Export js vr hp0 v deadB :=
  ⟨hp0 ++ [deadB], hp0, deadB, .inr rfl, rfl, hf, h, .inl rfl⟩

theorem one_left {D : List Blk} {x b : Blk} {js : List Nat} {vr v : AV} (hf : frozOk 0 D.length js (D ++ [x])) (h : renA 0 D.length js (D ++ [x]) vr v) (hb : renB 0 D.length js (D ++ [x]) x b) : Export js vr (D ++ [x]) v b :=
  ⟨D ++ [x], D, x, .inl rfl, rfl, hf, h, hb⟩

theorem dead_free : ∀ c ∈ deadB.cells, freeC c := fun c hc => by cases hc

/-! ### for use -/

theorem noFroz {a z : Nat} {hp : List Blk} : frozOk a z [] hp := fun j hj => by cases hj

theorem sc_eq {a z : Nat} {js : List Nat} {hp : List Blk} {v u : Value} {s t : Bool} (h : v = u) : renA a z js hp (.one (.sc v s)) (.one (.sc u t)) := by
  subst h
  unfold renA renC
  cases v <;> first | rfl | (split <;> first | rfl | trivial)

theorem scC_eq {a z : Nat} {js : List Nat} {hp : List Blk} {v u : Value} {s t : Bool} (h : v = u) : renC a z js hp (.sc v s) (.sc u t) := sc_eq (a := a) (z := z) (js := js) (hp := hp) (s := s) (t := t) h

theorem renB_body {a z : Nat} {js : List Nat} {hp : List Blk} {b b' : Blk} (hl : b'.live = b.live) (he : (b'.elem, b'.full) = (b.elem, b.full)) (hr : b'.ro = b.ro) (h : renBody a z js hp b.body b'.body) : renB a z js hp b b' := by
  cases hb : b.live with
  | false => exact .inl (by rw [hl, hb])
  | true => exact .inr ⟨hb, he.symm, hr.symm, h⟩

/-- A block in which a list has grown. -/
def gB (t n sz : Nat) (f : Nat → List C1) : Blk := { body := .rs n sz f, elem := t, live := Nat.blt 0 n, ro := false }

theorem gB_same {a z : Nat} {js : List Nat} {hp : List Blk} {t n sz : Nat} {f f' : Nat → List C1} (h : ∀ k, k < n → renL a z js hp (f k) (f' k)) : renB a z js hp (gB t n sz f) (gB t n sz f') :=
  renB_body rfl rfl rfl ⟨rfl, rfl, h⟩

theorem gB_cat {a z : Nat} {js : List Nat} {hp : List Blk} {t n sz : Nat} {f f' : Nat → List C1} {l : List C1} (hlen : ∀ k, (f k).length = sz) (hl : l.length = sz) (h : ∀ k, k < n → renL a z js hp (f k) (f' k)) (h2 : renL a z js hp l (f' n)) :
    renB a z js hp { body := .rs (n + 1) sz (catR n f fun _ => l), elem := t, live := true, ro := false } (gB t (n + 1) sz f') :=
  .inr ⟨rfl, rfl, rfl, rfl, rfl, fun k hk => by
    unfold catR
    by_cases hk2 : k < n
    · rw [show Nat.blt k n = true from by rw [blt_eq]; exact decide_eq_true hk2]
      exact renL_t ((hlen k).trans hl.symm) (h k hk2)
    · rw [show Nat.blt k n = false from by rw [blt_eq]; exact decide_eq_false hk2]
      obtain rfl : k = n := by omega
      exact renL_f ((hlen k).trans hl.symm) h2⟩

theorem renL_rfl {a z : Nat} {js : List Nat} {hp : List Blk} {l m : List C1} (h : renCs a z js hp l m) : renL a z js hp l m := renCs_L h

theorem live0 (n : Nat) : n = 0 ∨ Nat.blt 0 n = true := by
  cases n with
  | zero => exact .inl rfl
  | succ n => exact .inr rfl

/-! ### loops' contracts, told once -/

def startLs : List AV → List AV → Prop
  | [], [] => True
  | a :: l, b :: m => startA a b ∧ startLs l m
  | _, _ => False

theorem startVs_of {tm : Tm} : ∀ {l : List (Nat × AV)}, startLs ((l.map (·.1)).map (getT tm)) (l.map (·.2)) → startVs tm l
  | [], _ => trivial
  | _ :: _, h => ⟨h.1, startVs_of h.2⟩

theorem startLs.refl : ∀ l, startLs l l
  | [] => trivial
  | a :: l => ⟨by cases a with
      | one c => cases c <;> first | rfl | trivial
      | _ => rfl, startLs.refl l⟩

/-- The contract of a loop: where it begins, what must hold, how it is left, and what then is there. -/
def loopC (tn : Nat) (l0 : List (Nat × AV)) (hp0 : List Blk) (q : Prop) (x : Ex) (lf : List (Nat × AV)) (hpf : List Blk) : Tm → List Blk → Option (Prop × Ex × Tm × List Blk) := fun tm hp =>
  some ((tm.n = tn ∧ startLs ((l0.map (·.1)).map (getT tm)) (l0.map (·.2)) ∧ startBs hp hp0) ∧ q, x, tmL tn lf, hpf)

/-- A loop in whose rounds there is one block more than there was. -/
theorem FnsOk.addGrow {P : Program} {F : Fns} (hF : FnsOk P F) (k : Nat) {c : Code} {a tn : Nat} {l0 lf : List (Nat × AV)} {hp0 hpf : List Blk} {b0 : Blk} {q : Prop} {x : Ex} (hlen : hp0.length = a) (hb0 : b0.live = false)
    (h : q → LoopOkB P a c (tmL tn l0) (hp0 ++ [b0]) x (tmL tn lf) hpf) : FnsOk P (F.addLoop k c (loopC tn l0 hp0 q x lf hpf)) := by
  refine hF.addLoop k c _ fun tm hp p x' tm' hp' hg hp1 => ?_
  unfold loopC at hg
  simp only [Option.some.injEq, Prod.mk.injEq] at hg
  obtain ⟨rfl, rfl, rfl, rfl⟩ := hg
  obtain ⟨⟨h1, h2, h3⟩, hq⟩ := hp1
  have h4 := (startBs_get h3).1
  exact grow_enter (by rw [← h4]; exact hlen) h1 (startVs_of h2) h3 hb0 (h hq)

/-- A loop in whose rounds there are as many blocks as there were. -/
theorem FnsOk.addKeep {P : Program} {F : Fns} (hF : FnsOk P F) (k : Nat) {c : Code} {tn : Nat} {l0 lf : List (Nat × AV)} {hp0 hpf : List Blk} {q : Prop} {x : Ex}
    (h : q → LoopOk P c (tmL tn l0) hp0 x (tmL tn lf) hpf) : FnsOk P (F.addLoop k c (loopC tn l0 hp0 q x lf hpf)) := by
  refine hF.addLoop k c _ fun tm hp p x' tm' hp' hg hp1 => ?_
  unfold loopC at hg
  simp only [Option.some.injEq, Prod.mk.injEq] at hg
  obtain ⟨rfl, rfl, rfl, rfl⟩ := hg
  obtain ⟨⟨h1, h2, h3⟩, hq⟩ := hp1
  intro B w0 E ac w Q hh ht hQ
  have h5 := startBs_get h3
  refine h hq B w0 E ac w Q (hh.weaken h5.1 fun i b' hi hl => ?_) (h1 ▸ ht.start' l0 (startVs_of h2)) hQ
  obtain ⟨b, g1, g2⟩ := h5.2 i b' hi
  rcases g2 with g2 | ⟨g2, g3, g4, g5⟩
  · rw [g2] at hl; cases hl
  · exact ⟨b, g1, g2, g3, fun hr => by rw [g4]; exact hr, fun vs hr => g5 _ vs hr⟩

theorem gB_free {t n sz : Nat} {f : Nat → List C1} (h : ∀ k, ∀ c ∈ f k, freeC c) : ∀ c ∈ (gB t n sz f).cells, freeC c := rec_free h

theorem froz_gB {js : List Nat} {hp : List Blk} {i t n sz : Nat} {f : Nat → List C1} (hj : i ∈ js) (h : hp[i]? = some (gB t n sz f)) (hl : ∀ k, (f k).length = sz) : frozB js hp i n sz f :=
  ⟨hj, _, f, h, rfl, live0 n, rfl, fun k _ => ⟨rfl, hl k⟩⟩

/-- A list that has grown is handed back, and nothing else is left. -/
theorem export_gr {A D : List Blk} {t n sz : Nat} {f : Nat → List C1} (hl : ∀ k, (f k).length = sz) (hf : ∀ k, ∀ c ∈ f k, freeC c) : Export [A.length] (.one (.gr A.length n sz)) (A ++ gB t n sz f :: D) (.one (.lst n n sz f)) deadB := by
  have hget : (A ++ gB t n sz f :: D ++ [deadB])[A.length]? = some (gB t n sz f) := by simp
  refine nothing_left (fun j hj => ?_) ⟨rfl, rfl, rfl, froz_gB (by simp) hget hl⟩
  obtain rfl := List.mem_singleton.1 hj
  refine ⟨Nat.zero_le _, by simp, fun x hx => ?_⟩
  rw [hget] at hx
  obtain rfl := Option.some.inj hx
  exact ⟨rfl, gB_free hf⟩

theorem free2 {a b : C1} (h1 : freeC a) (h2 : freeC b) : ∀ c ∈ [a, b], freeC c := fun c hc => by
  rcases List.mem_cons.1 hc with rfl | hc
  · exact h1
  · rw [List.mem_singleton.1 hc]; exact h2
theorem free1 {a : C1} (h1 : freeC a) : ∀ c ∈ [a], freeC c := fun c hc => by rw [List.mem_singleton.1 hc]; exact h1
end Sm
