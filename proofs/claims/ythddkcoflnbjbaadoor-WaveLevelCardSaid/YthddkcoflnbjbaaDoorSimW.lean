/-
  What is proved here: loops behind whose rounds blocks are left that are forgotten, or are never written any more; lists that grow by append. A text to be imported.
-/
import Derived.Test.YthddkcoflnbjbaaDoorSimV
namespace Sm
open Go Go.RowKit

/-- The env behind a round: the first 'a' entries; of the others the one behind 'z' more, which takes over what nobody writes, the blocks of a list among it. -/
def cutF (a z : Nat) (js : List Nat) (hp : List Blk) (E : Env) : Env :=
  E.take a ++ (E.drop (a + z)).map fun e => { e with fz := fun b q cs => (∃ (j : Nat) (e' : EB), E[j]? = some e' ∧ e'.fz b q cs) ∨
    ∃ (j : Nat) (x : Blk) (e' : EB), j ∈ js ∧ hp[j]? = some x ∧ E[j]? = some e' ∧ x.live = true ∧ b = e'.b ∧ q = 0 ∧ cs = x.cells, own := fun b => ∃ (j : Nat) (e' : EB), E[j]? = some e' ∧ e'.own b }

/-- The value that stands for the same behind the round. -/
def renS (a z : Nat) (js : List Nat) (hp : List Blk) (c d : C1) : Prop :=
  ∀ (B : Nat) (w0 : World) (E : Env) (w : World) (u : Value), E.length = a + z + 1 → RH B w0 E hp w → RC E c u → RC (cutF a z js hp E) d u

def renI (a z i i' : Nat) : Bool := (Nat.blt i a && Nat.beq i' i) || (Nat.beq i (a + z) && Nat.beq i' a)

theorem renI_spec {a z i i' : Nat} (h : renI a z i i' = true) : (i < a ∧ i' = i) ∨ (i = a + z ∧ i' = a) := by
  unfold renI at h
  simp only [Bool.or_eq_true, Bool.and_eq_true, blt_eq, beq_eq, decide_eq_true_eq] at h
  exact h

theorem cutF_low {a z : Nat} {js : List Nat} {hp : List Blk} {E : Env} {i : Nat} (hl : E.length = a + z + 1) (h : i < a) : (cutF a z js hp E)[i]? = E[i]? := by
  unfold cutF
  rw [List.getElem?_append_left (by simp; omega), List.getElem?_take, if_pos h]

theorem cutF_last {a z : Nat} {js : List Nat} {hp : List Blk} {E : Env} {e : EB} (hl : E.length = a + z + 1) (he : E[a + z]? = some e) : ∃ e', (cutF a z js hp E)[a]? = some e' ∧ e'.b = e.b ∧ e'.o = e.o ∧ e'.n = e.n ∧
    (∀ b q cs, e'.fz b q cs ↔ (∃ (j : Nat) (e' : EB), E[j]? = some e' ∧ e'.fz b q cs) ∨ ∃ (j : Nat) (x : Blk) (e' : EB), j ∈ js ∧ hp[j]? = some x ∧ E[j]? = some e' ∧ x.live = true ∧ b = e'.b ∧ q = 0 ∧ cs = x.cells) ∧
    ∀ b, e'.own b ↔ ∃ (j : Nat) (e' : EB), E[j]? = some e' ∧ e'.own b := by
  unfold cutF
  rw [List.getElem?_append_right (by simp; omega), List.length_take, Nat.min_eq_left (by omega), Nat.sub_self, List.getElem?_map, List.getElem?_drop, Nat.add_zero, he]
  exact ⟨_, rfl, rfl, rfl, rfl, fun b q cs => Iff.rfl, fun b => Iff.rfl⟩

theorem cutF_len {a z : Nat} {js : List Nat} {hp : List Blk} {E : Env} (hl : E.length = a + z + 1) : (cutF a z js hp E).length = a + 1 := by
  unfold cutF
  simp
  omega

theorem cutF_fz {a z : Nat} {js : List Nat} {hp : List Blk} {E : Env} (hl : E.length = a + z + 1) : FzLe E (cutF a z js hp E) := fun j e b q cs he hz => by
  obtain ⟨e', h1, _, _, _, h2, _⟩ := cutF_last (js := js) (hp := hp) hl (List.getElem?_eq_getElem (show a + z < E.length by omega))
  exact ⟨a, e', h1, (h2 b q cs).2 (.inl ⟨j, e, he, hz⟩)⟩

theorem cutF_ren {a z : Nat} {js : List Nat} {hp : List Blk} {E : Env} {i i' : Nat} {e : EB} (hl : E.length = a + z + 1) (h : renI a z i i' = true) (he : E[i]? = some e) : ∃ e', (cutF a z js hp E)[i']? = some e' ∧ e'.b = e.b ∧ e'.o = e.o ∧ e'.n = e.n := by
  rcases renI_spec h with ⟨h1, rfl⟩ | ⟨rfl, rfl⟩
  · exact ⟨e, by rw [cutF_low hl h1]; exact he, rfl, rfl, rfl⟩
  · obtain ⟨e', h1, h2, h3, h4, _⟩ := cutF_last (js := js) (hp := hp) hl he
    exact ⟨e', h1, h2, h3, h4⟩

/-- What must hold of a block that nobody will write any more and that is such a list. -/
def frozB (js : List Nat) (hp : List Blk) (i n sz : Nat) (f : Nat → List C1) : Prop :=
  i ∈ js ∧ ∃ (x : Blk) (f' : Nat → List C1), hp[i]? = some x ∧ x.body = .rs n sz f' ∧ (n = 0 ∨ x.live = true) ∧ x.ro = false ∧ ∀ k, k < n → f k = f' k ∧ (f' k).length = sz

/-- The same value, told of constructors. -/
def renC (a z : Nat) (js : List Nat) (hp : List Blk) : C1 → C1 → Prop
  | .sc v _, .sc u _ => v = u
  | .sc (.slice none 0 0) _, .gr _ n _ => n = 0
  | .ptr i off, .ptr i' off' => renI a z i i' = true ∧ off = off'
  | .sl i off len sz, .sl i' off' len' sz' => renI a z i i' = true ∧ off = off' ∧ len = len' ∧ sz = sz'
  | .e0 i off, .e0 i' off' => renI a z i i' = true ∧ off = off'
  | .fn f ps, .fn f' ps' => f = f' ∧ ps = ps' ∧ ∀ p ∈ ps, p.1 < a
  | .em, .em => True
  | .ez, .ez => True
  | .fl k, .fl k' => k = k'
  | .cf k, .cf k' => k = k'
  | .pr i k sz o, .pr i' k' sz' o' => renI a z i i' = true ∧ k = k' ∧ sz = sz' ∧ o = o'
  | .gr i n sz, .gr i' n' sz' => renI a z i i' = true ∧ n = n' ∧ sz = sz'
  | .gr i n sz, .lst n' N' sz' f => n = n' ∧ n = N' ∧ sz = sz' ∧ frozB js hp i n sz f
  | .sl i off n sz, .lst n' N' sz' f => off = 0 ∧ n = n' ∧ n = N' ∧ sz = sz' ∧ frozB js hp i n sz f
  | .sc (.slice none 0 0) _, .lst n' N' _ _ => n' = 0 ∧ N' = 0
  | .lst n N sz f, .lst n' N' sz' f' => n = n' ∧ N = N' ∧ sz = sz' ∧ ∀ k, k < N → f k = f' k
  | .pl cs o, .pl cs' o' => cs = cs' ∧ o = o'
  | _, _ => False

theorem fn_low {a z : Nat} {js : List Nat} {hp : List Blk} {E : Env} {f : FuncId} {ps : List (Nat × Nat)} {u : Value} (hl : E.length = a + z + 1) (hp1 : ∀ p ∈ ps, p.1 < a) (hr : RC E (.fn f ps) u) : RC (cutF a z js hp E) (.fn f ps) u := by
  obtain ⟨caps, hu, hlen, hc⟩ := hr
  refine ⟨caps, hu, hlen, fun j p v hp' hv => ?_⟩
  obtain ⟨e, he, hv'⟩ := hc j p v hp' hv
  exact ⟨e, by rw [cutF_low hl (hp1 p (List.mem_of_getElem? hp'))]; exact he, hv'⟩

/-- A block that is frozen is such a list. -/
theorem froz_lst {a z : Nat} {js : List Nat} {hp : List Blk} {B : Nat} {w0 : World} {E : Env} {w : World} (hl : E.length = a + z + 1) (hh : RH B w0 E hp w) {i n sz : Nat} {f : Nat → List C1} (hf : frozB js hp i n sz f) {u : Value} (hn : n ≠ 0)
    (hr : RC E (.sl i 0 n sz) u) : RC (cutF a z js hp E) (.lst n n sz f) u := by
  obtain ⟨hj, x, f', hx, hb, hlv, hro, hff⟩ := hf
  have hlv := hlv.resolve_left hn
  obtain ⟨e, cap, he, rfl, h1, h2, h3⟩ := hr
  obtain ⟨c, hc, r1, hB, ho, r3, r4⟩ := hh.own hx he hlv hro
  obtain ⟨e', g1, g2, g3, g4, g5, _⟩ := cutF_last (js := js) (hp := hp) hl (List.getElem?_eq_getElem (show a + z < E.length by omega))
  have hce : x.cells = recC n sz f' := by rw [Blk.cells, hb]; rfl
  refine .inr ⟨a, e', e.b, 0, 0, cap, x.cells, g1, (g5 _ _ _).2 (.inr ⟨i, x, e, hj, hx, he, hlv, rfl, rfl, rfl⟩), by rw [ho], Nat.le_refl _, h1, h2, by rw [hce, recC_length]; omega, fun k hk => ?_⟩
  obtain ⟨q1, q2⟩ := hff k hk
  rw [q1, Nat.zero_add, hce, recC_at n sz f' hk q2]

theorem renC_S {a z : Nat} {js : List Nat} {hp : List Blk} {c d : C1} (h : renC a z js hp c d) : renS a z js hp c d := by
  intro B w0 E w u hl hh hr
  unfold renC at h
  split at h
  · subst h; exact hr
  · subst h; exact .inl ⟨rfl, hr.1⟩
  · obtain ⟨hi, rfl⟩ := h
    obtain ⟨e, he, hu⟩ := hr
    obtain ⟨e', h1, h2, h3, h4⟩ := cutF_ren (js := js) (hp := hp) hl hi he
    exact ⟨e', h1, by rw [h2, h3]; exact hu⟩
  · obtain ⟨hi, rfl, rfl, rfl⟩ := h
    obtain ⟨e, cap, he, hu, r1, r2, r3⟩ := hr
    obtain ⟨e', h1, h2, h3, h4⟩ := cutF_ren (js := js) (hp := hp) hl hi he
    exact ⟨e', cap, h1, by rw [h2, h3]; exact hu, r1, r2, by rw [h4]; exact r3⟩
  · obtain ⟨hi, rfl⟩ := h
    obtain ⟨e, he, hu⟩ := hr
    obtain ⟨e', h1, h2, h3, h4⟩ := cutF_ren (js := js) (hp := hp) hl hi he
    exact ⟨e', h1, by rw [h2, h3]; exact hu⟩
  · obtain ⟨rfl, rfl, hlow⟩ := h
    exact fn_low hl hlow hr
  · exact hr
  · exact hr
  · subst h; exact hr
  · subst h; exact hr
  · obtain ⟨hi, rfl, rfl, rfl⟩ := h
    obtain ⟨e, he, hu⟩ := hr
    obtain ⟨e', h1, h2, h3, h4⟩ := cutF_ren (js := js) (hp := hp) hl hi he
    exact ⟨e', h1, by rw [h2, h3]; exact hu⟩
  · obtain ⟨hi, rfl, rfl⟩ := h
    rcases hr with hr | ⟨hn, e, cap, he, hu, r1, r2, r3⟩
    · exact .inl hr
    · obtain ⟨e', h1, h2, h3, h4⟩ := cutF_ren (js := js) (hp := hp) hl hi he
      exact .inr ⟨hn, e', cap, h1, by rw [h2, h3]; exact hu, r1, r2, by rw [h4]; exact r3⟩
  · obtain ⟨rfl, rfl, rfl, hf⟩ := h
    rcases hr with ⟨rfl, rfl⟩ | ⟨hn, hr⟩
    · exact .inl ⟨rfl, rfl, _, _, rfl⟩
    · exact froz_lst hl hh hf hn hr
  · rename_i i off n sz n' N' sz' f
    obtain ⟨rfl, rfl, rfl, rfl, hf⟩ := h
    by_cases hn : n = 0
    · subst hn
      obtain ⟨e, cap, he, hu, _⟩ := hr
      exact .inl ⟨rfl, rfl, _, _, hu⟩
    · exact froz_lst hl hh hf hn hr
  · obtain ⟨rfl, rfl⟩ := h
    exact .inl ⟨rfl, rfl, _, _, hr.1⟩
  · obtain ⟨rfl, rfl, rfl, hf⟩ := h
    have h2 := freeC_RC (cutF_fz (js := js) (hp := hp) hl) (show freeC (.lst _ _ _ _) from trivial) hr
    rcases h2 with h2 | ⟨j, e, b, q, o, cap, cs, r1, r2, r3, r4, r5, r6, r7, r8⟩
    · exact .inl h2
    · exact .inr ⟨j, e, b, q, o, cap, cs, r1, r2, r3, r4, r5, r6, r7, fun k hk => by rw [← hf k hk]; exact r8 k hk⟩
  · obtain ⟨rfl, rfl⟩ := h
    exact freeC_RC (cutF_fz (js := js) (hp := hp) hl) trivial hr
  · exact h.elim

theorem pickC_t {E : Env} {c d : C1} {u : Value} (h : RC E (pickC true c d) u) : RC E c u := by
  unfold pickC at h
  split at h
  · split at h
    · rename_i hk; subst hk; exact h
    · exact h
  · split at h
    · rename_i hk; subst hk; exact h
    · exact h
  · exact h
  · split at h
    · rename_i hk; subst hk; exact h
    · exact h
  · exact h

theorem pickC_f {E : Env} {c d : C1} {u : Value} (h : RC E (pickC false c d) u) : RC E d u := by
  unfold pickC at h
  split at h
  · split at h
    · rename_i hk; subst hk; exact h
    · exact h
  · split at h
    · rename_i hk; subst hk; exact h
    · exact h
  · exact h
  · split at h
    · rename_i hk; subst hk; exact h
    · exact h
  · exact h

def renCs (a z : Nat) (js : List Nat) (hp : List Blk) : List C1 → List C1 → Prop
  | [], [] => True
  | c :: l, d :: m => renC a z js hp c d ∧ renCs a z js hp l m
  | _, _ => False

/-- Cells that stand for the same behind the round. -/
def renL (a z : Nat) (js : List Nat) (hp : List Blk) (l m : List C1) : Prop :=
  l.length = m.length ∧ ∀ (j : Nat) (c d : C1), l[j]? = some c → m[j]? = some d → renS a z js hp c d

theorem renCs_L {a z : Nat} {js : List Nat} {hp : List Blk} : ∀ {l m : List C1}, renCs a z js hp l m → renL a z js hp l m
  | [], [], _ => ⟨rfl, by simp⟩
  | c :: l, d :: m, h => by
    obtain ⟨h1, h2⟩ := renCs_L h.2
    refine ⟨by simp [h1], fun j x y hx hy => ?_⟩
    cases j with
    | zero => simp at hx hy; subst hx; subst hy; exact renC_S h.1
    | succ j => exact h2 j x y (by simpa using hx) (by simpa using hy)
  | [], _ :: _, h => h.elim
  | _ :: _, [], h => h.elim

theorem pickL_len {t : Bool} : ∀ {l m : List C1}, l.length = m.length → (pickL t l m).length = l.length
  | [], [], _ => rfl
  | c :: l, d :: m, h => by simp only [pickL, List.length_cons]; rw [pickL_len (by simpa using h)]
  | [], _ :: _, h => by simp at h
  | _ :: _, [], h => by simp at h

theorem pickL_at {t : Bool} : ∀ {l m : List C1} {j : Nat} {c : C1}, (pickL t l m)[j]? = some c → ∃ x y, l[j]? = some x ∧ m[j]? = some y ∧ c = pickC t x y
  | [], m, j, c, h => by simp [pickL] at h
  | _ :: _, [], j, c, h => by simp [pickL] at h
  | x :: l, y :: m, j, c, h => by
    cases j with
    | zero => simp only [pickL, List.getElem?_cons_zero, Option.some.injEq] at h; exact ⟨x, y, rfl, rfl, h.symm⟩
    | succ j => simp only [pickL, List.getElem?_cons_succ] at h ⊢; exact pickL_at h

theorem renL_t {a z : Nat} {js : List Nat} {hp : List Blk} {l m l' : List C1} (hlen : l.length = m.length) (h : renL a z js hp l l') : renL a z js hp (pickL true l m) l' :=
  ⟨by rw [pickL_len hlen]; exact h.1, fun j c d hc hd B w0 E w u hl hh hr => by
    obtain ⟨x, y, h1, h2, rfl⟩ := pickL_at hc
    exact h.2 j x d h1 hd B w0 E w u hl hh (pickC_t hr)⟩

theorem renL_f {a z : Nat} {js : List Nat} {hp : List Blk} {l m l' : List C1} (hlen : l.length = m.length) (h : renL a z js hp m l') : renL a z js hp (pickL false l m) l' :=
  ⟨by rw [pickL_len hlen, hlen]; exact h.1, fun j c d hc hd B w0 E w u hl hh hr => by
    obtain ⟨x, y, h1, h2, rfl⟩ := pickL_at hc
    exact h.2 j y d h2 hd B w0 E w u hl hh (pickC_f hr)⟩

/-- A list to which one element has been appended. -/
theorem renL_cat {a z : Nat} {js : List Nat} {hp : List Blk} {n : Nat} {f g f' : Nat → List C1} (hlen : ∀ k, (f k).length = (g (k - n)).length) (h1 : ∀ k, k < n → renL a z js hp (f k) (f' k)) (h2 : ∀ k, n ≤ k → renL a z js hp (g (k - n)) (f' k)) (k : Nat) : renL a z js hp (catR n f g k) (f' k) := by
  unfold catR
  by_cases hk : k < n
  · rw [show Nat.blt k n = true from by rw [blt_eq]; exact decide_eq_true hk]
    exact renL_t (hlen k) (h1 k hk)
  · rw [show Nat.blt k n = false from by rw [blt_eq]; exact decide_eq_false hk]
    exact renL_f (hlen k) (h2 k (by omega))

def renBody (a z : Nat) (js : List Nat) (hp : List Blk) : Body → Body → Prop
  | .li l, .li m => renCs a z js hp l m
  | .sy n g, .sy n' g' => n = n' ∧ ∀ j, j < n → renS a z js hp (g j) (g' j)
  | .rs n sz f, .rs n' sz' f' => n = n' ∧ sz = sz' ∧ ∀ k, k < n → renL a z js hp (f k) (f' k)
  | _, _ => False

/-- A block that is the same behind the round, or is not looked at any more. -/
def renB (a z : Nat) (js : List Nat) (hp : List Blk) (b b' : Blk) : Prop :=
  b'.live = false ∨ (b.live = true ∧ b.elem = b'.elem ∧ b.ro = b'.ro ∧ renBody a z js hp b.body b'.body)

theorem renBody_RCs {a z : Nat} {js : List Nat} {hp : List Blk} {x y : Body} (h : renBody a z js hp x y) {B : Nat} {w0 : World} {E : Env} {w : World} (hl : E.length = a + z + 1) (hh : RH B w0 E hp w) {vs : List Value} (hr : RCs E x.cells vs) : RCs (cutF a z js hp E) y.cells vs := by
  unfold renBody at h
  split at h
  · obtain ⟨h1, h2⟩ := renCs_L h
    exact ⟨h1.symm.trans hr.1, fun j d v hd hv => by
      have hj : j < _ := (List.getElem?_eq_some_iff.1 hd).1
      exact h2 j _ d (List.getElem?_eq_getElem (show j < _ by rw [h1]; exact hj)) hd B w0 E w v hl hh (hr.2 j _ v (List.getElem?_eq_getElem _) hv)⟩
  · rename_i n g n' g'
    obtain ⟨rfl, h⟩ := h
    refine ⟨by have := hr.1; simpa [Body.cells, symC] using this, fun j d v hd hv => ?_⟩
    have hj : j < n := by have := (List.getElem?_eq_some_iff.1 hd).1; rwa [show (Body.sy n g').cells = symC n g' from rfl, symC_length] at this
    rw [show (Body.sy n g').cells = symC n g' from rfl, symC_get _ _ hj] at hd
    simp only [Option.some.injEq] at hd
    subst hd
    exact h j hj B w0 E w v hl hh (hr.2 j _ v (symC_get _ _ hj) hv)
  · rename_i n sz f n' sz' f'
    obtain ⟨rfl, rfl, h⟩ := h
    refine ⟨by have := hr.1; simpa [Body.cells, recC] using this, fun j d v hd hv => ?_⟩
    have hj : j < n * sz := by have := (List.getElem?_eq_some_iff.1 hd).1; rwa [show (Body.rs n sz f').cells = recC n sz f' from rfl, recC_length] at this
    have hsz : 0 < sz := by
      refine Nat.pos_of_ne_zero fun e0 => ?_
      rw [e0] at hj; omega
    have hk : j / sz < n := by rw [Nat.div_lt_iff_lt_mul hsz]; exact hj
    rw [show (Body.rs n sz f').cells = recC n sz f' from rfl, recC_get _ _ _ hj] at hd
    simp only [Option.some.injEq] at hd
    subst hd
    have hr2 := hr.2 j _ v (recC_get _ _ _ hj) hv
    obtain ⟨q1, q2⟩ := h _ hk
    by_cases hlt : j % sz < (f (j / sz)).length
    · have e1 : (f (j / sz)).getD (j % sz) .em = (f (j / sz))[j % sz] := by rw [List.getD_eq_getElem?_getD, List.getElem?_eq_getElem hlt]; rfl
      have hlt' : j % sz < (f' (j / sz)).length := by rw [← q1]; exact hlt
      have e2 : (f' (j / sz)).getD (j % sz) .em = (f' (j / sz))[j % sz] := by rw [List.getD_eq_getElem?_getD, List.getElem?_eq_getElem hlt']; rfl
      rw [e2]
      rw [e1] at hr2
      exact q2 _ _ _ (List.getElem?_eq_getElem hlt) (List.getElem?_eq_getElem hlt') B w0 E w v hl hh hr2
    · have e1 : (f (j / sz)).getD (j % sz) .em = .em := by rw [List.getD_eq_getElem?_getD, List.getElem?_eq_none (by omega)]; rfl
      have e2 : (f' (j / sz)).getD (j % sz) .em = .em := by rw [List.getD_eq_getElem?_getD, List.getElem?_eq_none (by omega)]; rfl
      rw [e2]
      rw [e1] at hr2
      exact hr2
  · exact h.elim

def renBs (a z : Nat) (js : List Nat) (hp : List Blk) : List Blk → List Blk → Prop
  | [], [] => True
  | b :: l, b' :: l' => renB a z js hp b b' ∧ renBs a z js hp l l'
  | _, _ => False

theorem renBs_get {a z : Nat} {js : List Nat} {hp : List Blk} : ∀ {l l' : List Blk}, renBs a z js hp l l' → l'.length = l.length ∧ ∀ (i : Nat) (b' : Blk), l'[i]? = some b' → ∃ b, l[i]? = some b ∧ renB a z js hp b b'
  | [], [], _ => ⟨rfl, fun i b' h => by simp at h⟩
  | b :: l, c :: l', h => by
    obtain ⟨h1, h2⟩ := renBs_get h.2
    refine ⟨by simp [h1], fun i b' hb => ?_⟩
    cases i with
    | zero => simp at hb; subst hb; exact ⟨b, rfl, h.1⟩
    | succ i => obtain ⟨x, a1, a2⟩ := h2 i b' (by simpa using hb); exact ⟨x, by simpa using a1, a2⟩
  | [], _ :: _, h => h.elim
  | _ :: _, [], h => h.elim

/-- Blocks that may be frozen: each lies behind the first 'a', is one's own, refers to no block, and is not looked at behind the round. -/
def frozOk (a z : Nat) (js : List Nat) (hp : List Blk) : Prop := ∀ j ∈ js, a ≤ j ∧ j < a + z ∧ ∀ x, hp[j]? = some x → x.ro = false ∧ ∀ c ∈ x.cells, freeC c

/-- Behind a round: blocks are forgotten, some are frozen. -/
theorem RH.cut {B : Nat} {w0 : World} {E : Env} {hp A D A' : List Blk} {b b' : Blk} {js : List Nat} {w : World} (hhp : hp = A ++ D ++ [b]) (h : RH B w0 E hp w) (hf : frozOk A.length D.length js hp) (hA : renBs A.length D.length js hp A A') (hb : renB A.length D.length js hp b b') :
    RH B w0 (cutF A.length D.length js hp E) (A' ++ [b']) w := by
  have hl : E.length = A.length + D.length + 1 := by rw [h.len, hhp]; simp; omega
  obtain ⟨hlA, hgA⟩ := renBs_get hA
  -- where a live block comes from
  have at_ : ∀ (i : Nat) (x : Blk) (e : EB), (A' ++ [b'])[i]? = some x → (cutF A.length D.length js hp E)[i]? = some e → x.live = true → ∃ k y ek, renI A.length D.length k i = true ∧ hp[k]? = some y ∧ E[k]? = some ek ∧ ek.b = e.b ∧ ek.o = e.o ∧ ek.n = e.n ∧ y.live = true ∧ y.elem = x.elem ∧ y.ro = x.ro ∧ renBody A.length D.length js hp y.body x.body := fun i x e hx he hlx => by
    by_cases hi : i < A.length
    · rw [List.getElem?_append_left (by rw [hlA]; exact hi)] at hx
      rw [cutF_low hl hi] at he
      obtain ⟨y, hy, hr⟩ := hgA i x hx
      rcases hr with hr | ⟨r1, r2, r3, r4⟩
      · rw [hr] at hlx; cases hlx
      · refine ⟨i, y, e, ?_, by rw [hhp, List.append_assoc, List.getElem?_append_left hi]; exact hy, he, rfl, rfl, rfl, r1, r2, r3, r4⟩
        unfold renI
        rw [blt_eq, decide_eq_true hi, Nat.beq_refl]; rfl
    · rw [List.getElem?_append_right (by rw [hlA]; omega)] at hx
      have h0 := (List.getElem?_eq_some_iff.1 hx).1
      have hi0 : i = A.length := by rw [hlA] at h0; simp at h0; omega
      subst hi0
      rw [hlA, Nat.sub_self] at hx
      simp only [List.getElem?_cons_zero, Option.some.injEq] at hx
      subst hx
      rcases hb with hb | ⟨r1, r2, r3, r4⟩
      · rw [hb] at hlx; cases hlx
      · have hE : E[A.length + D.length]? = some (E[A.length + D.length]'(by omega)) := List.getElem?_eq_getElem _
        obtain ⟨e', g1, g2, g3, g4, _⟩ := cutF_last (js := js) (hp := hp) hl hE
        rw [he] at g1
        obtain rfl := Option.some.inj g1
        refine ⟨A.length + D.length, b, _, ?_, ?_, hE, g2.symm, g3.symm, g4.symm, r1, r2, r3, r4⟩
        · unfold renI
          rw [Nat.beq_refl, Nat.beq_refl]; simp
        · rw [hhp, List.getElem?_append_right (by simp)]; simp
  have own_ : ∀ (j : Nat) (e : EB) (b0 : Nat), (cutF A.length D.length js hp E)[j]? = some e → e.own b0 → ∃ (j' : Nat) (e' : EB), E[j']? = some e' ∧ e'.own b0 := fun j e b0 he ho => by
    by_cases hj : j < A.length
    · rw [cutF_low hl hj] at he
      exact ⟨j, e, he, ho⟩
    · have hjl : j = A.length := by
        have := (List.getElem?_eq_some_iff.1 he).1
        rw [cutF_len hl] at this
        omega
      subst hjl
      obtain ⟨e', g1, _, _, _, _, g5⟩ := cutF_last (js := js) (hp := hp) hl (List.getElem?_eq_getElem (show A.length + D.length < E.length by omega))
      rw [he] at g1
      obtain rfl := Option.some.inj g1
      exact (g5 b0).1 ho
  have inj2 : ∀ k k' i i', renI A.length D.length k i = true → renI A.length D.length k' i' = true → i ≠ i' → k ≠ k' := fun k k' i i' h1 h2 hne e => by
    subst e
    rcases renI_spec h1 with ⟨a1, rfl⟩ | ⟨a1, rfl⟩ <;> rcases renI_spec h2 with ⟨a2, rfl⟩ | ⟨a2, rfl⟩ <;> omega
  refine ⟨h.below, h.base, h.laid, ?_, fun i x e hx he hlx => ?_, fun i j bi bj ei ej hij hi hj hei hej hli hlj hro => ?_, ⟨fun j e b0 q cs he hz => ?_, fun j e b0 he ho => by
      obtain ⟨j', e', g1, g2⟩ := own_ j e b0 he ho
      exact h.frz.2 j' e' b0 g1 g2⟩⟩
  · rw [cutF_len hl]; simp [hlA]
  · obtain ⟨k, y, ek, _, hy, hek, e1, e2, e3, l1, l2, l3, l4⟩ := at_ i x e hx he hlx
    obtain ⟨c, fz, r1, r2, r3, r4, r5⟩ := h.blk k y ek hy hek l1
    have h6 := renBody_RCs l4 hl h r5
    have hlen : x.cells.length = y.cells.length := h6.1.trans r5.1.symm
    refine ⟨c, fz, by rw [← e1, ← l2]; exact r1, by rw [← e2, ← e3]; exact r2, fun hro => ?_, by rw [hlen, ← e3]; exact r4, by rw [hlen, ← e2]; exact h6⟩
    rw [← e1, ← e2]
    exact r3 (by rw [l3]; exact hro)
  · obtain ⟨k1, y1, ek1, q1, hy1, hek1, e1, _, _, l1, _, l3, _⟩ := at_ i bi ei hi hei hli
    obtain ⟨k2, y2, ek2, q2, hy2, hek2, f1, _, _, m1, _, _, _⟩ := at_ j bj ej hj hej hlj
    rw [← e1, ← f1]
    exact h.inj k1 k2 y1 y2 ek1 ek2 (inj2 k1 k2 i j q1 q2 hij) hy1 hy2 hek1 hek2 l1 m1 (by rw [l3]; exact hro)
  · -- what nobody writes
    have sep : ∀ (b1 : Nat), (∀ (k : Nat) (y : Blk) (ek : EB), (k < A.length ∨ k = A.length + D.length) → hp[k]? = some y → E[k]? = some ek → y.live = true → y.ro = false → ek.b ≠ b1) → ∀ (i : Nat) (bi : Blk) (ei : EB), (A' ++ [b'])[i]? = some bi → (cutF A.length D.length js hp E)[i]? = some ei → bi.live = true → bi.ro = false → ei.b ≠ b1 := fun b1 hs i bi ei hi hei hli hro => by
      obtain ⟨k, y, ek, q, hy, hek, e1, _, _, l1, _, l3, _⟩ := at_ i bi ei hi hei hli
      rw [← e1]
      refine hs k y ek ?_ hy hek l1 (by rw [l3]; exact hro)
      rcases renI_spec q with ⟨q1, _⟩ | ⟨q1, _⟩
      · exact .inl q1
      · exact .inr q1
    have old : ∀ (j0 : Nat) (e0 : EB), E[j0]? = some e0 → e0.fz b0 q cs → (∃ c t z, w.heap[b0]? = some (.cells c t z) ∧ q + cs.length ≤ c.size ∧ RCs (cutF A.length D.length js hp E) cs ((c.toList.drop q).take cs.length) ∧ ∀ x ∈ cs, freeC x) ∧
        (∀ (i : Nat) (bi : Blk) (ei : EB), (A' ++ [b'])[i]? = some bi → (cutF A.length D.length js hp E)[i]? = some ei → bi.live = true → bi.ro = false → ei.b ≠ b0) ∧ ∀ (i : Nat) (ei : EB), (cutF A.length D.length js hp E)[i]? = some ei → ¬ ei.own b0 := fun j0 e0 he0 hz0 => by
      obtain ⟨⟨c, t, z, r1, r2, r3, r4⟩, r5, r6⟩ := h.frz.1 j0 e0 b0 q cs he0 hz0
      exact ⟨⟨c, t, z, r1, r2, freeCs_RCs (cutF_fz hl) r4 r3, r4⟩, sep b0 fun k y ek _ hy hek l1 l2 => r5 k y ek hy hek l1 l2, fun i ei hei ho => by
        obtain ⟨j', e', g1, g2⟩ := own_ i ei b0 hei ho
        exact r6 j' e' g1 g2⟩
    by_cases hj : j < A.length
    · rw [cutF_low hl hj] at he
      exact old j e he hz
    · have hjl : j = A.length := by
        have := (List.getElem?_eq_some_iff.1 he).1
        rw [cutF_len hl] at this
        omega
      subst hjl
      obtain ⟨e', g1, _, _, _, g5, _⟩ := cutF_last (js := js) (hp := hp) hl (List.getElem?_eq_getElem (show A.length + D.length < E.length by omega))
      rw [he] at g1
      obtain rfl := Option.some.inj g1
      rcases (g5 b0 q cs).1 hz with ⟨j0, e0, he0, hz0⟩ | ⟨j0, x, e0, hj0, hx, he0, hlx, rfl, rfl, rfl⟩
      · exact old j0 e0 he0 hz0
      · obtain ⟨hj1, hj2, hj3⟩ := hf j0 hj0
        obtain ⟨hro, hfr⟩ := hj3 x hx
        obtain ⟨c, hc, r1, hB, ho, r3, r4⟩ := h.own hx he0 hlx hro
        refine ⟨⟨c, x.elem, (0, 0), hc, by omega, by rw [List.drop_zero]; exact freeCs_RCs (cutF_fz hl) hfr r4, hfr⟩, sep e0.b fun k y ek hk hy hek l1 l2 => ?_, fun i ei hei ho' => by
          obtain ⟨j', e', g1, g2⟩ := own_ i ei e0.b hei ho'
          have := h.frz.2 j' e' e0.b g1 g2
          omega⟩
        exact h.inj k j0 y x ek e0 (by omega) hy hx hek he0 l1 hlx l2

/-- Several results that stand for the same. -/
def renT (a z : Nat) (js : List Nat) (hp : List Blk) : List (Bool × List C1) → List (Bool × List C1) → Prop
  | [], [] => True
  | p :: x, q :: y => (p.1 = q.1 ∧ renCs a z js hp p.2 q.2) ∧ renT a z js hp x y
  | _, _ => False

theorem renT_at {a z : Nat} {js : List Nat} {hp : List Blk} : ∀ {l m : List (Bool × List C1)}, renT a z js hp l m → l.length = m.length ∧ ∀ (j : Nat) (p q : Bool × List C1), l[j]? = some p → m[j]? = some q → p.1 = q.1 ∧ renCs a z js hp p.2 q.2
  | [], [], _ => ⟨rfl, by simp⟩
  | p :: l, q :: m, h => by
    obtain ⟨h1, h2⟩ := renT_at h.2
    refine ⟨by simp [h1], fun j x y hx hy => ?_⟩
    cases j with
    | zero => simp at hx hy; subst hx; subst hy; exact h.1
    | succ j => exact h2 j x y (by simpa using hx) (by simpa using hy)
  | [], _ :: _, h => h.elim
  | _ :: _, [], h => h.elim

theorem renCs_RCs {a z : Nat} {js : List Nat} {hp : List Blk} {l m : List C1} (h : renCs a z js hp l m) {B : Nat} {w0 : World} {E : Env} {w : World} (hl : E.length = a + z + 1) (hh : RH B w0 E hp w) {vs : List Value} (hr : RCs E l vs) : RCs (cutF a z js hp E) m vs := by
  obtain ⟨h1, h2⟩ := renCs_L h
  exact ⟨h1.symm.trans hr.1, fun j d v hd hv => by
    have hj : j < _ := (List.getElem?_eq_some_iff.1 hd).1
    exact h2 j _ d (List.getElem?_eq_getElem (show j < _ by rw [h1]; exact hj)) hd B w0 E w v hl hh (hr.2 j _ v (List.getElem?_eq_getElem _) hv)⟩

theorem RP_ren {a z : Nat} {js : List Nat} {hp : List Blk} {p q : Bool × List C1} (h1 : p.1 = q.1) (h : renCs a z js hp p.2 q.2) {B : Nat} {w0 : World} {E : Env} {w : World} (hl : E.length = a + z + 1) (hh : RH B w0 E hp w) {v : Value} (hr : RP E p v) : RP (cutF a z js hp E) q v := by
  obtain ⟨t, l⟩ := p
  obtain ⟨t', m⟩ := q
  obtain rfl : t = t' := h1
  cases t with
  | false =>
    obtain ⟨c, hc, hr⟩ := hr
    obtain rfl : l = [c] := hc
    cases m with
    | nil => exact h.elim
    | cons d m => cases m with
      | nil => exact ⟨d, rfl, renC_S h.1 B w0 E w v hl hh hr⟩
      | cons d' m => exact h.2.elim
  | true =>
    obtain ⟨vs, hv, hr⟩ := hr
    exact ⟨vs, hv, renCs_RCs h hl hh hr⟩

def renA (a z : Nat) (js : List Nat) (hp : List Blk) : AV → AV → Prop
  | .one c, .one d => renC a z js hp c d
  | .agg l, .agg m => renCs a z js hp l m
  | .tup l, .tup m => renT a z js hp l m
  | .undef, .undef => True
  | _, .bad => True
  | _, _ => False

theorem renA_RV {a z : Nat} {js : List Nat} {hp : List Blk} {x y : AV} (h : renA a z js hp x y) {B : Nat} {w0 : World} {E : Env} {w : World} (hl : E.length = a + z + 1) (hh : RH B w0 E hp w) {u : Value} (hr : RV E x u) : RV (cutF a z js hp E) y u := by
  unfold renA at h
  split at h
  · exact renC_S h B w0 E w u hl hh hr
  · obtain ⟨vs, hu, hr⟩ := hr
    obtain ⟨h1, h2⟩ := renCs_L h
    exact ⟨vs, hu, h1.symm.trans hr.1, fun j d v hd hv => by
      have hj : j < _ := (List.getElem?_eq_some_iff.1 hd).1
      exact h2 j _ d (List.getElem?_eq_getElem (show j < _ by rw [h1]; exact hj)) hd B w0 E w v hl hh (hr.2 j _ v (List.getElem?_eq_getElem _) hv)⟩
  · obtain ⟨us, hu, h3, hr⟩ := hr
    obtain ⟨h1, h2⟩ := renT_at h
    refine ⟨us, hu, h1.symm.trans h3, fun j q v hq hv => ?_⟩
    have hj : j < _ := (List.getElem?_eq_some_iff.1 hq).1
    have hp := List.getElem?_eq_getElem (show j < _ by rw [h1]; exact hj)
    obtain ⟨e1, e2⟩ := h2 j _ q hp hq
    have r := hr j _ v hp hv
    exact RP_ren e1 e2 hl hh r
  · exact hr
  · trivial
  · exact h.elim

def renVs (a z : Nat) (js : List Nat) (hp : List Blk) : List AV → List AV → Prop
  | [], [] => True
  | x :: l, y :: m => renA a z js hp x y ∧ renVs a z js hp l m
  | _, _ => False

theorem RT.ren {a z : Nat} {js : List Nat} {hp : List Blk} {B : Nat} {w0 : World} {E : Env} {w : World} (hlE : E.length = a + z + 1) (hh : RH B w0 E hp w) {tm : Tm} {ts : Array Value} (h : RT E tm ts) : ∀ (l : List (Nat × AV)), renVs a z js hp (l.map fun p => getT tm p.1) (l.map (·.2)) → RT (cutF a z js hp E) (tmL tm.n l) ts
  | [], _ => by
    refine ⟨h.1, h.2.1, fun i hi => ?_⟩
    have : getT (tmL tm.n []) i = .bad := by
      simp only [tmL, getT]
      rw [show Nat.blt i tm.n = true from by rw [blt_eq]; simpa [tmL] using hi]
      rfl
    rw [this]; trivial
  | (k, v) :: l, hl => by
    have ih := RT.ren hlE hh h l hl.2
    refine ⟨by rw [tmL, setT_n, tmL_n]; exact h.1, by rw [tmL, setT_n, tmL_n]; exact h.2.1, fun i hi => ?_⟩
    rw [tmL, setT_n, tmL_n] at hi
    rw [tmL, getT_setT (by rw [tmL_n]; exact h.2.1) (by rw [tmL_n]; exact hi)]
    by_cases hk : k = i
    · subst hk
      rw [if_pos rfl]
      exact renA_RV hl.1 hlE hh (h.2.2 k hi)
    · rw [if_neg hk]
      exact ih.2.2 i (by rw [tmL_n]; exact hi)

/-- Behind a round, or behind the loop: blocks are forgotten, some are frozen. -/
def AfterG (e : Ex) (a : Nat) (n : Nat) (js : List Nat) (l : List (Nat × AV)) (hp' : List Blk) : Ex → Nat → List AV → List Blk → Prop :=
  fun x m vs hp0 => x = e ∧ m = n ∧ ∃ hp A D b A' b', (hp = hp0 ∨ hp = hp0 ++ [deadB]) ∧ A.length = a ∧ hp = A ++ D ++ [b] ∧ hp' = A' ++ [b'] ∧ frozOk a D.length js hp ∧ renVs a D.length js hp vs (l.map (·.2)) ∧ renBs a D.length js hp A A' ∧ renB a D.length js hp b b'

/-- A contract of a loop that keeps the first 'a' blocks' places alone. -/
def LoopOkB (P : Program) (a : Nat) (c : Code) (tm : Tm) (hp : List Blk) (x : Ex) (tm' : Tm) (hp' : List Blk) : Prop :=
  ∀ (B : Nat) (w0 : World) (E : Env) (ac : Act) (w : World) (Q : Exit → Act → World → Prop), RH B w0 E hp w → RT E tm ac.tmps →
    (∀ E' a' w', E.take a <+: E' → RT E' tm' a'.tmps → a'.defers = ac.defers → RH B w0 E' hp' w' → Q x.to a' w') → InLoop P c Q ac w

theorem after_cut {e x : Ex} {a n : Nat} {js : List Nat} {l : List (Nat × AV)} {hp' hp : List Blk} {tm : Tm} (h : AfterG e a n js l hp' x tm.n ((l.map (·.1)).map (getT tm)) hp) {B : Nat} {w0 : World} {E0 E : Env} {w : World} {ts : Array Value} (hpre : E0 <+: E) (ha : a ≤ E0.length) (hh : RH B w0 E hp w) (ht : RT E tm ts) :
    x = e ∧ ∃ E', E0.take a <+: E' ∧ RH B w0 E' hp' w ∧ RT E' (tmL n l) ts := by
  obtain ⟨rfl, hn, hp1, A, D, b, A', b', hor, hA, hhp, rfl, hf, hv, hrA, hrb⟩ := h
  subst hA
  have go : ∀ (E1 : Env), E0 <+: E1 → RH B w0 E1 hp1 w → RT E1 tm ts → ∃ E', E0.take A.length <+: E' ∧ RH B w0 E' (A' ++ [b']) w ∧ RT E' (tmL n l) ts := fun E1 hpre hh ht => by
    have hl : E1.length = A.length + D.length + 1 := by rw [hh.len, hhp]; simp; omega
    refine ⟨cutF A.length D.length js hp1 E1, ?_, hh.cut hhp hf hrA hrb, ?_⟩
    · have e1 : E1.take A.length = E0.take A.length := by
        obtain ⟨t, rfl⟩ := hpre
        rw [List.take_append_of_le_length ha]
      unfold cutF
      rw [e1]
      exact ⟨_, rfl⟩
    · rw [← hn]
      exact ht.ren hl hh l (by rw [List.map_map] at hv; exact hv)
  rcases hor with rfl | rfl
  · exact ⟨rfl, go E hpre hh ht⟩
  · have hp2 : E <+: E ++ [EB.at 0 0 0] := ⟨_, rfl⟩
    exact ⟨rfl, go _ (hpre.trans hp2) hh.dead1 (ht.mono hp2)⟩

/-- Rounds, each of which may leave blocks behind. -/
theorem grow_rounds {P : Program} {T : Tab} (hm : P.follows .mixedOrders = true) (hT : TabOk P T) {c : Code} (a n0 N : Nat) (l : Nat → List (Nat × AV)) (hps : Nat → List Blk) (x : Ex) (lf : List (Nat × AV)) (hpf : List Blk) (hx : x ≠ .normal) (ha : ∀ i, i ≤ N → a ≤ (hps i).length)
    (hs : ∀ i, i < N → ∃ F, FnsOk P F ∧ ∃ n orc js, roundK P T F n c (tmL n0 (l i)) (hps i) orc ((l (i + 1)).map (·.1)) (AfterG .normal a n0 js (l (i + 1)) (hps (i + 1))))
    (hN : ∃ F, FnsOk P F ∧ ∃ n orc js, roundK P T F n c (tmL n0 (l N)) (hps N) orc (lf.map (·.1)) (AfterG x a n0 js lf hpf)) :
    ∀ i, i ≤ N → LoopOkB P a c (tmL n0 (l i)) (hps i) x (tmL n0 lf) hpf := by
  intro i hi
  obtain ⟨d, hd⟩ : ∃ d, N - i = d := ⟨_, rfl⟩
  induction d generalizing i with
  | zero =>
    obtain rfl : i = N := by omega
    intro B w0 E ac w Q hh ht hq
    obtain ⟨F, hF, n, orc, js, h⟩ := hN
    unfold roundK at h
    refine InLoop.round ((code_both hm hT n B w0 F hF c).1 _ _ _ _ E ac w _ h hh ht ?_)
    intro y tm' hp' orc' E' a' w' hk hpre hrt hd' hrh
    obtain ⟨rfl, E2, h1, h2, h3⟩ := after_cut hk hpre (by rw [hh.len]; exact ha i (Nat.le_refl _)) hrh hrt
    have hq' := hq E2 a' w' h1 h3 hd' h2
    cases y with
    | normal => exact absurd rfl hx
    | exit id => exact hq'
    | ret => exact hq'
  | succ d ih =>
    intro B w0 E ac w Q hh ht hq
    obtain ⟨F, hF, n, orc, js, h⟩ := hs i (by omega)
    unfold roundK at h
    refine InLoop.round ((code_both hm hT n B w0 F hF c).1 _ _ _ _ E ac w _ h hh ht ?_)
    intro y tm' hp' orc' E' a' w' hk hpre hrt hd' hrh
    have haE : a ≤ E.length := by rw [hh.len]; exact ha i hi
    obtain ⟨rfl, E2, h1, h2, h3⟩ := after_cut hk hpre haE hrh hrt
    refine ih (i + 1) (by omega) (by omega) B w0 E2 a' w' Q h2 h3 fun E3 a3 w3 hpre3 hrt3 hd3 hrh3 => hq E3 a3 w3 (List.IsPrefix.trans ?_ hpre3) hrt3 (hd3.trans hd') hrh3
    obtain ⟨t, rfl⟩ := h1
    rw [List.take_append_of_le_length (by rw [List.length_take]; omega), List.take_take, Nat.min_self]
    exact List.prefix_refl _

/-- A value at the beginning of a loop in which lists grow: nothing yet is a list of no elements. -/
def startA : AV → AV → Prop
  | .one (.sc v _), .one (.sc u _) => v = u
  | .one (.sc (.slice none 0 0) _), .one (.gr _ 0 _) => True
  | a, b => a = b

theorem startA_RV {E : Env} {a b : AV} {u : Value} (h : startA a b) (hr : RV E a u) : RV E b u := by
  unfold startA at h
  split at h
  · subst h; exact hr
  · exact .inl ⟨rfl, hr.1⟩
  · subst h; exact hr

def startVs (tm : Tm) : List (Nat × AV) → Prop
  | [] => True
  | (k, v) :: l => startA (getT tm k) v ∧ startVs tm l

theorem RT.start' {E : Env} {tm : Tm} {ts : Array Value} (h : RT E tm ts) : ∀ (l : List (Nat × AV)), startVs tm l → RT E (tmL tm.n l) ts
  | [], _ => by
    refine ⟨h.1, h.2.1, fun i hi => ?_⟩
    have : getT (tmL tm.n []) i = .bad := by
      simp only [tmL, getT]
      rw [show Nat.blt i tm.n = true from by rw [blt_eq]; simpa [tmL] using hi]
      rfl
    rw [this]; trivial
  | (k, v) :: l, hl => by
    have ih := RT.start' h l hl.2
    refine ⟨by rw [tmL, setT_n, tmL_n]; exact h.1, by rw [tmL, setT_n, tmL_n]; exact h.2.1, fun i hi => ?_⟩
    rw [tmL, setT_n, tmL_n] at hi
    rw [tmL, getT_setT (by rw [tmL_n]; exact h.2.1) (by rw [tmL_n]; exact hi)]
    by_cases hk : k = i
    · subst hk
      rw [if_pos rfl]
      exact startA_RV hl.1 (h.2.2 k hi)
    · rw [if_neg hk]
      exact ih.2.2 i (by rw [tmL_n]; exact hi)

/-- Blocks at the beginning of such a loop: cells that say the same. -/
def startB (b b' : Blk) : Prop := b'.live = false ∨ (b.live = true ∧ b.elem = b'.elem ∧ b.ro = b'.ro ∧ ∀ E vs, RCs E b.cells vs → RCs E b'.cells vs)

def startBs : List Blk → List Blk → Prop
  | [], [] => True
  | b :: l, b' :: l' => startB b b' ∧ startBs l l'
  | _, _ => False

theorem startB.refl (b : Blk) : startB b b := by
  cases h : b.live with
  | false => exact .inl h
  | true => exact .inr ⟨h, rfl, rfl, fun _ _ h => h⟩

theorem startBs.refl : ∀ l, startBs l l
  | [] => trivial
  | b :: l => ⟨.refl b, startBs.refl l⟩

theorem startBs_get : ∀ {l l' : List Blk}, startBs l l' → l'.length = l.length ∧ ∀ (i : Nat) (b' : Blk), l'[i]? = some b' → ∃ b, l[i]? = some b ∧ startB b b'
  | [], [], _ => ⟨rfl, fun i b' h => by simp at h⟩
  | b :: l, c :: l', h => by
    obtain ⟨h1, h2⟩ := startBs_get h.2
    refine ⟨by simp [h1], fun i b' hb => ?_⟩
    cases i with
    | zero => simp at hb; subst hb; exact ⟨b, rfl, h.1⟩
    | succ i => obtain ⟨x, a1, a2⟩ := h2 i b' (by simpa using hb); exact ⟨x, by simpa using a1, a2⟩
  | [], _ :: _, h => h.elim
  | _ :: _, [], h => h.elim

/-- A loop whose rounds have one block more than there was. -/
theorem grow_enter {P : Program} {c : Code} {a n0 : Nat} {tm : Tm} {l0 : List (Nat × AV)} {hp0 hp1 : List Blk} {b0 : Blk} {x : Ex} {tm' : Tm} {hpf : List Blk} (hlen : hp0.length = a) (hn : tm.n = n0) (hl : startVs tm l0) (hb : startBs hp0 hp1) (hb0 : b0.live = false)
    (h : LoopOkB P a c (tmL n0 l0) (hp1 ++ [b0]) x tm' hpf) : LoopOk P c tm hp0 x tm' hpf := by
  intro B w0 E ac w Q hh ht hq
  obtain ⟨h1, h2⟩ := startBs_get hb
  have hh1 : RH B w0 (E ++ [EB.at 0 0 0]) (hp1 ++ [b0]) w := by
    refine hh.dead1.weaken (by simp [h1]) fun i b' hi hlv => ?_
    by_cases hib : i < hp0.length
    · rw [List.getElem?_append_left (by rw [h1]; exact hib)] at hi
      obtain ⟨b, g1, g2⟩ := h2 i b' hi
      rcases g2 with g2 | ⟨g2, g3, g4, g5⟩
      · rw [g2] at hlv; cases hlv
      · exact ⟨b, by rw [List.getElem?_append_left hib]; exact g1, g2, g3, fun hr => by rw [g4]; exact hr, fun vs hr => g5 _ vs hr⟩
    · rw [List.getElem?_append_right (by rw [h1]; omega)] at hi
      have h0 := (List.getElem?_eq_some_iff.1 hi).1
      have h3 : i - hp1.length = 0 := by simp at h0; omega
      rw [h3] at hi
      simp only [List.getElem?_cons_zero, Option.some.injEq] at hi
      subst hi
      rw [hb0] at hlv; cases hlv
  have hpre : E <+: E ++ [EB.at 0 0 0] := ⟨_, rfl⟩
  refine h B w0 (E ++ [EB.at 0 0 0]) ac w Q hh1 (hn ▸ (ht.mono hpre).start' l0 hl) fun E2 a2 w2 hpre2 hrt2 hd2 hrh2 => hq E2 a2 w2 ?_ hrt2 hd2 hrh2
  have e : (E ++ [EB.at 0 0 0]).take a = E := by
    rw [← hlen, ← hh.len]
    exact List.take_left
  rw [e] at hpre2
  exact hpre2
end Sm
