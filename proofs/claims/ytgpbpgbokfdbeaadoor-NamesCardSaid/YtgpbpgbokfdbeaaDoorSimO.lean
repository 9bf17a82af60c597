/-
  What is proved here: contracts out of abstract runs whose ways end in the same value; arrays of numbers as functions of the place. functions of Go's library that have no body (bits of a float, whole parts, roots), for the abstract evaluator. A text to be imported.
-/
import Derived.Test.YtgpbpgbokfdbeaaDoorSimL
import Derived.Laws.Externs
namespace Sm
open Go Go.RowKit

/-- The value that a run hands back. -/
def resW (r : Option AV) : Option Value :=
  match r with
  | some a => a.toW
  | none => none

theorem resW_spec {r : Option AV} {u : Value} (h : resW r = some u) : ∃ v, r = some v ∧ v.toW = some u := by
  cases r with
  | none => cases h
  | some v => exact ⟨v, rfl, h⟩

/-- The arguments of a run, and its memory; each argument with a flag of its own (none: not written out). -/
def canon2 : List Bool → List ArgV → Nat → Option (List AV × List Blk)
  | _, [], _ => some ([], [])
  | sts, .val v :: l, k => match ofV v (sts.headD false), canon2 sts.tail l k with
    | some a, some (as, bs) => some (a :: as, bs)
    | _, _ => none
  | sts, .mem e cs :: l, k => match canon2 sts.tail l (k + 1) with
    | some (as, bs) => some (.one (.ptr k 0) :: as, { body := .li (cs.map fun v => .sc v (sts.headD false)), elem := e, live := true, ro := true } :: bs)
    | none => none
  | sts, .sli e cs off len sz :: l, k => match canon2 sts.tail l (k + 1) with
    | some (as, bs) => some (.one (.sl k off len sz) :: as, { body := .li (cs.map fun v => .sc v (sts.headD false)), elem := e, live := true, ro := true } :: bs)
    | none => none

theorem canon2_li : ∀ (avs : List ArgV) (sts : List Bool) (k : Nat) (as : List AV) (bs : List Blk), canon2 sts avs k = some (as, bs) → ∀ (i : Nat) (b : Blk) (l : List (Int × C1)), bs[i]? = some b → b.body ≠ .mp l
  | [], sts, k, as, bs, h, i, b, l, hi => by
    simp only [canon2, Option.some.injEq, Prod.mk.injEq] at h
    obtain ⟨rfl, rfl⟩ := h
    simp at hi
  | .val v :: r, sts, k, as, bs, h, i, b, l, hi => by
    simp only [canon2] at h
    split at h
    · rename_i a as' bs' ha hrest
      simp only [Option.some.injEq, Prod.mk.injEq] at h
      obtain ⟨rfl, rfl⟩ := h
      exact canon2_li r sts.tail k as' bs' hrest i b l hi
    · cases h
  | .mem e cs :: r, sts, k, as, bs, h, i, b, l, hi => by
    simp only [canon2] at h
    split at h
    · rename_i as' bs' hrest
      simp only [Option.some.injEq, Prod.mk.injEq] at h
      obtain ⟨rfl, rfl⟩ := h
      cases i with
      | zero => simp only [List.getElem?_cons_zero, Option.some.injEq] at hi; subst hi; exact fun h => by cases h
      | succ i => exact canon2_li r sts.tail (k + 1) as' bs' hrest i b l (by simpa using hi)
    · cases h
  | .sli e cs off len sz :: r, sts, k, as, bs, h, i, b, l, hi => by
    simp only [canon2] at h
    split at h
    · rename_i as' bs' hrest
      simp only [Option.some.injEq, Prod.mk.injEq] at h
      obtain ⟨rfl, rfl⟩ := h
      cases i with
      | zero => simp only [List.getElem?_cons_zero, Option.some.injEq] at hi; subst hi; exact fun h => by cases h
      | succ i => exact canon2_li r sts.tail (k + 1) as' bs' hrest i b l (by simpa using hi)
    · cases h

theorem canon2_spec {w : World} : ∀ (avs : List ArgV) (sts : List Bool) (k : Nat) (as : List AV) (bs : List Blk) (us : List Value) (pre : List EB), canon2 sts avs k = some (as, bs) → ARs w avs us → pre.length = k →
    ∃ E : List EB, E.length = bs.length ∧ NoFz E ∧ RA (pre ++ E) as us ∧ ∀ (i : Nat) (b : Blk) (e : EB), bs[i]? = some b → E[i]? = some e →
      b.ro = true ∧ ∃ c fz, w.heap[e.b]? = some (.cells c b.elem fz) ∧ c.size = e.o + e.n ∧ b.cells.length ≤ e.n ∧ ∀ E', RCs E' b.cells ((c.toList.drop e.o).take b.cells.length)
  | [], sts, k, as, bs, us, pre, h, hr, _ => by
    simp only [canon2, Option.some.injEq, Prod.mk.injEq] at h
    obtain ⟨rfl, rfl⟩ := h
    exact ⟨[], rfl, .nil, ⟨hr.1, by simp⟩, by simp⟩
  | .val v :: l, sts, k, as, bs, us, pre, h, hr, hk => by
    simp only [canon2] at h
    split at h
    · rename_i a as' bs' ha hrest
      simp only [Option.some.injEq, Prod.mk.injEq] at h
      obtain ⟨rfl, rfl⟩ := h
      cases us with
      | nil => have := hr.1; simp at this
      | cons u us =>
        have h0 : u = v := hr.2 0 (.val v) u rfl rfl
        subst h0
        obtain ⟨E, hE, hnf, hra, hblk⟩ := canon2_spec l _ k as' bs' us pre hrest ⟨by have := hr.1; simpa using this, fun j v' u' h1 h2 => hr.2 (j + 1) v' u' (by simpa using h1) (by simpa using h2)⟩ hk
        refine ⟨E, hE, hnf, ⟨by simp [hra.1], fun j v' u' h1 h2 => ?_⟩, hblk⟩
        cases j with
        | zero => simp at h1 h2; subst h1; subst h2; exact ofV_RV ha
        | succ j => simp at h1 h2; exact hra.2 j v' u' h1 h2
    · cases h
  | .mem e cs :: l, sts, k, as, bs, us, pre, h, hr, hk => by
    simp only [canon2] at h
    split at h
    · rename_i as' bs' hrest
      simp only [Option.some.injEq, Prod.mk.injEq] at h
      obtain ⟨rfl, rfl⟩ := h
      cases us with
      | nil => have := hr.1; simp at this
      | cons u us =>
        obtain ⟨b, o, c, fz, rfl, hc, h0, h1, h2, h3⟩ : AR w (.mem e cs) u := hr.2 0 (.mem e cs) u rfl rfl
        obtain ⟨E, hE, hnf, hra, hblk⟩ := canon2_spec l _ (k + 1) as' bs' us (pre ++ [EB.at b o (c.size - o)]) hrest ⟨by have := hr.1; simpa using this, fun j v' u' h1 h2 => hr.2 (j + 1) v' u' (by simpa using h1) (by simpa using h2)⟩ (by simp [hk])
        have happ : pre ++ (EB.at b o (c.size - o) :: E) = pre ++ [EB.at b o (c.size - o)] ++ E := by simp
        refine ⟨EB.at b o (c.size - o) :: E, by simp [hE], hnf.cons _ _ _, ⟨by simp [hra.1], fun j v' u' hj hu => ?_⟩, fun i b' e' hi he => ?_⟩
        · rw [happ]
          cases j with
          | zero =>
            simp at hj hu; subst hj; subst hu
            refine ⟨EB.at b o (c.size - o), ?_, rfl⟩
            rw [List.append_assoc, List.getElem?_append_right (by omega), hk, Nat.sub_self]
            rfl
          | succ j => simp at hj hu; exact hra.2 j v' u' hj hu
        · cases i with
          | zero =>
            simp at hi he; subst hi; subst he
            refine ⟨rfl, c, fz, hc, by simp only [EB.at_o, EB.at_n]; omega, by simpa using h1, fun E' => ?_⟩
            simp only [Blk.cells_li, List.length_map, EB.at_o, h2]
            exact RCs_scs h3
          | succ i => simp at hi he; exact hblk i b' e' hi he
    · cases h
  | .sli e cs off len sz :: l, sts, k, as, bs, us, pre, h, hr, hk => by
    simp only [canon2] at h
    split at h
    · rename_i as' bs' hrest
      simp only [Option.some.injEq, Prod.mk.injEq] at h
      obtain ⟨rfl, rfl⟩ := h
      cases us with
      | nil => have := hr.1; simp at this
      | cons u us =>
        obtain ⟨b, o, c, fz, cap, rfl, hc, h0, h1, h2, h3, hl1, hl2, hl3⟩ : AR w (.sli e cs off len sz) u := hr.2 0 (.sli e cs off len sz) u rfl rfl
        obtain ⟨E, hE, hnf, hra, hblk⟩ := canon2_spec l _ (k + 1) as' bs' us (pre ++ [EB.at b o (c.size - o)]) hrest ⟨by have := hr.1; simpa using this, fun j v' u' h1 h2 => hr.2 (j + 1) v' u' (by simpa using h1) (by simpa using h2)⟩ (by simp [hk])
        have happ : pre ++ (EB.at b o (c.size - o) :: E) = pre ++ [EB.at b o (c.size - o)] ++ E := by simp
        refine ⟨EB.at b o (c.size - o) :: E, by simp [hE], hnf.cons _ _ _, ⟨by simp [hra.1], fun j v' u' hj hu => ?_⟩, fun i b' e' hi he => ?_⟩
        · rw [happ]
          cases j with
          | zero =>
            simp at hj hu; subst hj; subst hu
            refine ⟨EB.at b o (c.size - o), cap, ?_, rfl, hl1, hl2, hl3⟩
            rw [List.append_assoc, List.getElem?_append_right (by omega), hk, Nat.sub_self]
            rfl
          | succ j => simp at hj hu; exact hra.2 j v' u' hj hu
        · cases i with
          | zero =>
            simp at hi he; subst hi; subst he
            refine ⟨rfl, c, fz, hc, by simp only [EB.at_o, EB.at_n]; omega, by simpa using h1, fun E' => ?_⟩
            simp only [Blk.cells_li, List.length_map, EB.at_o, h2]
            exact RCs_scs h3
          | succ i => simp at hi he; exact hblk i b' e' hi he
    · cases h

/-- A contract out of runs. -/
theorem con_of_runW {P : Program} {T : Tab} {F : Fns} (hm : P.follows .mixedOrders = true) (hT : TabOk P T) (hF : FnsOk P F) {f : FuncId} {fn : Func} (hf : P.funcs[f]? = some fn)
    (hcall : ∀ (vs : Array Value) (w : World), (callFunc f vs).run P w = .ok (.enter f vs) w) {G : List ArgV → Option Value}
    (h : ∀ (avs : List ArgV) (u : Value), G avs = some u → ∃ sts n orc as bs, canon2 sts avs 0 = some (as, bs) ∧ runK P T F n fn as bs orc (fun r _ => resW r = some u)) : Con P f G := by
  refine ⟨hcall, fun avs u hG w us hL hr => ?_⟩
  obtain ⟨sts, n, orc, as, bs, hcan, hrun⟩ := h avs u hG
  obtain ⟨E, hE, hnf, hra, hblk⟩ := canon2_spec avs sts 0 as bs us [] hcan hr rfl
  have hh : RH w.heap.size w E bs w := by
    refine ⟨Below.refl _ _, Nat.le_refl _, hL, hE, fun i b e hi he _ => ?_, fun i j bi bj ei ej _ hi _ hei _ _ _ hro => ?_, hnf.frz _ _ _, .none (canon2_li _ _ _ _ _ hcan)⟩
    · obtain ⟨hro, c, fz, h1, h2, h3, h4⟩ := hblk i b e hi he
      exact ⟨c, fz, h1, h2, (fun hf => by rw [hro] at hf; cases hf), ⟨h3, fun _ hf => by rw [hro] at hf; cases hf⟩, h4 E⟩
    · obtain ⟨hro', _⟩ := hblk i bi ei hi hei
      rw [hro] at hro'; cases hro'
  refine (run_sound hm hT hF hf hrun hh (by simpa using hra) (fun r hp' hr => by obtain ⟨v, hv, _⟩ := resW_spec hr; exact ⟨v, hv⟩)).mono ?_
  rintro e w' ⟨v', hp', E', u', rfl, hk, _, hrv, hrh⟩
  exact ⟨by rw [toW_RV hk hrv], hrh.below⟩

/-- A contract under a condition, out of runs. -/
theorem conP_of_runW {P : Program} {T : Tab} {F : Fns} (hm : P.follows .mixedOrders = true) (hT : TabOk P T) (hF : FnsOk P F) {f : FuncId} {fn : Func} (hf : P.funcs[f]? = some fn)
    (hcall : ∀ (vs : Array Value) (w : World), (callFunc f vs).run P w = .ok (.enter f vs) w) {G : List ArgV → Option (Prop × Value)}
    (h : ∀ (avs : List ArgV) (p : Prop) (u : Value), G avs = some (p, u) → p → ∃ sts n orc as bs, canon2 sts avs 0 = some (as, bs) ∧ runK P T F n fn as bs orc (fun r _ => resW r = some u)) : ConP P f G := by
  refine ⟨hcall, fun avs p u hG hp => ?_⟩
  have hc : ∀ (w : World) us, LaidW w.heap.size w → ARs w avs us → Calls P f us.toArray w fun e w' => e = .returned u ∧ Below w.heap.size w w' := by
    obtain ⟨sts, n, orc, as, bs, hcan, hrun⟩ := h avs p u hG hp
    intro w us hL hr
    obtain ⟨E, hE, hnf, hra, hblk⟩ := canon2_spec avs sts 0 as bs us [] hcan hr rfl
    have hh : RH w.heap.size w E bs w := by
      refine ⟨Below.refl _ _, Nat.le_refl _, hL, hE, fun i b e hi he _ => ?_, fun i j bi bj ei ej _ hi _ hei _ _ _ hro => ?_, hnf.frz _ _ _, .none (canon2_li _ _ _ _ _ hcan)⟩
      · obtain ⟨hro, c, fz, h1, h2, h3, h4⟩ := hblk i b e hi he
        exact ⟨c, fz, h1, h2, (fun hf => by rw [hro] at hf; cases hf), ⟨h3, fun _ hf => by rw [hro] at hf; cases hf⟩, h4 E⟩
      · obtain ⟨hro', _⟩ := hblk i bi ei hi hei
        rw [hro] at hro'; cases hro'
    refine (run_sound hm hT hF hf hrun hh (by simpa using hra) (fun r hp' hr => by obtain ⟨v, hv, _⟩ := resW_spec hr; exact ⟨v, hv⟩)).mono ?_
    rintro e w' ⟨v', hp', E', u', rfl, hk, _, hrv, hrh⟩
    exact ⟨by rw [toW_RV hk hrv], hrh.below⟩
  exact hc

/-- What is asked on the way, one behind the other, and what is left. -/
def obsP : List Prop → Prop → Prop
  | [], q => q
  | p :: l, q => p ∧ obsP l q

theorem obsP_of : ∀ (l : List Prop) (q : Prop), (∀ p ∈ l, p) → q → obsP l q
  | [], _, _, hq => hq
  | p :: l, q, h, hq => ⟨h p (by simp), obsP_of l q (fun p hp => h p (by simp [hp])) hq⟩

/-- Whole numbers of a kind. -/
def intsK {α : Type} (k : IntKind) : List Value → (List Int → Option α) → Option α
  | [], f => f []
  | .int k' n :: l, f => if k' = k then intsK k l fun xs => f (n :: xs) else none
  | _ :: _, _ => none

theorem intsK_spec {α : Type} {k : IntKind} : ∀ (cs : List Value) (f : List Int → Option α) (u : α), intsK k cs f = some u → ∃ xs : List Int, cs = xs.map (Value.int k) ∧ f xs = some u
  | [], f, u, h => ⟨[], rfl, h⟩
  | c :: l, f, u, h => by
    unfold intsK at h
    split at h
    · cases ‹_ = []›
    · rename_i k' n l' e
      obtain ⟨rfl, rfl⟩ := List.cons.inj e
      split at h
      · rename_i hk
        subst hk
        obtain ⟨xs, rfl, hk⟩ := intsK_spec _ _ u h
        exact ⟨n :: xs, rfl, hk⟩
      · cases h
    · cases h

/-- Floats of a kind. -/
def fltsK {α : Type} (k : FloatKind) : List Value → (List Nat → Option α) → Option α
  | [], f => f []
  | .float k' n :: l, f => if k' = k then fltsK k l fun xs => f (n :: xs) else none
  | _ :: _, _ => none

theorem fltsK_spec {α : Type} {k : FloatKind} : ∀ (cs : List Value) (f : List Nat → Option α) (u : α), fltsK k cs f = some u → ∃ xs : List Nat, cs = xs.map (Value.float k) ∧ f xs = some u
  | [], f, u, h => ⟨[], rfl, h⟩
  | c :: l, f, u, h => by
    unfold fltsK at h
    split at h
    · cases ‹_ = []›
    · rename_i k' n l' e
      obtain ⟨rfl, rfl⟩ := List.cons.inj e
      split at h
      · rename_i hk
        subst hk
        obtain ⟨xs, rfl, hk⟩ := fltsK_spec _ _ u h
        exact ⟨n :: xs, rfl, hk⟩
      · cases h
    · cases h

/-- As many numbers as there are to be, as a function of the place. -/
def vecN {α : Type} (n : Nat) (f : (Nat → Int) → Option α) (xs : List Int) : Option α := if xs.length = n then f (fun i => xs.getD i 0) else none

def valsK (k : IntKind) (n : Nat) (b : Nat → Int) : List Value := (List.range n).map fun i => .int k (b i)

def cellsK (k : IntKind) (st : Bool) (n : Nat) (b : Nat → Int) : List C1 := (List.range n).map fun i => .sc (.int k (b i)) st

theorem valsK_of {k : IntKind} {n : Nat} (xs : List Int) (h : xs.length = n) : xs.map (Value.int k) = valsK k n (fun i => xs.getD i 0) := by
  conv => lhs; rw [list_of_fn xs n h]
  simp [valsK]

theorem vecN_spec {α : Type} {n : Nat} {k : IntKind} {f : (Nat → Int) → Option α} {xs : List Int} {u : α} (h : vecN n f xs = some u) : ∃ b : Nat → Int, xs.map (Value.int k) = valsK k n b ∧ f b = some u := by
  unfold vecN at h
  split at h
  · rename_i hl
    exact ⟨_, valsK_of xs hl, h⟩
  · cases h

/-- An array of numbers, opened. -/
theorem arrK_spec {α : Type} {n : Nat} {k : IntKind} {f : (Nat → Int) → Option α} {cs : List Value} {u : α} (h : intsK k cs (vecN n f) = some u) : ∃ b : Nat → Int, cs = valsK k n b ∧ f b = some u := by
  obtain ⟨xs, hx, h2⟩ := intsK_spec _ _ _ h
  rw [hx]
  exact vecN_spec h2

/-- The same of an array by value. -/
theorem arrA_spec {α : Type} {n : Nat} {k : IntKind} {f : (Nat → Int) → Option α} {cs : Array Value} {u : α} (h : intsK k cs.toList (vecN n f) = some u) : ∃ b : Nat → Int, cs = (valsK k n b).toArray ∧ f b = some u := by
  obtain ⟨b, hb, h2⟩ := arrK_spec h
  exact ⟨b, by apply Array.ext'; rw [hb], h2⟩

/-! ### numbers that a kind holds -/

theorem w64 {x : Int} (h1 : -9223372036854775808 ≤ x) (h2 : x ≤ 9223372036854775807) : IntKind.i64.wrap x = x := by
  simp only [IntKind.wrap, IntKind.bits, IntKind.signed]; simp; split <;> omega

theorem w32 {x : Int} (h1 : -2147483648 ≤ x) (h2 : x ≤ 2147483647) : IntKind.i32.wrap x = x := by
  simp only [IntKind.wrap, IntKind.bits, IntKind.signed]; simp; split <;> omega

theorem w16 {x : Int} (h1 : -32768 ≤ x) (h2 : x ≤ 32767) : IntKind.i16.wrap x = x := by
  simp only [IntKind.wrap, IntKind.bits, IntKind.signed]; simp; split <;> omega

theorem wu8 {x : Int} (h1 : 0 ≤ x) (h2 : x ≤ 255) : IntKind.u8.wrap x = x := by
  simp only [IntKind.wrap, IntKind.bits, IntKind.signed]; simp; omega

theorem wu16 {x : Int} (h1 : 0 ≤ x) (h2 : x ≤ 65535) : IntKind.u16.wrap x = x := by
  simp only [IntKind.wrap, IntKind.bits, IntKind.signed]; simp; omega

theorem wf_i32 {x : Int} (h : (Lit.int .i32 x).wf = true) : -2147483648 ≤ x ∧ x ≤ 2147483647 := by
  simpa [Lit.wf, IntKind.min, IntKind.max, IntKind.signed, IntKind.bits] using h

theorem wf_i16 {x : Int} (h : (Lit.int .i16 x).wf = true) : -32768 ≤ x ∧ x ≤ 32767 := by
  simpa [Lit.wf, IntKind.min, IntKind.max, IntKind.signed, IntKind.bits] using h

theorem wf_u16 {x : Int} (h : (Lit.int .u16 x).wf = true) : 0 ≤ x ∧ x ≤ 65535 := by
  simpa [Lit.wf, IntKind.min, IntKind.max, IntKind.signed, IntKind.bits] using h

theorem wf_at {k : IntKind} {xs : List Int} {n : Nat} (hl : xs.length = n) (h : ∀ x ∈ xs, (Lit.int k x).wf = true) {i : Nat} (hi : i < n) : (Lit.int k (xs.getD i 0)).wf = true := by
  refine h _ ?_
  rw [List.getD_eq_getElem?_getD, List.getElem?_eq_getElem (by omega)]
  exact List.getElem_mem _

/-- Two functions alike at so many places. -/
def eqN (f g : Nat → Int) : Nat → Nat → Bool
  | 0, _ => true
  | n + 1, i => (f i == g i) && eqN f g n (i + 1)

theorem eqN_of {f g : Nat → Int} : ∀ (n i : Nat), (∀ j, j < i + n → f j = g j) → eqN f g n i = true
  | 0, _, _ => rfl
  | n + 1, i, h => by
    simp only [eqN, Bool.and_eq_true, beq_iff_eq]
    exact ⟨h i (by omega), eqN_of n (i + 1) fun j hj => h j (by omega)⟩

theorem eqN_same (f : Nat → Int) (n : Nat) : eqN f f n 0 = true := eqN_of n 0 fun _ _ => rfl

end Sm
namespace Sm
open Go Go.RowKit

section ext
variable {P : Program} {f : FuncId} {fn : Func}

def GBits : List Value → Option (Option Prop × Value)
  | [.float .f64 b] => some (none, .int .u64 b)
  | _ => none

theorem ext_bits (hf : P.funcs[f]? = some fn) (hname : (fn.name == "runtime.NumGoroutine") = false) (hb : fn.body.isNone = true) (hn : Extern.findNext fn = none) (he : Extern.find fn = some Extern.MathFloatBits.float64bits) :
    ∀ (vs : List Value) (p : Option Prop) (u : Value), GBits vs = some (p, u) → (∀ q, p = some q → q) → ∀ w, (callFunc f vs.toArray).run P w = .ok (.value u) w := by
  intro vs p u h _ w
  unfold GBits at h
  split at h
  · simp only [Option.some.injEq, Prod.mk.injEq] at h
    obtain ⟨_, rfl⟩ := h
    rw [run_callFunc_extern hf hname hb hn he]
    rfl
  · cases h

def GFrom : List Value → Option (Option Prop × Value)
  | [.int .u64 n] => some (none, .float .f64 n.toNat)
  | _ => none

theorem ext_from (hf : P.funcs[f]? = some fn) (hname : (fn.name == "runtime.NumGoroutine") = false) (hb : fn.body.isNone = true) (hn : Extern.findNext fn = none) (he : Extern.find fn = some Extern.MathFloatBits.float64frombits) :
    ∀ (vs : List Value) (p : Option Prop) (u : Value), GFrom vs = some (p, u) → (∀ q, p = some q → q) → ∀ w, (callFunc f vs.toArray).run P w = .ok (.value u) w := by
  intro vs p u h _ w
  unfold GFrom at h
  split at h
  · simp only [Option.some.injEq, Prod.mk.injEq] at h
    obtain ⟨_, rfl⟩ := h
    rw [run_callFunc_extern hf hname hb hn he]
    rfl
  · cases h

/-- The whole part of a float. -/
def wholeF (way : Ieee.Toward) (x : Nat) : Nat := FloatKind.f64.encode ((FloatKind.f64.decode x).integral way)

def numF (x : Nat) : Bool := !(FloatKind.f64.decode x).isNaN

def GWhole (way : Ieee.Toward) : List Value → Option (Option Prop × Value)
  | [.float .f64 x] => some (some (numF x = true), .float .f64 (wholeF way x))
  | _ => none

theorem whole_eq (name : String) (way : Ieee.Toward) (x : Nat) : ∃ g : Bool → Nat → Sem Value, Extern.MathFloor.toIntegral name way #[.float .f64 x] = (match FloatKind.f64.decode x with
    | .nan s t => g s t
    | d => pure (.float .f64 (FloatKind.f64.encode (d.integral way)))) := ⟨_, rfl⟩

theorem root_eq (x : Nat) : ∃ g : Sem Value, Extern.MathSqrt.sqrt #[.float .f64 x] = (match FloatKind.f64.format.sqrt x with
    | some r => pure (.float .f64 r)
    | none => g) := ⟨_, rfl⟩

theorem ext_whole {name : String} {way : Ieee.Toward} (hf : P.funcs[f]? = some fn) (hname : (fn.name == "runtime.NumGoroutine") = false) (hb : fn.body.isNone = true) (hn : Extern.findNext fn = none) (he : Extern.find fn = some (Extern.MathFloor.toIntegral name way)) :
    ∀ (vs : List Value) (p : Option Prop) (u : Value), GWhole way vs = some (p, u) → (∀ q, p = some q → q) → ∀ w, (callFunc f vs.toArray).run P w = .ok (.value u) w := by
  intro vs p u h hp w
  unfold GWhole at h
  split at h
  · rename_i x
    simp only [Option.some.injEq, Prod.mk.injEq] at h
    obtain ⟨rfl, rfl⟩ := h
    have hn1 := hp _ rfl
    unfold numF at hn1
    rw [run_callFunc_extern hf hname hb hn he]
    obtain ⟨g, hg⟩ := whole_eq name way x
    rw [show [Value.float .f64 x].toArray = #[.float .f64 x] from rfl, hg]
    unfold wholeF
    cases hd : FloatKind.f64.decode x with
    | nan s t => rw [hd] at hn1; simp [Ieee.Datum.isNaN] at hn1
    | number s m e => rfl
    | infinity s => rfl
  · cases h

/-- The root of a float. -/
def rootF (x : Nat) : Nat := (FloatKind.f64.format.sqrt x).getD 0

def GRoot : List Value → Option (Option Prop × Value)
  | [.float .f64 x] => some (some ((FloatKind.f64.format.sqrt x).isSome = true), .float .f64 (rootF x))
  | _ => none

theorem ext_root (hf : P.funcs[f]? = some fn) (hname : (fn.name == "runtime.NumGoroutine") = false) (hb : fn.body.isNone = true) (hn : Extern.findNext fn = none) (he : Extern.find fn = some Extern.MathSqrt.sqrt) :
    ∀ (vs : List Value) (p : Option Prop) (u : Value), GRoot vs = some (p, u) → (∀ q, p = some q → q) → ∀ w, (callFunc f vs.toArray).run P w = .ok (.value u) w := by
  intro vs p u h hp w
  unfold GRoot at h
  split at h
  · rename_i x
    simp only [Option.some.injEq, Prod.mk.injEq] at h
    obtain ⟨rfl, rfl⟩ := h
    obtain ⟨r, hr⟩ := Option.isSome_iff_exists.1 (hp _ rfl)
    rw [run_callFunc_extern hf hname hb hn he]
    obtain ⟨g, hg⟩ := root_eq x
    rw [show [Value.float .f64 x].toArray = #[.float .f64 x] from rfl, hg]
    unfold rootF
    rw [hr]
    rfl
  · cases h

end ext
end Sm
