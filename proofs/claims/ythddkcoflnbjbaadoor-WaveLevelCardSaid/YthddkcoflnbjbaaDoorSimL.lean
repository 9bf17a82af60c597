/-
  What is proved here: contracts of Go functions, told by plain functions of values, out of abstract runs; and a table of contracts out of contracts. A text to be imported.
-/
import Derived.Test.YthddkcoflnbjbaaDoorSimK
namespace Sm
open Go Go.RowKit

/-- An argument as a contract sees it: a value without memory; a pointer to the first cell of a block that holds such values. -/
inductive ArgV where
  | val (v : Value)
  | mem (e : TypeId) (cells : List Value)
  | sli (e : TypeId) (cells : List Value) (off len sz : Nat)

def viewA (hp : List Blk) : AV → Option ArgV
  | .one (.ptr i 0) => match liveB hp i with
    | some b => (allV b.cells).map (.mem b.elem)
    | none => none
  | .one (.sl i off len sz) => match liveB hp i with
    | some b => (allV b.cells).map (.sli b.elem · off len sz)
    | none => none
  | a => match a.toV with
    | some v => some (.val v)
    | none => none

def viewS (hp : List Blk) : AV → Bool
  | .one (.ptr i 0) => match liveB hp i with
    | some b => b.cells.all C1.static
    | none => false
  | .one (.sl i _ _ _) => match liveB hp i with
    | some b => b.cells.all C1.static
    | none => false
  | a => a.static

def viewsA (hp : List Blk) : List AV → Option (List ArgV)
  | [] => some []
  | a :: l => match viewA hp a, viewsA hp l with
    | some v, some vs => some (v :: vs)
    | _, _ => none

def partW (st : Bool) : Value → Option (Bool × List C1)
  | .agg vs => if vs.toList.all oneC then some (true, vs.toList.map fun v => .sc v st) else none
  | .tuple _ => none
  | v => some (false, [.sc v st])

def partsW (st : Bool) : List Value → Option (List (Bool × List C1))
  | [] => some []
  | v :: l => match partW st v, partsW st l with
    | some p, some ps => some (p :: ps)
    | _, _ => none

def ofW (u : Value) (st : Bool) : Option AV :=
  match u with
  | .tuple vs => (partsW st vs.toList).map .tup
  | u => ofV u st

theorem partW_RP {E : Env} {st : Bool} {v : Value} {p : Bool × List C1} (h : partW st v = some p) : RP E p v ∧ partV p = some v := by
  unfold partW at h
  split at h
  · rename_i vs
    split at h
    · rename_i hall
      simp only [Option.some.injEq] at h; subst h
      have h1 : ∀ v ∈ vs.toList, v.oneCell' = true := fun v hv => by rw [← oneC_eq]; exact List.all_eq_true.1 hall v hv
      refine ⟨⟨vs.toList, by simp, RCs_scs h1⟩, ?_⟩
      have : ∀ l : List Value, allV (l.map fun v => C1.sc v st) = some l := by
        intro l
        induction l with
        | nil => rfl
        | cons x l ih => simp [allV, C1.toV, ih]
      simp only [partV, this, Option.map_some]
    · cases h
  · cases h
  · rename_i h1 h2
    simp only [Option.some.injEq] at h; subst h
    refine ⟨⟨_, rfl, rfl, ?_⟩, rfl⟩
    cases v <;> first | rfl | exact absurd rfl (h1 _) | exact absurd rfl (h2 _)

theorem partsW_spec {E : Env} {st : Bool} : ∀ (vs : List Value) (ps : List (Bool × List C1)), partsW st vs = some ps → allP ps = some vs ∧ ps.length = vs.length ∧ ∀ (j : Nat) (p : Bool × List C1) (v : Value), ps[j]? = some p → vs[j]? = some v → RP E p v
  | [], ps, h => by simp only [partsW, Option.some.injEq] at h; subst h; simp [allP]
  | v :: l, ps, h => by
    simp only [partsW] at h
    split at h
    · rename_i p qs hp hqs
      simp only [Option.some.injEq] at h; subst h
      obtain ⟨i1, i2, i3⟩ := partsW_spec l qs hqs
      obtain ⟨h1, h2⟩ := partW_RP (E := E) hp
      refine ⟨by simp [allP, h2, i1], by simp [i2], fun j p' v' hj hv => ?_⟩
      cases j with
      | zero => simp at hj hv; subst hj; subst hv; exact h1
      | succ j => simp at hj hv; exact i3 j p' v' hj hv
    · cases h

theorem ofV_toW {v : Value} {st : Bool} {a : AV} (h : ofV v st = some a) : a.toW = some v := by
  unfold ofV at h
  split at h
  · rename_i vs
    split at h
    · simp only [Option.some.injEq] at h; subst h
      have : ∀ l : List Value, allV (l.map fun v => C1.sc v st) = some l := by
        intro l
        induction l with
        | nil => rfl
        | cons x l ih => simp [allV, C1.toV, ih]
      simp only [AV.toW, AV.toV, this, Option.map_some]
    · cases h
  · cases h
  · simp only [Option.some.injEq] at h; subst h; rfl

theorem ofW_spec {u : Value} {st : Bool} {a : AV} (h : ofW u st = some a) : a.toW = some u ∧ ∀ E, RV E a u := by
  unfold ofW at h
  split at h
  · rename_i vs
    simp only [Option.map_eq_some_iff] at h
    obtain ⟨ps, hps, rfl⟩ := h
    refine ⟨?_, fun E => ?_⟩
    · obtain ⟨i1, _⟩ := partsW_spec (E := []) _ _ hps
      simp only [AV.toW, i1, Option.map_some]
    · obtain ⟨_, i2, i3⟩ := partsW_spec (E := E) _ _ hps
      exact ⟨vs.toList, by simp, i2, i3⟩
  · exact ⟨ofV_toW h, fun E => ofV_RV h⟩

/-- An argument as the model has it. -/
def AR (w : World) : ArgV → Value → Prop
  | .val v, u => u = v
  | .mem e cells, u => ∃ b o c fz, u = .pointer (some ⟨b, o + 0, none⟩) ∧ w.heap[b]? = some (.cells c e fz) ∧ o ≤ c.size ∧ cells.length ≤ c.size - o ∧ (c.toList.drop o).take cells.length = cells ∧ ∀ v ∈ cells, v.oneCell' = true
  | .sli e cells off len sz, u => ∃ b o c fz cap, u = .slice (some ⟨b, o + off, none⟩) len cap ∧ w.heap[b]? = some (.cells c e fz) ∧ o ≤ c.size ∧ cells.length ≤ c.size - o ∧ (c.toList.drop o).take cells.length = cells ∧ (∀ v ∈ cells, v.oneCell' = true) ∧ len ≤ cap ∧ cap ≤ maxLen ∧ off + cap * sz ≤ c.size - o

def ARs (w : World) (avs : List ArgV) (us : List Value) : Prop :=
  avs.length = us.length ∧ ∀ (j : Nat) (v : ArgV) (u : Value), avs[j]? = some v → us[j]? = some u → AR w v u

/-- A contract: whatever the arguments, where the function 'G' tells a value the call hands it back, and nothing that was there has turned. -/
def Con (P : Program) (f : FuncId) (G : List ArgV → Option Value) : Prop :=
  (∀ (vs : Array Value) (w : World), (callFunc f vs).run P w = .ok (.enter f vs) w) ∧
  ∀ (avs : List ArgV) (u : Value), G avs = some u → ∀ (w : World) (us : List Value), LaidW w.heap.size w → ARs w avs us → Calls P f us.toArray w fun e w' => e = .returned u ∧ Below w.heap.size w w'

theorem viewA_AR {B : Nat} {w0 : World} {E : Env} {hp : List Blk} {w : World} (hh : RH B w0 E hp w) {a : AV} {av : ArgV} {u : Value} (h : viewA hp a = some av) (hr : RV E a u) : AR w av u := by
  unfold viewA at h
  split at h
  · rename_i i
    split at h
    · rename_i b hb
      simp only [Option.map_eq_some_iff] at h
      obtain ⟨vs, hvs, rfl⟩ := h
      obtain ⟨hi, hl⟩ := liveB_some hb
      obtain ⟨e, he, rfl⟩ := hr
      obtain ⟨c, fz, hc, h1, _, h3, h4⟩ := hh.blk i b e hi he hl
      have hv := toV_RCs hvs h4
      have hlen : vs.length = b.cells.length := (allV_spec _ _ hvs).1.symm
      exact ⟨e.b, e.o, c, fz, rfl, hc, by omega, by omega, by rw [hlen]; exact hv, by rw [← hv]; exact h4.ones⟩
    · cases h
  · rename_i i off len sz
    split at h
    · rename_i b hb
      simp only [Option.map_eq_some_iff] at h
      obtain ⟨vs, hvs, rfl⟩ := h
      obtain ⟨hi, hl⟩ := liveB_some hb
      obtain ⟨e, cap, he, rfl, hl1, hl2, hl3⟩ := hr
      obtain ⟨c, fz, hc, h1, _, h3, h4⟩ := hh.blk i b e hi he hl
      have hv := toV_RCs hvs h4
      have hlen : vs.length = b.cells.length := (allV_spec _ _ hvs).1.symm
      exact ⟨e.b, e.o, c, fz, cap, rfl, hc, by omega, by omega, by rw [hlen]; exact hv, by rw [← hv]; exact h4.ones, hl1, hl2, by omega⟩
    · cases h
  · split at h
    · rename_i v hv
      simp only [Option.some.injEq] at h; subst h
      exact toV_RV hv hr
    · cases h

theorem viewsA_ARs {B : Nat} {w0 : World} {E : Env} {hp : List Blk} {w : World} (hh : RH B w0 E hp w) : ∀ (args : List AV) (avs : List ArgV) (us : List Value), viewsA hp args = some avs → RA E args us → ARs w avs us
  | [], avs, us, h, hr => by
    simp only [viewsA, Option.some.injEq] at h; subst h
    exact ⟨hr.1, by simp⟩
  | a :: l, avs, us, h, hr => by
    simp only [viewsA] at h
    split at h
    · rename_i v vs hv hvs
      simp only [Option.some.injEq] at h; subst h
      cases us with
      | nil => have := hr.1; simp at this
      | cons u us =>
        have h0 := viewA_AR hh hv (hr.2 0 a u rfl rfl)
        obtain ⟨i1, i2⟩ := viewsA_ARs hh l vs us hvs ⟨by have := hr.1; simpa using this, fun j v' u' h1 h2 => hr.2 (j + 1) v' u' (by simpa using h1) (by simpa using h2)⟩
        refine ⟨by simp [i1], fun j v' u' h1 h2 => ?_⟩
        cases j with
        | zero => simp at h1 h2; subst h1; subst h2; exact h0
        | succ j => simp at h1 h2; exact i2 j v' u' h1 h2
    · cases h

/-- No contract at all. -/
def Fns.none : Fns := { pure := fun _ _ _ => .none, pre := fun _ _ _ => .none, ext := fun _ _ => .none, gen := fun _ _ _ => .none, loops := fun _ => .none, pr := .none }

theorem FnsOk.none {P : Program} : FnsOk P Fns.none := ⟨(fun _ h => by cases h), (fun _ _ _ _ h => by cases h), (fun _ _ _ _ _ h => by cases h), (fun _ _ _ _ h => by cases h), (fun _ _ _ _ _ h => by cases h), (fun _ _ _ _ _ _ h => by cases h), (fun _ _ _ _ h => False.elim h), (fun _ _ _ h => by cases h)⟩

/-- One contract more. -/
def Fns.add (F : Fns) (f : FuncId) (G : List ArgV → Option Value) : Fns :=
  { F with pure := fun g args hp => match Nat.beq g f with
      | true => match viewsA hp args with
        | some avs => match G avs with
          | some u => ofW u (args.all (viewS hp))
          | .none => .none
        | .none => .none
      | false => F.pure g args hp }

theorem FnsOk.add {P : Program} {F : Fns} {f : FuncId} {G : List ArgV → Option Value} (hF : FnsOk P F) (hc : Con P f G) : FnsOk P (F.add f G) := by
  refine ⟨hF.pr, fun g args hp v h => ?_, hF.pre, hF.ext, hF.gen, hF.gnp, hF.cal, hF.loops⟩
  simp only [Fns.add] at h
  split at h
  · rename_i hg
    have hg' : g = f := by rw [beq_eq] at hg; simpa using hg
    subst hg'
    split at h
    · rename_i avs havs
      split at h
      · rename_i u hu
        obtain ⟨h1, h2⟩ := ofW_spec h
        exact ⟨hc.1, u, h1, h2, fun B w0 E w us hh hr => hc.2 avs u hu w us hh.laidW (viewsA_ARs hh args avs us havs hr)⟩
      · cases h
    · cases h
  · exact hF.pure g args hp v h

/-- A contract under a condition. -/
def ConP (P : Program) (f : FuncId) (G : List ArgV → Option (Prop × Value)) : Prop :=
  (∀ (vs : Array Value) (w : World), (callFunc f vs).run P w = .ok (.enter f vs) w) ∧
  ∀ (avs : List ArgV) (p : Prop) (u : Value), G avs = some (p, u) → p → ∀ (w : World) (us : List Value), LaidW w.heap.size w → ARs w avs us → Calls P f us.toArray w fun e w' => e = .returned u ∧ Below w.heap.size w w'

/-- One contract under a condition more. -/
def Fns.addP (F : Fns) (f : FuncId) (G : List ArgV → Option (Prop × Value)) : Fns :=
  { F with pre := fun g args hp => match Nat.beq g f with
      | true => match viewsA hp args with
        | some avs => match G avs with
          | some (p, u) => match ofW u (args.all (viewS hp)) with
            | some a => some (p, a)
            | .none => .none
          | .none => .none
        | .none => .none
      | false => F.pre g args hp }

theorem FnsOk.addP {P : Program} {F : Fns} {f : FuncId} {G : List ArgV → Option (Prop × Value)} (hF : FnsOk P F) (hc : ConP P f G) : FnsOk P (F.addP f G) := by
  refine ⟨hF.pr, hF.pure, fun g args hp p v h hp1 => ?_, hF.ext, hF.gen, hF.gnp, hF.cal, hF.loops⟩
  simp only [Fns.addP] at h
  split at h
  · rename_i hg
    have hg' : g = f := by rw [beq_eq] at hg; simpa using hg
    subst hg'
    split at h
    · rename_i avs havs
      split at h
      · rename_i p' u hu
        split at h
        · rename_i a ha
          simp only [Option.some.injEq, Prod.mk.injEq] at h
          obtain ⟨rfl, rfl⟩ := h
          obtain ⟨h1, h2⟩ := ofW_spec ha
          exact ⟨hc.1, u, h1, h2, fun B w0 E w us hh hr => hc.2 avs p' u hu hp1 w us hh.laidW (viewsA_ARs hh args avs us havs hr)⟩
        · cases h
      · cases h
    · cases h
  · exact hF.pre g args hp p v h hp1

def valsA : List AV → Option (List Value)
  | [] => some []
  | a :: l => match a.toV, valsA l with
    | some v, some vs => some (v :: vs)
    | _, _ => none

theorem valsA_RA {E : Env} : ∀ (args : List AV) (vs us : List Value), valsA args = some vs → RA E args us → us = vs
  | [], vs, us, h, hr => by
    simp only [valsA, Option.some.injEq] at h; subst h
    exact List.eq_nil_of_length_eq_zero hr.1.symm
  | a :: l, vs, us, h, hr => by
    simp only [valsA] at h
    split at h
    · rename_i v ws hv hws
      simp only [Option.some.injEq] at h; subst h
      cases us with
      | nil => have := hr.1; simp at this
      | cons u us =>
        rw [toV_RV hv (hr.2 0 a u rfl rfl), valsA_RA l ws us hws ⟨by have := hr.1; simpa using this, fun j v' u' h1 h2 => hr.2 (j + 1) v' u' (by simpa using h1) (by simpa using h2)⟩]
    · cases h

/-- A function without a body. -/
def Fns.addX (F : Fns) (f : FuncId) (G : List Value → Option (Option Prop × Value)) : Fns :=
  { F with ext := fun g args => match Nat.beq g f with
      | true => match valsA args with
        | some vs => match G vs with
          | some (p, u) => match ofV u (args.all AV.static) with
            | some a => some (p, a)
            | .none => .none
          | .none => .none
        | .none => .none
      | false => F.ext g args }

theorem FnsOk.addX {P : Program} {F : Fns} {f : FuncId} {G : List Value → Option (Option Prop × Value)} (hF : FnsOk P F)
    (hc : ∀ (vs : List Value) (p : Option Prop) (u : Value), G vs = some (p, u) → (∀ q, p = some q → q) → ∀ w, (callFunc f vs.toArray).run P w = .ok (.value u) w) : FnsOk P (F.addX f G) := by
  refine ⟨hF.pr, hF.pure, hF.pre, fun g args p v h hp1 => ?_, hF.gen, hF.gnp, hF.cal, hF.loops⟩
  simp only [Fns.addX] at h
  split at h
  · rename_i hg
    have hg' : g = f := by rw [beq_eq] at hg; simpa using hg
    subst hg'
    split at h
    · rename_i vs hvs
      split at h
      · rename_i p' u hu
        split at h
        · rename_i a ha
          simp only [Option.some.injEq, Prod.mk.injEq] at h
          obtain ⟨rfl, rfl⟩ := h
          exact ⟨u, fun E => ofV_RV ha, fun E us hr w => by rw [valsA_RA args vs us hvs hr]; exact hc vs p' u hu hp1 w⟩
        · cases h
      · cases h
    · cases h
  · exact hF.ext g args p v h hp1

/-- A general contract more. -/
def Fns.addGen (F : Fns) (f : FuncId) (G : List AV → List Blk → Option (AV × List Blk)) : Fns :=
  { F with gen := fun g args hp => match Nat.beq g f with
      | true => G args hp
      | false => F.gen g args hp }

/-- A contract of a loop more. -/
def Fns.addLoop (F : Fns) (k : Nat) (c : Code) (g : Tm → List Blk → Option (Prop × Ex × Tm × List Blk)) : Fns :=
  { F with loops := fun j => match Nat.beq j k with
      | true => some (c, g)
      | false => F.loops j }

/-! ### contracts out of runs -/

/-- The arguments of a run, and its memory: blocks that are only read. -/
def canon (st : Bool) : List ArgV → Nat → Option (List AV × List Blk)
  | [], _ => some ([], [])
  | .val v :: l, k => match ofV v st, canon st l k with
    | some a, some (as, bs) => some (a :: as, bs)
    | _, _ => none
  | .mem e cs :: l, k => match canon st l (k + 1) with
    | some (as, bs) => some (.one (.ptr k 0) :: as, { body := .li (cs.map fun v => .sc v st), elem := e, live := true, ro := true } :: bs)
    | none => none
  | .sli e cs off len sz :: l, k => match canon st l (k + 1) with
    | some (as, bs) => some (.one (.sl k off len sz) :: as, { body := .li (cs.map fun v => .sc v st), elem := e, live := true, ro := true } :: bs)
    | none => none

theorem canon_spec {w : World} {st : Bool} : ∀ (avs : List ArgV) (k : Nat) (as : List AV) (bs : List Blk) (us : List Value) (pre : List EB), canon st avs k = some (as, bs) → ARs w avs us → pre.length = k →
    ∃ E : List EB, E.length = bs.length ∧ NoFz E ∧ RA (pre ++ E) as us ∧ ∀ (i : Nat) (b : Blk) (e : EB), bs[i]? = some b → E[i]? = some e →
      b.ro = true ∧ ∃ c fz, w.heap[e.b]? = some (.cells c b.elem fz) ∧ c.size = e.o + e.n ∧ b.cells.length ≤ e.n ∧ ∀ E', RCs E' b.cells ((c.toList.drop e.o).take b.cells.length)
  | [], k, as, bs, us, pre, h, hr, _ => by
    simp only [canon, Option.some.injEq, Prod.mk.injEq] at h
    obtain ⟨rfl, rfl⟩ := h
    exact ⟨[], rfl, .nil, ⟨hr.1, by simp⟩, by simp⟩
  | .val v :: l, k, as, bs, us, pre, h, hr, hk => by
    simp only [canon] at h
    split at h
    · rename_i a as' bs' ha hrest
      simp only [Option.some.injEq, Prod.mk.injEq] at h
      obtain ⟨rfl, rfl⟩ := h
      cases us with
      | nil => have := hr.1; simp at this
      | cons u us =>
        have h0 : u = v := hr.2 0 (.val v) u rfl rfl
        subst h0
        obtain ⟨E, hE, hnf, hra, hblk⟩ := canon_spec l k as' bs' us pre hrest ⟨by have := hr.1; simpa using this, fun j v' u' h1 h2 => hr.2 (j + 1) v' u' (by simpa using h1) (by simpa using h2)⟩ hk
        refine ⟨E, hE, hnf, ⟨by simp [hra.1], fun j v' u' h1 h2 => ?_⟩, hblk⟩
        cases j with
        | zero => simp at h1 h2; subst h1; subst h2; exact ofV_RV ha
        | succ j => simp at h1 h2; exact hra.2 j v' u' h1 h2
    · cases h
  | .mem e cs :: l, k, as, bs, us, pre, h, hr, hk => by
    simp only [canon] at h
    split at h
    · rename_i as' bs' hrest
      simp only [Option.some.injEq, Prod.mk.injEq] at h
      obtain ⟨rfl, rfl⟩ := h
      cases us with
      | nil => have := hr.1; simp at this
      | cons u us =>
        obtain ⟨b, o, c, fz, rfl, hc, h0, h1, h2, h3⟩ : AR w (.mem e cs) u := hr.2 0 (.mem e cs) u rfl rfl
        obtain ⟨E, hE, hnf, hra, hblk⟩ := canon_spec l (k + 1) as' bs' us (pre ++ [EB.at b o (c.size - o)]) hrest ⟨by have := hr.1; simpa using this, fun j v' u' h1 h2 => hr.2 (j + 1) v' u' (by simpa using h1) (by simpa using h2)⟩ (by simp [hk])
        have happ : pre ++ (EB.at b o (c.size - o) :: E) = pre ++ [EB.at b o (c.size - o)] ++ E := by simp
        refine ⟨EB.at b o (c.size - o) :: E, by simp [hE], hnf.cons _ _ _, ⟨by simp [hra.1], fun j v' u' hj hu => ?_⟩, fun i b' e' hi he => ?_⟩
        · rw [happ]
          cases j with
          | zero =>
            simp at hj hu; subst hj; subst hu
            refine ⟨EB.at b o (c.size - o), ?_, rfl⟩
            rw [List.append_assoc, List.getElem?_append_right (by omega), hk, Nat.sub_self]
            rfl
          | succ j => simp at hj hu; exact hra.2 j v' u' hj hu
        · cases i with
          | zero =>
            simp at hi he; subst hi; subst he
            refine ⟨rfl, c, fz, hc, by simp only [EB.at_o, EB.at_n]; omega, by simpa using h1, fun E' => ?_⟩
            simp only [Blk.cells_li, List.length_map, EB.at_o, h2]
            exact RCs_scs h3
          | succ i => simp at hi he; exact hblk i b' e' hi he
    · cases h
  | .sli e cs off len sz :: l, k, as, bs, us, pre, h, hr, hk => by
    simp only [canon] at h
    split at h
    · rename_i as' bs' hrest
      simp only [Option.some.injEq, Prod.mk.injEq] at h
      obtain ⟨rfl, rfl⟩ := h
      cases us with
      | nil => have := hr.1; simp at this
      | cons u us =>
        obtain ⟨b, o, c, fz, cap, rfl, hc, h0, h1, h2, h3, hl1, hl2, hl3⟩ : AR w (.sli e cs off len sz) u := hr.2 0 (.sli e cs off len sz) u rfl rfl
        obtain ⟨E, hE, hnf, hra, hblk⟩ := canon_spec l (k + 1) as' bs' us (pre ++ [EB.at b o (c.size - o)]) hrest ⟨by have := hr.1; simpa using this, fun j v' u' h1 h2 => hr.2 (j + 1) v' u' (by simpa using h1) (by simpa using h2)⟩ (by simp [hk])
        have happ : pre ++ (EB.at b o (c.size - o) :: E) = pre ++ [EB.at b o (c.size - o)] ++ E := by simp
        refine ⟨EB.at b o (c.size - o) :: E, by simp [hE], hnf.cons _ _ _, ⟨by simp [hra.1], fun j v' u' hj hu => ?_⟩, fun i b' e' hi he => ?_⟩
        · rw [happ]
          cases j with
          | zero =>
            simp at hj hu; subst hj; subst hu
            refine ⟨EB.at b o (c.size - o), cap, ?_, rfl, hl1, hl2, hl3⟩
            rw [List.append_assoc, List.getElem?_append_right (by omega), hk, Nat.sub_self]
            rfl
          | succ j => simp at hj hu; exact hra.2 j v' u' hj hu
        · cases i with
          | zero =>
            simp at hi he; subst hi; subst he
            refine ⟨rfl, c, fz, hc, by simp only [EB.at_o, EB.at_n]; omega, by simpa using h1, fun E' => ?_⟩
            simp only [Blk.cells_li, List.length_map, EB.at_o, h2]
            exact RCs_scs h3
          | succ i => simp at hi he; exact hblk i b' e' hi he
    · cases h

/-- A contract out of runs. -/
theorem con_of_run {P : Program} {T : Tab} {F : Fns} (hm : P.follows .mixedOrders = true) (hT : TabOk P T) (hF : FnsOk P F) {f : FuncId} {fn : Func} (hf : P.funcs[f]? = some fn)
    (hcall : ∀ (vs : Array Value) (w : World), (callFunc f vs).run P w = .ok (.enter f vs) w) {G : List ArgV → Option Value}
    (h : ∀ (avs : List ArgV) (u : Value), G avs = some u → ∃ st n orc v as bs, canon st avs 0 = some (as, bs) ∧ v.toW = some u ∧ runK P T F n fn as bs orc (fun r _ => r = some v)) : Con P f G := by
  refine ⟨hcall, fun avs u hG w us hL hr => ?_⟩
  obtain ⟨st, n, orc, v, as, bs, hcan, hv, hrun⟩ := h avs u hG
  obtain ⟨E, hE, hnf, hra, hblk⟩ := canon_spec avs 0 as bs us [] hcan hr rfl
  have hh : RH w.heap.size w E bs w := by
    refine ⟨Below.refl _ _, Nat.le_refl _, hL, hE, fun i b e hi he _ => ?_, fun i j bi bj ei ej _ hi _ hei _ _ _ hro => ?_, hnf.frz _ _ _⟩
    · obtain ⟨hro, c, fz, h1, h2, h3, h4⟩ := hblk i b e hi he
      exact ⟨c, fz, h1, h2, (fun hf => by rw [hro] at hf; cases hf), h3, h4 E⟩
    · obtain ⟨hro', _⟩ := hblk i bi ei hi hei
      rw [hro] at hro'; cases hro'
  refine (run_sound hm hT hF hf hrun hh (by simpa using hra) (fun r hp' hr => ⟨v, hr⟩)).mono ?_
  rintro e w' ⟨v', hp', E', u', rfl, hk, _, hrv, hrh⟩
  simp only [Option.some.injEq] at hk
  subst hk
  exact ⟨by rw [toW_RV hv hrv], hrh.below⟩

end Sm
