/-
  What is proved here: contracts of Go functions, told by plain functions of values, out of abstract runs; and a table of contracts out of contracts. a contract for a function that hands back a new slice; the last steps of a row (what the arguments read as behind the call). a law out of its abstract run; arrays of whole numbers among a law's arguments, opened. A text to be imported.
-/
import Derived.Test.YtgpbpgbokfdbeaaDoorSimJ
import Derived.ProofKit
import Derived.OpenShut
import Derived.ShutString
import Derived.ChangeOld
import Derived.Below
import Derived.Carry
namespace Sm
open Go Go.RowKit

/-- An argument as a contract sees it: a value without memory; a pointer to the first cell of a block that holds such values. -/
inductive ArgV where
  | val (v : Value)
  | mem (e : TypeId) (cells : List Value)
  | sli (e : TypeId) (cells : List Value) (off len sz : Nat)

def viewA (hp : List Blk) : AV → Option ArgV
  | .one (.ptr i 0) => match liveB hp i with
    | some b => (allV b.cells).map (.mem b.elem)
    | none => none
  | .one (.sl i off len sz) => match liveB hp i with
    | some b => (allV b.cells).map (.sli b.elem · off len sz)
    | none => none
  | a => match a.toV with
    | some v => some (.val v)
    | none => none

def viewS (hp : List Blk) : AV → Bool
  | .one (.ptr i 0) => match liveB hp i with
    | some b => b.cells.all C1.static
    | none => false
  | .one (.sl i _ _ _) => match liveB hp i with
    | some b => b.cells.all C1.static
    | none => false
  | a => a.static

def viewsA (hp : List Blk) : List AV → Option (List ArgV)
  | [] => some []
  | a :: l => match viewA hp a, viewsA hp l with
    | some v, some vs => some (v :: vs)
    | _, _ => none

def partW (st : Bool) : Value → Option (Bool × List C1)
  | .agg vs => if vs.toList.all oneC then some (true, vs.toList.map fun v => .sc v st) else none
  | .tuple _ => none
  | v => some (false, [.sc v st])

def partsW (st : Bool) : List Value → Option (List (Bool × List C1))
  | [] => some []
  | v :: l => match partW st v, partsW st l with
    | some p, some ps => some (p :: ps)
    | _, _ => none

def ofW (u : Value) (st : Bool) : Option AV :=
  match u with
  | .tuple vs => (partsW st vs.toList).map .tup
  | u => ofV u st

theorem partW_RP {E : Env} {st : Bool} {v : Value} {p : Bool × List C1} (h : partW st v = some p) : RP E p v ∧ partV p = some v := by
  unfold partW at h
  split at h
  · rename_i vs
    split at h
    · rename_i hall
      simp only [Option.some.injEq] at h; subst h
      have h1 : ∀ v ∈ vs.toList, v.oneCell' = true := fun v hv => by rw [← oneC_eq]; exact List.all_eq_true.1 hall v hv
      refine ⟨⟨vs.toList, by simp, RCs_scs h1⟩, ?_⟩
      have : ∀ l : List Value, allV (l.map fun v => C1.sc v st) = some l := by
        intro l
        induction l with
        | nil => rfl
        | cons x l ih => simp [allV, C1.toV, ih]
      simp only [partV, this, Option.map_some]
    · cases h
  · cases h
  · rename_i h1 h2
    simp only [Option.some.injEq] at h; subst h
    refine ⟨⟨_, rfl, rfl, ?_⟩, rfl⟩
    cases v <;> first | rfl | exact absurd rfl (h1 _) | exact absurd rfl (h2 _)

theorem partsW_spec {E : Env} {st : Bool} : ∀ (vs : List Value) (ps : List (Bool × List C1)), partsW st vs = some ps → allP ps = some vs ∧ ps.length = vs.length ∧ ∀ (j : Nat) (p : Bool × List C1) (v : Value), ps[j]? = some p → vs[j]? = some v → RP E p v
  | [], ps, h => by simp only [partsW, Option.some.injEq] at h; subst h; simp [allP]
  | v :: l, ps, h => by
    simp only [partsW] at h
    split at h
    · rename_i p qs hp hqs
      simp only [Option.some.injEq] at h; subst h
      obtain ⟨i1, i2, i3⟩ := partsW_spec l qs hqs
      obtain ⟨h1, h2⟩ := partW_RP (E := E) hp
      refine ⟨by simp [allP, h2, i1], by simp [i2], fun j p' v' hj hv => ?_⟩
      cases j with
      | zero => simp at hj hv; subst hj; subst hv; exact h1
      | succ j => simp at hj hv; exact i3 j p' v' hj hv
    · cases h

theorem ofV_toW {v : Value} {st : Bool} {a : AV} (h : ofV v st = some a) : a.toW = some v := by
  unfold ofV at h
  split at h
  · rename_i vs
    split at h
    · simp only [Option.some.injEq] at h; subst h
      have : ∀ l : List Value, allV (l.map fun v => C1.sc v st) = some l := by
        intro l
        induction l with
        | nil => rfl
        | cons x l ih => simp [allV, C1.toV, ih]
      simp only [AV.toW, AV.toV, this, Option.map_some]
    · cases h
  · cases h
  · simp only [Option.some.injEq] at h; subst h; rfl

theorem ofW_spec {u : Value} {st : Bool} {a : AV} (h : ofW u st = some a) : a.toW = some u ∧ ∀ E, RV E a u := by
  unfold ofW at h
  split at h
  · rename_i vs
    simp only [Option.map_eq_some_iff] at h
    obtain ⟨ps, hps, rfl⟩ := h
    refine ⟨?_, fun E => ?_⟩
    · obtain ⟨i1, _⟩ := partsW_spec (E := []) _ _ hps
      simp only [AV.toW, i1, Option.map_some]
    · obtain ⟨_, i2, i3⟩ := partsW_spec (E := E) _ _ hps
      exact ⟨vs.toList, by simp, i2, i3⟩
  · exact ⟨ofV_toW h, fun E => ofV_RV h⟩

/-- An argument as the model has it. -/
def AR (w : World) : ArgV → Value → Prop
  | .val v, u => u = v
  | .mem e cells, u => ∃ b o c fz, u = .pointer (some ⟨b, o + 0, none⟩) ∧ w.heap[b]? = some (.cells c e fz) ∧ o ≤ c.size ∧ cells.length ≤ c.size - o ∧ (c.toList.drop o).take cells.length = cells ∧ ∀ v ∈ cells, v.oneCell' = true
  | .sli e cells off len sz, u => ∃ b o c fz cap, u = .slice (some ⟨b, o + off, none⟩) len cap ∧ w.heap[b]? = some (.cells c e fz) ∧ o ≤ c.size ∧ cells.length ≤ c.size - o ∧ (c.toList.drop o).take cells.length = cells ∧ (∀ v ∈ cells, v.oneCell' = true) ∧ len ≤ cap ∧ cap ≤ maxLen ∧ off + cap * sz ≤ c.size - o

def ARs (w : World) (avs : List ArgV) (us : List Value) : Prop :=
  avs.length = us.length ∧ ∀ (j : Nat) (v : ArgV) (u : Value), avs[j]? = some v → us[j]? = some u → AR w v u

/-- A contract: whatever the arguments, where the function 'G' tells a value the call hands it back, and nothing that was there has turned. -/
def Con (P : Program) (f : FuncId) (G : List ArgV → Option Value) : Prop :=
  (∀ (vs : Array Value) (w : World), (callFunc f vs).run P w = .ok (.enter f vs) w) ∧
  ∀ (avs : List ArgV) (u : Value), G avs = some u → ∀ (w : World) (us : List Value), LaidW w.heap.size w → ARs w avs us → Calls P f us.toArray w fun e w' => e = .returned u ∧ Below w.heap.size w w'

theorem viewA_AR {B : Nat} {w0 : World} {E : Env} {hp : List Blk} {w : World} (hh : RH B w0 E hp w) {a : AV} {av : ArgV} {u : Value} (h : viewA hp a = some av) (hr : RV E a u) : AR w av u := by
  unfold viewA at h
  split at h
  · rename_i i
    split at h
    · rename_i b hb
      simp only [Option.map_eq_some_iff] at h
      obtain ⟨vs, hvs, rfl⟩ := h
      obtain ⟨hi, hl⟩ := liveB_some hb
      obtain ⟨e, he, rfl⟩ := hr
      obtain ⟨c, fz, hc, h1, _, ⟨h3, _⟩, h4⟩ := hh.blk i b e hi he hl
      have hv := toV_RCs hvs h4
      have hlen : vs.length = b.cells.length := (allV_spec _ _ hvs).1.symm
      exact ⟨e.b, e.o, c, fz, rfl, hc, by omega, by omega, by rw [hlen]; exact hv, by rw [← hv]; exact h4.ones⟩
    · cases h
  · rename_i i off len sz
    split at h
    · rename_i b hb
      simp only [Option.map_eq_some_iff] at h
      obtain ⟨vs, hvs, rfl⟩ := h
      obtain ⟨hi, hl⟩ := liveB_some hb
      obtain ⟨e, cap, he, rfl, hl1, hl2, hl3⟩ := hr
      obtain ⟨c, fz, hc, h1, _, ⟨h3, _⟩, h4⟩ := hh.blk i b e hi he hl
      have hv := toV_RCs hvs h4
      have hlen : vs.length = b.cells.length := (allV_spec _ _ hvs).1.symm
      exact ⟨e.b, e.o, c, fz, cap, rfl, hc, by omega, by omega, by rw [hlen]; exact hv, by rw [← hv]; exact h4.ones, hl1, hl2, by omega⟩
    · cases h
  · split at h
    · rename_i v hv
      simp only [Option.some.injEq] at h; subst h
      exact toV_RV hv hr
    · cases h

theorem viewsA_ARs {B : Nat} {w0 : World} {E : Env} {hp : List Blk} {w : World} (hh : RH B w0 E hp w) : ∀ (args : List AV) (avs : List ArgV) (us : List Value), viewsA hp args = some avs → RA E args us → ARs w avs us
  | [], avs, us, h, hr => by
    simp only [viewsA, Option.some.injEq] at h; subst h
    exact ⟨hr.1, by simp⟩
  | a :: l, avs, us, h, hr => by
    simp only [viewsA] at h
    split at h
    · rename_i v vs hv hvs
      simp only [Option.some.injEq] at h; subst h
      cases us with
      | nil => have := hr.1; simp at this
      | cons u us =>
        have h0 := viewA_AR hh hv (hr.2 0 a u rfl rfl)
        obtain ⟨i1, i2⟩ := viewsA_ARs hh l vs us hvs ⟨by have := hr.1; simpa using this, fun j v' u' h1 h2 => hr.2 (j + 1) v' u' (by simpa using h1) (by simpa using h2)⟩
        refine ⟨by simp [i1], fun j v' u' h1 h2 => ?_⟩
        cases j with
        | zero => simp at h1 h2; subst h1; subst h2; exact h0
        | succ j => simp at h1 h2; exact i2 j v' u' h1 h2
    · cases h

/-- No contract at all. -/
def Fns.none : Fns := { pure := fun _ _ _ => .none, pre := fun _ _ _ => .none, ext := fun _ _ => .none, gen := fun _ _ _ => .none, loops := fun _ => .none, pr := .none }

theorem FnsOk.none {P : Program} : FnsOk P Fns.none := ⟨(fun _ h => by cases h), (fun _ _ _ _ h => by cases h), (fun _ _ _ _ _ h => by cases h), (fun _ _ _ _ h => by cases h), (fun _ _ _ _ _ h => by cases h), (fun _ _ _ _ _ _ h => by cases h), (fun _ _ _ _ h => False.elim h), (fun _ _ _ h => by cases h)⟩

/-- One contract more. -/
def Fns.add (F : Fns) (f : FuncId) (G : List ArgV → Option Value) : Fns :=
  { F with pure := fun g args hp => match Nat.beq g f with
      | true => match viewsA hp args with
        | some avs => match G avs with
          | some u => ofW u (args.all (viewS hp))
          | .none => .none
        | .none => .none
      | false => F.pure g args hp }

theorem FnsOk.add {P : Program} {F : Fns} {f : FuncId} {G : List ArgV → Option Value} (hF : FnsOk P F) (hc : Con P f G) : FnsOk P (F.add f G) := by
  refine ⟨hF.pr, fun g args hp v h => ?_, hF.pre, hF.ext, hF.gen, hF.gnp, hF.cal, hF.loops⟩
  simp only [Fns.add] at h
  split at h
  · rename_i hg
    have hg' : g = f := by rw [beq_eq] at hg; simpa using hg
    subst hg'
    split at h
    · rename_i avs havs
      split at h
      · rename_i u hu
        obtain ⟨h1, h2⟩ := ofW_spec h
        exact ⟨hc.1, u, h1, h2, fun B w0 E w us hh hr => hc.2 avs u hu w us hh.laidW (viewsA_ARs hh args avs us havs hr)⟩
      · cases h
    · cases h
  · exact hF.pure g args hp v h

/-- A contract under a condition. -/
def ConP (P : Program) (f : FuncId) (G : List ArgV → Option (Prop × Value)) : Prop :=
  (∀ (vs : Array Value) (w : World), (callFunc f vs).run P w = .ok (.enter f vs) w) ∧
  ∀ (avs : List ArgV) (p : Prop) (u : Value), G avs = some (p, u) → p → ∀ (w : World) (us : List Value), LaidW w.heap.size w → ARs w avs us → Calls P f us.toArray w fun e w' => e = .returned u ∧ Below w.heap.size w w'

/-- One contract under a condition more. -/
def Fns.addP (F : Fns) (f : FuncId) (G : List ArgV → Option (Prop × Value)) : Fns :=
  { F with pre := fun g args hp => match Nat.beq g f with
      | true => match viewsA hp args with
        | some avs => match G avs with
          | some (p, u) => match ofW u (args.all (viewS hp)) with
            | some a => some (p, a)
            | .none => .none
          | .none => .none
        | .none => .none
      | false => F.pre g args hp }

theorem FnsOk.addP {P : Program} {F : Fns} {f : FuncId} {G : List ArgV → Option (Prop × Value)} (hF : FnsOk P F) (hc : ConP P f G) : FnsOk P (F.addP f G) := by
  refine ⟨hF.pr, hF.pure, fun g args hp p v h hp1 => ?_, hF.ext, hF.gen, hF.gnp, hF.cal, hF.loops⟩
  simp only [Fns.addP] at h
  split at h
  · rename_i hg
    have hg' : g = f := by rw [beq_eq] at hg; simpa using hg
    subst hg'
    split at h
    · rename_i avs havs
      split at h
      · rename_i p' u hu
        split at h
        · rename_i a ha
          simp only [Option.some.injEq, Prod.mk.injEq] at h
          obtain ⟨rfl, rfl⟩ := h
          obtain ⟨h1, h2⟩ := ofW_spec ha
          exact ⟨hc.1, u, h1, h2, fun B w0 E w us hh hr => hc.2 avs p' u hu hp1 w us hh.laidW (viewsA_ARs hh args avs us havs hr)⟩
        · cases h
      · cases h
    · cases h
  · exact hF.pre g args hp p v h hp1

def valsA : List AV → Option (List Value)
  | [] => some []
  | a :: l => match a.toV, valsA l with
    | some v, some vs => some (v :: vs)
    | _, _ => none

theorem valsA_RA {E : Env} : ∀ (args : List AV) (vs us : List Value), valsA args = some vs → RA E args us → us = vs
  | [], vs, us, h, hr => by
    simp only [valsA, Option.some.injEq] at h; subst h
    exact List.eq_nil_of_length_eq_zero hr.1.symm
  | a :: l, vs, us, h, hr => by
    simp only [valsA] at h
    split at h
    · rename_i v ws hv hws
      simp only [Option.some.injEq] at h; subst h
      cases us with
      | nil => have := hr.1; simp at this
      | cons u us =>
        rw [toV_RV hv (hr.2 0 a u rfl rfl), valsA_RA l ws us hws ⟨by have := hr.1; simpa using this, fun j v' u' h1 h2 => hr.2 (j + 1) v' u' (by simpa using h1) (by simpa using h2)⟩]
    · cases h

/-- A function without a body. -/
def Fns.addX (F : Fns) (f : FuncId) (G : List Value → Option (Option Prop × Value)) : Fns :=
  { F with ext := fun g args => match Nat.beq g f with
      | true => match valsA args with
        | some vs => match G vs with
          | some (p, u) => match ofV u (args.all AV.static) with
            | some a => some (p, a)
            | .none => .none
          | .none => .none
        | .none => .none
      | false => F.ext g args }

theorem FnsOk.addX {P : Program} {F : Fns} {f : FuncId} {G : List Value → Option (Option Prop × Value)} (hF : FnsOk P F)
    (hc : ∀ (vs : List Value) (p : Option Prop) (u : Value), G vs = some (p, u) → (∀ q, p = some q → q) → ∀ w, (callFunc f vs.toArray).run P w = .ok (.value u) w) : FnsOk P (F.addX f G) := by
  refine ⟨hF.pr, hF.pure, hF.pre, fun g args p v h hp1 => ?_, hF.gen, hF.gnp, hF.cal, hF.loops⟩
  simp only [Fns.addX] at h
  split at h
  · rename_i hg
    have hg' : g = f := by rw [beq_eq] at hg; simpa using hg
    subst hg'
    split at h
    · rename_i vs hvs
      split at h
      · rename_i p' u hu
        split at h
        · rename_i a ha
          simp only [Option.some.injEq, Prod.mk.injEq] at h
          obtain ⟨rfl, rfl⟩ := h
          exact ⟨u, fun E => ofV_RV ha, fun E us hr w => by rw [valsA_RA args vs us hvs hr]; exact hc vs p' u hu hp1 w⟩
        · cases h
      · cases h
    · cases h
  · exact hF.ext g args p v h hp1

/-- A general contract more. -/
def Fns.addGen (F : Fns) (f : FuncId) (G : List AV → List Blk → Option (AV × List Blk)) : Fns :=
  { F with gen := fun g args hp => match Nat.beq g f with
      | true => G args hp
      | false => F.gen g args hp }

/-- A contract of a loop more. -/
def Fns.addLoop (F : Fns) (k : Nat) (c : Code) (g : Tm → List Blk → Option (Prop × Ex × Tm × List Blk)) : Fns :=
  { F with loops := fun j => match Nat.beq j k with
      | true => some (c, g)
      | false => F.loops j }

/-! ### contracts out of runs -/

/-- The arguments of a run, and its memory: blocks that are only read. -/
def canon (st : Bool) : List ArgV → Nat → Option (List AV × List Blk)
  | [], _ => some ([], [])
  | .val v :: l, k => match ofV v st, canon st l k with
    | some a, some (as, bs) => some (a :: as, bs)
    | _, _ => none
  | .mem e cs :: l, k => match canon st l (k + 1) with
    | some (as, bs) => some (.one (.ptr k 0) :: as, { body := .li (cs.map fun v => .sc v st), elem := e, live := true, ro := true } :: bs)
    | none => none
  | .sli e cs off len sz :: l, k => match canon st l (k + 1) with
    | some (as, bs) => some (.one (.sl k off len sz) :: as, { body := .li (cs.map fun v => .sc v st), elem := e, live := true, ro := true } :: bs)
    | none => none

theorem canon_li {st : Bool} : ∀ (avs : List ArgV) (k : Nat) (as : List AV) (bs : List Blk), canon st avs k = some (as, bs) → ∀ (i : Nat) (b : Blk) (l : List (Int × C1)), bs[i]? = some b → b.body ≠ .mp l
  | [], k, as, bs, h, i, b, l, hi => by
    simp only [canon, Option.some.injEq, Prod.mk.injEq] at h
    obtain ⟨rfl, rfl⟩ := h
    simp at hi
  | .val v :: r, k, as, bs, h, i, b, l, hi => by
    simp only [canon] at h
    split at h
    · rename_i a as' bs' ha hrest
      simp only [Option.some.injEq, Prod.mk.injEq] at h
      obtain ⟨rfl, rfl⟩ := h
      exact canon_li r k as' bs' hrest i b l hi
    · cases h
  | .mem e cs :: r, k, as, bs, h, i, b, l, hi => by
    simp only [canon] at h
    split at h
    · rename_i as' bs' hrest
      simp only [Option.some.injEq, Prod.mk.injEq] at h
      obtain ⟨rfl, rfl⟩ := h
      cases i with
      | zero => simp only [List.getElem?_cons_zero, Option.some.injEq] at hi; subst hi; exact fun h => by cases h
      | succ i => exact canon_li r (k + 1) as' bs' hrest i b l (by simpa using hi)
    · cases h
  | .sli e cs off len sz :: r, k, as, bs, h, i, b, l, hi => by
    simp only [canon] at h
    split at h
    · rename_i as' bs' hrest
      simp only [Option.some.injEq, Prod.mk.injEq] at h
      obtain ⟨rfl, rfl⟩ := h
      cases i with
      | zero => simp only [List.getElem?_cons_zero, Option.some.injEq] at hi; subst hi; exact fun h => by cases h
      | succ i => exact canon_li r (k + 1) as' bs' hrest i b l (by simpa using hi)
    · cases h

theorem canon_spec {w : World} {st : Bool} : ∀ (avs : List ArgV) (k : Nat) (as : List AV) (bs : List Blk) (us : List Value) (pre : List EB), canon st avs k = some (as, bs) → ARs w avs us → pre.length = k →
    ∃ E : List EB, E.length = bs.length ∧ NoFz E ∧ RA (pre ++ E) as us ∧ ∀ (i : Nat) (b : Blk) (e : EB), bs[i]? = some b → E[i]? = some e →
      b.ro = true ∧ ∃ c fz, w.heap[e.b]? = some (.cells c b.elem fz) ∧ c.size = e.o + e.n ∧ b.cells.length ≤ e.n ∧ ∀ E', RCs E' b.cells ((c.toList.drop e.o).take b.cells.length)
  | [], k, as, bs, us, pre, h, hr, _ => by
    simp only [canon, Option.some.injEq, Prod.mk.injEq] at h
    obtain ⟨rfl, rfl⟩ := h
    exact ⟨[], rfl, .nil, ⟨hr.1, by simp⟩, by simp⟩
  | .val v :: l, k, as, bs, us, pre, h, hr, hk => by
    simp only [canon] at h
    split at h
    · rename_i a as' bs' ha hrest
      simp only [Option.some.injEq, Prod.mk.injEq] at h
      obtain ⟨rfl, rfl⟩ := h
      cases us with
      | nil => have := hr.1; simp at this
      | cons u us =>
        have h0 : u = v := hr.2 0 (.val v) u rfl rfl
        subst h0
        obtain ⟨E, hE, hnf, hra, hblk⟩ := canon_spec l k as' bs' us pre hrest ⟨by have := hr.1; simpa using this, fun j v' u' h1 h2 => hr.2 (j + 1) v' u' (by simpa using h1) (by simpa using h2)⟩ hk
        refine ⟨E, hE, hnf, ⟨by simp [hra.1], fun j v' u' h1 h2 => ?_⟩, hblk⟩
        cases j with
        | zero => simp at h1 h2; subst h1; subst h2; exact ofV_RV ha
        | succ j => simp at h1 h2; exact hra.2 j v' u' h1 h2
    · cases h
  | .mem e cs :: l, k, as, bs, us, pre, h, hr, hk => by
    simp only [canon] at h
    split at h
    · rename_i as' bs' hrest
      simp only [Option.some.injEq, Prod.mk.injEq] at h
      obtain ⟨rfl, rfl⟩ := h
      cases us with
      | nil => have := hr.1; simp at this
      | cons u us =>
        obtain ⟨b, o, c, fz, rfl, hc, h0, h1, h2, h3⟩ : AR w (.mem e cs) u := hr.2 0 (.mem e cs) u rfl rfl
        obtain ⟨E, hE, hnf, hra, hblk⟩ := canon_spec l (k + 1) as' bs' us (pre ++ [EB.at b o (c.size - o)]) hrest ⟨by have := hr.1; simpa using this, fun j v' u' h1 h2 => hr.2 (j + 1) v' u' (by simpa using h1) (by simpa using h2)⟩ (by simp [hk])
        have happ : pre ++ (EB.at b o (c.size - o) :: E) = pre ++ [EB.at b o (c.size - o)] ++ E := by simp
        refine ⟨EB.at b o (c.size - o) :: E, by simp [hE], hnf.cons _ _ _, ⟨by simp [hra.1], fun j v' u' hj hu => ?_⟩, fun i b' e' hi he => ?_⟩
        · rw [happ]
          cases j with
          | zero =>
            simp at hj hu; subst hj; subst hu
            refine ⟨EB.at b o (c.size - o), ?_, rfl⟩
            rw [List.append_assoc, List.getElem?_append_right (by omega), hk, Nat.sub_self]
            rfl
          | succ j => simp at hj hu; exact hra.2 j v' u' hj hu
        · cases i with
          | zero =>
            simp at hi he; subst hi; subst he
            refine ⟨rfl, c, fz, hc, by simp only [EB.at_o, EB.at_n]; omega, by simpa using h1, fun E' => ?_⟩
            simp only [Blk.cells_li, List.length_map, EB.at_o, h2]
            exact RCs_scs h3
          | succ i => simp at hi he; exact hblk i b' e' hi he
    · cases h
  | .sli e cs off len sz :: l, k, as, bs, us, pre, h, hr, hk => by
    simp only [canon] at h
    split at h
    · rename_i as' bs' hrest
      simp only [Option.some.injEq, Prod.mk.injEq] at h
      obtain ⟨rfl, rfl⟩ := h
      cases us with
      | nil => have := hr.1; simp at this
      | cons u us =>
        obtain ⟨b, o, c, fz, cap, rfl, hc, h0, h1, h2, h3, hl1, hl2, hl3⟩ : AR w (.sli e cs off len sz) u := hr.2 0 (.sli e cs off len sz) u rfl rfl
        obtain ⟨E, hE, hnf, hra, hblk⟩ := canon_spec l (k + 1) as' bs' us (pre ++ [EB.at b o (c.size - o)]) hrest ⟨by have := hr.1; simpa using this, fun j v' u' h1 h2 => hr.2 (j + 1) v' u' (by simpa using h1) (by simpa using h2)⟩ (by simp [hk])
        have happ : pre ++ (EB.at b o (c.size - o) :: E) = pre ++ [EB.at b o (c.size - o)] ++ E := by simp
        refine ⟨EB.at b o (c.size - o) :: E, by simp [hE], hnf.cons _ _ _, ⟨by simp [hra.1], fun j v' u' hj hu => ?_⟩, fun i b' e' hi he => ?_⟩
        · rw [happ]
          cases j with
          | zero =>
            simp at hj hu; subst hj; subst hu
            refine ⟨EB.at b o (c.size - o), cap, ?_, rfl, hl1, hl2, hl3⟩
            rw [List.append_assoc, List.getElem?_append_right (by omega), hk, Nat.sub_self]
            rfl
          | succ j => simp at hj hu; exact hra.2 j v' u' hj hu
        · cases i with
          | zero =>
            simp at hi he; subst hi; subst he
            refine ⟨rfl, c, fz, hc, by simp only [EB.at_o, EB.at_n]; omega, by simpa using h1, fun E' => ?_⟩
            simp only [Blk.cells_li, List.length_map, EB.at_o, h2]
            exact RCs_scs h3
          | succ i => simp at hi he; exact hblk i b' e' hi he
    · cases h

/-- A contract out of runs. -/
theorem con_of_run {P : Program} {T : Tab} {F : Fns} (hm : P.follows .mixedOrders = true) (hT : TabOk P T) (hF : FnsOk P F) {f : FuncId} {fn : Func} (hf : P.funcs[f]? = some fn)
    (hcall : ∀ (vs : Array Value) (w : World), (callFunc f vs).run P w = .ok (.enter f vs) w) {G : List ArgV → Option Value}
    (h : ∀ (avs : List ArgV) (u : Value), G avs = some u → ∃ st n orc v as bs, canon st avs 0 = some (as, bs) ∧ v.toW = some u ∧ runK P T F n fn as bs orc (fun r _ => r = some v)) : Con P f G := by
  refine ⟨hcall, fun avs u hG w us hL hr => ?_⟩
  obtain ⟨st, n, orc, v, as, bs, hcan, hv, hrun⟩ := h avs u hG
  obtain ⟨E, hE, hnf, hra, hblk⟩ := canon_spec avs 0 as bs us [] hcan hr rfl
  have hh : RH w.heap.size w E bs w := by
    refine ⟨Below.refl _ _, Nat.le_refl _, hL, hE, fun i b e hi he _ => ?_, fun i j bi bj ei ej _ hi _ hei _ _ _ hro => ?_, hnf.frz _ _ _, .none (canon_li _ _ _ _ hcan)⟩
    · obtain ⟨hro, c, fz, h1, h2, h3, h4⟩ := hblk i b e hi he
      exact ⟨c, fz, h1, h2, (fun hf => by rw [hro] at hf; cases hf), ⟨h3, fun _ hf => by rw [hro] at hf; cases hf⟩, h4 E⟩
    · obtain ⟨hro', _⟩ := hblk i bi ei hi hei
      rw [hro] at hro'; cases hro'
  refine (run_sound hm hT hF hf hrun hh (by simpa using hra) (fun r hp' hr => ⟨v, hr⟩)).mono ?_
  rintro e w' ⟨v', hp', E', u', rfl, hk, _, hrv, hrh⟩
  simp only [Option.some.injEq] at hk
  subst hk
  exact ⟨by rw [toW_RV hv hrv], hrh.below⟩

end Sm
namespace Sm
open Go Go.RowKit

section adopt
variable {B : Nat} {w0 : World} {E : Env} {hp : List Blk} {w w' : World}

/-- A block that another call has made. -/
theorem RH.adopt (hh : RH B w0 E hp w) (hb : Below w.heap.size w w') {b : Blk} {e : EB} {c : Array Value} (hc : w'.heap[e.b]? = some (.cells c b.elem (0, 0))) (hn : c.size = e.n) (ho : e.o = 0) (hnew : w.heap.size ≤ e.b)
    (hlen : b.cells.length ≤ c.size) (hfu : b.full = false) (hcs : ∀ E', RCs E' b.cells (c.toList.take b.cells.length)) (hz : ∀ b q cs, ¬ e.fz b q cs) (hz2 : ∀ b, ¬ e.own b) (hnm : ∀ l, b.body ≠ .mp l) : RH B w0 (E ++ [e]) (hp ++ [b]) w' := by
  have h := hh.congr hb
  have hpre : E <+: E ++ [e] := ⟨_, rfl⟩
  have hsz := hh.size
  have last : ∀ (k : Nat) (x : EB), ¬ k < hp.length → (E ++ [e])[k]? = some x → k = hp.length ∧ x = e := fun k x hk hx => by
    rw [List.getElem?_append_right (by rw [hh.len]; omega)] at hx
    have h0 := (List.getElem?_eq_some_iff.1 hx).1
    simp at h0
    have hk0 : k - E.length = 0 := by omega
    rw [hk0] at hx
    simp at hx
    exact ⟨by rw [hh.len] at hk0; omega, hx.symm⟩
  have old : ∀ (k : Nat) (x : Blk) (ek : EB), hp[k]? = some x → E[k]? = some ek → x.live = true → ek.b < w.heap.size := fun k x ek hx hek hl => by
    obtain ⟨c', fz, hc', _⟩ := hh.blk k x ek hx hek hl
    exact (Array.getElem?_eq_some_iff.1 hc').1
  have hfz : EvLe (E ++ [e]) E := .none hz hz2
  refine ⟨h.below, h.base, h.laid, by simp [hh.len], fun k x ek hx hek hl => ?_, fun i j bi bj ei ej hij hi hj hei hej hli hlj hro => ?_,
    hh.frz.keep hfz (.of hpre) (fun b' c' t z hc' _ => by rw [hb.block b' (Array.getElem?_eq_some_iff.1 hc').1]; exact hc') fun k x ek hx hek hl hro => ?_,
    hh.maps.snoc hh.len e hnm fun b' es cl hc' => by rw [hb.block b' (Array.getElem?_eq_some_iff.1 hc').1]; exact hc'⟩
  · by_cases hk : k < hp.length
    · rw [List.getElem?_append_left hk] at hx
      rw [List.getElem?_append_left (by rw [hh.len]; exact hk)] at hek
      obtain ⟨c', fz, r1, r2, r3, r4, r5⟩ := h.blk k x ek hx hek hl
      exact ⟨c', fz, r1, r2, r3, r4, r5.mono hpre⟩
    · obtain ⟨rfl, rfl⟩ := last k ek hk hek
      rw [List.getElem?_append_right (Nat.le_refl _), Nat.sub_self] at hx
      simp at hx
      subst hx
      exact ⟨c, (0, 0), hc, by omega, fun _ => ⟨rfl, by omega, ho⟩, ⟨by omega, fun hf => by rw [hfu] at hf; cases hf⟩, by rw [ho, List.drop_zero]; exact hcs _⟩
  · by_cases h1 : i < hp.length <;> by_cases h2 : j < hp.length
    · rw [List.getElem?_append_left h1] at hi
      rw [List.getElem?_append_left h2] at hj
      rw [List.getElem?_append_left (by rw [hh.len]; exact h1)] at hei
      rw [List.getElem?_append_left (by rw [hh.len]; exact h2)] at hej
      exact hh.inj i j bi bj ei ej hij hi hj hei hej hli hlj hro
    · rw [List.getElem?_append_left h1] at hi
      rw [List.getElem?_append_left (by rw [hh.len]; exact h1)] at hei
      obtain ⟨rfl, rfl⟩ := last j ej h2 hej
      have := old i bi ei hi hei hli
      omega
    · rw [List.getElem?_append_left h2] at hj
      rw [List.getElem?_append_left (by rw [hh.len]; exact h2)] at hej
      obtain ⟨rfl, rfl⟩ := last i ei h1 hei
      have := old j bj ej hj hej hlj
      omega
    · obtain ⟨rfl, _⟩ := last i ei h1 hei
      obtain ⟨rfl, _⟩ := last j ej h2 hej
      exact absurd rfl hij
  · by_cases hk : k < hp.length
    · rw [List.getElem?_append_left hk] at hx
      rw [List.getElem?_append_left (by rw [hh.len]; exact hk)] at hek
      exact .inl ⟨k, x, ek, hx, hek, hl, hro, rfl⟩
    · obtain ⟨rfl, rfl⟩ := last k ek hk hek
      exact .inr hnew

end adopt

/-- What a call of a maker of a slice hands back. -/
def sliceG (len sz : Nat) (b : Blk) : List AV → List Blk → Option (AV × List Blk) := fun args hp =>
  match args with
  | [] => some (.one (.sl hp.length 0 len sz), hp ++ [b])
  | _ => none

/-- A function without arguments that makes a slice of values without memory. -/
theorem FnsOk.addSlice {P : Program} {T : Tab} {F F' : Fns} (hm : P.follows .mixedOrders = true) (hT : TabOk P T) (hF' : FnsOk P F') (hF : FnsOk P F) {f : FuncId} {fn : Func} (hf : P.funcs[f]? = some fn)
    (hcall : ∀ (vs : Array Value) (w : World), (callFunc f vs).run P w = .ok (.enter f vs) w) {len sz n k : Nat} {orc : List Sg} {b : Blk} {vs : List Value}
    (hvs : allV b.cells = some vs) (h1 : ∀ v ∈ vs, v.oneCell' = true) (hl : b.live = true) (hro : b.ro = false)
    (hrun : runK P T F' n fn [] [] orc (fun r hp => r = some (.one (.sl k 0 len sz)) ∧ getB hp k = some b)) (hfu : b.full = false := by rfl) : FnsOk P (F.addGen f (sliceG len sz b)) := by
  refine ⟨hF.pr, hF.pure, hF.pre, hF.ext, fun g args hp v hp' h => ?_, hF.gnp, hF.cal, hF.loops⟩
  simp only [Fns.addGen] at h
  split at h
  · rename_i hg
    have hg' : g = f := by rw [beq_eq] at hg; simpa using hg
    subst hg'
    refine ⟨hcall, fun B w0 E w us hh hr => ?_⟩
    unfold sliceG at h
    split at h
    · simp only [Option.some.injEq, Prod.mk.injEq] at h
      obtain ⟨rfl, rfl⟩ := h
      have hus : us = [] := List.eq_nil_of_length_eq_zero hr.1.symm
      subst hus
      have hh0 : RH w.heap.size w [] [] w := ⟨Below.refl _ _, Nat.le_refl _, hh.laidW, rfl, by simp, by simp, NoFz.nil.frz _ _ _, .none (by simp)⟩
      refine (run_sound hm hT hF' hf hrun hh0 ⟨rfl, by simp⟩ (fun r hp' hr => ⟨_, hr.1⟩)).mono ?_
      rintro e w' ⟨v', hp', E', u', rfl, ⟨hk, hb⟩, _, hrv, hrh⟩
      simp only [Option.some.injEq] at hk
      subst hk
      rw [getB_eq] at hb
      obtain ⟨e, cap, he, rfl, hlc, hcm, hcn⟩ := hrv
      obtain ⟨c, hc, r1, hB, hoo, r3, r4⟩ := hrh.own hb he hl hro
      have hcs : ∀ E', RCs E' b.cells (c.toList.take b.cells.length) := fun E' => by
        rw [toV_RCs hvs r4]
        exact allV_RCs hvs h1
      exact ⟨E ++ [EB.at e.b e.o e.n], _, rfl, ⟨_, rfl⟩, ⟨EB.at e.b e.o e.n, cap, env_last E _ _ hh.len, rfl, hlc, hcm, hcn⟩, hh.adopt (e := EB.at e.b e.o e.n) hrh.below hc r1 hoo hB r3 hfu hcs (fun _ _ _ h => h) (fun _ h => h) (hrh.noMap hb hl)⟩
    · cases h
  · exact hF.gen g args hp v hp' h

/-! ### the row's last steps -/

/-- Behind a call that has turned nothing that was there, the arguments read as they read. -/
theorem trodAll_below {H : Type} {enc : TypeId × Value → H} {P : Program} (hl : laidOutB P = true) {W W' : World} (hb : Below W.heap.size W W') : ∀ (ts : List TypeId) (vs : List Value) (ds : List (DataW H)) (ps : List MemPlace),
    (ts.all fun t => P.readableRec t && decide (t < P.types.size)) = true → DataW.TrodAll enc P W 0 (fun _ => true) true ts vs ds ps → (∀ x ∈ ps, x.block < W.heap.size) →
    DataW.TrodAll enc P W' 0 (fun b => decide (b < W.heap.size)) true ts vs ds ps
  | [], vs, ds, ps, _, h, _ => by
    cases vs <;> cases ds <;> simp [DataW.TrodAll] at h ⊢ <;> exact h
  | t :: ts, vs, ds, ps, hr, h, hlt => by
    cases vs with
    | nil => simp [DataW.TrodAll] at h
    | cons v vs =>
      cases ds with
      | nil => simp [DataW.TrodAll] at h
      | cons d ds =>
        obtain ⟨p, q, h1, h2, rfl⟩ := h
        simp only [List.all_cons, Bool.and_eq_true, decide_eq_true_eq] at hr
        exact ⟨p, q, Below.trod hl hr.1.1 hr.1.2 h1 hb (fun x hx => hlt x (by simp [hx])), trodAll_below hl hb ts vs ds q (by simpa using hr.2) h2 (fun x hx => hlt x (by simp [hx])), rfl⟩

theorem trodAll_lt {H : Type} {enc : TypeId × Value → H} {P : Program} {W : World} : ∀ (ts : List TypeId) (vs : List Value) (ds : List (DataW H)) (ps : List MemPlace),
    DataW.TrodAll enc P W 0 (fun _ => true) true ts vs ds ps → ∀ x ∈ ps, x.block < W.heap.size
  | [], vs, ds, ps, h => by
    cases vs <;> cases ds <;> simp [DataW.TrodAll] at h
    subst h
    simp
  | t :: ts, vs, ds, ps, h => by
    cases vs with
    | nil => simp [DataW.TrodAll] at h
    | cons v vs =>
      cases ds with
      | nil => simp [DataW.TrodAll] at h
      | cons d ds =>
        obtain ⟨p, q, h1, h2, rfl⟩ := h
        intro x hx
        rcases List.mem_append.1 hx with hx | hx
        · obtain ⟨m, hm⟩ := h1
          exact DataW.trod_lt m _ _ _ hm x hx
        · exact trodAll_lt ts vs ds q h2 x hx

end Sm

namespace Sm
open Go

/-! ### tables out of the program's own facts -/

def zeroOf (i : TypeInfo) : List C1 :=
  match i.zero with
  | some z => if z.cells.toList.all oneC && Nat.beq z.cells.toList.length i.size then z.cells.toList.map fun v => .sc v true else []
  | none => []

def tiOf (d : TypeDesc) (i : TypeInfo) : TI := { desc := d, size := i.size, bytes := i.bytes, zero := zeroOf i }

structure TRow where
  t : TypeId
  d : TypeDesc
  i : TypeInfo

def lookT : List TRow → TypeId → Option TI
  | [], _ => none
  | r :: l, t => match Nat.beq r.t t with
    | true => some (tiOf r.d r.i)
    | false => lookT l t

def memN : List Nat → Nat → Bool
  | [], _ => false
  | x :: l, t => match Nat.beq x t with
    | true => true
    | false => memN l t

theorem memN_spec : ∀ (l : List Nat) (t : Nat), memN l t = true → t ∈ l
  | [], t, h => by cases h
  | x :: l, t, h => by
    simp only [memN] at h
    split at h
    · rename_i hb
      rw [beq_eq] at hb
      simp at hb
      simp [hb]
    · simp [memN_spec l t h]

theorem lookT_spec : ∀ (l : List TRow) (t : TypeId) (ti : TI), lookT l t = some ti → ∃ r ∈ l, r.t = t ∧ ti = tiOf r.d r.i
  | [], t, ti, h => by cases h
  | r :: l, t, ti, h => by
    simp only [lookT] at h
    split at h
    · rename_i hb
      rw [beq_eq] at hb
      simp at hb
      simp only [Option.some.injEq] at h
      exact ⟨r, by simp, hb, h.symm⟩
    · obtain ⟨r', h1, h2⟩ := lookT_spec l t ti h
      exact ⟨r', by simp [h1], h2⟩

theorem allV_map (vs : List Value) (st : Bool) : allV (vs.map fun v => C1.sc v st) = some vs := by
  induction vs with
  | nil => rfl
  | cons x l ih => simp [allV, C1.toV, ih]

theorem tabOk_of {P : Program} {m : Bool} (l : List TRow) (eqs : List Nat) (h : ∀ r ∈ l, P.underlying r.t = some r.d ∧ P.info? r.t = some r.i) (he : ∀ t ∈ eqs, P.stoodInHeld t = false ∧ P.eqGuardType P.depth t = false) :
    TabOk P { ty := lookT l, eqOk := memN eqs, mg := m } := by
  refine ⟨fun t ti hti => ?_, fun t ht => he t (memN_spec eqs t ht), fun f fn h => by cases h⟩
  obtain ⟨r, hr, rfl, rfl⟩ := lookT_spec l t ti hti
  obtain ⟨h1, h2⟩ := h r hr
  refine ⟨h1, r.i, h2, rfl, rfl, fun hne => ?_⟩
  simp only [tiOf, zeroOf] at hne ⊢
  split at hne
  · rename_i z hz
    split at hne
    · rename_i hc
      simp only [Bool.and_eq_true] at hc
      refine ⟨z, z.cells.toList, hz, ?_, rfl, fun v hv => ?_, ?_⟩
      · rw [if_pos (by simp only [Bool.and_eq_true]; exact hc)]
        exact allV_map _ _
      · rw [← oneC_eq]; exact List.all_eq_true.1 hc.1 v hv
      · rw [if_pos (by simp only [Bool.and_eq_true]; exact hc)]
        have := hc.2
        rw [beq_eq] at this
        simpa using this
    · exact absurd rfl hne
  · exact absurd rfl hne

theorem TabOk.withFn {P : Program} {T : Tab} (h : TabOk P T) {g : FuncId → Option Func} (hg : ∀ (f : FuncId) (fn : Func), g f = some fn → P.funcs[f]? = some fn ∧ ∀ (vs : Array Value) (w : World), (callFunc f vs).run P w = .ok (.enter f vs) w) :
    TabOk P { T with fn := g } := ⟨h.ty, h.eq, hg⟩

def lookF : List (FuncId × Func) → FuncId → Option Func
  | [], _ => none
  | (g, fn) :: l, f => match Nat.beq g f with
    | true => some fn
    | false => lookF l f

theorem lookF_spec : ∀ (l : List (FuncId × Func)) (f : FuncId) (fn : Func), lookF l f = some fn → (f, fn) ∈ l
  | [], f, fn, h => by cases h
  | (g, x) :: l, f, fn, h => by
    unfold lookF at h
    split at h
    · rename_i hg
      rw [beq_eq, decide_eq_true_eq] at hg
      simp only [Option.some.injEq] at h
      subst hg; subst h
      simp
    · exact List.mem_cons_of_mem _ (lookF_spec l f fn h)

theorem of_run {p q : Prop} (h : p = q) (hq : q) : p := h ▸ hq

end Sm

namespace Sm
open Go

/-- Guessed outcomes, one behind the other, and what is left. -/
def obs : List (Bool × Bool) → Prop → Prop
  | [], q => q
  | p :: l, q => p.1 = p.2 ∧ obs l q

theorem obs_of : ∀ (l : List (Bool × Bool)) (q : Prop), (∀ p ∈ l, p.1 = p.2) → q → obs l q
  | [], _, _, hq => hq
  | p :: l, q, h, hq => ⟨h p (by simp), obs_of l q (fun p hp => h p (by simp [hp])) hq⟩

def li (n : Int) : AV := .one (.sc (.int .i64 n) true)
def di (n : Int) : AV := .one (.sc (.int .i64 n) false)

end Sm
namespace Sm
open Go Go.RowKit Go.WideShapes Go.ChangeShapes

def isTrue : Option AV → Prop
  | some (.one (.sc (.bool b) _)) => b = true
  | _ => False

/-- A law, walked. -/
theorem law_of_run {P : Program} {T : Tab} {F : Fns} (hm : P.follows .mixedOrders = true) (hT : TabOk P T) (hF : FnsOk P F) {f : FuncId} {fn : Func} (hf : P.funcs[f]? = some fn)
    {st : Bool} {avs : List ArgV} {args : List AV} {bs : List Blk} {n : Nat} {orc : List Sg} (hcan : canon st avs 0 = some (args, bs)) (hrun : runK P T F n fn args bs orc (fun r _ => isTrue r))
    {w : World} {us : List Value} (hr : ARs w avs us) (hL : LaidW w.heap.size w := by first | assumption | exact laidNone (fun _ => rfl)) : Calls P f us.toArray w fun e w' => e = .returned (.bool true) ∧ Below w.heap.size w w' := by
  obtain ⟨E, hE, hnf, hra, hblk⟩ := canon_spec avs 0 args bs us [] hcan hr rfl
  have hh : RH w.heap.size w E bs w := by
    refine ⟨Below.refl _ _, Nat.le_refl _, hL, hE, fun i b e hi he _ => ?_, fun i j bi bj ei ej _ hi _ hei _ _ _ hro => ?_, hnf.frz _ _ _, .none (canon_li _ _ _ _ hcan)⟩
    · obtain ⟨hro, c, fz, h1, h2, h3, h4⟩ := hblk i b e hi he
      exact ⟨c, fz, h1, h2, (fun hf => by rw [hro] at hf; cases hf), ⟨h3, fun _ hf => by rw [hro] at hf; cases hf⟩, h4 E⟩
    · obtain ⟨hro', _⟩ := hblk i bi ei hi hei
      rw [hro] at hro'; cases hro'
  refine (run_sound hm hT hF hf hrun hh (by simpa using hra) (fun r hp' hr => ?_)).mono ?_
  · cases r with
    | some v => exact ⟨v, rfl⟩
    | none => exact hr.elim
  · rintro e w' ⟨v', hp', E', u', rfl, hk, _, hrv, hrh⟩
    refine ⟨?_, hrh.below⟩
    unfold isTrue at hk
    split at hk
    · rename_i b st' hb
      simp only [Option.some.injEq] at hb
      subst hb
      have := hrv.1
      rw [hk] at this
      rw [this]
    · exact hk.elim

/-- The arguments of a law that are values. -/
theorem ARs_vals (w : World) : ∀ us : List Value, ARs w (us.map .val) us := fun us =>
  ⟨by simp, fun j v u h1 h2 => by
    simp only [List.getElem?_map, h2, Option.map_some, Option.some.injEq] at h1
    subst h1
    exact rfl⟩

def intV : Value → Int
  | .int _ n => n
  | _ => 0

/-- An array of whole numbers, by value. -/
theorem open_arr {H : Type} {enc : TypeId × Value → H} {P : Program} {w : World} {base b0 : Nat} {spare : Nat → Bool} {held : Bool} {r : Reach} {t e : TypeId} {n : Nat} {k : IntKind} {v : Value} {d : DataW H} {ps : List MemPlace}
    (ht : P.underlying t = some (.array n e)) (he : P.underlying e = some (.int k)) (hce : P.cellsOf e = 1) (hct : P.cellsOf t = n) (hval : Value.okWide P w r b0 t v) (h : DataW.Trod enc P w base spare held t v d ps) :
    ∃ xs : List Int, xs.length = n ∧ v = .agg (xs.map (Value.int k)).toArray ∧ ∀ x ∈ xs, (Lit.int k x).wf = true := by
  have hv : ∃ cs, v = .agg cs ∧ cs.size = P.cellsOf t := by
    unfold Value.okWide at hval
    rw [ht] at hval
    obtain ⟨cs, h1, h2, _⟩ := hval
    exact ⟨cs, h1, h2⟩
  obtain ⟨cs, rfl, hsz⟩ := hv
  obtain ⟨fuel, hf⟩ := h
  obtain ⟨xs, m, rfl, _, hlen, hxl, hel⟩ := DataW.trod_array ht hf
  simp only [Value.cells] at hlen hel
  have key : ∀ i, i < n → ∃ x, cs.toList[i]? = some (.int k x) ∧ (Lit.int k x).wf = true := fun i hi => by
    have h1 := hel i hi
    have hlt : i < cs.toList.length := by omega
    rw [hce, Nat.mul_one, List.drop_eq_getElem_cons hlt] at h1
    rw [List.getElem?_eq_getElem (show i < xs.length by omega)] at h1
    obtain ⟨x, hx, _, hw⟩ := DataW.trod_int he h1
    simp only [List.take_succ_cons, List.take_zero, List.cons.injEq, and_true] at hx
    exact ⟨x, by rw [List.getElem?_eq_getElem hlt, hx], hw⟩
  refine ⟨cs.toList.map intV, by simp; omega, ?_, fun x hx => ?_⟩
  · congr 1
    apply Array.ext'
    simp only [List.map_map]
    apply List.ext_getElem?
    intro i
    by_cases hi : i < n
    · obtain ⟨x, hx, _⟩ := key i hi
      simp [hx, intV]
    · rw [List.getElem?_eq_none (by omega), List.getElem?_eq_none (by simp; omega)]
  · obtain ⟨y, hy, rfl⟩ := List.mem_map.1 hx
    obtain ⟨i, hi⟩ := List.mem_iff_getElem?.1 hy
    have hlt : i < n := by
      have := (List.getElem?_eq_some_iff.1 hi).1
      omega
    obtain ⟨x, hx2, hw⟩ := key i hlt
    rw [hi] at hx2
    obtain rfl := Option.some.inj hx2
    exact hw

/-- A list of so many numbers, told by a function of the place. -/
theorem list_of_fn (xs : List Int) (n : Nat) (h : xs.length = n) : xs = (List.range n).map fun i => xs.getD i 0 := by
  apply List.ext_getElem?
  intro i
  by_cases hi : i < n
  · simp [hi, h, List.getD]
  · rw [List.getElem?_eq_none (by omega), List.getElem?_eq_none (by simp; omega)]

end Sm
