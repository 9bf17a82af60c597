/-
  What is proved here: contracts of Go functions, told by plain functions of values, out of abstract runs; and a table of contracts out of contracts. a contract for a function that hands back a new slice; the last steps of a row (what the arguments read as behind the call). a law out of its abstract run; arrays of whole numbers among a law's arguments, opened. A text to be imported.
-/
import Derived.Test.YthddkcoflnbjbaaDoorQSimJ
import Derived.ProofKit
import Derived.OpenShut
import Derived.ShutString
import Derived.ChangeOld
import Derived.Below
import Derived.Carry
namespace Sm
open Go Go.RowKit
inductive ArgV where
  | val (v : Value)
  | mem (e : TypeId) (cells : List Value)
  | sli (e : TypeId) (cells : List Value) (off len sz : Nat)
def viewA (hp : List Blk) : AV → Option ArgV
  | .one (.ptr i 0) => match liveB hp i with
    | some b => (allV b.cells).map (.mem b.elem)
    | none => none
  | .one (.sl i off len sz) => match liveB hp i with
    | some b => (allV b.cells).map (.sli b.elem · off len sz)
    | none => none
  | a => match a.toV with
    | some v => some (.val v)
    | none => none
def viewS (hp : List Blk) : AV → Bool
  | .one (.ptr i 0) => match liveB hp i with
    | some b => b.cells.all C1.static
    | none => false
  | .one (.sl i _ _ _) => match liveB hp i with
    | some b => b.cells.all C1.static
    | none => false
  | a => a.static
def viewsA (hp : List Blk) : List AV → Option (List ArgV)
  | [] => some []
  | a :: l => match viewA hp a, viewsA hp l with
    | some v, some vs => some (v :: vs)
    | _, _ => none
def partW (st : Bool) : Value → Option (Bool × List C1)
  | .agg vs => if vs.toList.all oneC then some (true, vs.toList.map fun v => .sc v st) else none
  | .tuple _ => none
  | v => some (false, [.sc v st])
def partsW (st : Bool) : List Value → Option (List (Bool × List C1))
  | [] => some []
  | v :: l => match partW st v, partsW st l with
    | some p, some ps => some (p :: ps)
    | _, _ => none
def ofW (u : Value) (st : Bool) : Option AV :=
  match u with
  | .tuple vs => (partsW st vs.toList).map .tup
  | u => ofV u st
theorem partW_RP {E : Env} {st : Bool} {v : Value} {p : Bool × List C1} (h : partW st v = some p) : RP E p v ∧ partV p = some v := by
  unfold partW at h
  split at h
  · rename_i vs
    split at h
    · rename_i hall
      simp only [Option.some.injEq] at h; subst h
      have h1 : ∀ v ∈ vs.toList, v.oneCell' = true := fun v hv => by rw [← oneC_eq]; exact List.all_eq_true.1 hall v hv
      refine ⟨⟨vs.toList, by simp, RCs_scs h1⟩, ?_⟩
      have : ∀ l : List Value, allV (l.map fun v => C1.sc v st) = some l := by
        intro l
        induction l with
        | nil => rfl
        | cons x l ih => simp [allV, C1.toV, ih]
      simp only [partV, this, Option.map_some]
    · cases h
  · cases h
  · rename_i h1 h2
    simp only [Option.some.injEq] at h; subst h
    refine ⟨⟨_, rfl, rfl, ?_⟩, rfl⟩
    cases v <;> first | rfl | exact absurd rfl (h1 _) | exact absurd rfl (h2 _)
theorem partsW_spec {E : Env} {st : Bool} : ∀ (vs : List Value) (ps : List (Bool × List C1)), partsW st vs = some ps → allP ps = some vs ∧ ps.length = vs.length ∧ ∀ (j : Nat) (p : Bool × List C1) (v : Value), ps[j]? = some p → vs[j]? = some v → RP E p v
  | [], ps, h => by simp only [partsW, Option.some.injEq] at h; subst h; simp [allP]
  | v :: l, ps, h => by
    simp only [partsW] at h
    split at h
    · rename_i p qs hp hqs
      simp only [Option.some.injEq] at h; subst h
      obtain ⟨i1, i2, i3⟩ := partsW_spec l qs hqs
      obtain ⟨h1, h2⟩ := partW_RP (E := E) hp
      refine ⟨by simp [allP, h2, i1], by simp [i2], fun j p' v' hj hv => ?_⟩
      cases j with
      | zero => simp at hj hv; subst hj; subst hv; exact h1
      | succ j => simp at hj hv; exact i3 j p' v' hj hv
    · cases h
theorem ofV_toW {v : Value} {st : Bool} {a : AV} (h : ofV v st = some a) : a.toW = some v := by
  unfold ofV at h
  split at h
  · rename_i vs
    split at h
    · simp only [Option.some.injEq] at h; subst h
      have : ∀ l : List Value, allV (l.map fun v => C1.sc v st) = some l := by
        intro l
        induction l with
        | nil => rfl
        | cons x l ih => simp [allV, C1.toV, ih]
      simp only [AV.toW, AV.toV, this, Option.map_some]
    · cases h
  · cases h
  · simp only [Option.some.injEq] at h; subst h; rfl
theorem ofW_spec {u : Value} {st : Bool} {a : AV} (h : ofW u st = some a) : a.toW = some u ∧ ∀ E, RV E a u := by
  unfold ofW at h
  split at h
  · rename_i vs
    simp only [Option.map_eq_some_iff] at h
    obtain ⟨ps, hps, rfl⟩ := h
    refine ⟨?_, fun E => ?_⟩
    · obtain ⟨i1, _⟩ := partsW_spec (E := []) _ _ hps
      simp only [AV.toW, i1, Option.map_some]
    · obtain ⟨_, i2, i3⟩ := partsW_spec (E := E) _ _ hps
      exact ⟨vs.toList, by simp, i2, i3⟩
  · exact ⟨ofV_toW h, fun E => ofV_RV h⟩
def AR (w : World) : ArgV → Value → Prop
  | .val v, u => u = v
  | .mem e cells, u => ∃ b o c fz, u = .pointer (some ⟨b, o + 0, none⟩) ∧ w.heap[b]? = some (.cells c e fz) ∧ o ≤ c.size ∧ cells.length ≤ c.size - o ∧ (c.toList.drop o).take cells.length = cells ∧ ∀ v ∈ cells, v.oneCell' = true
  | .sli e cells off len sz, u => ∃ b o c fz cap, u = .slice (some ⟨b, o + off, none⟩) len cap ∧ w.heap[b]? = some (.cells c e fz) ∧ o ≤ c.size ∧ cells.length ≤ c.size - o ∧ (c.toList.drop o).take cells.length = cells ∧ (∀ v ∈ cells, v.oneCell' = true) ∧ len ≤ cap ∧ cap ≤ maxLen ∧ off + cap * sz ≤ c.size - o
def ARs (w : World) (avs : List ArgV) (us : List Value) : Prop :=
  avs.length = us.length ∧ ∀ (j : Nat) (v : ArgV) (u : Value), avs[j]? = some v → us[j]? = some u → AR w v u
def Con (P : Program) (f : FuncId) (G : List ArgV → Option Value) : Prop :=
  (∀ (vs : Array Value) (w : World), (callFunc f vs).run P w = .ok (.enter f vs) w) ∧
  ∀ (avs : List ArgV) (u : Value), G avs = some u → ∀ (w : World) (us : List Value), LaidW w.heap.size w → ARs w avs us → Calls P f us.toArray w fun e w' => e = .returned u ∧ Below w.heap.size w w'
theorem viewA_AR {B : Nat} {w0 : World} {E : Env} {hp : List Blk} {w : World} (hh : RH B w0 E hp w) {a : AV} {av : ArgV} {u : Value} (h : viewA hp a = some av) (hr : RV E a u) : AR w av u := by
  unfold viewA at h
  split at h
  · rename_i i
    split at h
    · rename_i b hb
      simp only [Option.map_eq_some_iff] at h
      obtain ⟨vs, hvs, rfl⟩ := h
      obtain ⟨hi, hl⟩ := liveB_some hb
      obtain ⟨e, he, rfl⟩ := hr
      obtain ⟨c, fz, hc, h1, _, ⟨h3, _⟩, h4⟩ := hh.blk i b e hi he hl
      have hv := toV_RCs hvs h4
      have hlen : vs.length = b.cells.length := (allV_spec _ _ hvs).1.symm
      exact ⟨e.b, e.o, c, fz, rfl, hc, by omega, by omega, by rw [hlen]; exact hv, by rw [← hv]; exact h4.ones⟩
    · cases h
  · rename_i i off len sz
    split at h
    · rename_i b hb
      simp only [Option.map_eq_some_iff] at h
      obtain ⟨vs, hvs, rfl⟩ := h
      obtain ⟨hi, hl⟩ := liveB_some hb
      obtain ⟨e, cap, he, rfl, hl1, hl2, hl3⟩ := hr
      obtain ⟨c, fz, hc, h1, _, ⟨h3, _⟩, h4⟩ := hh.blk i b e hi he hl
      have hv := toV_RCs hvs h4
      have hlen : vs.length = b.cells.length := (allV_spec _ _ hvs).1.symm
      exact ⟨e.b, e.o, c, fz, cap, rfl, hc, by omega, by omega, by rw [hlen]; exact hv, by rw [← hv]; exact h4.ones, hl1, hl2, by omega⟩
    · cases h
  · split at h
    · rename_i v hv
      simp only [Option.some.injEq] at h; subst h
      exact toV_RV hv hr
    · cases h
theorem viewsA_ARs {B : Nat} {w0 : World} {E : Env} {hp : List Blk} {w : World} (hh : RH B w0 E hp w) : ∀ (args : List AV) (avs : List ArgV) (us : List Value), viewsA hp args = some avs → RA E args us → ARs w avs us
  | [], avs, us, h, hr => by
    simp only [viewsA, Option.some.injEq] at h; subst h
    exact ⟨hr.1, by simp⟩
  | a :: l, avs, us, h, hr => by
    simp only [viewsA] at h
    split at h
    · rename_i v vs hv hvs
      simp only [Option.some.injEq] at h; subst h
      cases us with
      | nil => have := hr.1; simp at this
      | cons u us =>
        have h0 := viewA_AR hh hv (hr.2 0 a u rfl rfl)
        obtain ⟨i1, i2⟩ := viewsA_ARs hh l vs us hvs ⟨by have := hr.1; simpa using this, fun j v' u' h1 h2 => hr.2 (j + 1) v' u' (by simpa using h1) (by simpa using h2)⟩
        refine ⟨by simp [i1], fun j v' u' h1 h2 => ?_⟩
        cases j with
        | zero => simp at h1 h2; subst h1; subst h2; exact h0
        | succ j => simp at h1 h2; exact i2 j v' u' h1 h2
    · cases h
def Fns.none : Fns := { pure := fun _ _ _ => .none, pre := fun _ _ _ => .none, ext := fun _ _ => .none, gen := fun _ _ _ => .none, loops := fun _ => .none, pr := .none }
theorem FnsOk.none {P : Program} : FnsOk P Fns.none := ⟨(fun _ h => by cases h), (fun _ _ _ _ h => by cases h), (fun _ _ _ _ _ h => by cases h), (fun _ _ _ _ h => by cases h), (fun _ _ _ _ _ h => by cases h), (fun _ _ _ _ _ _ h => by cases h), (fun _ _ _ _ h => False.elim h), (fun _ _ _ h => by cases h)⟩
def Fns.add (F : Fns) (f : FuncId) (G : List ArgV → Option Value) : Fns :=
  { F with pure := fun g args hp => match Nat.beq g f with
      | true => match viewsA hp args with
        | some avs => match G avs with
          | some u => ofW u (args.all (viewS hp))
          | .none => .none
        | .none => .none
      | false => F.pure g args hp }
theorem FnsOk.add {P : Program} {F : Fns} {f : FuncId} {G : List ArgV → Option Value} (hF : FnsOk P F) (hc : Con P f G) : FnsOk P (F.add f G) := by
  refine ⟨hF.pr, fun g args hp v h => ?_, hF.pre, hF.ext, hF.gen, hF.gnp, hF.cal, hF.loops⟩
  simp only [Fns.add] at h
  split at h
  · rename_i hg
    have hg' : g = f := by rw [beq_eq] at hg; simpa using hg
    subst hg'
    split at h
    · rename_i avs havs
      split at h
      · rename_i u hu
        obtain ⟨h1, h2⟩ := ofW_spec h
        exact ⟨hc.1, u, h1, h2, fun B w0 E w us hh hr => hc.2 avs u hu w us hh.laidW (viewsA_ARs hh args avs us havs hr)⟩
      · cases h
    · cases h
  · exact hF.pure g args hp v h
def ConP (P : Program) (f : FuncId) (G : List ArgV → Option (Prop × Value)) : Prop :=
  (∀ (vs : Array Value) (w : World), (callFunc f vs).run P w = .ok (.enter f vs) w) ∧
  ∀ (avs : List ArgV) (p : Prop) (u : Value), G avs = some (p, u) → p → ∀ (w : World) (us : List Value), LaidW w.heap.size w → ARs w avs us → Calls P f us.toArray w fun e w' => e = .returned u ∧ Below w.heap.size w w'
def Fns.addP (F : Fns) (f : FuncId) (G : List ArgV → Option (Prop × Value)) : Fns :=
  { F with pre := fun g args hp => match Nat.beq g f with
      | true => match viewsA hp args with
        | some avs => match G avs with
          | some (p, u) => match ofW u (args.all (viewS hp)) with
            | some a => some (p, a)
            | .none => .none
          | .none => .none
        | .none => .none
      | false => F.pre g args hp }
theorem FnsOk.addP {P : Program} {F : Fns} {f : FuncId} {G : List ArgV → Option (Prop × Value)} (hF : FnsOk P F) (hc : ConP P f G) : FnsOk P (F.addP f G) := by
  refine ⟨hF.pr, hF.pure, fun g args hp p v h hp1 => ?_, hF.ext, hF.gen, hF.gnp, hF.cal, hF.loops⟩
  simp only [Fns.addP] at h
  split at h
  · rename_i hg
    have hg' : g = f := by rw [beq_eq] at hg; simpa using hg
    subst hg'
    split at h
    · rename_i avs havs
      split at h
      · rename_i p' u hu
        split at h
        · rename_i a ha
          simp only [Option.some.injEq, Prod.mk.injEq] at h
          obtain ⟨rfl, rfl⟩ := h
          obtain ⟨h1, h2⟩ := ofW_spec ha
          exact ⟨hc.1, u, h1, h2, fun B w0 E w us hh hr => hc.2 avs p' u hu hp1 w us hh.laidW (viewsA_ARs hh args avs us havs hr)⟩
        · cases h
      · cases h
    · cases h
  · exact hF.pre g args hp p v h hp1
def valsA : List AV → Option (List Value)
  | [] => some []
  | a :: l => match a.toV, valsA l with
    | some v, some vs => some (v :: vs)
    | _, _ => none
theorem valsA_RA {E : Env} : ∀ (args : List AV) (vs us : List Value), valsA args = some vs → RA E args us → us = vs
  | [], vs, us, h, hr => by
    simp only [valsA, Option.some.injEq] at h; subst h
    exact List.eq_nil_of_length_eq_zero hr.1.symm
  | a :: l, vs, us, h, hr => by
    simp only [valsA] at h
    split at h
    · rename_i v ws hv hws
      simp only [Option.some.injEq] at h; subst h
      cases us with
      | nil => have := hr.1; simp at this
      | cons u us =>
        rw [toV_RV hv (hr.2 0 a u rfl rfl), valsA_RA l ws us hws ⟨by have := hr.1; simpa using this, fun j v' u' h1 h2 => hr.2 (j + 1) v' u' (by simpa using h1) (by simpa using h2)⟩]
    · cases h
def Fns.addX (F : Fns) (f : FuncId) (G : List Value → Option (Option Prop × Value)) : Fns :=
  { F with ext := fun g args => match Nat.beq g f with
      | true => match valsA args with
        | some vs => match G vs with
          | some (p, u) => match ofV u (args.all AV.static) with
            | some a => some (p, a)
            | .none => .none
          | .none => .none
        | .none => .none
      | false => F.ext g args }
theorem FnsOk.addX {P : Program} {F : Fns} {f : FuncId} {G : List Value → Option (Option Prop × Value)} (hF : FnsOk P F)
    (hc : ∀ (vs : List Value) (p : Option Prop) (u : Value), G vs = some (p, u) → (∀ q, p = some q → q) → ∀ w, (callFunc f vs.toArray).run P w = .ok (.value u) w) : FnsOk P (F.addX f G) := by
  refine ⟨hF.pr, hF.pure, hF.pre, fun g args p v h hp1 => ?_, hF.gen, hF.gnp, hF.cal, hF.loops⟩
  simp only [Fns.addX] at h
  split at h
  · rename_i hg
    have hg' : g = f := by rw [beq_eq] at hg; simpa using hg
    subst hg'
    split at h
    · rename_i vs hvs
      split at h
      · rename_i p' u hu
        split at h
        · rename_i a ha
          simp only [Option.some.injEq, Prod.mk.injEq] at h
          obtain ⟨rfl, rfl⟩ := h
          exact ⟨u, fun E => ofV_RV ha, fun E us hr w => by rw [valsA_RA args vs us hvs hr]; exact hc vs p' u hu hp1 w⟩
        · cases h
      · cases h
    · cases h
  · exact hF.ext g args p v h hp1
def Fns.addLoop (F : Fns) (k : Nat) (c : Code) (g : Tm → List Blk → Option (Prop × Ex × Tm × List Blk)) : Fns :=
  { F with loops := fun j => match Nat.beq j k with
      | true => some (c, g)
      | false => F.loops j }
/-! ### contracts out of runs -/
end Sm
namespace Sm
open Go Go.RowKit
section adopt
variable {B : Nat} {w0 : World} {E : Env} {hp : List Blk} {w w' : World}
end adopt
/-! ### the row's last steps -/
theorem trodAll_below {H : Type} {enc : TypeId × Value → H} {P : Program} (hl : laidOutB P = true) {W W' : World} (hb : Below W.heap.size W W') : ∀ (ts : List TypeId) (vs : List Value) (ds : List (DataW H)) (ps : List MemPlace),
    (ts.all fun t => P.readableRec t && decide (t < P.types.size)) = true → DataW.TrodAll enc P W 0 (fun _ => true) true ts vs ds ps → (∀ x ∈ ps, x.block < W.heap.size) →
    DataW.TrodAll enc P W' 0 (fun b => decide (b < W.heap.size)) true ts vs ds ps
  | [], vs, ds, ps, _, h, _ => by
    cases vs <;> cases ds <;> simp [DataW.TrodAll] at h ⊢ <;> exact h
  | t :: ts, vs, ds, ps, hr, h, hlt => by
    cases vs with
    | nil => simp [DataW.TrodAll] at h
    | cons v vs =>
      cases ds with
      | nil => simp [DataW.TrodAll] at h
      | cons d ds =>
        obtain ⟨p, q, h1, h2, rfl⟩ := h
        simp only [List.all_cons, Bool.and_eq_true, decide_eq_true_eq] at hr
        exact ⟨p, q, Below.trod hl hr.1.1 hr.1.2 h1 hb (fun x hx => hlt x (by simp [hx])), trodAll_below hl hb ts vs ds q (by simpa using hr.2) h2 (fun x hx => hlt x (by simp [hx])), rfl⟩
theorem trodAll_lt {H : Type} {enc : TypeId × Value → H} {P : Program} {W : World} : ∀ (ts : List TypeId) (vs : List Value) (ds : List (DataW H)) (ps : List MemPlace),
    DataW.TrodAll enc P W 0 (fun _ => true) true ts vs ds ps → ∀ x ∈ ps, x.block < W.heap.size
  | [], vs, ds, ps, h => by
    cases vs <;> cases ds <;> simp [DataW.TrodAll] at h
    subst h
    simp
  | t :: ts, vs, ds, ps, h => by
    cases vs with
    | nil => simp [DataW.TrodAll] at h
    | cons v vs =>
      cases ds with
      | nil => simp [DataW.TrodAll] at h
      | cons d ds =>
        obtain ⟨p, q, h1, h2, rfl⟩ := h
        intro x hx
        rcases List.mem_append.1 hx with hx | hx
        · obtain ⟨m, hm⟩ := h1
          exact DataW.trod_lt m _ _ _ hm x hx
        · exact trodAll_lt ts vs ds q h2 x hx
end Sm
namespace Sm
open Go
/-! ### tables out of the program's own facts -/
def zeroOf (i : TypeInfo) : List C1 :=
  match i.zero with
  | some z => if z.cells.toList.all oneC && Nat.beq z.cells.toList.length i.size then z.cells.toList.map fun v => .sc v true else []
  | none => []
def tiOf (d : TypeDesc) (i : TypeInfo) : TI := { desc := d, size := i.size, bytes := i.bytes, zero := zeroOf i }
structure TRow where
  t : TypeId
  d : TypeDesc
  i : TypeInfo
def lookT : List TRow → TypeId → Option TI
  | [], _ => none
  | r :: l, t => match Nat.beq r.t t with
    | true => some (tiOf r.d r.i)
    | false => lookT l t
def memN : List Nat → Nat → Bool
  | [], _ => false
  | x :: l, t => match Nat.beq x t with
    | true => true
    | false => memN l t
theorem memN_spec : ∀ (l : List Nat) (t : Nat), memN l t = true → t ∈ l
  | [], t, h => by cases h
  | x :: l, t, h => by
    simp only [memN] at h
    split at h
    · rename_i hb
      rw [beq_eq] at hb
      simp at hb
      simp [hb]
    · simp [memN_spec l t h]
theorem lookT_spec : ∀ (l : List TRow) (t : TypeId) (ti : TI), lookT l t = some ti → ∃ r ∈ l, r.t = t ∧ ti = tiOf r.d r.i
  | [], t, ti, h => by cases h
  | r :: l, t, ti, h => by
    simp only [lookT] at h
    split at h
    · rename_i hb
      rw [beq_eq] at hb
      simp at hb
      simp only [Option.some.injEq] at h
      exact ⟨r, by simp, hb, h.symm⟩
    · obtain ⟨r', h1, h2⟩ := lookT_spec l t ti h
      exact ⟨r', by simp [h1], h2⟩
theorem allV_map (vs : List Value) (st : Bool) : allV (vs.map fun v => C1.sc v st) = some vs := by
  induction vs with
  | nil => rfl
  | cons x l ih => simp [allV, C1.toV, ih]
theorem tabOk_of {P : Program} {m : Bool} (l : List TRow) (eqs : List Nat) (h : ∀ r ∈ l, P.underlying r.t = some r.d ∧ P.info? r.t = some r.i) (he : ∀ t ∈ eqs, P.stoodInHeld t = false ∧ P.eqGuardType P.depth t = false) :
    TabOk P { ty := lookT l, eqOk := memN eqs, mg := m } := by
  refine ⟨fun t ti hti => ?_, fun t ht => he t (memN_spec eqs t ht), fun f fn h => by cases h⟩
  obtain ⟨r, hr, rfl, rfl⟩ := lookT_spec l t ti hti
  obtain ⟨h1, h2⟩ := h r hr
  refine ⟨h1, r.i, h2, rfl, rfl, fun hne => ?_⟩
  simp only [tiOf, zeroOf] at hne ⊢
  split at hne
  · rename_i z hz
    split at hne
    · rename_i hc
      simp only [Bool.and_eq_true] at hc
      refine ⟨z, z.cells.toList, hz, ?_, rfl, fun v hv => ?_, ?_⟩
      · rw [if_pos (by simp only [Bool.and_eq_true]; exact hc)]
        exact allV_map _ _
      · rw [← oneC_eq]; exact List.all_eq_true.1 hc.1 v hv
      · rw [if_pos (by simp only [Bool.and_eq_true]; exact hc)]
        have := hc.2
        rw [beq_eq] at this
        simpa using this
    · exact absurd rfl hne
  · exact absurd rfl hne
theorem TabOk.withFn {P : Program} {T : Tab} (h : TabOk P T) {g : FuncId → Option Func} (hg : ∀ (f : FuncId) (fn : Func), g f = some fn → P.funcs[f]? = some fn ∧ ∀ (vs : Array Value) (w : World), (callFunc f vs).run P w = .ok (.enter f vs) w) :
    TabOk P { T with fn := g } := ⟨h.ty, h.eq, hg⟩
def lookF : List (FuncId × Func) → FuncId → Option Func
  | [], _ => none
  | (g, fn) :: l, f => match Nat.beq g f with
    | true => some fn
    | false => lookF l f
theorem lookF_spec : ∀ (l : List (FuncId × Func)) (f : FuncId) (fn : Func), lookF l f = some fn → (f, fn) ∈ l
  | [], f, fn, h => by cases h
  | (g, x) :: l, f, fn, h => by
    unfold lookF at h
    split at h
    · rename_i hg
      rw [beq_eq, decide_eq_true_eq] at hg
      simp only [Option.some.injEq] at h
      subst hg; subst h
      simp
    · exact List.mem_cons_of_mem _ (lookF_spec l f fn h)
theorem of_run {p q : Prop} (h : p = q) (hq : q) : p := h ▸ hq
end Sm
namespace Sm
open Go
def li (n : Int) : AV := .one (.sc (.int .i64 n) true)
end Sm
