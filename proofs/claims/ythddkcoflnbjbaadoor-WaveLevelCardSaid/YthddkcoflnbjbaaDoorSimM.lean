/-
  What is proved here: a contract for a function that hands back a new slice; the last steps of a row (what the arguments read as behind the call). A text to be imported.
-/
import Derived.Test.YthddkcoflnbjbaaDoorSimL
import Derived.ProofKit
import Derived.OpenShut
import Derived.ShutString
import Derived.ChangeOld
import Derived.Below
import Derived.Carry
namespace Sm
open Go Go.RowKit

section adopt
variable {B : Nat} {w0 : World} {E : Env} {hp : List Blk} {w w' : World}

/-- A block that another call has made. -/
theorem RH.adopt (hh : RH B w0 E hp w) (hb : Below w.heap.size w w') {b : Blk} {e : EB} {c : Array Value} (hc : w'.heap[e.b]? = some (.cells c b.elem (0, 0))) (hn : c.size = e.n) (ho : e.o = 0) (hnew : w.heap.size ≤ e.b)
    (hlen : b.cells.length ≤ c.size) (hcs : ∀ E', RCs E' b.cells (c.toList.take b.cells.length)) (hz : ∀ b q cs, ¬ e.fz b q cs) (hz2 : ∀ b, ¬ e.own b) : RH B w0 (E ++ [e]) (hp ++ [b]) w' := by
  have h := hh.congr hb
  have hpre : E <+: E ++ [e] := ⟨_, rfl⟩
  have hsz := hh.size
  have last : ∀ (k : Nat) (x : EB), ¬ k < hp.length → (E ++ [e])[k]? = some x → k = hp.length ∧ x = e := fun k x hk hx => by
    rw [List.getElem?_append_right (by rw [hh.len]; omega)] at hx
    have h0 := (List.getElem?_eq_some_iff.1 hx).1
    simp at h0
    have hk0 : k - E.length = 0 := by omega
    rw [hk0] at hx
    simp at hx
    exact ⟨by rw [hh.len] at hk0; omega, hx.symm⟩
  have old : ∀ (k : Nat) (x : Blk) (ek : EB), hp[k]? = some x → E[k]? = some ek → x.live = true → ek.b < w.heap.size := fun k x ek hx hek hl => by
    obtain ⟨c', fz, hc', _⟩ := hh.blk k x ek hx hek hl
    exact (Array.getElem?_eq_some_iff.1 hc').1
  have hfz : EvLe (E ++ [e]) E := .none hz hz2
  refine ⟨h.below, h.base, h.laid, by simp [hh.len], fun k x ek hx hek hl => ?_, fun i j bi bj ei ej hij hi hj hei hej hli hlj hro => ?_,
    hh.frz.keep hfz (.of hpre) (fun b' c' t z hc' _ => by rw [hb.block b' (Array.getElem?_eq_some_iff.1 hc').1]; exact hc') fun k x ek hx hek hl hro => ?_⟩
  · by_cases hk : k < hp.length
    · rw [List.getElem?_append_left hk] at hx
      rw [List.getElem?_append_left (by rw [hh.len]; exact hk)] at hek
      obtain ⟨c', fz, r1, r2, r3, r4, r5⟩ := h.blk k x ek hx hek hl
      exact ⟨c', fz, r1, r2, r3, r4, r5.mono hpre⟩
    · obtain ⟨rfl, rfl⟩ := last k ek hk hek
      rw [List.getElem?_append_right (Nat.le_refl _), Nat.sub_self] at hx
      simp at hx
      subst hx
      exact ⟨c, (0, 0), hc, by omega, fun _ => ⟨rfl, by omega, ho⟩, by omega, by rw [ho, List.drop_zero]; exact hcs _⟩
  · by_cases h1 : i < hp.length <;> by_cases h2 : j < hp.length
    · rw [List.getElem?_append_left h1] at hi
      rw [List.getElem?_append_left h2] at hj
      rw [List.getElem?_append_left (by rw [hh.len]; exact h1)] at hei
      rw [List.getElem?_append_left (by rw [hh.len]; exact h2)] at hej
      exact hh.inj i j bi bj ei ej hij hi hj hei hej hli hlj hro
    · rw [List.getElem?_append_left h1] at hi
      rw [List.getElem?_append_left (by rw [hh.len]; exact h1)] at hei
      obtain ⟨rfl, rfl⟩ := last j ej h2 hej
      have := old i bi ei hi hei hli
      omega
    · rw [List.getElem?_append_left h2] at hj
      rw [List.getElem?_append_left (by rw [hh.len]; exact h2)] at hej
      obtain ⟨rfl, rfl⟩ := last i ei h1 hei
      have := old j bj ej hj hej hlj
      omega
    · obtain ⟨rfl, _⟩ := last i ei h1 hei
      obtain ⟨rfl, _⟩ := last j ej h2 hej
      exact absurd rfl hij
  · by_cases hk : k < hp.length
    · rw [List.getElem?_append_left hk] at hx
      rw [List.getElem?_append_left (by rw [hh.len]; exact hk)] at hek
      exact .inl ⟨k, x, ek, hx, hek, hl, hro, rfl⟩
    · obtain ⟨rfl, rfl⟩ := last k ek hk hek
      exact .inr hnew

end adopt

/-- What a call of a maker of a slice hands back. -/
def sliceG (len sz : Nat) (b : Blk) : List AV → List Blk → Option (AV × List Blk) := fun args hp =>
  match args with
  | [] => some (.one (.sl hp.length 0 len sz), hp ++ [b])
  | _ => none

/-- A function without arguments that makes a slice of values without memory. -/
theorem FnsOk.addSlice {P : Program} {T : Tab} {F F' : Fns} (hm : P.follows .mixedOrders = true) (hT : TabOk P T) (hF' : FnsOk P F') (hF : FnsOk P F) {f : FuncId} {fn : Func} (hf : P.funcs[f]? = some fn)
    (hcall : ∀ (vs : Array Value) (w : World), (callFunc f vs).run P w = .ok (.enter f vs) w) {len sz n k : Nat} {orc : List Sg} {b : Blk} {vs : List Value}
    (hvs : allV b.cells = some vs) (h1 : ∀ v ∈ vs, v.oneCell' = true) (hl : b.live = true) (hro : b.ro = false)
    (hrun : runK P T F' n fn [] [] orc (fun r hp => r = some (.one (.sl k 0 len sz)) ∧ getB hp k = some b)) : FnsOk P (F.addGen f (sliceG len sz b)) := by
  refine ⟨hF.pr, hF.pure, hF.pre, hF.ext, fun g args hp v hp' h => ?_, hF.gnp, hF.cal, hF.loops⟩
  simp only [Fns.addGen] at h
  split at h
  · rename_i hg
    have hg' : g = f := by rw [beq_eq] at hg; simpa using hg
    subst hg'
    refine ⟨hcall, fun B w0 E w us hh hr => ?_⟩
    unfold sliceG at h
    split at h
    · simp only [Option.some.injEq, Prod.mk.injEq] at h
      obtain ⟨rfl, rfl⟩ := h
      have hus : us = [] := List.eq_nil_of_length_eq_zero hr.1.symm
      subst hus
      have hh0 : RH w.heap.size w [] [] w := ⟨Below.refl _ _, Nat.le_refl _, hh.laidW, rfl, by simp, by simp, NoFz.nil.frz _ _ _⟩
      refine (run_sound hm hT hF' hf hrun hh0 ⟨rfl, by simp⟩ (fun r hp' hr => ⟨_, hr.1⟩)).mono ?_
      rintro e w' ⟨v', hp', E', u', rfl, ⟨hk, hb⟩, _, hrv, hrh⟩
      simp only [Option.some.injEq] at hk
      subst hk
      rw [getB_eq] at hb
      obtain ⟨e, cap, he, rfl, hlc, hcm, hcn⟩ := hrv
      obtain ⟨c, hc, r1, hB, hoo, r3, r4⟩ := hrh.own hb he hl hro
      have hcs : ∀ E', RCs E' b.cells (c.toList.take b.cells.length) := fun E' => by
        rw [toV_RCs hvs r4]
        exact allV_RCs hvs h1
      exact ⟨E ++ [EB.at e.b e.o e.n], _, rfl, ⟨_, rfl⟩, ⟨EB.at e.b e.o e.n, cap, env_last E _ _ hh.len, rfl, hlc, hcm, hcn⟩, hh.adopt hrh.below hc r1 hoo hB r3 hcs (fun _ _ _ h => h) (fun _ h => h)⟩
    · cases h
  · exact hF.gen g args hp v hp' h

/-! ### the row's last steps -/

/-- Behind a call that has turned nothing that was there, the arguments read as they read. -/
theorem trodAll_below {H : Type} {enc : TypeId × Value → H} {P : Program} (hl : laidOutB P = true) {W W' : World} (hb : Below W.heap.size W W') : ∀ (ts : List TypeId) (vs : List Value) (ds : List (DataW H)) (ps : List MemPlace),
    (ts.all fun t => P.readableRec t && decide (t < P.types.size)) = true → DataW.TrodAll enc P W 0 (fun _ => true) true ts vs ds ps → (∀ x ∈ ps, x.block < W.heap.size) →
    DataW.TrodAll enc P W' 0 (fun b => decide (b < W.heap.size)) true ts vs ds ps
  | [], vs, ds, ps, _, h, _ => by
    cases vs <;> cases ds <;> simp [DataW.TrodAll] at h ⊢ <;> exact h
  | t :: ts, vs, ds, ps, hr, h, hlt => by
    cases vs with
    | nil => simp [DataW.TrodAll] at h
    | cons v vs =>
      cases ds with
      | nil => simp [DataW.TrodAll] at h
      | cons d ds =>
        obtain ⟨p, q, h1, h2, rfl⟩ := h
        simp only [List.all_cons, Bool.and_eq_true, decide_eq_true_eq] at hr
        exact ⟨p, q, Below.trod hl hr.1.1 hr.1.2 h1 hb (fun x hx => hlt x (by simp [hx])), trodAll_below hl hb ts vs ds q (by simpa using hr.2) h2 (fun x hx => hlt x (by simp [hx])), rfl⟩

theorem trodAll_lt {H : Type} {enc : TypeId × Value → H} {P : Program} {W : World} : ∀ (ts : List TypeId) (vs : List Value) (ds : List (DataW H)) (ps : List MemPlace),
    DataW.TrodAll enc P W 0 (fun _ => true) true ts vs ds ps → ∀ x ∈ ps, x.block < W.heap.size
  | [], vs, ds, ps, h => by
    cases vs <;> cases ds <;> simp [DataW.TrodAll] at h
    subst h
    simp
  | t :: ts, vs, ds, ps, h => by
    cases vs with
    | nil => simp [DataW.TrodAll] at h
    | cons v vs =>
      cases ds with
      | nil => simp [DataW.TrodAll] at h
      | cons d ds =>
        obtain ⟨p, q, h1, h2, rfl⟩ := h
        intro x hx
        rcases List.mem_append.1 hx with hx | hx
        · obtain ⟨m, hm⟩ := h1
          exact DataW.trod_lt m _ _ _ hm x hx
        · exact trodAll_lt ts vs ds q h2 x hx

end Sm

namespace Sm
open Go

/-! ### tables out of the program's own facts -/

def zeroOf (i : TypeInfo) : List C1 :=
  match i.zero with
  | some z => if z.cells.toList.all oneC && Nat.beq z.cells.toList.length i.size then z.cells.toList.map fun v => .sc v true else []
  | none => []

def tiOf (d : TypeDesc) (i : TypeInfo) : TI := { desc := d, size := i.size, bytes := i.bytes, zero := zeroOf i }

structure TRow where
  t : TypeId
  d : TypeDesc
  i : TypeInfo

def lookT : List TRow → TypeId → Option TI
  | [], _ => none
  | r :: l, t => match Nat.beq r.t t with
    | true => some (tiOf r.d r.i)
    | false => lookT l t

def memN : List Nat → Nat → Bool
  | [], _ => false
  | x :: l, t => match Nat.beq x t with
    | true => true
    | false => memN l t

theorem memN_spec : ∀ (l : List Nat) (t : Nat), memN l t = true → t ∈ l
  | [], t, h => by cases h
  | x :: l, t, h => by
    simp only [memN] at h
    split at h
    · rename_i hb
      rw [beq_eq] at hb
      simp at hb
      simp [hb]
    · simp [memN_spec l t h]

theorem lookT_spec : ∀ (l : List TRow) (t : TypeId) (ti : TI), lookT l t = some ti → ∃ r ∈ l, r.t = t ∧ ti = tiOf r.d r.i
  | [], t, ti, h => by cases h
  | r :: l, t, ti, h => by
    simp only [lookT] at h
    split at h
    · rename_i hb
      rw [beq_eq] at hb
      simp at hb
      simp only [Option.some.injEq] at h
      exact ⟨r, by simp, hb, h.symm⟩
    · obtain ⟨r', h1, h2⟩ := lookT_spec l t ti h
      exact ⟨r', by simp [h1], h2⟩

theorem allV_map (vs : List Value) (st : Bool) : allV (vs.map fun v => C1.sc v st) = some vs := by
  induction vs with
  | nil => rfl
  | cons x l ih => simp [allV, C1.toV, ih]

theorem tabOk_of {P : Program} {m : Bool} (l : List TRow) (eqs : List Nat) (h : ∀ r ∈ l, P.underlying r.t = some r.d ∧ P.info? r.t = some r.i) (he : ∀ t ∈ eqs, P.stoodInHeld t = false ∧ P.eqGuardType P.depth t = false) :
    TabOk P { ty := lookT l, eqOk := memN eqs, mg := m } := by
  refine ⟨fun t ti hti => ?_, fun t ht => he t (memN_spec eqs t ht), fun f fn h => by cases h⟩
  obtain ⟨r, hr, rfl, rfl⟩ := lookT_spec l t ti hti
  obtain ⟨h1, h2⟩ := h r hr
  refine ⟨h1, r.i, h2, rfl, rfl, fun hne => ?_⟩
  simp only [tiOf, zeroOf] at hne ⊢
  split at hne
  · rename_i z hz
    split at hne
    · rename_i hc
      simp only [Bool.and_eq_true] at hc
      refine ⟨z, z.cells.toList, hz, ?_, rfl, fun v hv => ?_, ?_⟩
      · rw [if_pos (by simp only [Bool.and_eq_true]; exact hc)]
        exact allV_map _ _
      · rw [← oneC_eq]; exact List.all_eq_true.1 hc.1 v hv
      · rw [if_pos (by simp only [Bool.and_eq_true]; exact hc)]
        have := hc.2
        rw [beq_eq] at this
        simpa using this
    · exact absurd rfl hne
  · exact absurd rfl hne

theorem TabOk.withFn {P : Program} {T : Tab} (h : TabOk P T) {g : FuncId → Option Func} (hg : ∀ (f : FuncId) (fn : Func), g f = some fn → P.funcs[f]? = some fn ∧ ∀ (vs : Array Value) (w : World), (callFunc f vs).run P w = .ok (.enter f vs) w) :
    TabOk P { T with fn := g } := ⟨h.ty, h.eq, hg⟩

def lookF : List (FuncId × Func) → FuncId → Option Func
  | [], _ => none
  | (g, fn) :: l, f => match Nat.beq g f with
    | true => some fn
    | false => lookF l f

theorem lookF_spec : ∀ (l : List (FuncId × Func)) (f : FuncId) (fn : Func), lookF l f = some fn → (f, fn) ∈ l
  | [], f, fn, h => by cases h
  | (g, x) :: l, f, fn, h => by
    unfold lookF at h
    split at h
    · rename_i hg
      rw [beq_eq, decide_eq_true_eq] at hg
      simp only [Option.some.injEq] at h
      subst hg; subst h
      simp
    · exact List.mem_cons_of_mem _ (lookF_spec l f fn h)

theorem of_run {p q : Prop} (h : p = q) (hq : q) : p := h ▸ hq

end Sm

namespace Sm
open Go

/-- Guessed outcomes, one behind the other, and what is left. -/
def obs : List (Bool × Bool) → Prop → Prop
  | [], q => q
  | p :: l, q => p.1 = p.2 ∧ obs l q

theorem obs_of : ∀ (l : List (Bool × Bool)) (q : Prop), (∀ p ∈ l, p.1 = p.2) → q → obs l q
  | [], _, _, hq => hq
  | p :: l, q, h, hq => ⟨h p (by simp), obs_of l q (fun p hp => h p (by simp [hp])) hq⟩

def li (n : Int) : AV := .one (.sc (.int .i64 n) true)
def di (n : Int) : AV := .one (.sc (.int .i64 n) false)

end Sm
