/-
  What is proved here: quiet code, walked abstractly, has one outcome. results of calls, arguments of calls, as the abstract evaluator has them. A text to be imported.
-/
import Derived.Test.YtgpbpgbokfdbeaaDoorSimH
namespace Sm
set_option linter.unusedSimpArgs false
open Go Go.RowKit

section det
variable {P : Program} {T : Tab} {F : Fns} {hp : List Blk} {tm : Tm}

theorem scalK_det {o : Oper} {K : Post} (h : scalK P o tm hp K) : ∃ v, K v hp ∧ ∀ K' : Post, K' v hp → scalK P o tm hp K' := by
  unfold scalK at h ⊢
  split at h
  · rename_i h1
    split at h
    · rename_i v h2
      split at h
      · rename_i a h3
        refine ⟨a, h, fun K' hk => ?_⟩
        rw [if_pos h1]
        exact hk
      · exact h.elim
    · exact h.elim
  · exact h.elim

theorem nilK_det {op : BinOp} {K : Post} (h : nilK op hp K) : ∃ v, K v hp ∧ ∀ K' : Post, K' v hp → nilK op hp K' := by
  unfold nilK at h ⊢
  split at h
  · rename_i r h1
    exact ⟨_, h, fun K' hk => hk⟩
  · exact h.elim

theorem aggK_det {op : BinOp} {t : TypeId} {cs ds : List C1} {K : Post} (h : aggK T op t cs ds hp K) : ∃ v, K v hp ∧ ∀ K' : Post, K' v hp → aggK T op t cs ds hp K' := by
  unfold aggK at h ⊢
  split at h
  · rename_i xs ys h1 h2
    split at h
    · rename_i h3
      split at h
      · rename_i b h4
        split at h
        · rename_i r h5
          refine ⟨_, h, fun K' hk => ?_⟩
          rw [if_pos h3]
          exact hk
        · exact h.elim
      · exact h.elim
    · exact h.elim
  · exact h.elim

theorem binK_det {t : TypeId} {op : BinOp} {o : Oper} {x y : AV} {K : Post} (h : binK P T t op o x y tm hp K) : ∃ v, K v hp ∧ ∀ K' : Post, K' v hp → binK P T t op o x y tm hp K' := by
  unfold binK at h ⊢
  repeat' (first | exact h.elim | exact ⟨_, h, fun K' hk => hk⟩ | exact ⟨_, h.2, fun K' hk => ⟨h.1, hk⟩⟩ | exact ⟨_, h.2, fun K' hk => by rw [if_pos ‹_›]; exact ⟨h.1, hk⟩⟩ | exact ⟨_, h, fun K' hk => by rw [if_pos ‹_›]; exact hk⟩ | exact scalK_det h | exact aggK_det h | exact nilK_det h | (obtain ⟨v, h1, h2⟩ := scalK_det h; exact ⟨v, h1, fun K' hk => by first | rw [if_pos ‹_›]; exact h2 K' hk | rw [if_neg ‹_›]; exact h2 K' hk⟩) | (obtain ⟨v, h1, h2⟩ := nilK_det h; exact ⟨v, h1, fun K' hk => by rw [if_pos ‹_›]; exact h2 K' hk⟩) | split at h)

theorem mnmxK_det {great : Bool} {o : Oper} {xs : List Operand} {K : Post} (h : mnmxK P great o xs tm hp K) : ∃ v, K v hp ∧ ∀ K' : Post, K' v hp → mnmxK P great o xs tm hp K' := by
  unfold mnmxK at h ⊢
  repeat' (first | exact h.elim | exact scalK_det h | exact ⟨_, h.2, fun K' hk => by rw [if_pos ‹_›]; exact ⟨h.1, hk⟩⟩ | split at h)

theorem pick_det {t : Bool} {a b : AV} {K : Post} (h : (t = true → K a hp) ∧ (t = false → K b hp)) : ∃ v, K v hp ∧ ∀ K' : Post, K' v hp → (t = true → K' a hp) ∧ (t = false → K' b hp) := by
  cases t with
  | true => exact ⟨a, h.1 rfl, fun K' hk => ⟨fun _ => hk, fun e => by cases e⟩⟩
  | false => exact ⟨b, h.2 rfl, fun K' hk => ⟨fun e => (by cases e), fun _ => hk⟩⟩

theorem loadS_det {t : TypeId} {n : Nat} {g : Nat → C1} {off : Nat} {K : Post} (h : loadS T t hp n g off K) : ∃ v, K v hp ∧ ∀ K' : Post, K' v hp → loadS T t hp n g off K' := by
  unfold loadS at h ⊢
  split at h
  · split at h
    · exact ⟨_, h.2, fun K' hk => ⟨h.1, hk⟩⟩
    · exact ⟨_, h.2, fun K' hk => ⟨h.1, hk⟩⟩
  · exact h.elim

theorem storeS_det {i : Nat} {b : Blk} {n : Nat} {g : Nat → C1} {off : Nat} {cs : List C1} {K : Post} (h : storeS hp i b n g off cs K) : ∃ hp', K .undef hp' ∧ ∀ K' : Post, K' .undef hp' → storeS hp i b n g off cs K' := by
  unfold storeS at h ⊢
  split at h
  · exact h.elim
  · split at h
    · exact ⟨_, h.2, fun K' hk => ⟨h.1, hk⟩⟩
    · exact h.elim

theorem opK0_det {o : Oper} (hq : quietOp o = true) {K : Post} (h : opK0 P T o tm hp K) : ∃ v, K v hp ∧ ∀ K' : Post, K' v hp → opK0 P T o tm hp K' := by
  unfold quietOp at hq
  unfold opK0 at h ⊢
  split at hq
  all_goals (first | cases hq | skip)
  all_goals (rename_i ho; try simp only [ho, opPick, opExtract, opAlloc, opBox, opLoad, opStore, opNil, opFAddr, opField, opIAddr, opIndex, opBuild, opBSlice, opSlice, opMkFunc, opMakeSlice, opCall, opConv, opBStr] at h ⊢)
  all_goals (repeat' (first | exact h.elim | exact ⟨_, h, fun K' hk => hk⟩ | exact ⟨_, h, fun K' hk => by rw [if_pos ‹_›]; exact hk⟩ | exact ⟨_, h, fun K' hk => by rw [if_neg ‹_›]; exact hk⟩ | exact scalK_det h | exact binK_det h | exact loadS_det h | exact pick_det h | exact mnmxK_det h | exact ⟨_, h.2, fun K' hk => ⟨h.1, hk⟩⟩ | exact ⟨_, h, fun K' hk => by simp only [*]; exact hk⟩ | exact ⟨_, h, fun K' hk => by rw [if_neg (by assumption), if_neg (by assumption)]; exact hk⟩ | (simp [*] at hq; done) | split at h))

theorem opK_det {o : Oper} (hq : quietOp o = true) {K : Post} (h : opK P T o tm hp K) : ∃ v, K v hp ∧ ∀ K' : Post, K' v hp → opK P T o tm hp K' := by
  unfold opK at h ⊢
  split at h
  · rename_i c hc
    exact ⟨_, h, fun K' hk => hk⟩
  · exact opK0_det hq h

theorem anyOp_store {T : Tab} {o : Oper} {tm : Tm} {t : TypeId} {x y : Operand} (ho : o.op = .store t x y) : anyOp T o tm = none := by
  unfold anyOp
  rw [ho]

theorem guess_det {b : Bool} {orc : List Sg} {K : Bool → List Sg → Prop} (h : guess b orc K) : ∃ orc', K b orc' ∧ ∀ K' : Bool → List Sg → Prop, K' b orc' → guess b orc K' := by
  unfold guess at h ⊢
  split at h
  · obtain ⟨rfl, h⟩ := h
    exact ⟨_, h, fun K' hk => ⟨rfl, hk⟩⟩
  · cases b with
    | true => exact ⟨[], h.1 rfl, fun K' hk => ⟨fun _ => hk, fun e => (by cases e)⟩⟩
    | false => exact ⟨[], h.2 rfl, fun K' hk => ⟨fun e => (by cases e), fun _ => hk⟩⟩
  · exact h.elim

theorem fixA_det {o : Oper} {v : AV} {orc : List Sg} {K : AV → List Sg → Prop} (h : fixA o v orc K) : ∃ v' orc', K v' orc' ∧ ∀ K' : AV → List Sg → Prop, K' v' orc' → fixA o v orc K' := by
  unfold fixA at h ⊢
  split at h
  · exact ⟨_, _, h, fun K' hk => hk⟩
  · split at h
    · split at h
      · obtain ⟨hx, h⟩ := h
        exact ⟨_, _, h, fun K' hk => ⟨hx, hk⟩⟩
      · exact ⟨_, _, h, fun K' hk => hk⟩
    · exact ⟨_, _, h, fun K' hk => hk⟩

theorem joinAt_lean {a : Bool} {orc r : List Sg} (h : joinAt a orc = some r) : a = true := by
  cases a <;> first | rfl | (simp [joinAt] at h)

theorem mergeAt_quiet {a b : Bool} {orc r : List Sg} (h : mergeAt (a && b) orc = some r) : a = true ∧ b = true := by
  cases a <;> cases b <;> first | exact ⟨rfl, rfl⟩ | (simp [mergeAt] at h)

theorem quiet_not_store {o : Oper} {t : TypeId} {x y : Operand} (hq : quietOp o = true) (h : o.op = .store t x y) : False := by
  unfold quietOp at hq
  rw [h] at hq
  cases hq

theorem stepK_det {o : Oper} (hq : quietOp o = true) {K : Post} (h : stepK P T F.quiet o tm hp K) : ∃ v, K v hp ∧ ∀ K' : Post, K' v hp → stepK P T F.quiet o tm hp K' := by
  unfold stepK at h ⊢
  split at h
  · split at h
    · exact ⟨_, h, fun K' hk => hk⟩
    · split at h
      · exact ⟨_, h.2, fun K' hk => ⟨h.1, hk⟩⟩
      · split at h
        · split at h
          · exact ⟨_, h.2, fun K' hk => ⟨h.1, hk⟩⟩
          · exact ⟨_, h, fun K' hk => hk⟩
        · exact False.elim h
  · split at h
    · exact opK_det hq h
    · split at h
      · rename_i ho
        exact (quiet_not_store hq ho).elim
      · exact opK_det hq h

/-- Nothing that is there reads otherwise. -/
def Still (hp hp' : List Blk) : Prop := ∀ (B : Nat) (w0 : World) (E : Env) (w : World), RH B w0 E hp w → RH B w0 E hp' w

theorem semiK_det {o : Oper} (hq : semiOp o = true) {K : Post} (h : stepK P T F.quiet o tm hp K) :
    ∃ v hp', K v hp' ∧ ((F.pr = some false → Still hp hp') ∧ (quietOp o = true → hp' = hp)) ∧ ∀ K' : Post, K' v hp' → stepK P T F.quiet o tm hp K' := by
  have quiet : quietOp o = true → ∃ v hp', K v hp' ∧ ((F.pr = some false → Still hp hp') ∧ (quietOp o = true → hp' = hp)) ∧ ∀ K' : Post, K' v hp' → stepK P T F.quiet o tm hp K' := fun hq => by
    obtain ⟨v, h1, h2⟩ := stepK_det hq h
    exact ⟨v, hp, h1, ⟨fun _ _ _ _ _ h => h, fun _ => rfl⟩, h2⟩
  unfold semiOp at hq
  split at hq
  · rename_i t x y ho
    have hcal : calleeA tm o = none := by unfold calleeA callee?; simp only [ho]
    have hpq : F.quiet.pr = F.pr := rfl
    unfold stepK at h
    simp only [hcal, hpq, ho] at h
    cases hp1 : F.pr with
    | none =>
      simp only [hp1] at h
      have hany : anyOp T o tm = none := anyOp_store ho
      simp only [opK, hany, opK0, ho, opPick, opExtract, opAlloc, opBox, opLoad, opStore, opNil, opFAddr, opField, opIAddr, opIndex, opBuild, opBSlice, opSlice, opMkFunc, opMakeSlice, opCall, opConv] at h
      split at h
      · rename_i i off cs ti h1 h2 h3
        split at h
        · rename_i hc
          split at h
          · rename_i b n g hs
            obtain ⟨hp', hk1, hk2⟩ := storeS_det h
            refine ⟨_, hp', hk1, ⟨(fun e => by cases e), fun hqo => (quiet_not_store hqo ho).elim⟩, fun K' hk => ?_⟩
            unfold stepK
            simp only [hcal, hpq, hp1, opK, hany, opK0, ho, opStore, h1, h2, h3]
            rw [if_pos hc]
            simp only [hs]
            exact hk2 K' hk
          rename_i hns
          split at h
          · rename_i hp' hs
            refine ⟨_, hp', h, ⟨(fun e => by cases e), fun hqo => (quiet_not_store hqo ho).elim⟩, fun K' hk => ?_⟩
            unfold stepK
            simp only [hcal, hpq, hp1, opK, hany, opK0, ho, opStore, h1, h2, h3]
            rw [if_pos hc]
            simp only [hns, hs]
            exact hk
          · exact h.elim
        · exact h.elim
      · rename_i i k sz o' cs ti h1 h2 h3
        split at h
        · rename_i b n sz' f hs
          split at h
          · rename_i hc
            refine ⟨_, _, h.2, ⟨(fun e => by cases e), fun hqo => (quiet_not_store hqo ho).elim⟩, fun K' hk => ?_⟩
            unfold stepK
            simp only [hcal, hpq, hp1, opK, hany, opK0, ho, opStore, h1, h2, h3, hs]
            rw [if_pos hc]
            exact ⟨h.1, hk⟩
          · exact h.elim
        · exact h.elim
      · exact h.elim
    | some c =>
      simp only [hp1] at h
      unfold storePK at h
      split at h
      · rename_i i off cs ti h1 h2 h3
        split at h
        · rename_i hc
          split at h
          · rename_i hp' hs
            refine ⟨_, hp', h, ⟨fun e => ?_, fun hqo => (quiet_not_store hqo ho).elim⟩, fun K' hk => ?_⟩
            · simp only [Option.some.injEq] at e
              subst e
              exact fun B w0 E w hh => storeP_false hs hh
            · unfold stepK
              simp only [hcal, hpq, hp1, ho]
              unfold storePK
              simp only [h1, h2, h3]
              rw [if_pos hc]
              simp only [hs]
              exact hk
          · exact h.elim
        · exact h.elim
      · exact h.elim
  · exact quiet hq

/-- Nothing else is written. -/
def Fr (D : List Nat) (tm tm' : Tm) : Prop := tm'.n = tm.n ∧ ∀ i, i < tm.n → i ∉ D → getT tm' i = getT tm i

theorem Fr.refl (D : List Nat) (tm : Tm) : Fr D tm tm := ⟨rfl, fun _ _ _ => rfl⟩

theorem Fr.trans {D : List Nat} {a b c : Tm} (h : Fr D a b) (h' : Fr D b c) : Fr D a c :=
  ⟨h'.1.trans h.1, fun i hi hd => (h'.2 i (by rw [h.1]; exact hi) hd).trans (h.2 i hi hd)⟩

theorem Fr.set {D : List Nat} {tm : Tm} (hn : tm.n ≤ 4000) {d : Nat} (hd : d ∈ D) (v : AV) : Fr D tm (setT tm d v) :=
  ⟨setT_n tm d v, fun i hi hni => by rw [getT_setT hn hi, if_neg (by rintro rfl; exact hni hd)]⟩

theorem Fr.put {D : List Nat} {tm : Tm} (hn : tm.n ≤ 4000) {d : Option Tmp} (hd : ∀ i, d = some i → i ∈ D) (v : AV) : Fr D tm (putT tm d v) := by
  cases d with
  | none => exact Fr.refl D tm
  | some d => exact Fr.set hn (hd d rfl) v

theorem Fr.mono {D D' : List Nat} {a b : Tm} (h : Fr D a b) (hd : ∀ i ∈ D, i ∈ D') : Fr D' a b :=
  ⟨h.1, fun i hi hn => h.2 i hi fun hm => hn (hd i hm)⟩

theorem dstOf_mem {D : List Nat} : ∀ {ops : List Oper} {j : Nat} {d : Tmp}, (∀ o ∈ ops, ∀ i, o.dst = some i → i ∈ D) → dstOf ops j = some d → d ∈ D
  | o :: l, 0, d, h, e => h o (by simp) d e
  | o :: l, j + 1, d, h, e => dstOf_mem (ops := l) (fun o ho => h o (by simp [ho])) e

theorem mergeA_RV {E : Env} {t : Bool} {x y : AV} {u : Value} (h : RV E (bif t then x else y) u) : RV E (mergeA t x y) u := by
  unfold mergeA
  split
  · split
    · rename_i hk
      cases t with
      | true => exact h
      | false => subst hk; exact h
    · trivial
  · cases t <;> exact h
  · split
    · rename_i hk
      cases t with
      | true => exact h
      | false => subst hk; exact h
    · trivial
  · trivial


/-! ### operations under a condition -/

theorem beqB_spec : ∀ {a b : Bool}, beqB a b = true → a = b := by decide

theorem beqP_spec : ∀ {p q : List (Nat × Bool)}, beqP p q = true → p = q
  | [], [], _ => rfl
  | [], _ :: _, h => by cases h
  | _ :: _, [], h => by cases h
  | (a, b) :: l, (c, d) :: m, h => by
    simp only [beqP] at h
    split at h
    · rename_i h1
      rw [beq_eq] at h1
      split at h
      · rename_i h2
        rw [show a = c from by simpa using h1, beqB_spec h2, beqP_spec h]
      · cases h
    · cases h

theorem sufP_spec {p : List (Nat × Bool)} : ∀ {q : List (Nat × Bool)}, sufP p q = true → ∀ x ∈ p, x ∈ q
  | [], h => by
    cases p with
    | nil => simp
    | cons x l => cases h
  | y :: q, h => by
    simp only [sufP] at h
    split at h
    · rename_i h1
      rw [beqP_spec h1]
      exact fun x hx => hx
    · exact fun x hx => List.mem_cons_of_mem _ (sufP_spec h x hx)

theorem findE_spec : ∀ {ce : List Ent} {i : Nat} {e : Ent}, findE ce i = some e → e ∈ ce ∧ e.i = i
  | x :: l, i, e, h => by
    simp only [findE] at h
    split at h
    · rename_i h1
      rw [beq_eq] at h1
      simp only [Option.some.injEq] at h
      subst h
      exact ⟨by simp, by simpa using h1⟩
    · obtain ⟨h1, h2⟩ := findE_spec h
      exact ⟨List.mem_cons_of_mem _ h1, h2⟩

theorem memP_spec {d : Nat} : ∀ {p : List (Nat × Bool)}, memP d p = false → ∀ x ∈ p, x.1 ≠ d
  | [], _ => by simp
  | y :: p, h => by
    simp only [memP] at h
    split at h
    · cases h
    · rename_i h1
      rw [beq_eq] at h1
      intro x hx
      rcases List.mem_cons.1 hx with rfl | hx
      · simpa using h1
      · exact memP_spec h x hx

theorem dropE_spec {d : Nat} : ∀ {ce : List Ent}, ∀ e ∈ dropE d ce, e ∈ ce ∧ e.i ≠ d ∧ ∀ x ∈ e.p, x.1 ≠ d
  | [], e, h => by simp [dropE] at h
  | y :: l, e, h => by
    simp only [dropE] at h
    split at h
    · obtain ⟨h1, h2⟩ := dropE_spec e h
      exact ⟨List.mem_cons_of_mem _ h1, h2⟩
    · rename_i h1
      rw [beq_eq] at h1
      split at h
      · obtain ⟨h1, h2⟩ := dropE_spec e h
        exact ⟨List.mem_cons_of_mem _ h1, h2⟩
      · rename_i h2
        rcases List.mem_cons.1 h with rfl | h
        · exact ⟨by simp, by simpa using h1, memP_spec h2⟩
        · obtain ⟨h1, h2⟩ := dropE_spec e h
          exact ⟨List.mem_cons_of_mem _ h1, h2⟩

/-- The condition holds. -/
def holds (tmps : Array Value) (p : List (Nat × Bool)) : Prop := ∀ x ∈ p, boolAt tmps[x.1]? = some x.2

theorem holds_sub {tmps : Array Value} {p q : List (Nat × Bool)} (h : holds tmps q) (hs : ∀ x ∈ p, x ∈ q) : holds tmps p := fun x hx => h x (hs x hx)

def CE (E : Env) (ce : List Ent) (tmps : Array Value) : Prop :=
  ∀ e ∈ ce, (holds tmps e.p → RV E e.v (tmps.getD e.i Go.undef)) ∧ (¬ holds tmps e.p → tmps.getD e.i Go.undef = Go.undef)

theorem CE.nil (E : Env) (tmps : Array Value) : CE E [] tmps := by simp [CE]

theorem CE.mono {E E' : Env} (h : E <+: E') {ce : List Ent} {tmps : Array Value} (hc : CE E ce tmps) : CE E' ce tmps :=
  fun e he => ⟨fun hh => ((hc e he).1 hh).mono h, (hc e he).2⟩

theorem put_other (a : Act) {d i : Nat} (u : Value) (h : i ≠ d) : (a.put (some d) u).tmps[i]? = a.tmps[i]? := by
  simp only [Act.put, Array.getElem?_setIfInBounds]
  rw [if_neg (fun e => h e.symm)]

theorem holds_put {a : Act} {d : Nat} {u : Value} {p : List (Nat × Bool)} (h : ∀ x ∈ p, x.1 ≠ d) : holds (a.put (some d) u).tmps p ↔ holds a.tmps p := by
  constructor <;> intro hh x hx
  · rw [← put_other a u (h x hx)]; exact hh x hx
  · rw [put_other a u (h x hx)]; exact hh x hx

theorem CE.drop {E : Env} {ce : List Ent} {a : Act} (hc : CE E ce a.tmps) (d : Nat) (u : Value) : CE E (dropE d ce) (a.put (some d) u).tmps := by
  intro e he
  obtain ⟨h1, h2, h3⟩ := dropE_spec e he
  rw [holds_put h3, Array.getD_eq_getD_getElem?, put_other a u h2, ← Array.getD_eq_getD_getElem?]
  exact hc e h1

theorem CE.dropO {E : Env} {ce : List Ent} {a : Act} (hc : CE E ce a.tmps) (d : Option Tmp) (u : Value) : CE E (dropO d ce) (a.put d u).tmps := by
  cases d with
  | none => exact hc
  | some d => exact hc.drop d u

theorem boolAt_getD {tmps : Array Value} {d : Nat} (h : tmps.getD d Go.undef = Go.undef) : boolAt tmps[d]? = none := by
  rw [Array.getD_eq_getD_getElem?] at h
  cases he : tmps[d]? with
  | none => rfl
  | some v => rw [he] at h; simp only [Option.getD_some] at h; rw [h]; rfl

/-- The condition of a guard. -/
theorem CE.guard {E : Env} {ce : List Ent} {tmps : Array Value} (hc : CE E ce tmps) {d : Nat} {want : Bool} {e : Ent} (he : findE ce d = some e) : holds tmps ((d, want) :: e.p) ↔ boolAt tmps[d]? = some want := by
  obtain ⟨h1, h2⟩ := findE_spec he
  constructor
  · intro h; exact h (d, want) (by simp)
  · intro h x hx
    rcases List.mem_cons.1 hx with rfl | hx
    · exact h
    · refine Classical.byContradiction fun hn => ?_
      have := (hc e h1).2 fun hh => hn (hh x hx)
      rw [h2] at this
      rw [boolAt_getD this] at h
      cases h

theorem openT_sound {E : Env} {ce : List Ent} {tmps : Array Value} (hc : CE E ce tmps) {q : List (Nat × Bool)} (hq : holds tmps q) : ∀ (xs : List Operand) (tm : Tm), RT E tm tmps → RT E (openT ce q xs tm) tmps
  | [], tm, ht => ht
  | .const v :: l, tm, ht => openT_sound hc hq l tm ht
  | .global v :: l, tm, ht => openT_sound hc hq l tm ht
  | .func v :: l, tm, ht => openT_sound hc hq l tm ht
  | .tmp t :: l, tm, ht => by
    simp only [openT]
    split
    · rename_i e he
      split
      · rename_i hs
        obtain ⟨h1, h2⟩ := findE_spec he
        refine openT_sound hc hq l _ (ht.reset ?_)
        have := (hc e h1).1 (holds_sub hq (sufP_spec hs))
        rw [h2] at this
        exact this
      · exact openT_sound hc hq l tm ht
    · exact openT_sound hc hq l tm ht

theorem openT_n (ce : List Ent) (q : List (Nat × Bool)) : ∀ (xs : List Operand) (tm : Tm), (openT ce q xs tm).n = tm.n
  | [], tm => rfl
  | .const v :: l, tm => openT_n ce q l tm
  | .global v :: l, tm => openT_n ce q l tm
  | .func v :: l, tm => openT_n ce q l tm
  | .tmp t :: l, tm => by
    simp only [openT]
    split
    · split
      · rw [openT_n ce q l, setT_n]
      · exact openT_n ce q l tm
    · exact openT_n ce q l tm

theorem getT_RV {E : Env} {tm : Tm} {a : Act} (ht : RT E tm a.tmps) (t : Nat) : RV E (getT tm t) (a.tmps.getD t Go.undef) := ht.eval (.tmp t)

theorem pickV_sound {E : Env} {ce : List Ent} {a : Act} (hc : CE E ce a.tmps) (ht : RT E tm a.tmps) {r : List (Nat × Bool)} (hr : holds a.tmps r) {c x y : Operand} {v : AV} (h : pickV ce r tm c x y = some v) :
    ∃ g, a.eval c = .bool g ∧ RV E v (if g then a.eval x else a.eval y) := by
  unfold pickV at h
  split at h
  · rename_i t
    have ho := openT_sound hc hr [.tmp t] tm ht
    have hv := getT_RV (a := a) ho t
    split at h
    · rename_i g st he
      rw [he] at hv
      obtain ⟨hg, _⟩ := hv
      have hb : boolAt a.tmps[t]? = some g := by
        rw [Array.getD_eq_getD_getElem?] at hg
        cases hs : a.tmps[t]? with
        | none => rw [hs] at hg; cases hg
        | some u => rw [hs] at hg; simp only [Option.getD_some] at hg; rw [hg]; rfl
      have hp : holds a.tmps ((t, g) :: pathE ce t) := by
        unfold pathE
        split
        · rename_i e he'
          exact (hc.guard he').2 hb
        · intro x hx
          simp only [List.mem_singleton] at hx
          subst hx
          exact hb
      refine ⟨g, hg, ?_⟩
      split at h
      · split at h
        · simp only [Option.some.injEq] at h; subst h
          exact (openT_sound hc hp [x] tm ht).eval x
        · simp only [Option.some.injEq] at h; subst h
          exact (openT_sound hc hp [y] tm ht).eval y
      · split at h
        · rename_i z hz
          simp only [Option.some.injEq] at h; subst h
          rw [← hz]
          refine mergeA_RV ?_
          cases g with
          | true => exact (openT_sound hc hp [x] tm ht).eval x
          | false => exact (openT_sound hc hp [y] tm ht).eval y
        · cases h
    · cases h
  · cases h

theorem pickO_sound {E : Env} {ce : List Ent} {a : Act} (hc : CE E ce a.tmps) (ht : RT E tm a.tmps) {r : List (Nat × Bool)} (hr : holds a.tmps r) {o : Oper} {v : AV} (h : pickO T ce r tm o = some v) :
    ∃ u, RV E v u ∧ ∀ w, (execOp a.eval o).run P w = .ok (.value u) w := by
  unfold pickO at h
  split at h
  · split at h
    · rename_i c x y ho
      obtain ⟨g, hg, hv⟩ := pickV_sound hc ht hr h
      refine ⟨_, hv, fun w => ?_⟩
      simp only [execOp, ho, hg, asBool, Sem.run_bind, Sem.run_pure, Result.andThen_ok]
    · cases h
  · cases h

theorem CE.cons {E : Env} {ce : List Ent} {a : Act} (hc : CE E ce a.tmps) {d : Nat} {q : List (Nat × Bool)} (hm : memP d q = false) {v : AV} {u : Value} (h1 : holds a.tmps q → RV E v u) (h2 : ¬ holds a.tmps q → u = Go.undef) (hd : d < a.tmps.size) :
    CE E (⟨d, q, v⟩ :: dropE d ce) (a.put (some d) u).tmps := by
  intro e he
  rcases List.mem_cons.1 he with rfl | he
  · rw [holds_put (memP_spec hm)]
    have hget : (a.put (some d) u).tmps.getD d Go.undef = u := by
      simp only [Act.put, Array.getD_eq_getD_getElem?, Array.getElem?_setIfInBounds]
      simp [hd]
    exact ⟨fun hh => by rw [hget]; exact h1 hh, fun hh => by rw [hget]; exact h2 hh⟩
  · exact hc.drop d u e he

theorem underK_det {D : List Nat} {ce : List Ent} {q : List (Nat × Bool)} {o : Oper} (hqo : quietOp o = true) (hn : tm.n ≤ 4000) (hd : ∀ i, o.dst = some i → i ∈ D) {K : List Ent → Tm → Prop} (h : underK P T F ce q o tm hp K) :
    ∃ d v, o.dst = some d ∧ K (⟨d, q, v⟩ :: dropE d ce) (setT tm d .bad) ∧ Fr D tm (setT tm d .bad) ∧ ∀ K' : List Ent → Tm → Prop, K' (⟨d, q, v⟩ :: dropE d ce) (setT tm d .bad) → underK P T F ce q o tm hp K' := by
  unfold underK at h
  split at h
  · exact h.elim
  · rename_i d hdst
    split at h
    · exact h.elim
    · rename_i hm
      split at h
      · rename_i v hv
        exact ⟨d, v, hdst, h, Fr.set hn (hd d hdst) .bad, fun K' hk => by unfold underK; simp only [hdst, hm, hv]; exact hk⟩
      · rename_i hv
        obtain ⟨v, h1, h2⟩ := stepK_det hqo h
        exact ⟨d, v, hdst, h1, Fr.set hn (hd d hdst) .bad, fun K' hk => by unfold underK; simp only [hdst, hm, hv]; exact h2 (fun v _ => K' (⟨d, q, v⟩ :: dropE d ce) (setT tm d .bad)) hk⟩

theorem Still.refl (hp : List Blk) : Still hp hp := fun _ _ _ _ h => h

theorem Still.trans {a b c : List Blk} (h : Still a b) (h' : Still b c) : Still a c := fun B w0 E w hh => h' B w0 E w (h B w0 E w hh)

theorem listK_det {D : List Nat} {ops : List Oper} (hD : ∀ o ∈ ops, ∀ i, o.dst = some i → i ∈ D) : ∀ (rest : List Oper) (ce : List Ent) (tm : Tm) (hp : List Blk) (orc : List Sg) (K : Tm → List Blk → List Sg → Prop), tm.n ≤ 4000 →
    (∀ o ∈ rest, semiOp o = true ∧ ∀ i, o.dst = some i → i ∈ D) → listK P T F.quiet ops rest ce tm hp orc K → ∃ tm' hp' orc', K tm' hp' orc' ∧ Fr D tm tm' ∧ ((F.pr = some false → Still hp hp') ∧ ((∀ o ∈ rest, quietOp o = true) → hp' = hp)) ∧ ∀ K' : Tm → List Blk → List Sg → Prop, K' tm' hp' orc' → listK P T F.quiet ops rest ce tm hp orc K'
  | [], ce, tm, hp, orc, K, _, _, h => ⟨tm, hp, orc, h, Fr.refl D tm, ⟨fun _ => Still.refl hp, fun _ => rfl⟩, fun K' hk => hk⟩
  | o :: rest, ce, tm, hp, orc, K, hn, hr, h => by
    obtain ⟨hq, hd⟩ := hr o (by simp)
    have hr' : ∀ o ∈ rest, semiOp o = true ∧ ∀ i, o.dst = some i → i ∈ D := fun o ho => hr o (by simp [ho])
    have wanted : ∀ (tm : Tm) (orc : List Sg), tm.n ≤ 4000 → stepK P T F.quiet o tm hp (fun v hp' => fixA o v orc fun v orc => listK P T F.quiet ops rest (dropO o.dst ce) (putT tm o.dst v) hp' orc K) →
        ∃ tm' hp' orc', K tm' hp' orc' ∧ Fr D tm tm' ∧ ((F.pr = some false → Still hp hp') ∧ ((∀ x ∈ o :: rest, quietOp x = true) → hp' = hp)) ∧ ∀ K' : Tm → List Blk → List Sg → Prop, K' tm' hp' orc' → stepK P T F.quiet o tm hp (fun v hp' => fixA o v orc fun v orc => listK P T F.quiet ops rest (dropO o.dst ce) (putT tm o.dst v) hp' orc K') := fun tm orc hn h => by
      obtain ⟨v0, hp1, h1, s1, h2⟩ := semiK_det hq h
      obtain ⟨v, orc1, h6, h7⟩ := fixA_det h1
      have hf := Fr.put hn hd v
      obtain ⟨tm', hp', orc', h3, h4, s2, h5⟩ := listK_det hD rest _ _ hp1 orc1 K (by rw [hf.1]; exact hn) hr' h6
      exact ⟨tm', hp', orc', h3, hf.trans h4, ⟨fun e => (s1.1 e).trans (s2.1 e), fun e => (s2.2 fun x hx => e x (by simp [hx])).trans (s1.2 (e o (by simp)))⟩, fun K' hk => h2 _ (h7 _ (h5 K' hk))⟩
    have put : ∀ (v : AV) (tm : Tm) (orc : List Sg), tm.n ≤ 4000 → listK P T F.quiet ops rest (dropO o.dst ce) (putT tm o.dst v) hp orc K →
        ∃ tm' hp' orc', K tm' hp' orc' ∧ Fr D tm tm' ∧ ((F.pr = some false → Still hp hp') ∧ ((∀ x ∈ o :: rest, quietOp x = true) → hp' = hp)) ∧ ∀ K' : Tm → List Blk → List Sg → Prop, K' tm' hp' orc' → listK P T F.quiet ops rest (dropO o.dst ce) (putT tm o.dst v) hp orc K' := fun v tm orc hn h => by
      have hf := Fr.put hn hd v
      obtain ⟨tm', hp', orc', h3, h4, s2, h5⟩ := listK_det hD rest _ _ hp orc K (by rw [hf.1]; exact hn) hr' h
      exact ⟨tm', hp', orc', h3, hf.trans h4, ⟨s2.1, fun e => s2.2 fun x hx => e x (by simp [hx])⟩, h5⟩
    have under : ∀ (q : List (Nat × Bool)), quietOp o = true → underK P T F.quiet ce q o tm hp (fun ce tm => listK P T F.quiet ops rest ce tm hp orc K) →
        ∃ tm' hp' orc', K tm' hp' orc' ∧ Fr D tm tm' ∧ ((F.pr = some false → Still hp hp') ∧ ((∀ x ∈ o :: rest, quietOp x = true) → hp' = hp)) ∧ ∀ K' : Tm → List Blk → List Sg → Prop, K' tm' hp' orc' → underK P T F.quiet ce q o tm hp (fun ce tm => listK P T F.quiet ops rest ce tm hp orc K') := fun q hqo h => by
      obtain ⟨d, v, hdst, h1, hf, h2⟩ := underK_det hqo hn hd h
      obtain ⟨tm', hp', orc', h3, h4, s2, h5⟩ := listK_det hD rest _ _ hp orc K (by rw [hf.1]; exact hn) hr' h1
      exact ⟨tm', hp', orc', h3, hf.trans h4, ⟨s2.1, fun e => s2.2 fun x hx => e x (by simp [hx])⟩, fun K' hk => h2 _ (h5 K' hk)⟩
    simp only [listK] at h ⊢
    cases hg : o.guard with
    | none =>
      simp only [hg] at h ⊢
      split at h
      · exact put _ tm orc hn h
      · exact wanted tm orc hn h
    | some jw =>
      obtain ⟨j, want⟩ := jw
      simp only [hg] at h ⊢
      cases hdo : dstOf ops j with
      | none => simp only [hdo] at h
      | some d =>
        simp only [hdo] at h ⊢
        have hdm : d ∈ D := dstOf_mem hD hdo
        split at h
        · split at h
          · rename_i hqo
            exact under _ hqo h
          · exact h.elim
        · split at h
          · rename_i b st hv
            split at h
            · split at h
              · exact wanted tm orc hn h
              · exact put _ tm orc hn h
            · split at h
              · rename_i hmq
                have hqo : quietOp o = true := by
                  simp only [Bool.and_eq_true] at hmq
                  exact hmq.2
                exact under _ hqo h
              · obtain ⟨orc1, h1, h2⟩ := guess_det h
                have hf := Fr.set (tm := tm) hn hdm (.one (.sc (.bool b) true))
                have hn' : (setT tm d (.one (.sc (.bool b) true))).n ≤ 4000 := by rw [setT_n]; exact hn
                cases hbw : b == want with
                | true =>
                  simp only [hbw] at h1
                  obtain ⟨tm', hp', orc', h3, h4, s2, h5⟩ := wanted _ orc1 hn' h1
                  refine ⟨tm', hp', orc', h3, hf.trans h4, s2, fun K' hk => h2 _ ?_⟩
                  simp only [hbw]
                  exact h5 K' hk
                | false =>
                  simp only [hbw] at h1
                  obtain ⟨tm', hp', orc', h3, h4, s2, h5⟩ := put _ _ orc1 hn' h1
                  refine ⟨tm', hp', orc', h3, hf.trans h4, s2, fun K' hk => h2 _ ?_⟩
                  simp only [hbw]
                  exact h5 K' hk
          · exact put _ tm orc hn h
          · exact h.elim

theorem dstsL_mem : ∀ (ops : List Oper) (l : List Nat), (∀ o ∈ ops, ∀ i, o.dst = some i → i ∈ dstsL ops l) ∧ ∀ i ∈ l, i ∈ dstsL ops l
  | [], l => ⟨by simp, fun i hi => hi⟩
  | o :: ops, l => by
    obtain ⟨h1, h2⟩ := dstsL_mem ops l
    simp only [dstsL]
    cases ho : o.dst with
    | none =>
      refine ⟨fun x hx i hi => ?_, h2⟩
      rcases List.mem_cons.1 hx with rfl | hx
      · rw [ho] at hi; cases hi
      · exact h1 x hx i hi
    | some d =>
      refine ⟨fun x hx i hi => ?_, fun i hi => List.mem_cons_of_mem _ (h2 i hi)⟩
      rcases List.mem_cons.1 hx with rfl | hx
      · rw [ho] at hi; cases hi; simp
      · exact List.mem_cons_of_mem _ (h1 x hx i hi)

theorem dstsC_sub : ∀ (c : Code) (l : List Nat), ∀ i ∈ l, i ∈ dstsC c l := by
  intro c
  induction c with
  | seq a b ha hb => intro l i hi; exact ha _ i (hb l i hi)
  | cond c a b ha hb => intro l i hi; exact ha _ i (hb l i hi)
  | region id ops d => intro l i hi; exact (dstsL_mem ops.toList l).2 i hi
  | block id c hc => intro l i hi; exact hc l i hi
  | _ => intro l i hi; exact hi

theorem dstsC_mono : ∀ (c : Code) (l l' : List Nat), (∀ i ∈ l, i ∈ l') → ∀ i ∈ dstsC c l, i ∈ dstsC c l' := by
  intro c
  induction c with
  | seq a b ha hb => intro l l' h; exact ha _ _ (hb l l' h)
  | cond c a b ha hb => intro l l' h; exact ha _ _ (hb l l' h)
  | block id c hc => intro l l' h; exact hc l l' h
  | region id ops d =>
    intro l l' h
    show ∀ i ∈ dstsL ops.toList l, i ∈ dstsL ops.toList l'
    generalize ops.toList = os
    induction os with
    | nil => exact h
    | cons o os ih =>
      intro i hi
      simp only [dstsL] at hi ⊢
      split at hi
      · rcases List.mem_cons.1 hi with rfl | hi
        · simp
        · exact List.mem_cons_of_mem _ (ih i hi)
      · exact ih i hi
  | _ => intro l l' h; exact h

theorem mergeTm_n (t : Bool) (a b : Tm) : ∀ l : List Nat, (mergeTm t l a b).n = b.n
  | [] => rfl
  | d :: l => by simp only [mergeTm, setT_n]; exact mergeTm_n t a b l

theorem getT_merge (t : Bool) {a b : Tm} (hn : b.n ≤ 4000) {i : Nat} (hi : i < b.n) : ∀ l : List Nat, getT (mergeTm t l a b) i = if i ∈ l then mergeA t (getT a i) (getT b i) else getT b i
  | [] => by simp [mergeTm]
  | d :: l => by
    simp only [mergeTm]
    rw [getT_setT (by rw [mergeTm_n]; exact hn) (by rw [mergeTm_n]; exact hi)]
    by_cases hd : d = i
    · subst hd; simp
    · rw [if_neg hd, getT_merge t hn hi l]
      have : (i ∈ d :: l) ↔ i ∈ l := by simp [Ne.symm hd]
      simp only [this]

theorem under_quiet (F : Fns) (t : Bool) : (F.under t).quiet = F.under t := rfl

theorem under_false {F : Fns} : (F.under false).pr = some false := by
  simp only [Fns.under]
  split
  · rfl
  · rw [Bool.and_false]

theorem code_det : ∀ (n : Nat) (c : Code) (D : List Nat) (F : Fns) (tm : Tm) (hp : List Blk) (orc : List Sg) (K : Ex → Tm → List Blk → List Sg → Prop), tm.n ≤ 4000 → quietC c = true → (∀ i ∈ dstsC c [], i ∈ D) →
    codeK P T F.quiet n c tm hp orc K → ∃ tm' hp' orc', K .normal tm' hp' orc' ∧ Fr D tm tm' ∧ ((F.pr = some false → Still hp hp') ∧ (leanC c = true → hp' = hp)) ∧ ∀ K' : Ex → Tm → List Blk → List Sg → Prop, K' .normal tm' hp' orc' → codeK P T F.quiet n c tm hp orc K' := by
  intro n
  induction n with
  | zero => intro c D F tm hp orc K hn hq hD h; exact h.elim
  | succ n ih =>
    intro c D F tm hp orc K hn hq hD h
    cases c with
    | skip => exact ⟨tm, hp, orc, by simpa only [codeK] using h, Fr.refl D tm, ⟨fun _ => Still.refl hp, fun _ => rfl⟩, fun K' hk => by simpa only [codeK] using hk⟩
    | region id ops draw =>
      have hops : ∀ o ∈ ops.toList, semiOp o = true ∧ ∀ i, o.dst = some i → i ∈ D := fun o ho => ⟨List.all_eq_true.1 hq o ho, fun i hi => hD i ((dstsL_mem ops.toList []).1 o ho i hi)⟩
      have hdst := fun o ho => (hops o ho).2
      simp only [codeK] at h ⊢
      cases draw with
      | false =>
        obtain ⟨tm', hp', orc', h1, h2, s, h3⟩ := listK_det hdst _ [] tm hp orc _ hn hops h
        exact ⟨tm', hp', orc', h1, h2, ⟨s.1, fun e => s.2 (List.all_eq_true.1 e)⟩, fun K' hk => h3 (K' .normal) hk⟩
      | true =>
        have hall : plainR F.quiet.dr ops.toList orc = true := by
          unfold plainR
          rw [show ops.toList.all semiOp = true from hq]
          rfl
        simp only [hall] at h ⊢
        split at h
        · obtain ⟨tm', hp', orc', h1, h2, s, h3⟩ := listK_det (F := F.quiet) hdst _ [] tm hp orc _ hn hops h
          exact ⟨tm', hp', orc', h1, h2, ⟨s.1, fun e => s.2 (List.all_eq_true.1 e)⟩, fun K' hk => h3 (K' .normal) hk⟩
        · exact h.elim
    | seq x y =>
      simp only [quietC, Bool.and_eq_true] at hq
      simp only [codeK] at h ⊢
      obtain ⟨tm1, hp1, orc1, h1, f1, s1, b1⟩ := ih x D F tm hp orc _ hn hq.1 (fun i hi => hD i (dstsC_mono x _ _ (by simp) i hi)) h
      obtain ⟨tm2, hp2, orc2, h2, f2, s2, b2⟩ := ih y D F tm1 hp1 orc1 K (by rw [f1.1]; exact hn) hq.2 (fun i hi => hD i (dstsC_sub x _ i hi)) h1
      exact ⟨tm2, hp2, orc2, h2, f1.trans f2, ⟨fun e => (s1.1 e).trans (s2.1 e), fun e => by simp only [leanC, Bool.and_eq_true] at e; exact (s2.2 e.2).trans (s1.2 e.1)⟩, fun K' hk => b1 _ (b2 K' hk)⟩
    | cond c x y =>
      simp only [quietC, Bool.and_eq_true] at hq
      have hDx : ∀ i ∈ dstsC x [], i ∈ D := fun i hi => hD i (dstsC_mono x _ _ (by simp) i hi)
      have hDy : ∀ i ∈ dstsC y [], i ∈ D := fun i hi => hD i (dstsC_sub x _ i hi)
      simp only [codeK] at h ⊢
      split at h
      · rename_i t st e
        split at h
        · split at h
          · obtain ⟨tm', hp', orc', h3, h4, s, h5⟩ := ih x D F tm hp orc K hn hq.1 hDx h
            exact ⟨tm', hp', orc', h3, h4, ⟨s.1, fun e => by simp only [leanC, Bool.and_eq_true] at e; exact s.2 e.1⟩, h5⟩
          · obtain ⟨tm', hp', orc', h3, h4, s, h5⟩ := ih y D F tm hp orc K hn hq.2 hDy h
            exact ⟨tm', hp', orc', h3, h4, ⟨s.1, fun e => by simp only [leanC, Bool.and_eq_true] at e; exact s.2 e.2⟩, h5⟩
        · split at h
          · rename_i hm
            obtain ⟨tmA, hpA, oA, hA, fA, sA, bA⟩ := ih x D (F.quiet.under t) tm hp [] _ hn hq.1 hDx h
            obtain ⟨tmB, hpB, oB, hB, fB, sB, bB⟩ := ih y D (F.quiet.under (!t)) tm hpA [] _ hn hq.2 hDy hA
            have hF : ∀ (b : Bool), F.pr = some false → (F.quiet.under b).pr = some false := fun b hp1 => by
              simp only [Fns.under, show F.quiet.pr = F.pr from rfl, hp1, Bool.false_and]
            refine ⟨_, _, _, hB, ⟨by rw [mergeTm_n]; exact fB.1, fun i hi hni => ?_⟩, ⟨fun e => (sA.1 (hF _ e)).trans (sB.1 (hF _ e)), fun e => by simp only [leanC, Bool.and_eq_true] at e; exact (sB.2 e.2).trans (sA.2 e.1)⟩, fun K' hk => bA _ (bB _ hk)⟩
            rw [getT_merge t (by rw [fB.1]; exact hn) (by rw [fB.1]; exact hi), if_neg (show ¬ i ∈ dstsC x (dstsC y []) from fun hm => hni (hD i hm)), fB.2 i hi hni]
          · obtain ⟨orc1, h1, h2⟩ := guess_det h
            cases t with
            | true =>
              obtain ⟨tm', hp', orc', h3, h4, s, h5⟩ := ih x D F tm hp orc1 K hn hq.1 hDx h1
              exact ⟨tm', hp', orc', h3, h4, ⟨s.1, fun e => by simp only [leanC, Bool.and_eq_true] at e; exact s.2 e.1⟩, fun K' hk => h2 _ (h5 K' hk)⟩
            | false =>
              obtain ⟨tm', hp', orc', h3, h4, s, h5⟩ := ih y D F tm hp orc1 K hn hq.2 hDy h1
              exact ⟨tm', hp', orc', h3, h4, ⟨s.1, fun e => by simp only [leanC, Bool.and_eq_true] at e; exact s.2 e.2⟩, fun K' hk => h2 _ (h5 K' hk)⟩
      · exact h.elim
    | _ => simp [quietC] at hq

theorem guess_mono {b : Bool} {orc : List Sg} {K K' : Bool → List Sg → Prop} (h : guess b orc K) (hk : ∀ g orc, K g orc → K' g orc) : guess b orc K' := by
  unfold guess at h ⊢
  split at h
  · exact ⟨h.1, hk _ _ h.2⟩
  · exact ⟨fun e => hk _ _ (h.1 e), fun e => hk _ _ (h.2 e)⟩
  · exact h.elim

theorem semi_of_quiet {o : Oper} (hq : quietOp o = true) : semiOp o = true := by
  unfold semiOp
  split
  · rfl
  · exact hq

theorem forgetT_n (tm : Tm) : ∀ l : List Nat, (forgetT l tm).n = tm.n
  | [] => rfl
  | d :: l => by simp only [forgetT, setT_n]; exact forgetT_n tm l

theorem getT_forget {tm : Tm} (hn : tm.n ≤ 4000) {i : Nat} (hi : i < tm.n) : ∀ l : List Nat, getT (forgetT l tm) i = if i ∈ l then .bad else getT tm i
  | [] => by simp [forgetT]
  | d :: l => by
    simp only [forgetT]
    rw [getT_setT (by rw [forgetT_n]; exact hn) (by rw [forgetT_n]; exact hi)]
    by_cases hd : d = i
    · subst hd; simp
    · rw [if_neg hd, getT_forget hn hi l]
      have : (i ∈ d :: l) ↔ i ∈ l := by simp [Ne.symm hd]
      simp only [this]

theorem Fr.forget {tm : Tm} (hn : tm.n ≤ 4000) (D : List Nat) {l : List Nat} (hl : ∀ i ∈ l, i ∈ D) : Fr D tm (forgetT l tm) :=
  ⟨forgetT_n tm l, fun i hi hd => by rw [getT_forget hn hi, if_neg fun hm => hd (hl i hm)]⟩

theorem RT.forget {E : Env} {tm tm' : Tm} {tmps : Array Value} {D : List Nat} (h : RT E tm' tmps) (hf : Fr D tm tm') : RT E (forgetT D tm) tmps := by
  have hn : tm.n ≤ 4000 := by rw [← hf.1]; exact h.2.1
  refine ⟨by rw [forgetT_n, ← hf.1]; exact h.1, by rw [forgetT_n]; exact hn, fun i hi => ?_⟩
  rw [forgetT_n] at hi
  rw [getT_forget hn hi]
  split
  · trivial
  · rename_i hni
    rw [← hf.2 i hi hni]
    exact h.2.2 i (by rw [hf.1]; exact hi)

/-- Code that changes no memory: what it writes, and that the memory is as it was. -/
theorem lean_map : ∀ (n : Nat) (c : Code) (D : List Nat) (F : Fns) (tm : Tm) (hp : List Blk) (orc : List Sg) (K K' : Ex → Tm → List Blk → List Sg → Prop), tm.n ≤ 4000 → leanC c = true → (∀ i ∈ dstsC c [], i ∈ D) →
    (∀ x tm' orc', Fr D tm tm' → K x tm' hp orc' → K' x tm' hp orc') → codeK P T F.quiet n c tm hp orc K → codeK P T F.quiet n c tm hp orc K' := by
  intro n
  induction n with
  | zero => intro c D F tm hp orc K K' hn hq hD hm h; exact h.elim
  | succ n ih =>
    intro c D F tm hp orc K K' hn hq hD hm h
    cases c with
    | skip => simp only [codeK] at h ⊢; exact hm _ _ _ (Fr.refl D tm) h
    | ret => simp only [codeK] at h ⊢; exact hm _ _ _ (Fr.refl D tm) h
    | exit id => simp only [codeK] at h ⊢; exact hm _ _ _ (Fr.refl D tm) h
    | region id ops draw =>
      have hall : ∀ o ∈ ops.toList, quietOp o = true := List.all_eq_true.1 hq
      have hops : ∀ o ∈ ops.toList, semiOp o = true ∧ ∀ i, o.dst = some i → i ∈ D := fun o ho => ⟨semi_of_quiet (hall o ho), fun i hi => hD i ((dstsL_mem ops.toList []).1 o ho i hi)⟩
      have hdst := fun o ho => (hops o ho).2
      simp only [codeK] at h ⊢
      cases draw with
      | false =>
        obtain ⟨tm', hp', orc', h1, h2, s, h3⟩ := listK_det hdst _ [] tm hp orc _ hn hops h
        obtain rfl := s.2 hall
        exact h3 (K' .normal) (hm _ _ _ h2 h1)
      | true =>
        have hall2 : plainR F.quiet.dr ops.toList orc = true := by
          unfold plainR
          rw [show ops.toList.all semiOp = true from List.all_eq_true.2 fun o ho => semi_of_quiet (hall o ho)]
          rfl
        simp only [hall2] at h ⊢
        split at h
        · obtain ⟨tm', hp', orc', h1, h2, s, h3⟩ := listK_det (F := F.quiet) hdst _ [] tm hp orc _ hn hops h
          obtain rfl := s.2 hall
          exact h3 (K' .normal) (hm _ _ _ h2 h1)
        · exact h.elim
    | seq x y =>
      simp only [leanC, Bool.and_eq_true] at hq
      simp only [codeK] at h ⊢
      refine ih x D F tm hp orc _ _ hn hq.1 (fun i hi => hD i (dstsC_mono x _ _ (by simp) i hi)) (fun e tm1 orc1 f1 h1 => ?_) h
      cases e with
      | normal =>
        exact ih y D F tm1 hp orc1 K K' (by rw [f1.1]; exact hn) hq.2 (fun i hi => hD i (dstsC_sub x _ i hi)) (fun e tm2 orc2 f2 h2 => hm _ _ _ (f1.trans f2) h2) h1
      | exit id => exact hm _ _ _ f1 h1
      | ret => exact hm _ _ _ f1 h1
    | cond c x y =>
      simp only [leanC, Bool.and_eq_true] at hq
      have hDx : ∀ i ∈ dstsC x [], i ∈ D := fun i hi => hD i (dstsC_mono x _ _ (by simp) i hi)
      have hDy : ∀ i ∈ dstsC y [], i ∈ D := fun i hi => hD i (dstsC_sub x _ i hi)
      simp only [codeK] at h ⊢
      split at h
      · rename_i t st e
        split at h
        · split at h
          · exact ih x D F tm hp orc K K' hn hq.1 hDx hm h
          · exact ih y D F tm hp orc K K' hn hq.2 hDy hm h
        · split at h
          · rename_i r hmr
            have hqq := mergeAt_quiet hmr
            obtain ⟨tmA, hpA, oA, hA, fA, sA, bA⟩ := code_det n x D (F.quiet.under t) tm hp [] _ hn hqq.1 hDx h
            obtain ⟨tmB, hpB, oB, hB, fB, sB, bB⟩ := code_det n y D (F.quiet.under (!t)) tm hpA [] _ hn hqq.2 hDy hA
            have e1 := sA.2 hq.1
            have e2 := sB.2 hq.2
            subst e1
            subst e2
            refine bA _ (bB _ (hm _ _ _ ⟨by rw [mergeTm_n]; exact fB.1, fun i hi hni => ?_⟩ hB))
            rw [getT_merge t (by rw [fB.1]; exact hn) (by rw [fB.1]; exact hi), if_neg (show ¬ i ∈ dstsC x (dstsC y []) from fun hm => hni (hD i hm)), fB.2 i hi hni]
          · refine guess_mono h fun g orc1 h1 => ?_
            cases g with
            | true => exact ih x D F tm hp orc1 K K' hn hq.1 hDx hm h1
            | false => exact ih y D F tm hp orc1 K K' hn hq.2 hDy hm h1
      · exact h.elim
    | block id c =>
      have hDc : ∀ i ∈ dstsC c [], i ∈ D := hD
      simp only [codeK] at h ⊢
      split at h
      · refine ⟨?_, hm _ _ _ (Fr.forget hn D hDc) h.2⟩
        refine ih c D F tm hp [] _ _ hn hq hDc (fun e tm1 orc1 f1 h1 => ?_) h.1
        cases e with
        | normal => trivial
        | exit i =>
          simp only at h1 ⊢
          split at h1
          · trivial
          · exact hm _ _ _ f1 h1
        | ret => exact hm _ _ _ f1 h1
      · refine ih c D F tm hp _ _ _ hn hq hDc (fun e tm1 orc1 f1 h1 => ?_) h
        cases e with
        | normal => exact hm _ _ _ f1 h1
        | exit i =>
          simp only at h1 ⊢
          split at h1
          · rename_i hi; rw [if_pos hi]; exact hm _ _ _ f1 h1
          · rename_i hi; rw [if_neg hi]; exact hm _ _ _ f1 h1
        | ret => exact hm _ _ _ f1 h1
    | _ => simp [leanC] at hq

theorem RT.mergeB {E : Env} {a b : Tm} {tmps : Array Value} (h : RT E b tmps) (l : List Nat) : RT E (mergeTm false l a b) tmps := by
  refine ⟨by rw [mergeTm_n]; exact h.1, by rw [mergeTm_n]; exact h.2.1, fun i hi => ?_⟩
  rw [mergeTm_n] at hi
  rw [getT_merge false h.2.1 hi]
  split
  · exact mergeA_RV (t := false) (h.2.2 i hi)
  · exact h.2.2 i hi

theorem RT.mergeA {E : Env} {tm a b : Tm} {tmps : Array Value} {l : List Nat} (h : RT E a tmps) (ha : Fr l tm a) (hb : Fr l tm b) : RT E (mergeTm true l a b) tmps := by
  have hn : b.n = a.n := by rw [hb.1, ha.1]
  refine ⟨by rw [mergeTm_n, hn]; exact h.1, by rw [mergeTm_n, hn]; exact h.2.1, fun i hi => ?_⟩
  rw [mergeTm_n, hn] at hi
  rw [getT_merge true (by rw [hn]; exact h.2.1) (by rw [hn]; exact hi)]
  split
  · exact mergeA_RV (t := true) (h.2.2 i hi)
  · rename_i hni
    have hit : i < tm.n := by rw [← ha.1]; exact hi
    rw [hb.2 i hit hni, ← ha.2 i hit hni]
    exact h.2.2 i hi
end det
end Sm
namespace Sm
open Go Go.RowKit

section calls
variable {P : Program} {T : Tab} {F : Fns} {B : Nat} {w0 : World} {E : Env} {hp : List Blk} {w : World} {a : Act} {tm : Tm}

def resV (tmps : Array Value) : ResultVar → Sem Value
  | .tmp t => pure (tmps.getD t Go.undef)
  | .cell a t => do loadVar t (← asAddr (tmps.getD a Go.undef))

theorem results_eq (fn : Func) (tmps : Array Value) : Go.results fn tmps = (do
    let vs ← fn.results.mapM (resV tmps)
    pure (if h : vs.size = 1 then vs[0] else .tuple vs)) := by
  unfold Go.results
  apply congrArg (fun g => (do
    let vs ← fn.results.mapM g
    pure (if h : vs.size = 1 then vs[0] else .tuple vs) : Sem Value))
  funext r
  cases r <;> rfl

theorem res_run (hT : TabOk P T) (hh : RH B w0 E hp w) (ht : RT E tm a.tmps) {r : ResultVar} {v : AV} (h : resA T tm hp r = some v) : ∃ u, (resV a.tmps r).run P w = .ok u w ∧ RV E v u := by
  cases r with
  | tmp t =>
    simp only [resA, Option.some.injEq] at h; subst h
    have := ht.eval (.tmp t)
    exact ⟨_, rfl, this⟩
  | cell x t =>
    simp only [resA] at h
    have hx := ht.eval (.tmp x)
    simp only [evalO, Act.eval] at hx
    split at h
    · rename_i i off hp1
      rw [hp1] at hx
      obtain ⟨e, he, hx⟩ := hx
      obtain ⟨u, hr, _, hrv⟩ := load_run hT hh he h
      refine ⟨u, ?_, hrv⟩
      simp only [resV, hx, asAddr, Sem.run_bind, Sem.run_pure, Result.andThen_ok, hr w rfl]
    · cases h

theorem resL_run (hT : TabOk P T) (hh : RH B w0 E hp w) (ht : RT E tm a.tmps) : ∀ (rs : List ResultVar) (vs : List AV), resL T tm hp rs = some vs →
    ∃ us, (rs.mapM (resV a.tmps)).run P w = .ok us w ∧ RA E vs us
  | [], vs, h => by
    simp only [resL, Option.some.injEq] at h; subst h
    exact ⟨[], rfl, rfl, by simp⟩
  | r :: rs, vs, h => by
    simp only [resL] at h
    split at h
    · rename_i v ws hv hws
      simp only [Option.some.injEq] at h; subst h
      obtain ⟨u, hr, hrv⟩ := res_run hT hh ht hv
      obtain ⟨us, hrs, hra⟩ := resL_run hT hh ht rs ws hws
      refine ⟨u :: us, ?_, by simp [hra.1], fun j v' u' h1 h2 => ?_⟩
      · simp only [List.mapM_cons, Sem.run_bind, hr, Result.andThen_ok, hrs, Sem.run_pure]
      · cases j with
        | zero => simp at h1 h2; subst h1; subst h2; exact hrv
        | succ j => simp at h1 h2; exact hra.2 j v' u' h1 h2
    · cases h

theorem tupOf_spec : ∀ (vs : List AV) (us : List Value) (l : List (Bool × List C1)), tupOf vs = some l → RA E vs us → l.length = us.length ∧ ∀ (j : Nat) (p : Bool × List C1) (u : Value), l[j]? = some p → us[j]? = some u → RP E p u
  | [], us, l, h, hr => by
    simp only [tupOf, Option.some.injEq] at h; subst h
    exact ⟨hr.1, by simp⟩
  | v :: vs, us, l, h, hr => by
    cases us with
    | nil => have := hr.1; simp at this
    | cons u us =>
      have h0 := hr.2 0 v u rfl rfl
      have hr' : RA E vs us := ⟨by have := hr.1; simpa using this, fun j v' u' h1 h2 => hr.2 (j + 1) v' u' (by simpa using h1) (by simpa using h2)⟩
      cases hrest : tupOf vs with
      | none => cases v <;> simp [tupOf, hrest] at h
      | some r =>
        obtain ⟨i1, i2⟩ := tupOf_spec vs us r hrest hr'
        cases v with
        | one c =>
          simp only [tupOf, hrest, Option.some.injEq] at h; subst h
          refine ⟨by simp [i1], fun j p u' h1 h2 => ?_⟩
          cases j with
          | zero => simp at h1 h2; subst h1; subst h2; exact ⟨_, rfl, h0⟩
          | succ j => simp at h1 h2; exact i2 j p u' h1 h2
        | agg cs =>
          simp only [tupOf, hrest, Option.some.injEq] at h; subst h
          refine ⟨by simp [i1], fun j p u' h1 h2 => ?_⟩
          cases j with
          | zero => simp at h1 h2; subst h1; subst h2; exact h0
          | succ j => simp at h1 h2; exact i2 j p u' h1 h2
        | tup l => simp [tupOf] at h
        | undef => simp [tupOf] at h
        | bad => simp [tupOf] at h

theorem result_run (hT : TabOk P T) (hh : RH B w0 E hp w) (ht : RT E tm a.tmps) {fn : Func} {v : AV} (h : resultA T fn tm hp = some v) : ∃ u, (Go.results fn a.tmps).run P w = .ok u w ∧ RV E v u := by
  unfold resultA at h
  rw [results_eq, Array.mapM_eq_mapM_toList]
  simp only [Sem.run_bind, Sem.run_map]
  split at h
  · rename_i v' hl
    simp only [Option.some.injEq] at h; subst h
    obtain ⟨us, hr, hra⟩ := resL_run hT hh ht _ _ hl
    rw [hr]
    match us, hra with
    | [u], hra =>
      refine ⟨u, ?_, hra.2 0 v' u rfl rfl⟩
      simp
    | [], hra => have := hra.1; simp at this
    | _ :: _ :: _, hra => have := hra.1; simp at this
  · rename_i vs hne hl
    simp only [Option.map_eq_some_iff] at h
    obtain ⟨l, hl2, rfl⟩ := h
    obtain ⟨us, hr, hra⟩ := resL_run hT hh ht _ _ hl
    rw [hr]
    obtain ⟨h1, h2⟩ := tupOf_spec vs us l hl2 hra
    refine ⟨.tuple us.toArray, ?_, us, rfl, h1, h2⟩
    have : us.length ≠ 1 := by
      intro e
      rw [← hra.1] at e
      match vs, e with
      | [x], _ => exact hne x rfl
    simp [this]
  · cases h

theorem ofArgs_n : ∀ (l : List AV) (i : Nat) (t : Tm), (ofArgs i l t).n = t.n
  | [], i, t => rfl
  | v :: l, i, t => by simp only [ofArgs]; rw [ofArgs_n l, setT_n]

theorem ofArgs_get : ∀ (l : List AV) (i : Nat) (t : Tm), t.n ≤ 4000 → ∀ j, j < t.n → getT (ofArgs i l t) j = if i ≤ j then (match l[j - i]? with | some v => v | none => getT t j) else getT t j
  | [], i, t, hn, j, hj => by simp [ofArgs]
  | v :: l, i, t, hn, j, hj => by
    simp only [ofArgs]
    rw [ofArgs_get l (i + 1) (setT t i v) (by rw [setT_n]; exact hn) j (by rw [setT_n]; exact hj)]
    rw [getT_setT hn hj]
    by_cases h1 : i + 1 ≤ j
    · rw [if_pos h1, if_pos (show i ≤ j by omega), if_neg (show ¬ i = j by omega), show j - i = (j - (i + 1)) + 1 from by omega]
      rfl
    · rw [if_neg h1]
      by_cases h2 : i = j
      · subst h2
        simp
      · rw [if_neg h2, if_neg (show ¬ i ≤ j by omega)]

theorem getT_leaf (n j : Nat) : getT ⟨n, .leaf⟩ j = .undef := by
  unfold getT
  cases Nat.blt j n <;> rfl

/-- A frame at its entry. -/
theorem RT.start {E : Env} {args : List AV} {us : List Value} (h : RA E args us) {n : Nat} (hn : n ≤ 4000) (hl : args.length ≤ n) :
    RT E (ofArgs 0 args ⟨n, .leaf⟩) (us.toArray ++ Array.replicate (n - us.toArray.size) Go.undef) := by
  have hul : us.length = args.length := h.1.symm
  refine ⟨by rw [ofArgs_n]; simp; omega, by rw [ofArgs_n]; exact hn, fun j hj => ?_⟩
  rw [ofArgs_n] at hj
  rw [ofArgs_get args 0 ⟨n, .leaf⟩ hn j hj, if_pos (Nat.zero_le _), Nat.sub_zero]
  rw [Array.getD_eq_getD_getElem?]
  by_cases hja : j < args.length
  · have h1 : args[j]? = some args[j] := List.getElem?_eq_getElem hja
    have h2 : us[j]? = some (us[j]'(by omega)) := List.getElem?_eq_getElem _
    rw [h1, Array.getElem?_append_left (by simp; omega)]
    simp only [List.getElem?_toArray, h2, Option.getD_some]
    exact h.2 j _ _ h1 h2
  · rw [List.getElem?_eq_none (by omega), Array.getElem?_append_right (by simp; omega)]
    simp only [getT_leaf]
    rw [Array.getElem?_replicate]
    split <;> rfl

end calls
end Sm
