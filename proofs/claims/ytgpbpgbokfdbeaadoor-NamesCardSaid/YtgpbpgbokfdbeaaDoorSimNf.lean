/-
  What is proved here: operations on floats and complex numbers of which nothing is known come to some float or complex number, and draw from the tape alone. A text to be imported.
-/
import Derived.Test.YtgpbpgbokfdbeaaDoorSimG
namespace Sm
open Go Go.RowKit
set_option linter.unusedSimpArgs false

section draws
variable {P : Program}

/-- A run that comes to a value of a set and at most draws from the tape. -/
structure Draws (P : Program) {α : Type} (s : Sem α) (V : α → Prop) : Prop where
  out : ∀ w : World, ∃ x n, s.run P w = .ok x { w with drawn := n } ∧ V x

theorem Draws.pure {α : Type} {x : α} {V : α → Prop} (h : V x) : Draws P (Pure.pure x : Sem α) V := ⟨fun w => ⟨x, w.drawn, rfl, h⟩⟩

theorem Draws.bind {α β : Type} {s : Sem α} {V : α → Prop} {f : α → Sem β} {V' : β → Prop} (h : Draws P s V) (k : ∀ x, V x → Draws P (f x) V') : Draws P (s >>= f) V' := ⟨fun w => by
  obtain ⟨x, n, hr, hv⟩ := h.out w
  obtain ⟨y, m, hr2, hv2⟩ := (k x hv).out { w with drawn := n }
  refine ⟨y, m, ?_, hv2⟩
  rw [Sem.run_bind, hr, Result.andThen_ok, hr2]⟩

theorem Draws.mono {α : Type} {s : Sem α} {V V' : α → Prop} (h : Draws P s V) (k : ∀ x, V x → V' x) : Draws P s V' := ⟨fun w => by
  obtain ⟨x, n, hr, hv⟩ := h.out w
  exact ⟨x, n, hr, k x hv⟩⟩

theorem draws_choose (q : Question) : Draws P (choose q) (fun _ => True) := by
  refine ⟨fun w => ?_⟩
  by_cases hq : q.forced = true
  · exact ⟨0, w.drawn, by show Sem.run P (.choose q .pure) w = _; unfold Sem.run; rw [if_pos hq]; rfl, trivial⟩
  · exact ⟨_, w.drawn + 1, by show Sem.run P (.choose q .pure) w = _; unfold Sem.run; rw [if_neg hq]; rfl, trivial⟩

theorem draws_float {op : BinOp} (ha : isArith op = true) (k : FloatKind) (x y : Nat) : Draws P (Op.floatArith op k x y) (fun v => ∃ n, v = .float k n) := by
  have key : ∀ r : Option Nat, Draws P (match r with | some r => Pure.pure (Value.float k r) | none => (do Pure.pure (Value.float k (← choose (.nanBits k x y)))) : Sem Value) (fun v => ∃ n, v = .float k n) := fun r => by
    cases r with
    | some r => exact Draws.pure ⟨r, rfl⟩
    | none => exact Draws.bind (draws_choose _) fun n _ => Draws.pure ⟨n, rfl⟩
  unfold Op.floatArith
  cases op <;> simp only [isArith] at ha <;> first | (dsimp only; exact Draws.bind (V := fun _ => True) (Draws.pure trivial) fun r _ => key r) | cases ha

theorem draws_arith {op : BinOp} (ha : isArith op = true) (k : FloatKind) (x y : Nat) : Draws P (Op.Complex.arith op k x y) (fun _ => True) := by
  unfold Op.Complex.arith
  refine Draws.bind (draws_float ha k x y) fun v hv => ?_
  obtain ⟨n, rfl⟩ := hv
  exact Draws.pure trivial

theorem draws_cmp {op : BinOp} (ho : op = .eql ∨ op = .geq) (k : FloatKind) (x y : Nat) : Draws P (Op.Complex.cmp op k x y) (fun _ => True) := by
  unfold Op.Complex.cmp
  rcases ho with rfl | rfl <;> exact ⟨fun w => ⟨_, w.drawn, rfl, trivial⟩⟩

theorem Draws.ite {α : Type} {c : Prop} [Decidable c] {s t : Sem α} {V : α → Prop} (hs : Draws P s V) (ht : Draws P t V) : Draws P (if c then s else t) V := by
  split
  · exact hs
  · exact ht

theorem dAdd (x y : Nat) : Draws P (Op.Complex.arith .add .f64 x y) (fun _ => True) := draws_arith rfl _ _ _
theorem dSub (x y : Nat) : Draws P (Op.Complex.arith .sub .f64 x y) (fun _ => True) := draws_arith rfl _ _ _
theorem dMul (x y : Nat) : Draws P (Op.Complex.arith .mul .f64 x y) (fun _ => True) := draws_arith rfl _ _ _
theorem dQuo (x y : Nat) : Draws P (Op.Complex.arith .quo .f64 x y) (fun _ => True) := draws_arith rfl _ _ _
theorem dEql (x y : Nat) : Draws P (Op.Complex.cmp .eql .f64 x y) (fun _ => True) := draws_cmp (.inl rfl) _ _ _
theorem dGeq (x y : Nat) : Draws P (Op.Complex.cmp .geq .f64 x y) (fun _ => True) := draws_cmp (.inr rfl) _ _ _

theorem draws_product (a b c d : Nat) : Draws P (Op.Complex.product a b c d) (fun _ => True) := by
  unfold Op.Complex.product Op.Complex.mul Op.Complex.sub Op.Complex.add
  exact Draws.bind (dMul _ _) fun _ _ => Draws.bind (dMul _ _) fun _ _ => Draws.bind (dSub _ _) fun _ _ => Draws.bind (dMul _ _) fun _ _ => Draws.bind (dMul _ _) fun _ _ => Draws.bind (dAdd _ _) fun _ _ => Draws.pure trivial

theorem draws_corrected (s a b c d : Nat) : Draws P (Op.Complex.corrected s a b c d) (fun _ => True) := by
  unfold Op.Complex.corrected Op.Complex.mul Op.Complex.sub Op.Complex.add
  exact Draws.bind (dMul _ _) fun _ _ => Draws.bind (dMul _ _) fun _ _ => Draws.bind (dAdd _ _) fun _ _ => Draws.bind (dMul _ _) fun _ _ => Draws.bind (dMul _ _) fun _ _ => Draws.bind (dMul _ _) fun _ _ => Draws.bind (dSub _ _) fun _ _ => Draws.bind (dMul _ _) fun _ _ => Draws.pure trivial

theorem draws_quotient (a b c d : Nat) : Draws P (Op.Complex.quotient a b c d) (fun _ => True) := by
  unfold Op.Complex.quotient Op.Complex.mul Op.Complex.sub Op.Complex.add Op.Complex.quo
  refine Draws.bind (dGeq _ _) fun g _ => ?_
  dsimp only
  have tail : ∀ e f : Nat, Draws P (do
      let y1 ← Op.Complex.cmp .eql .f64 c 0
      let y2 ← Op.Complex.cmp .eql .f64 d 0
      if (!(Op.Complex.isNaN e && Op.Complex.isNaN f)) = true then Pure.pure (e, f)
      else if ((y1 && y2) && (!Op.Complex.isNaN a || !Op.Complex.isNaN b)) = true then do
        let p ← Op.Complex.arith .mul .f64 (Op.Complex.copysign Op.Complex.inf c) a
        let q ← Op.Complex.arith .mul .f64 (Op.Complex.copysign Op.Complex.inf c) b
        Pure.pure (p, q)
      else if ((Op.Complex.isInf a || Op.Complex.isInf b) && Op.Complex.isFinite c && Op.Complex.isFinite d) = true then Op.Complex.corrected Op.Complex.inf (Op.Complex.inf2one a) (Op.Complex.inf2one b) c d
      else if ((Op.Complex.isInf c || Op.Complex.isInf d) && Op.Complex.isFinite a && Op.Complex.isFinite b) = true then Op.Complex.corrected 0 a b (Op.Complex.inf2one c) (Op.Complex.inf2one d)
      else Pure.pure (e, f) : Sem (Nat × Nat)) (fun _ => True) := fun e f =>
    Draws.bind (dEql _ _) fun _ _ => Draws.bind (dEql _ _) fun _ _ => Draws.ite (Draws.pure trivial) (Draws.ite (Draws.bind (dMul _ _) fun _ _ => Draws.bind (dMul _ _) fun _ _ => Draws.pure trivial) (Draws.ite (draws_corrected _ _ _ _ _) (Draws.ite (draws_corrected _ _ _ _ _) (Draws.pure trivial))))
  refine Draws.ite ?_ ?_
  · refine Draws.bind (dQuo _ _) fun _ _ => Draws.bind (dMul _ _) fun _ _ => Draws.bind (dAdd _ _) fun _ _ => Draws.bind (dMul _ _) fun _ _ => Draws.bind (dAdd _ _) fun _ _ => Draws.bind (dQuo _ _) fun _ _ => Draws.bind (dMul _ _) fun _ _ => Draws.bind (dSub _ _) fun _ _ => Draws.bind (dQuo _ _) fun _ _ => ?_
    refine Draws.bind (V := fun _ => True) (Draws.pure trivial) fun ef _ => ?_
    exact tail ef.1 ef.2
  · refine Draws.bind (dQuo _ _) fun _ _ => Draws.bind (dMul _ _) fun _ _ => Draws.bind (dAdd _ _) fun _ _ => Draws.bind (dMul _ _) fun _ _ => Draws.bind (dAdd _ _) fun _ _ => Draws.bind (dQuo _ _) fun _ _ => Draws.bind (dMul _ _) fun _ _ => Draws.bind (dSub _ _) fun _ _ => Draws.bind (dQuo _ _) fun _ _ => ?_
    refine Draws.bind (V := fun _ => True) (Draws.pure trivial) fun ef _ => ?_
    exact tail ef.1 ef.2

theorem draws_complex {op : BinOp} (ha : isArith op = true) (a b c d : Nat) : Draws P (Op.complexOp op .f64 a b c d) (fun v => ∃ x y, v = .complex .f64 x y) := by
  have hc : ∀ x, Draws P (Op.Complex.conv .f64 x .f64) (fun _ => True) := fun x => ⟨fun w => ⟨x, w.drawn, rfl, trivial⟩⟩
  unfold Op.complexOp
  have fin : ∀ ef : Nat × Nat, Draws P (do
      let x ← Op.Complex.conv .f64 ef.1 .f64
      let y ← Op.Complex.conv .f64 ef.2 .f64
      Pure.pure (Value.complex .f64 x y) : Sem Value) (fun v => ∃ x y, v = .complex .f64 x y) := fun ef =>
    Draws.bind (hc _) fun _ _ => Draws.bind (hc _) fun _ _ => Draws.pure ⟨_, _, rfl⟩
  cases op with
  | add => exact Draws.bind (dAdd _ _) fun _ _ => Draws.bind (dAdd _ _) fun _ _ => Draws.pure ⟨_, _, rfl⟩
  | sub => exact Draws.bind (dSub _ _) fun _ _ => Draws.bind (dSub _ _) fun _ _ => Draws.pure ⟨_, _, rfl⟩
  | mul =>
    dsimp only
    refine Draws.bind (hc _) fun _ _ => Draws.bind (hc _) fun _ _ => Draws.bind (hc _) fun _ _ => Draws.bind (hc _) fun _ _ => ?_
    rw [if_pos (c := (BinOp.mul == BinOp.mul) = true) (by decide)]
    exact Draws.bind (draws_product _ _ _ _) fun ef _ => fin ef
  | quo =>
    dsimp only
    refine Draws.bind (hc _) fun _ _ => Draws.bind (hc _) fun _ _ => Draws.bind (hc _) fun _ _ => Draws.bind (hc _) fun _ _ => ?_
    rw [if_neg (c := (BinOp.quo == BinOp.mul) = true) (by decide)]
    exact Draws.bind (draws_quotient _ _ _ _) fun ef _ => fin ef
  | _ => cases ha
end draws

section any
variable {P : Program} {T : Tab} {B : Nat} {w0 : World} {E : Env} {hp : List Blk} {w : World} {K : Post} {a : Act} {tm : Tm}

/-- What a quiet operation comes to, in every world in which what is there now is as it is now: a value of a set. -/
def QOutS (P : Program) (K : Post) (E : Env) (hp : List Blk) (w : World) (s : Sem Next) : Prop :=
  ∃ v, K v hp ∧ (∃ u, RV E v u) ∧ ∀ w', Below w.heap.size w w' → ∃ u w'', s.run P w' = .ok (.value u) w'' ∧ RV E v u ∧ Below w'.heap.size w' w''

theorem QOut.toS {s : Sem Next} (h : QOut P K E hp w s) : QOutS P K E hp w s := by
  obtain ⟨v, u, hk, hv, hr⟩ := h
  exact ⟨v, hk, ⟨u, hv⟩, fun w' hw' => ⟨u, w', hr w' hw', hv, Below.refl _ _⟩⟩

theorem QOutS.out {s : Sem Next} (hh : RH B w0 E hp w) (h : QOutS P K E hp w s) : Out K B w0 E (s.run P w) := by
  obtain ⟨v, hk, _, hr⟩ := h
  obtain ⟨u, w'', hr, hv, hb⟩ := hr w (Below.refl _ _)
  rw [hr]
  exact ⟨v, hp, E, u, w'', .inl rfl, hk, List.prefix_refl _, hv, hh.congr hb⟩

theorem below_drawn (B : Nat) (w : World) (n : Nat) : Below B w { w with drawn := n } := ⟨rfl, rfl, rfl, Nat.le_refl _, fun _ _ => rfl⟩

theorem qoutS_of_draws {c : C1} {s : Sem Value} (hk : K (.one c) hp) (h : Draws P s (fun v => RC E c v)) : QOutS P K E hp w (do return Next.value (← s)) := by
  refine ⟨.one c, hk, ?_, fun w' _ => ?_⟩
  · obtain ⟨x, _, _, hx⟩ := h.out w
    exact ⟨x, hx⟩
  · obtain ⟨x, n, hr, hv⟩ := h.out w'
    refine ⟨x, _, ?_, hv, below_drawn _ _ n⟩
    rw [Sem.run_bind, hr]
    rfl

theorem anyC_spec {x : AV} {c : Bool} {k : FloatKind} {n : Bool} {u : Value} (h : anyC x = some (c, k, n)) (hr : RV E x u) : (c = false ∧ ∃ m, u = .float k m) ∨ (c = true ∧ ∃ m m', u = .complex k m m') := by
  unfold anyC at h
  split at h
  · split at h
    · simp only [Option.some.injEq, Prod.mk.injEq] at h
      obtain ⟨rfl, rfl, _⟩ := h
      exact .inl ⟨rfl, hr⟩
    · simp only [Option.some.injEq, Prod.mk.injEq] at h
      obtain ⟨rfl, rfl, _⟩ := h
      exact .inr ⟨rfl, hr⟩
    · split at h
      · simp only [Option.some.injEq, Prod.mk.injEq] at h
        obtain ⟨rfl, rfl, _⟩ := h
        exact .inl ⟨rfl, _, hr.1⟩
      · simp only [Option.some.injEq, Prod.mk.injEq] at h
        obtain ⟨rfl, rfl, _⟩ := h
        exact .inr ⟨rfl, _, _, hr.1⟩
      · cases h
    · cases h
  · cases h

theorem anyBin_sound {af : Bool} (ht : RT E tm a.tmps) (o : Oper) {op : BinOp} {t u : TypeId} {x y : Operand} (ho : o.op = .binOp op t x y u) {c : C1} (hc : anyBin af op (evalO tm x) (evalO tm y) = some c) (h : K (.one c) hp) :
    QOutS P K E hp w (execOp a.eval o) := by
  unfold anyBin at hc
  split at hc
  · cases hc
  rename_i ha
  split at hc
  · cases hc
  rename_i c1 k n hx
  split at hc
  · cases hc
  rename_i c2 k2 n2 hy
  split at hc
  · cases hc
  split at hc
  · rename_i hk
    obtain ⟨rfl, rfl, hk⟩ := hk
    simp only [Option.some.injEq] at hc
    have hx := anyC_spec hx (ht.eval x)
    have hy := anyC_spec hy (ht.eval y)
    rcases hx with ⟨rfl, m, hx⟩ | ⟨rfl, m, m', hx⟩
    · rcases hy with ⟨_, m2, hy⟩ | ⟨h, _⟩
      · subst hc
        have hg : eqGuard op t x y (.float k m) (.float k m2) = (Pure.pure () : Sem Unit) := by cases op <;> rfl
        have hb : binOp op t (.float k m) (.float k m2) = Op.floatArith op k m m2 := by
          cases op with
          | add => simp [binOp]
          | sub => simp [binOp]
          | mul => simp [binOp]
          | quo => simp [binOp]
          | _ => cases ha
        have e : execOp a.eval o = (do return Next.value (← (do eqGuard op t x y (.float k m) (.float k m2); binOp op t (.float k m) (.float k m2)))) := by
          simp only [execOp, ho, hx, hy]
        rw [e]
        refine qoutS_of_draws h ?_
        rw [hg, hb]
        exact Draws.bind (V := fun _ => True) (Draws.pure trivial) fun _ _ => draws_float ha k m m2
      · cases h
    · rcases hy with ⟨h, _⟩ | ⟨_, m2, m2', hy⟩
      · cases h
      · subst hc
        obtain rfl := hk rfl
        have hg : eqGuard op t x y (.complex .f64 m m') (.complex .f64 m2 m2') = (Pure.pure () : Sem Unit) := by cases op <;> rfl
        have hb : binOp op t (.complex .f64 m m') (.complex .f64 m2 m2') = Op.complexOp op .f64 m m' m2 m2' := by
          cases op with
          | add => rfl
          | sub => rfl
          | mul => rfl
          | quo => rfl
          | _ => cases ha
        have e : execOp a.eval o = (do return Next.value (← (do eqGuard op t x y (.complex .f64 m m') (.complex .f64 m2 m2'); binOp op t (.complex .f64 m m') (.complex .f64 m2 m2')))) := by
          simp only [execOp, ho, hx, hy]
        rw [e]
        refine qoutS_of_draws h ?_
        rw [hg, hb]
        exact Draws.bind (V := fun _ => True) (Draws.pure trivial) fun _ _ => draws_complex ha m m' m2 m2'
  · cases hc

theorem anyPart_sound (ht : RT E tm a.tmps) (o : Oper) {c : Call} {b : Builtin} (ho : o.op = .call c) (hb : c.callee = .builtin b) {d : C1} (hc : anyPart b (c.args.toList.map (evalO tm)) = some d) (h : K (.one d) hp) :
    QOutS P K E hp w (execOp a.eval o) := by
  unfold anyPart at hc
  have args : ∀ l, c.args.toList.map (evalO tm) = l → ∃ us : List Value, c.args.map a.eval = us.toArray ∧ us.length = l.length ∧ ∀ (j : Nat) (v : AV) (u : Value), l[j]? = some v → us[j]? = some u → RV E v u := fun l hl => by
    refine ⟨c.args.toList.map a.eval, by apply Array.ext'; simp, by rw [← hl]; simp, fun j v u h1 h2 => ?_⟩
    rw [← hl] at h1
    simp only [List.getElem?_map, Option.map_eq_some_iff] at h1 h2
    obtain ⟨x, hx, rfl⟩ := h1
    obtain ⟨y, hy, rfl⟩ := h2
    rw [hx] at hy
    obtain rfl := Option.some.inj hy
    exact ht.eval x
  split at hc
  · split at hc
    · rename_i k hl
      simp only [Option.some.injEq] at hc; subst hc
      obtain ⟨us, h1, h2, h3⟩ := args _ hl
      match us, h2 with
      | [u], _ =>
        obtain ⟨p, q, rfl⟩ := h3 0 _ u rfl rfl
        have e : execOp a.eval o = (do return Next.value (← (Pure.pure (.float k p) : Sem Value))) := by
          simp only [execOp, ho, resolve, hb, invoke, builtin, h1]
          rfl
        rw [e]
        exact qoutS_of_draws h (Draws.pure ⟨p, rfl⟩)
    · cases hc
  · split at hc
    · rename_i k hl
      simp only [Option.some.injEq] at hc; subst hc
      obtain ⟨us, h1, h2, h3⟩ := args _ hl
      match us, h2 with
      | [u], _ =>
        obtain ⟨p, q, rfl⟩ := h3 0 _ u rfl rfl
        have e : execOp a.eval o = (do return Next.value (← (Pure.pure (.float k q) : Sem Value))) := by
          simp only [execOp, ho, resolve, hb, invoke, builtin, h1]
          rfl
        rw [e]
        exact qoutS_of_draws h (Draws.pure ⟨q, rfl⟩)
    · cases hc
  · split at hc
    · rename_i x y hl
      split at hc
      · rename_i k n hx
        split at hc
        · rename_i k' n' hy
          split at hc
          · cases hc
          · split at hc
            · rename_i hk
              subst hk
              simp only [Option.some.injEq] at hc; subst hc
              obtain ⟨us, h1, h2, h3⟩ := args _ hl
              match us, h2 with
              | [u, u'], _ =>
                rcases anyC_spec hx (h3 0 _ u rfl rfl) with ⟨_, p, rfl⟩ | ⟨h, _⟩
                · rcases anyC_spec hy (h3 1 _ u' rfl rfl) with ⟨_, q, rfl⟩ | ⟨h, _⟩
                  · have e : execOp a.eval o = (do return Next.value (← (Pure.pure (.complex k p q) : Sem Value))) := by
                      simp only [execOp, ho, resolve, hb, invoke, builtin, h1]
                      show (do let r ← (if k = k then Pure.pure (Value.complex k p q) else stuck "complex: parts of different kinds" : Sem Value); Pure.pure (Next.value r)) = _
                      rw [if_pos rfl]
                    rw [e]
                    exact qoutS_of_draws h (Draws.pure ⟨p, q, rfl⟩)
                  · cases h
                · cases h
            · cases hc
        · cases hc
      · cases hc
    · cases hc
  · cases hc

/-- A quiet operation, calls of Go functions apart. -/
theorem quiet_soundS (hT : TabOk P T) (hh : RH B w0 E hp w) (ht : RT E tm a.tmps) (o : Oper) (hq : quietOp o = true) (hc : callee? o = none) (h : opK P T o tm hp K) : QOutS P K E hp w (execOp a.eval o) := by
  unfold opK at h
  split at h
  · rename_i c hany
    unfold anyOp at hany
    split at hany
    · rename_i ho; exact anyBin_sound ht o ho hany h
    · rename_i cl ho
      split at hany
      · rename_i b hb
        split at hany
        · exact anyPart_sound ht o ho hb hany h
        · exact anyPart_sound ht o ho hb hany h
        · exact anyPart_sound ht o ho hb hany h
        · cases hany
      · cases hany
    · cases hany
  · exact (quiet_sound hT hh ht o hq hc h).toS

/-- Every operation of the evaluator, calls of Go functions apart. -/
theorem opK_sound (hT : TabOk P T) (hh : RH B w0 E hp w) (ht : RT E tm a.tmps) (o : Oper) (hc : callee? o = none) (h : opK P T o tm hp K) : Out K B w0 E ((execOp a.eval o).run P w) := by
  unfold opK at h
  split at h
  · rename_i c hany
    unfold anyOp at hany
    split at hany
    · rename_i ho; exact (anyBin_sound ht o ho hany h).out hh
    · rename_i cl ho
      split at hany
      · rename_i b hb
        split at hany
        · exact (anyPart_sound ht o ho hb hany h).out hh
        · exact (anyPart_sound ht o ho hb hany h).out hh
        · exact (anyPart_sound ht o ho hb hany h).out hh
        · cases hany
      · cases hany
    · cases hany
  · exact opK0_sound hT hh ht o hc h
end any
end Sm
