/-
  What is proved here: contracts of loops out of one round, told for every number of the round. A text to be imported.
-/
import Derived.Test.YtgpbpgbokfdbeaaDoorSimO
namespace Sm
open Go Go.RowKit
set_option linter.unusedSimpArgs false

/-- What is known here is known there too. -/
def Weak (tm : Tm) (hp : List Blk) (tm' : Tm) (hp' : List Blk) : Prop :=
  (∀ (E : Env) (ts : Array Value), RT E tm ts → RT E tm' ts) ∧ ∀ (B : Nat) (w0 : World) (E : Env) (w : World), RH B w0 E hp w → RH B w0 E hp' w

theorem Weak.refl (tm : Tm) (hp : List Blk) : Weak tm hp tm hp := ⟨fun _ _ h => h, fun _ _ _ _ h => h⟩

theorem Weak.trans {t1 t2 t3 : Tm} {h1 h2 h3 : List Blk} (a : Weak t1 h1 t2 h2) (b : Weak t2 h2 t3 h3) : Weak t1 h1 t3 h3 :=
  ⟨fun E ts h => b.1 E ts (a.1 E ts h), fun B w0 E w h => b.2 B w0 E w (a.2 B w0 E w h)⟩

/-- Of so many temporaries those of a list are known. -/
def tmL (n : Nat) : List (Nat × AV) → Tm
  | [] => ⟨n, .fill⟩
  | (k, v) :: l => setT (tmL n l) k v

theorem tmL_n (n : Nat) : ∀ l, (tmL n l).n = n
  | [] => rfl
  | (k, v) :: l => by rw [tmL, setT_n, tmL_n n l]

/-- Do two values say the same, but for whether they are written out? -/
def sameV : AV → AV → Prop
  | .one (.sc v _), .one (.sc u _) => v = u
  | a, b => a = b

theorem sameV_RV {E : Env} {a b : AV} {u : Value} (h : sameV a b) (hr : RV E a u) : RV E b u := by
  unfold sameV at h
  split at h
  · subst h; exact hr
  · subst h; exact hr

def allSame (tm : Tm) : List (Nat × AV) → Prop
  | [] => True
  | (k, v) :: l => sameV (getT tm k) v ∧ allSame tm l

theorem RT.keep {E : Env} {tm : Tm} {ts : Array Value} (h : RT E tm ts) : ∀ (l : List (Nat × AV)), allSame tm l → RT E (tmL tm.n l) ts
  | [], _ => by
    refine ⟨h.1, h.2.1, fun i hi => ?_⟩
    have : getT (tmL tm.n []) i = .bad := by
      simp only [tmL, getT]
      rw [show Nat.blt i tm.n = true from by rw [blt_eq]; simpa [tmL] using hi]
      rfl
    rw [this]; trivial
  | (k, v) :: l, hl => by
    have ih := RT.keep h l hl.2
    refine ⟨by rw [tmL, setT_n, tmL_n]; exact h.1, by rw [tmL, setT_n, tmL_n]; exact h.2.1, fun i hi => ?_⟩
    rw [tmL, setT_n, tmL_n] at hi
    rw [tmL, getT_setT (by rw [tmL_n]; exact h.2.1) (by rw [tmL_n]; exact hi)]
    by_cases hk : k = i
    · subst hk
      rw [if_pos rfl]
      exact sameV_RV hl.1 (h.2.2 k hi)
    · rw [if_neg hk]
      exact ih.2.2 i (by rw [tmL_n]; exact hi)

/-- Blocks of which one knows the same. -/
def BlkLe (b b' : Blk) : Prop := (b'.elem, b'.full) = (b.elem, b.full) ∧ b'.live = b.live ∧ b'.ro = b.ro ∧ (∀ E vs, RCs E b.cells vs → RCs E b'.cells vs) ∧ ∀ l, b'.body = .mp l → b.body = .mp l

theorem BlkLe.refl (b : Blk) : BlkLe b b := ⟨rfl, rfl, rfl, fun _ _ h => h, fun _ h => h⟩

def HpLe : List Blk → List Blk → Prop
  | [], [] => True
  | b :: l, b' :: l' => BlkLe b b' ∧ HpLe l l'
  | _, _ => False

theorem HpLe.refl : ∀ l, HpLe l l
  | [] => trivial
  | b :: l => ⟨.refl b, HpLe.refl l⟩

theorem HpLe.length : ∀ {l l' : List Blk}, HpLe l l' → l.length = l'.length
  | [], [], _ => rfl
  | _ :: _, _ :: _, h => by simp [HpLe.length h.2]
  | [], _ :: _, h => h.elim
  | _ :: _, [], h => h.elim

theorem HpLe.get : ∀ {l l' : List Blk}, HpLe l l' → ∀ {i : Nat} {b' : Blk}, l'[i]? = some b' → ∃ b, l[i]? = some b ∧ BlkLe b b'
  | [], [], _, i, b', h => by simp at h
  | b :: l, c :: l', hl, i, b', h => by
    cases i with
    | zero => simp at h; subst h; exact ⟨b, rfl, hl.1⟩
    | succ i => simp at h; obtain ⟨x, h1, h2⟩ := HpLe.get hl.2 h; exact ⟨x, by simpa using h1, h2⟩
  | [], _ :: _, h, _, _, _ => h.elim
  | _ :: _, [], h, _, _, _ => h.elim

theorem HpLe.RH {B : Nat} {w0 : World} {E : Env} {hp hp' : List Blk} {w : World} (hl : HpLe hp hp') (h : RH B w0 E hp w) : Sm.RH B w0 E hp' w where
  below := h.below
  base := h.base
  laid := h.laid
  len := by rw [h.len, hl.length]
  blk := fun i b' e hi he hlv => by
    obtain ⟨b, hb, h1, h2, h3, h4, _⟩ := hl.get hi
    obtain ⟨c, fz, hc, r1, r2, r3, r4⟩ := h.blk i b e hb he (by rw [← h2]; exact hlv)
    have hlen : b'.cells.length = b.cells.length := by
      have h5 := h4 E _ r4
      rw [h5.1, ← r4.1]
    obtain ⟨h1, h1f⟩ := Prod.mk.inj h1
    exact ⟨c, fz, by rw [h1]; exact hc, r1, fun hr => r2 (by rw [← h3]; exact hr), ⟨by rw [hlen]; exact r3.1, fun hf hr => by rw [hlen]; exact r3.2 (h1f.symm.trans hf) (by rw [← h3]; exact hr)⟩, by rw [hlen]; exact h4 E _ r4⟩
  inj := fun i j bi bj ei ej hij hi hj hei hej hli hlj hro => by
    obtain ⟨b1, hb1, _, l1, o1, _⟩ := hl.get hi
    obtain ⟨b2, hb2, _, l2, _, _⟩ := hl.get hj
    exact h.inj i j b1 b2 ei ej hij hb1 hb2 hei hej (by rw [← l1]; exact hli) (by rw [← l2]; exact hlj) (by rw [← o1]; exact hro)
  frz := h.frz.keep (.refl E) (.refl E) (fun _ _ _ _ hc _ => hc) fun i bi ei hi hei hli hro => by
    obtain ⟨b1, hb1, _, l1, o1, _⟩ := hl.get hi
    exact .inl ⟨i, b1, ei, hb1, hei, by rw [← l1]; exact hli, by rw [← o1]; exact hro, rfl⟩
  maps := h.maps.same fun i b l hi hb => by
    obtain ⟨b1, hb1, _, _, _, _, hm⟩ := hl.get hi
    exact ⟨b1, hb1, hm l hb⟩

theorem Weak.of {tm : Tm} {hp hp' : List Blk} {n : Nat} {l : List (Nat × AV)} (hn : tm.n = n) (hl : allSame tm l) (hh : HpLe hp hp') : Weak tm hp (tmL n l) hp' :=
  ⟨fun _ _ h => hn ▸ RT.keep h l hl, fun _ _ _ _ h => hh.RH h⟩

/-- A contract of a loop. -/
def LoopOk (P : Program) (c : Code) (tm : Tm) (hp : List Blk) (x : Ex) (tm' : Tm) (hp' : List Blk) : Prop :=
  ∀ (B : Nat) (w0 : World) (E : Env) (a : Act) (w : World) (Q : Exit → Act → World → Prop), RH B w0 E hp w → RT E tm a.tmps →
    (∀ E' a' w', E <+: E' → RT E' tm' a'.tmps → a'.defers = a.defers → RH B w0 E' hp' w' → Q x.to a' w') → InLoop P c Q a w

theorem LoopOk.weak {P : Program} {c : Code} {tm t1 : Tm} {hp h1 : List Blk} {x : Ex} {tm' t2 : Tm} {hp' h2 : List Blk} (h : LoopOk P c t1 h1 x tm' hp') (w1 : Weak tm hp t1 h1) (w2 : Weak tm' hp' t2 h2) : LoopOk P c tm hp x t2 h2 :=
  fun B w0 E a w Q hh ht hq => h B w0 E a w Q (w1.2 _ _ _ _ hh) (w1.1 _ _ ht) fun E' a' w' hpre hrt hd hrh => hq E' a' w' hpre (w2.1 _ _ hrt) hd (w2.2 _ _ _ _ hrh)

/-- The loops of a piece of code, those within others left out. -/
def loopsC : Code → List Code
  | .loop c => [c]
  | .seq a b => loopsC a ++ loopsC b
  | .block _ c => loopsC c
  | .scope c => loopsC c
  | .cond _ a b => loopsC a ++ loopsC b
  | _ => []

/-- A loop's body, by the places of the loops that it lies in. -/
def pathC : Code → List Nat → Code
  | c, [] => c
  | c, i :: l => pathC ((loopsC c).getD i .skip) l

def bodyC (fn : Func) : Code := fn.body.getD .skip

def sameVs : List AV → List AV → Prop
  | [], [] => True
  | a :: l, b :: m => sameV a b ∧ sameVs l m
  | _, _ => False

theorem allSame_of {tm : Tm} : ∀ {l : List (Nat × AV)}, sameVs (l.map fun p => getT tm p.1) (l.map (·.2)) → allSame tm l
  | [], _ => trivial
  | _ :: _, h => ⟨h.1, allSame_of h.2⟩

/-- One round, and what is asked of some temporaries and of the memory behind it. -/
@[irreducible] def roundK (P : Program) (T : Tab) (F : Fns) (n : Nat) (c : Code) (tm : Tm) (hp : List Blk) (orc : List Sg) (ks : List Nat) (X : Ex → Nat → List AV → List Blk → Prop) : Prop :=
  codeK P T F n c tm hp orc fun x tm hp _ => X x tm.n (ks.map (getT tm)) hp

/-- Behind a round. -/
def After (e : Ex) (n : Nat) (l : List (Nat × AV)) (hp' : List Blk) : Ex → Nat → List AV → List Blk → Prop :=
  fun x m vs hp => x = e ∧ m = n ∧ sameVs vs (l.map (·.2)) ∧ HpLe hp hp'

theorem After.weak {e x : Ex} {n : Nat} {l : List (Nat × AV)} {tm : Tm} {hp hp' : List Blk} (h : After e n l hp' x tm.n ((l.map (·.1)).map (getT tm)) hp) : x = e ∧ Weak tm hp (tmL n l) hp' :=
  ⟨h.1, Weak.of h.2.1 (allSame_of (by rw [List.map_map] at h; exact h.2.2.1)) h.2.2.2⟩

theorem loop_rounds {P : Program} {T : Tab} {F : Fns} (hm : P.follows .mixedOrders = true) (hT : TabOk P T) (hF : FnsOk P F) {c : Code} (n0 N : Nat) (l : Nat → List (Nat × AV)) (hps : Nat → List Blk) (x : Ex) (lf : List (Nat × AV)) (hpf : List Blk) (hx : x ≠ .normal)
    (hs : ∀ i, i < N → ∃ n orc, roundK P T F n c (tmL n0 (l i)) (hps i) orc ((l (i + 1)).map (·.1)) (After .normal n0 (l (i + 1)) (hps (i + 1))))
    (hN : ∃ n orc, roundK P T F n c (tmL n0 (l N)) (hps N) orc (lf.map (·.1)) (After x n0 lf hpf)) :
    ∀ i, i ≤ N → LoopOk P c (tmL n0 (l i)) (hps i) x (tmL n0 lf) hpf := by
  intro i hi
  obtain ⟨d, hd⟩ : ∃ d, N - i = d := ⟨_, rfl⟩
  induction d generalizing i with
  | zero =>
    obtain rfl : i = N := by omega
    intro B w0 E a w Q hh ht hq
    obtain ⟨n, orc, h⟩ := hN
    unfold roundK at h
    refine InLoop.round ((code_both hm hT n B w0 F hF c).1 _ _ _ _ E a w _ h hh ht ?_)
    intro y tm' hp' orc' E' a' w' hk hpre hrt hd' hrh
    obtain ⟨rfl, hw⟩ := After.weak hk
    have hq' := hq E' a' w' hpre (hw.1 _ _ hrt) hd' (hw.2 _ _ _ _ hrh)
    cases y with
    | normal => exact absurd rfl hx
    | exit id => exact hq'
    | ret => exact hq'
  | succ d ih =>
    intro B w0 E a w Q hh ht hq
    obtain ⟨n, orc, h⟩ := hs i (by omega)
    unfold roundK at h
    refine InLoop.round ((code_both hm hT n B w0 F hF c).1 _ _ _ _ E a w _ h hh ht ?_)
    intro y tm' hp' orc' E' a' w' hk hpre hrt hd' hrh
    obtain ⟨rfl, hw⟩ := After.weak hk
    exact ih (i + 1) (by omega) (by omega) B w0 E' a' w' Q (hw.2 _ _ _ _ hrh) (hw.1 _ _ hrt) fun E2 a2 w2 hpre2 hrt2 hd2 hrh2 => hq E2 a2 w2 (List.IsPrefix.trans hpre hpre2) hrt2 (hd2.trans hd') hrh2

/-- The rounds may lean on contracts of their own. -/
theorem loop_roundsF {P : Program} {T : Tab} (hm : P.follows .mixedOrders = true) (hT : TabOk P T) {c : Code} (n0 N : Nat) (l : Nat → List (Nat × AV)) (hps : Nat → List Blk) (x : Ex) (lf : List (Nat × AV)) (hpf : List Blk) (hx : x ≠ .normal)
    (hs : ∀ i, i < N → ∃ F, FnsOk P F ∧ ∃ n orc, roundK P T F n c (tmL n0 (l i)) (hps i) orc ((l (i + 1)).map (·.1)) (After .normal n0 (l (i + 1)) (hps (i + 1))))
    (hN : ∃ F, FnsOk P F ∧ ∃ n orc, roundK P T F n c (tmL n0 (l N)) (hps N) orc (lf.map (·.1)) (After x n0 lf hpf)) :
    ∀ i, i ≤ N → LoopOk P c (tmL n0 (l i)) (hps i) x (tmL n0 lf) hpf := by
  intro i hi
  obtain ⟨d, hd⟩ : ∃ d, N - i = d := ⟨_, rfl⟩
  induction d generalizing i with
  | zero =>
    obtain rfl : i = N := by omega
    intro B w0 E a w Q hh ht hq
    obtain ⟨F, hF, n, orc, h⟩ := hN
    unfold roundK at h
    refine InLoop.round ((code_both hm hT n B w0 F hF c).1 _ _ _ _ E a w _ h hh ht ?_)
    intro y tm' hp' orc' E' a' w' hk hpre hrt hd' hrh
    obtain ⟨rfl, hw⟩ := After.weak hk
    have hq' := hq E' a' w' hpre (hw.1 _ _ hrt) hd' (hw.2 _ _ _ _ hrh)
    cases y with
    | normal => exact absurd rfl hx
    | exit id => exact hq'
    | ret => exact hq'
  | succ d ih =>
    intro B w0 E a w Q hh ht hq
    obtain ⟨F, hF, n, orc, h⟩ := hs i (by omega)
    unfold roundK at h
    refine InLoop.round ((code_both hm hT n B w0 F hF c).1 _ _ _ _ E a w _ h hh ht ?_)
    intro y tm' hp' orc' E' a' w' hk hpre hrt hd' hrh
    obtain ⟨rfl, hw⟩ := After.weak hk
    exact ih (i + 1) (by omega) (by omega) B w0 E' a' w' Q (hw.2 _ _ _ _ hrh) (hw.1 _ _ hrt) fun E2 a2 w2 hpre2 hrt2 hd2 hrh2 => hq E2 a2 w2 (List.IsPrefix.trans hpre hpre2) hrt2 (hd2.trans hd') hrh2

theorem FnsOk.addLoop {P : Program} {F : Fns} (hF : FnsOk P F) (k : Nat) (c : Code) (g : Tm → List Blk → Option (Prop × Ex × Tm × List Blk))
    (h : ∀ (tm : Tm) (hp : List Blk) (p : Prop) (x : Ex) (tm' : Tm) (hp' : List Blk), g tm hp = some (p, x, tm', hp') → p → LoopOk P c tm hp x tm' hp') : FnsOk P (F.addLoop k c g) := by
  refine ⟨hF.pr, hF.pure, hF.pre, hF.ext, hF.gen, hF.gnp, hF.cal, fun j c' g' hj => ?_⟩
  simp only [Fns.addLoop] at hj
  split at hj
  · simp only [Option.some.injEq, Prod.mk.injEq] at hj
    obtain ⟨rfl, rfl⟩ := hj
    intro tm hp p x tm' hp' hg hp1 B w0 E a w Q hh ht hq
    exact h tm hp p x tm' hp' hg hp1 B w0 E a w Q hh ht hq
  · exact hF.loops j c' g' hj

def syI (k : IntKind) (n : Nat) (f : Nat → Int) : Body := .sy n fun j => .sc (.int k (f j)) false

theorem sameV.refl (a : AV) : sameV a a := by
  unfold sameV
  split <;> rfl

theorem con_of_each {P : Program} {T : Tab} (hm : P.follows .mixedOrders = true) (hT : TabOk P T) {f : FuncId} {fn : Func} (hf : P.funcs[f]? = some fn)
    (hcall : ∀ (vs : Array Value) (w : World), (callFunc f vs).run P w = .ok (.enter f vs) w) {G : List ArgV → Option Value}
    (h : ∀ (avs : List ArgV) (u : Value), G avs = some u → ∃ F, FnsOk P F ∧ ∃ sts n orc as bs, canon2 sts avs 0 = some (as, bs) ∧ runK P T F n fn as bs orc (fun r _ => resW r = some u)) : Con P f G := by
  refine ⟨hcall, fun avs u hG w us hr => ?_⟩
  obtain ⟨F, hF, hrest⟩ := h avs u hG
  classical
  refine (con_of_runW (G := fun a => if a = avs then some u else none) hm hT hF hf hcall fun avs' u' h' => ?_).2 avs u (if_pos rfl) w us hr
  split at h'
  · rename_i he
    subst he
    simp only [Option.some.injEq] at h'; subst h'
    exact hrest
  · cases h'

theorem sy_le {n : Nat} {g g' : Nat → C1} {e : TypeId} {l r fu : Bool} (h : ∀ j, j < n → g j = g' j) : BlkLe { body := .sy n g, elem := e, live := l, ro := r, full := fu } { body := .sy n g', elem := e, live := l, ro := r, full := fu } := by
  refine ⟨rfl, rfl, rfl, fun E vs hr => ?_, fun l h => by cases h⟩
  have : symC n g' = symC n g := by
    unfold symC
    apply List.map_congr_left
    intro j hj
    exact (h j (List.mem_range.1 hj)).symm
  show RCs E (symC n g') vs
  rw [this]
  exact hr

theorem li_le {n : Nat} {k : IntKind} {st : Bool} {f : Nat → Int} {e : TypeId} {l r fu : Bool} : BlkLe { body := .li (cellsK k st n f), elem := e, live := l, ro := r, full := fu } { body := syI k n f, elem := e, live := l, ro := r, full := fu } := by
  refine ⟨rfl, rfl, rfl, fun E vs hr => ?_, fun l h => by cases h⟩
  refine ⟨by have := hr.1; simpa [cellsK, Blk.cells, Body.cells, syI, symC] using this, fun j c v h1 h2 => ?_⟩
  have hj : j < n := by have := (List.getElem?_eq_some_iff.1 h1).1; simpa [Blk.cells, Body.cells, syI, symC] using this
  have h3 : (symC n fun j => C1.sc (.int k (f j)) false)[j]? = some c := h1
  rw [symC_get _ _ hj] at h3
  simp only [Option.some.injEq] at h3
  subst h3
  exact hr.2 j (.sc (.int k (f j)) st) v (by simp [Blk.cells, Body.cells, cellsK, hj]) h2

theorem updG_int {k : IntKind} {h : Nat → Int} {off : Nat} {v : Int} {st : Bool} (j : Nat) : updG (fun j => .sc (.int k (h j)) false) off (.sc (.int k v) st) j = .sc (.int k (if j = off then v else h j)) false := by
  show (if k = k then C1.sc (.int k (bif Nat.beq j off then v else h j)) false else _) = _
  rw [if_pos rfl, beq_eq]
  by_cases hj : j = off
  · rw [if_pos hj, decide_eq_true hj]; rfl
  · rw [if_neg hj, decide_eq_false hj]; rfl

/-! ### blocks written out as blocks told by a function -/

/-- Whole numbers of a kind, all of them. -/
def intsC (k : IntKind) : List C1 → Option (List Int)
  | [] => some []
  | c :: l => match c with
    | .sc (.int k' x) _ => match decide (k = k'), intsC k l with
      | true, some xs => some (x :: xs)
      | _, _ => none
    | _ => none

theorem intsC_spec {E : Env} {k : IntKind} : ∀ {cs : List C1} {xs : List Int} {vs : List Value}, intsC k cs = some xs → RCs E cs vs → xs.length = cs.length ∧ RCs E (symC xs.length fun j => .sc (.int k (xs.getD j 0)) false) vs
  | [], xs, vs, h, hr => by
    simp only [intsC, Option.some.injEq] at h; subst h
    exact ⟨rfl, by simpa [symC] using hr⟩
  | c :: l, xs, vs, h, hr => by
    simp only [intsC] at h
    split at h
    · rename_i k' x st
      split at h
      · rename_i ys hk hys
        simp only [decide_eq_true_eq] at hk
        subst hk
        simp only [Option.some.injEq] at h; subst h
        cases vs with
        | nil => have := hr.1; simp at this
        | cons v vs =>
          obtain ⟨i1, i2⟩ := intsC_spec (vs := vs) hys ⟨by have := hr.1; simpa using this, fun j c v h1 h2 => hr.2 (j + 1) c v (by simpa using h1) (by simpa using h2)⟩
          refine ⟨by simp [i1], ⟨by have := hr.1; simp [symC_length] at *; omega, fun j c v' h1 h2 => ?_⟩⟩
          have hj : j < ys.length + 1 := by have := (List.getElem?_eq_some_iff.1 h1).1; simpa [symC] using this
          rw [List.length_cons, symC_get _ _ hj] at h1
          simp only [Option.some.injEq] at h1
          subst h1
          cases j with
          | zero =>
            simp at h2; subst h2
            have h0 := hr.2 0 _ _ rfl rfl
            exact h0
          | succ j =>
            simp at h2
            exact i2.2 j _ v' (symC_get _ _ (by omega)) h2
      · cases h
    · cases h

/-- A block of whole numbers of a kind, so many: the function that tells them. -/
def asI (k : IntKind) (n : Nat) (b : Blk) : Option (Nat → Int) :=
  match b.body with
  | .sy _ _ => none
  | .rs _ _ _ => none
  | .mp _ => none
  | .li cs => match intsC k cs with
    | some xs => match Nat.beq xs.length n with
      | true => some fun j => xs.getD j 0
      | false => none
    | none => none

theorem asI_le {k : IntKind} {n : Nat} {b : Blk} {f : Nat → Int} (h : asI k n b = some f) : BlkLe b { b with body := syI k n f } := by
  unfold asI at h
  split at h
  · cases h
  · cases h
  · cases h
  · rename_i cs hb
    split at h
    · rename_i xs hxs
      split at h
      · rename_i hn
        simp only [Option.some.injEq] at h; subst h
        rw [beq_eq, decide_eq_true_eq] at hn
        subst hn
        refine ⟨rfl, rfl, rfl, fun E vs hr => ?_, fun l h => by cases h⟩
        have : b.cells = cs := by rw [Blk.cells, hb]; rfl
        rw [this] at hr
        exact (intsC_spec hxs hr).2
      · cases h
    · cases h

end Sm
