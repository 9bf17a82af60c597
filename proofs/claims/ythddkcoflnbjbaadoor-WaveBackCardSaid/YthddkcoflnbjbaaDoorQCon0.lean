/-
  What is proved here: contracts of loops out of one round, told for every number of the round. arrays of floats among a law's arguments, opened; listed package-level variables, opened; the frame of a law over such variables. the listed variables math._sin, math._cos hold what is listed; a world that meets the condition. A text to be imported.
-/
import Derived.Test.YthddkcoflnbjbaaDoorQSimO
import Derived.SizedLaws
import Derived.ChangeSlices
import Derived.ChangeSame
import Derived.LaidLaws
import Derived.Lib.LaidTab
import Derived.Deep.DeepHandedRow
import Derived.SevenTiedAt
import Derived.Test.YthddkcoflnbjbaaDoorQBase
namespace Sm
open Go Go.RowKit
set_option linter.unusedSimpArgs false
def Weak (tm : Tm) (hp : List Blk) (tm' : Tm) (hp' : List Blk) : Prop :=
  (∀ (E : Env) (ts : Array Value), RT E tm ts → RT E tm' ts) ∧ ∀ (B : Nat) (w0 : World) (E : Env) (w : World), RH B w0 E hp w → RH B w0 E hp' w
def tmL (n : Nat) : List (Nat × AV) → Tm
  | [] => ⟨n, .fill⟩
  | (k, v) :: l => setT (tmL n l) k v
theorem tmL_n (n : Nat) : ∀ l, (tmL n l).n = n
  | [] => rfl
  | (k, v) :: l => by rw [tmL, setT_n, tmL_n n l]
def sameV : AV → AV → Prop
  | .one (.sc v _), .one (.sc u _) => v = u
  | a, b => a = b
theorem sameV_RV {E : Env} {a b : AV} {u : Value} (h : sameV a b) (hr : RV E a u) : RV E b u := by
  unfold sameV at h
  split at h
  · subst h; exact hr
  · subst h; exact hr
def allSame (tm : Tm) : List (Nat × AV) → Prop
  | [] => True
  | (k, v) :: l => sameV (getT tm k) v ∧ allSame tm l
theorem RT.keep {E : Env} {tm : Tm} {ts : Array Value} (h : RT E tm ts) : ∀ (l : List (Nat × AV)), allSame tm l → RT E (tmL tm.n l) ts
  | [], _ => by
    refine ⟨h.1, h.2.1, fun i hi => ?_⟩
    have : getT (tmL tm.n []) i = .bad := by
      simp only [tmL, getT]
      rw [show Nat.blt i tm.n = true from by rw [blt_eq]; simpa [tmL] using hi]
      rfl
    rw [this]; trivial
  | (k, v) :: l, hl => by
    have ih := RT.keep h l hl.2
    refine ⟨by rw [tmL, setT_n, tmL_n]; exact h.1, by rw [tmL, setT_n, tmL_n]; exact h.2.1, fun i hi => ?_⟩
    rw [tmL, setT_n, tmL_n] at hi
    rw [tmL, getT_setT (by rw [tmL_n]; exact h.2.1) (by rw [tmL_n]; exact hi)]
    by_cases hk : k = i
    · subst hk
      rw [if_pos rfl]
      exact sameV_RV hl.1 (h.2.2 k hi)
    · rw [if_neg hk]
      exact ih.2.2 i (by rw [tmL_n]; exact hi)
def BlkLe (b b' : Blk) : Prop := (b'.elem, b'.full) = (b.elem, b.full) ∧ b'.live = b.live ∧ b'.ro = b.ro ∧ ∀ E vs, RCs E b.cells vs → RCs E b'.cells vs
theorem BlkLe.refl (b : Blk) : BlkLe b b := ⟨rfl, rfl, rfl, fun _ _ h => h⟩
def HpLe : List Blk → List Blk → Prop
  | [], [] => True
  | b :: l, b' :: l' => BlkLe b b' ∧ HpLe l l'
  | _, _ => False
theorem HpLe.refl : ∀ l, HpLe l l
  | [] => trivial
  | b :: l => ⟨.refl b, HpLe.refl l⟩
theorem HpLe.length : ∀ {l l' : List Blk}, HpLe l l' → l.length = l'.length
  | [], [], _ => rfl
  | _ :: _, _ :: _, h => by simp [HpLe.length h.2]
  | [], _ :: _, h => h.elim
  | _ :: _, [], h => h.elim
theorem HpLe.get : ∀ {l l' : List Blk}, HpLe l l' → ∀ {i : Nat} {b' : Blk}, l'[i]? = some b' → ∃ b, l[i]? = some b ∧ BlkLe b b'
  | [], [], _, i, b', h => by simp at h
  | b :: l, c :: l', hl, i, b', h => by
    cases i with
    | zero => simp at h; subst h; exact ⟨b, rfl, hl.1⟩
    | succ i => simp at h; obtain ⟨x, h1, h2⟩ := HpLe.get hl.2 h; exact ⟨x, by simpa using h1, h2⟩
  | [], _ :: _, h, _, _, _ => h.elim
  | _ :: _, [], h, _, _, _ => h.elim
theorem HpLe.RH {B : Nat} {w0 : World} {E : Env} {hp hp' : List Blk} {w : World} (hl : HpLe hp hp') (h : RH B w0 E hp w) : Sm.RH B w0 E hp' w where
  below := h.below
  base := h.base
  laid := h.laid
  len := by rw [h.len, hl.length]
  blk := fun i b' e hi he hlv => by
    obtain ⟨b, hb, h1, h2, h3, h4⟩ := hl.get hi
    obtain ⟨c, fz, hc, r1, r2, r3, r4⟩ := h.blk i b e hb he (by rw [← h2]; exact hlv)
    have hlen : b'.cells.length = b.cells.length := by
      have h5 := h4 E _ r4
      rw [h5.1, ← r4.1]
    obtain ⟨h1, h1f⟩ := Prod.mk.inj h1
    exact ⟨c, fz, by rw [h1]; exact hc, r1, fun hr => r2 (by rw [← h3]; exact hr), ⟨by rw [hlen]; exact r3.1, fun hf hr => by rw [hlen]; exact r3.2 (h1f.symm.trans hf) (by rw [← h3]; exact hr)⟩, by rw [hlen]; exact h4 E _ r4⟩
  inj := fun i j bi bj ei ej hij hi hj hei hej hli hlj hro => by
    obtain ⟨b1, hb1, _, l1, o1, _⟩ := hl.get hi
    obtain ⟨b2, hb2, _, l2, _, _⟩ := hl.get hj
    exact h.inj i j b1 b2 ei ej hij hb1 hb2 hei hej (by rw [← l1]; exact hli) (by rw [← l2]; exact hlj) (by rw [← o1]; exact hro)
  frz := h.frz.keep (.refl E) (.refl E) (fun _ _ _ _ hc _ => hc) fun i bi ei hi hei hli hro => by
    obtain ⟨b1, hb1, _, l1, o1, _⟩ := hl.get hi
    exact .inl ⟨i, b1, ei, hb1, hei, by rw [← l1]; exact hli, by rw [← o1]; exact hro, rfl⟩
theorem Weak.of {tm : Tm} {hp hp' : List Blk} {n : Nat} {l : List (Nat × AV)} (hn : tm.n = n) (hl : allSame tm l) (hh : HpLe hp hp') : Weak tm hp (tmL n l) hp' :=
  ⟨fun _ _ h => hn ▸ RT.keep h l hl, fun _ _ _ _ h => hh.RH h⟩
def LoopOk (P : Program) (c : Code) (tm : Tm) (hp : List Blk) (x : Ex) (tm' : Tm) (hp' : List Blk) : Prop :=
  ∀ (B : Nat) (w0 : World) (E : Env) (a : Act) (w : World) (Q : Exit → Act → World → Prop), RH B w0 E hp w → RT E tm a.tmps →
    (∀ E' a' w', E <+: E' → RT E' tm' a'.tmps → a'.defers = a.defers → RH B w0 E' hp' w' → Q x.to a' w') → InLoop P c Q a w
def loopsC : Code → List Code
  | .loop c => [c]
  | .seq a b => loopsC a ++ loopsC b
  | .block _ c => loopsC c
  | .scope c => loopsC c
  | .cond _ a b => loopsC a ++ loopsC b
  | _ => []
def pathC : Code → List Nat → Code
  | c, [] => c
  | c, i :: l => pathC ((loopsC c).getD i .skip) l
def bodyC (fn : Func) : Code := fn.body.getD .skip
def sameVs : List AV → List AV → Prop
  | [], [] => True
  | a :: l, b :: m => sameV a b ∧ sameVs l m
  | _, _ => False
theorem allSame_of {tm : Tm} : ∀ {l : List (Nat × AV)}, sameVs (l.map fun p => getT tm p.1) (l.map (·.2)) → allSame tm l
  | [], _ => trivial
  | _ :: _, h => ⟨h.1, allSame_of h.2⟩
@[irreducible] def roundK (P : Program) (T : Tab) (F : Fns) (n : Nat) (c : Code) (tm : Tm) (hp : List Blk) (orc : List Sg) (ks : List Nat) (X : Ex → Nat → List AV → List Blk → Prop) : Prop :=
  codeK P T F n c tm hp orc fun x tm hp _ => X x tm.n (ks.map (getT tm)) hp
def After (e : Ex) (n : Nat) (l : List (Nat × AV)) (hp' : List Blk) : Ex → Nat → List AV → List Blk → Prop :=
  fun x m vs hp => x = e ∧ m = n ∧ sameVs vs (l.map (·.2)) ∧ HpLe hp hp'
theorem After.weak {e x : Ex} {n : Nat} {l : List (Nat × AV)} {tm : Tm} {hp hp' : List Blk} (h : After e n l hp' x tm.n ((l.map (·.1)).map (getT tm)) hp) : x = e ∧ Weak tm hp (tmL n l) hp' :=
  ⟨h.1, Weak.of h.2.1 (allSame_of (by rw [List.map_map] at h; exact h.2.2.1)) h.2.2.2⟩
theorem loop_rounds {P : Program} {T : Tab} {F : Fns} (hm : P.follows .mixedOrders = true) (hT : TabOk P T) (hF : FnsOk P F) {c : Code} (n0 N : Nat) (l : Nat → List (Nat × AV)) (hps : Nat → List Blk) (x : Ex) (lf : List (Nat × AV)) (hpf : List Blk) (hx : x ≠ .normal)
    (hs : ∀ i, i < N → ∃ n orc, roundK P T F n c (tmL n0 (l i)) (hps i) orc ((l (i + 1)).map (·.1)) (After .normal n0 (l (i + 1)) (hps (i + 1))))
    (hN : ∃ n orc, roundK P T F n c (tmL n0 (l N)) (hps N) orc (lf.map (·.1)) (After x n0 lf hpf)) :
    ∀ i, i ≤ N → LoopOk P c (tmL n0 (l i)) (hps i) x (tmL n0 lf) hpf := by
  intro i hi
  obtain ⟨d, hd⟩ : ∃ d, N - i = d := ⟨_, rfl⟩
  induction d generalizing i with
  | zero =>
    obtain rfl : i = N := by omega
    intro B w0 E a w Q hh ht hq
    obtain ⟨n, orc, h⟩ := hN
    unfold roundK at h
    refine InLoop.round ((code_both hm hT n B w0 F hF c).1 _ _ _ _ E a w _ h hh ht ?_)
    intro y tm' hp' orc' E' a' w' hk hpre hrt hd' hrh
    obtain ⟨rfl, hw⟩ := After.weak hk
    have hq' := hq E' a' w' hpre (hw.1 _ _ hrt) hd' (hw.2 _ _ _ _ hrh)
    cases y with
    | normal => exact absurd rfl hx
    | exit id => exact hq'
    | ret => exact hq'
  | succ d ih =>
    intro B w0 E a w Q hh ht hq
    obtain ⟨n, orc, h⟩ := hs i (by omega)
    unfold roundK at h
    refine InLoop.round ((code_both hm hT n B w0 F hF c).1 _ _ _ _ E a w _ h hh ht ?_)
    intro y tm' hp' orc' E' a' w' hk hpre hrt hd' hrh
    obtain ⟨rfl, hw⟩ := After.weak hk
    exact ih (i + 1) (by omega) (by omega) B w0 E' a' w' Q (hw.2 _ _ _ _ hrh) (hw.1 _ _ hrt) fun E2 a2 w2 hpre2 hrt2 hd2 hrh2 => hq E2 a2 w2 (List.IsPrefix.trans hpre hpre2) hrt2 (hd2.trans hd') hrh2
theorem loop_roundsF {P : Program} {T : Tab} (hm : P.follows .mixedOrders = true) (hT : TabOk P T) {c : Code} (n0 N : Nat) (l : Nat → List (Nat × AV)) (hps : Nat → List Blk) (x : Ex) (lf : List (Nat × AV)) (hpf : List Blk) (hx : x ≠ .normal)
    (hs : ∀ i, i < N → ∃ F, FnsOk P F ∧ ∃ n orc, roundK P T F n c (tmL n0 (l i)) (hps i) orc ((l (i + 1)).map (·.1)) (After .normal n0 (l (i + 1)) (hps (i + 1))))
    (hN : ∃ F, FnsOk P F ∧ ∃ n orc, roundK P T F n c (tmL n0 (l N)) (hps N) orc (lf.map (·.1)) (After x n0 lf hpf)) :
    ∀ i, i ≤ N → LoopOk P c (tmL n0 (l i)) (hps i) x (tmL n0 lf) hpf := by
  intro i hi
  obtain ⟨d, hd⟩ : ∃ d, N - i = d := ⟨_, rfl⟩
  induction d generalizing i with
  | zero =>
    obtain rfl : i = N := by omega
    intro B w0 E a w Q hh ht hq
    obtain ⟨F, hF, n, orc, h⟩ := hN
    unfold roundK at h
    refine InLoop.round ((code_both hm hT n B w0 F hF c).1 _ _ _ _ E a w _ h hh ht ?_)
    intro y tm' hp' orc' E' a' w' hk hpre hrt hd' hrh
    obtain ⟨rfl, hw⟩ := After.weak hk
    have hq' := hq E' a' w' hpre (hw.1 _ _ hrt) hd' (hw.2 _ _ _ _ hrh)
    cases y with
    | normal => exact absurd rfl hx
    | exit id => exact hq'
    | ret => exact hq'
  | succ d ih =>
    intro B w0 E a w Q hh ht hq
    obtain ⟨F, hF, n, orc, h⟩ := hs i (by omega)
    unfold roundK at h
    refine InLoop.round ((code_both hm hT n B w0 F hF c).1 _ _ _ _ E a w _ h hh ht ?_)
    intro y tm' hp' orc' E' a' w' hk hpre hrt hd' hrh
    obtain ⟨rfl, hw⟩ := After.weak hk
    exact ih (i + 1) (by omega) (by omega) B w0 E' a' w' Q (hw.2 _ _ _ _ hrh) (hw.1 _ _ hrt) fun E2 a2 w2 hpre2 hrt2 hd2 hrh2 => hq E2 a2 w2 (List.IsPrefix.trans hpre hpre2) hrt2 (hd2.trans hd') hrh2
theorem FnsOk.addLoop {P : Program} {F : Fns} (hF : FnsOk P F) (k : Nat) (c : Code) (g : Tm → List Blk → Option (Prop × Ex × Tm × List Blk))
    (h : ∀ (tm : Tm) (hp : List Blk) (p : Prop) (x : Ex) (tm' : Tm) (hp' : List Blk), g tm hp = some (p, x, tm', hp') → p → LoopOk P c tm hp x tm' hp') : FnsOk P (F.addLoop k c g) := by
  refine ⟨hF.pr, hF.pure, hF.pre, hF.ext, hF.gen, hF.gnp, hF.cal, fun j c' g' hj => ?_⟩
  simp only [Fns.addLoop] at hj
  split at hj
  · simp only [Option.some.injEq, Prod.mk.injEq] at hj
    obtain ⟨rfl, rfl⟩ := hj
    intro tm hp p x tm' hp' hg hp1 B w0 E a w Q hh ht hq
    exact h tm hp p x tm' hp' hg hp1 B w0 E a w Q hh ht hq
  · exact hF.loops j c' g' hj
theorem sameV.refl (a : AV) : sameV a a := by
  unfold sameV
  split <;> rfl
theorem sy_le {n : Nat} {g g' : Nat → C1} {e : TypeId} {l r fu : Bool} (h : ∀ j, j < n → g j = g' j) : BlkLe { body := .sy n g, elem := e, live := l, ro := r, full := fu } { body := .sy n g', elem := e, live := l, ro := r, full := fu } := by
  refine ⟨rfl, rfl, rfl, fun E vs hr => ?_⟩
  have : symC n g' = symC n g := by
    unfold symC
    apply List.map_congr_left
    intro j hj
    exact (h j (List.mem_range.1 hj)).symm
  show RCs E (symC n g') vs
  rw [this]
  exact hr
/-! ### blocks written out as blocks told by a function -/
end Sm
namespace Sm
open Go Go.RowKit Go.WideShapes Go.ChangeShapes
theorem trod_float {H : Type} {enc : TypeId × Value → H} {P : Program} {w : World} {base : Nat} {spare : Nat → Bool} {held : Bool} {fuel : Nat} {t : TypeId} {cs : List Value} {x : DataW H × List MemPlace} {k : FloatKind} (ht : P.underlying t = some (.float k)) (h : DataW.trod enc P w base spare held fuel t cs = some x) :
    ∃ n, cs = [.float k n] ∧ x = (.lit (.float k n), []) ∧ (Lit.float k n).wf = true := by
  cases fuel with
  | zero => simp [DataW.trod] at h
  | succ n =>
    unfold DataW.trod at h
    rw [ht] at h
    split at h <;> simp_all
def fltV : Value → Nat
  | .float _ n => n
  | _ => 0
theorem laid_floats {P : Program} {W : World} {name : String} {k : FloatKind} {zs : List Nat} {rest : List (String × DataW Unit)} {g : Nat} {t e : TypeId} {n : Nat}
    (hg : P.globalNamed name = some g) (hty : (P.globals[g]?).map (·.type) = some t) (ht : P.underlying t = some (.array n e)) (he : P.underlying e = some (.float k)) (hce : P.cellsOf e = 1) (hct : P.cellsOf t = n)
    (h : laidMet P ((name, .agg (zs.map fun z => .lit (.float k z))) :: rest) W) : g < W.heap.size ∧ ∃ c e fz, W.heap[g]? = some (.cells c e fz) ∧ c.toList = zs.map (Value.float k) ∧ ∀ v ∈ zs.map (Value.float k), v.oneCell' = true := by
  obtain ⟨ps, ⟨g', t', cs, fuel, p, q, hg', ht', hvar, hd, _, _⟩, _⟩ := h
  obtain rfl := Option.some.inj (hg.symm.trans hg')
  obtain rfl := Option.some.inj (hty.symm.trans ht')
  unfold World.var? at hvar
  rw [hg] at hvar
  simp only [Option.bind_some] at hvar
  split at hvar
  · rename_i c el fz hc
    simp only [Option.some.injEq] at hvar
    subst hvar
    refine ⟨(Array.getElem?_eq_some_iff.1 hc).1, c, el, fz, hc, ?_, fun v hv => ?_⟩
    · obtain ⟨xs, m, _, hx, hlen, hxl, hel⟩ := DataW.trod_array ht hd
      simp only [Prod.mk.injEq, DataW.agg.injEq] at hx
      have hlen : c.toList.length = n := hlen.trans hct
      have hx1 : xs.map (·.1) = zs.map fun z => (DataW.lit (.float k z) : DataW Unit) := hx.1.symm
      have hzl : zs.length = n := by
        have := congrArg List.length hx1
        simp at this
        omega
      apply List.ext_getElem?
      intro i
      by_cases hi : i < n
      · have h1 := hel i hi
        rw [hce, Nat.mul_one, List.drop_eq_getElem_cons (by omega)] at h1
        have hxi : xs[i]? = some xs[i] := List.getElem?_eq_getElem (by omega)
        rw [hxi] at h1
        obtain ⟨x, hx2, hx3, _⟩ := trod_float he h1
        simp only [List.take_succ_cons, List.take_zero, List.cons.injEq, and_true] at hx2
        have h2 : (xs.map (·.1))[i]? = some (DataW.lit (.float k x) : DataW Unit) := by simp [hxi, hx3]
        rw [hx1] at h2
        simp only [List.getElem?_map, Option.map_eq_some_iff, DataW.lit.injEq, Lit.float.injEq, true_and] at h2
        obtain ⟨z, hz, rfl⟩ := h2
        rw [List.getElem?_eq_getElem (by omega), hx2]
        simp [hz]
      · rw [List.getElem?_eq_none (by omega), List.getElem?_eq_none (by simp; omega)]
    · obtain ⟨z, _, rfl⟩ := List.mem_map.1 hv
      rfl
  · cases hvar
theorem laid_tail {P : Program} {x : String × DataW Unit} {r : List (String × DataW Unit)} {w : World} (h : laidMet P (x :: r) w) : laidMet P r w := by
  obtain ⟨n, d⟩ := x
  obtain ⟨ps, ⟨g, t, cs, fuel, p, q, _, _, _, _, hr, rfl⟩, hnd, hok⟩ := h
  exact ⟨q, hr, (List.nodup_append.1 hnd).2.1, fun b off hb => hok b off (List.mem_append_right _ hb)⟩
end Sm
namespace Go.Proofs.YthddkcoflnbjbaaDoor
open Sm Go Go.RowKit
def laidL : List (String × DataW Unit) := [("math._sin", Rows.laid_math_sin), ("math._cos", Rows.laid_math_cos), ("math.mPi4", Rows.laid_math_mPi4)]
theorem laidW {W : World} (h : laidMet Tryd.prog laidL W) : LaidW W.heap.size W := by
  have h1 := laid_floats (zs := laidSin) (g := 2) (t := 78) (e := 25) (n := 6) (by kernel_rfl) (by kernel_rfl) Tryd.underlying78 Tryd.underlying25 (by kernel_rfl) (by kernel_rfl) h
  have h2 := laid_floats (zs := laidCos) (g := 1) (t := 78) (e := 25) (n := 6) (by kernel_rfl) (by kernel_rfl) Tryd.underlying78 Tryd.underlying25 (by kernel_rfl) (by kernel_rfl) (laid_tail h)
  intro g vs hg
  unfold laidT at hg
  split at hg
  · simp only [Option.some.injEq] at hg; subst hg; exact h2
  · simp only [Option.some.injEq] at hg; subst hg; exact h1
  · cases hg
def mPi : List Int := [1, 5040379952546458195, 17892431488136887169, 13169980181085364355, 18204331823439776451, 7946843935494350272, 905889640498799673, 18175356263134875261, 15061281708168349961, 15220161563773041794, 8296664548579374057, 4109744767560208502, 4607516669194743839, 16023283104648321598, 15739233654134936430, 11424645774684705882, 16883842788696515318, 8795094592981902804, 15561835991111744016, 12395701187267450711]
def lay (vs : List Value) : Obj → Obj
  | .cells _ t frozen => .cells vs.toArray t frozen
  | o => o
noncomputable def laidWorld (os : Os) : World :=
  { World.holding Tryd.prog os ⟨#[], #[], []⟩ with heap := (((World.holding Tryd.prog os ⟨#[], #[], []⟩).heap.modify 2 (lay (laidSin.map (Value.float .f64)))).modify 1 (lay (laidCos.map (Value.float .f64)))).modify 3 (lay (mPi.map fun n => Value.int .u64 n)) }
end Go.Proofs.YthddkcoflnbjbaaDoor
