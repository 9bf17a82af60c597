/-
  What is proved here: lists among the arguments of a law, opened; contracts told on the values as the evaluator has them. A text to be imported.
-/
import Derived.Test.YtgpbpgbokfdbeaaDoorSimS
import Derived.SizedLaws
import Derived.ChangeSlices
namespace Sm
open Go Go.RowKit Go.WideShapes Go.ChangeShapes

/-- A list of so many elements of so many whole numbers each. -/
def LV (w : World) (k : IntKind) (sz n : Nat) (f : Nat → Int) (u : Value) : Prop :=
  (n = 0 ∧ ∃ base c, u = .slice base 0 c) ∨
  (0 < n ∧ ∃ b o cap c t fz, u = .slice (some ⟨b, o + 0, none⟩) n cap ∧ n ≤ cap ∧ cap ≤ maxLen ∧ w.heap[b]? = some (.cells c t fz) ∧ o + cap * sz ≤ c.size ∧ ∀ j, j < n * sz → c.toList[o + j]? = some (.int k (f j)))

/-- A list of arrays of whole numbers, opened. -/
theorem open_arrs {H : Type} {enc : TypeId × Value → H} {P : Program} {w : World} {base b0 : Nat} {held : Bool} {r : Reach} {t e q : TypeId} {n : Nat} {k : IntKind} {v : Value} {d : DataW H} {ps : List MemPlace}
    (ht : P.underlying t = some (.slice e)) (he : P.underlying e = some (.array n q)) (hq : P.underlying q = some (.int k)) (hcq : P.cellsOf q = 1) (hce : P.cellsOf e = n) (hn : 0 < n)
    (hval : Value.okWide P w r b0 t v) (hd : DataW.Trod enc P w base (fun _ => true) held t v d ps) :
    ∃ (len : Nat) (f : Nat → Int), LV w k n len f v ∧ (len = 0 ∨ ∃ m, len * P.bytesOf e ≤ m ∧ m ∈ d.weights P t) := by
  obtain ⟨fuel, hf⟩ := hd
  have hcell : v.cells = #[v] ∧ (v = .slice none 0 0 ∨ ∃ a len cap, v = .slice (some a) len cap ∧ a.spot = none) := by
    unfold Value.okWide at hval
    rw [ht] at hval
    simp only [Cell.okWide, ht] at hval
    unfold Cell.ok at hval
    rw [ht] at hval
    cases v with
    | slice a len cap =>
      refine ⟨rfl, ?_⟩
      cases a with
      | none =>
        cases len <;> cases cap <;> first | exact .inl rfl | (simp at hval)
      | some a => exact .inr ⟨a, len, cap, rfl, hval.2.2.2.1⟩
    | _ => simp at hval
  rw [hcell.1] at hf
  rcases DataW.trod_slice ht hf with ⟨h0, _⟩ | ⟨a, len, cap, elems, rest, m, _, h0, hx, _, hl, hm, hel1, hel, hsp, _⟩
  · simp only [List.cons.injEq, and_true] at h0
    subst h0
    exact ⟨0, fun _ => 0, .inl ⟨rfl, none, 0, rfl⟩, .inl rfl⟩
  · simp only [List.cons.injEq, and_true] at h0
    subst h0
    have hspot : a.spot = none := by
      rcases hcell.2 with h | ⟨a', l', c', h, hs⟩
      · cases h
      · cases h; exact hs
    simp only [Prod.mk.injEq] at hx
    obtain ⟨rfl, _⟩ := hx
    obtain ⟨hrl, hrest⟩ := hsp rfl
    have hw : len = 0 ∨ ∃ m, len * P.bytesOf e ≤ m ∧ m ∈ (DataW.slice (elems.map (·.1)) (rest.map (·.1)) : DataW H).weights P t := by
      right
      refine ⟨(elems.length + rest.length) * P.bytesOf e, Nat.mul_le_mul_right _ (by omega), ?_⟩
      unfold DataW.weights
      rw [ht]
      simp
    by_cases hlen : len = 0
    · subst hlen
      exact ⟨0, fun _ => 0, .inl ⟨rfl, some a, cap, rfl⟩, .inl rfl⟩
    obtain ⟨b, o, sp⟩ := a
    simp only at hspot
    subst hspot
    -- each cell that is there
    have each : ∀ i, i < cap → ∀ j, j < n → ∃ z, w.cell? ⟨b, o + (i * n + j), none⟩ = some (.int k z) := fun i hi j hj => by
      have hex : ∃ y, (w.cells? base ((⟨b, o, none⟩ : Addr).add (i * n)) n).bind (DataW.trod enc P w base (fun _ => true) held m e) = some y := by
        by_cases hil : i < len
        · have h1 := hel i hil
          rw [hce] at h1
          rw [h1]
          exact ⟨_, List.getElem?_eq_getElem (by omega)⟩
        · have h1 := hrest (i - len) (by omega)
          rw [hce, show len + (i - len) = i from by omega] at h1
          rw [h1]
          exact ⟨_, List.getElem?_eq_getElem (by omega)⟩
      obtain ⟨y, hy⟩ := hex
      rw [Option.bind_eq_some_iff] at hy
      obtain ⟨cs, hcs, hy⟩ := hy
      obtain ⟨_, hcl, hcg⟩ := World.cells?_some hcs
      obtain ⟨xs, m2, _, _, _, hxl, hxe⟩ := DataW.trod_array he hy
      have h2 := hxe j hj
      rw [hcq, Nat.mul_one, List.drop_eq_getElem_cons (show j < cs.length by omega), List.getElem?_eq_getElem (show j < xs.length by omega)] at h2
      obtain ⟨z, hz, _⟩ := DataW.trod_int hq h2
      simp only [List.take_succ_cons, List.take_zero, List.cons.injEq, and_true] at hz
      refine ⟨z, ?_⟩
      have h3 := hcg j (by omega)
      rw [add_row, add_row, Nat.add_assoc] at h3
      rw [h3, List.getElem?_eq_getElem (show j < cs.length by omega), hz]
    have row : ∀ J, J < cap * n → ∃ z, w.cell? ⟨b, o + J, none⟩ = some (.int k z) := fun J hJ => by
      have h1 := each (J / n) (by rw [Nat.div_lt_iff_lt_mul hn]; exact hJ) (J % n) (Nat.mod_lt _ hn)
      have h2 := Nat.div_add_mod J n
      rw [Nat.mul_comm] at h2
      rw [h2] at h1
      exact h1
    have hcn : 0 < cap * n := Nat.mul_pos (by omega) hn
    obtain ⟨c, t', fz, hc⟩ : ∃ c t' fz, w.heap[b]? = some (.cells c t' fz) := by
      obtain ⟨z, hz⟩ := row 0 hcn
      unfold World.cell? at hz
      simp only at hz
      cases hh : w.heap[b]? with
      | none => rw [hh] at hz; cases hz
      | some ob =>
        cases ob with
        | cells c t' fz => exact ⟨c, t', fz, rfl⟩
        | _ => rw [hh] at hz; cases hz
    have get : ∀ J, J < cap * n → ∃ z, c.toList[o + J]? = some (.int k z) := fun J hJ => by
      obtain ⟨z, hz⟩ := row J hJ
      rw [cell_of_row w b (o + J) c t' fz hc] at hz
      exact ⟨z, by simpa using hz⟩
    refine ⟨len, fun J => intV ((c.toList[o + J]?).getD Go.undef), .inr ⟨by omega, b, o, cap, c, t', fz, rfl, hl, hm, hc, ?_, fun J hJ => ?_⟩, hw⟩
    · obtain ⟨z, hz⟩ := get (cap * n - 1) (by omega)
      have := (List.getElem?_eq_some_iff.1 hz).1
      simp at this
      omega
    · obtain ⟨z, hz⟩ := get J (Nat.lt_of_lt_of_le hJ (Nat.mul_le_mul_right _ hl))
      simp only [hz, Option.getD_some, intV]

/-- A law, walked, whatever its arguments. -/
theorem law_of_env {P : Program} {T : Tab} {F : Fns} (hm : P.follows .mixedOrders = true) (hT : TabOk P T) (hF : FnsOk P F) {f : FuncId} {fn : Func} (hf : P.funcs[f]? = some fn)
    {args : List AV} {bs : List Blk} {E : Env} {n : Nat} {orc : List Sg} {w : World} {us : List Value} (hh : RH w.heap.size w E bs w) (hra : RA E args us) (hrun : runK P T F n fn args bs orc (fun r _ => isTrue r)) :
    Calls P f us.toArray w fun e w' => e = .returned (.bool true) ∧ Below w.heap.size w w' := by
  refine (run_sound hm hT hF hf hrun hh hra (fun r hp' hr => ?_)).mono ?_
  · cases r with
    | some v => exact ⟨v, rfl⟩
    | none => exact hr.elim
  · rintro e w' ⟨v', hp', E', u', rfl, hk, _, hrv, hrh⟩
    refine ⟨?_, hrh.below⟩
    unfold isTrue at hk
    split at hk
    · rename_i b st' hb
      simp only [Option.some.injEq] at hb
      subst hb
      have := hrv.1
      rw [hk] at this
      rw [this]
    · exact hk.elim

/-- Blocks that are only read. -/
theorem RH.ros {w : World} {E : Env} {bs : List Blk} (hl : E.length = bs.length) (h : ∀ (i : Nat) (b : Blk) (e : EB), bs[i]? = some b → E[i]? = some e →
    b.ro = true ∧ ∃ c fz, w.heap[e.b]? = some (.cells c b.elem fz) ∧ c.size = e.o + e.n ∧ b.cells.length ≤ e.n ∧ RCs E b.cells ((c.toList.drop e.o).take b.cells.length)) (hz : NoFz E) (hnm : ∀ (i : Nat) (b : Blk) (l : List (Int × C1)), bs[i]? = some b → b.body ≠ .mp l) (hL : LaidW w.heap.size w := by first | assumption | exact laidNone (fun _ => rfl)) : RH w.heap.size w E bs w := by
  refine ⟨Below.refl _ _, Nat.le_refl _, hL, hl, fun i b e hi he _ => ?_, fun i j bi bj ei ej _ hi _ hei _ _ _ hro => ?_, hz.frz _ _ _, .none hnm⟩
  · obtain ⟨hro, c, fz, h1, h2, h3, h4⟩ := h i b e hi he
    exact ⟨c, fz, h1, h2, (fun hf => by rw [hro] at hf; cases hf), ⟨h3, fun _ hf => by rw [hro] at hf; cases hf⟩, h4⟩
  · obtain ⟨hro', _⟩ := h i bi ei hi hei
    rw [hro] at hro'; cases hro'

/-- The block of a list. -/
def lvB (k : IntKind) (sz n : Nat) (f : Nat → Int) (t : TypeId) : Blk := { body := syI k (n * sz) f, elem := t, live := true, ro := true }

theorem lv_cells {E : Env} {k : IntKind} {sz n : Nat} {f : Nat → Int} {o cap : Nat} {c : Array Value} (hn : n ≤ cap) (hsz : o + cap * sz ≤ c.size) (hg : ∀ j, j < n * sz → c.toList[o + j]? = some (.int k (f j))) (t : TypeId) :
    RCs E (lvB k sz n f t).cells ((c.toList.drop o).take (lvB k sz n f t).cells.length) ∧ (lvB k sz n f t).cells.length = n * sz ∧ n * sz ≤ c.size - o := by
  have hle : n * sz ≤ cap * sz := Nat.mul_le_mul_right _ hn
  have hlen : (lvB k sz n f t).cells.length = n * sz := symC_length _ _
  refine ⟨⟨?_, fun j c1 v h1 h2 => ?_⟩, hlen, by omega⟩
  · rw [hlen, List.length_take, List.length_drop, Array.length_toList]
    omega
  · have hj : j < n * sz := by rw [← hlen]; exact (List.getElem?_eq_some_iff.1 h1).1
    rw [show (lvB k sz n f t).cells = symC (n * sz) fun j => C1.sc (.int k (f j)) false from rfl, symC_get _ _ hj] at h1
    rw [hlen, List.getElem?_take, if_pos hj, List.getElem?_drop, hg j hj] at h2
    simp only [Option.some.injEq] at h1 h2
    subst h1; subst h2
    exact ⟨rfl, rfl⟩

/-! ### contracts told on the values as the evaluator has them -/

def Fns.addPA (F : Fns) (f : FuncId) (G : List AV → List Blk → Option (Prop × AV)) : Fns :=
  { F with pre := fun g args hp => match Nat.beq g f with
      | true => G args hp
      | false => F.pre g args hp }

def PACon (P : Program) (f : FuncId) (G : List AV → List Blk → Option (Prop × AV)) : Prop :=
  (∀ (vs : Array Value) (w : World), (callFunc f vs).run P w = .ok (.enter f vs) w) ∧
  ∀ (args : List AV) (hp : List Blk) (p : Prop) (v : AV), G args hp = some (p, v) → p → ∃ u, v.toW = some u ∧ (∀ E, RV E v u) ∧
    ∀ (B : Nat) (w0 : World) (E : Env) (w : World) (us : List Value), RH B w0 E hp w → RA E args us → Calls P f us.toArray w fun e w' => e = .returned u ∧ Below w.heap.size w w'

theorem FnsOk.addPA {P : Program} {F : Fns} {f : FuncId} {G : List AV → List Blk → Option (Prop × AV)} (hF : FnsOk P F) (hc : PACon P f G) : FnsOk P (F.addPA f G) := by
  refine ⟨hF.pr, hF.pure, fun g args hp p v h hp1 => ?_, hF.ext, hF.gen, hF.gnp, hF.cal, hF.loops⟩
  simp only [Fns.addPA] at h
  split at h
  · rename_i hg
    have hg' : g = f := by rw [beq_eq] at hg; simpa using hg
    subst hg'
    exact ⟨hc.1, hc.2 args hp p v h hp1⟩
  · exact hF.pre g args hp p v h hp1

def toI : C1 → Int
  | .sc (.int _ x) _ => x
  | _ => 0

/-- A list, as the evaluator has it: what must hold, how many elements, their numbers. -/
def viewL (k : IntKind) (sz : Nat) (hp : List Blk) : AV → Option (Prop × Nat × (Nat → Int))
  | .one (.sc (.slice none 0 0) _) => some (True, 0, fun _ => 0)
  | .one .em => some (True, 0, fun _ => 0)
  | .one (.sl i 0 n s) => match liveS hp i with
    | some (_, N, g) => match Nat.beq s sz with
      | true => some (0 < n ∧ N = n * sz ∧ (∀ j, j < n * sz → g j = .sc (.int k (toI (g j))) false), n, fun j => toI (g j))
      | false => none
    | none => none
  | _ => none

theorem viewL_spec {k : IntKind} {sz : Nat} {B : Nat} {w0 : World} {E : Env} {hp : List Blk} {w : World} (hh : RH B w0 E hp w) {a : AV} {p : Prop} {n : Nat} {f : Nat → Int} {u : Value} (h : viewL k sz hp a = some (p, n, f)) (hp1 : p) (hr : RV E a u) : LV w k sz n f u := by
  unfold viewL at h
  split at h
  · simp only [Option.some.injEq, Prod.mk.injEq] at h
    obtain ⟨_, rfl, _⟩ := h
    exact .inl ⟨rfl, none, 0, hr.1⟩
  · simp only [Option.some.injEq, Prod.mk.injEq] at h
    obtain ⟨_, rfl, _⟩ := h
    exact .inl ⟨rfl, hr⟩
  · rename_i i n' s
    split at h
    · rename_i b N g hs
      split at h
      · rename_i hsz
        rw [beq_eq, decide_eq_true_eq] at hsz
        subst hsz
        simp only [Option.some.injEq, Prod.mk.injEq] at h
        obtain ⟨rfl, rfl, rfl⟩ := h
        obtain ⟨hn, rfl, hg⟩ := hp1
        obtain ⟨hi, hl, hbd⟩ := liveS_spec hs
        obtain ⟨e, cap, he, rfl, h1, h2, h3⟩ := hr
        obtain ⟨c, fz, hc, r1, _, ⟨r3, _⟩, r4⟩ := hh.blk i b e hi he hl
        have hcells : b.cells = symC (n' * s) g := by rw [Blk.cells, hbd]; rfl
        rw [hcells, symC_length] at r3 r4
        refine .inr ⟨hn, e.b, e.o, cap, c, b.elem, fz, rfl, h1, h2, hc, by omega, fun j hj => ?_⟩
        obtain ⟨v, hv, hrc⟩ := r4.get (symC_get _ g hj)
        rw [List.getElem?_take, if_pos hj, List.getElem?_drop] at hv
        rw [hv]
        rw [hg j hj] at hrc
        rw [hrc.1]
      · cases h
    · cases h
  · cases h
end Sm
