/-
  What is proved here: lists of floats among a law's arguments, opened as lists that nobody writes. A text to be imported.
-/
import Derived.Test.YthddkcoflnbjbaaDoorSimX
import Derived.Test.YthddkcoflnbjbaaDoorSimW
namespace Sm
open Go Go.RowKit Go.WideShapes Go.ChangeShapes

/-- Memory that nobody writes, told by a relation. -/
def frzE (Z : Nat → Nat → List C1 → Prop) : EB := ⟨0, 0, 0, Z, fun _ => False⟩

theorem rh_frz {w : World} {Z : Nat → Nat → List C1 → Prop} (hL : LaidW w.heap.size w)
    (h : ∀ b q cs, Z b q cs → ∃ c t z, w.heap[b]? = some (.cells c t z) ∧ q + cs.length ≤ c.size ∧ RCs [frzE Z] cs ((c.toList.drop q).take cs.length) ∧ ∀ x ∈ cs, freeC x) :
    RH w.heap.size w [frzE Z] [deadB] w := by
  have d0 : ∀ (i : Nat) (b : Blk), ([deadB] : List Blk)[i]? = some b → b.live = true → False := fun i b hb hl => by
    match i with
    | 0 => simp at hb; subst hb; cases hl
    | i + 1 => simp at hb
  have e0 : ∀ (j : Nat) (e : EB), ([frzE Z] : Env)[j]? = some e → e = frzE Z := fun j e he => by
    match j with
    | 0 => simp at he; exact he.symm
    | j + 1 => simp at he
  refine ⟨Below.refl _ _, Nat.le_refl _, hL, rfl, fun i b e hi he hl => (d0 i b hi hl).elim, fun i j bi bj ei ej _ hi _ _ _ hl _ _ => (d0 i bi hi hl).elim, fun j e b q cs he hz => ?_, fun j e b he ho => ?_⟩
  · obtain rfl := e0 j e he
    exact ⟨h b q cs hz, fun i bi ei hi _ hl _ => (d0 i bi hi hl).elim, fun i ei hei ho => by rw [e0 i ei hei] at ho; exact ho.elim⟩
  · rw [e0 j e he] at ho; exact ho.elim

def fltsC (k : FloatKind) (n : Nat) (xs : Nat → Nat) : List C1 := symC n fun j => .sc (.float k (xs j)) false

/-- A list of floats, in a world. -/
def FltsIn (w : World) (k : FloatKind) (len : Nat) (xs : Nat → Nat) (v : Value) : Prop :=
  (len = 0 ∧ ∃ bs c, v = .slice bs 0 c) ∨ (0 < len ∧ ∃ b o cap c t' fz, v = .slice (some ⟨b, o, none⟩) len cap ∧ len ≤ cap ∧ cap ≤ maxLen ∧ w.heap[b]? = some (.cells c t' fz) ∧ o + len ≤ c.size ∧ ∀ j, j < len → c.toList[o + j]? = some (.float k (xs j)))

/-- A list of floats, opened. -/
theorem open_flts {H : Type} {enc : TypeId × Value → H} {P : Program} {w : World} {base b0 : Nat} {held : Bool} {r : Reach} {t e : TypeId} {k : FloatKind} {v : Value} {d : DataW H} {ps : List MemPlace}
    (ht : P.underlying t = some (.slice e)) (he : P.underlying e = some (.float k)) (hce : P.cellsOf e = 1)
    (hval : Value.okWide P w r b0 t v) (hd : DataW.Trod enc P w base (fun _ => true) held t v d ps) :
    ∃ (len : Nat) (xs : Nat → Nat), (∀ j, j < len → (Lit.float k (xs j)).wf = true) ∧ len ≤ maxLen ∧
      FltsIn w k len xs v ∧
      (len = 0 ∨ ∃ m, len * P.bytesOf e ≤ m ∧ m ∈ d.weights P t) := by
  obtain ⟨fuel, hf⟩ := hd
  have hcell : v.cells = #[v] ∧ (v = .slice none 0 0 ∨ ∃ a len cap, v = .slice (some a) len cap ∧ a.spot = none) := by
    unfold Value.okWide at hval
    rw [ht] at hval
    simp only [Cell.okWide, ht] at hval
    unfold Cell.ok at hval
    rw [ht] at hval
    cases v with
    | slice a len cap =>
      refine ⟨rfl, ?_⟩
      cases a with
      | none =>
        cases len <;> cases cap <;> first | exact .inl rfl | (simp at hval)
      | some a => exact .inr ⟨a, len, cap, rfl, hval.2.2.2.1⟩
    | _ => simp at hval
  rw [hcell.1] at hf
  rcases DataW.trod_slice ht hf with ⟨h0, _⟩ | ⟨a, len, cap, elems, rest, m, _, h0, hx, _, hl, hm, hel1, hel, hsp, _⟩
  · simp only [List.cons.injEq, and_true] at h0
    subst h0
    exact ⟨0, fun _ => 0, fun j hj => by omega, Nat.zero_le _, .inl ⟨rfl, none, 0, rfl⟩, .inl rfl⟩
  · simp only [List.cons.injEq, and_true] at h0
    subst h0
    have hspot : a.spot = none := by
      rcases hcell.2 with h | ⟨a', l', c', h, hs⟩
      · cases h
      · cases h; exact hs
    simp only [Prod.mk.injEq] at hx
    obtain ⟨rfl, _⟩ := hx
    have hw : len = 0 ∨ ∃ m, len * P.bytesOf e ≤ m ∧ m ∈ (DataW.slice (elems.map (·.1)) (rest.map (·.1)) : DataW H).weights P t := by
      right
      refine ⟨(elems.length + rest.length) * P.bytesOf e, Nat.mul_le_mul_right _ (by omega), ?_⟩
      unfold DataW.weights
      rw [ht]
      simp
    by_cases hlen : len = 0
    · subst hlen
      exact ⟨0, fun _ => 0, fun j hj => by omega, Nat.zero_le _, .inl ⟨rfl, some a, cap, rfl⟩, .inl rfl⟩
    obtain ⟨b, o, sp⟩ := a
    simp only at hspot
    subst hspot
    have each : ∀ i, i < len → ∃ z, w.cell? ⟨b, o + i, none⟩ = some (.float k z) ∧ (Lit.float k z).wf = true := fun i hi => by
      have h1 := hel i hi
      rw [hce, Nat.mul_one, List.getElem?_eq_getElem (by omega), Option.bind_eq_some_iff] at h1
      obtain ⟨cs, hcs, hy⟩ := h1
      obtain ⟨_, hcl, hcg⟩ := World.cells?_some hcs
      obtain ⟨z, hz, _, hwf⟩ := trod_float he hy
      refine ⟨z, ?_, hwf⟩
      have h3 := hcg 0 (by omega)
      rw [add_row, add_row, Nat.add_zero] at h3
      rw [h3, hz]; rfl
    obtain ⟨c, t', fz, hc⟩ : ∃ c t' fz, w.heap[b]? = some (.cells c t' fz) := by
      obtain ⟨z, hz, _⟩ := each 0 (by omega)
      unfold World.cell? at hz
      simp only at hz
      cases hh : w.heap[b]? with
      | none => rw [hh] at hz; cases hz
      | some ob =>
        cases ob with
        | cells c t' fz => exact ⟨c, t', fz, rfl⟩
        | _ => rw [hh] at hz; cases hz
    have get : ∀ j, j < len → ∃ z, c.toList[o + j]? = some (.float k z) ∧ (Lit.float k z).wf = true := fun j hj => by
      obtain ⟨z, hz, hw⟩ := each j hj
      rw [cell_of_row w b (o + j) c t' fz hc] at hz
      exact ⟨z, by simpa using hz, hw⟩
    refine ⟨len, fun j => fltV ((c.toList[o + j]?).getD Go.undef), fun j hj => ?_, Nat.le_trans hl hm, .inr ⟨by omega, b, o, cap, c, t', fz, rfl, hl, hm, hc, ?_, fun j hj => ?_⟩, hw⟩
    · obtain ⟨z, hz, hw⟩ := get j hj
      simp only [hz, Option.getD_some, fltV]
      exact hw
    · obtain ⟨z, hz, _⟩ := get (len - 1) (by omega)
      have := (List.getElem?_eq_some_iff.1 hz).1
      simp at this
      omega
    · obtain ⟨z, hz, _⟩ := get j hj
      simp only [hz, Option.getD_some, fltV]

/-- One list of floats among the arguments: the memory, the list. -/
theorem flts_env {w : World} {k : FloatKind} {len : Nat} {xs : Nat → Nat} {v : Value} (hL : LaidW w.heap.size w)
    (h : FltsIn w k len xs v) :
    ∃ E, RH w.heap.size w E [deadB] w ∧ RV E (.one (.lst len len 1 fun j => [.sc (.float k (xs j)) false])) v := by
  rcases h with ⟨rfl, bs, c, rfl⟩ | ⟨h0, b, o, cap, c, t', fz, rfl, h1, h2, h3, h4, h5⟩
  · exact ⟨[frzE fun _ _ _ => False], rh_frz hL fun _ _ _ h => h.elim, .inl ⟨rfl, rfl, bs, c, rfl⟩⟩
  · have hlen : (fltsC k len xs).length = len := symC_length _ _
    refine ⟨[frzE fun b' q cs => b' = b ∧ q = o ∧ cs = fltsC k len xs], rh_frz hL fun b' q cs hz => ?_, .inr ⟨0, _, b, o, 0, cap, fltsC k len xs, rfl, ⟨rfl, rfl, rfl⟩, rfl, Nat.le_refl _, h1, h2, by omega, fun j hj => ?_⟩⟩
    · obtain ⟨rfl, rfl, rfl⟩ := hz
      refine ⟨c, t', fz, h3, by omega, ⟨?_, fun j c1 u g1 g2 => ?_⟩, sym_free fun j => trivial⟩
      · rw [hlen, List.length_take, List.length_drop, Array.length_toList]; omega
      · have hj : j < len := by have := (List.getElem?_eq_some_iff.1 g1).1; omega
        rw [show fltsC k len xs = symC len fun j => C1.sc (.float k (xs j)) false from rfl, symC_get _ _ hj] at g1
        rw [hlen, List.getElem?_take, if_pos hj, List.getElem?_drop, h5 j hj] at g2
        simp only [Option.some.injEq] at g1 g2
        subst g1; subst g2
        exact ⟨rfl, rfl⟩
    · rw [Nat.zero_add, Nat.mul_one, show fltsC k len xs = symC len fun j => C1.sc (.float k (xs j)) false from rfl, symC_cut _ _ _ _ (by omega)]
      show [_] = symC 1 _
      simp [symC]
/-- A call, walked, that hands back a value without memory. -/
theorem call_of_env {P : Program} {T : Tab} {F : Fns} (hm : P.follows .mixedOrders = true) (hT : TabOk P T) (hF : FnsOk P F) {f : FuncId} {fn : Func} (hf : P.funcs[f]? = some fn) {args : List AV} {bs : List Blk} {E : Env} {n : Nat} {orc : List Sg} {w : World} {us : List Value} {u : Value}
    (hh : RH w.heap.size w E bs w) (hra : RA E args us) (hrun : runK P T F n fn args bs orc (fun r _ => resW r = some u)) : Calls P f us.toArray w fun e w' => e = .returned u ∧ Below w.heap.size w w' := by
  refine (run_sound hm hT hF hf hrun hh hra (fun r hp' hr => by obtain ⟨v, hv, _⟩ := resW_spec hr; exact ⟨v, hv⟩)).mono ?_
  rintro e w' ⟨v', hp', E', u', rfl, hk, _, hrv, hrh⟩
  exact ⟨by rw [toW_RV hk hrv], hrh.below⟩
end Sm
