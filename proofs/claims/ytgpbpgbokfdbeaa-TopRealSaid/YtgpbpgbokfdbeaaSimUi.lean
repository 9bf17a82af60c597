/-
  What is proved here: lists of whole numbers among a law's arguments, opened as lists that nobody writes; three of them at once. A text to be imported.
-/
import Derived.Test.YtgpbpgbokfdbeaaSimU
namespace Sm
open Go Go.RowKit Go.WideShapes Go.ChangeShapes
def intsD (k : IntKind) (n : Nat) (xs : Nat → Int) : List C1 := symC n fun j => .sc (.int k (xs j)) false
theorem trod_int {H : Type} {enc : TypeId × Value → H} {P : Program} {w : World} {base : Nat} {spare : Nat → Bool} {held : Bool} {fuel : Nat} {t : TypeId} {cs : List Value} {x : DataW H × List MemPlace} {k : IntKind} (ht : P.underlying t = some (.int k)) (h : DataW.trod enc P w base spare held fuel t cs = some x) :
    ∃ n, cs = [.int k n] ∧ x = (.lit (.int k n), []) ∧ (Lit.int k n).wf = true := by
  cases fuel with
  | zero => simp [DataW.trod] at h
  | succ n =>
    unfold DataW.trod at h
    rw [ht] at h
    split at h <;> simp_all
/-- A list of whole numbers, in a world. -/
def IntsIn (w : World) (k : IntKind) (len : Nat) (xs : Nat → Int) (v : Value) : Prop :=
  (len = 0 ∧ ∃ bs c, v = .slice bs 0 c) ∨ (0 < len ∧ ∃ b o cap c t' fz, v = .slice (some ⟨b, o, none⟩) len cap ∧ len ≤ cap ∧ cap ≤ maxLen ∧ w.heap[b]? = some (.cells c t' fz) ∧ o + len ≤ c.size ∧ ∀ j, j < len → c.toList[o + j]? = some (.int k (xs j)))

/-- A list of whole numbers, opened. -/
theorem open_ints {H : Type} {enc : TypeId × Value → H} {P : Program} {w : World} {base b0 : Nat} {held : Bool} {r : Reach} {t e : TypeId} {k : IntKind} {v : Value} {d : DataW H} {ps : List MemPlace}
    (ht : P.underlying t = some (.slice e)) (he : P.underlying e = some (.int k)) (hce : P.cellsOf e = 1)
    (hval : Value.okWide P w r b0 t v) (hd : DataW.Trod enc P w base (fun _ => true) held t v d ps) :
    ∃ (len : Nat) (xs : Nat → Int), (∀ j, j < len → (Lit.int k (xs j)).wf = true) ∧ len ≤ maxLen ∧
      IntsIn w k len xs v ∧
      (len = 0 ∨ ∃ m, len * P.bytesOf e ≤ m ∧ m ∈ d.weights P t) := by
  obtain ⟨fuel, hf⟩ := hd
  have hcell : v.cells = #[v] ∧ (v = .slice none 0 0 ∨ ∃ a len cap, v = .slice (some a) len cap ∧ a.spot = none) := by
    unfold Value.okWide at hval
    rw [ht] at hval
    simp only [Cell.okWide, ht] at hval
    unfold Cell.ok at hval
    rw [ht] at hval
    cases v with
    | slice a len cap =>
      refine ⟨rfl, ?_⟩
      cases a with
      | none =>
        cases len <;> cases cap <;> first | exact .inl rfl | (simp at hval)
      | some a => exact .inr ⟨a, len, cap, rfl, hval.2.2.2.1⟩
    | _ => simp at hval
  rw [hcell.1] at hf
  rcases DataW.trod_slice ht hf with ⟨h0, _⟩ | ⟨a, len, cap, elems, rest, m, _, h0, hx, _, hl, hm, hel1, hel, hsp, _⟩
  · simp only [List.cons.injEq, and_true] at h0
    subst h0
    exact ⟨0, fun _ => 0, fun j hj => by omega, Nat.zero_le _, .inl ⟨rfl, none, 0, rfl⟩, .inl rfl⟩
  · simp only [List.cons.injEq, and_true] at h0
    subst h0
    have hspot : a.spot = none := by
      rcases hcell.2 with h | ⟨a', l', c', h, hs⟩
      · cases h
      · cases h; exact hs
    simp only [Prod.mk.injEq] at hx
    obtain ⟨rfl, _⟩ := hx
    have hw : len = 0 ∨ ∃ m, len * P.bytesOf e ≤ m ∧ m ∈ (DataW.slice (elems.map (·.1)) (rest.map (·.1)) : DataW H).weights P t := by
      right
      refine ⟨(elems.length + rest.length) * P.bytesOf e, Nat.mul_le_mul_right _ (by omega), ?_⟩
      unfold DataW.weights
      rw [ht]
      simp
    by_cases hlen : len = 0
    · subst hlen
      exact ⟨0, fun _ => 0, fun j hj => by omega, Nat.zero_le _, .inl ⟨rfl, some a, cap, rfl⟩, .inl rfl⟩
    obtain ⟨b, o, sp⟩ := a
    simp only at hspot
    subst hspot
    have each : ∀ i, i < len → ∃ z, w.cell? ⟨b, o + i, none⟩ = some (.int k z) ∧ (Lit.int k z).wf = true := fun i hi => by
      have h1 := hel i hi
      rw [hce, Nat.mul_one, List.getElem?_eq_getElem (by omega), Option.bind_eq_some_iff] at h1
      obtain ⟨cs, hcs, hy⟩ := h1
      obtain ⟨_, hcl, hcg⟩ := World.cells?_some hcs
      obtain ⟨z, hz, _, hwf⟩ := trod_int he hy
      refine ⟨z, ?_, hwf⟩
      have h3 := hcg 0 (by omega)
      rw [add_row, add_row, Nat.add_zero] at h3
      rw [h3, hz]; rfl
    obtain ⟨c, t', fz, hc⟩ : ∃ c t' fz, w.heap[b]? = some (.cells c t' fz) := by
      obtain ⟨z, hz, _⟩ := each 0 (by omega)
      unfold World.cell? at hz
      simp only at hz
      cases hh : w.heap[b]? with
      | none => rw [hh] at hz; cases hz
      | some ob =>
        cases ob with
        | cells c t' fz => exact ⟨c, t', fz, rfl⟩
        | _ => rw [hh] at hz; cases hz
    have get : ∀ j, j < len → ∃ z, c.toList[o + j]? = some (.int k z) ∧ (Lit.int k z).wf = true := fun j hj => by
      obtain ⟨z, hz, hw⟩ := each j hj
      rw [cell_of_row w b (o + j) c t' fz hc] at hz
      exact ⟨z, by simpa using hz, hw⟩
    refine ⟨len, fun j => intV ((c.toList[o + j]?).getD Go.undef), fun j hj => ?_, Nat.le_trans hl hm, .inr ⟨by omega, b, o, cap, c, t', fz, rfl, hl, hm, hc, ?_, fun j hj => ?_⟩, hw⟩
    · obtain ⟨z, hz, hw⟩ := get j hj
      simp only [hz, Option.getD_some, intV]
      exact hw
    · obtain ⟨z, hz, _⟩ := get (len - 1) (by omega)
      have := (List.getElem?_eq_some_iff.1 hz).1
      simp at this
      omega
    · obtain ⟨z, hz, _⟩ := get j hj
      simp only [hz, Option.getD_some, intV]

/-- The rows that a list stands in. -/
def rowZ (k : IntKind) (len : Nat) (xs : Nat → Int) (v : Value) (b q : Nat) (cs : List C1) : Prop := 0 < len ∧ ∃ cap, v = .slice (some ⟨b, q, none⟩) len cap ∧ cs = intsD k len xs
theorem row_ok {w : World} {k : IntKind} {len : Nat} {xs : Nat → Int} {v : Value} (h : IntsIn w k len xs v) (Z : Nat → Nat → List C1 → Prop) (b q : Nat) (cs : List C1) (hz : rowZ k len xs v b q cs) :
    ∃ c t z, w.heap[b]? = some (.cells c t z) ∧ q + cs.length ≤ c.size ∧ RCs [frzE Z] cs ((c.toList.drop q).take cs.length) ∧ ∀ x ∈ cs, freeC x := by
  obtain ⟨h0, cap, rfl, rfl⟩ := hz
  have hlen : (intsD k len xs).length = len := symC_length _ _
  rcases h with ⟨hn, _⟩ | ⟨_, b', o, cap', c, t', fz, hv, h1, h2, h3, h4, h5⟩
  · omega
  · simp only [Value.slice.injEq, Option.some.injEq, Addr.mk.injEq] at hv
    obtain ⟨⟨rfl, rfl, _⟩, _, rfl⟩ := hv
    refine ⟨c, t', fz, h3, by omega, ⟨?_, fun j c1 u g1 g2 => ?_⟩, sym_free fun j => trivial⟩
    · rw [hlen, List.length_take, List.length_drop, Array.length_toList]; omega
    · have hj : j < len := by have := (List.getElem?_eq_some_iff.1 g1).1; omega
      rw [show intsD k len xs = symC len fun j => C1.sc (.int k (xs j)) false from rfl, symC_get _ _ hj] at g1
      rw [hlen, List.getElem?_take, if_pos hj, List.getElem?_drop, h5 j hj] at g2
      simp only [Option.some.injEq] at g1 g2
      subst g1; subst g2
      exact ⟨rfl, rfl⟩
theorem row_RV {w : World} {k : IntKind} {len : Nat} {xs : Nat → Int} {v : Value} (h : IntsIn w k len xs v) (Z : Nat → Nat → List C1 → Prop) (hZ : ∀ b q cs, rowZ k len xs v b q cs → Z b q cs) :
    RV [frzE Z] (.one (.lst len len 1 fun j => [.sc (.int k (xs j)) false])) v := by
  rcases h with ⟨rfl, bs, c, rfl⟩ | ⟨h0, b, o, cap, c, t', fz, rfl, h1, h2, h3, h4, h5⟩
  · exact .inl ⟨rfl, rfl, bs, c, rfl⟩
  · have hlen : (intsD k len xs).length = len := symC_length _ _
    refine .inr ⟨0, _, b, o, 0, cap, intsD k len xs, rfl, hZ _ _ _ ⟨h0, cap, rfl, rfl⟩, rfl, Nat.le_refl _, h1, h2, by omega, fun j hj => ?_⟩
    rw [Nat.zero_add, Nat.mul_one, show intsD k len xs = symC len fun j => C1.sc (.int k (xs j)) false from rfl, symC_cut _ _ _ _ (by omega)]
    show [_] = symC 1 _
    simp [symC]
/-- Three lists among the arguments: the memory, the lists. -/
theorem ints3_env {w : World} {k : IntKind} {n1 n2 n3 : Nat} {x1 x2 x3 : Nat → Int} {v1 v2 v3 : Value} (hL : LaidW w.heap.size w) (h1 : IntsIn w k n1 x1 v1) (h2 : IntsIn w k n2 x2 v2) (h3 : IntsIn w k n3 x3 v3) :
    ∃ E, RH w.heap.size w E [deadB] w ∧ RV E (.one (.lst n1 n1 1 fun j => [.sc (.int k (x1 j)) false])) v1 ∧ RV E (.one (.lst n2 n2 1 fun j => [.sc (.int k (x2 j)) false])) v2 ∧ RV E (.one (.lst n3 n3 1 fun j => [.sc (.int k (x3 j)) false])) v3 := by
  refine ⟨[frzE fun b q cs => rowZ k n1 x1 v1 b q cs ∨ rowZ k n2 x2 v2 b q cs ∨ rowZ k n3 x3 v3 b q cs], rh_frz hL fun b q cs hz => ?_, row_RV h1 _ fun _ _ _ h => .inl h, row_RV h2 _ fun _ _ _ h => .inr (.inl h), row_RV h3 _ fun _ _ _ h => .inr (.inr h)⟩
  rcases hz with h | h | h
  · exact row_ok h1 _ _ _ _ h
  · exact row_ok h2 _ _ _ _ h
  · exact row_ok h3 _ _ _ _ h
end Sm
