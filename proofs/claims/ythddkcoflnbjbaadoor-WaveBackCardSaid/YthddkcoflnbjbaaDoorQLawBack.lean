/-
  What is proved here: lists of floats among a law's arguments, opened as lists that nobody writes. lists of pairs of floats among a law's arguments, opened as lists that nobody writes. for all two lists of complex numbers the law WaveBack returns true and its arguments read as before; the variables math._sin, math._cos, math.mPi4 hold what is listed (tied to the text by the card). No other condition. A text to be imported.
-/
import Derived.Test.YthddkcoflnbjbaaDoorQCon0
import Derived.Test.YthddkcoflnbjbaaDoorQSimW
import Derived.Test.YthddkcoflnbjbaaDoorQLaw50
import Derived.Test.YthddkcoflnbjbaaDoorQSimL
import Derived.Test.YthddkcoflnbjbaaDoorCards
import Derived.Test.YthddkcoflnbjbaaDoorTie
namespace Sm
open Go Go.RowKit Go.WideShapes Go.ChangeShapes
def frzE (Z : Nat → Nat → List C1 → Prop) : EB := ⟨0, 0, 0, Z, fun _ => False⟩
theorem rh_frz {w : World} {Z : Nat → Nat → List C1 → Prop} (hL : LaidW w.heap.size w)
    (h : ∀ b q cs, Z b q cs → ∃ c t z, w.heap[b]? = some (.cells c t z) ∧ q + cs.length ≤ c.size ∧ RCs [frzE Z] cs ((c.toList.drop q).take cs.length) ∧ ∀ x ∈ cs, freeC x) :
    RH w.heap.size w [frzE Z] [deadB] w := by
  have d0 : ∀ (i : Nat) (b : Blk), ([deadB] : List Blk)[i]? = some b → b.live = true → False := fun i b hb hl => by
    match i with
    | 0 => simp at hb; subst hb; cases hl
    | i + 1 => simp at hb
  have e0 : ∀ (j : Nat) (e : EB), ([frzE Z] : Env)[j]? = some e → e = frzE Z := fun j e he => by
    match j with
    | 0 => simp at he; exact he.symm
    | j + 1 => simp at he
  refine ⟨Below.refl _ _, Nat.le_refl _, hL, rfl, fun i b e hi he hl => (d0 i b hi hl).elim, fun i j bi bj ei ej _ hi _ _ _ hl _ _ => (d0 i bi hi hl).elim, fun j e b q cs he hz => ?_, fun j e b he ho => ?_⟩
  · obtain rfl := e0 j e he
    exact ⟨h b q cs hz, fun i bi ei hi _ hl _ => (d0 i bi hi hl).elim, fun i ei hei ho => by rw [e0 i ei hei] at ho; exact ho.elim⟩
  · rw [e0 j e he] at ho; exact ho.elim
theorem call_of_env {P : Program} {T : Tab} {F : Fns} (hm : P.follows .mixedOrders = true) (hT : TabOk P T) (hF : FnsOk P F) {f : FuncId} {fn : Func} (hf : P.funcs[f]? = some fn) {args : List AV} {bs : List Blk} {E : Env} {n : Nat} {orc : List Sg} {w : World} {us : List Value} {u : Value}
    (hh : RH w.heap.size w E bs w) (hra : RA E args us) (hrun : runK P T F n fn args bs orc (fun r _ => resW r = some u)) : Calls P f us.toArray w fun e w' => e = .returned u ∧ Below w.heap.size w w' := by
  refine (run_sound hm hT hF hf hrun hh hra (fun r hp' hr => by obtain ⟨v, hv, _⟩ := resW_spec hr; exact ⟨v, hv⟩)).mono ?_
  rintro e w' ⟨v', hp', E', u', rfl, hk, _, hrv, hrh⟩
  exact ⟨by rw [toW_RV hk hrv], hrh.below⟩
end Sm
namespace Sm
open Go Go.RowKit Go.WideShapes Go.ChangeShapes
def prsF (k : FloatKind) (x : Nat → Nat × Nat) (j : Nat) : List C1 := [.sc (.float k (x j).1) false, .sc (.float k (x j).2) false]
def PrsIn (w : World) (k : FloatKind) (len : Nat) (x : Nat → Nat × Nat) (v : Value) : Prop :=
  (len = 0 ∧ ∃ bs c, v = .slice bs 0 c) ∨ (0 < len ∧ ∃ b o cap c t' fz, v = .slice (some ⟨b, o, none⟩) len cap ∧ len ≤ cap ∧ cap ≤ maxLen ∧ w.heap[b]? = some (.cells c t' fz) ∧ o + len * 2 ≤ c.size ∧
    ∀ j, j < len → c.toList[o + j * 2]? = some (.float k (x j).1) ∧ c.toList[o + j * 2 + 1]? = some (.float k (x j).2))
theorem open_prs {H : Type} {enc : TypeId × Value → H} {P : Program} {w : World} {base b0 : Nat} {held : Bool} {r : Reach} {t e ft : TypeId} {f0 f1 : Field} {k : FloatKind} {v : Value} {d : DataW H} {ps : List MemPlace}
    (ht : P.underlying t = some (.slice e)) (he : P.underlying e = some (.struct #[f0, f1])) (hce : P.cellsOf e = 2) (hft : P.underlying ft = some (.float k)) (hcf : P.cellsOf ft = 1) (h0 : (f0.type, f0.offset) = (ft, 0)) (h1 : (f1.type, f1.offset) = (ft, 1))
    (hval : Value.okWide P w r b0 t v) (hd : DataW.Trod enc P w base (fun _ => true) held t v d ps) :
    ∃ (len : Nat) (x : Nat → Nat × Nat), (∀ j, j < len → (Lit.float k (x j).1).wf = true ∧ (Lit.float k (x j).2).wf = true) ∧ len ≤ maxLen ∧
      PrsIn w k len x v ∧
      (len = 0 ∨ ∃ m, len * P.bytesOf e ≤ m ∧ m ∈ d.weights P t) := by
  obtain ⟨e0, o0⟩ := Prod.mk.inj h0
  obtain ⟨e1, o1⟩ := Prod.mk.inj h1
  obtain ⟨fuel, hf⟩ := hd
  have hcell : v.cells = #[v] ∧ (v = .slice none 0 0 ∨ ∃ a len cap, v = .slice (some a) len cap ∧ a.spot = none) := by
    unfold Value.okWide at hval
    rw [ht] at hval
    simp only [Cell.okWide, ht] at hval
    unfold Cell.ok at hval
    rw [ht] at hval
    cases v with
    | slice a len cap =>
      refine ⟨rfl, ?_⟩
      cases a with
      | none =>
        cases len <;> cases cap <;> first | exact .inl rfl | (simp at hval)
      | some a => exact .inr ⟨a, len, cap, rfl, hval.2.2.2.1⟩
    | _ => simp at hval
  rw [hcell.1] at hf
  rcases DataW.trod_slice ht hf with ⟨h0, _⟩ | ⟨a, len, cap, elems, rest, m, _, h0, hx, _, hl, hm, hel1, hel, hsp, _⟩
  · simp only [List.cons.injEq, and_true] at h0
    subst h0
    exact ⟨0, fun _ => (0, 0), fun j hj => by omega, Nat.zero_le _, .inl ⟨rfl, none, 0, rfl⟩, .inl rfl⟩
  · simp only [List.cons.injEq, and_true] at h0
    subst h0
    have hspot : a.spot = none := by
      rcases hcell.2 with h | ⟨a', l', c', h, hs⟩
      · cases h
      · cases h; exact hs
    simp only [Prod.mk.injEq] at hx
    obtain ⟨rfl, _⟩ := hx
    have hw : len = 0 ∨ ∃ m, len * P.bytesOf e ≤ m ∧ m ∈ (DataW.slice (elems.map (·.1)) (rest.map (·.1)) : DataW H).weights P t := by
      right
      refine ⟨(elems.length + rest.length) * P.bytesOf e, Nat.mul_le_mul_right _ (by omega), ?_⟩
      unfold DataW.weights
      rw [ht]
      simp
    by_cases hlen : len = 0
    · subst hlen
      exact ⟨0, fun _ => (0, 0), fun j hj => by omega, Nat.zero_le _, .inl ⟨rfl, some a, cap, rfl⟩, .inl rfl⟩
    obtain ⟨b, o, sp⟩ := a
    simp only at hspot
    subst hspot
    have each : ∀ i, i < len → ∃ z y, w.cell? ⟨b, o + i * 2, none⟩ = some (.float k z) ∧ w.cell? ⟨b, o + i * 2 + 1, none⟩ = some (.float k y) ∧ (Lit.float k z).wf = true ∧ (Lit.float k y).wf = true := fun i hi => by
      have h1 := hel i hi
      rw [hce, List.getElem?_eq_getElem (by omega), Option.bind_eq_some_iff] at h1
      obtain ⟨cs, hcs, hy⟩ := h1
      obtain ⟨_, hcl, hcg⟩ := World.cells?_some hcs
      obtain ⟨y0, y1, nn, _, _, hy0, hy1⟩ := trod_struct2 he hy
      rw [e0, o0, hcf] at hy0
      rw [e1, o1, hcf] at hy1
      obtain ⟨z, hz, _, hwf⟩ := trod_float hft hy0
      obtain ⟨y, hz1, _, hwf1⟩ := trod_float hft hy1
      match cs, hcl with
      | [c0, c1], _ =>
        simp only [List.drop_zero, List.take_succ_cons, List.take_zero, List.drop_succ_cons, List.cons.injEq, and_true] at hz hz1
        subst hz; subst hz1
        refine ⟨z, y, ?_, ?_, hwf, hwf1⟩
        · have h3 := hcg 0 (by omega)
          rw [add_row, add_row, Nat.add_zero] at h3
          exact h3
        · have h3 := hcg 1 (by omega)
          rw [add_row, add_row] at h3
          exact h3
    obtain ⟨c, t', fz, hc⟩ : ∃ c t' fz, w.heap[b]? = some (.cells c t' fz) := by
      obtain ⟨z, _, hz, _⟩ := each 0 (by omega)
      unfold World.cell? at hz
      simp only at hz
      cases hh : w.heap[b]? with
      | none => rw [hh] at hz; cases hz
      | some ob =>
        cases ob with
        | cells c t' fz => exact ⟨c, t', fz, rfl⟩
        | _ => rw [hh] at hz; cases hz
    have get : ∀ j, j < len → ∃ z y, c.toList[o + j * 2]? = some (.float k z) ∧ c.toList[o + j * 2 + 1]? = some (.float k y) ∧ (Lit.float k z).wf = true ∧ (Lit.float k y).wf = true := fun j hj => by
      obtain ⟨z, y, hz, hy, hw⟩ := each j hj
      rw [cell_of_row w b (o + j * 2) c t' fz hc] at hz
      rw [cell_of_row w b (o + j * 2 + 1) c t' fz hc] at hy
      exact ⟨z, y, by simpa using hz, by simpa using hy, hw⟩
    refine ⟨len, fun j => (fltV ((c.toList[o + j * 2]?).getD Go.undef), fltV ((c.toList[o + j * 2 + 1]?).getD Go.undef)), fun j hj => ?_, Nat.le_trans hl hm, .inr ⟨by omega, b, o, cap, c, t', fz, rfl, hl, hm, hc, ?_, fun j hj => ?_⟩, hw⟩
    · obtain ⟨z, y, hz, hy, hw⟩ := get j hj
      simp only [hz, hy, Option.getD_some, fltV]
      exact hw
    · obtain ⟨z, y, hz, hy, _⟩ := get (len - 1) (by omega)
      have := (List.getElem?_eq_some_iff.1 hy).1
      simp at this
      omega
    · obtain ⟨z, y, hz, hy, _⟩ := get j hj
      simp only [hz, hy, Option.getD_some, fltV]
      exact ⟨trivial, trivial⟩
def rowP (k : FloatKind) (len : Nat) (x : Nat → Nat × Nat) (v : Value) (b q : Nat) (cs : List C1) : Prop := 0 < len ∧ ∃ cap, v = .slice (some ⟨b, q, none⟩) len cap ∧ cs = recC len 2 (prsF k x)
theorem rowP_ok {w : World} {k : FloatKind} {len : Nat} {x : Nat → Nat × Nat} {v : Value} (h : PrsIn w k len x v) (Z : Nat → Nat → List C1 → Prop) (b q : Nat) (cs : List C1) (hz : rowP k len x v b q cs) :
    ∃ c t z, w.heap[b]? = some (.cells c t z) ∧ q + cs.length ≤ c.size ∧ RCs [frzE Z] cs ((c.toList.drop q).take cs.length) ∧ ∀ x ∈ cs, freeC x := by
  obtain ⟨h0, cap, rfl, rfl⟩ := hz
  have hlen : (recC len 2 (prsF k x)).length = len * 2 := recC_length _ _ _
  rcases h with ⟨hn, _⟩ | ⟨_, b', o, cap', c, t', fz, hv, h1, h2, h3, h4, h5⟩
  · omega
  · simp only [Value.slice.injEq, Option.some.injEq, Addr.mk.injEq] at hv
    obtain ⟨⟨rfl, rfl, _⟩, _, rfl⟩ := hv
    refine ⟨c, t', fz, h3, by omega, ⟨?_, fun j c1 u g1 g2 => ?_⟩, rec_free fun j c hc => ?_⟩
    · rw [hlen, List.length_take, List.length_drop, Array.length_toList]; omega
    · have hj : j < len * 2 := by have := (List.getElem?_eq_some_iff.1 g1).1; omega
      obtain ⟨k1, k2⟩ := h5 (j / 2) (Nat.div_lt_of_lt_mul (by omega))
      rw [recC_get _ _ _ hj] at g1
      rw [hlen, List.getElem?_take, if_pos hj, List.getElem?_drop] at g2
      simp only [Option.some.injEq] at g1
      subst g1
      have hd := Nat.div_add_mod j 2
      have : j % 2 = 0 ∨ j % 2 = 1 := by omega
      rcases this with hm | hm
      · rw [show q + j = q + j / 2 * 2 by omega, k1] at g2
        simp only [Option.some.injEq] at g2
        subst g2
        rw [hm]; exact ⟨rfl, rfl⟩
      · rw [show q + j = q + j / 2 * 2 + 1 by omega, k2] at g2
        simp only [Option.some.injEq] at g2
        subst g2
        rw [hm]; exact ⟨rfl, rfl⟩
    · simp only [prsF, List.mem_cons, List.not_mem_nil, or_false] at hc
      rcases hc with rfl | rfl <;> trivial
theorem rowP_RV {w : World} {k : FloatKind} {len : Nat} {x : Nat → Nat × Nat} {v : Value} (h : PrsIn w k len x v) (Z : Nat → Nat → List C1 → Prop) (hZ : ∀ b q cs, rowP k len x v b q cs → Z b q cs) :
    RV [frzE Z] (.one (.lst len len 2 (prsF k x))) v := by
  rcases h with ⟨rfl, bs, c, rfl⟩ | ⟨h0, b, o, cap, c, t', fz, rfl, h1, h2, h3, h4, h5⟩
  · exact .inl ⟨rfl, rfl, bs, c, rfl⟩
  · have hlen : (recC len 2 (prsF k x)).length = len * 2 := recC_length _ _ _
    refine .inr ⟨0, _, b, o, 0, cap, recC len 2 (prsF k x), rfl, hZ _ _ _ ⟨h0, cap, rfl, rfl⟩, rfl, Nat.le_refl _, h1, h2, by omega, fun j hj => ?_⟩
    rw [Nat.zero_add]; exact (recC_at len 2 (prsF k x) (by omega) (show (prsF k x j).length = 2 from rfl)).symm
theorem prs2_env {w : World} {k : FloatKind} {n1 n2 : Nat} {x1 x2 : Nat → Nat × Nat} {v1 v2 : Value} (hL : LaidW w.heap.size w) (h1 : PrsIn w k n1 x1 v1) (h2 : PrsIn w k n2 x2 v2) :
    ∃ E, RH w.heap.size w E [deadB] w ∧ RV E (.one (.lst n1 n1 2 (prsF k x1))) v1 ∧ RV E (.one (.lst n2 n2 2 (prsF k x2))) v2 := by
  refine ⟨[frzE fun b q cs => rowP k n1 x1 v1 b q cs ∨ rowP k n2 x2 v2 b q cs], rh_frz hL fun b q cs hz => ?_, rowP_RV h1 _ fun _ _ _ h => .inl h, rowP_RV h2 _ fun _ _ _ h => .inr h⟩
  rcases hz with h | h
  · exact rowP_ok h1 _ _ _ _ h
  · exact rowP_ok h2 _ _ _ _ h
end Sm
namespace Go.Proofs.YthddkcoflnbjbaaDoor.WaveBack
open Sm Go Go.RowKit Go.ChangeShapes Go.WideShapes Go.ChangeAt
set_option maxRecDepth 1000000
set_option linter.unusedVariables false
theorem own : ownKnob Tryd.prog.godebug = none := by kernel_rfl
theorem laidOut : laidOutB Tryd.prog = true := by kernel_rfl
theorem bytes45 : Tryd.prog.bytesOf 45 = 16 := by kernel_rfl
theorem walk (n0 : Nat) (a0 : Nat → Nat × Nat) (u0 : Value) (n1 : Nat) (a1 : Nat → Nat × Nat) (u1 : Value) (w : World) (hL : LaidW w.heap.size w) (mx0 : n0 ≤ maxLen) (l0 : PrsIn w .f64 n0 a0 u0) (s0 : n0 * 16 ≤ 140737488351232) (mx1 : n1 ≤ maxLen) (l1 : PrsIn w .f64 n1 a1 u1) (s1 : n1 * 16 ≤ 140737488351232) :
    Calls Tryd.prog 12 #[u0, u1] w fun e w' => e = .returned (.bool true) ∧ Below w.heap.size w w' := by
  obtain ⟨E, hh, r0, r1⟩ := prs2_env hL l0 l1
  obtain ⟨F, hF, hrun⟩ := bk_all (n := n0) (m := n1) (x := a0) (y := a1) s0 s1
  exact call_of_env hm hT hF Tryd.func12 hh (RA.mk r0 (RA.mk r1 RA.nil)) hrun
theorem laid_met (os : Os) : laidMet Tryd.prog Rows.waveBackRow.laid ((laidWorld os).forCall (fun _ _ => 0) ⟨#[], #[.slice none 0 0, .slice none 0 0], []⟩).memory :=
  laidMet_of_run' 8 (by kernel_rfl) (by kernel_rfl)
theorem reads (os : Os) {H : Type} (enc : TypeId × Value → H) : ∃ places, DataW.whole enc Tryd.prog ((laidWorld os).forCall (fun _ _ => 0) ⟨#[], #[.slice none 0 0, .slice none 0 0], []⟩).memory Tryd.f12.params.toList Rows.waveBackSpec.vars false (#[.slice none 0 0, .slice none 0 0] : Array Value).toList 8 = some ([.nil, .nil], [], places) :=
  ⟨[], by kernel_rfl⟩
theorem lifted (os : Os) (started : os.Started) (H : Type) (enc : TypeId × Value → H) (F : Stop.Interp) :
    ReturnsInHanded {} Tryd.checked os 12 .any ((OpenSpec.ofChange Rows.waveBackSpec).preRow enc Tryd.prog Tryd.f12 Rows.waveBackRow.domain false Rows.waveBackRow.laid) (((OpenSpec.ofChange Rows.waveBackSpec).at F).post enc Tryd.prog Tryd.f12 false true false false) := by
  obtain ⟨places, hx⟩ := reads os enc
  refine returnsInHanded_of_row (C := Tryd.checked) (s := OpenSpec.ofChange Rows.waveBackSpec) own started (by kernel_rfl) Tryd.func12
    (witness_row_at (enc := enc) (C := Tryd.checked) false (laidWorld os) #[.slice none 0 0, .slice none 0 0] rfl (by kernel_rfl) (by kernel_rfl) (by kernel_rfl)
      (OpenSpec.preRow_of_cond 8 hx (by kernel_rfl) (fun k hk => by cases hk) (by kernel_rfl) (laid_met os))) ?_
  intro W base args ds gs before hval0 hW _ _ hsz0 hL _ _
  have hval : ∀ (j : Nat) t v, Tryd.f12.params[j]? = some t → args[j]? = some v → Value.okWide Tryd.prog W .any base t v := hval0
  have hW' := hW
  obtain ⟨p, q, hA0, hV, rfl, hfz, hnd⟩ := hW
  have hA : DataW.TrodAll enc Tryd.prog W 0 (fun _ => true) true Tryd.f12.params.toList args.toList ds p := hA0
  rw [Tryd.params12] at hA hval
  have hA2 := hA
  have hlt := trodAll_lt _ _ _ _ hA2
  obtain ⟨v0, vs0, d0, ds0, p0, q0, hargs, rfl, rfl, h0, r0⟩ := trodAll_cons hA
  obtain ⟨v1, vs1, d1, ds1, p1, q1, rfl, rfl, rfl, h1, r1⟩ := trodAll_cons r0
  obtain ⟨rfl, rfl, rfl⟩ := trodAll_nil r1
  obtain rfl : args = #[v0, v1] := by cases args; simp_all
  obtain ⟨rfl, rfl⟩ := trodVars_none hV
  obtain ⟨n0, a0, wf0, mx0, l0, z0⟩ := open_prs (ft := 25) Tryd.underlying49 Tryd.underlying45 (by kernel_rfl) Tryd.underlying25 (by kernel_rfl) rfl rfl (hval 0 49 v0 rfl rfl) h0
  obtain ⟨n1, a1, wf1, mx1, l1, z1⟩ := open_prs (ft := 25) Tryd.underlying49 Tryd.underlying45 (by kernel_rfl) Tryd.underlying25 (by kernel_rfl) rfl rfl (hval 1 49 v1 rfl rfl) h1
  have hsz := hsz0
  rw [Tryd.params12] at hsz
  have hr : reachBytes = 140737488351232 := rfl
  have s0 : n0 * 16 ≤ 140737488351232 := by
    rcases z0 with rfl | ⟨m, hm1, hm2⟩
    · omega
    · have := List.all_eq_true.1 hsz _ (DataW.weights_mem_each (j := 0) (t := 49) (d := d0) rfl rfl m hm2)
      rw [bytes45] at hm1
      simp only [decide_eq_true_eq] at this
      omega
  have s1 : n1 * 16 ≤ 140737488351232 := by
    rcases z1 with rfl | ⟨m, hm1, hm2⟩
    · omega
    · have := List.all_eq_true.1 hsz _ (DataW.weights_mem_each (j := 1) (t := 49) (d := d1) rfl rfl m hm2)
      rw [bytes45] at hm1
      simp only [decide_eq_true_eq] at this
      omega
  refine (walk n0 a0 v0 n1 a1 v1 W (laidW hL) mx0 l0 s0 mx1 l1 s1).mono fun e W' ⟨he, bel⟩ => ?_
  subst he
  exact ⟨_, rfl, _, _, _, [], _, [], hW', trodAll_mk1 (shut_bool Tryd.underlying4 _), trodAll_below laidOut bel _ _ _ _ (by kernel_rfl) hA2 hlt, rfl, bel.frame _, fun h => by cases h⟩
theorem said : Rows.WaveBackSaid :=
  OpenClaim.holds_of_cond 12 Tryd.f12 rfl rfl rfl rfl rfl rfl rfl ⟨rfl, rfl, rfl, rfl, rfl⟩ rfl rfl rfl rfl rfl (by kernel_rfl) Tryd.func12 (by kernel_rfl)
    (of_decide_eq_true (by kernel_rfl)) (by unfold Func.isWrapper; first | (rw [if_pos (by decide +kernel)]; kernel_rfl) | (rw [if_neg (by decide +kernel)]; exact ⟨rfl, rfl⟩))
    (fun os started H enc _ F => by rw [OpenClaim.pre_eq_preRow]; exact lifted os started H enc F)
theorem plain (f : FuncId) (fn : Func) (hf : Tryd.pinned.checked.prog.funcNamed "mosaic/mosaiclaw10.WaveBack" = some f) (hfn : Tryd.pinned.checked.prog.funcs[f]? = some fn) :
    false = Tryd.pinned.checked.prog.looks [] ∧ ∀ (j : Nat) t, fn.params[j]? = some t → Tryd.pinned.checked.prog.wantsStandIn t = false := by
  obtain rfl : f = 12 := Option.some.inj ((show Tryd.prog.funcNamed "mosaic/mosaiclaw10.WaveBack" = some 12 by kernel_rfl).symm.trans hf) |>.symm
  obtain rfl : fn = Tryd.f12 := (Option.some.inj (Tryd.func12.symm.trans hfn)).symm
  refine ⟨by kernel_rfl, fun j t ht => ?_⟩
  rw [Tryd.params12] at ht
  have hm : t = 49 ∨ t = 49 := by simpa using Array.mem_of_getElem? ht
  rcases hm with rfl | rfl
  · exact (show Tryd.prog.wantsStandIn 49 = false by kernel_rfl)
  · exact (show Tryd.prog.wantsStandIn 49 = false by kernel_rfl)
end Go.Proofs.YthddkcoflnbjbaaDoor.WaveBack
namespace Go.Proofs.YthddkcoflnbjbaaDoor
theorem waveBackCard_holds : Rows.WaveBackCardSaid :=
  Claim7.holds_tied_plain_at .later [] _ _ _ _ WaveBack.said (fun _ h => by cases h) (by kernel_rfl) (fun _ h => by cases h) waveBack_row_tie rfl ⟨rfl, rfl⟩ (by kernel_rfl) rfl WaveBack.plain (by kernel_rfl)
#print axioms waveBackCard_holds
end Go.Proofs.YthddkcoflnbjbaaDoor
