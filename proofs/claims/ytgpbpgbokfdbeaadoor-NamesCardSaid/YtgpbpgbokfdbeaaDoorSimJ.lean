/-
  What is proved here: what the abstract evaluator says of a piece of code, and of a call, holds of the model's run (second part). contracts of Go functions out of their abstract runs. A text to be imported.
-/
import Derived.Test.YtgpbpgbokfdbeaaDoorSimI2
import Derived.Test.YtgpbpgbokfdbeaaDoorSimPh
namespace Sm
open Go Go.RowKit

section run
variable {P : Program} {T : Tab} {F : Fns} {B : Nat} {w0 : World} {E : Env} {hp : List Blk} {w : World} {a : Act} {tm : Tm}

/-- A quiet operation: a value of a set in every world that only has grown. -/
theorem quietS_of (hT : TabOk P T) (hF : FnsOk P F) {o : Oper} (hqo : quietOp o = true) (hh : RH B w0 E hp w) (ht : RT E tm a.tmps) {K : Post} (h : stepK P T F.quiet o tm hp K) :
    ∃ v, K v hp ∧ atS P o a (Below w.heap.size w) (RV E v) := by
  unfold stepK at h
  split at h
  · rename_i f xs hc
    obtain ⟨us, hra, hex⟩ := calleeA_spec hc ht
    split at h
    · rename_i v hv
      obtain ⟨hcall, u, hu, hrv, hcalls⟩ := hF.pure f _ hp v hv
      refine ⟨v, h, fun w' hw' => ?_, u, hrv E⟩
      rw [hex, hcall]
      refine (hcalls B w0 E w' _ (hh.congr hw') hra).mono ?_
      rintro e w'' ⟨rfl, hb⟩
      exact ⟨u, rfl, hrv E, hw'.trans (hb.mono hw'.size)⟩
    · split at h
      · rename_i p v hv
        obtain ⟨hcall, u, hu, hrv, hcalls⟩ := hF.pre f _ hp p v hv h.1
        refine ⟨v, h.2, fun w' hw' => ?_, u, hrv E⟩
        rw [hex, hcall]
        refine (hcalls B w0 E w' _ (hh.congr hw') hra).mono ?_
        rintro e w'' ⟨rfl, hb⟩
        exact ⟨u, rfl, hrv E, hw'.trans (hb.mono hw'.size)⟩
      · split at h
        · rename_i p v hv
          obtain ⟨hp1, hK⟩ : (∀ q, p = some q → q) ∧ K v hp := by
            cases p with
            | none => exact ⟨(fun q e => by cases e), h⟩
            | some p => exact ⟨(fun q e => by cases e; exact h.1), h.2⟩
          obtain ⟨u, hrv, hrun⟩ := hF.ext f _ p v hv hp1
          refine ⟨v, hK, fun w' hw' => ?_, u, hrv E⟩
          rw [hex, hrun E _ hra w']
          exact ⟨hw', hrv E⟩
        · exact False.elim h
  · rename_i hc
    have hc := calleeA_none hc
    have h : opK P T o tm hp K := by
      split at h
      · exact h
      · split at h
        · rename_i ho
          exact (quiet_not_store hqo ho).elim
        · exact h
    obtain ⟨v, hK, hsome, hrun⟩ := quiet_soundS hT hh ht o hqo hc h
    refine ⟨v, hK, fun w' hw' => ?_, hsome⟩
    obtain ⟨u, w'', hr, hrv, hb⟩ := hrun w' hw'
    rw [hr]
    exact ⟨hw'.trans (hb.mono hw'.size), hrv⟩

/-- An operation that comes to a value of the set in every world. -/
theorem atS_of_run {o : Oper} {C : World → Prop} {V : Value → Prop} {u : Value} (hu : V u) (hrun : ∀ w', (execOp a.eval o).run P w' = .ok (.value u) w') : atS P o a C V :=
  ⟨fun w' hw' => by rw [hrun w']; exact ⟨hw', hu⟩, u, hu⟩

/-- An operation under a condition. -/
theorem under_sound (hT : TabOk P T) (hF : FnsOk P F) {ce : List Ent} {q : List (Nat × Bool)} {o : Oper} (hqo : quietOp o = true) (hh : RH B w0 E hp w) {K : List Ent → Tm → Prop} (h : underK P T F ce q o tm hp K) :
    ∃ d v, o.dst = some d ∧ d < tm.n ∧ memP d q = false ∧ K (⟨d, q, v⟩ :: dropE d ce) (setT tm d .bad) ∧ ∀ a : Act, RT E tm a.tmps → CE E ce a.tmps → holds a.tmps q → atS P o a (Below w.heap.size w) (RV E v) := by
  unfold underK at h
  split at h
  · exact h.elim
  · rename_i d hdst
    split at h
    · exact h.elim
    · rename_i hm
      simp only [Bool.and_eq_true, Bool.not_eq_true', blt_eq, decide_eq_true_eq] at hm
      split at h
      · rename_i v hv
        refine ⟨d, v, hdst, hm.1, hm.2, h, fun a ht hc hq => ?_⟩
        obtain ⟨u, hrv, hrun⟩ := pickO_sound hc ht hq hv
        exact atS_of_run hrv hrun
      · obtain ⟨v, h1, h2⟩ := stepK_det hqo h
        refine ⟨d, v, hdst, hm.1, hm.2, h1, fun a ht hc hq => ?_⟩
        obtain ⟨v', hK, hat⟩ := quietS_of hT hF hqo hh (openT_sound hc hq o.op.operands.toList tm ht) (h2 (fun v' _ => v' = v) rfl)
        subst hK
        exact hat

/-- Behind an operation under a condition. -/
theorem under_next {ce : List Ent} {d : Nat} {q : List (Nat × Bool)} {v : AV} (hd : d < tm.n) (hm : memP d q = false) (ht : RT E tm a.tmps) (hc : CE E ce a.tmps) :
    (∀ u, holds a.tmps q → RV E v u → CE E (⟨d, q, v⟩ :: dropE d ce) (a.put (some d) u).tmps ∧ RT E (setT tm d .bad) (a.put (some d) u).tmps) ∧
    (¬ holds a.tmps q → CE E (⟨d, q, v⟩ :: dropE d ce) (a.put (some d) Go.undef).tmps ∧ RT E (setT tm d .bad) (a.put (some d) Go.undef).tmps) := by
  have hs : d < a.tmps.size := by rw [ht.1]; exact hd
  exact ⟨fun u hq hv => ⟨hc.cons hm (fun _ => hv) (fun hn => absurd hq hn) hs, ht.put (some d) (x := .bad) trivial⟩,
    fun hn => ⟨hc.cons hm (fun hq => absurd hq hn) (fun _ => rfl) hs, ht.put (some d) (x := .bad) trivial⟩⟩

theorem single_holds {tmps : Array Value} {d : Nat} {want : Bool} : holds tmps [(d, want)] ↔ boolAt tmps[d]? = some want := by
  constructor
  · intro h; exact h (d, want) (by simp)
  · intro h x hx
    simp only [List.mem_singleton] at hx
    subst hx
    exact h

/-- The operations of a region, in the order of the text. -/
theorem list_sound (hT : TabOk P T) (hF : FnsOk P F) {ops : List Oper} {Q : Exit → Act → World → Prop} : ∀ (rest : List Oper) (ce : List Ent) (tm : Tm) (hp : List Blk) (orc : List Sg) (K : Tm → List Blk → List Sg → Prop) (E : Env) (a : Act) (w : World),
    listK P T F ops rest ce tm hp orc K → RH B w0 E hp w → RT E tm a.tmps → CE E ce a.tmps → Follows B w0 E a.defers K (Q .normal) → wpList P ops.toArray Q rest a w
  | [], ce, tm, hp, orc, K, E, a, w, h, hh, ht, hc, hq => hq tm hp orc E a w h (List.prefix_refl _) ht rfl hh
  | o :: rest, ce, tm, hp, orc, K, E, a, w, h, hh, ht, hc, hq => by
    have wanted_step : ∀ (tm : Tm) (orc : List Sg), RT E tm a.tmps → stepK P T F o tm hp (fun v hp' => fixA o v orc fun v orc => listK P T F ops rest (dropO o.dst ce) (putT tm o.dst v) hp' orc K) → o.wp P a w (wpList P ops.toArray Q rest) Q := fun tm orc ht h =>
      step_sound hT hF hh ht o h fun v hp' E' u w' hK0 hpre hrv0 hrh => by
        obtain ⟨v', orc', hK, hrv1⟩ := fixA_spec hK0
        have hrv := hrv1 E' u hrv0
        exact list_sound hT hF rest _ _ hp' orc' K E' _ w' hK hrh ((ht.mono hpre).put o.dst hrv) ((hc.mono hpre).dropO o.dst u) fun tm2 hp2 orc2 E2 a2 w2 hk2 hpre2 ht2 hd2 hh2 => hq tm2 hp2 orc2 E2 a2 w2 hk2 (List.IsPrefix.trans hpre hpre2) ht2 (by rw [hd2, put_defers]) hh2
    have skip_step : ∀ (tm : Tm) (orc : List Sg), RT E tm a.tmps → listK P T F ops rest (dropO o.dst ce) (putT tm o.dst .undef) hp orc K → wpList P ops.toArray Q rest (a.put o.dst Go.undef) w := fun tm orc ht h =>
      list_sound hT hF rest _ _ hp orc K E _ w h hh (ht.put o.dst rfl) (hc.dropO o.dst _) fun tm2 hp2 orc2 E2 a2 w2 hk2 hpre2 ht2 hd2 hh2 => hq tm2 hp2 orc2 E2 a2 w2 hk2 hpre2 ht2 (by rw [hd2, put_defers]) hh2
    have under : ∀ (q : List (Nat × Bool)), quietOp o = true → (Region.wanted o (yielded ops.toArray a.tmps) = true ↔ holds a.tmps q) → underK P T F ce q o tm hp (fun ce tm => listK P T F ops rest ce tm hp orc K) →
        (if Region.wanted o (yielded ops.toArray a.tmps) then o.wp P a w (wpList P ops.toArray Q rest) Q ∨ (o.asks P a w ∧ LetsOut Q) else wpList P ops.toArray Q rest (a.put o.dst Go.undef) w) := fun q hqo hw h => by
      obtain ⟨d, v, hdst, hdn, hm, hK, hex⟩ := under_sound hT hF hqo hh h
      obtain ⟨n1, n2⟩ := under_next (v := v) hdn hm ht hc
      have go : ∀ (u : Value) (w' : World), Below w.heap.size w w' → CE E (⟨d, q, v⟩ :: dropE d ce) (a.put (some d) u).tmps → RT E (setT tm d .bad) (a.put (some d) u).tmps → wpList P ops.toArray Q rest (a.put o.dst u) w' := fun u w' hw' hce hrt => by
        rw [hdst]
        exact list_sound hT hF rest _ _ hp orc K E _ w' hK (hh.congr hw') hrt hce fun tm2 hp2 orc2 E2 a2 w2 hk2 hpre2 ht2 hd2 hh2 => hq tm2 hp2 orc2 E2 a2 w2 hk2 hpre2 ht2 (by rw [hd2, put_defers]) hh2
      by_cases hwt : Region.wanted o (yielded ops.toArray a.tmps) = true
      · rw [if_pos hwt]
        refine .inl (wp_of_atS (C := Below w.heap.size w) (Below.refl _ _) (hex a ht hc (hw.1 hwt)) fun u w' hw' hrv => ?_)
        obtain ⟨c1, c2⟩ := n1 u (hw.1 hwt) hrv
        exact go u w' hw' c1 c2
      · rw [if_neg hwt]
        obtain ⟨c1, c2⟩ := n2 (fun hh => hwt (hw.2 hh))
        exact go _ w (Below.refl _ _) c1 c2
    unfold wpList
    simp only [listK] at h
    split at h
    · rename_i hg
      rw [if_pos (by simp [Region.wanted, hg])]
      split at h
      · rename_i v hv
        obtain ⟨u, hrv, hrun⟩ := pickO_sound hc ht (r := []) (by simp [holds]) hv
        refine .inl ?_
        unfold Oper.wp
        rw [hrun w]
        exact list_sound hT hF rest _ _ hp orc K E _ w h hh (ht.put o.dst hrv) (hc.dropO o.dst _) fun tm2 hp2 orc2 E2 a2 w2 hk2 hpre2 ht2 hd2 hh2 => hq tm2 hp2 orc2 E2 a2 w2 hk2 hpre2 ht2 (by rw [hd2, put_defers]) hh2
      · exact .inl (wanted_step tm orc ht h)
    · rename_i j want hg
      split at h
      · exact h.elim
      · rename_i d hd
        have hwant : ∀ b, boolAt a.tmps[d]? = some b → Region.wanted o (yielded ops.toArray a.tmps) = (b == want) := fun b hb => by
          simp only [Region.wanted, hg, yielded_of hd]
          rw [hb]
          cases b <;> cases want <;> rfl
        split at h
        · rename_i e he
          split at h
          · rename_i hqo
            exact under _ hqo (by rw [wanted_holds hg hd, hc.guard he]) h
          · exact h.elim
        · split at h
          · rename_i b st hv
            have hb := RT.bool ht hv
            split at h
            · rw [hwant b (by rw [hb]; rfl)]
              cases hbw : b == want with
              | true =>
                rw [hbw] at h
                exact .inl (wanted_step tm orc ht h)
              | false =>
                rw [hbw] at h
                exact skip_step tm orc ht h
            · split at h
              · rename_i hmq
                simp only [Bool.and_eq_true] at hmq
                exact under _ hmq.2 (by rw [wanted_holds hg hd, single_holds]) h
              · rw [hwant b (by rw [hb]; rfl)]
                obtain ⟨orc', h⟩ := guess_spec h
                have ht' : RT E (setT tm d (.one (.sc (.bool b) true))) a.tmps := ht.reset (by
                  rw [Array.getD_eq_getD_getElem?, hb]
                  exact ⟨rfl, rfl⟩)
                cases hbw : b == want with
                | true =>
                  rw [hbw] at h
                  exact .inl (wanted_step _ orc' ht' h)
                | false =>
                  rw [hbw] at h
                  exact skip_step _ orc' ht' h
          · rename_i hv
            have hn := RT.undef ht hv
            have : Region.wanted o (yielded ops.toArray a.tmps) = false := by
              simp only [Region.wanted, hg, yielded_of hd]
              rw [hn]
              rfl
            rw [this]
            exact skip_step tm orc ht h
          · exact h.elim

/-- The quiet head of a region that draws its order. -/
theorem head_sound (hT : TabOk P T) (hF : FnsOk P F) {ops : List Oper} {n : Nat} {w1 : World} (hh : RH B w0 E hp w1) {K : Tm → List Blk → List Sg → Prop} {R : Act → World → Prop} (tl : List Oper) :
    ∀ (hd : List Oper) (ce : List Ent) (tm : Tm) (orc : List Sg), (∀ o ∈ hd, quietOp o = true ∧ ∀ tmps, Region.wanted o (yielded (ops.take n).toArray tmps) = Region.wanted o (yielded ops.toArray tmps)) →
    listK P T F.quiet ops (hd ++ tl) ce tm hp orc K → ∃ Vs, ∀ a : Act, RT E tm a.tmps → CE E ce a.tmps →
    (∀ ce tm orc a', listK P T F.quiet ops tl ce tm hp orc K → RT E tm a'.tmps → CE E ce a'.tmps → a'.defers = a.defers → ∀ w', Below w1.heap.size w1 w' → R a' w') →
    wpLexS P (ops.take n).toArray (Below w1.heap.size w1) (fun a' => ∀ w', Below w1.heap.size w1 w' → R a' w') hd Vs a
  | [], ce, tm, orc, _, h => ⟨[], fun a ht hc hr => fun w' hw' => hr ce tm orc a h ht hc rfl w' hw'⟩
  | o :: hd, ce, tm, orc, hq, h => by
    obtain ⟨hqo, hwt⟩ := hq o (by simp)
    have hq' : ∀ o ∈ hd, quietOp o = true ∧ ∀ tmps, Region.wanted o (yielded (ops.take n).toArray tmps) = Region.wanted o (yielded ops.toArray tmps) := fun o ho => hq o (by simp [ho])
    let HR : Act → Prop := fun a => ∀ ce tm orc a', listK P T F.quiet ops tl ce tm hp orc K → RT E tm a'.tmps → CE E ce a'.tmps → a'.defers = a.defers → ∀ w', Below w1.heap.size w1 w' → R a' w'
    let W : List (Value → Prop) → Act → Prop := fun Vs a => wpLexS P (ops.take n).toArray (Below w1.heap.size w1) (fun a' => ∀ w', Below w1.heap.size w1 w' → R a' w') hd Vs a
    have next : ∀ (ce : List Ent) (tm : Tm) (orc : List Sg), listK P T F.quiet ops (hd ++ tl) ce tm hp orc K → ∃ Vs, ∀ (a : Act) (u : Value), RT E tm (a.put o.dst u).tmps → CE E ce (a.put o.dst u).tmps → HR a → W Vs (a.put o.dst u) := fun ce tm orc h => by
      obtain ⟨Vs, hVs⟩ := head_sound hT hF hh (R := R) tl hd ce tm orc hq' h
      exact ⟨Vs, fun a u ht hc hr => hVs _ ht hc fun ce tm orc a' hl hrt hce hd' w' hw' => hr ce tm orc a' hl hrt hce (by rw [hd', put_defers]) w' hw'⟩
    have wanted_step : ∀ (tm : Tm) (orc : List Sg), stepK P T F.quiet o tm hp (fun v hp' => fixA o v orc fun v orc => listK P T F.quiet ops (hd ++ tl) (dropO o.dst ce) (putT tm o.dst v) hp' orc K) →
        ∃ V Vs, ∀ a : Act, RT E tm a.tmps → CE E ce a.tmps → HR a → atS P o a (Below w1.heap.size w1) V ∧ ∀ u, V u → W Vs (a.put o.dst u) := fun tm orc h => by
      obtain ⟨v0, hk0, hk1⟩ := stepK_det hqo h
      obtain ⟨v', orc', h', hrv'⟩ := fixA_spec hk0
      obtain ⟨Vs, hVs⟩ := next _ _ orc' h'
      refine ⟨RV E v0, Vs, fun a ht hc hr => ?_⟩
      obtain ⟨v, hK, hat⟩ := quietS_of hT hF hqo hh ht (hk1 (fun v _ => v = v0) rfl)
      subst hK
      exact ⟨hat, fun u hrv => hVs a u (ht.put o.dst (hrv' E u hrv)) (hc.dropO o.dst u) hr⟩
    have skip_step : ∀ (tm : Tm) (orc : List Sg), listK P T F.quiet ops (hd ++ tl) (dropO o.dst ce) (putT tm o.dst .undef) hp orc K →
        ∃ Vs, ∀ a : Act, RT E tm a.tmps → CE E ce a.tmps → HR a → W Vs (a.put o.dst Go.undef) := fun tm orc h => by
      obtain ⟨Vs, hVs⟩ := next _ _ orc h
      exact ⟨Vs, fun a ht hc hr => hVs a _ (ht.put o.dst rfl) (hc.dropO o.dst _) hr⟩
    have under : ∀ (q : List (Nat × Bool)), (∀ a : Act, RT E tm a.tmps → CE E ce a.tmps → (Region.wanted o (yielded ops.toArray a.tmps) = true ↔ holds a.tmps q)) → underK P T F.quiet ce q o tm hp (fun ce tm => listK P T F.quiet ops (hd ++ tl) ce tm hp orc K) →
        ∃ V Vs, ∀ a : Act, RT E tm a.tmps → CE E ce a.tmps → HR a → if Region.wanted o (yielded ops.toArray a.tmps) then atS P o a (Below w1.heap.size w1) V ∧ ∀ u, V u → W Vs (a.put o.dst u) else W Vs (a.put o.dst Go.undef) := fun q hw h => by
      obtain ⟨d, v, hdst, hdn, hm, hK, hex⟩ := under_sound (F := F.quiet) hT hF.quiet hqo hh h
      obtain ⟨Vs, hVs⟩ := next _ _ orc hK
      refine ⟨RV E v, Vs, fun a ht hc hr => ?_⟩
      obtain ⟨n1, n2⟩ := under_next (v := v) hdn hm ht hc
      by_cases hwt : Region.wanted o (yielded ops.toArray a.tmps) = true
      · rw [if_pos hwt]
        refine ⟨hex a ht hc ((hw a ht hc).1 hwt), fun u hrv => ?_⟩
        obtain ⟨c1, c2⟩ := n1 u ((hw a ht hc).1 hwt) hrv
        exact hVs a u (by rw [hdst]; exact c2) (by rw [hdst]; exact c1) hr
      · rw [if_neg hwt]
        obtain ⟨c1, c2⟩ := n2 (fun hh => hwt ((hw a ht hc).2 hh))
        exact hVs a _ (by rw [hdst]; exact c2) (by rw [hdst]; exact c1) hr
    suffices hgo : ∃ V Vs, ∀ a : Act, RT E tm a.tmps → CE E ce a.tmps → HR a → if Region.wanted o (yielded ops.toArray a.tmps) then atS P o a (Below w1.heap.size w1) V ∧ ∀ u, V u → W Vs (a.put o.dst u) else W Vs (a.put o.dst Go.undef) by
      obtain ⟨V, Vs, hgo⟩ := hgo
      refine ⟨V :: Vs, fun a ht hc hr => ?_⟩
      unfold wpLexS
      rw [hwt]
      exact hgo a ht hc hr
    simp only [List.cons_append, listK] at h
    split at h
    · rename_i hg
      have hw1 : ∀ a : Act, Region.wanted o (yielded ops.toArray a.tmps) = true := fun a => by simp [Region.wanted, hg]
      split at h
      · rename_i v hv
        obtain ⟨Vs, hVs⟩ := next _ _ orc h
        refine ⟨RV E v, Vs, fun a ht hc hr => ?_⟩
        rw [if_pos (hw1 a)]
        obtain ⟨u, hrv, hrun⟩ := pickO_sound hc ht (r := []) (by simp [holds]) hv
        exact ⟨atS_of_run hrv hrun, fun u hrv => hVs a u (ht.put o.dst hrv) (hc.dropO o.dst u) hr⟩
      · obtain ⟨V, Vs, hgo⟩ := wanted_step tm orc h
        exact ⟨V, Vs, fun a ht hc hr => by rw [if_pos (hw1 a)]; exact hgo a ht hc hr⟩
    · rename_i j want hg
      split at h
      · exact h.elim
      · rename_i d hd'
        have hwant : ∀ (a : Act) b, boolAt a.tmps[d]? = some b → Region.wanted o (yielded ops.toArray a.tmps) = (b == want) := fun a b hb => by
          simp only [Region.wanted, hg, yielded_of hd']
          rw [hb]
          cases b <;> cases want <;> rfl
        split at h
        · rename_i e he
          split at h
          · exact under _ (fun a ht hc => by rw [wanted_holds hg hd', hc.guard he]) h
          · exact h.elim
        · split at h
          · rename_i b st hv
            have hb : ∀ a : Act, RT E tm a.tmps → a.tmps[d]? = some (.bool b) := fun a ht => RT.bool ht hv
            split at h
            · cases hbw : b == want with
              | true =>
                rw [hbw] at h
                obtain ⟨V, Vs, hgo⟩ := wanted_step tm orc h
                exact ⟨V, Vs, fun a ht hc hr => by rw [hwant a b (by rw [hb a ht]; rfl), hbw]; exact hgo a ht hc hr⟩
              | false =>
                rw [hbw] at h
                obtain ⟨Vs, hgo⟩ := skip_step tm orc h
                exact ⟨fun _ => False, Vs, fun a ht hc hr => by rw [hwant a b (by rw [hb a ht]; rfl), hbw]; exact hgo a ht hc hr⟩
            · split at h
              · exact under _ (fun a ht hc => by rw [wanted_holds hg hd', single_holds]) h
              · obtain ⟨orc', h⟩ := guess_spec h
                have ht' : ∀ a : Act, RT E tm a.tmps → RT E (setT tm d (.one (.sc (.bool b) true))) a.tmps := fun a ht => ht.reset (by
                  rw [Array.getD_eq_getD_getElem?, hb a ht]
                  exact ⟨rfl, rfl⟩)
                cases hbw : b == want with
                | true =>
                  rw [hbw] at h
                  obtain ⟨V, Vs, hgo⟩ := wanted_step _ orc' h
                  exact ⟨V, Vs, fun a ht hc hr => by rw [hwant a b (by rw [hb a ht]; rfl), hbw]; exact hgo a (ht' a ht) hc hr⟩
                | false =>
                  rw [hbw] at h
                  obtain ⟨Vs, hgo⟩ := skip_step _ orc' h
                  exact ⟨fun _ => False, Vs, fun a ht hc hr => by rw [hwant a b (by rw [hb a ht]; rfl), hbw]; exact hgo a (ht' a ht) hc hr⟩
          · rename_i hv
            obtain ⟨Vs, hgo⟩ := skip_step tm orc h
            refine ⟨fun _ => False, Vs, fun a ht hc hr => ?_⟩
            have hn := RT.undef ht hv
            have : Region.wanted o (yielded ops.toArray a.tmps) = false := by
              simp only [Region.wanted, hg, yielded_of hd']
              rw [hn]
              rfl
            rw [this]
            exact hgo a ht hc hr
          · exact h.elim

/-- The quiet head of a region that draws its order. -/
theorem head_sound2 (hT : TabOk P T) (hF : FnsOk P F) {ops : List Oper} {n : Nat} {w1 : World} (hh : RH B w0 E hp w1) {TL : List Ent → Tm → List Blk → List Sg → Prop} {R : Act → World → Prop} :
    ∀ (hd : List Oper) (ce : List Ent) (tm : Tm) (orc : List Sg), (∀ o ∈ hd, quietOp o = true ∧ ∀ tmps, Region.wanted o (yielded (ops.take n).toArray tmps) = Region.wanted o (yielded ops.toArray tmps)) →
    listH P T F.quiet ops hd ce tm hp orc TL → ∃ Vs, ∀ a : Act, RT E tm a.tmps → CE E ce a.tmps →
    (∀ ce tm orc a', TL ce tm hp orc → RT E tm a'.tmps → CE E ce a'.tmps → a'.defers = a.defers → ∀ w', Below w1.heap.size w1 w' → R a' w') →
    wpLexS P (ops.take n).toArray (Below w1.heap.size w1) (fun a' => ∀ w', Below w1.heap.size w1 w' → R a' w') hd Vs a
  | [], ce, tm, orc, _, h => ⟨[], fun a ht hc hr => fun w' hw' => hr ce tm orc a h ht hc rfl w' hw'⟩
  | o :: hd, ce, tm, orc, hq, h => by
    obtain ⟨hqo, hwt⟩ := hq o (by simp)
    have hq' : ∀ o ∈ hd, quietOp o = true ∧ ∀ tmps, Region.wanted o (yielded (ops.take n).toArray tmps) = Region.wanted o (yielded ops.toArray tmps) := fun o ho => hq o (by simp [ho])
    let HR : Act → Prop := fun a => ∀ ce tm orc a', TL ce tm hp orc → RT E tm a'.tmps → CE E ce a'.tmps → a'.defers = a.defers → ∀ w', Below w1.heap.size w1 w' → R a' w'
    let W : List (Value → Prop) → Act → Prop := fun Vs a => wpLexS P (ops.take n).toArray (Below w1.heap.size w1) (fun a' => ∀ w', Below w1.heap.size w1 w' → R a' w') hd Vs a
    have next : ∀ (ce : List Ent) (tm : Tm) (orc : List Sg), listH P T F.quiet ops hd ce tm hp orc TL → ∃ Vs, ∀ (a : Act) (u : Value), RT E tm (a.put o.dst u).tmps → CE E ce (a.put o.dst u).tmps → HR a → W Vs (a.put o.dst u) := fun ce tm orc h => by
      obtain ⟨Vs, hVs⟩ := head_sound2 hT hF hh (R := R) hd ce tm orc hq' h
      exact ⟨Vs, fun a u ht hc hr => hVs _ ht hc fun ce tm orc a' hl hrt hce hd' w' hw' => hr ce tm orc a' hl hrt hce (by rw [hd', put_defers]) w' hw'⟩
    have wanted_step : ∀ (tm : Tm) (orc : List Sg), stepK P T F.quiet o tm hp (fun v _ => fixA o v orc fun v orc => listH P T F.quiet ops hd (dropO o.dst ce) (putT tm o.dst v) hp orc TL) →
        ∃ V Vs, ∀ a : Act, RT E tm a.tmps → CE E ce a.tmps → HR a → atS P o a (Below w1.heap.size w1) V ∧ ∀ u, V u → W Vs (a.put o.dst u) := fun tm orc h => by
      obtain ⟨v0, hk0, hk1⟩ := stepK_det hqo h
      obtain ⟨v', orc', h', hrv'⟩ := fixA_spec hk0
      obtain ⟨Vs, hVs⟩ := next _ _ orc' h'
      refine ⟨RV E v0, Vs, fun a ht hc hr => ?_⟩
      obtain ⟨v, hK, hat⟩ := quietS_of hT hF hqo hh ht (hk1 (fun v _ => v = v0) rfl)
      subst hK
      exact ⟨hat, fun u hrv => hVs a u (ht.put o.dst (hrv' E u hrv)) (hc.dropO o.dst u) hr⟩
    have skip_step : ∀ (tm : Tm) (orc : List Sg), listH P T F.quiet ops hd (dropO o.dst ce) (putT tm o.dst .undef) hp orc TL →
        ∃ Vs, ∀ a : Act, RT E tm a.tmps → CE E ce a.tmps → HR a → W Vs (a.put o.dst Go.undef) := fun tm orc h => by
      obtain ⟨Vs, hVs⟩ := next _ _ orc h
      exact ⟨Vs, fun a ht hc hr => hVs a _ (ht.put o.dst rfl) (hc.dropO o.dst _) hr⟩
    have under : ∀ (q : List (Nat × Bool)), (∀ a : Act, RT E tm a.tmps → CE E ce a.tmps → (Region.wanted o (yielded ops.toArray a.tmps) = true ↔ holds a.tmps q)) → underK P T F.quiet ce q o tm hp (fun ce tm => listH P T F.quiet ops hd ce tm hp orc TL) →
        ∃ V Vs, ∀ a : Act, RT E tm a.tmps → CE E ce a.tmps → HR a → if Region.wanted o (yielded ops.toArray a.tmps) then atS P o a (Below w1.heap.size w1) V ∧ ∀ u, V u → W Vs (a.put o.dst u) else W Vs (a.put o.dst Go.undef) := fun q hw h => by
      obtain ⟨d, v, hdst, hdn, hm, hK, hex⟩ := under_sound (F := F.quiet) hT hF.quiet hqo hh h
      obtain ⟨Vs, hVs⟩ := next _ _ orc hK
      refine ⟨RV E v, Vs, fun a ht hc hr => ?_⟩
      obtain ⟨n1, n2⟩ := under_next (v := v) hdn hm ht hc
      by_cases hwt : Region.wanted o (yielded ops.toArray a.tmps) = true
      · rw [if_pos hwt]
        refine ⟨hex a ht hc ((hw a ht hc).1 hwt), fun u hrv => ?_⟩
        obtain ⟨c1, c2⟩ := n1 u ((hw a ht hc).1 hwt) hrv
        exact hVs a u (by rw [hdst]; exact c2) (by rw [hdst]; exact c1) hr
      · rw [if_neg hwt]
        obtain ⟨c1, c2⟩ := n2 (fun hh => hwt ((hw a ht hc).2 hh))
        exact hVs a _ (by rw [hdst]; exact c2) (by rw [hdst]; exact c1) hr
    suffices hgo : ∃ V Vs, ∀ a : Act, RT E tm a.tmps → CE E ce a.tmps → HR a → if Region.wanted o (yielded ops.toArray a.tmps) then atS P o a (Below w1.heap.size w1) V ∧ ∀ u, V u → W Vs (a.put o.dst u) else W Vs (a.put o.dst Go.undef) by
      obtain ⟨V, Vs, hgo⟩ := hgo
      refine ⟨V :: Vs, fun a ht hc hr => ?_⟩
      unfold wpLexS
      rw [hwt]
      exact hgo a ht hc hr
    simp only [listH] at h
    split at h
    · rename_i hg
      have hw1 : ∀ a : Act, Region.wanted o (yielded ops.toArray a.tmps) = true := fun a => by simp [Region.wanted, hg]
      split at h
      · rename_i v hv
        obtain ⟨Vs, hVs⟩ := next _ _ orc h
        refine ⟨RV E v, Vs, fun a ht hc hr => ?_⟩
        rw [if_pos (hw1 a)]
        obtain ⟨u, hrv, hrun⟩ := pickO_sound hc ht (r := []) (by simp [holds]) hv
        exact ⟨atS_of_run hrv hrun, fun u hrv => hVs a u (ht.put o.dst hrv) (hc.dropO o.dst u) hr⟩
      · obtain ⟨V, Vs, hgo⟩ := wanted_step tm orc h
        exact ⟨V, Vs, fun a ht hc hr => by rw [if_pos (hw1 a)]; exact hgo a ht hc hr⟩
    · rename_i j want hg
      split at h
      · exact h.elim
      · rename_i d hd'
        have hwant : ∀ (a : Act) b, boolAt a.tmps[d]? = some b → Region.wanted o (yielded ops.toArray a.tmps) = (b == want) := fun a b hb => by
          simp only [Region.wanted, hg, yielded_of hd']
          rw [hb]
          cases b <;> cases want <;> rfl
        split at h
        · rename_i e he
          split at h
          · exact under _ (fun a ht hc => by rw [wanted_holds hg hd', hc.guard he]) h
          · exact h.elim
        · split at h
          · rename_i b st hv
            have hb : ∀ a : Act, RT E tm a.tmps → a.tmps[d]? = some (.bool b) := fun a ht => RT.bool ht hv
            split at h
            · cases hbw : b == want with
              | true =>
                rw [hbw] at h
                obtain ⟨V, Vs, hgo⟩ := wanted_step tm orc h
                exact ⟨V, Vs, fun a ht hc hr => by rw [hwant a b (by rw [hb a ht]; rfl), hbw]; exact hgo a ht hc hr⟩
              | false =>
                rw [hbw] at h
                obtain ⟨Vs, hgo⟩ := skip_step tm orc h
                exact ⟨fun _ => False, Vs, fun a ht hc hr => by rw [hwant a b (by rw [hb a ht]; rfl), hbw]; exact hgo a ht hc hr⟩
            · split at h
              · exact under _ (fun a ht hc => by rw [wanted_holds hg hd', single_holds]) h
              · obtain ⟨orc', h⟩ := guess_spec h
                have ht' : ∀ a : Act, RT E tm a.tmps → RT E (setT tm d (.one (.sc (.bool b) true))) a.tmps := fun a ht => ht.reset (by
                  rw [Array.getD_eq_getD_getElem?, hb a ht]
                  exact ⟨rfl, rfl⟩)
                cases hbw : b == want with
                | true =>
                  rw [hbw] at h
                  obtain ⟨V, Vs, hgo⟩ := wanted_step _ orc' h
                  exact ⟨V, Vs, fun a ht hc hr => by rw [hwant a b (by rw [hb a ht]; rfl), hbw]; exact hgo a (ht' a ht) hc hr⟩
                | false =>
                  rw [hbw] at h
                  obtain ⟨Vs, hgo⟩ := skip_step _ orc' h
                  exact ⟨fun _ => False, Vs, fun a ht hc hr => by rw [hwant a b (by rw [hb a ht]; rfl), hbw]; exact hgo a (ht' a ht) hc hr⟩
          · rename_i hv
            obtain ⟨Vs, hgo⟩ := skip_step tm orc h
            refine ⟨fun _ => False, Vs, fun a ht hc hr => ?_⟩
            have hn := RT.undef ht hv
            have : Region.wanted o (yielded ops.toArray a.tmps) = false := by
              simp only [Region.wanted, hg, yielded_of hd']
              rw [hn]
              rfl
            rw [this]
            exact hgo a ht hc hr
          · exact h.elim

theorem headLen_le : ∀ (ops : List Oper), headLen ops ≤ ops.length
  | [] => Nat.le_refl _
  | o :: l => by
    have := headLen_le l
    simp only [headLen, List.length_cons]
    split <;> omega

theorem headLen_quiet : ∀ (ops : List Oper), ∀ o ∈ ops.take (headLen ops), quietOp o = true
  | [], o, h => by simp at h
  | x :: l, o, h => by
    simp only [headLen] at h
    split at h
    · rename_i hx
      rw [List.take_succ_cons] at h
      rcases List.mem_cons.1 h with rfl | h
      · exact hx
      · exact headLen_quiet l o h
    · simp at h

/-- A region that draws its order. -/
theorem draw_sound (hm : P.follows .mixedOrders = true) (hT : TabOk P T) (hF : FnsOk P F) {id : Nat} {ops : List Oper} {K : Tm → List Blk → List Sg → Prop} {orc : List Sg} {Q : Exit → Act → World → Prop}
    (hd : drawOk ops = true) (h : listK P T F.quiet ops ops [] tm hp orc K) (hh : RH B w0 E hp w) (ht : RT E tm a.tmps) (hq : Follows B w0 E a.defers K (Q .normal)) : (Code.region id ops.toArray true).wp P Q a w := by
  unfold drawOk at hd
  simp only [Bool.and_eq_true] at hd
  obtain ⟨⟨⟨hL, hB⟩, hG⟩, hW⟩ := hd
  rw [← List.take_append_drop (headLen ops) ops] at h
  have h' : listK P T F.quiet ops (ops.take (headLen ops) ++ ops.drop (headLen ops)) [] tm hp orc K := by
    rw [List.take_append_drop] at h ⊢
    exact h
  have hwt : ∀ o ∈ ops.take (headLen ops), ∀ tmps, Region.wanted o (yielded (ops.take (headLen ops)).toArray tmps) = Region.wanted o (yielded ops.toArray tmps) := fun o ho tmps => by
    obtain ⟨i, hi⟩ := List.mem_iff_getElem?.1 ho
    rw [List.getElem?_take] at hi
    split at hi
    · rename_i hlt; exact wanted_take hG hlt hi tmps
    · cases hi
  obtain ⟨Vs, hVs⟩ := head_sound (R := fun a' w' => wpList P ops.toArray Q (ops.drop (headLen ops)) a' w') hT hF hh (ops.drop (headLen ops)) (ops.take (headLen ops)) [] tm orc (n := headLen ops) (fun o ho => ⟨headLen_quiet ops o ho, hwt o ho⟩) h'
  refine wp_drawS (C := Below w.heap.size w) (Vs := Vs) hm (headLen_le ops) hL hB hG hW (below_self_drew w) (hVs a ht (CE.nil _ _) fun ce' tm' orc' a' hl hrt hce hdf w' hw' => ?_)
  exact list_sound hT hF.quiet _ ce' tm' hp orc' K E a' w' hl (hh.congr hw') hrt hce (by rw [hdf]; exact hq)

/-- A region that draws its order and makes memory. -/
theorem draw_sound2 (hm : P.follows .mixedOrders = true) (hT : TabOk P T) (hF : FnsOk P F) {F' : Fns} (hF' : FnsOk P F') {id n : Nat} {ops : List Oper} {K : Tm → List Blk → List Sg → Prop} {orc : List Sg} {Q : Exit → Act → World → Prop}
    (hd : drawOk2 ops n = true) (h : listH P T F.quiet ops (ops.take n) [] tm hp orc fun ce tm hp orc => listK P T F' ops (ops.drop n) ce tm hp orc K) (hh : RH B w0 E hp w) (ht : RT E tm a.tmps) (hq : Follows B w0 E a.defers K (Q .normal)) : (Code.region id ops.toArray true).wp P Q a w := by
  unfold drawOk2 at hd
  simp only [Bool.and_eq_true] at hd
  obtain ⟨⟨⟨⟨⟨⟨hn, hqo⟩, hS⟩, hL⟩, hB⟩, hG⟩, hW⟩ := hd
  have hn := Nat.le_of_ble_eq_true hn
  have hqo := List.all_eq_true.1 hqo
  have hwt : ∀ o ∈ ops.take (n), ∀ tmps, Region.wanted o (yielded (ops.take (n)).toArray tmps) = Region.wanted o (yielded ops.toArray tmps) := fun o ho tmps => by
    obtain ⟨i, hi⟩ := List.mem_iff_getElem?.1 ho
    rw [List.getElem?_take] at hi
    split at hi
    · rename_i hlt; exact wanted_take hG hlt hi tmps
    · cases hi
  obtain ⟨Vs, hVs⟩ := head_sound2 (R := fun a' w' => wpList P ops.toArray (fun e a w => e = .normal ∧ Q .normal a w) (ops.drop n) a' w') hT hF hh (ops.take n) [] tm orc (n := n) (fun o ho => ⟨hqo o ho, hwt o ho⟩) h
  refine wp_drawS2 (C := Below w.heap.size w) (Vs := Vs) (Q0 := fun e a w => e = .normal ∧ Q .normal a w) hm hn hL hB hG hW hS (fun e a w h => h.1) (fun a w h => h.2) (below_self_drew w) (hVs a ht (CE.nil _ _) fun ce' tm' orc' a' hl hrt hce hdf w' hw' => ?_)
  exact list_sound hT hF' _ ce' tm' hp orc' K E a' w' hl (hh.congr hw') hrt hce (by rw [hdf]; exact fun tm hp orc E' a w hk hpre hrt hd hrh => ⟨rfl, hq tm hp orc E' a w hk hpre hrt hd hrh⟩)

/-- Operations that come one behind the other, up to operation 'm'; behind each the world is of a class. -/
theorem late_sound (hT : TabOk P T) (hF : FnsOk P F) {ops : List Oper} {m : Nat} {L : World → Prop} {Q : Exit → Act → World → Prop} {tl : List Oper} (hL : ∀ E hp w, RH B w0 E hp w → L w) : ∀ (rest : List Oper) (j : Nat) (ce : List Ent) (tm : Tm) (hp : List Blk) (K : List Ent → Tm → List Blk → Prop) (E : Env) (a : Act) (w : World),
    (∀ o ∈ rest, noGuard o = true) → lateK P T F rest ce tm hp K → RH B w0 E hp w → RT E tm a.tmps → CE E ce a.tmps →
    (∀ ce tm hp E' a' w', K ce tm hp → E <+: E' → RT E' tm a'.tmps → CE E' ce a'.tmps → a'.defers = a.defers → RH B w0 E' hp w' → wpListL P ops.toArray Q m L (j + rest.length) tl a' w') → wpListL P ops.toArray Q m L j (rest ++ tl) a w
  | [], j, ce, tm, hp, K, E, a, w, _, h, hh, ht, hc, hq => hq ce tm hp E a w h (List.prefix_refl _) ht hc rfl hh
  | o :: rest, j, ce, tm, hp, K, E, a, w, hng, h, hh, ht, hc, hq => by
    have hg : o.guard = none := by
      have := hng o (by simp)
      unfold noGuard at this
      split at this
      · assumption
      · cases this
    rw [List.cons_append]
    unfold wpListL
    rw [if_pos (by simp [Region.wanted, hg])]
    refine .inl (step_sound hT hF hh ht o h fun v hp' E' u w' hK hpre hrv hrh => ⟨fun _ => hL E' hp' w' hrh, ?_⟩)
    refine late_sound hT hF hL rest (j + 1) _ _ hp' K E' _ w' (fun o ho => hng o (by simp [ho])) hK hrh ((ht.mono hpre).put o.dst hrv) ((hc.mono hpre).dropO o.dst u) fun ce2 tm2 hp2 E2 a2 w2 hk2 hpre2 ht2 hc2 hd2 hh2 => ?_
    have := hq ce2 tm2 hp2 E2 a2 w2 hk2 (List.IsPrefix.trans hpre hpre2) ht2 hc2 (by rw [hd2, put_defers]) hh2
    rw [List.length_cons] at this
    rw [show j + 1 + rest.length = j + (rest.length + 1) from by omega]
    exact this

/-- A region that draws its order and makes memory, in whose head one load may come late. -/
theorem draw_sound3 (hm : P.follows .mixedOrders = true) (hT : TabOk P T) (hF : FnsOk P F) {F' : Fns} (hF' : FnsOk P F') {id n i m : Nat} {ops : List Oper} {K : Tm → List Blk → List Sg → Prop} {orc : List Sg} {Q : Exit → Act → World → Prop}
    (hd : lateOk T ops n i m = true) (h : listH P T F.quiet ops (ops.take n) [] tm hp orc fun ce tm hp orc => lateK P T F' ((ops.drop n).take (m - n)) ce tm (roH hp) fun ce tm hp2 => listK P T F' ops (ops.drop m) ce tm (backH hp hp2) orc K)
    (hh : RH B w0 E hp w) (ht : RT E tm a.tmps) (hq : Follows B w0 E a.defers K (Q .normal)) : (Code.region id ops.toArray true).wp P Q a w := by
  unfold lateOk at hd
  simp only [Bool.and_eq_true] at hd
  obtain ⟨⟨⟨⟨⟨⟨⟨⟨⟨⟨⟨⟨hn, hqo⟩, hS⟩, hL⟩, hB⟩, hG⟩, hW⟩, hX⟩, hin⟩, hnm⟩, hwm⟩, hng⟩, hi⟩ := hd
  have hn := Nat.le_of_ble_eq_true hn
  have hnm := Nat.le_of_ble_eq_true hnm
  have hin : i < n := by rw [blt_eq] at hin; simpa using hin
  have hqo := List.all_eq_true.1 hqo
  have hng := List.all_eq_true.1 hng
  obtain ⟨om, hom, hmi⟩ := waitsOn_spec hwm
  obtain ⟨oi, hoi, hi⟩ : ∃ oi, ops[i]? = some oi ∧ (loadOne T oi && oi.after.all (fun e => !Region.binds .any e || looseT T ops e.on) && aloneL T ops n i oi) = true := by
    split at hi
    · rename_i oi hoi
      exact ⟨oi, hoi, hi⟩
    · cases hi
  simp only [Bool.and_eq_true] at hi
  obtain ⟨⟨hi1, hi2⟩, hi3⟩ := hi
  have hwt : ∀ o ∈ ops.take (n), ∀ tmps, Region.wanted o (yielded (ops.take (n)).toArray tmps) = Region.wanted o (yielded ops.toArray tmps) := fun o ho tmps => by
    obtain ⟨i, hi⟩ := List.mem_iff_getElem?.1 ho
    rw [List.getElem?_take] at hi
    split at hi
    · rename_i hlt; exact wanted_take hG hlt hi tmps
    · cases hi
  have hil : looseT T ops i = false := by
    unfold looseT
    rw [hoi]
    have : silentT T oi = false := by
      unfold loadOne at hi1
      unfold silentT
      split at hi1
      · rename_i hg
        split at hi1
        · rename_i t x ho
          simp only [ho]
        · cases hi1
      · cases hi1
    simp [this]
  obtain ⟨Vs, hVs⟩ := head_sound2 (R := fun a' w' => wpListL P ops.toArray (fun e a w => e = .normal ∧ Q .normal a w) m (Below w.heap.size w) n (ops.drop n) a' w') hT hF hh (ops.take n) [] tm orc (n := n) (fun o ho => ⟨hqo o ho, hwt o ho⟩) h
  refine wp_draw3 (C := Below w.heap.size w) (L := Below w.heap.size w) (Vs := Vs) (lo := looseT T ops) (oi := oi) (om := om) (Q0 := fun e a w => e = .normal ∧ Q .normal a w) hm hn hL (looseT_ok hT _) hB hG hW (fun k hk hlt => ?_) hS hin hnm hoi hom hmi (loadOne_sil hT (w1 := w) hi1).1 hil (fun e he hb => ?_) (aloneL_spec hi3)
    (fun e a w h => h.1) (fun a w h => h.2) (below_self_drew w) (fun w h => h) (loadOne_sil hT hi1).2 (hVs a ht (CE.nil _ _) fun ce' tm' orc' a' hl hrt hce hdf w' hw' => ?_)
  · have h3 := List.all_eq_true.1 hX k (List.mem_range.2 hk)
    simp only [Bool.or_eq_true] at h3 ⊢
    rcases h3 with h3 | h3
    · exact .inl h3
    · obtain ⟨d, hd, h4⟩ := List.any_eq_true.1 h3
      have hd := List.mem_range.1 hd
      exact .inr ⟨k + 1 + d, by omega, by omega, waitsOn_spec h4⟩
  · have h3 := Array.all_eq_true_iff_forall_mem.1 hi2 e he
    rw [hb] at h3
    simpa using h3
  · have hh' := hh.congr hw'
    have hlm := (List.getElem?_eq_some_iff.1 hom).1
    have hlt : ((ops.drop n).take (m - n)).length = m - n := by simp; omega
    rw [show ops.drop n = (ops.drop n).take (m - n) ++ ops.drop m from by
      rw [show ops.drop m = (ops.drop n).drop (m - n) from by rw [List.drop_drop, show n + (m - n) = m from by omega], List.take_append_drop]]
    refine late_sound hT hF' (B := w'.heap.size) (w0 := w') (fun E hp w2 h2 => hw'.trans (h2.below.mono hw'.size)) _ n ce' tm' (roH hp) _ _ a' w' hng hl hh'.ro ((SameE.add E _).RT hrt) ((SameE.add E _).CE hce) fun ce2 tm2 hp2 E2 a2 w2 hk2 hpre2 ht2 hc2 hd2 hh2 => ?_
    rw [hlt, show n + (m - n) = m from by omega]
    refine wpListL_of _ m a2 w2 (Nat.le_refl _) ?_
    have hs := backE_same hpre2
    exact list_sound hT hF' _ ce2 tm2 (backH hp hp2) orc' K (backE E E2) a2 w2 hk2 (hh'.back (fun _ h => .inl h) hpre2 hh2) (hs.RT ht2) (hs.CE hc2) fun tm hp orc E' a w hk hpre hrt hd hrh => ⟨rfl, hq tm hp orc E' a w hk ((backE_pre E E2).trans hpre) hrt (by rw [hd, hd2, hdf]) hrh⟩

/-- A region that draws its order, part by part. -/
theorem win_sound (hT : TabOk P T) (hF : FnsOk P F) {ops : List Oper} {A : List Nat} (hA : AncSpec ops A) (hS : Region.noSelect ops.toArray = true) {Q0 : Exit → Act → World → Prop} (hQ0 : NoExit Q0) :
    ∀ (ws : List Win) (M Mf f : Nat) (listed : Array Bool) (tm : Tm) (hp : List Blk) (orc : List Sg) (K : Tm → List Blk → List Sg → Prop) (E : Env) (a : Act) (w : World), winsOk ops A M ws = some Mf → LM ops A M listed → winK P T F ops ws tm hp orc K → RH B w0 E hp w → RT E tm a.tmps →
    (∀ tm' hp' orc' E' a' w' listed', K tm' hp' orc' → E <+: E' → RT E' tm' a'.tmps → a'.defers = a.defers → RH B w0 E' hp' w' → LM ops A Mf listed' → wpAny P .any ops.toArray Q0 f listed' a' w') → wpAny P .any ops.toArray Q0 ((ws.flatMap winOps).length + f) listed a w
  | [], M, Mf, f, listed, tm, hp, orc, K, E, a, w, h, hl, hk, hh, ht, hK => by
    simp only [winsOk, Option.some.injEq] at h
    subst h
    rw [List.flatMap_nil, List.length_nil, Nat.zero_add]
    exact hK tm hp orc E a w listed hk (List.prefix_refl _) ht rfl hh hl
  | v :: r, M, Mf, f, listed, tm, hp, orc, K, E, a, w, h, hl, hk, hh, ht, hK => by
    unfold winsOk at h
    split at h
    rotate_left
    · cases h
    rename_i M' hM'
    rw [List.flatMap_cons, List.length_append, Nat.add_assoc]
    have ih : ∀ (tm' : Tm) (hp' : List Blk) (orc' : List Sg) (E' : Env) (a' : Act) (w' : World) (listed' : Array Bool), winK P T F ops r tm' hp' orc' K → E <+: E' → RT E' tm' a'.tmps → a'.defers = a.defers → RH B w0 E' hp' w' → LM ops A M' listed' → wpAny P .any ops.toArray Q0 ((r.flatMap winOps).length + f) listed' a' w' :=
      fun tm' hp' orc' E' a' w' listed' k1 k2 k3 k4 k5 k6 => win_sound hT hF hA hS hQ0 r M' Mf f listed' tm' hp' orc' K E' a' w' h k6 k1 k5 k3 fun tm2 hp2 orc2 E2 a2 w2 l2 j1 j2 j3 j4 j5 j6 => hK tm2 hp2 orc2 E2 a2 w2 l2 j1 (List.IsPrefix.trans k2 j2) j3 (by rw [j4, k4]) j5 j6
    cases v with
    | s js =>
      unfold winK at hk
      unfold winOk at hM'
      have hw := list_sound hT hF (ops := ops) (Q := fun e a' w' => e = .normal ∧ ∃ tm' hp' orc' E', winK P T F ops r tm' hp' orc' K ∧ E <+: E' ∧ RT E' tm' a'.tmps ∧ a'.defers = a.defers ∧ RH B w0 E' hp' w') (getOps ops js) [] tm hp orc _ E a w hk hh ht (CE.nil _ _)
        fun tm' hp' orc' E' a' w' k1 k2 k3 k4 k5 => ⟨rfl, tm', hp', orc', E', k1, k2, k3, k4, k5⟩
      exact seq_any hA (fun e a w h => h.1) js M M' _ listed a w hM' hl (fun a' w' listed' hq hl' => by
        obtain ⟨_, tm', hp', orc', E', k1, k2, k3, k4, k5⟩ := hq
        exact ih tm' hp' orc' E' a' w' listed' k1 k2 k3 k4 k5 hl') hw
    | g qs js =>
      unfold winK at hk
      unfold winOk at hM'
      simp only at hM'
      split at hM'
      rotate_left
      · cases hM'
      rename_i MQ hMQ
      rw [show winOps (Win.g qs js) = qs ++ js from rfl, List.length_append, Nat.add_assoc]
      refine wpAnyW.any _ _ _ _ (sil_any hT hQ0 hA hS hh qs M MQ _ listed tm orc _ a hMQ hl hk ht fun tm1 orc1 a1 listed1 k1 k2 k3 k4 => wpAnyW.triv _ _ _ _ ?_)
      have hw := list_sound hT hF (ops := ops) (Q := fun e a' w' => e = .normal ∧ ∃ tm' hp' orc' E', winK P T F ops r tm' hp' orc' K ∧ E <+: E' ∧ RT E' tm' a'.tmps ∧ a'.defers = a.defers ∧ RH B w0 E' hp' w') (getOps ops js) [] tm1 hp orc1 _ E a1 w k1 hh k2 (CE.nil _ _)
        fun tm' hp' orc' E' a' w' j1 j2 j3 j4 j5 => ⟨rfl, tm', hp', orc', E', j1, j2, j3, by rw [j4, k3], j5⟩
      exact seq_any hA (fun e a w h => h.1) js MQ M' _ listed1 a1 w hM' k4 (fun a' w' listed' hq hl' => by
        obtain ⟨_, tm', hp', orc', E', j1, j2, j3, j4, j5⟩ := hq
        exact ih tm' hp' orc' E' a' w' listed' j1 j2 j3 j4 j5 hl') hw
    | f qs cs al =>
      unfold winOk at hM'
      simp only at hM'
      split at hM'
      · cases hM'
      rename_i MQ hMQ
      split at hM'
      · cases hM'
      rename_i MC hMC
      split at hM'
      · cases hM'
      rename_i hal
      split at hM'
      rotate_left
      · cases hM'
      rename_i hlat
      simp only [Option.some.injEq] at hM'
      have hbQ := early_bits qs M MQ hMQ
      have hbC := chain_bits cs MQ MC hMC
      have hW := hasB_mask (qs ++ cs ++ optL al)
      have hlater : ∀ j, j < ops.length → hasB M' j = false → ∀ i, hasB (maskL (qs ++ cs ++ optL al)) i = true → hasB (A.getD j 0) i = true := fun j hj hMj i hi => by
        have h1 := List.all_eq_true.1 hlat j (List.mem_range.2 hj)
        simp only [Bool.or_eq_true] at h1
        have h2 : hasB MC j = false ∧ hasB (maskL (optL al)) j = false := by
          rw [← hM'] at hMj
          cases al with
          | none => exact ⟨hMj, by rw [hasB_mask]; simp [optL]⟩
          | some k =>
            simp only [hasB_add, Bool.or_eq_false_iff, decide_eq_false_iff_not] at hMj
            exact ⟨hMj.1, by rw [hasB_mask]; simp only [optL, List.mem_singleton, decide_eq_false_iff_not]; exact fun e => hMj.2 e.symm⟩
        rw [h2.1, h2.2] at h1
        rcases h1 with (h1 | h1) | h1
        · cases h1
        · cases h1
        · exact hasB_sub h1 hi
      have hin : ∀ j, j < ops.length → hasB M j = false → hasB M' j = true → hasB (maskL (qs ++ cs ++ optL al)) j = true := fun j hj hMj hf => by
        rw [hW]
        simp only [List.mem_append, decide_eq_true_eq]
        have h3 : hasB MC j = true → (j ∈ qs ∨ j ∈ cs) := fun h => by
          rw [hbC, hbQ, hMj] at h
          simpa using h
        rw [← hM'] at hf
        cases al with
        | none => exact .inl (h3 hf)
        | some k =>
          simp only [hasB_add, Bool.or_eq_true, decide_eq_true_eq] at hf
          rcases hf with hf | hf
          · exact .inl (h3 hf)
          · exact .inr (by simp [optL, hf])
      unfold winK at hk
      cases al with
      | none =>
        simp only at hk hM'
        subst hM'
        rw [show winOps (Win.f qs cs none) = qs ++ cs from by simp [winOps, optL], List.length_append, Nat.add_assoc]
        refine wpAnyW.any _ _ _ _ (early_any (W := maskL (qs ++ cs ++ optL none)) hT hQ0 hA hS hh hlater qs M MQ _ listed tm orc _ a hMQ hl hin hk ht fun tm1 orc1 a1 listed1 k1 k2 k3 k4 => ?_)
        refine late_any (S2 := fun _ => False) (S := fun _ _ _ => True) (D := fun _ => True) hT hF hA (fun _ _ _ _ _ h => h.elim) (fun _ _ _ _ _ _ _ _ _ _ => trivial) cs MQ listed1 tm1 hp orc1 _ E a1 w hMC k4 (fun j hj hMj => ?_) (fun _ _ _ _ _ _ _ => trivial) k1 hh k2 trivial trivial (Below.refl _ _)
          fun tm' hp' orc' E' a' w' listed' j1 j2 j3 j4 j5 j6 j7 j8 j9 => ?_
        · cases hc : hasB MC j with
          | true =>
            rw [hbC, hMj] at hc
            exact .inl (by simpa using hc)
          | false => exact .inr fun c hcm => hlater j hj hc c (by rw [hW]; simp [hcm])
        · exact wpAnyW.of hA _ MC listed' a' w' j9 (fun i hi => by
            rw [hW] at hi
            rw [hbC, hbQ]
            simp only [List.mem_append, optL, List.not_mem_nil, or_false, decide_eq_true_eq] at hi
            rcases hi with hi | hi <;> simp [hi]) (ih tm' hp' orc' E' a' w' listed' j1 j2 j3 (by rw [j4, k3]) j5 j9)
      | some k =>
        simp only at hk hM' hal
        subst hM'
        obtain ⟨hMk, hkW, ok, e, d, hok, hkg, hke, hkd, hka, hkap⟩ := alOne_spec hal
        split at hk
        · exact hk.elim
        rename_i hnil
        unfold alK at hk
        simp only [hok, hke, hkd] at hk
        split at hk
        rotate_left
        · exact hk.elim
        rename_i ti hti
        split at hk
        · exact hk.elim
        rename_i hz
        have hkcs : k ∉ cs := fun hm => by rw [hbC] at hMk; simp [hm] at hMk
        have hkMQ : hasB MQ k = false := by rw [hbC] at hMk; simp only [Bool.or_eq_false_iff] at hMk; exact hMk.1
        rw [show winOps (Win.f qs cs (some k)) = qs ++ cs ++ [k] from by simp [winOps, optL], List.length_append, List.length_append, List.length_singleton, show qs.length + cs.length + 1 + ((r.flatMap winOps).length + f) = qs.length + (cs.length + (((r.flatMap winOps).length + f) + 1)) from by omega]
        refine wpAnyW.any _ _ _ _ (early_any (W := maskL (qs ++ cs ++ optL (some k))) hT hQ0 hA hS hh hlater qs M MQ _ listed tm orc _ a hMQ hl hin hk ht fun tm1 orc1 a1 listed1 k1 k2 k3 k4 => ?_)
        split at k1
        · exact k1.elim
        rename_i hdn
        have hdn : d < tm1.n := by rw [blt_eq] at hdn; simpa using hdn
        refine late_pend hT hF hA hok hkg hke hkd hka hkW hti (by simpa using hz) cs MQ listed1 (setT tm1 d .bad) hp orc1 _ E a1 w hMC k4 hkMQ hkcs (fun j hj hMj => ?_) (fun c hc o ho => ?_) k1 hh (k2.reset trivial) (by rw [getT_setT k2.2.1 hdn, if_pos rfl]) (by rw [setT_n]; exact hdn) (fun e => by rw [e] at hnil; cases hnil) (Below.refl _ _)
          fun tm' hp' orc' E' a' w' listed' j1 j2 j3 j4 j5 j6 => ?_
        · by_cases hjk : j = k
          · exact .inl hjk
          · cases hc : hasB MC j with
            | true =>
              rw [hbC, hMj] at hc
              exact .inr (.inl (by simpa using hc))
            | false =>
              have hf : hasB (addB MC k) j = false := by rw [hasB_add, hc]; simpa using fun e => hjk e.symm
              exact .inr (.inr ⟨fun c hcm => hlater j hj hf c (by rw [hW]; simp [hcm]), hlater j hj hf k (by rw [hW]; simp [optL])⟩)
        · obtain ⟨oc, hoc, hap⟩ := hkap c hc
          rw [ho] at hoc
          obtain rfl := Option.some.inj hoc
          exact (Oper.apart_spec hap).2.1 d hkd
        · obtain ⟨b, n, g1, g2⟩ := j5
          have hlen := g2.len
          have hpre : E' <+: E' ++ [EB.at b 0 n] := ⟨_, rfl⟩
          have hlE : E'.length = hp'.length := by simpa using hlen
          refine wpAnyW.of hA _ (addB MC k) listed' a' w' j6 (fun i hi => by
            rw [hW] at hi
            rw [hasB_add, hbC, hbQ]
            simp only [List.mem_append, optL, List.mem_singleton, decide_eq_true_eq] at hi
            rcases hi with (hi | hi) | hi <;> simp [hi]) (ih _ _ orc' (E' ++ [EB.at b 0 n]) a' w' listed' j1 (List.IsPrefix.trans j2 hpre) ((j3.mono hpre).reset ?_) (by rw [j4, k3]) g2 j6)
          rw [g1]
          exact ⟨EB.at b 0 n, by rw [← hlE]; simp, rfl⟩

/-- A region that draws its order and makes memory, part by part. -/
theorem draw_soundF (hm : P.follows .mixedOrders = true) (hT : TabOk P T) (hF : FnsOk P F) {id : Nat} {ops : List Oper} {ws : List Win} {K : Tm → List Blk → List Sg → Prop} {orc : List Sg} {Q : Exit → Act → World → Prop}
    (hd : partsOk ops ws = true) (h : winK P T F ops ws tm hp orc K) (hh : RH B w0 E hp w) (ht : RT E tm a.tmps) (hq : Follows B w0 E a.defers K (Q .normal)) : (Code.region id ops.toArray true).wp P Q a w := by
  unfold partsOk at hd
  simp only [Bool.and_eq_true] at hd
  obtain ⟨⟨⟨hn, hA⟩, hS⟩, hw⟩ := hd
  have hn := Nat.le_of_ble_eq_true hn
  have hA := ancOk_spec hA
  split at hw
  rotate_left
  · cases hw
  rename_i M hM
  refine wp_region_any hm ?_
  have hQ0 : NoExit (fun e a w => e = .normal ∧ Q .normal a w) := fun e a w h => h.1
  have h1 := win_sound hT hF hA hS hQ0 ws 0 M (ops.length - (ws.flatMap winOps).length) (Array.replicate ops.length false) tm hp orc K E a { w with drawn := w.drawn + 1 } hM (LM.none ops _) h (hh.congr (below_self_drew w)) ht fun tm' hp' orc' E' a' w' listed' j1 j2 j3 j4 j5 j6 =>
    wpAny_done (ready_full hA j6 hw) ⟨rfl, hq tm' hp' orc' E' a' w' j1 j2 j3 j4 j5⟩ _
  rw [show (ws.flatMap winOps).length + (ops.length - (ws.flatMap winOps).length) = ops.length from by omega] at h1
  have h2 := any_exits hQ0 (fun a w h => h.2) _ _ _ _ h1
  simpa using h2

/-- What follows a piece of code. -/
def FollowsX (B : Nat) (w0 : World) (E : Env) (ds : List Deferred) (K : Ex → Tm → List Blk → List Sg → Prop) (Q : Exit → Act → World → Prop) : Prop :=
  ∀ x tm hp orc E' a w, K x tm hp orc → E <+: E' → RT E' tm a.tmps → a.defers = ds → RH B w0 E' hp w → Q x.to a w

theorem FollowsX.le {E E' : Env} {ds : List Deferred} {K : Ex → Tm → List Blk → List Sg → Prop} {Q : Exit → Act → World → Prop} (h : FollowsX B w0 E ds K Q) (hp : E <+: E') : FollowsX B w0 E' ds K Q :=
  fun x tm hp' orc E2 a w hk hpre => h x tm hp' orc E2 a w hk (List.IsPrefix.trans hp hpre)

theorem FnsOk.withCal (hT : TabOk P T) (hF : FnsOk P F) {code : Code → Tm → List Blk → List Sg → (Ex → Tm → List Blk → List Sg → Prop) → Prop}
    (hcode : ∀ (c : Code) (B : Nat) (w0 : World) (tm : Tm) (hp : List Blk) (orc : List Sg) (K : Ex → Tm → List Blk → List Sg → Prop) (E : Env) (a : Act) (w : World) (Q : Exit → Act → World → Prop),
      code c tm hp orc K → RH B w0 E hp w → RT E tm a.tmps → FollowsX B w0 E a.defers K Q → c.wp P Q a w) : FnsOk P (F.withCal (callWith T F code)) := by
  refine ⟨hF.pr, hF.pure, hF.pre, hF.ext, hF.gen, hF.gnp, fun f args hp K h => ?_, hF.loops⟩
  have h : callWith T F code f args hp K := h
  unfold callWith at h
  split at h
  · exact h.elim
  · rename_i orc hco
    split at h
    · exact h.elim
    · rename_i fn hfn
      obtain ⟨hf, hcall⟩ := hT.fn f fn hfn
      refine ⟨hcall, fun B w0 E w us hh ha => ?_⟩
      split at h
      · exact h.elim
      · rename_i c hb
        split at h
        · rename_i hc
          refine calls_of_wp hf hb (hcode c B w0 _ _ _ _ E _ w _ h hh (RT.start ha hc.1 hc.2) ?_)
          intro x tm' hp' orc' E' a' w' hk hpre hrt hd hrh
          have fin : ∀ (hk : match resultA T fn tm' hp' with
              | some v => K v hp'
              | none => False), a'.defers = [] ∧ ∃ u, (Go.results fn a'.tmps).run P w' = .ok u w' ∧ ∃ v hp' E' u', Ending.returned u = .returned u' ∧ K v hp' ∧ E <+: E' ∧ RV E' v u' ∧ RH B w0 E' hp' w' := fun hk => by
            split at hk
            · rename_i v hv
              obtain ⟨u, hr, hrv⟩ := result_run hT hrh hrt hv
              exact ⟨hd, u, hr, v, hp', E', u, rfl, hk, hpre, hrv, hrh⟩
            · exact hk.elim
          cases x with
          | normal => exact fin hk
          | ret => exact fin hk
          | exit id => exact hk.elim
        · exact h.elim

theorem code_both (hm : P.follows .mixedOrders = true) (hT : TabOk P T) : ∀ (n : Nat) (B : Nat) (w0 : World) (F : Fns) (_ : FnsOk P F) (c : Code),
    (∀ (tm : Tm) (hp : List Blk) (orc : List Sg) (K : Ex → Tm → List Blk → List Sg → Prop) (E : Env) (a : Act) (w : World) (Q : Exit → Act → World → Prop),
      codeK P T F n c tm hp orc K → RH B w0 E hp w → RT E tm a.tmps → FollowsX B w0 E a.defers K Q → c.wp P Q a w) ∧
    (∀ (tm : Tm) (hp : List Blk) (orc : List Sg) (K : Ex → Tm → List Blk → List Sg → Prop) (E : Env) (a : Act) (w : World) (Q : Exit → Act → World → Prop),
      codeK P T F n (.loop c) tm hp orc K → RH B w0 E hp w → RT E tm a.tmps → FollowsX B w0 E a.defers K Q → InLoop P c Q a w) := by
  intro n
  induction n with
  | zero => intro B w0 F hF c; exact ⟨fun tm hp orc K E a w Q h => h.elim, fun tm hp orc K E a w Q h => h.elim⟩
  | succ n ihA =>
    intro B w0 F hF c
    have ih0 := ihA B w0
    have ih := ih0 F hF
    have hFc : FnsOk P (F.withCal (callWith T F (codeK P T F n))) := hF.withCal hT fun c B w0 tm hp orc K E a w Q => (ihA B w0 F hF c).1 tm hp orc K E a w Q
    have hround : ∀ (c : Code) (tm : Tm) (hp : List Blk) (orc : List Sg) (K : Ex → Tm → List Blk → List Sg → Prop) (E : Env) (a : Act) (w : World) (Q : Exit → Act → World → Prop),
        codeK P T F (n + 1) (.loop c) tm hp orc K → RH B w0 E hp w → RT E tm a.tmps → FollowsX B w0 E a.defers K Q → InLoop P c Q a w := by
      intro c tm hp orc K E a w Q h hh ht hq
      simp only [codeK] at h
      split at h
      · split at h
        · rename_i c' g hg
          split at h
          · rename_i p x tm' hp' hf
            obtain ⟨rfl, hp1, hk⟩ := h
            exact hF.loops _ _ _ hg _ _ _ _ _ _ hf hp1 B w0 E a w Q hh ht fun E' a' w' hpre hrt hd hrh => hq _ tm' hp' _ E' a' w' hk hpre hrt hd hrh
          · exact h.elim
        · exact h.elim
      · refine InLoop.round ((ih c).1 tm hp _ _ E a w _ h hh ht ?_)
        intro x tm' hp' orc' E' a' w' hk hpre hrt hd hrh
        cases x with
        | normal => exact (ih c).2 tm' hp' orc' K E' a' w' Q hk hrh hrt (by rw [hd]; exact hq.le hpre)
        | exit id => exact hq _ tm' hp' orc' E' a' w' hk hpre hrt hd hrh
        | ret => exact hq _ tm' hp' orc' E' a' w' hk hpre hrt hd hrh
      · refine InLoop.round ((ih c).1 tm hp _ _ E a w _ h hh ht ?_)
        intro x tm' hp' orc' E' a' w' hk hpre hrt hd hrh
        cases x with
        | normal => exact (ih c).2 tm' hp' orc' K E' a' w' Q hk hrh hrt (by rw [hd]; exact hq.le hpre)
        | exit id => exact hq _ tm' hp' orc' E' a' w' hk hpre hrt hd hrh
        | ret => exact hq _ tm' hp' orc' E' a' w' hk hpre hrt hd hrh
    refine ⟨?_, hround c⟩
    intro tm hp orc K E a w Q h hh ht hq
    cases c with
    | skip => exact wp_skip (hq .normal tm hp orc E a w (by simpa only [codeK] using h) (List.prefix_refl _) ht rfl hh)
    | ret => exact wp_ret (hq .ret tm hp orc E a w (by simpa only [codeK] using h) (List.prefix_refl _) ht rfl hh)
    | exit id => exact wp_exit (hq (.exit id) tm hp orc E a w (by simpa only [codeK] using h) (List.prefix_refl _) ht rfl hh)
    | region id ops draw =>
      have hfol : Follows B w0 E a.defers (K .normal) (Q .normal) := fun tm' hp' orc' E' a' w' hk hpre hrt hd hrh => hq .normal tm' hp' orc' E' a' w' hk hpre hrt hd hrh
      have hops : ops = ops.toList.toArray := by simp
      cases draw with
      | false =>
        simp only [codeK] at h
        rw [hops]
        exact wp_region_list (by simpa using list_sound hT hFc ops.toList [] tm hp orc (K .normal) E a w (by simpa using h) hh ht (CE.nil _ _) hfol)
      | true =>
        simp only [codeK] at h
        rw [hops]
        split at h
        · split at h
          · rename_i hd
            exact draw_sound hm hT hF hd h hh ht hfol
          · exact h.elim
        · split at h
          · split at h
            · rename_i hd
              exact draw_sound2 hm hT hF hFc hd h hh ht hfol
            · exact h.elim
          · split at h
            · rename_i hd
              exact draw_soundF hm hT hFc hd h hh ht hfol
            · exact h.elim
          · split at h
            · rename_i hd
              exact draw_sound3 hm hT hF hFc hd h hh ht hfol
            · exact h.elim
          · split at h
            · rename_i hd
              exact draw_sound hm hT hF hd h hh ht hfol
            · exact h.elim
    | seq x y =>
      simp only [codeK] at h
      refine wp_seq ((ih x).1 tm hp orc _ E a w _ h hh ht ?_)
      intro x' tm' hp' orc' E' a' w' hk hpre hrt hd hrh
      cases x' with
      | normal => exact (ih y).1 tm' hp' orc' K E' a' w' Q hk hrh hrt (by rw [hd]; exact hq.le hpre)
      | exit id => exact hq _ tm' hp' orc' E' a' w' hk hpre hrt hd hrh
      | ret => exact hq _ tm' hp' orc' E' a' w' hk hpre hrt hd hrh
    | cond c x y =>
      have hc := ht.eval c
      simp only [codeK] at h
      split at h
      · rename_i t st e
        rw [e] at hc
        split at h
        · cases t with
          | true => exact wp_cond_true hc.1 ((ih x).1 tm hp orc K E a w Q h hh ht hq)
          | false => exact wp_cond_false hc.1 ((ih y).1 tm hp orc K E a w Q h hh ht hq)
        · split at h
          · rename_i r hm
            have hm := mergeAt_quiet hm
            obtain ⟨tmA, hpA, oA, hA, fA, sA, bA⟩ := code_det n x (dstsC x (dstsC y [])) (F.under t) tm hp [] _ ht.2.1 hm.1 (dstsC_mono x _ _ (by simp)) h
            obtain ⟨tmB, hpB, oB, hB, fB, sB, bB⟩ := code_det n y (dstsC x (dstsC y [])) (F.under (!t)) tm hpA [] _ ht.2.1 hm.2 (dstsC_sub x _) hA
            cases t with
            | true =>
              refine wp_cond_true hc.1 ((ih0 (F.under true) hF.under x).1 tm hp [] _ E a w Q (bA (fun e t1 h1 _ => e = .normal ∧ t1 = tmA ∧ h1 = hpA) ⟨rfl, rfl, rfl⟩) hh ht ?_)
              rintro e t1 h1 orc1 E' a' w' ⟨rfl, rfl, rfl⟩ hpre hrt hd hrh
              exact hq .normal _ _ _ E' a' w' hB hpre (hrt.mergeA fA fB) hd (sB.1 under_false _ _ _ _ hrh)
            | false =>
              refine wp_cond_false hc.1 ((ih0 (F.under true) hF.under y).1 tm hpA [] _ E a w Q (bB (fun e t1 h1 _ => e = .normal ∧ t1 = tmB ∧ h1 = hpB) ⟨rfl, rfl, rfl⟩) (sA.1 under_false _ _ _ _ hh) ht ?_)
              rintro e t1 h1 orc1 E' a' w' ⟨rfl, rfl, rfl⟩ hpre hrt hd hrh
              exact hq .normal _ _ _ E' a' w' hB hpre (hrt.mergeB _) hd hrh
          · obtain ⟨orc', h⟩ := guess_spec h
            cases t with
            | true => exact wp_cond_true hc.1 ((ih x).1 tm hp orc' K E a w Q h hh ht hq)
            | false => exact wp_cond_false hc.1 ((ih y).1 tm hp orc' K E a w Q h hh ht hq)
      · exact h.elim
    | block id c =>
      simp only [codeK] at h
      split at h
      · rename_i r hj
        have hlean := joinAt_lean hj
        · have h1 := lean_map (P := P) (T := T) n c (dstsC c []) F tm hp [] _ (fun x tm' hp' _ => (match x with
            | .normal => True
            | .exit i => match Nat.beq i id with
              | true => True
              | false => K (.exit i) tm' hp r
            | .ret => K .ret tm' hp r) ∧ Fr (dstsC c []) tm tm' ∧ hp' = hp) ht.2.1 hlean (fun i hi => hi) (fun x tm' orc' hf hk => ⟨hk, hf, rfl⟩) h.1
          refine wp_block ((ih0 F.quiet hF.quiet c).1 tm hp [] _ E a w _ h1 hh ht ?_)
          rintro x' tm' hp' orc' E' a' w' ⟨hk, hf, rfl⟩ hpre hrt hd hrh
          cases x' with
          | normal => exact hq .normal _ _ _ E' a' w' h.2 hpre (hrt.forget hf) hd hrh
          | ret => exact hq .ret tm' _ r E' a' w' hk hpre hrt hd hrh
          | exit i =>
            show Exit.inBlock id Q (.exit i) a' w'
            simp only [Exit.inBlock]
            by_cases hi : i = id
            · rw [if_pos hi]
              exact hq .normal _ _ _ E' a' w' h.2 hpre (hrt.forget hf) hd hrh
            · rw [if_neg hi]
              have hib : Nat.beq i id = false := by rw [beq_eq]; simpa using hi
              simp only [hib] at hk
              exact hq (.exit i) tm' _ r E' a' w' hk hpre hrt hd hrh
      refine wp_block ((ih c).1 tm hp _ _ E a w _ h hh ht ?_)
      intro x' tm' hp' orc' E' a' w' hk hpre hrt hd hrh
      cases x' with
      | normal => exact hq .normal tm' hp' orc' E' a' w' hk hpre hrt hd hrh
      | ret => exact hq .ret tm' hp' orc' E' a' w' hk hpre hrt hd hrh
      | exit i =>
        simp only at hk
        show Exit.inBlock id Q (.exit i) a' w'
        simp only [Exit.inBlock]
        by_cases hi : i = id
        · rw [if_pos (by simpa using hi)] at hk
          rw [if_pos hi]
          exact hq .normal tm' hp' orc' E' a' w' hk hpre hrt hd hrh
        · rw [if_neg (by simpa using hi)] at hk
          rw [if_neg hi]
          exact hq (.exit i) tm' hp' orc' E' a' w' hk hpre hrt hd hrh
    | loop c => exact (hround c tm hp orc K E a w Q h hh ht hq).loop
    | _ => simp only [codeK] at h

theorem code_sound (hm : P.follows .mixedOrders = true) (hT : TabOk P T) (hF : FnsOk P F) {n : Nat} {c : Code} {orc : List Sg} {K : Ex → Tm → List Blk → List Sg → Prop} {Q : Exit → Act → World → Prop}
    (h : codeK P T F n c tm hp orc K) (hh : RH B w0 E hp w) (ht : RT E tm a.tmps) (hq : FollowsX B w0 E a.defers K Q) : c.wp P Q a w :=
  (code_both hm hT n B w0 F hF c).1 tm hp orc K E a w Q h hh ht hq

end run
end Sm
namespace Sm
open Go Go.RowKit

section calls
variable {P : Program} {T : Tab} {F : Fns} {B : Nat} {w0 : World} {E : Env} {hp : List Blk} {w : World} {a : Act} {tm : Tm}

/-- A call, walked. -/
theorem run_sound (hm : P.follows .mixedOrders = true) (hT : TabOk P T) (hF : FnsOk P F) {f : FuncId} {fn : Func} (hf : P.funcs[f]? = some fn) {n : Nat} {args : List AV} {us : List Value} {orc : List Sg} {K : Option AV → List Blk → Prop}
    (h : runK P T F n fn args hp orc K) (hh : RH B w0 E hp w) (ha : RA E args us) (hK : ∀ r hp', K r hp' → ∃ v, r = some v) :
    Calls P f us.toArray w fun e w' => ∃ v hp' E' u, e = .returned u ∧ K (some v) hp' ∧ E <+: E' ∧ RV E' v u ∧ RH B w0 E' hp' w' := by
  unfold runK at h
  split at h
  · rename_i c hb
    split at h
    · rename_i hc
      refine calls_of_wp hf hb (code_sound hm hT hF h hh (RT.start ha hc.1 hc.2) ?_)
      intro x tm' hp' orc' E' a' w' hk hpre hrt hd hrh
      have fin : ∀ (hk : K (resultA T fn tm' hp') hp'), a'.defers = [] ∧ ∃ u, (Go.results fn a'.tmps).run P w' = .ok u w' ∧ ∃ v hp' E' u', Ending.returned u = .returned u' ∧ K (some v) hp' ∧ E <+: E' ∧ RV E' v u' ∧ RH B w0 E' hp' w' := fun hk => by
        obtain ⟨v, hv⟩ := hK _ _ hk
        obtain ⟨u, hr, hrv⟩ := result_run hT hrh hrt hv
        rw [hv] at hk
        exact ⟨hd, u, hr, v, hp', E', u, rfl, hk, hpre, hrv, hrh⟩
      cases x with
      | normal => exact fin hk
      | ret => exact fin hk
      | exit id => exact hk.elim
    · exact h.elim
  · exact h.elim

end calls
end Sm
