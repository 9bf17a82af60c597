/-
  What is proved here: what the abstract evaluator says of a piece of code, and of a call, holds of the model's run (second part). A text to be imported.
-/
import Derived.Test.YtepmmicmipmanaaSimI2
namespace Sm
open Go Go.RowKit

section run
variable {P : Program} {T : Tab} {F : Fns} {B : Nat} {w0 : World} {E : Env} {hp : List Blk} {w : World} {a : Act} {tm : Tm}

/-- The quiet head of a region that draws its order. -/
theorem head_sound (hT : TabOk P T) (hF : FnsOk P F) {ops : List Oper} {n : Nat} {w1 : World} (hh : RH B w0 E hp w1) {K : Tm → List Blk → List Sg → Prop} {R : Act → World → Prop} (tl : List Oper) :
    ∀ (hd : List Oper) (tm : Tm) (orc : List Sg) (a : Act), (∀ o ∈ hd, quietOp o = true ∧ ∀ tmps, Region.wanted o (yielded (ops.take n).toArray tmps) = Region.wanted o (yielded ops.toArray tmps)) →
    listK P T F.quiet ops (hd ++ tl) tm hp orc K → RT E tm a.tmps →
    (∀ tm orc a', listK P T F.quiet ops tl tm hp orc K → RT E tm a'.tmps → a'.defers = a.defers → ∀ w', Below w1.heap.size w1 w' → R a' w') →
    wpQuiet P (ops.take n).toArray (Below w1.heap.size w1) (fun a' => ∀ w', Below w1.heap.size w1 w' → R a' w') hd a
  | [], tm, orc, a, _, h, ht, hr => fun w' hw' => hr tm orc a h ht rfl w' hw'
  | o :: hd, tm, orc, a, hq, h, ht, hr => by
    obtain ⟨hqo, hwt⟩ := hq o (by simp)
    have hq' : ∀ o ∈ hd, quietOp o = true ∧ ∀ tmps, Region.wanted o (yielded (ops.take n).toArray tmps) = Region.wanted o (yielded ops.toArray tmps) := fun o ho => hq o (by simp [ho])
    have wanted_step : ∀ (tm : Tm) (orc : List Sg), RT E tm a.tmps → stepK P T F.quiet o tm hp (fun v hp' => fixA o v orc fun v orc => listK P T F.quiet ops (hd ++ tl) (putT tm o.dst v) hp' orc K) →
        o.quiet P a (Below w1.heap.size w1) (wpQuiet P (ops.take n).toArray (Below w1.heap.size w1) (fun a' => ∀ w', Below w1.heap.size w1 w' → R a' w') hd) := fun tm orc ht h => by
      unfold stepK at h
      split at h
      · rename_i f xs hc
        split at h
        · rename_i v hv
          obtain ⟨hcall, u, hu, hrv, hcalls⟩ := hF.pure f _ hp v hv
          obtain ⟨v', orc', h', hrv'⟩ := fixA_spec h
          refine ⟨u, fun w' hw' => ?_, head_sound hT hF hh tl hd _ orc' _ hq' h' (ht.put o.dst (hrv' E u (hrv E))) fun tm orc a' hl hrt hd' w' hw' => hr tm orc a' hl hrt (by rw [hd', put_defers]) w' hw'⟩
          unfold Oper.quietAt
          rw [callee_spec hc a, hcall]
          refine ⟨rfl, (hcalls B w0 E w' _ (hh.congr hw') (args_RA ht xs)).mono ?_⟩
          rintro e w'' ⟨rfl, hb⟩
          exact ⟨rfl, hw'.trans (hb.mono hw'.size)⟩
        · exact h.elim
      · rename_i hc
        obtain ⟨v, u, hK, hrv, hrun⟩ := quiet_sound hT hh ht o hqo hc h
        obtain ⟨v', orc', h', hrv'⟩ := fixA_spec hK
        refine ⟨u, fun w' hw' => ?_, head_sound hT hF hh tl hd _ orc' _ hq' h' (ht.put o.dst (hrv' E u hrv)) fun tm orc a' hl hrt hd' w' hw' => hr tm orc a' hl hrt (by rw [hd', put_defers]) w' hw'⟩
        unfold Oper.quietAt
        rw [hrun w' hw']
        exact ⟨rfl, rfl⟩
    have skip_step : ∀ (tm : Tm) (orc : List Sg), RT E tm a.tmps → listK P T F.quiet ops (hd ++ tl) (putT tm o.dst .undef) hp orc K →
        wpQuiet P (ops.take n).toArray (Below w1.heap.size w1) (fun a' => ∀ w', Below w1.heap.size w1 w' → R a' w') hd (a.put o.dst Go.undef) := fun tm orc ht h =>
      head_sound hT hF hh tl hd _ orc _ hq' h (ht.put o.dst rfl) fun tm orc a' hl hrt hd' w' hw' => hr tm orc a' hl hrt (by rw [hd', put_defers]) w' hw'
    unfold wpQuiet
    rw [hwt]
    simp only [List.cons_append, listK] at h
    split at h
    · rename_i hg
      rw [if_pos (by simp [Region.wanted, hg])]
      exact wanted_step tm orc ht h
    · rename_i j want hg
      split at h
      · exact h.elim
      · rename_i d hd'
        have hwant : ∀ b, boolAt a.tmps[d]? = some b → Region.wanted o (yielded ops.toArray a.tmps) = (b == want) := fun b hb => by
          simp only [Region.wanted, hg, yielded_of hd']
          rw [hb]
          cases b <;> cases want <;> rfl
        split at h
        · rename_i b st hv
          have hb := RT.bool ht hv
          rw [hwant b (by rw [hb]; rfl)]
          split at h
          · cases hbw : b == want with
            | true =>
              rw [hbw] at h
              exact wanted_step tm orc ht h
            | false =>
              rw [hbw] at h
              exact skip_step tm orc ht h
          · obtain ⟨orc', h⟩ := guess_spec h
            have ht' : RT E (setT tm d (.one (.sc (.bool b) true))) a.tmps := ht.reset (by
              rw [Array.getD_eq_getD_getElem?, hb]
              exact ⟨rfl, rfl⟩)
            cases hbw : b == want with
            | true =>
              rw [hbw] at h
              exact wanted_step _ orc' ht' h
            | false =>
              rw [hbw] at h
              exact skip_step _ orc' ht' h
        · rename_i hv
          have hn := RT.undef ht hv
          have : Region.wanted o (yielded ops.toArray a.tmps) = false := by
            simp only [Region.wanted, hg, yielded_of hd']
            rw [hn]
            rfl
          rw [this]
          exact skip_step tm orc ht h
        · exact h.elim

theorem headLen_le : ∀ (ops : List Oper), headLen ops ≤ ops.length
  | [] => Nat.le_refl _
  | o :: l => by
    have := headLen_le l
    simp only [headLen, List.length_cons]
    split <;> omega

theorem headLen_quiet : ∀ (ops : List Oper), ∀ o ∈ ops.take (headLen ops), quietOp o = true
  | [], o, h => by simp at h
  | x :: l, o, h => by
    simp only [headLen] at h
    split at h
    · rename_i hx
      rw [List.take_succ_cons] at h
      rcases List.mem_cons.1 h with rfl | h
      · exact hx
      · exact headLen_quiet l o h
    · simp at h

/-- A region that draws its order. -/
theorem draw_sound (hm : P.follows .mixedOrders = true) (hT : TabOk P T) (hF : FnsOk P F) {id : Nat} {ops : List Oper} {K : Tm → List Blk → List Sg → Prop} {orc : List Sg} {Q : Exit → Act → World → Prop}
    (hd : drawOk ops = true) (h : listK P T F.quiet ops ops tm hp orc K) (hh : RH B w0 E hp w) (ht : RT E tm a.tmps) (hq : Follows B w0 E a.defers K (Q .normal)) : (Code.region id ops.toArray true).wp P Q a w := by
  unfold drawOk at hd
  simp only [Bool.and_eq_true] at hd
  obtain ⟨⟨⟨hL, hB⟩, hG⟩, hW⟩ := hd
  refine wp_draw (C := Below w.heap.size w) hm (headLen_le ops) hL hB hG hW (below_self_drew w) ?_
  rw [← List.take_append_drop (headLen ops) ops] at h
  have h' : listK P T F.quiet ops (ops.take (headLen ops) ++ ops.drop (headLen ops)) tm hp orc K := by
    rw [List.take_append_drop] at h ⊢
    exact h
  refine head_sound (R := fun a' w' => wpList P ops.toArray Q (ops.drop (headLen ops)) a' w') hT hF hh (ops.drop (headLen ops)) (ops.take (headLen ops)) tm orc a (fun o ho => ⟨headLen_quiet ops o ho, fun tmps => ?_⟩) h' ht fun tm' orc' a' hl hrt hdf w' hw' => ?_
  · obtain ⟨i, hi⟩ := List.mem_iff_getElem?.1 ho
    rw [List.getElem?_take] at hi
    split at hi
    · rename_i hlt; exact wanted_take hG hlt hi tmps
    · cases hi
  · exact list_sound hT hF.quiet _ tm' hp orc' K E a' w' hl (hh.congr hw') hrt (by rw [hdf]; exact hq)

/-- What follows a piece of code. -/
def FollowsX (B : Nat) (w0 : World) (E : Env) (ds : List Deferred) (K : Ex → Tm → List Blk → List Sg → Prop) (Q : Exit → Act → World → Prop) : Prop :=
  ∀ x tm hp orc E' a w, K x tm hp orc → E <+: E' → RT E' tm a.tmps → a.defers = ds → RH B w0 E' hp w → Q x.to a w

theorem FollowsX.le {E E' : Env} {ds : List Deferred} {K : Ex → Tm → List Blk → List Sg → Prop} {Q : Exit → Act → World → Prop} (h : FollowsX B w0 E ds K Q) (hp : E <+: E') : FollowsX B w0 E' ds K Q :=
  fun x tm hp' orc E2 a w hk hpre => h x tm hp' orc E2 a w hk (List.IsPrefix.trans hp hpre)

theorem code_both (hm : P.follows .mixedOrders = true) (hT : TabOk P T) : ∀ (n : Nat) (F : Fns) (_ : FnsOk P F) (c : Code),
    (∀ (tm : Tm) (hp : List Blk) (orc : List Sg) (K : Ex → Tm → List Blk → List Sg → Prop) (E : Env) (a : Act) (w : World) (Q : Exit → Act → World → Prop),
      codeK P T F n c tm hp orc K → RH B w0 E hp w → RT E tm a.tmps → FollowsX B w0 E a.defers K Q → c.wp P Q a w) ∧
    (∀ (tm : Tm) (hp : List Blk) (orc : List Sg) (K : Ex → Tm → List Blk → List Sg → Prop) (E : Env) (a : Act) (w : World) (Q : Exit → Act → World → Prop),
      codeK P T F n (.loop c) tm hp orc K → RH B w0 E hp w → RT E tm a.tmps → FollowsX B w0 E a.defers K Q → InLoop P c Q a w) := by
  intro n
  induction n with
  | zero => intro F hF c; exact ⟨fun tm hp orc K E a w Q h => h.elim, fun tm hp orc K E a w Q h => h.elim⟩
  | succ n ih0 =>
    intro F hF c
    have ih := ih0 F hF
    have hround : ∀ (c : Code) (tm : Tm) (hp : List Blk) (orc : List Sg) (K : Ex → Tm → List Blk → List Sg → Prop) (E : Env) (a : Act) (w : World) (Q : Exit → Act → World → Prop),
        codeK P T F (n + 1) (.loop c) tm hp orc K → RH B w0 E hp w → RT E tm a.tmps → FollowsX B w0 E a.defers K Q → InLoop P c Q a w := by
      intro c tm hp orc K E a w Q h hh ht hq
      simp only [codeK] at h
      split at h
      · split at h
        · rename_i c' g hg
          split at h
          · rename_i p x tm' hp' hf
            obtain ⟨rfl, hp1, hk⟩ := h
            exact hF.loops _ _ _ hg _ _ _ _ _ _ hf hp1 B w0 E a w Q hh ht fun E' a' w' hpre hrt hd hrh => hq _ tm' hp' _ E' a' w' hk hpre hrt hd hrh
          · exact h.elim
        · exact h.elim
      · refine InLoop.round ((ih c).1 tm hp _ _ E a w _ h hh ht ?_)
        intro x tm' hp' orc' E' a' w' hk hpre hrt hd hrh
        cases x with
        | normal => exact (ih c).2 tm' hp' orc' K E' a' w' Q hk hrh hrt (by rw [hd]; exact hq.le hpre)
        | exit id => exact hq _ tm' hp' orc' E' a' w' hk hpre hrt hd hrh
        | ret => exact hq _ tm' hp' orc' E' a' w' hk hpre hrt hd hrh
    refine ⟨?_, hround c⟩
    intro tm hp orc K E a w Q h hh ht hq
    cases c with
    | skip => exact wp_skip (hq .normal tm hp orc E a w (by simpa only [codeK] using h) (List.prefix_refl _) ht rfl hh)
    | ret => exact wp_ret (hq .ret tm hp orc E a w (by simpa only [codeK] using h) (List.prefix_refl _) ht rfl hh)
    | exit id => exact wp_exit (hq (.exit id) tm hp orc E a w (by simpa only [codeK] using h) (List.prefix_refl _) ht rfl hh)
    | region id ops draw =>
      have hfol : Follows B w0 E a.defers (K .normal) (Q .normal) := fun tm' hp' orc' E' a' w' hk hpre hrt hd hrh => hq .normal tm' hp' orc' E' a' w' hk hpre hrt hd hrh
      have hops : ops = ops.toList.toArray := by simp
      cases draw with
      | false =>
        simp only [codeK] at h
        rw [hops]
        exact wp_region_list (by simpa using list_sound hT hF ops.toList tm hp orc (K .normal) E a w (by simpa using h) hh ht hfol)
      | true =>
        simp only [codeK] at h
        rw [hops]
        split at h
        · rename_i hd
          exact draw_sound hm hT hF hd h hh ht hfol
        · exact h.elim
    | seq x y =>
      simp only [codeK] at h
      refine wp_seq ((ih x).1 tm hp orc _ E a w _ h hh ht ?_)
      intro x' tm' hp' orc' E' a' w' hk hpre hrt hd hrh
      cases x' with
      | normal => exact (ih y).1 tm' hp' orc' K E' a' w' Q hk hrh hrt (by rw [hd]; exact hq.le hpre)
      | exit id => exact hq _ tm' hp' orc' E' a' w' hk hpre hrt hd hrh
      | ret => exact hq _ tm' hp' orc' E' a' w' hk hpre hrt hd hrh
    | cond c x y =>
      have hc := ht.eval c
      simp only [codeK] at h
      split at h
      · rename_i t st e
        rw [e] at hc
        split at h
        · cases t with
          | true => exact wp_cond_true hc.1 ((ih x).1 tm hp orc K E a w Q h hh ht hq)
          | false => exact wp_cond_false hc.1 ((ih y).1 tm hp orc K E a w Q h hh ht hq)
        · split at h
          · rename_i r hm
            have hm := mergeAt_quiet hm
            obtain ⟨tmA, oA, hA, fA, bA⟩ := code_det n x (dstsC x (dstsC y [])) F tm [] _ ht.2.1 hm.1 (dstsC_mono x _ _ (by simp)) h
            obtain ⟨tmB, oB, hB, fB, bB⟩ := code_det n y (dstsC x (dstsC y [])) F tm [] _ ht.2.1 hm.2 (dstsC_sub x _) hA
            cases t with
            | true =>
              refine wp_cond_true hc.1 ((ih0 F.quiet hF.quiet x).1 tm hp [] _ E a w Q (bA (fun e t1 h1 _ => e = .normal ∧ t1 = tmA ∧ h1 = hp) ⟨rfl, rfl, rfl⟩) hh ht ?_)
              rintro e t1 h1 orc1 E' a' w' ⟨rfl, rfl, rfl⟩ hpre hrt hd hrh
              exact hq .normal _ _ _ E' a' w' hB hpre (hrt.mergeA fA fB) hd hrh
            | false =>
              refine wp_cond_false hc.1 ((ih0 F.quiet hF.quiet y).1 tm hp [] _ E a w Q (bB (fun e t1 h1 _ => e = .normal ∧ t1 = tmB ∧ h1 = hp) ⟨rfl, rfl, rfl⟩) hh ht ?_)
              rintro e t1 h1 orc1 E' a' w' ⟨rfl, rfl, rfl⟩ hpre hrt hd hrh
              exact hq .normal _ _ _ E' a' w' hB hpre (hrt.mergeB _) hd hrh
          · obtain ⟨orc', h⟩ := guess_spec h
            cases t with
            | true => exact wp_cond_true hc.1 ((ih x).1 tm hp orc' K E a w Q h hh ht hq)
            | false => exact wp_cond_false hc.1 ((ih y).1 tm hp orc' K E a w Q h hh ht hq)
      · exact h.elim
    | block id c =>
      simp only [codeK] at h
      refine wp_block ((ih c).1 tm hp orc _ E a w _ h hh ht ?_)
      intro x' tm' hp' orc' E' a' w' hk hpre hrt hd hrh
      cases x' with
      | normal => exact hq .normal tm' hp' orc' E' a' w' hk hpre hrt hd hrh
      | ret => exact hq .ret tm' hp' orc' E' a' w' hk hpre hrt hd hrh
      | exit i =>
        simp only at hk
        show Exit.inBlock id Q (.exit i) a' w'
        simp only [Exit.inBlock]
        by_cases hi : i = id
        · rw [if_pos (by simpa using hi)] at hk
          rw [if_pos hi]
          exact hq .normal tm' hp' orc' E' a' w' hk hpre hrt hd hrh
        · rw [if_neg (by simpa using hi)] at hk
          rw [if_neg hi]
          exact hq (.exit i) tm' hp' orc' E' a' w' hk hpre hrt hd hrh
    | loop c => exact (hround c tm hp orc K E a w Q h hh ht hq).loop
    | _ => simp only [codeK] at h

theorem code_sound (hm : P.follows .mixedOrders = true) (hT : TabOk P T) (hF : FnsOk P F) {n : Nat} {c : Code} {orc : List Sg} {K : Ex → Tm → List Blk → List Sg → Prop} {Q : Exit → Act → World → Prop}
    (h : codeK P T F n c tm hp orc K) (hh : RH B w0 E hp w) (ht : RT E tm a.tmps) (hq : FollowsX B w0 E a.defers K Q) : c.wp P Q a w :=
  (code_both hm hT n F hF c).1 tm hp orc K E a w Q h hh ht hq

end run
end Sm
