/-
  What is proved here: quiet code, walked abstractly, has one outcome. A text to be imported.
-/
import Derived.Test.YtepmmicmipmanaaSimI
namespace Sm
open Go Go.RowKit

section det
variable {P : Program} {T : Tab} {F : Fns} {hp : List Blk} {tm : Tm}

theorem scalK_det {o : Oper} {K : Post} (h : scalK P o tm hp K) : ∃ v, K v hp ∧ ∀ K' : Post, K' v hp → scalK P o tm hp K' := by
  unfold scalK at h ⊢
  split at h
  · rename_i h1
    split at h
    · rename_i v h2
      split at h
      · rename_i a h3
        refine ⟨a, h, fun K' hk => ?_⟩
        rw [if_pos h1]
        exact hk
      · exact h.elim
    · exact h.elim
  · exact h.elim

theorem nilK_det {op : BinOp} {K : Post} (h : nilK op hp K) : ∃ v, K v hp ∧ ∀ K' : Post, K' v hp → nilK op hp K' := by
  unfold nilK at h ⊢
  split at h
  · rename_i r h1
    exact ⟨_, h, fun K' hk => hk⟩
  · exact h.elim

theorem aggK_det {op : BinOp} {t : TypeId} {cs ds : List C1} {K : Post} (h : aggK T op t cs ds hp K) : ∃ v, K v hp ∧ ∀ K' : Post, K' v hp → aggK T op t cs ds hp K' := by
  unfold aggK at h ⊢
  split at h
  · rename_i xs ys h1 h2
    split at h
    · rename_i h3
      split at h
      · rename_i b h4
        split at h
        · rename_i r h5
          refine ⟨_, h, fun K' hk => ?_⟩
          rw [if_pos h3]
          exact hk
        · exact h.elim
      · exact h.elim
    · exact h.elim
  · exact h.elim

theorem binK_det {t : TypeId} {op : BinOp} {o : Oper} {x y : AV} {K : Post} (h : binK P T t op o x y tm hp K) : ∃ v, K v hp ∧ ∀ K' : Post, K' v hp → binK P T t op o x y tm hp K' := by
  unfold binK at h ⊢
  repeat' (first | exact h.elim | exact ⟨_, h, fun K' hk => hk⟩ | exact ⟨_, h.2, fun K' hk => ⟨h.1, hk⟩⟩ | exact ⟨_, h.2, fun K' hk => by rw [if_pos ‹_›]; exact ⟨h.1, hk⟩⟩ | exact ⟨_, h, fun K' hk => by rw [if_pos ‹_›]; exact hk⟩ | exact scalK_det h | exact aggK_det h | exact nilK_det h | (obtain ⟨v, h1, h2⟩ := scalK_det h; exact ⟨v, h1, fun K' hk => by first | rw [if_pos ‹_›]; exact h2 K' hk | rw [if_neg ‹_›]; exact h2 K' hk⟩) | (obtain ⟨v, h1, h2⟩ := nilK_det h; exact ⟨v, h1, fun K' hk => by rw [if_pos ‹_›]; exact h2 K' hk⟩) | split at h)

theorem mnmxK_det {great : Bool} {o : Oper} {xs : List Operand} {K : Post} (h : mnmxK P great o xs tm hp K) : ∃ v, K v hp ∧ ∀ K' : Post, K' v hp → mnmxK P great o xs tm hp K' := by
  unfold mnmxK at h ⊢
  repeat' (first | exact h.elim | exact scalK_det h | exact ⟨_, h.2, fun K' hk => by rw [if_pos ‹_›]; exact ⟨h.1, hk⟩⟩ | split at h)

theorem pick_det {t : Bool} {a b : AV} {K : Post} (h : (t = true → K a hp) ∧ (t = false → K b hp)) : ∃ v, K v hp ∧ ∀ K' : Post, K' v hp → (t = true → K' a hp) ∧ (t = false → K' b hp) := by
  cases t with
  | true => exact ⟨a, h.1 rfl, fun K' hk => ⟨fun _ => hk, fun e => by cases e⟩⟩
  | false => exact ⟨b, h.2 rfl, fun K' hk => ⟨fun e => (by cases e), fun _ => hk⟩⟩

theorem opK_det {o : Oper} (hq : quietOp o = true) {K : Post} (h : opK P T o tm hp K) : ∃ v, K v hp ∧ ∀ K' : Post, K' v hp → opK P T o tm hp K' := by
  unfold quietOp at hq
  unfold opK at h ⊢
  split at hq
  all_goals (first | cases hq | skip)
  all_goals (rename_i ho; try simp only [ho] at h ⊢)
  all_goals (repeat' (first | exact h.elim | exact ⟨_, h, fun K' hk => hk⟩ | exact ⟨_, h, fun K' hk => by rw [if_pos ‹_›]; exact hk⟩ | exact ⟨_, h, fun K' hk => by rw [if_neg ‹_›]; exact hk⟩ | exact scalK_det h | exact binK_det h | exact pick_det h | exact mnmxK_det h | exact ⟨_, h.2, fun K' hk => ⟨h.1, hk⟩⟩ | exact ⟨_, h, fun K' hk => by simp only [*]; exact hk⟩ | exact ⟨_, h, fun K' hk => by rw [if_neg (by assumption), if_neg (by assumption)]; exact hk⟩ | (simp [*] at hq; done) | split at h))

theorem guess_det {b : Bool} {orc : List Sg} {K : Bool → List Sg → Prop} (h : guess b orc K) : ∃ orc', K b orc' ∧ ∀ K' : Bool → List Sg → Prop, K' b orc' → guess b orc K' := by
  unfold guess at h ⊢
  split at h
  · obtain ⟨rfl, h⟩ := h
    exact ⟨_, h, fun K' hk => ⟨rfl, hk⟩⟩
  · cases b with
    | true => exact ⟨[], h.1 rfl, fun K' hk => ⟨fun _ => hk, fun e => (by cases e)⟩⟩
    | false => exact ⟨[], h.2 rfl, fun K' hk => ⟨fun e => (by cases e), fun _ => hk⟩⟩
  · exact h.elim

theorem fixA_det {o : Oper} {v : AV} {orc : List Sg} {K : AV → List Sg → Prop} (h : fixA o v orc K) : ∃ v' orc', K v' orc' ∧ ∀ K' : AV → List Sg → Prop, K' v' orc' → fixA o v orc K' := by
  unfold fixA at h ⊢
  split at h
  · exact ⟨_, _, h, fun K' hk => hk⟩
  · split at h
    · split at h
      · obtain ⟨hx, h⟩ := h
        exact ⟨_, _, h, fun K' hk => ⟨hx, hk⟩⟩
      · exact ⟨_, _, h, fun K' hk => hk⟩
    · exact ⟨_, _, h, fun K' hk => hk⟩

theorem mergeAt_quiet {a b : Bool} {orc r : List Sg} (h : mergeAt (a && b) orc = some r) : a = true ∧ b = true := by
  cases a <;> cases b <;> first | exact ⟨rfl, rfl⟩ | (simp [mergeAt] at h)

theorem stepK_det {o : Oper} (hq : quietOp o = true) {K : Post} (h : stepK P T F.quiet o tm hp K) : ∃ v, K v hp ∧ ∀ K' : Post, K' v hp → stepK P T F.quiet o tm hp K' := by
  unfold stepK at h ⊢
  split at h
  · split at h
    · exact ⟨_, h, fun K' hk => hk⟩
    · exact h.elim
  · exact opK_det hq h

/-- Nothing else is written. -/
def Fr (D : List Nat) (tm tm' : Tm) : Prop := tm'.n = tm.n ∧ ∀ i, i < tm.n → i ∉ D → getT tm' i = getT tm i

theorem Fr.refl (D : List Nat) (tm : Tm) : Fr D tm tm := ⟨rfl, fun _ _ _ => rfl⟩

theorem Fr.trans {D : List Nat} {a b c : Tm} (h : Fr D a b) (h' : Fr D b c) : Fr D a c :=
  ⟨h'.1.trans h.1, fun i hi hd => (h'.2 i (by rw [h.1]; exact hi) hd).trans (h.2 i hi hd)⟩

theorem Fr.set {D : List Nat} {tm : Tm} (hn : tm.n ≤ 4000) {d : Nat} (hd : d ∈ D) (v : AV) : Fr D tm (setT tm d v) :=
  ⟨setT_n tm d v, fun i hi hni => by rw [getT_setT hn hi, if_neg (by rintro rfl; exact hni hd)]⟩

theorem Fr.put {D : List Nat} {tm : Tm} (hn : tm.n ≤ 4000) {d : Option Tmp} (hd : ∀ i, d = some i → i ∈ D) (v : AV) : Fr D tm (putT tm d v) := by
  cases d with
  | none => exact Fr.refl D tm
  | some d => exact Fr.set hn (hd d rfl) v

theorem Fr.mono {D D' : List Nat} {a b : Tm} (h : Fr D a b) (hd : ∀ i ∈ D, i ∈ D') : Fr D' a b :=
  ⟨h.1, fun i hi hn => h.2 i hi fun hm => hn (hd i hm)⟩

theorem dstOf_mem {D : List Nat} : ∀ {ops : List Oper} {j : Nat} {d : Tmp}, (∀ o ∈ ops, ∀ i, o.dst = some i → i ∈ D) → dstOf ops j = some d → d ∈ D
  | o :: l, 0, d, h, e => h o (by simp) d e
  | o :: l, j + 1, d, h, e => dstOf_mem (ops := l) (fun o ho => h o (by simp [ho])) e

theorem listK_det {D : List Nat} {ops : List Oper} (hD : ∀ o ∈ ops, ∀ i, o.dst = some i → i ∈ D) : ∀ (rest : List Oper) (tm : Tm) (orc : List Sg) (K : Tm → List Blk → List Sg → Prop), tm.n ≤ 4000 →
    (∀ o ∈ rest, quietOp o = true ∧ ∀ i, o.dst = some i → i ∈ D) → listK P T F.quiet ops rest tm hp orc K → ∃ tm' orc', K tm' hp orc' ∧ Fr D tm tm' ∧ ∀ K' : Tm → List Blk → List Sg → Prop, K' tm' hp orc' → listK P T F.quiet ops rest tm hp orc K'
  | [], tm, orc, K, _, _, h => ⟨tm, orc, h, Fr.refl D tm, fun K' hk => hk⟩
  | o :: rest, tm, orc, K, hn, hr, h => by
    obtain ⟨hq, hd⟩ := hr o (by simp)
    have hr' : ∀ o ∈ rest, quietOp o = true ∧ ∀ i, o.dst = some i → i ∈ D := fun o ho => hr o (by simp [ho])
    have wanted : ∀ (tm : Tm) (orc : List Sg), tm.n ≤ 4000 → stepK P T F.quiet o tm hp (fun v hp' => fixA o v orc fun v orc => listK P T F.quiet ops rest (putT tm o.dst v) hp' orc K) →
        ∃ tm' orc', K tm' hp orc' ∧ Fr D tm tm' ∧ ∀ K' : Tm → List Blk → List Sg → Prop, K' tm' hp orc' → stepK P T F.quiet o tm hp (fun v hp' => fixA o v orc fun v orc => listK P T F.quiet ops rest (putT tm o.dst v) hp' orc K') := fun tm orc hn h => by
      obtain ⟨v0, h1, h2⟩ := stepK_det hq h
      obtain ⟨v, orc1, h6, h7⟩ := fixA_det h1
      have hf := Fr.put hn hd v
      obtain ⟨tm', orc', h3, h4, h5⟩ := listK_det hD rest _ orc1 K (by rw [hf.1]; exact hn) hr' h6
      exact ⟨tm', orc', h3, hf.trans h4, fun K' hk => h2 _ (h7 _ (h5 K' hk))⟩
    have skipped : ∀ (tm : Tm) (orc : List Sg), tm.n ≤ 4000 → listK P T F.quiet ops rest (putT tm o.dst .undef) hp orc K →
        ∃ tm' orc', K tm' hp orc' ∧ Fr D tm tm' ∧ ∀ K' : Tm → List Blk → List Sg → Prop, K' tm' hp orc' → listK P T F.quiet ops rest (putT tm o.dst .undef) hp orc K' := fun tm orc hn h => by
      have hf := Fr.put hn hd .undef
      obtain ⟨tm', orc', h3, h4, h5⟩ := listK_det hD rest _ orc K (by rw [hf.1]; exact hn) hr' h
      exact ⟨tm', orc', h3, hf.trans h4, h5⟩
    simp only [listK] at h ⊢
    cases hg : o.guard with
    | none =>
      simp only [hg] at h ⊢
      exact wanted tm orc hn h
    | some jw =>
      obtain ⟨j, want⟩ := jw
      simp only [hg] at h ⊢
      cases hdo : dstOf ops j with
      | none => simp only [hdo] at h
      | some d =>
        simp only [hdo] at h ⊢
        have hdm : d ∈ D := dstOf_mem hD hdo
        split at h
        · rename_i b st hv
          split at h
          · split at h
            · exact wanted tm orc hn h
            · exact skipped tm orc hn h
          · obtain ⟨orc1, h1, h2⟩ := guess_det h
            have hf := Fr.set (tm := tm) hn hdm (.one (.sc (.bool b) true))
            have hn' : (setT tm d (.one (.sc (.bool b) true))).n ≤ 4000 := by rw [setT_n]; exact hn
            cases hbw : b == want with
            | true =>
              simp only [hbw] at h1
              obtain ⟨tm', orc', h3, h4, h5⟩ := wanted _ orc1 hn' h1
              refine ⟨tm', orc', h3, hf.trans h4, fun K' hk => h2 _ ?_⟩
              simp only [hbw]
              exact h5 K' hk
            | false =>
              simp only [hbw] at h1
              obtain ⟨tm', orc', h3, h4, h5⟩ := skipped _ orc1 hn' h1
              refine ⟨tm', orc', h3, hf.trans h4, fun K' hk => h2 _ ?_⟩
              simp only [hbw]
              exact h5 K' hk
        · exact skipped tm orc hn h
        · exact h.elim

theorem dstsL_mem : ∀ (ops : List Oper) (l : List Nat), (∀ o ∈ ops, ∀ i, o.dst = some i → i ∈ dstsL ops l) ∧ ∀ i ∈ l, i ∈ dstsL ops l
  | [], l => ⟨by simp, fun i hi => hi⟩
  | o :: ops, l => by
    obtain ⟨h1, h2⟩ := dstsL_mem ops l
    simp only [dstsL]
    cases ho : o.dst with
    | none =>
      refine ⟨fun x hx i hi => ?_, h2⟩
      rcases List.mem_cons.1 hx with rfl | hx
      · rw [ho] at hi; cases hi
      · exact h1 x hx i hi
    | some d =>
      refine ⟨fun x hx i hi => ?_, fun i hi => List.mem_cons_of_mem _ (h2 i hi)⟩
      rcases List.mem_cons.1 hx with rfl | hx
      · rw [ho] at hi; cases hi; simp
      · exact List.mem_cons_of_mem _ (h1 x hx i hi)

theorem dstsC_sub : ∀ (c : Code) (l : List Nat), ∀ i ∈ l, i ∈ dstsC c l := by
  intro c
  induction c with
  | seq a b ha hb => intro l i hi; exact ha _ i (hb l i hi)
  | cond c a b ha hb => intro l i hi; exact ha _ i (hb l i hi)
  | region id ops d => intro l i hi; exact (dstsL_mem ops.toList l).2 i hi
  | _ => intro l i hi; exact hi

theorem dstsC_mono : ∀ (c : Code) (l l' : List Nat), (∀ i ∈ l, i ∈ l') → ∀ i ∈ dstsC c l, i ∈ dstsC c l' := by
  intro c
  induction c with
  | seq a b ha hb => intro l l' h; exact ha _ _ (hb l l' h)
  | cond c a b ha hb => intro l l' h; exact ha _ _ (hb l l' h)
  | region id ops d =>
    intro l l' h
    show ∀ i ∈ dstsL ops.toList l, i ∈ dstsL ops.toList l'
    generalize ops.toList = os
    induction os with
    | nil => exact h
    | cons o os ih =>
      intro i hi
      simp only [dstsL] at hi ⊢
      split at hi
      · rcases List.mem_cons.1 hi with rfl | hi
        · simp
        · exact List.mem_cons_of_mem _ (ih i hi)
      · exact ih i hi
  | _ => intro l l' h; exact h

theorem mergeTm_n (t : Bool) (a b : Tm) : ∀ l : List Nat, (mergeTm t l a b).n = b.n
  | [] => rfl
  | d :: l => by simp only [mergeTm, setT_n]; exact mergeTm_n t a b l

theorem getT_merge (t : Bool) {a b : Tm} (hn : b.n ≤ 4000) {i : Nat} (hi : i < b.n) : ∀ l : List Nat, getT (mergeTm t l a b) i = if i ∈ l then mergeA t (getT a i) (getT b i) else getT b i
  | [] => by simp [mergeTm]
  | d :: l => by
    simp only [mergeTm]
    rw [getT_setT (by rw [mergeTm_n]; exact hn) (by rw [mergeTm_n]; exact hi)]
    by_cases hd : d = i
    · subst hd; simp
    · rw [if_neg hd, getT_merge t hn hi l]
      have : (i ∈ d :: l) ↔ i ∈ l := by simp [Ne.symm hd]
      simp only [this]

theorem code_det : ∀ (n : Nat) (c : Code) (D : List Nat) (F : Fns) (tm : Tm) (orc : List Sg) (K : Ex → Tm → List Blk → List Sg → Prop), tm.n ≤ 4000 → quietC c = true → (∀ i ∈ dstsC c [], i ∈ D) →
    codeK P T F.quiet n c tm hp orc K → ∃ tm' orc', K .normal tm' hp orc' ∧ Fr D tm tm' ∧ ∀ K' : Ex → Tm → List Blk → List Sg → Prop, K' .normal tm' hp orc' → codeK P T F.quiet n c tm hp orc K' := by
  intro n
  induction n with
  | zero => intro c D F tm orc K hn hq hD h; exact h.elim
  | succ n ih =>
    intro c D F tm orc K hn hq hD h
    cases c with
    | skip => exact ⟨tm, orc, by simpa only [codeK] using h, Fr.refl D tm, fun K' hk => by simpa only [codeK] using hk⟩
    | region id ops draw =>
      have hops : ∀ o ∈ ops.toList, quietOp o = true ∧ ∀ i, o.dst = some i → i ∈ D := fun o ho => ⟨List.all_eq_true.1 hq o ho, fun i hi => hD i ((dstsL_mem ops.toList []).1 o ho i hi)⟩
      have hdst := fun o ho => (hops o ho).2
      simp only [codeK] at h ⊢
      cases draw with
      | false =>
        obtain ⟨tm', orc', h1, h2, h3⟩ := listK_det hdst _ tm orc _ hn hops h
        exact ⟨tm', orc', h1, h2, fun K' hk => h3 (K' .normal) hk⟩
      | true =>
        simp only at h ⊢
        split at h
        · obtain ⟨tm', orc', h1, h2, h3⟩ := listK_det hdst _ tm orc _ hn hops h
          exact ⟨tm', orc', h1, h2, fun K' hk => h3 (K' .normal) hk⟩
        · exact h.elim
    | seq x y =>
      simp only [quietC, Bool.and_eq_true] at hq
      simp only [codeK] at h ⊢
      obtain ⟨tm1, orc1, h1, f1, b1⟩ := ih x D F tm orc _ hn hq.1 (fun i hi => hD i (dstsC_mono x _ _ (by simp) i hi)) h
      obtain ⟨tm2, orc2, h2, f2, b2⟩ := ih y D F tm1 orc1 K (by rw [f1.1]; exact hn) hq.2 (fun i hi => hD i (dstsC_sub x _ i hi)) h1
      exact ⟨tm2, orc2, h2, f1.trans f2, fun K' hk => b1 _ (b2 K' hk)⟩
    | cond c x y =>
      simp only [quietC, Bool.and_eq_true] at hq
      have hDx : ∀ i ∈ dstsC x [], i ∈ D := fun i hi => hD i (dstsC_mono x _ _ (by simp) i hi)
      have hDy : ∀ i ∈ dstsC y [], i ∈ D := fun i hi => hD i (dstsC_sub x _ i hi)
      simp only [codeK] at h ⊢
      split at h
      · rename_i t st e
        split at h
        · split at h
          · exact ih x D F tm orc K hn hq.1 hDx h
          · exact ih y D F tm orc K hn hq.2 hDy h
        · split at h
          · rename_i hm
            obtain ⟨tmA, oA, hA, fA, bA⟩ := ih x D F.quiet tm [] _ hn hq.1 hDx h
            obtain ⟨tmB, oB, hB, fB, bB⟩ := ih y D F.quiet tm [] _ hn hq.2 hDy hA
            refine ⟨_, _, hB, ⟨by rw [mergeTm_n]; exact fB.1, fun i hi hni => ?_⟩, fun K' hk => bA _ (bB _ hk)⟩
            rw [getT_merge t (by rw [fB.1]; exact hn) (by rw [fB.1]; exact hi), if_neg (show ¬ i ∈ dstsC x (dstsC y []) from fun hm => hni (hD i hm)), fB.2 i hi hni]
          · obtain ⟨orc1, h1, h2⟩ := guess_det h
            cases t with
            | true =>
              obtain ⟨tm', orc', h3, h4, h5⟩ := ih x D F tm orc1 K hn hq.1 hDx h1
              exact ⟨tm', orc', h3, h4, fun K' hk => h2 _ (h5 K' hk)⟩
            | false =>
              obtain ⟨tm', orc', h3, h4, h5⟩ := ih y D F tm orc1 K hn hq.2 hDy h1
              exact ⟨tm', orc', h3, h4, fun K' hk => h2 _ (h5 K' hk)⟩
      · exact h.elim
    | _ => simp [quietC] at hq

theorem mergeA_RV {E : Env} {t : Bool} {x y : AV} {u : Value} (h : RV E (bif t then x else y) u) : RV E (mergeA t x y) u := by
  unfold mergeA
  split
  · split
    · rename_i hk
      cases t with
      | true => exact h
      | false => subst hk; exact h
    · trivial
  · cases t <;> exact h
  · split
    · rename_i hk
      cases t with
      | true => exact h
      | false => subst hk; exact h
    · trivial
  · trivial

theorem RT.mergeB {E : Env} {a b : Tm} {tmps : Array Value} (h : RT E b tmps) (l : List Nat) : RT E (mergeTm false l a b) tmps := by
  refine ⟨by rw [mergeTm_n]; exact h.1, by rw [mergeTm_n]; exact h.2.1, fun i hi => ?_⟩
  rw [mergeTm_n] at hi
  rw [getT_merge false h.2.1 hi]
  split
  · exact mergeA_RV (t := false) (h.2.2 i hi)
  · exact h.2.2 i hi

theorem RT.mergeA {E : Env} {tm a b : Tm} {tmps : Array Value} {l : List Nat} (h : RT E a tmps) (ha : Fr l tm a) (hb : Fr l tm b) : RT E (mergeTm true l a b) tmps := by
  have hn : b.n = a.n := by rw [hb.1, ha.1]
  refine ⟨by rw [mergeTm_n, hn]; exact h.1, by rw [mergeTm_n, hn]; exact h.2.1, fun i hi => ?_⟩
  rw [mergeTm_n, hn] at hi
  rw [getT_merge true (by rw [hn]; exact h.2.1) (by rw [hn]; exact hi)]
  split
  · exact mergeA_RV (t := true) (h.2.2 i hi)
  · rename_i hni
    have hit : i < tm.n := by rw [← ha.1]; exact hi
    rw [hb.2 i hit hni, ← ha.2 i hit hni]
    exact h.2.2 i hi
end det
end Sm
