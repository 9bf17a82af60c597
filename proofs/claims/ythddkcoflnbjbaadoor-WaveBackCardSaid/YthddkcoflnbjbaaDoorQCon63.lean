/-
  What is proved here: the tables for the whole runs of WaveForward and WaveBack. A text to be imported.
-/
import Derived.Test.YthddkcoflnbjbaaDoorQCon62
namespace Sm
open Go Go.RowKit
theorem loopC_ok {P : Program} {c : Code} {tn : Nat} {l0 lf : List (Nat × AV)} {hp0 hpf : List Blk} {x : Ex} (h : LoopOk P c (tmL tn l0) hp0 x (tmL tn lf) hpf) (tm : Tm) (hp : List Blk) (p : Prop) (x' : Ex) (tm' : Tm) (hp' : List Blk)
    (hg : loopC tn l0 hp0 True x lf hpf tm hp = some (p, x', tm', hp')) (hp1 : p) : LoopOk P c tm hp x' tm' hp' := by
  unfold loopC at hg
  simp only [Option.some.injEq, Prod.mk.injEq] at hg
  obtain ⟨rfl, rfl, rfl, rfl⟩ := hg
  obtain ⟨⟨h1, h2, h3⟩, _⟩ := hp1
  intro B w0 E ac w Q hh ht hQ
  have h5 := startBs_get h3
  refine h B w0 E ac w Q (hh.weaken h5.1 fun i b' hi hl => ?_) (h1 ▸ ht.start' l0 (startVs_of h2)) hQ
  obtain ⟨b, g1, g2⟩ := h5.2 i b' hi
  rcases g2 with g2 | ⟨g2, g3, g4, g5⟩
  · rw [g2] at hl; cases hl
  · exact ⟨b, g1, g2, g3, fun hr => by rw [g4]; exact hr, fun vs hr => g5 _ vs hr⟩
theorem growC_ok {P : Program} {c : Code} {a tn : Nat} {l0 lf : List (Nat × AV)} {hp0 hpf : List Blk} {x : Ex} (hlen : hp0.length = a) (h : LoopOkB P a c (tmL tn l0) (hp0 ++ [deadB]) x (tmL tn lf) hpf) (tm : Tm) (hp : List Blk) (p : Prop) (x' : Ex) (tm' : Tm) (hp' : List Blk)
    (hg : loopC tn l0 hp0 True x lf hpf tm hp = some (p, x', tm', hp')) (hp1 : p) : LoopOk P c tm hp x' tm' hp' := by
  unfold loopC at hg
  simp only [Option.some.injEq, Prod.mk.injEq] at hg
  obtain ⟨rfl, rfl, rfl, rfl⟩ := hg
  obtain ⟨⟨h1, h2, h3⟩, hq⟩ := hp1
  have h4 := (startBs_get h3).1
  exact grow_enter (by rw [← h4]; exact hlen) h1 (startVs_of h2) h3 rfl h
end Sm
namespace Go.Proofs.YthddkcoflnbjbaaDoor
open Sm Go Go.RowKit Fl Ieee
set_option maxRecDepth 1000000
set_option linter.unusedVariables false
def byPl (ks : List Nat) (G G' : List AV → Option (Prop × AV × Blk)) (k : Nat) : List AV → Option (Prop × AV × Blk) := bif ks.any (Nat.beq k) then G else G'
theorem byPl_ok {f : FuncId} {G G' : List AV → Option (Prop × AV × Blk)} {ks : List Nat} (h : GCon Tryd.prog f G) (h' : GCon Tryd.prog f G') (k : Nat) : GCon Tryd.prog f (byPl ks G G' k) := by
  unfold byPl
  cases ks.any (Nat.beq k) with
  | true => exact h
  | false => exact h'
def GBackL : List AV → Option (Prop × AV × Blk)
  | [.one (.lst n N 1 f)] => some (n ≤ N ∧ (∀ k, k < n → f k = fX (ofC f) k) ∧ okBk n (ofC f), two 0 n 0, bY n (bckY n (ofC f)))
  | _ => none
theorem gcon21L : GCon Tryd.prog 21 GBackL := by
  refine gcon_less gcon21 fun args p v b h hp => ?_
  unfold GBackL at h
  split at h
  · rename_i n N f
    simp only [Option.some.injEq, Prod.mk.injEq] at h
    obtain ⟨rfl, rfl, rfl⟩ := h
    obtain ⟨hnN, hf, hok⟩ := hp
    refine ⟨[xL n (ofC f)], _, rfl, ⟨⟨rfl, fun k => rfl⟩, hok⟩, fun E us hr => ?_⟩
    obtain ⟨u, us, rfl, h1, h2⟩ := hr.cons
    exact .mk (lst_less (Nat.le_refl _) hnN hf h1) h2
  · cases h
def atB : List Blk → Nat → Blk
  | [], _ => deadB
  | b :: _, 0 => b
  | _ :: l, i + 1 => atB l i
def dB (c : List C1) : Blk := { gotB c with live := false }
def dd9 : List Blk := [deadB, deadB, deadB, deadB, deadB, deadB, deadB, deadB, deadB]
def HB (b1 b2 b3 b4 : Blk) (c1 c2 c3 c4 : C1) (t : List Blk) : List Blk :=
  dd9 ++ (b1 :: gotB [c1] :: dB [c1] :: b2 :: gotB [c2] :: dB [c1, c2] :: b3 :: gotB [c3] :: dB [c1, c2, c3] :: b4 :: gotB [c4] :: gotB [c1, c2, c3, c4] :: deadB :: deadB :: t)
def T1 (g1 : Blk) (d1 : C1) : List Blk := [g1, gotB [d1], gotB [d1]]
def T2 (g1 g2 : Blk) (d1 d2 : C1) : List Blk := [g1, gotB [d1], dB [d1], g2, gotB [d2], gotB [d1, d2]]
def T3 (g1 g2 g3 : Blk) (d1 d2 d3 : C1) : List Blk := [g1, gotB [d1], dB [d1], g2, gotB [d2], dB [d1, d2], g3, gotB [d3], gotB [d1, d2, d3]]
def T4 (g1 g2 g3 g4 : Blk) (d1 d2 d3 d4 : C1) : List Blk := [g1, gotB [d1], dB [d1], g2, gotB [d2], dB [d1, d2], g3, gotB [d3], dB [d1, d2, d3], g4, gotB [d4], gotB [d1, d2, d3, d4]]
def stt2 (tn : Nat) (L L' : List AV) (h h' : List Blk) : Prop := (tn = tn ∧ startLs L L' ∧ startBs h h') ∧ True
theorem stt2_ok {tn : Nat} {L L' : List AV} {h h' g : List Blk} (hL : startLs L L') (e : h = g) (e' : h' = g) : stt2 tn L L' h h' := ⟨⟨rfl, hL, by rw [e, e']; exact startBs.refl _⟩, trivial⟩
def nearSel (C9 C12 C15 C18 : Tm → List Blk → Option (Prop × Ex × Tm × List Blk)) (tm : Tm) (hp : List Blk) : Option (Prop × Ex × Tm × List Blk) :=
  match getT tm 0 with
  | .one (.sl j _ _ _) => bif Nat.beq j 9 then C9 tm hp else bif Nat.beq j 12 then C12 tm hp else bif Nat.beq j 15 then C15 tm hp else bif Nat.beq j 18 then C18 tm hp else none
  | _ => none
def noLp (tm : Tm) (hp : List Blk) : Option (Prop × Ex × Tm × List Blk) := none
def lpOk (c : Code) (C : Tm → List Blk → Option (Prop × Ex × Tm × List Blk)) : Prop := ∀ (tm : Tm) (hp : List Blk) (p : Prop) (x' : Ex) (tm' : Tm) (hp' : List Blk), C tm hp = some (p, x', tm', hp') → p → LoopOk Tryd.prog c tm hp x' tm' hp'
theorem noLp_ok {c : Code} : lpOk c noLp := fun _ _ _ _ _ _ h => by cases h
theorem nearSel_ok {c : Code} {C9 C12 C15 C18 : Tm → List Blk → Option (Prop × Ex × Tm × List Blk)} (h9 : lpOk c C9) (h12 : lpOk c C12) (h15 : lpOk c C15) (h18 : lpOk c C18) : lpOk c (nearSel C9 C12 C15 C18) := by
  intro tm hp p x' tm' hp' h
  unfold nearSel at h
  split at h
  · rename_i j _ _ _ _
    cases e9 : Nat.beq j 9 with
    | true => rw [e9] at h; exact h9 _ _ _ _ _ _ h
    | false =>
      rw [e9] at h
      cases e12 : Nat.beq j 12 with
      | true => rw [e12] at h; exact h12 _ _ _ _ _ _ h
      | false =>
        rw [e12] at h
        cases e15 : Nat.beq j 15 with
        | true => rw [e15] at h; exact h15 _ _ _ _ _ _ h
        | false =>
          rw [e15] at h
          cases e18 : Nat.beq j 18 with
          | true => rw [e18] at h; exact h18 _ _ _ _ _ _ h
          | false => rw [e18] at h; cases h
  · cases h
def nearH (j n : Nat) (z : Nat → Nat × Nat) (h : List Blk) : List Blk := h44 j n z (atB h) fun i => atB h (j + 1 + i)
def nearC (j n : Nat) (z r : Nat → Nat × Nat) (b : Nat) (h : List Blk) : Tm → List Blk → Option (Prop × Ex × Tm × List Blk) := loopC 47 (l44 j n r b 0) (nearH j n z h) True (.exit 0) [] (nearH j n z h)
def coTwo (s28 s45 : List Sg) : FuncId → Option (List Sg)
  | 28 => some s28
  | 44 => some [.b false, .l 5]
  | 45 => some s45
  | _ => none
/-! the words -/
def wX (x : Nat → Nat × Nat) : Nat → Nat × Nat := wd2 (pF x)
def cX (n : Nat) (x : Nat → Nat × Nat) : Nat → Nat × Nat := ofC (fX (pC n (wX x)))
def zeF (n : Nat) (x : Nat → Nat × Nat) : Nat → Nat × Nat := trY 1 n.log2 (cX n x)
def zeB (n : Nat) (x : Nat → Nat × Nat) : Nat → Nat × Nat := bckY n (cX n x)
def rF (n : Nat) (x : Nat → Nat × Nat) : Nat → Nat × Nat := smL n (wX x) (twP 1 n)
def rB (n : Nat) (x : Nat → Nat × Nat) : Nat → Nat × Nat := wBk n (pF x)
def bW (n : Nat) (x : Nat → Nat × Nat) : Nat := fbin .mul .f64 4476910133257361045 (fbin .add .f64 4607182418800017408 (smC (wX x) n))
/-! what is asked -/
def sizeOk (n : Nat) : Prop := n * 16 ≤ 140737488351232
def pList (n : Nat) (x : Nat → Nat × Nat) : Prop := (True ∧ True) ∧ n ≤ n ∧ (n + 12) * 16 ≤ 140737488355328 ∧ ∀ k, k < n → pF x k = pF (wX x) k
theorem pList_ok {n : Nat} {x : Nat → Nat × Nat} (h : sizeOk n) : pList n x := by
  unfold sizeOk at h
  exact ⟨⟨trivial, trivial⟩, Nat.le_refl _, by omega, fun k _ => rfl⟩
def pWtT (n : Nat) (x : Nat → Nat × Nat) : Prop := (True ∧ True) ∧ tmC (wX x) n = true ∧ n ≤ 17592186044416 ∧ n ≤ n ∧ (∀ k, k < n → pF x k = pF (wX x) k) ∧ okWt n (wX x)
theorem pWtT_ok {n : Nat} {x : Nat → Nat × Nat} (h : sizeOk n) (ht : tmC x n = true) (hw : okWt n x) : pWtT n x := by
  unfold sizeOk at h
  exact ⟨⟨trivial, trivial⟩, ht, by omega, Nat.le_refl _, fun k _ => rfl, hw⟩
def pWtG (g : Bool) (n : Nat) (x : Nat → Nat × Nat) : Prop := (True ∧ True) ∧ tmC (wX x) n = g ∧ n ≤ 17592186044416 ∧ n ≤ n ∧ ∀ k, k < n → pF x k = pF (wX x) k
theorem pWtG_ok {g : Bool} {n : Nat} {x : Nat → Nat × Nat} (h : sizeOk n) (ht : tmC x n = g) : pWtG g n x := by
  unfold sizeOk at h
  exact ⟨⟨trivial, trivial⟩, ht, by omega, Nat.le_refl _, fun k _ => rfl⟩
def pNo (n : Nat) : Prop := (True ∧ True) ∧ fitB n = false
theorem pNo_ok {n : Nat} (h : fitB n = false) : pNo n := ⟨⟨trivial, trivial⟩, h⟩
theorem isP_ok {n : Nat} {x : Nat → Nat × Nat} (h : fitB n = true) : isP n n (pF x) := ⟨(fit_le h).1, Nat.le_refl _, fun k _ => rfl⟩
def pFitL (n : Nat) (x : Nat → Nat × Nat) : Prop := (True ∧ True) ∧ fitB n = true ∧ isP n n (pF x)
theorem pFitL_ok {n : Nat} {x : Nat → Nat × Nat} (h : fitB n = true) : pFitL n x := ⟨⟨trivial, trivial⟩, h, isP_ok h⟩
def pBkT (n : Nat) (x : Nat → Nat × Nat) : Prop := (True ∧ True) ∧ fitB n = true ∧ isP n n (pF x) ∧ okSm n (wX x) (twP (-1) n) ∧ okQ n (smL n (wX x) (twP (-1) n))
theorem pBkT_ok {n : Nat} {x : Nat → Nat × Nat} (h : fitB n = true) (h2 : okSm n x (twP (-1) n)) (h3 : okQ n (smL n x (twP (-1) n))) : pBkT n x := ⟨⟨trivial, trivial⟩, h, isP_ok h, h2, h3⟩
def pTrF (n : Nat) (x : Nat → Nat × Nat) : Prop := (True ∧ True) ∧ okP 1 n (n + 12) (fX (pC n (wX x)))
def pTrB (n : Nat) (x : Nat → Nat × Nat) : Prop := (True ∧ True) ∧ n ≤ n + 12 ∧ (∀ k, k < n → fX (pC n (wX x)) k = fX (cX n x) k) ∧ okBk n (cX n x)
theorem pTrB_ok {n : Nat} {x : Nat → Nat × Nat} (h : okBk n (pC n x)) : pTrB n x := ⟨⟨trivial, trivial⟩, by omega, fun k _ => rfl, h⟩
def pTrU (w : Int) (n : Nat) (x : Nat → Nat × Nat) : Prop := (True ∧ True) ∧ okTK w n (n + 12) (fX (pC n (wX x)))
theorem pTrU_ok {w : Int} {n : Nat} {x : Nat → Nat × Nat} (hw : w = 1 ∨ w = -1) (h : fitB n = true) : pTrU w n x := ⟨⟨trivial, trivial⟩, fit_is h, hw, by omega, fun k _ => rfl⟩
def pNe (n : Nat) : Prop := ((n : Int) != n) = false
theorem pNe_ok (n : Nat) : pNe n := by unfold pNe; simp
def pKp (n : Nat) (x : Nat → Nat × Nat) : Prop := (True ∧ True ∧ True) ∧ n = n ∧ n + 12 = n + 12 ∧ n ≤ n ∧ n ≤ 17592186044416 ∧ (∀ k, k < n + 12 → fX (pC n (wX x)) k = fX (pC n (wX x)) k) ∧ ∀ k, k < n → pF x k = pF (wX x) k
theorem pKp_ok {n : Nat} {x : Nat → Nat × Nat} (h : sizeOk n) : pKp n x := by
  unfold sizeOk at h
  exact ⟨⟨trivial, trivial, trivial⟩, rfl, rfl, Nat.le_refl _, by omega, fun k _ => rfl, fun k _ => rfl⟩
def pB1 (n : Nat) (x : Nat → Nat × Nat) : Prop := fok .add .f64 4607182418800017408 (smC (wX x) n) = true
def pB2 (n : Nat) (x : Nat → Nat × Nat) : Prop := fok .mul .f64 4476910133257361045 (fbin .add .f64 4607182418800017408 (smC (wX x) n)) = true
/-! the frames of the appends -/
def allOk (a : Nat) : List Blk → Prop
  | [] => True
  | b :: l => (∀ z hp, renB a z [] hp b b) ∧ allOk a l
theorem allOk_ren {a : Nat} : ∀ {l : List Blk}, allOk a l → ∀ z hp, renBs a z [] hp l l
  | [], _, _, _ => trivial
  | _ :: _, h, z, hp => ⟨h.1 z hp, allOk_ren h.2 z hp⟩
theorem frameR {a : Nat} {X Y h : List Blk} (e1 : X = h) (e2 : Y = h) (hh : allOk a h) (z : Nat) (hp : List Blk) : renBs a z [] hp X Y := by rw [e1, e2]; exact allOk_ren hh z hp
theorem okD {a : Nat} (z : Nat) (hp : List Blk) : renB a z [] hp deadB deadB := .inl rfl
theorem okDL {a : Nat} {c : List C1} (z : Nat) (hp : List Blk) : renB a z [] hp (dB c) (dB c) := .inl rfl
theorem okSW {a n : Nat} {q : Nat → Nat × Nat} (z : Nat) (hp : List Blk) : renB a z [] hp (syW n q) (syW n q) := .inr ⟨rfl, rfl, rfl, rfl, fun j hj => renC_S rfl⟩
theorem okSL {a n : Nat} {q : Nat → Nat × Nat} (z : Nat) (hp : List Blk) : renB a z [] hp (syL n q) (syL n q) := .inr ⟨rfl, rfl, rfl, rfl, fun j hj => renC_S rfl⟩
theorem okG {a : Nat} {c : List C1} (h : ∀ z hp, renCs a z [] hp c c) (z : Nat) (hp : List Blk) : renB a z [] hp (gotB c) (gotB c) := .inr ⟨rfl, rfl, rfl, h z hp⟩
def GA0 (n : Nat) (Z : Nat → C1) (h : List Blk) (a b c : C1) : List Blk := hpG 9 n Z (atB h) (fun t => atB h (10 + t)) (fun t => atB h (21 + t)) (gotC0 n a b c)
def LA0 (n : Nat) (Z : Nat → C1) (h : List Blk) (a b c : C1) : Tm → List Blk → Option (Prop × Ex × Tm × List Blk) := loopC 131 (l45a 0 0) (GA0 n Z h a b c) True (.exit 2) [(0, gotA), (3, ic 0)] (hpW 9 n (fun _ => (0, oneW)) (atB h) (fun t => atB h (10 + t)) (fun t => atB h (21 + t)) (gotC0 n a b c))
theorem LA0_ok {n : Nat} {Z : Nat → C1} {h : List Blk} {a b c : C1} (hn : n ≤ 4096) : lpOk c45a (LA0 n Z h a b c) := loopC_ok (loop45a_0 hn)
theorem near9_ok {n b : Nat} {z r : Nat → Nat × Nat} {h : List Blk} (hn : n ≤ 4096) (hok : ∀ i, i < n → okN1 (z i) (r i) b) : lpOk c44 (nearC 9 n z r b h) := loopC_ok (loop44_9 hn hok)
def LB0 (n : Nat) (h : List Blk) : Tm → List Blk → Option (Prop × Ex × Tm × List Blk) := loopC 131 (l45b (.one nilC) 0 9 n 0) (hb0 23 9 n (fun _ => (0, oneW)) (atB h) fun t => atB h (10 + t)) True (.exit 6) [(0, gotA), (5, (.one nilC)), (6, ic 0), (7, .one (.sl 23 0 (n + 20) 1))] (hv 23 (atB h) ++ [syL (n + 20) (lgW n 0)])
theorem LB0_ok {n : Nat} {h : List Blk} (hn : n ≤ 4096) (e1 : (hb0 23 9 n (fun _ => (0, oneW)) (atB h) fun t => atB h (10 + t)) = h) (e2 : hv 23 (atB h) = h) (hh : allOk 23 h) : lpOk c45b (LB0 n h) :=
  growC_ok (a := 23) (by simp [hb0, hv]) (loop45b_0 hn (fun _ _ => rfl) (fun z hp => frameR e1 e2 hh z hp) (fun z hp => frameR e2 e2 hh z hp))
def LN0 (h : List Blk) : Tm → List Blk → Option (Prop × Ex × Tm × List Blk) := loopC 131 (l45n (.one nilC) 0 0) (hv 23 (atB h)) True (.exit 6) [(0, gotA), (5, (.one nilC)), (6, ic 0), (7, .one (.sl 23 0 (0 + 20) 1))] (hv 23 (atB h) ++ [syL (0 + 20) (lgW 0 0)])
theorem LN0_ok {h : List Blk} (e2 : hv 23 (atB h) = h) (hh : allOk 23 h) : lpOk c45b (LN0 h) :=
  growC_ok (a := 23) (by simp [hv]) (loop45n_0 (fun _ _ => rfl) (fun z hp => frameR e2 e2 hh z hp) (fun z hp => frameR e2 e2 hh z hp))
def GC0 (n : Nat) (h : List Blk) (a b c d e f : C1) : List Blk := hc0 n (fun _ => (0, oneW)) (lgW n 0) (atB h) (fun t => atB h (10 + t)) (fun t => atB h (21 + t)) (fun t => atB h (24 + t)) (gotC0 n a b c) (gotD0 n d e f)
def LC0 (n : Nat) (h : List Blk) (a b c d e f : C1) : Tm → List Blk → Option (Prop × Ex × Tm × List Blk) := loopC 131 (l45c 0 0) (GC0 n h a b c d e f) True (.exit 10) [(0, gotA), (5, longA), (9, ic 0)] (GC0 n h a b c d e f)
theorem LC0_ok {n : Nat} {h : List Blk} {a b c d e f : C1} (hn : n ≤ 4096) : lpOk c45c (LC0 n h a b c d e f) := loopC_ok (loop45c_0 hn)
def GD0 (h : List Blk) (a b c d e f : C1) : List Blk := hcn0 (lgW 0 0) (atB h) (atB h) (fun t => atB h (21 + t)) (fun t => atB h (24 + t)) (gotN0 a b c) (gotD0 0 d e f)
def LD0 (h : List Blk) (a b c d e f : C1) : Tm → List Blk → Option (Prop × Ex × Tm × List Blk) := loopC 131 (l45c 0 0) (GD0 h a b c d e f) True (.exit 10) [(0, gotA), (5, longA), (9, ic 0)] (GD0 h a b c d e f)
theorem LD0_ok {h : List Blk} {a b c d e f : C1} : lpOk c45c (LD0 h a b c d e f) := loopC_ok loopn45c_0
def GA1 (n : Nat) (Z : Nat → C1) (h : List Blk) (a b c : C1) : List Blk := hpG 12 n Z (atB h) (fun t => atB h (13 + t)) (fun t => atB h (21 + t)) (gotC1 n a b c)
def LA1 (n : Nat) (Z : Nat → C1) (h : List Blk) (a b c : C1) : Tm → List Blk → Option (Prop × Ex × Tm × List Blk) := loopC 131 (l45a 1 0) (GA1 n Z h a b c) True (.exit 2) [(0, gotA), (3, ic 1)] (hpW 12 n (fun _ => (4607182418800017408, oneW)) (atB h) (fun t => atB h (13 + t)) (fun t => atB h (21 + t)) (gotC1 n a b c))
theorem LA1_ok {n : Nat} {Z : Nat → C1} {h : List Blk} {a b c : C1} (hn : n ≤ 4096) : lpOk c45a (LA1 n Z h a b c) := loopC_ok (loop45a_1 hn)
theorem near12_ok {n b : Nat} {z r : Nat → Nat × Nat} {h : List Blk} (hn : n ≤ 4096) (hok : ∀ i, i < n → okN1 (z i) (r i) b) : lpOk c44 (nearC 12 n z r b h) := loopC_ok (loop44_12 hn hok)
def LB1 (n : Nat) (h : List Blk) : Tm → List Blk → Option (Prop × Ex × Tm × List Blk) := loopC 131 (l45b (.one (.sl 25 0 1 1)) 1 12 n 0) (hb0 26 12 n (fun _ => (4607182418800017408, oneW)) (atB h) fun t => atB h (13 + t)) True (.exit 6) [(0, gotA), (5, (.one (.sl 25 0 1 1))), (6, ic 1), (7, .one (.sl 26 0 (n + 20) 1))] (hv 26 (atB h) ++ [syL (n + 20) (lgW n 4607182418800017408)])
theorem LB1_ok {n : Nat} {h : List Blk} (hn : n ≤ 4096) (e1 : (hb0 26 12 n (fun _ => (4607182418800017408, oneW)) (atB h) fun t => atB h (13 + t)) = h) (e2 : hv 26 (atB h) = h) (hh : allOk 26 h) : lpOk c45b (LB1 n h) :=
  growC_ok (a := 26) (by simp [hb0, hv]) (loop45b_1 hn (fun _ _ => ⟨rfl, rfl, rfl, rfl⟩) (fun z hp => frameR e1 e2 hh z hp) (fun z hp => frameR e2 e2 hh z hp))
def LN1 (h : List Blk) : Tm → List Blk → Option (Prop × Ex × Tm × List Blk) := loopC 131 (l45n (.one (.sl 25 0 1 1)) 1 0) (hv 26 (atB h)) True (.exit 6) [(0, gotA), (5, (.one (.sl 25 0 1 1))), (6, ic 1), (7, .one (.sl 26 0 (0 + 20) 1))] (hv 26 (atB h) ++ [syL (0 + 20) (lgW 0 4607182418800017408)])
theorem LN1_ok {h : List Blk} (e2 : hv 26 (atB h) = h) (hh : allOk 26 h) : lpOk c45b (LN1 h) :=
  growC_ok (a := 26) (by simp [hv]) (loop45n_1 (fun _ _ => ⟨rfl, rfl, rfl, rfl⟩) (fun z hp => frameR e2 e2 hh z hp) (fun z hp => frameR e2 e2 hh z hp))
def GC1 (n : Nat) (h : List Blk) (a b c d e f : C1) : List Blk := hc1 n (fun _ => (4607182418800017408, oneW)) (lgW n 4607182418800017408) (atB h) (fun t => atB h (13 + t)) (fun t => atB h (21 + t)) (fun t => atB h (27 + t)) (gotC1 n a b c) (gotD1 n d e f)
def LC1 (n : Nat) (h : List Blk) (a b c d e f : C1) : Tm → List Blk → Option (Prop × Ex × Tm × List Blk) := loopC 131 (l45c 1 0) (GC1 n h a b c d e f) True (.exit 10) [(0, gotA), (5, longA), (9, ic 1)] (GC1 n h a b c d e f)
theorem LC1_ok {n : Nat} {h : List Blk} {a b c d e f : C1} (hn : n ≤ 4096) : lpOk c45c (LC1 n h a b c d e f) := loopC_ok (loop45c_1 hn)
def GD1 (h : List Blk) (a b c d e f : C1) : List Blk := hcn1 (lgW 0 4607182418800017408) (atB h) (atB h) (fun t => atB h (21 + t)) (fun t => atB h (27 + t)) (gotN1 a b c) (gotD1 0 d e f)
def LD1 (h : List Blk) (a b c d e f : C1) : Tm → List Blk → Option (Prop × Ex × Tm × List Blk) := loopC 131 (l45c 1 0) (GD1 h a b c d e f) True (.exit 10) [(0, gotA), (5, longA), (9, ic 1)] (GD1 h a b c d e f)
theorem LD1_ok {h : List Blk} {a b c d e f : C1} : lpOk c45c (LD1 h a b c d e f) := loopC_ok loopn45c_1
def GA2 (n : Nat) (Z : Nat → C1) (h : List Blk) (a b c : C1) : List Blk := hpG 15 n Z (atB h) (fun t => atB h (16 + t)) (fun t => atB h (21 + t)) (gotC2 n a b c)
def LA2 (n : Nat) (Z : Nat → C1) (h : List Blk) (a b c : C1) : Tm → List Blk → Option (Prop × Ex × Tm × List Blk) := loopC 131 (l45a 2 0) (GA2 n Z h a b c) True (.exit 2) [(0, gotA), (3, ic 2)] (hpW 15 n (fun _ => (4611686018427387904, oneW)) (atB h) (fun t => atB h (16 + t)) (fun t => atB h (21 + t)) (gotC2 n a b c))
theorem LA2_ok {n : Nat} {Z : Nat → C1} {h : List Blk} {a b c : C1} (hn : n ≤ 4096) : lpOk c45a (LA2 n Z h a b c) := loopC_ok (loop45a_2 hn)
theorem near15_ok {n b : Nat} {z r : Nat → Nat × Nat} {h : List Blk} (hn : n ≤ 4096) (hok : ∀ i, i < n → okN1 (z i) (r i) b) : lpOk c44 (nearC 15 n z r b h) := loopC_ok (loop44_15 hn hok)
def LB2 (n : Nat) (h : List Blk) : Tm → List Blk → Option (Prop × Ex × Tm × List Blk) := loopC 131 (l45b (.one (.sl 28 0 2 1)) 2 15 n 0) (hb0 29 15 n (fun _ => (4611686018427387904, oneW)) (atB h) fun t => atB h (16 + t)) True (.exit 6) [(0, gotA), (5, (.one (.sl 28 0 2 1))), (6, ic 2), (7, .one (.sl 29 0 (n + 20) 1))] (hv 29 (atB h) ++ [syL (n + 20) (lgW n 4611686018427387904)])
theorem LB2_ok {n : Nat} {h : List Blk} (hn : n ≤ 4096) (e1 : (hb0 29 15 n (fun _ => (4611686018427387904, oneW)) (atB h) fun t => atB h (16 + t)) = h) (e2 : hv 29 (atB h) = h) (hh : allOk 29 h) : lpOk c45b (LB2 n h) :=
  growC_ok (a := 29) (by simp [hb0, hv]) (loop45b_2 hn (fun _ _ => ⟨rfl, rfl, rfl, rfl⟩) (fun z hp => frameR e1 e2 hh z hp) (fun z hp => frameR e2 e2 hh z hp))
def LN2 (h : List Blk) : Tm → List Blk → Option (Prop × Ex × Tm × List Blk) := loopC 131 (l45n (.one (.sl 28 0 2 1)) 2 0) (hv 29 (atB h)) True (.exit 6) [(0, gotA), (5, (.one (.sl 28 0 2 1))), (6, ic 2), (7, .one (.sl 29 0 (0 + 20) 1))] (hv 29 (atB h) ++ [syL (0 + 20) (lgW 0 4611686018427387904)])
theorem LN2_ok {h : List Blk} (e2 : hv 29 (atB h) = h) (hh : allOk 29 h) : lpOk c45b (LN2 h) :=
  growC_ok (a := 29) (by simp [hv]) (loop45n_2 (fun _ _ => ⟨rfl, rfl, rfl, rfl⟩) (fun z hp => frameR e2 e2 hh z hp) (fun z hp => frameR e2 e2 hh z hp))
def GC2 (n : Nat) (h : List Blk) (a b c d e f : C1) : List Blk := hc2 n (fun _ => (4611686018427387904, oneW)) (lgW n 4611686018427387904) (atB h) (fun t => atB h (16 + t)) (fun t => atB h (21 + t)) (fun t => atB h (30 + t)) (gotC2 n a b c) (gotD2 n d e f)
def LC2 (n : Nat) (h : List Blk) (a b c d e f : C1) : Tm → List Blk → Option (Prop × Ex × Tm × List Blk) := loopC 131 (l45c 2 0) (GC2 n h a b c d e f) True (.exit 10) [(0, gotA), (5, longA), (9, ic 2)] (GC2 n h a b c d e f)
theorem LC2_ok {n : Nat} {h : List Blk} {a b c d e f : C1} (hn : n ≤ 4096) : lpOk c45c (LC2 n h a b c d e f) := loopC_ok (loop45c_2 hn)
def GD2 (h : List Blk) (a b c d e f : C1) : List Blk := hcn2 (lgW 0 4611686018427387904) (atB h) (atB h) (fun t => atB h (21 + t)) (fun t => atB h (30 + t)) (gotN2 a b c) (gotD2 0 d e f)
def LD2 (h : List Blk) (a b c d e f : C1) : Tm → List Blk → Option (Prop × Ex × Tm × List Blk) := loopC 131 (l45c 2 0) (GD2 h a b c d e f) True (.exit 10) [(0, gotA), (5, longA), (9, ic 2)] (GD2 h a b c d e f)
theorem LD2_ok {h : List Blk} {a b c d e f : C1} : lpOk c45c (LD2 h a b c d e f) := loopC_ok loopn45c_2
def GA3 (n : Nat) (Z : Nat → C1) (h : List Blk) (a b c : C1) : List Blk := hpG 18 n Z (atB h) (fun t => atB h (19 + t)) (fun t => atB h (21 + t)) (gotC3 n a b c)
def LA3 (n : Nat) (Z : Nat → C1) (h : List Blk) (a b c : C1) : Tm → List Blk → Option (Prop × Ex × Tm × List Blk) := loopC 131 (l45a 3 0) (GA3 n Z h a b c) True (.exit 2) [(0, gotA), (3, ic 3)] (hpW 18 n (fun _ => (4613937818241073152, oneW)) (atB h) (fun t => atB h (19 + t)) (fun t => atB h (21 + t)) (gotC3 n a b c))
theorem LA3_ok {n : Nat} {Z : Nat → C1} {h : List Blk} {a b c : C1} (hn : n ≤ 4096) : lpOk c45a (LA3 n Z h a b c) := loopC_ok (loop45a_3 hn)
theorem near18_ok {n b : Nat} {z r : Nat → Nat × Nat} {h : List Blk} (hn : n ≤ 4096) (hok : ∀ i, i < n → okN1 (z i) (r i) b) : lpOk c44 (nearC 18 n z r b h) := loopC_ok (loop44_18 hn hok)
def LB3 (n : Nat) (h : List Blk) : Tm → List Blk → Option (Prop × Ex × Tm × List Blk) := loopC 131 (l45b (.one (.sl 31 0 3 1)) 3 18 n 0) (hb0 32 18 n (fun _ => (4613937818241073152, oneW)) (atB h) fun t => atB h (19 + t)) True (.exit 6) [(0, gotA), (5, (.one (.sl 31 0 3 1))), (6, ic 3), (7, .one (.sl 32 0 (n + 20) 1))] (hv 32 (atB h) ++ [syL (n + 20) (lgW n 4613937818241073152)])
theorem LB3_ok {n : Nat} {h : List Blk} (hn : n ≤ 4096) (e1 : (hb0 32 18 n (fun _ => (4613937818241073152, oneW)) (atB h) fun t => atB h (19 + t)) = h) (e2 : hv 32 (atB h) = h) (hh : allOk 32 h) : lpOk c45b (LB3 n h) :=
  growC_ok (a := 32) (by simp [hb0, hv]) (loop45b_3 hn (fun _ _ => ⟨rfl, rfl, rfl, rfl⟩) (fun z hp => frameR e1 e2 hh z hp) (fun z hp => frameR e2 e2 hh z hp))
def LN3 (h : List Blk) : Tm → List Blk → Option (Prop × Ex × Tm × List Blk) := loopC 131 (l45n (.one (.sl 31 0 3 1)) 3 0) (hv 32 (atB h)) True (.exit 6) [(0, gotA), (5, (.one (.sl 31 0 3 1))), (6, ic 3), (7, .one (.sl 32 0 (0 + 20) 1))] (hv 32 (atB h) ++ [syL (0 + 20) (lgW 0 4613937818241073152)])
theorem LN3_ok {h : List Blk} (e2 : hv 32 (atB h) = h) (hh : allOk 32 h) : lpOk c45b (LN3 h) :=
  growC_ok (a := 32) (by simp [hv]) (loop45n_3 (fun _ _ => ⟨rfl, rfl, rfl, rfl⟩) (fun z hp => frameR e2 e2 hh z hp) (fun z hp => frameR e2 e2 hh z hp))
def GC3 (n : Nat) (h : List Blk) (a b c d e f : C1) : List Blk := hc3 n (fun _ => (4613937818241073152, oneW)) (lgW n 4613937818241073152) (atB h) (fun t => atB h (19 + t)) (fun t => atB h (21 + t)) (fun t => atB h (33 + t)) (gotC3 n a b c) (gotD3 n d e f)
def LC3 (n : Nat) (h : List Blk) (a b c d e f : C1) : Tm → List Blk → Option (Prop × Ex × Tm × List Blk) := loopC 131 (l45c 3 0) (GC3 n h a b c d e f) True (.exit 10) [(0, gotA), (5, longA), (9, ic 3)] (GC3 n h a b c d e f)
theorem LC3_ok {n : Nat} {h : List Blk} {a b c d e f : C1} (hn : n ≤ 4096) : lpOk c45c (LC3 n h a b c d e f) := loopC_ok (loop45c_3 hn)
def GD3 (h : List Blk) (a b c d e f : C1) : List Blk := hcn3 (lgW 0 4613937818241073152) (atB h) (atB h) (fun t => atB h (21 + t)) (fun t => atB h (33 + t)) (gotN3 a b c) (gotD3 0 d e f)
def LD3 (h : List Blk) (a b c d e f : C1) : Tm → List Blk → Option (Prop × Ex × Tm × List Blk) := loopC 131 (l45c 3 0) (GD3 h a b c d e f) True (.exit 10) [(0, gotA), (5, longA), (9, ic 3)] (GD3 h a b c d e f)
theorem LD3_ok {h : List Blk} {a b c d e f : C1} : lpOk c45c (LD3 h a b c d e f) := loopC_ok loopn45c_3
theorem nearH9_eq (n : Nat) (z : Nat → Nat × Nat) (b2 b3 b4 : Blk) (c1 c2 c3 c4 : C1) : nearH 9 n z (HB (bY n z) b2 b3 b4 c1 c2 c3 c4 []) = HB (bY n z) b2 b3 b4 c1 c2 c3 c4 [] := by kernel_rfl
theorem GA0_eq (n : Nat) (Z : Nat → C1) (b2 b3 b4 : Blk) (a b c : C1) : GA0 n Z (HB (syZ n Z) b2 b3 b4 (.sl 9 0 n 1) a b c []) a b c = HB (syZ n Z) b2 b3 b4 (.sl 9 0 n 1) a b c [] := by kernel_rfl
theorem nearH12_eq (n : Nat) (z : Nat → Nat × Nat) (b1 b3 b4 : Blk) (c1 c2 c3 c4 : C1) : nearH 12 n z (HB b1 (bY n z) b3 b4 c1 c2 c3 c4 []) = HB b1 (bY n z) b3 b4 c1 c2 c3 c4 [] := by kernel_rfl
theorem GA1_eq (n : Nat) (Z : Nat → C1) (b1 b3 b4 : Blk) (a b c : C1) : GA1 n Z (HB b1 (syZ n Z) b3 b4 a (.sl 12 0 n 1) b c []) a b c = HB b1 (syZ n Z) b3 b4 a (.sl 12 0 n 1) b c [] := by kernel_rfl
theorem nearH15_eq (n : Nat) (z : Nat → Nat × Nat) (b1 b2 b4 : Blk) (c1 c2 c3 c4 : C1) : nearH 15 n z (HB b1 b2 (bY n z) b4 c1 c2 c3 c4 []) = HB b1 b2 (bY n z) b4 c1 c2 c3 c4 [] := by kernel_rfl
theorem GA2_eq (n : Nat) (Z : Nat → C1) (b1 b2 b4 : Blk) (a b c : C1) : GA2 n Z (HB b1 b2 (syZ n Z) b4 a b (.sl 15 0 n 1) c []) a b c = HB b1 b2 (syZ n Z) b4 a b (.sl 15 0 n 1) c [] := by kernel_rfl
theorem nearH18_eq (n : Nat) (z : Nat → Nat × Nat) (b1 b2 b3 : Blk) (c1 c2 c3 c4 : C1) : nearH 18 n z (HB b1 b2 b3 (bY n z) c1 c2 c3 c4 []) = HB b1 b2 b3 (bY n z) c1 c2 c3 c4 [] := by kernel_rfl
theorem GA3_eq (n : Nat) (Z : Nat → C1) (b1 b2 b3 : Blk) (a b c : C1) : GA3 n Z (HB b1 b2 b3 (syZ n Z) a b c (.sl 18 0 n 1) []) a b c = HB b1 b2 b3 (syZ n Z) a b c (.sl 18 0 n 1) [] := by kernel_rfl
def HFF0 (n m : Nat) : List Blk := HB (syW n fun _ => (0, oneW)) (syW m fun _ => (4607182418800017408, oneW)) (syW m fun _ => (4611686018427387904, oneW)) (syW n fun _ => (4613937818241073152, oneW)) (.sl 9 0 n 1) (.sl 12 0 m 1) (.sl 15 0 m 1) (.sl 18 0 n 1) []
theorem HFF0_ok (n m : Nat) : allOk 23 (HFF0 n m) := ⟨okD, okD, okD, okD, okD, okD, okD, okD, okD, okSW, okG (fun _ _ => ⟨⟨rfl, rfl, rfl, rfl⟩, trivial⟩), okDL, okSW, okG (fun _ _ => ⟨⟨rfl, rfl, rfl, rfl⟩, trivial⟩), okDL, okSW, okG (fun _ _ => ⟨⟨rfl, rfl, rfl, rfl⟩, trivial⟩), okDL, okSW, okG (fun _ _ => ⟨⟨rfl, rfl, rfl, rfl⟩, trivial⟩), okG (fun _ _ => ⟨⟨rfl, rfl, rfl, rfl⟩, ⟨rfl, rfl, rfl, rfl⟩, ⟨rfl, rfl, rfl, rfl⟩, ⟨rfl, rfl, rfl, rfl⟩, trivial⟩), okD, okD, trivial⟩
theorem HFF0_e2 (n m : Nat) : hv 23 (atB (HFF0 n m)) = HFF0 n m := by kernel_rfl
theorem HFF0_e1 (n m : Nat) : (hb0 23 9 n (fun _ => (0, oneW)) (atB (HFF0 n m)) fun t => atB (HFF0 n m) (10 + t)) = HFF0 n m := by kernel_rfl
def HFF1 (n m : Nat) : List Blk := HB (syW n fun _ => (0, oneW)) (syW m fun _ => (4607182418800017408, oneW)) (syW m fun _ => (4611686018427387904, oneW)) (syW n fun _ => (4613937818241073152, oneW)) (.sl 9 0 n 1) (.sl 12 0 m 1) (.sl 15 0 m 1) (.sl 18 0 n 1) (T1 (syL (n + 20) (lgW n 0)) (.sl 23 0 (n + 20) 1))
theorem HFF1_ok (n m : Nat) : allOk 26 (HFF1 n m) := ⟨okD, okD, okD, okD, okD, okD, okD, okD, okD, okSW, okG (fun _ _ => ⟨⟨rfl, rfl, rfl, rfl⟩, trivial⟩), okDL, okSW, okG (fun _ _ => ⟨⟨rfl, rfl, rfl, rfl⟩, trivial⟩), okDL, okSW, okG (fun _ _ => ⟨⟨rfl, rfl, rfl, rfl⟩, trivial⟩), okDL, okSW, okG (fun _ _ => ⟨⟨rfl, rfl, rfl, rfl⟩, trivial⟩), okG (fun _ _ => ⟨⟨rfl, rfl, rfl, rfl⟩, ⟨rfl, rfl, rfl, rfl⟩, ⟨rfl, rfl, rfl, rfl⟩, ⟨rfl, rfl, rfl, rfl⟩, trivial⟩), okD, okD, okSL, okG (fun _ _ => ⟨⟨rfl, rfl, rfl, rfl⟩, trivial⟩), okG (fun _ _ => ⟨⟨rfl, rfl, rfl, rfl⟩, trivial⟩), trivial⟩
theorem HFF1_e2 (n m : Nat) : hv 26 (atB (HFF1 n m)) = HFF1 n m := by kernel_rfl
theorem HFF1_e1 (n m : Nat) : (hb0 26 12 m (fun _ => (4607182418800017408, oneW)) (atB (HFF1 n m)) fun t => atB (HFF1 n m) (13 + t)) = HFF1 n m := by kernel_rfl
def HFF2 (n m : Nat) : List Blk := HB (syW n fun _ => (0, oneW)) (syW m fun _ => (4607182418800017408, oneW)) (syW m fun _ => (4611686018427387904, oneW)) (syW n fun _ => (4613937818241073152, oneW)) (.sl 9 0 n 1) (.sl 12 0 m 1) (.sl 15 0 m 1) (.sl 18 0 n 1) (T2 (syL (n + 20) (lgW n 0)) (syL (m + 20) (lgW m 4607182418800017408)) (.sl 23 0 (n + 20) 1) (.sl 26 0 (m + 20) 1))
theorem HFF2_ok (n m : Nat) : allOk 29 (HFF2 n m) := ⟨okD, okD, okD, okD, okD, okD, okD, okD, okD, okSW, okG (fun _ _ => ⟨⟨rfl, rfl, rfl, rfl⟩, trivial⟩), okDL, okSW, okG (fun _ _ => ⟨⟨rfl, rfl, rfl, rfl⟩, trivial⟩), okDL, okSW, okG (fun _ _ => ⟨⟨rfl, rfl, rfl, rfl⟩, trivial⟩), okDL, okSW, okG (fun _ _ => ⟨⟨rfl, rfl, rfl, rfl⟩, trivial⟩), okG (fun _ _ => ⟨⟨rfl, rfl, rfl, rfl⟩, ⟨rfl, rfl, rfl, rfl⟩, ⟨rfl, rfl, rfl, rfl⟩, ⟨rfl, rfl, rfl, rfl⟩, trivial⟩), okD, okD, okSL, okG (fun _ _ => ⟨⟨rfl, rfl, rfl, rfl⟩, trivial⟩), okDL, okSL, okG (fun _ _ => ⟨⟨rfl, rfl, rfl, rfl⟩, trivial⟩), okG (fun _ _ => ⟨⟨rfl, rfl, rfl, rfl⟩, ⟨rfl, rfl, rfl, rfl⟩, trivial⟩), trivial⟩
theorem HFF2_e2 (n m : Nat) : hv 29 (atB (HFF2 n m)) = HFF2 n m := by kernel_rfl
theorem HFF2_e1 (n m : Nat) : (hb0 29 15 m (fun _ => (4611686018427387904, oneW)) (atB (HFF2 n m)) fun t => atB (HFF2 n m) (16 + t)) = HFF2 n m := by kernel_rfl
def HFF3 (n m : Nat) : List Blk := HB (syW n fun _ => (0, oneW)) (syW m fun _ => (4607182418800017408, oneW)) (syW m fun _ => (4611686018427387904, oneW)) (syW n fun _ => (4613937818241073152, oneW)) (.sl 9 0 n 1) (.sl 12 0 m 1) (.sl 15 0 m 1) (.sl 18 0 n 1) (T3 (syL (n + 20) (lgW n 0)) (syL (m + 20) (lgW m 4607182418800017408)) (syL (m + 20) (lgW m 4611686018427387904)) (.sl 23 0 (n + 20) 1) (.sl 26 0 (m + 20) 1) (.sl 29 0 (m + 20) 1))
theorem HFF3_ok (n m : Nat) : allOk 32 (HFF3 n m) := ⟨okD, okD, okD, okD, okD, okD, okD, okD, okD, okSW, okG (fun _ _ => ⟨⟨rfl, rfl, rfl, rfl⟩, trivial⟩), okDL, okSW, okG (fun _ _ => ⟨⟨rfl, rfl, rfl, rfl⟩, trivial⟩), okDL, okSW, okG (fun _ _ => ⟨⟨rfl, rfl, rfl, rfl⟩, trivial⟩), okDL, okSW, okG (fun _ _ => ⟨⟨rfl, rfl, rfl, rfl⟩, trivial⟩), okG (fun _ _ => ⟨⟨rfl, rfl, rfl, rfl⟩, ⟨rfl, rfl, rfl, rfl⟩, ⟨rfl, rfl, rfl, rfl⟩, ⟨rfl, rfl, rfl, rfl⟩, trivial⟩), okD, okD, okSL, okG (fun _ _ => ⟨⟨rfl, rfl, rfl, rfl⟩, trivial⟩), okDL, okSL, okG (fun _ _ => ⟨⟨rfl, rfl, rfl, rfl⟩, trivial⟩), okDL, okSL, okG (fun _ _ => ⟨⟨rfl, rfl, rfl, rfl⟩, trivial⟩), okG (fun _ _ => ⟨⟨rfl, rfl, rfl, rfl⟩, ⟨rfl, rfl, rfl, rfl⟩, ⟨rfl, rfl, rfl, rfl⟩, trivial⟩), trivial⟩
theorem HFF3_e2 (n m : Nat) : hv 32 (atB (HFF3 n m)) = HFF3 n m := by kernel_rfl
theorem HFF3_e1 (n m : Nat) : (hb0 32 18 n (fun _ => (4613937818241073152, oneW)) (atB (HFF3 n m)) fun t => atB (HFF3 n m) (19 + t)) = HFF3 n m := by kernel_rfl
def HFF4 (n m : Nat) : List Blk := HB (syW n fun _ => (0, oneW)) (syW m fun _ => (4607182418800017408, oneW)) (syW m fun _ => (4611686018427387904, oneW)) (syW n fun _ => (4613937818241073152, oneW)) (.sl 9 0 n 1) (.sl 12 0 m 1) (.sl 15 0 m 1) (.sl 18 0 n 1) (T4 (syL (n + 20) (lgW n 0)) (syL (m + 20) (lgW m 4607182418800017408)) (syL (m + 20) (lgW m 4611686018427387904)) (syL (n + 20) (lgW n 4613937818241073152)) (.sl 23 0 (n + 20) 1) (.sl 26 0 (m + 20) 1) (.sl 29 0 (m + 20) 1) (.sl 32 0 (n + 20) 1))
def HFN0 (n m : Nat) : List Blk := HB (syW n fun _ => (0, oneW)) deadB deadB (syW n fun _ => (4613937818241073152, oneW)) (.sl 9 0 n 1) nilC nilC (.sl 18 0 n 1) []
theorem HFN0_ok (n m : Nat) : allOk 23 (HFN0 n m) := ⟨okD, okD, okD, okD, okD, okD, okD, okD, okD, okSW, okG (fun _ _ => ⟨⟨rfl, rfl, rfl, rfl⟩, trivial⟩), okDL, okD, okG (fun _ _ => ⟨rfl, trivial⟩), okDL, okD, okG (fun _ _ => ⟨rfl, trivial⟩), okDL, okSW, okG (fun _ _ => ⟨⟨rfl, rfl, rfl, rfl⟩, trivial⟩), okG (fun _ _ => ⟨⟨rfl, rfl, rfl, rfl⟩, rfl, rfl, ⟨rfl, rfl, rfl, rfl⟩, trivial⟩), okD, okD, trivial⟩
theorem HFN0_e2 (n m : Nat) : hv 23 (atB (HFN0 n m)) = HFN0 n m := by kernel_rfl
theorem HFN0_e1 (n m : Nat) : (hb0 23 9 n (fun _ => (0, oneW)) (atB (HFN0 n m)) fun t => atB (HFN0 n m) (10 + t)) = HFN0 n m := by kernel_rfl
def HFN1 (n m : Nat) : List Blk := HB (syW n fun _ => (0, oneW)) deadB deadB (syW n fun _ => (4613937818241073152, oneW)) (.sl 9 0 n 1) nilC nilC (.sl 18 0 n 1) (T1 (syL (n + 20) (lgW n 0)) (.sl 23 0 (n + 20) 1))
theorem HFN1_ok (n m : Nat) : allOk 26 (HFN1 n m) := ⟨okD, okD, okD, okD, okD, okD, okD, okD, okD, okSW, okG (fun _ _ => ⟨⟨rfl, rfl, rfl, rfl⟩, trivial⟩), okDL, okD, okG (fun _ _ => ⟨rfl, trivial⟩), okDL, okD, okG (fun _ _ => ⟨rfl, trivial⟩), okDL, okSW, okG (fun _ _ => ⟨⟨rfl, rfl, rfl, rfl⟩, trivial⟩), okG (fun _ _ => ⟨⟨rfl, rfl, rfl, rfl⟩, rfl, rfl, ⟨rfl, rfl, rfl, rfl⟩, trivial⟩), okD, okD, okSL, okG (fun _ _ => ⟨⟨rfl, rfl, rfl, rfl⟩, trivial⟩), okG (fun _ _ => ⟨⟨rfl, rfl, rfl, rfl⟩, trivial⟩), trivial⟩
theorem HFN1_e2 (n m : Nat) : hv 26 (atB (HFN1 n m)) = HFN1 n m := by kernel_rfl
def HFN2 (n m : Nat) : List Blk := HB (syW n fun _ => (0, oneW)) deadB deadB (syW n fun _ => (4613937818241073152, oneW)) (.sl 9 0 n 1) nilC nilC (.sl 18 0 n 1) (T2 (syL (n + 20) (lgW n 0)) (syL (0 + 20) (lgW 0 4607182418800017408)) (.sl 23 0 (n + 20) 1) (.sl 26 0 (0 + 20) 1))
theorem HFN2_ok (n m : Nat) : allOk 29 (HFN2 n m) := ⟨okD, okD, okD, okD, okD, okD, okD, okD, okD, okSW, okG (fun _ _ => ⟨⟨rfl, rfl, rfl, rfl⟩, trivial⟩), okDL, okD, okG (fun _ _ => ⟨rfl, trivial⟩), okDL, okD, okG (fun _ _ => ⟨rfl, trivial⟩), okDL, okSW, okG (fun _ _ => ⟨⟨rfl, rfl, rfl, rfl⟩, trivial⟩), okG (fun _ _ => ⟨⟨rfl, rfl, rfl, rfl⟩, rfl, rfl, ⟨rfl, rfl, rfl, rfl⟩, trivial⟩), okD, okD, okSL, okG (fun _ _ => ⟨⟨rfl, rfl, rfl, rfl⟩, trivial⟩), okDL, okSL, okG (fun _ _ => ⟨⟨rfl, rfl, rfl, rfl⟩, trivial⟩), okG (fun _ _ => ⟨⟨rfl, rfl, rfl, rfl⟩, ⟨rfl, rfl, rfl, rfl⟩, trivial⟩), trivial⟩
theorem HFN2_e2 (n m : Nat) : hv 29 (atB (HFN2 n m)) = HFN2 n m := by kernel_rfl
def HFN3 (n m : Nat) : List Blk := HB (syW n fun _ => (0, oneW)) deadB deadB (syW n fun _ => (4613937818241073152, oneW)) (.sl 9 0 n 1) nilC nilC (.sl 18 0 n 1) (T3 (syL (n + 20) (lgW n 0)) (syL (0 + 20) (lgW 0 4607182418800017408)) (syL (0 + 20) (lgW 0 4611686018427387904)) (.sl 23 0 (n + 20) 1) (.sl 26 0 (0 + 20) 1) (.sl 29 0 (0 + 20) 1))
theorem HFN3_ok (n m : Nat) : allOk 32 (HFN3 n m) := ⟨okD, okD, okD, okD, okD, okD, okD, okD, okD, okSW, okG (fun _ _ => ⟨⟨rfl, rfl, rfl, rfl⟩, trivial⟩), okDL, okD, okG (fun _ _ => ⟨rfl, trivial⟩), okDL, okD, okG (fun _ _ => ⟨rfl, trivial⟩), okDL, okSW, okG (fun _ _ => ⟨⟨rfl, rfl, rfl, rfl⟩, trivial⟩), okG (fun _ _ => ⟨⟨rfl, rfl, rfl, rfl⟩, rfl, rfl, ⟨rfl, rfl, rfl, rfl⟩, trivial⟩), okD, okD, okSL, okG (fun _ _ => ⟨⟨rfl, rfl, rfl, rfl⟩, trivial⟩), okDL, okSL, okG (fun _ _ => ⟨⟨rfl, rfl, rfl, rfl⟩, trivial⟩), okDL, okSL, okG (fun _ _ => ⟨⟨rfl, rfl, rfl, rfl⟩, trivial⟩), okG (fun _ _ => ⟨⟨rfl, rfl, rfl, rfl⟩, ⟨rfl, rfl, rfl, rfl⟩, ⟨rfl, rfl, rfl, rfl⟩, trivial⟩), trivial⟩
theorem HFN3_e2 (n m : Nat) : hv 32 (atB (HFN3 n m)) = HFN3 n m := by kernel_rfl
theorem HFN3_e1 (n m : Nat) : (hb0 32 18 n (fun _ => (4613937818241073152, oneW)) (atB (HFN3 n m)) fun t => atB (HFN3 n m) (19 + t)) = HFN3 n m := by kernel_rfl
def HFN4 (n m : Nat) : List Blk := HB (syW n fun _ => (0, oneW)) deadB deadB (syW n fun _ => (4613937818241073152, oneW)) (.sl 9 0 n 1) nilC nilC (.sl 18 0 n 1) (T4 (syL (n + 20) (lgW n 0)) (syL (0 + 20) (lgW 0 4607182418800017408)) (syL (0 + 20) (lgW 0 4611686018427387904)) (syL (n + 20) (lgW n 4613937818241073152)) (.sl 23 0 (n + 20) 1) (.sl 26 0 (0 + 20) 1) (.sl 29 0 (0 + 20) 1) (.sl 32 0 (n + 20) 1))
def HNF0 (n m : Nat) : List Blk := HB deadB (syW m fun _ => (4607182418800017408, oneW)) (syW m fun _ => (4611686018427387904, oneW)) deadB nilC (.sl 12 0 m 1) (.sl 15 0 m 1) nilC []
theorem HNF0_ok (n m : Nat) : allOk 23 (HNF0 n m) := ⟨okD, okD, okD, okD, okD, okD, okD, okD, okD, okD, okG (fun _ _ => ⟨rfl, trivial⟩), okDL, okSW, okG (fun _ _ => ⟨⟨rfl, rfl, rfl, rfl⟩, trivial⟩), okDL, okSW, okG (fun _ _ => ⟨⟨rfl, rfl, rfl, rfl⟩, trivial⟩), okDL, okD, okG (fun _ _ => ⟨rfl, trivial⟩), okG (fun _ _ => ⟨rfl, ⟨rfl, rfl, rfl, rfl⟩, ⟨rfl, rfl, rfl, rfl⟩, rfl, trivial⟩), okD, okD, trivial⟩
theorem HNF0_e2 (n m : Nat) : hv 23 (atB (HNF0 n m)) = HNF0 n m := by kernel_rfl
def HNF1 (n m : Nat) : List Blk := HB deadB (syW m fun _ => (4607182418800017408, oneW)) (syW m fun _ => (4611686018427387904, oneW)) deadB nilC (.sl 12 0 m 1) (.sl 15 0 m 1) nilC (T1 (syL (0 + 20) (lgW 0 0)) (.sl 23 0 (0 + 20) 1))
theorem HNF1_ok (n m : Nat) : allOk 26 (HNF1 n m) := ⟨okD, okD, okD, okD, okD, okD, okD, okD, okD, okD, okG (fun _ _ => ⟨rfl, trivial⟩), okDL, okSW, okG (fun _ _ => ⟨⟨rfl, rfl, rfl, rfl⟩, trivial⟩), okDL, okSW, okG (fun _ _ => ⟨⟨rfl, rfl, rfl, rfl⟩, trivial⟩), okDL, okD, okG (fun _ _ => ⟨rfl, trivial⟩), okG (fun _ _ => ⟨rfl, ⟨rfl, rfl, rfl, rfl⟩, ⟨rfl, rfl, rfl, rfl⟩, rfl, trivial⟩), okD, okD, okSL, okG (fun _ _ => ⟨⟨rfl, rfl, rfl, rfl⟩, trivial⟩), okG (fun _ _ => ⟨⟨rfl, rfl, rfl, rfl⟩, trivial⟩), trivial⟩
theorem HNF1_e2 (n m : Nat) : hv 26 (atB (HNF1 n m)) = HNF1 n m := by kernel_rfl
theorem HNF1_e1 (n m : Nat) : (hb0 26 12 m (fun _ => (4607182418800017408, oneW)) (atB (HNF1 n m)) fun t => atB (HNF1 n m) (13 + t)) = HNF1 n m := by kernel_rfl
def HNF2 (n m : Nat) : List Blk := HB deadB (syW m fun _ => (4607182418800017408, oneW)) (syW m fun _ => (4611686018427387904, oneW)) deadB nilC (.sl 12 0 m 1) (.sl 15 0 m 1) nilC (T2 (syL (0 + 20) (lgW 0 0)) (syL (m + 20) (lgW m 4607182418800017408)) (.sl 23 0 (0 + 20) 1) (.sl 26 0 (m + 20) 1))
theorem HNF2_ok (n m : Nat) : allOk 29 (HNF2 n m) := ⟨okD, okD, okD, okD, okD, okD, okD, okD, okD, okD, okG (fun _ _ => ⟨rfl, trivial⟩), okDL, okSW, okG (fun _ _ => ⟨⟨rfl, rfl, rfl, rfl⟩, trivial⟩), okDL, okSW, okG (fun _ _ => ⟨⟨rfl, rfl, rfl, rfl⟩, trivial⟩), okDL, okD, okG (fun _ _ => ⟨rfl, trivial⟩), okG (fun _ _ => ⟨rfl, ⟨rfl, rfl, rfl, rfl⟩, ⟨rfl, rfl, rfl, rfl⟩, rfl, trivial⟩), okD, okD, okSL, okG (fun _ _ => ⟨⟨rfl, rfl, rfl, rfl⟩, trivial⟩), okDL, okSL, okG (fun _ _ => ⟨⟨rfl, rfl, rfl, rfl⟩, trivial⟩), okG (fun _ _ => ⟨⟨rfl, rfl, rfl, rfl⟩, ⟨rfl, rfl, rfl, rfl⟩, trivial⟩), trivial⟩
theorem HNF2_e2 (n m : Nat) : hv 29 (atB (HNF2 n m)) = HNF2 n m := by kernel_rfl
theorem HNF2_e1 (n m : Nat) : (hb0 29 15 m (fun _ => (4611686018427387904, oneW)) (atB (HNF2 n m)) fun t => atB (HNF2 n m) (16 + t)) = HNF2 n m := by kernel_rfl
def HNF3 (n m : Nat) : List Blk := HB deadB (syW m fun _ => (4607182418800017408, oneW)) (syW m fun _ => (4611686018427387904, oneW)) deadB nilC (.sl 12 0 m 1) (.sl 15 0 m 1) nilC (T3 (syL (0 + 20) (lgW 0 0)) (syL (m + 20) (lgW m 4607182418800017408)) (syL (m + 20) (lgW m 4611686018427387904)) (.sl 23 0 (0 + 20) 1) (.sl 26 0 (m + 20) 1) (.sl 29 0 (m + 20) 1))
theorem HNF3_ok (n m : Nat) : allOk 32 (HNF3 n m) := ⟨okD, okD, okD, okD, okD, okD, okD, okD, okD, okD, okG (fun _ _ => ⟨rfl, trivial⟩), okDL, okSW, okG (fun _ _ => ⟨⟨rfl, rfl, rfl, rfl⟩, trivial⟩), okDL, okSW, okG (fun _ _ => ⟨⟨rfl, rfl, rfl, rfl⟩, trivial⟩), okDL, okD, okG (fun _ _ => ⟨rfl, trivial⟩), okG (fun _ _ => ⟨rfl, ⟨rfl, rfl, rfl, rfl⟩, ⟨rfl, rfl, rfl, rfl⟩, rfl, trivial⟩), okD, okD, okSL, okG (fun _ _ => ⟨⟨rfl, rfl, rfl, rfl⟩, trivial⟩), okDL, okSL, okG (fun _ _ => ⟨⟨rfl, rfl, rfl, rfl⟩, trivial⟩), okDL, okSL, okG (fun _ _ => ⟨⟨rfl, rfl, rfl, rfl⟩, trivial⟩), okG (fun _ _ => ⟨⟨rfl, rfl, rfl, rfl⟩, ⟨rfl, rfl, rfl, rfl⟩, ⟨rfl, rfl, rfl, rfl⟩, trivial⟩), trivial⟩
theorem HNF3_e2 (n m : Nat) : hv 32 (atB (HNF3 n m)) = HNF3 n m := by kernel_rfl
def HNF4 (n m : Nat) : List Blk := HB deadB (syW m fun _ => (4607182418800017408, oneW)) (syW m fun _ => (4611686018427387904, oneW)) deadB nilC (.sl 12 0 m 1) (.sl 15 0 m 1) nilC (T4 (syL (0 + 20) (lgW 0 0)) (syL (m + 20) (lgW m 4607182418800017408)) (syL (m + 20) (lgW m 4611686018427387904)) (syL (0 + 20) (lgW 0 4613937818241073152)) (.sl 23 0 (0 + 20) 1) (.sl 26 0 (m + 20) 1) (.sl 29 0 (m + 20) 1) (.sl 32 0 (0 + 20) 1))
def HNN0 (n m : Nat) : List Blk := HB deadB deadB deadB deadB nilC nilC nilC nilC []
theorem HNN0_ok (n m : Nat) : allOk 23 (HNN0 n m) := ⟨okD, okD, okD, okD, okD, okD, okD, okD, okD, okD, okG (fun _ _ => ⟨rfl, trivial⟩), okDL, okD, okG (fun _ _ => ⟨rfl, trivial⟩), okDL, okD, okG (fun _ _ => ⟨rfl, trivial⟩), okDL, okD, okG (fun _ _ => ⟨rfl, trivial⟩), okG (fun _ _ => ⟨rfl, rfl, rfl, rfl, trivial⟩), okD, okD, trivial⟩
theorem HNN0_e2 (n m : Nat) : hv 23 (atB (HNN0 n m)) = HNN0 n m := by kernel_rfl
def HNN1 (n m : Nat) : List Blk := HB deadB deadB deadB deadB nilC nilC nilC nilC (T1 (syL (0 + 20) (lgW 0 0)) (.sl 23 0 (0 + 20) 1))
theorem HNN1_ok (n m : Nat) : allOk 26 (HNN1 n m) := ⟨okD, okD, okD, okD, okD, okD, okD, okD, okD, okD, okG (fun _ _ => ⟨rfl, trivial⟩), okDL, okD, okG (fun _ _ => ⟨rfl, trivial⟩), okDL, okD, okG (fun _ _ => ⟨rfl, trivial⟩), okDL, okD, okG (fun _ _ => ⟨rfl, trivial⟩), okG (fun _ _ => ⟨rfl, rfl, rfl, rfl, trivial⟩), okD, okD, okSL, okG (fun _ _ => ⟨⟨rfl, rfl, rfl, rfl⟩, trivial⟩), okG (fun _ _ => ⟨⟨rfl, rfl, rfl, rfl⟩, trivial⟩), trivial⟩
theorem HNN1_e2 (n m : Nat) : hv 26 (atB (HNN1 n m)) = HNN1 n m := by kernel_rfl
def HNN2 (n m : Nat) : List Blk := HB deadB deadB deadB deadB nilC nilC nilC nilC (T2 (syL (0 + 20) (lgW 0 0)) (syL (0 + 20) (lgW 0 4607182418800017408)) (.sl 23 0 (0 + 20) 1) (.sl 26 0 (0 + 20) 1))
theorem HNN2_ok (n m : Nat) : allOk 29 (HNN2 n m) := ⟨okD, okD, okD, okD, okD, okD, okD, okD, okD, okD, okG (fun _ _ => ⟨rfl, trivial⟩), okDL, okD, okG (fun _ _ => ⟨rfl, trivial⟩), okDL, okD, okG (fun _ _ => ⟨rfl, trivial⟩), okDL, okD, okG (fun _ _ => ⟨rfl, trivial⟩), okG (fun _ _ => ⟨rfl, rfl, rfl, rfl, trivial⟩), okD, okD, okSL, okG (fun _ _ => ⟨⟨rfl, rfl, rfl, rfl⟩, trivial⟩), okDL, okSL, okG (fun _ _ => ⟨⟨rfl, rfl, rfl, rfl⟩, trivial⟩), okG (fun _ _ => ⟨⟨rfl, rfl, rfl, rfl⟩, ⟨rfl, rfl, rfl, rfl⟩, trivial⟩), trivial⟩
theorem HNN2_e2 (n m : Nat) : hv 29 (atB (HNN2 n m)) = HNN2 n m := by kernel_rfl
def HNN3 (n m : Nat) : List Blk := HB deadB deadB deadB deadB nilC nilC nilC nilC (T3 (syL (0 + 20) (lgW 0 0)) (syL (0 + 20) (lgW 0 4607182418800017408)) (syL (0 + 20) (lgW 0 4611686018427387904)) (.sl 23 0 (0 + 20) 1) (.sl 26 0 (0 + 20) 1) (.sl 29 0 (0 + 20) 1))
theorem HNN3_ok (n m : Nat) : allOk 32 (HNN3 n m) := ⟨okD, okD, okD, okD, okD, okD, okD, okD, okD, okD, okG (fun _ _ => ⟨rfl, trivial⟩), okDL, okD, okG (fun _ _ => ⟨rfl, trivial⟩), okDL, okD, okG (fun _ _ => ⟨rfl, trivial⟩), okDL, okD, okG (fun _ _ => ⟨rfl, trivial⟩), okG (fun _ _ => ⟨rfl, rfl, rfl, rfl, trivial⟩), okD, okD, okSL, okG (fun _ _ => ⟨⟨rfl, rfl, rfl, rfl⟩, trivial⟩), okDL, okSL, okG (fun _ _ => ⟨⟨rfl, rfl, rfl, rfl⟩, trivial⟩), okDL, okSL, okG (fun _ _ => ⟨⟨rfl, rfl, rfl, rfl⟩, trivial⟩), okG (fun _ _ => ⟨⟨rfl, rfl, rfl, rfl⟩, ⟨rfl, rfl, rfl, rfl⟩, ⟨rfl, rfl, rfl, rfl⟩, trivial⟩), trivial⟩
theorem HNN3_e2 (n m : Nat) : hv 32 (atB (HNN3 n m)) = HNN3 n m := by kernel_rfl
def HNN4 (n m : Nat) : List Blk := HB deadB deadB deadB deadB nilC nilC nilC nilC (T4 (syL (0 + 20) (lgW 0 0)) (syL (0 + 20) (lgW 0 4607182418800017408)) (syL (0 + 20) (lgW 0 4611686018427387904)) (syL (0 + 20) (lgW 0 4613937818241073152)) (.sl 23 0 (0 + 20) 1) (.sl 26 0 (0 + 20) 1) (.sl 29 0 (0 + 20) 1) (.sl 32 0 (0 + 20) 1))
end Go.Proofs.YthddkcoflnbjbaaDoor
