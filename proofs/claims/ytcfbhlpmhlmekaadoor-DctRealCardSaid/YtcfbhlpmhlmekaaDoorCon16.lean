/-
  What is proved here: contracts of bound and near, of tame numbers and others; the whole runs of the law DctReal. A text to be imported.
-/
import Derived.Test.YtcfbhlpmhlmekaaDoorCon15
namespace Go.Proofs.YtcfbhlpmhlmekaaDoor
open Sm Go Go.RowKit
set_option maxRecDepth 1000000
set_option linter.unusedVariables false
set_option linter.unusedSimpArgs false
noncomputable def cB9 : Code := pathC (bodyC Tryd.f9) [0]
def lB9 (s : Nat) (i : Nat) : List (Nat × AV) := [(1, P0), (4, AFd s), (5, ivF i)]
def w100 : Nat := 6103021453049119613
def nw100 : Nat := 15326393489903895421
def wBd : Nat := 4472411369333269007
def tmB (x : Nat) : Bool := bif leW x w100 then geW x nw100 else false
def sN (f : Nat → Nat) : Nat → Nat
  | 0 => w1
  | k + 1 => fbin .add .f64 (sN f k) (awayF (f k))
theorem round9 (f : Nat → Nat) (s i : Nat) (Q : Ex → Nat → List AV → List Blk → Prop) : roundK Tryd.prog T FA 300 cB9 (tmL 29 (lB9 s i)) [ssB f] [.b true, .b false] [1, 4, 5] Q =
  (decide ((i : Int) < 64) = true ∧ (0 ≤ (i : Int) ∧ (i : Int) < (64 : Nat)) ∧ placeN 0 (i : Int) 1 < 64 ∧ (0 ≤ (i : Int) ∧ (i : Int) < (64 : Nat)) ∧ placeN 0 (i : Int) 1 < 64 ∧ (!tmB (f (placeN 0 (i : Int) 1))) = false ∧ (0 ≤ (i : Int) ∧ (i : Int) < (64 : Nat)) ∧ placeN 0 (i : Int) 1 < 64 ∧ fok .add .f64 s (awayF (f (placeN 0 (i : Int) 1))) = true ∧
   Q .normal 29 [P0, AFd (fbin .add .f64 s (awayF (f (placeN 0 (i : Int) 1)))), ivF (W (i + 1))] [ssB f]) := by kernel_rfl
theorem ret9 (f : Nat → Nat) (s i : Nat) (Q : Ex → Nat → List AV → List Blk → Prop) : roundK Tryd.prog T FA 300 cB9 (tmL 29 (lB9 s i)) [ssB f] [.b true, .b true] [2, 3] Q =
  (decide ((i : Int) < 64) = true ∧ (0 ≤ (i : Int) ∧ (i : Int) < (64 : Nat)) ∧ placeN 0 (i : Int) 1 < 64 ∧ (0 ≤ (i : Int) ∧ (i : Int) < (64 : Nat)) ∧ placeN 0 (i : Int) 1 < 64 ∧ (!tmB (f (placeN 0 (i : Int) 1))) = true ∧
   Q .ret 29 [.one (.sc (.float .f64 0) true), .one (.sc (.bool false) true)] [ssB f]) := by kernel_rfl
theorem exit9 (f : Nat → Nat) (s i : Nat) (Q : Ex → Nat → List AV → List Blk → Prop) : roundK Tryd.prog T FA 300 cB9 (tmL 29 (lB9 s i)) [ssB f] [.b false] [4] Q =
  (decide ((i : Int) < 64) = false ∧ Q (.exit 0) 29 [AFd s] [ssB f]) := by kernel_rfl
def okN9 (f : Nat → Nat) (n : Nat) : Prop := ∀ k, k < n → tmB (f k) = true ∧ fok .add .f64 (sN f k) (awayF (f k)) = true
theorem step9 (f : Nat → Nat) {n : Nat} (hn : n ≤ 64) (hok : okN9 f n) : ∀ k, k < n → ∃ m orc, roundK Tryd.prog T FA m cB9 (tmL 29 (lB9 (sN f k) k)) [ssB f] orc ((lB9 (sN f (k + 1)) (k + 1)).map (·.1)) (After .normal 29 (lB9 (sN f (k + 1)) (k + 1)) [ssB f]) := fun k hk => by
  refine ⟨300, [.b true, .b false], ?_⟩
  show roundK Tryd.prog T FA 300 cB9 (tmL 29 (lB9 (sN f k) k)) [ssB f] [.b true, .b false] [1, 4, 5] _
  rw [round9, pl1]
  obtain ⟨k1, k2⟩ := hok k hk
  exact ⟨decide_eq_true (by omega), by omega, by omega, by omega, by omega, by rw [k1]; rfl, by omega, by omega, k2, rfl, rfl, ⟨sameV.refl _, sameV.refl _, ivE _ _ (W1 (by omega)), trivial⟩, HpLe.refl _⟩
theorem loop9 (f : Nat → Nat) (hok : okN9 f 64) : LoopOk Tryd.prog cB9 (tmL 29 (lB9 w1 0)) [ssB f] (.exit 0) (tmL 29 [(4, AFd (sN f 64))]) [ssB f] := by
  refine loop_rounds hm hT FAok 29 64 (fun k => lB9 (sN f k) k) (fun _ => [ssB f]) (.exit 0) _ _ (fun e => by cases e) (step9 f (Nat.le_refl _) hok) ⟨300, [.b false], ?_⟩ 0 (Nat.zero_le _)
  show roundK Tryd.prog T FA 300 cB9 (tmL 29 (lB9 (sN f 64) 64)) [ssB f] [.b false] [4] _
  rw [exit9]
  exact ⟨decide_eq_false (by omega), rfl, rfl, ⟨sameV.refl _, trivial⟩, HpLe.refl _⟩
theorem loop9r (f : Nat → Nat) {k0 : Nat} (hk : k0 < 64) (hok : okN9 f k0) (hb : tmB (f k0) = false) : LoopOk Tryd.prog cB9 (tmL 29 (lB9 w1 0)) [ssB f] .ret (tmL 29 [(2, .one (.sc (.float .f64 0) true)), (3, .one (.sc (.bool false) true))]) [ssB f] := by
  refine loop_rounds hm hT FAok 29 k0 (fun k => lB9 (sN f k) k) (fun _ => [ssB f]) .ret _ _ (fun e => by cases e) (step9 f (by omega) hok) ⟨300, [.b true, .b true], ?_⟩ 0 (Nat.zero_le _)
  show roundK Tryd.prog T FA 300 cB9 (tmL 29 (lB9 (sN f k0) k0)) [ssB f] [.b true, .b true] [2, 3] _
  rw [ret9, pl1]
  exact ⟨decide_eq_true (by omega), by omega, hk, by omega, hk, by rw [hb]; rfl, rfl, rfl, ⟨sameV.refl _, sameV.refl _, trivial⟩, HpLe.refl _⟩
noncomputable def F9 (f : Nat → Nat) (q : Prop) : Fns := FA.addLoop 0 cB9 (loopC 29 (lB9 w1 0) [ssB f] q (.exit 0) [(4, AFd (sN f 64))] [ssB f])
noncomputable def F9r (f : Nat → Nat) (q : Prop) : Fns := FA.addLoop 0 cB9 (loopC 29 (lB9 w1 0) [ssB f] q .ret [(2, .one (.sc (.float .f64 0) true)), (3, .one (.sc (.bool false) true))] [ssB f])
theorem run9 (f : Nat → Nat) (q : Prop) (u : Value) : runK Tryd.prog T (F9 f q) 300 Tryd.f9 [.agg (flC f)] [] [.l 0] (fun r _ => resW r = some u) =
  (cB9 = cB9 ∧ ((29 = 29 ∧ startLs [P0, .one (.sc (.float .f64 w1) true), .one (.sc (.int .i64 0) true)] ((lB9 w1 0).map (·.2)) ∧ startBs [agB f] [ssB f]) ∧ q) ∧ fok .mul .f64 (sN f 64) wBd = true ∧ some (Value.tuple #[.float .f64 (fbin .mul .f64 (sN f 64) wBd), .bool true]) = some u) := by kernel_rfl
theorem run9r (f : Nat → Nat) (q : Prop) (u : Value) : runK Tryd.prog T (F9r f q) 300 Tryd.f9 [.agg (flC f)] [] [.l 0] (fun r _ => resW r = some u) =
  (cB9 = cB9 ∧ ((29 = 29 ∧ startLs [P0, .one (.sc (.float .f64 w1) true), .one (.sc (.int .i64 0) true)] ((lB9 w1 0).map (·.2)) ∧ startBs [agB f] [ssB f]) ∧ q) ∧ some (Value.tuple #[.float .f64 0, .bool false]) = some u) := by kernel_rfl
def GBd : List ArgV → Option (Prop × Value)
  | [.val (.agg a)] => fltsK .f64 a.toList fun xs => if xs.length = 64 then some (okN9 (xs.getD · 0) 64 ∧ fok .mul .f64 (sN (xs.getD · 0) 64) wBd = true, Value.tuple #[.float .f64 (fbin .mul .f64 (sN (xs.getD · 0) 64) wBd), .bool true]) else none
  | _ => none
def GBdU : List ArgV → Option (Prop × Value)
  | [.val (.agg a)] => fltsK .f64 a.toList fun xs => if xs.length = 64 then some (∃ k0, k0 < 64 ∧ okN9 (xs.getD · 0) k0 ∧ tmB (xs.getD k0 0) = false, Value.tuple #[.float .f64 0, .bool false]) else none
  | _ => none
open Classical in
theorem con9t : ConP Tryd.prog 9 GBd := by
  refine ⟨Tryd.call9, fun avs p u h hp => ?_⟩
  unfold GBd at h
  split at h
  · rename_i a
    obtain ⟨xs, ha, h2⟩ := fltsK_spec _ _ _ h
    clear h
    split at h2
    · rename_i hl
      simp only [Option.some.injEq, Prod.mk.injEq] at h2
      obtain ⟨rfl, rfl⟩ := h2
      obtain ⟨a⟩ := a
      have ha' : a = xs.map (Value.float .f64) := ha
      subst ha'
      have hF : FnsOk Tryd.prog (F9 (xs.getD · 0) True) := FAok.addKeep 0 fun _ => loop9 _ hp.1
      exact (conP_of_runW (G := fun b => if b = [.val (.agg (xs.map (Value.float .f64)).toArray)] then some (True, Value.tuple #[.float .f64 (fbin .mul .f64 (sN (xs.getD · 0) 64) wBd), .bool true]) else none) hm hT hF Tryd.func9 Tryd.call9 fun avs p u h _ => by
        split at h
        · rename_i ha
          simp only [Option.some.injEq, Prod.mk.injEq] at h
          obtain ⟨_, rfl⟩ := h
          subst ha
          exact ⟨[], 300, [.l 0], _, _, canonL xs hl, of_run (run9 _ _ _) ⟨rfl, ⟨⟨rfl, ⟨rfl, rfl, rfl, trivial⟩, sB_ag _, trivial⟩, trivial⟩, hp.2, rfl⟩⟩
        · cases h).2 _ True _ (if_pos rfl) trivial
    · cases h2
  · cases h
open Classical in
theorem con9u : ConP Tryd.prog 9 GBdU := by
  refine ⟨Tryd.call9, fun avs p u h hp => ?_⟩
  unfold GBdU at h
  split at h
  · rename_i a
    obtain ⟨xs, ha, h2⟩ := fltsK_spec _ _ _ h
    clear h
    split at h2
    · rename_i hl
      simp only [Option.some.injEq, Prod.mk.injEq] at h2
      obtain ⟨rfl, rfl⟩ := h2
      obtain ⟨a⟩ := a
      have ha' : a = xs.map (Value.float .f64) := ha
      subst ha'
      obtain ⟨k0, hk, hok, hb⟩ := hp
      have hF : FnsOk Tryd.prog (F9r (xs.getD · 0) True) := FAok.addKeep 0 fun _ => loop9r _ hk hok hb
      exact (conP_of_runW (G := fun b => if b = [.val (.agg (xs.map (Value.float .f64)).toArray)] then some (True, Value.tuple #[.float .f64 0, .bool false]) else none) hm hT hF Tryd.func9 Tryd.call9 fun avs p u h _ => by
        split at h
        · rename_i ha
          simp only [Option.some.injEq, Prod.mk.injEq] at h
          obtain ⟨_, rfl⟩ := h
          subst ha
          exact ⟨[], 300, [.l 0], _, _, canonL xs hl, of_run (run9r _ _ _) ⟨rfl, ⟨⟨rfl, ⟨rfl, rfl, rfl, trivial⟩, sB_ag _, trivial⟩, trivial⟩, rfl⟩⟩
        · cases h).2 _ True _ (if_pos rfl) trivial
    · cases h2
  · cases h
/-! near -/
def obN (a b : Nat → Nat) (m : Nat) : List Prop := (List.range 64).flatMap fun k => [fok .sub .f64 (a k) (b k) = true, (!(leW (awayF (fbin .sub .f64 (a k) (b k))) m)) = false]
theorem run10 (a b : Nat → Nat) (m : Nat) (u : Value) : runK Tryd.prog T FA 3000 Tryd.f10 [.agg (flC a), .agg (flC b), AFd m] [] (List.replicate 64 (.b false)) (fun r _ => resW r = some u) =
  obsP (obN a b m) (some (Value.bool true) = some u) := by kernel_rfl
def GNr : List ArgV → Option (Prop × Value)
  | [.val (.agg a), .val (.agg b), .val (.float .f64 m)] => fltsK .f64 a.toList fun xs => fltsK .f64 b.toList fun ys => if xs.length = 64 ∧ ys.length = 64 then some (∀ p ∈ obN (xs.getD · 0) (ys.getD · 0) m, p, .bool true) else none
  | _ => none
theorem canonN (xs ys : List Nat) (m : Nat) (h : xs.length = 64) (h2 : ys.length = 64) : canon2 [] [.val (.agg (xs.map (Value.float .f64)).toArray), .val (.agg (ys.map (Value.float .f64)).toArray), .val (.float .f64 m)] 0 = some ([.agg (flC (xs.getD · 0)), .agg (flC (ys.getD · 0)), AFd m], []) := by
  have e1 := list_of_nat xs 64 h
  have e2 := list_of_nat ys 64 h2
  conv => lhs; rw [e1, e2]
  simp [canon2, ofV, flC, AFd, oneC]
theorem con10 : ConP Tryd.prog 10 GNr := by
  refine conP_of_runW hm hT FAok Tryd.func10 Tryd.call10 fun avs p u h hp => ?_
  unfold GNr at h
  split at h
  · rename_i a b m
    obtain ⟨xs, ha, h2⟩ := fltsK_spec _ _ _ h
    clear h
    obtain ⟨ys, hb, h3⟩ := fltsK_spec _ _ _ h2
    clear h2
    split at h3
    · rename_i hl
      simp only [Option.some.injEq, Prod.mk.injEq] at h3
      obtain ⟨rfl, rfl⟩ := h3
      obtain ⟨a⟩ := a
      obtain ⟨b⟩ := b
      have ha' : a = xs.map (Value.float .f64) := ha
      have hb' : b = ys.map (Value.float .f64) := hb
      subst ha'; subst hb'
      exact ⟨[], 3000, List.replicate 64 (.b false), _, _, canonN xs ys m hl.1 hl.2, of_run (run10 _ _ _ _) (obsP_of _ _ hp rfl)⟩
    · cases h3
  · cases h
noncomputable def F3t : Fns := (((((Fns.none.addP 7 GReal).addP 8 GWaves).addP 9 GBd).addP 10 GNr).addP 11 GRr).addP 12 GRw
theorem F3tok : FnsOk Tryd.prog F3t := (((((FnsOk.none.addP conReal).addP conWaves).addP con9t).addP con10).addP con11).addP con12
noncomputable def F3u : Fns := ((Fns.none.addAny 7 GAny64).addAny 8 GAny64).addP 9 GBdU
theorem F3uok : FnsOk Tryd.prog F3u := ((FnsOk.none.addAny any7).addAny any8).addP con9u
end Go.Proofs.YtcfbhlpmhlmekaaDoor
