/-
  What is proved here: contracts of the document's Weight (R.Weight). A text to be imported.
-/
import Derived.Test.YthddkcoflnbjbaaDoorQCon52
namespace Sm
open Go Go.RowKit
theorem RT.weakM {E : Env} {tm : Tm} {ts : Array Value} (h : RT E tm ts) : ∀ (l : List (Nat × AV)), (∀ p ∈ l, ∀ u, RV E (getT tm p.1) u → RV E p.2 u) → RT E (tmL tm.n l) ts
  | [], _ => by
    refine ⟨h.1, h.2.1, fun i hi => ?_⟩
    have : getT (tmL tm.n []) i = .bad := by
      simp only [tmL, getT]
      rw [show Nat.blt i tm.n = true from by rw [blt_eq]; simpa [tmL] using hi]
      rfl
    rw [this]; trivial
  | (k, v) :: l, hl => by
    have ih := RT.weakM h l fun p hp => hl p (List.mem_cons_of_mem _ hp)
    refine ⟨by rw [tmL, setT_n, tmL_n]; exact h.1, by rw [tmL, setT_n, tmL_n]; exact h.2.1, fun i hi => ?_⟩
    rw [tmL, setT_n, tmL_n] at hi
    rw [tmL, getT_setT (by rw [tmL_n]; exact h.2.1) (by rw [tmL_n]; exact hi)]
    by_cases hk : k = i
    · subst hk
      rw [if_pos rfl]
      exact hl (k, v) List.mem_cons_self _ (h.2.2 k hi)
    · rw [if_neg hk]
      exact ih.2.2 i (by rw [tmL_n]; exact hi)
theorem LoopOk.weakM {P : Program} {c : Code} {n : Nat} {l0 l1 : List (Nat × AV)} {hp : List Blk} {x : Ex} {tm' : Tm} {hp' : List Blk} (h : LoopOk P c (tmL n l1) hp x tm' hp') (hw : ∀ E, ∀ p ∈ l1, ∀ u, RV E (getT (tmL n l0) p.1) u → RV E p.2 u) : LoopOk P c (tmL n l0) hp x tm' hp' := by
  intro B w0 E ac w Q hh ht hq
  refine h B w0 E ac w Q hh ?_ hq
  have := ht.weakM l1 (hw E)
  rwa [tmL_n] at this
end Sm
namespace Go.Proofs.YthddkcoflnbjbaaDoor
open Sm Go Go.RowKit Fl Ieee
set_option maxRecDepth 1000000
set_option linter.unusedVariables false
noncomputable def c40 : Code := pathC (bodyC Tryd.f40) [0]
def aBl (t : Bool) : AV := .one (.sc (.bool t) false)
def aFl : AV := .one (.fl .f64)
def wBig : Nat := 6103021453049119613
def l40 (n : Nat) (x : Nat → Nat × Nat) (s : AV) (t : Bool) (i : Nat) : List (Nat × AV) := [(0, prL n x), (4, s), (5, aBl t), (6, iv i)]
def tmC (x : Nat → Nat × Nat) : Nat → Bool
  | 0 => true
  | i + 1 => bif (bif tmC x i then fle (absW (x i).1) wBig else false) then fle (absW (x i).2) wBig else false
def smC (x : Nat → Nat × Nat) : Nat → Nat
  | 0 => 0
  | i + 1 => fbin .add .f64 (fbin .add .f64 (smC x i) (absW (x i).1)) (absW (x i).2)
def tmC1 (t : Bool) (y : Nat × Nat) : Bool := bif (bif t then fle (absW y.1) wBig else false) then fle (absW y.2) wBig else false
theorem round40 (n : Nat) (x : Nat → Nat × Nat) (s : Nat) (t : Bool) (i : Nat) (X : Ex → Nat → List AV → List Blk → Prop) : roundK Tryd.prog T FT 300 c40 (tmL 43 (l40 n x (AFl s) t i)) [deadB] [.b true] [0, 4, 5, 6] X =
  (decide ((i : Int) < n) = true ∧ (0 ≤ (i : Int) ∧ (i : Int) < n) ∧ (0 ≤ (i : Int) ∧ (i : Int) < n) ∧ fok .add .f64 s (absW (x (i : Int).toNat).1) = true ∧ fok .add .f64 (fbin .add .f64 s (absW (x (i : Int).toNat).1)) (absW (x (i : Int).toNat).2) = true ∧
   X .normal 43 [prL n x, AFl (fbin .add .f64 (fbin .add .f64 s (absW (x (i : Int).toNat).1)) (absW (x (i : Int).toNat).2)), aBl (tmC1 t (x (i : Int).toNat)), iv (W (i + 1))] [deadB]) := by kernel_rfl
theorem round40K (n : Nat) (x : Nat → Nat × Nat) (t : Bool) (i : Nat) (X : Ex → Nat → List AV → List Blk → Prop) : roundK Tryd.prog TA FT 300 c40 (tmL 43 (l40 n x aFl t i)) [deadB] [.b true] [0, 4, 5, 6] X =
  (decide ((i : Int) < n) = true ∧ (0 ≤ (i : Int) ∧ (i : Int) < n) ∧ (0 ≤ (i : Int) ∧ (i : Int) < n) ∧ X .normal 43 [prL n x, aFl, aBl (tmC1 t (x (i : Int).toNat)), iv (W (i + 1))] [deadB]) := by kernel_rfl
theorem exit40 (n : Nat) (x : Nat → Nat × Nat) (s : AV) (t : Bool) (i : Nat) (X : Ex → Nat → List AV → List Blk → Prop) : roundK Tryd.prog T FT 300 c40 (tmL 43 (l40 n x s t i)) [deadB] [.b false] [4, 5] X =
  (decide ((i : Int) < n) = false ∧ X (.exit 0) 43 [s, aBl t] [deadB]) := by kernel_rfl
theorem exit40K (n : Nat) (x : Nat → Nat × Nat) (s : AV) (t : Bool) (i : Nat) (X : Ex → Nat → List AV → List Blk → Prop) : roundK Tryd.prog TA FT 300 c40 (tmL 43 (l40 n x s t i)) [deadB] [.b false] [4, 5] X =
  (decide ((i : Int) < n) = false ∧ X (.exit 0) 43 [s, aBl t] [deadB]) := by kernel_rfl
def okWt (n : Nat) (x : Nat → Nat × Nat) : Prop := ∀ i, i < n → fok .add .f64 (smC x i) (absW (x i).1) = true ∧ fok .add .f64 (fbin .add .f64 (smC x i) (absW (x i).1)) (absW (x i).2) = true
theorem loop40 {n : Nat} {x : Nat → Nat × Nat} (hn : n ≤ 17592186044416) (hok : okWt n x) : LoopOk Tryd.prog c40 (tmL 43 (l40 n x (AFl 0) true 0)) [deadB] (.exit 0) (tmL 43 [(4, AFl (smC x n)), (5, aBl (tmC x n))]) [deadB] := by
  refine loop_rounds hm hT FTok 43 n (fun i => l40 n x (AFl (smC x i)) (tmC x i) i) (fun _ => [deadB]) (.exit 0) _ _ (fun e => by cases e) (fun i hi => ⟨300, [.b true], ?_⟩) ⟨300, [.b false], ?_⟩ 0 (Nat.zero_le _)
  · show roundK Tryd.prog T FT 300 c40 (tmL 43 (l40 n x (AFl (smC x i)) (tmC x i) i)) [deadB] [.b true] [0, 4, 5, 6] _
    have h0 : (i : Int).toNat = i := by omega
    have hr : 0 ≤ (i : Int) ∧ (i : Int) < n := ⟨by omega, by omega⟩
    rw [round40, h0]
    refine ⟨decide_eq_true (by omega), hr, hr, (hok i hi).1, (hok i hi).2, rfl, rfl, ⟨sameV.refl _, sameV.refl _, sameV.refl _, iv_same _ _ ?_, trivial⟩, HpLe.refl _⟩
    rw [Wid (by omega) (by omega)]; omega
  · show roundK Tryd.prog T FT 300 c40 (tmL 43 (l40 n x (AFl (smC x n)) (tmC x n) n)) [deadB] [.b false] [4, 5] _
    rw [exit40]
    exact ⟨decide_eq_false (by omega), rfl, rfl, ⟨sameV.refl _, sameV.refl _, trivial⟩, HpLe.refl _⟩
theorem loop40K0 {n : Nat} {x : Nat → Nat × Nat} (hn : n ≤ 17592186044416) : LoopOk Tryd.prog c40 (tmL 43 (l40 n x aFl true 0)) [deadB] (.exit 0) (tmL 43 [(4, aFl), (5, aBl (tmC x n))]) [deadB] := by
  refine loop_rounds hm hTA FTok 43 n (fun i => l40 n x aFl (tmC x i) i) (fun _ => [deadB]) (.exit 0) _ _ (fun e => by cases e) (fun i hi => ⟨300, [.b true], ?_⟩) ⟨300, [.b false], ?_⟩ 0 (Nat.zero_le _)
  · show roundK Tryd.prog TA FT 300 c40 (tmL 43 (l40 n x aFl (tmC x i) i)) [deadB] [.b true] [0, 4, 5, 6] _
    have h0 : (i : Int).toNat = i := by omega
    have hr : 0 ≤ (i : Int) ∧ (i : Int) < n := ⟨by omega, by omega⟩
    rw [round40K, h0]
    refine ⟨decide_eq_true (by omega), hr, hr, rfl, rfl, ⟨sameV.refl _, sameV.refl _, sameV.refl _, iv_same _ _ ?_, trivial⟩, HpLe.refl _⟩
    rw [Wid (by omega) (by omega)]; omega
  · show roundK Tryd.prog TA FT 300 c40 (tmL 43 (l40 n x aFl (tmC x n) n)) [deadB] [.b false] [4, 5] _
    rw [exit40K]
    exact ⟨decide_eq_false (by omega), rfl, rfl, ⟨sameV.refl _, sameV.refl _, trivial⟩, HpLe.refl _⟩
theorem get40_0 (n : Nat) (x : Nat → Nat × Nat) (s : AV) (t : Bool) (i : Nat) : getT (tmL 43 (l40 n x s t i)) 0 = prL n x := by kernel_rfl
theorem get40_4 (n : Nat) (x : Nat → Nat × Nat) (s : AV) (t : Bool) (i : Nat) : getT (tmL 43 (l40 n x s t i)) 4 = s := by kernel_rfl
theorem get40_5 (n : Nat) (x : Nat → Nat × Nat) (s : AV) (t : Bool) (i : Nat) : getT (tmL 43 (l40 n x s t i)) 5 = aBl t := by kernel_rfl
theorem get40_6 (n : Nat) (x : Nat → Nat × Nat) (s : AV) (t : Bool) (i : Nat) : getT (tmL 43 (l40 n x s t i)) 6 = iv i := by kernel_rfl
theorem loop40K {n : Nat} {x : Nat → Nat × Nat} (hn : n ≤ 17592186044416) : LoopOk Tryd.prog c40 (tmL 43 (l40 n x (AFl 0) true 0)) [deadB] (.exit 0) (tmL 43 [(4, aFl), (5, aBl (tmC x n))]) [deadB] := by
  refine (loop40K0 hn).weakM fun E p hp u hr => ?_
  simp only [l40, List.mem_cons, List.not_mem_nil, or_false] at hp
  rcases hp with rfl | rfl | rfl | rfl
  · rw [get40_0] at hr; exact hr
  · rw [get40_4] at hr; exact ⟨0, hr.1⟩
  · rw [get40_5] at hr; exact hr
  · rw [get40_6] at hr; exact hr
noncomputable def F40 (n : Nat) (x : Nat → Nat × Nat) (s : AV) (q : Prop) : Fns := FT.addLoop 0 c40 (loopC 43 (l40 n x (AFl 0) true 0) [deadB] q (.exit 0) [(4, s), (5, aBl (tmC x n))] [deadB])
theorem run40 (n : Nat) (x : Nat → Nat × Nat) (c : C1) (q : Prop) (K : Option AV → List Blk → Prop) : runK Tryd.prog T (F40 n x (.one c) q) 300 Tryd.f40 [prL n x] [deadB] [.l 0] K =
  (c40 = c40 ∧ ((43 = 43 ∧ startLs [prL n x, .one (.sc (.float .f64 0) true), .one (.sc (.bool true) true), .one (.sc (.int .i64 0) true)] ((l40 n x (AFl 0) true 0).map (·.2)) ∧ startBs [deadB] [deadB]) ∧ q) ∧ K (some (.tup [(false, [c]), (false, [.sc (.bool (tmC x n)) false])])) [deadB]) := by kernel_rfl
def GWt : List AV → Option (Prop × AV × Blk)
  | [.one (.lst n N 2 f)] => some (n ≤ 17592186044416 ∧ n ≤ N ∧ (∀ k, k < n → f k = pF (wd2 f) k) ∧ okWt n (wd2 f), .tup [(false, [FC (smC (wd2 f) n)]), (false, [.sc (.bool (tmC (wd2 f) n)) false])], deadB)
  | _ => none
def GWtK : List AV → Option (Prop × AV × Blk)
  | [.one (.lst n N 2 f)] => some (n ≤ 17592186044416 ∧ n ≤ N ∧ (∀ k, k < n → f k = pF (wd2 f) k), .tup [(false, [FU]), (false, [.sc (.bool (tmC (wd2 f) n)) false])], deadB)
  | _ => none
theorem gcon40 : GCon Tryd.prog 40 GWt := by
  refine gcon_of_runA hm hT Tryd.func40 Tryd.call40 fun args p v b h hp => ?_
  unfold GWt at h
  split at h
  · rename_i n N f
    simp only [Option.some.injEq, Prod.mk.injEq] at h
    obtain ⟨rfl, rfl, rfl⟩ := h
    obtain ⟨hn, hnN, hf, hok⟩ := hp
    generalize wd2 f = x at *
    refine ⟨.inl rfl, dead_free, F40 n x (AFl (smC x n)) True, [prL n x], FTok.addKeep 0 fun _ => loop40 hn hok, fun E us hr => ?_, 300, [.l 0], [], ?_⟩
    · obtain ⟨u, us, rfl, h1, h2⟩ := hr.cons
      exact .mk (lst_less (Nat.le_refl _) hnN hf h1) h2
    · exact of_run (run40 n x (FC (smC x n)) _ _) ⟨rfl, ⟨⟨rfl, ⟨rfl, rfl, rfl, rfl, trivial⟩, startBs.refl _⟩, trivial⟩, _, rfl, nothing_left noFroz ⟨⟨rfl, rfl, trivial⟩, ⟨rfl, rfl, trivial⟩, trivial⟩⟩
  · cases h
theorem gcon40K : GCon Tryd.prog 40 GWtK := by
  refine gcon_of_runA hm hT Tryd.func40 Tryd.call40 fun args p v b h hp => ?_
  unfold GWtK at h
  split at h
  · rename_i n N f
    simp only [Option.some.injEq, Prod.mk.injEq] at h
    obtain ⟨rfl, rfl, rfl⟩ := h
    obtain ⟨hn, hnN, hf⟩ := hp
    generalize wd2 f = x at *
    refine ⟨.inl rfl, dead_free, F40 n x aFl True, [prL n x], FTok.addKeep 0 fun _ => loop40K hn, fun E us hr => ?_, 300, [.l 0], [], ?_⟩
    · obtain ⟨u, us, rfl, h1, h2⟩ := hr.cons
      exact .mk (lst_less (Nat.le_refl _) hnN hf h1) h2
    · exact of_run (run40 n x FU _ _) ⟨rfl, ⟨⟨rfl, ⟨rfl, rfl, rfl, rfl, trivial⟩, startBs.refl _⟩, trivial⟩, _, rfl, nothing_left noFroz ⟨⟨rfl, rfl, trivial⟩, ⟨rfl, rfl, trivial⟩, trivial⟩⟩
  · cases h
end Go.Proofs.YthddkcoflnbjbaaDoor
