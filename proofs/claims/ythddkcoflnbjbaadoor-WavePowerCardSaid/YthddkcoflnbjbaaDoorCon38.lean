/-
  What is proved here: the loops of the law WavePower. the loops of the law WavePower behind its calls. the last loops of the law WavePower. the whole runs of the law WavePower. A text to be imported.
-/
import Derived.Test.YthddkcoflnbjbaaDoorCon36
namespace Go.Proofs.YthddkcoflnbjbaaDoor
open Sm Go Go.RowKit Fl Ieee
set_option maxRecDepth 1000000
set_option linter.unusedVariables false
/-- The tables where a list that is appended to nothing is one's own. -/
noncomputable def Tg : Tab := { T with tr := true }
theorem hTg : TabOk Tryd.prog Tg := ⟨hT.ty, hT.eq, hT.fn⟩
noncomputable def c13a : Code := pathC (bodyC Tryd.f13) [0]
noncomputable def c13b : Code := pathC (bodyC Tryd.f13) [1]
noncomputable def c13c : Code := pathC (bodyC Tryd.f13) [2]
noncomputable def c13d : Code := pathC (bodyC Tryd.f13) [3]
noncomputable def c13e : Code := pathC (bodyC Tryd.f13) [4]
noncomputable def c13f : Code := pathC (bodyC Tryd.f13) [5]
def P77 : Nat := 4635118810238550016
def pX (n : Nat) (x : Nat → Nat) (k : Nat) : Nat := bif Nat.blt k n then x k else P77
def l13a (n : Nat) (x : Nat → Nat) (b i : Nat) : List (Nat × AV) := [(0, xF n x), (3, .one (.gr b (n + i) 1)), (4, iv i)]
def l13 (n : Nat) (x : Nat → Nat) : Nat → List (Nat × AV)
  | 0 => l13a n x 1 0
  | i + 1 => l13a n x 2 (i + 1)
def h13 (n : Nat) (x : Nat → Nat) : Nat → List Blk
  | 0 => [deadB, gB 25 (n + 0) 1 (fF x), deadB]
  | i + 1 => [deadB, deadB, gB 25 (n + (i + 1)) 1 (fF (pX n x))]
def one77 : Blk := { body := .li [.sc (.float .f64 P77) true], elem := 25, live := true, ro := false }
def oneA (m : Nat) : Prop := (m = m ∧ (m = 0 ∨ Nat.blt 0 m = true)) ∧ True ∧ (∀ k : Nat, 1 = 1 ∧ 1 = 1) ∧ (m + 1) * 8 ≤ 140737488355328 ∧ m + 1 ≤ maxLen
theorem round13a0 (n : Nat) (x : Nat → Nat) (X : Ex → Nat → List AV → List Blk → Prop) : roundK Tryd.prog Tg FT 300 c13a (tmL 207 (l13a n x 1 0)) [deadB, gB 25 (n + 0) 1 (fF x), deadB] [.b true] [0, 3, 4] X =
  (decide (((0 : Nat) : Int) < 8) = true ∧ oneA (n + 0) ∧ X .normal 207 [xF n x, .one (.gr 4 (n + 0 + 1) 1), iv (W ((0 : Nat) + 1))] [deadB, { gB 25 (n + 0) 1 (fF x) with live := false }, deadB, one77, { body := .rs (n + 0 + 1) 1 (catR (n + 0) (fF x) fun _ => [.sc (.float .f64 P77) true]), elem := 25, live := true, ro := false }]) := by kernel_rfl
theorem round13a (n : Nat) (x : Nat → Nat) (i : Nat) (X : Ex → Nat → List AV → List Blk → Prop) : roundK Tryd.prog Tg FT 300 c13a (tmL 207 (l13a n x 2 (i + 1))) [deadB, deadB, gB 25 (n + (i + 1)) 1 (fF (pX n x))] [.b true] [0, 3, 4] X =
  (decide (((i + 1 : Nat) : Int) < 8) = true ∧ oneA (n + (i + 1)) ∧ X .normal 207 [xF n x, .one (.gr 4 (n + (i + 1) + 1) 1), iv (W ((i + 1 : Nat) + 1))] [deadB, deadB, { gB 25 (n + (i + 1)) 1 (fF (pX n x)) with live := false }, one77, { body := .rs (n + (i + 1) + 1) 1 (catR (n + (i + 1)) (fF (pX n x)) fun _ => [.sc (.float .f64 P77) true]), elem := 25, live := true, ro := false }]) := by kernel_rfl
theorem exit13a (n : Nat) (x : Nat → Nat) (X : Ex → Nat → List AV → List Blk → Prop) : roundK Tryd.prog Tg FT 300 c13a (tmL 207 (l13a n x 2 8)) [deadB, deadB, gB 25 (n + 8) 1 (fF (pX n x))] [.b false] [0, 3] X =
  (decide (((8 : Nat) : Int) < 8) = false ∧ X (.exit 0) 207 [xF n x, .one (.gr 2 (n + 8) 1)] [deadB, deadB, gB 25 (n + 8) 1 (fF (pX n x))]) := by kernel_rfl
theorem pX_lt {n k : Nat} {x : Nat → Nat} (h : k < n) : pX n x k = x k := by
  unfold pX
  rw [show Nat.blt k n = true from by rw [blt_eq]; exact decide_eq_true h]
  rfl
theorem pX_ge {n k : Nat} {x : Nat → Nat} (h : n ≤ k) : pX n x k = P77 := by
  unfold pX
  rw [show Nat.blt k n = false from by rw [blt_eq]; exact decide_eq_false (by omega)]
  rfl
theorem renC_77 {a z : Nat} {js : List Nat} {hp : List Blk} {y : Nat} (h : P77 = y) : renC a z js hp (.sc (.float .f64 P77) true) (FC y) := by subst h; rfl
def pLst (n : Nat) (x : Nat → Nat) : AV := .one (.lst (n + 8) (n + 8) 1 (fF (pX n x)))
theorem xF_ren {a z : Nat} {js : List Nat} {hp : List Blk} (n : Nat) (x : Nat → Nat) : renA a z js hp (xF n x) (xF n x) := ⟨rfl, rfl, rfl, fun _ _ => rfl⟩
theorem loop13a {n : Nat} {x : Nat → Nat} (hn : (n + 8) * 8 ≤ 140737488355328) : LoopOkB Tryd.prog 2 c13a (tmL 207 (l13 n x 0)) (h13 n x 0) (.exit 0) (tmL 207 [(0, xF n x), (3, pLst n x)]) [deadB, deadB, deadB] := by
  have hA : ∀ m, m < n + 8 → oneA m := fun m hm => ⟨⟨rfl, live0 m⟩, trivial, fun k => ⟨rfl, rfl⟩, by omega, by show m + 1 ≤ 9223372036854775807; omega⟩
  refine grow_rounds hm hTg 2 207 8 (l13 n x) (h13 n x) (.exit 0) _ _ (by simp) (fun i _ => by cases i <;> simp [h13]) (fun i hi => ?_) ⟨FT, FTok, 300, [.b false], [2], ?_⟩ 0 (Nat.zero_le _)
  · cases i with
    | zero =>
      refine ⟨FT, FTok, 300, [.b true], [], ?_⟩
      show roundK Tryd.prog Tg FT 300 c13a (tmL 207 (l13a n x 1 0)) [deadB, gB 25 (n + 0) 1 (fF x), deadB] [.b true] [0, 3, 4] _
      rw [round13a0]
      exact ⟨rfl, hA _ (by omega), rfl, rfl, _, [deadB, _], [deadB, one77], _, [deadB, deadB], gB 25 (n + 0 + 1) 1 (fF (pX n x)), .inl rfl, rfl, rfl, rfl, noFroz, ⟨xF_ren _ _, ⟨rfl, rfl, rfl⟩, sc_eq rfl, trivial⟩, ⟨.inl rfl, .inl rfl, trivial⟩,
        gB_cat (fun k => rfl) rfl (fun k hk => renCs_L ⟨renC_FC (pX_lt hk).symm, trivial⟩) (renCs_L ⟨renC_77 (pX_ge (Nat.le_refl _)).symm, trivial⟩)⟩
    | succ i =>
      refine ⟨FT, FTok, 300, [.b true], [], ?_⟩
      show roundK Tryd.prog Tg FT 300 c13a (tmL 207 (l13a n x 2 (i + 1))) [deadB, deadB, gB 25 (n + (i + 1)) 1 (fF (pX n x))] [.b true] [0, 3, 4] _
      rw [round13a]
      refine ⟨decide_eq_true (by omega), hA _ (by omega), rfl, rfl, _, [deadB, deadB], [_, one77], _, [deadB, deadB], gB 25 (n + (i + 1) + 1) 1 (fF (pX n x)), .inl rfl, rfl, rfl, rfl, noFroz, ⟨xF_ren _ _, ⟨rfl, rfl, rfl⟩, sc_eq ?_, trivial⟩, ⟨.inl rfl, .inl rfl, trivial⟩,
        gB_cat (fun k => rfl) rfl (fun k hk => renCs_L ⟨renC_FC rfl, trivial⟩) (renCs_L ⟨renC_77 (pX_ge (by omega)).symm, trivial⟩)⟩
      rw [Wid (by omega) (by omega)]; rfl
  · show roundK Tryd.prog Tg FT 300 c13a (tmL 207 (l13a n x 2 8)) [deadB, deadB, gB 25 (n + 8) 1 (fF (pX n x))] [.b false] [0, 3] _
    rw [exit13a]
    refine ⟨rfl, rfl, rfl, [deadB, deadB, gB 25 (n + 8) 1 (fF (pX n x)), deadB], [deadB, deadB], [_], deadB, [deadB, deadB], deadB, .inr rfl, rfl, rfl, rfl, fun j hj => ?_, ⟨xF_ren _ _, ⟨rfl, rfl, rfl, froz_gB (by simp) rfl fun k => rfl⟩, trivial⟩, ⟨.inl rfl, .inl rfl, trivial⟩, .inl rfl⟩
    obtain rfl := List.mem_singleton.1 hj
    refine ⟨Nat.le_refl _, by simp, fun y hy => ?_⟩
    obtain rfl := Option.some.inj hy
    exact ⟨rfl, gB_free fun k => free1 trivial⟩
noncomputable def l13q (n : Nat) (x : Nat → Nat) (q : Prop) : Tm → List Blk → Option (Prop × Ex × Tm × List Blk) := loopC 207 (l13 n x 0) [deadB, gB 25 (n + 0) 1 (fF x)] q (.exit 0) [(0, xF n x), (3, pLst n x)] [deadB, deadB, deadB]
end Go.Proofs.YthddkcoflnbjbaaDoor
namespace Sm
open Go Go.RowKit
theorem RT.weakL {E : Env} {tm : Tm} {ts : Array Value} (h : RT E tm ts) : ∀ (l : List (Nat × AV)), (∀ p ∈ l, ∀ u, RV E (getT tm p.1) u → RV E p.2 u) → RT E (tmL tm.n l) ts
  | [], _ => by
    refine ⟨h.1, h.2.1, fun i hi => ?_⟩
    have : getT (tmL tm.n []) i = .bad := by
      simp only [tmL, getT]
      rw [show Nat.blt i tm.n = true from by rw [blt_eq]; simpa [tmL] using hi]
      rfl
    rw [this]; trivial
  | (k, v) :: l, hl => by
    have ih := RT.weakL h l fun p hp => hl p (List.mem_cons_of_mem _ hp)
    refine ⟨by rw [tmL, setT_n, tmL_n]; exact h.1, by rw [tmL, setT_n, tmL_n]; exact h.2.1, fun i hi => ?_⟩
    rw [tmL, setT_n, tmL_n] at hi
    rw [tmL, getT_setT (by rw [tmL_n]; exact h.2.1) (by rw [tmL_n]; exact hi)]
    by_cases hk : k = i
    · subst hk
      rw [if_pos rfl]
      exact hl (k, v) List.mem_cons_self _ (h.2.2 k hi)
    · rw [if_neg hk]
      exact ih.2.2 i (by rw [tmL_n]; exact hi)
theorem LoopOk.weakL {P : Program} {c : Code} {n : Nat} {l0 l1 : List (Nat × AV)} {hp : List Blk} {x : Ex} {tm' : Tm} {hp' : List Blk} (h : LoopOk P c (tmL n l1) hp x tm' hp') (hw : ∀ E, ∀ p ∈ l1, ∀ u, RV E (getT (tmL n l0) p.1) u → RV E p.2 u) : LoopOk P c (tmL n l0) hp x tm' hp' := by
  intro B w0 E ac w Q hh ht hq
  refine h B w0 E ac w Q hh ?_ hq
  have := ht.weakL l1 (hw E)
  rwa [tmL_n] at this
end Sm
namespace Go.Proofs.YthddkcoflnbjbaaDoor
open Sm Go Go.RowKit Fl Ieee
set_option maxRecDepth 1000000
set_option linter.unusedVariables false
def nq (x y : Nat) : Bool := FloatKind.f64.format.order x y != some .eq
def alk (x y : Nat) : Bool := bif feq x y then true else bif nq x x then nq y y else false
theorem run30 (x y : Nat) (u : Value) : runK Tryd.prog T FT 300 Tryd.f30 [AFl x, AFl y] [] [] (fun r _ => resW r = some u) = (some (Value.bool (alk x y)) = some u) := by kernel_rfl
def GAlk : List ArgV → Option Value
  | [.val (.float .f64 x), .val (.float .f64 y)] => some (.bool (alk x y))
  | _ => none
theorem con30 : Con Tryd.prog 30 GAlk := by
  refine con_of_runW hm hT FTok Tryd.func30 Tryd.call30 fun avs u h => ?_
  unfold GAlk at h
  split at h
  · simp only [Option.some.injEq] at h; subst h
    exact ⟨[false, false], 300, [], _, _, rfl, of_run (run30 _ _ _) rfl⟩
  · cases h
theorem alk_self (x : Nat) : alk x x = true := by
  unfold alk feq nq
  cases h : FloatKind.f64.format.order x x == some .eq with
  | true => rfl
  | false =>
    have : (FloatKind.f64.format.order x x != some .eq) = true := by simp only [bne, h, Bool.not_false]
    rw [this]; rfl
noncomputable def FAk : Fns := FT.add 30 GAlk
theorem FAkok : FnsOk Tryd.prog FAk := FTok.add con30
def ABl (t : Bool) : AV := .one (.sc (.bool t) false)
def aFU : AV := .one (.fl .f64)
def sl1 (b n : Nat) : AV := .one (.sl b 0 n 1)
def aF0 : AV := .one (.sc (.bool false) true)
def aT1 : AV := .one (.sc (.bool true) false)
def lstU (n : Nat) : AV := .one (.lst n n 1 U1)
/-! the first loop -/
def l13b (n : Nat) (x : Nat → Nat) (a5 a7 a9 s : AV) (t : Bool) (i : Nat) : List (Nat × AV) := [(0, xF n x), (3, pLst n x), (5, a5), (7, a7), (9, a9), (11, s), (12, ABl t), (13, iv i)]
def w1e100 : Nat := 6103021453049119613
theorem round13bT (n : Nat) (x : Nat → Nat) (a5 a7 a9 : AV) (t : Bool) (i : Nat) (bs : List Blk) (X : Ex → Nat → List AV → List Blk → Prop) : roundK Tryd.prog T0 FAk 300 c13b (tmL 207 (l13b n x a5 a7 a9 aFU t i)) bs [.b true, .b false, .b true, .b false, .b true, .b true] [0, 3, 5, 7, 9, 11, 12, 13] X =
  (decide ((i : Int) < (n + 8 : Nat)) = true ∧ decide ((i : Int) ≥ n) = false ∧ decide ((i : Int) < n) = true ∧ (0 ≤ (i : Int) ∧ (i : Int) < (n + 8 : Nat)) ∧ (0 ≤ (i : Int) ∧ (i : Int) < n) ∧
   (!alk (pX n x (i : Int).toNat) (x (i : Int).toNat)) = false ∧ decide ((i : Int) < n) = true ∧ t = true ∧ (0 ≤ (i : Int) ∧ (i : Int) < n) ∧ (0 ≤ (i : Int) ∧ (i : Int) < n) ∧
   X .normal 207 [xF n x, pLst n x, a5, a7, a9, aFU, ABl (fle (absW (x (i : Int).toNat)) w1e100), iv (W (i + 1))] bs) := by kernel_rfl
theorem round13bF (n : Nat) (x : Nat → Nat) (a5 a7 a9 : AV) (t : Bool) (i : Nat) (bs : List Blk) (X : Ex → Nat → List AV → List Blk → Prop) : roundK Tryd.prog T0 FAk 300 c13b (tmL 207 (l13b n x a5 a7 a9 aFU t i)) bs [.b true, .b false, .b true, .b false, .b true, .b false] [0, 3, 5, 7, 9, 11, 12, 13] X =
  (decide ((i : Int) < (n + 8 : Nat)) = true ∧ decide ((i : Int) ≥ n) = false ∧ decide ((i : Int) < n) = true ∧ (0 ≤ (i : Int) ∧ (i : Int) < (n + 8 : Nat)) ∧ (0 ≤ (i : Int) ∧ (i : Int) < n) ∧
   (!alk (pX n x (i : Int).toNat) (x (i : Int).toNat)) = false ∧ decide ((i : Int) < n) = true ∧ t = false ∧ (0 ≤ (i : Int) ∧ (i : Int) < n) ∧
   X .normal 207 [xF n x, pLst n x, a5, a7, a9, aFU, aF0, iv (W (i + 1))] bs) := by kernel_rfl
theorem round13bS (n : Nat) (x : Nat → Nat) (a5 a7 a9 : AV) (s : Nat) (t : Bool) (i : Nat) (bs : List Blk) (X : Ex → Nat → List AV → List Blk → Prop) : roundK Tryd.prog T0 FAk 300 c13b (tmL 207 (l13b n x a5 a7 a9 (AFl s) t i)) bs [.b true, .b false, .b true, .b false, .b true, .b true] [0, 3, 5, 7, 9, 11, 12, 13] X =
  (decide ((i : Int) < (n + 8 : Nat)) = true ∧ decide ((i : Int) ≥ n) = false ∧ decide ((i : Int) < n) = true ∧ (0 ≤ (i : Int) ∧ (i : Int) < (n + 8 : Nat)) ∧ (0 ≤ (i : Int) ∧ (i : Int) < n) ∧
   (!alk (pX n x (i : Int).toNat) (x (i : Int).toNat)) = false ∧ decide ((i : Int) < n) = true ∧ t = true ∧ (0 ≤ (i : Int) ∧ (i : Int) < n) ∧ (0 ≤ (i : Int) ∧ (i : Int) < n) ∧ fok .add .f64 s (absW (x (i : Int).toNat)) = true ∧
   X .normal 207 [xF n x, pLst n x, a5, a7, a9, AFl (fbin .add .f64 s (absW (x (i : Int).toNat))), ABl (fle (absW (x (i : Int).toNat)) w1e100), iv (W (i + 1))] bs) := by kernel_rfl
theorem round13b8 (n : Nat) (x : Nat → Nat) (a5 a7 a9 aS : AV) (t : Bool) (i : Nat) (bs : List Blk) (X : Ex → Nat → List AV → List Blk → Prop) : roundK Tryd.prog T0 FAk 300 c13b (tmL 207 (l13b n x a5 a7 a9 aS t i)) bs [.b true, .b true, .b false, .b false, .b false] [0, 3, 5, 7, 9, 11, 12, 13] X =
  (decide ((i : Int) < (n + 8 : Nat)) = true ∧ decide ((i : Int) ≥ n) = true ∧ (0 ≤ (i : Int) ∧ (i : Int) < (n + 8 : Nat)) ∧ nq (pX n x (i : Int).toNat) P77 = false ∧ decide ((i : Int) < n) = false ∧ decide ((i : Int) < n) = false ∧
   X .normal 207 [xF n x, pLst n x, a5, a7, a9, aS, ABl t, iv (W (i + 1))] bs) := by kernel_rfl
theorem exit13b (n : Nat) (x : Nat → Nat) (a5 a7 a9 aS : AV) (t : Bool) (i : Nat) (bs : List Blk) (X : Ex → Nat → List AV → List Blk → Prop) : roundK Tryd.prog T0 FAk 300 c13b (tmL 207 (l13b n x a5 a7 a9 aS t i)) bs [.b false] [5, 7, 9, 11, 12] X =
  (decide ((i : Int) < (n + 8 : Nat)) = false ∧ X (.exit 2) 207 [a5, a7, a9, aS, ABl t] bs) := by kernel_rfl
/-- Whether all so far are tame. -/
def tmB (n : Nat) (x : Nat → Nat) : Nat → Bool
  | 0 => true
  | i + 1 => bif Nat.blt i n then (bif tmB n x i then fle (absW (x i)) w1e100 else false) else tmB n x i
theorem blt_t {i n : Nat} (h : i < n) : Nat.blt i n = true := by rw [blt_eq]; exact decide_eq_true h
theorem blt_f {i n : Nat} (h : n ≤ i) : Nat.blt i n = false := by rw [blt_eq]; exact decide_eq_false (by omega)
theorem nq77 : nq P77 P77 = false := by decide +kernel
theorem sameV_b {a b : Bool} {s t : Bool} (h : a = b) : sameV (.one (.sc (.bool a) s)) (.one (.sc (.bool b) t)) := by subst h; rfl
theorem loop13bU0 {n : Nat} {x : Nat → Nat} {a5 a7 a9 aT : AV} {bs : List Blk} (hn : n ≤ bigN) (ht : sameV (ABl (tmB n x (n + 8))) aT) :
    LoopOk Tryd.prog c13b (tmL 207 (l13b n x a5 a7 a9 aFU (tmB n x 0) 0)) bs (.exit 2) (tmL 207 [(5, a5), (7, a7), (9, a9), (11, aFU), (12, aT)]) bs := by
  have hn2 : n ≤ 17592186044416 := hn
  refine loop_rounds hm hT0 FAkok 207 (n + 8) (fun i => l13b n x a5 a7 a9 aFU (tmB n x i) i) (fun _ => bs) (.exit 2) _ _ (fun e => by cases e) (fun i hi => ?_) ⟨300, [.b false], ?_⟩ 0 (Nat.zero_le _)
  · have h0 : (i : Int).toNat = i := by omega
    by_cases hin : i < n
    · have hr : 0 ≤ (i : Int) ∧ (i : Int) < n := ⟨by omega, by omega⟩
      have hr8 : 0 ≤ (i : Int) ∧ (i : Int) < (n + 8 : Nat) := ⟨by omega, by omega⟩
      have hal : (!alk (pX n x i) (x i)) = false := by rw [pX_lt hin, alk_self]; rfl
      cases htb : tmB n x i with
      | true =>
        refine ⟨300, [.b true, .b false, .b true, .b false, .b true, .b true], ?_⟩
        show roundK Tryd.prog T0 FAk 300 c13b (tmL 207 (l13b n x a5 a7 a9 aFU true i)) bs [.b true, .b false, .b true, .b false, .b true, .b true] [0, 3, 5, 7, 9, 11, 12, 13] _
        rw [round13bT, h0]
        refine ⟨decide_eq_true (by omega), decide_eq_false (by omega), decide_eq_true (by omega), hr8, hr, hal, decide_eq_true (by omega), rfl, hr, hr, rfl, rfl, ⟨sameV.refl _, sameV.refl _, sameV.refl _, sameV.refl _, sameV.refl _, sameV.refl _, sameV_b ?_, iv_same _ _ ?_, trivial⟩, HpLe.refl _⟩
        · show _ = bif Nat.blt i n then (bif tmB n x i then fle (absW (x i)) w1e100 else false) else tmB n x i
          rw [blt_t hin, htb]; rfl
        · rw [Wid (by omega) (by omega)]; omega
      | false =>
        refine ⟨300, [.b true, .b false, .b true, .b false, .b true, .b false], ?_⟩
        show roundK Tryd.prog T0 FAk 300 c13b (tmL 207 (l13b n x a5 a7 a9 aFU false i)) bs [.b true, .b false, .b true, .b false, .b true, .b false] [0, 3, 5, 7, 9, 11, 12, 13] _
        rw [round13bF, h0]
        refine ⟨decide_eq_true (by omega), decide_eq_false (by omega), decide_eq_true (by omega), hr8, hr, hal, decide_eq_true (by omega), rfl, hr, rfl, rfl, ⟨sameV.refl _, sameV.refl _, sameV.refl _, sameV.refl _, sameV.refl _, sameV.refl _, sameV_b ?_, iv_same _ _ ?_, trivial⟩, HpLe.refl _⟩
        · show _ = bif Nat.blt i n then (bif tmB n x i then fle (absW (x i)) w1e100 else false) else tmB n x i
          rw [blt_t hin, htb]; rfl
        · rw [Wid (by omega) (by omega)]; omega
    · refine ⟨300, [.b true, .b true, .b false, .b false, .b false], ?_⟩
      show roundK Tryd.prog T0 FAk 300 c13b (tmL 207 (l13b n x a5 a7 a9 aFU (tmB n x i) i)) bs [.b true, .b true, .b false, .b false, .b false] [0, 3, 5, 7, 9, 11, 12, 13] _
      rw [round13b8, h0]
      refine ⟨decide_eq_true (by omega), decide_eq_true (by omega), ⟨by omega, by omega⟩, by rw [pX_ge (by omega)]; exact nq77, decide_eq_false (by omega), decide_eq_false (by omega), rfl, rfl, ⟨sameV.refl _, sameV.refl _, sameV.refl _, sameV.refl _, sameV.refl _, sameV.refl _, sameV_b ?_, iv_same _ _ ?_, trivial⟩, HpLe.refl _⟩
      · show _ = bif Nat.blt i n then (bif tmB n x i then fle (absW (x i)) w1e100 else false) else tmB n x i
        rw [blt_f (by omega)]; rfl
      · rw [Wid (by omega) (by omega)]; omega
  · show roundK Tryd.prog T0 FAk 300 c13b (tmL 207 (l13b n x a5 a7 a9 aFU (tmB n x (n + 8)) (n + 8))) bs [.b false] [5, 7, 9, 11, 12] _
    rw [exit13b]
    exact ⟨decide_eq_false (by omega), rfl, rfl, ⟨sameV.refl _, sameV.refl _, sameV.refl _, sameV.refl _, ht, trivial⟩, HpLe.refl _⟩
theorem get13_0 (n : Nat) (x : Nat → Nat) (a5 a7 a9 s : AV) (t : Bool) (i : Nat) : getT (tmL 207 (l13b n x a5 a7 a9 s t i)) 0 = xF n x := by kernel_rfl
theorem get13_3 (n : Nat) (x : Nat → Nat) (a5 a7 a9 s : AV) (t : Bool) (i : Nat) : getT (tmL 207 (l13b n x a5 a7 a9 s t i)) 3 = pLst n x := by kernel_rfl
theorem get13_5 (n : Nat) (x : Nat → Nat) (a5 a7 a9 s : AV) (t : Bool) (i : Nat) : getT (tmL 207 (l13b n x a5 a7 a9 s t i)) 5 = a5 := by kernel_rfl
theorem get13_7 (n : Nat) (x : Nat → Nat) (a5 a7 a9 s : AV) (t : Bool) (i : Nat) : getT (tmL 207 (l13b n x a5 a7 a9 s t i)) 7 = a7 := by kernel_rfl
theorem get13_9 (n : Nat) (x : Nat → Nat) (a5 a7 a9 s : AV) (t : Bool) (i : Nat) : getT (tmL 207 (l13b n x a5 a7 a9 s t i)) 9 = a9 := by kernel_rfl
theorem get13_11 (n : Nat) (x : Nat → Nat) (a5 a7 a9 s : AV) (t : Bool) (i : Nat) : getT (tmL 207 (l13b n x a5 a7 a9 s t i)) 11 = s := by kernel_rfl
theorem get13_12 (n : Nat) (x : Nat → Nat) (a5 a7 a9 s : AV) (t : Bool) (i : Nat) : getT (tmL 207 (l13b n x a5 a7 a9 s t i)) 12 = ABl t := by kernel_rfl
theorem get13_13 (n : Nat) (x : Nat → Nat) (a5 a7 a9 s : AV) (t : Bool) (i : Nat) : getT (tmL 207 (l13b n x a5 a7 a9 s t i)) 13 = iv i := by kernel_rfl
theorem loop13bU {n : Nat} {x : Nat → Nat} {a5 a7 a9 aT : AV} {bs : List Blk} (hn : n ≤ bigN) (ht : sameV (ABl (tmB n x (n + 8))) aT) :
    LoopOk Tryd.prog c13b (tmL 207 (l13b n x a5 a7 a9 (AFl 0) true 0)) bs (.exit 2) (tmL 207 [(5, a5), (7, a7), (9, a9), (11, aFU), (12, aT)]) bs := by
  refine (loop13bU0 (a5 := a5) (a7 := a7) (a9 := a9) (bs := bs) hn ht).weakL fun E p hp u hr => ?_
  simp only [l13b, List.mem_cons, List.not_mem_nil, or_false] at hp
  rcases hp with rfl | rfl | rfl | rfl | rfl | rfl | rfl | rfl
  · rw [get13_0] at hr; exact hr
  · rw [get13_3] at hr; exact hr
  · rw [get13_5] at hr; exact hr
  · rw [get13_7] at hr; exact hr
  · rw [get13_9] at hr; exact hr
  · rw [get13_11] at hr; exact ⟨0, hr.1⟩
  · rw [get13_12] at hr; exact hr
  · rw [get13_13] at hr; exact hr
/-- The sizes, added up. -/
def sB13 (n : Nat) (x : Nat → Nat) (i : Nat) : Nat := fsum (fun j => absW (x j)) 0 (min i n)
theorem loop13bT {n : Nat} {x : Nat → Nat} {a5 a7 a9 : AV} {bs : List Blk} (hn : n ≤ bigN) (htm : ∀ i, i < n → fle (absW (x i)) w1e100 = true) (hok : ∀ i, i < n → fok .add .f64 (fsum (fun j => absW (x j)) 0 i) (absW (x i)) = true) :
    LoopOk Tryd.prog c13b (tmL 207 (l13b n x a5 a7 a9 (AFl 0) true 0)) bs (.exit 2) (tmL 207 [(5, a5), (7, a7), (9, a9), (11, AFl (fsum (fun j => absW (x j)) 0 n)), (12, aT1)]) bs := by
  have hn2 : n ≤ 17592186044416 := hn
  have hstart : AFl 0 = AFl (sB13 n x 0) := by unfold sB13; rw [Nat.min_eq_left (Nat.zero_le _)]; rfl
  rw [hstart]
  refine loop_rounds hm hT0 FAkok 207 (n + 8) (fun i => l13b n x a5 a7 a9 (AFl (sB13 n x i)) true i) (fun _ => bs) (.exit 2) _ _ (fun e => by cases e) (fun i hi => ?_) ⟨300, [.b false], ?_⟩ 0 (Nat.zero_le _)
  · have h0 : (i : Int).toNat = i := by omega
    by_cases hin : i < n
    · have hr : 0 ≤ (i : Int) ∧ (i : Int) < n := ⟨by omega, by omega⟩
      have hr8 : 0 ≤ (i : Int) ∧ (i : Int) < (n + 8 : Nat) := ⟨by omega, by omega⟩
      have hal : (!alk (pX n x i) (x i)) = false := by rw [pX_lt hin, alk_self]; rfl
      refine ⟨300, [.b true, .b false, .b true, .b false, .b true, .b true], ?_⟩
      show roundK Tryd.prog T0 FAk 300 c13b (tmL 207 (l13b n x a5 a7 a9 (AFl (sB13 n x i)) true i)) bs [.b true, .b false, .b true, .b false, .b true, .b true] [0, 3, 5, 7, 9, 11, 12, 13] _
      rw [round13bS, h0]
      have e1 : sB13 n x i = fsum (fun j => absW (x j)) 0 i := by unfold sB13; rw [Nat.min_eq_left (by omega)]
      have e2 : sB13 n x (i + 1) = fbin .add .f64 (sB13 n x i) (absW (x i)) := by rw [e1]; unfold sB13; rw [Nat.min_eq_left (by omega)]; rfl
      refine ⟨decide_eq_true (by omega), decide_eq_false (by omega), decide_eq_true (by omega), hr8, hr, hal, decide_eq_true (by omega), rfl, hr, hr, by rw [e1]; exact hok i hin, rfl, rfl, ⟨sameV.refl _, sameV.refl _, sameV.refl _, sameV.refl _, sameV.refl _, ?_, sameV_b (htm i hin), iv_same _ _ ?_, trivial⟩, HpLe.refl _⟩
      · rw [← e2]; exact sameV.refl _
      · rw [Wid (by omega) (by omega)]; omega
    · refine ⟨300, [.b true, .b true, .b false, .b false, .b false], ?_⟩
      show roundK Tryd.prog T0 FAk 300 c13b (tmL 207 (l13b n x a5 a7 a9 (AFl (sB13 n x i)) true i)) bs [.b true, .b true, .b false, .b false, .b false] [0, 3, 5, 7, 9, 11, 12, 13] _
      rw [round13b8, h0]
      have e2 : sB13 n x (i + 1) = sB13 n x i := by unfold sB13; rw [Nat.min_eq_right (by omega), Nat.min_eq_right (by omega)]
      refine ⟨decide_eq_true (by omega), decide_eq_true (by omega), ⟨by omega, by omega⟩, by rw [pX_ge (by omega)]; exact nq77, decide_eq_false (by omega), decide_eq_false (by omega), rfl, rfl, ⟨sameV.refl _, sameV.refl _, sameV.refl _, sameV.refl _, sameV.refl _, ?_, sameV.refl _, iv_same _ _ ?_, trivial⟩, HpLe.refl _⟩
      · rw [e2]; exact sameV.refl _
      · rw [Wid (by omega) (by omega)]; omega
  · show roundK Tryd.prog T0 FAk 300 c13b (tmL 207 (l13b n x a5 a7 a9 (AFl (sB13 n x (n + 8))) true (n + 8))) bs [.b false] [5, 7, 9, 11, 12] _
    rw [exit13b]
    have e1 : sB13 n x (n + 8) = fsum (fun j => absW (x j)) 0 n := by unfold sB13; rw [Nat.min_eq_right (by omega)]
    rw [e1]
    exact ⟨decide_eq_false (by omega), rfl, rfl, ⟨sameV.refl _, sameV.refl _, sameV.refl _, sameV.refl _, sameV.refl _, trivial⟩, HpLe.refl _⟩
end Go.Proofs.YthddkcoflnbjbaaDoor
namespace Go.Proofs.YthddkcoflnbjbaaDoor
open Sm Go Go.RowKit Fl Ieee
set_option maxRecDepth 1000000
set_option linter.unusedVariables false
def lc (n : Nat) (a5 aS aT : AV) (i : Nat) : List (Nat × AV) := [(5, a5), (7, sl1 4 n), (9, sl1 5 n), (11, aS), (12, aT), (14, iv i)]
theorem roundcU (n i : Nat) (bs : List Blk) (X : Ex → Nat → List AV → List Blk → Prop) : roundK Tryd.prog T FAk 300 c13c (tmL 207 (lc n (lstU n) aFU aF0 i)) bs [.b true] [5, 7, 9, 11, 12, 14] X =
  (decide ((i : Int) < n) = true ∧ X .normal 207 [lstU n, sl1 4 n, sl1 5 n, aFU, aF0, iv (W (i + 1))] bs) := by kernel_rfl
theorem exitcU (n i : Nat) (bs : List Blk) (X : Ex → Nat → List AV → List Blk → Prop) : roundK Tryd.prog T FAk 300 c13c (tmL 207 (lc n (lstU n) aFU aF0 i)) bs [.b false] [5, 7, 9, 12] X =
  (decide ((i : Int) < n) = false ∧ X (.exit 4) 207 [lstU n, sl1 4 n, sl1 5 n, aF0] bs) := by kernel_rfl
theorem loopcU {n : Nat} {bs : List Blk} (hn : n ≤ 4096) : LoopOk Tryd.prog c13c (tmL 207 (lc n (lstU n) aFU aF0 0)) bs (.exit 4) (tmL 207 [(5, lstU n), (7, sl1 4 n), (9, sl1 5 n), (12, aF0)]) bs := by
  refine loop_rounds hm hT FAkok 207 n (lc n (lstU n) aFU aF0) (fun _ => bs) (.exit 4) _ _ (fun e => by cases e) (fun i hi => ⟨300, [.b true], ?_⟩) ⟨300, [.b false], ?_⟩ 0 (Nat.zero_le _)
  · show roundK Tryd.prog T FAk 300 c13c (tmL 207 (lc n (lstU n) aFU aF0 i)) bs [.b true] [5, 7, 9, 11, 12, 14] _
    rw [roundcU]
    refine ⟨decide_eq_true (by omega), rfl, rfl, ⟨sameV.refl _, sameV.refl _, sameV.refl _, sameV.refl _, sameV.refl _, iv_same _ _ ?_, trivial⟩, HpLe.refl _⟩
    rw [Wid (by omega) (by omega)]; omega
  · show roundK Tryd.prog T FAk 300 c13c (tmL 207 (lc n (lstU n) aFU aF0 n)) bs [.b false] [5, 7, 9, 12] _
    rw [exitcU]
    exact ⟨decide_eq_false (by omega), rfl, rfl, ⟨sameV.refl _, sameV.refl _, sameV.refl _, sameV.refl _, trivial⟩, HpLe.refl _⟩
/-! tame: the bound, the comparison -/
def k1 : Nat := 4607182418800017408
def k2e9 : Nat := 4476910133257361045
def bdP (s : Nat) : Nat := fbin .mul .f64 (fbin .mul .f64 k2e9 (fbin .add .f64 k1 s)) (fbin .add .f64 k1 s)
def okBd (s : Nat) (r : Prop) : Prop := fok .add .f64 k1 s = true ∧ fok .mul .f64 k2e9 (fbin .add .f64 k1 s) = true ∧ fok .add .f64 k1 s = true ∧ fok .mul .f64 (fbin .mul .f64 k2e9 (fbin .add .f64 k1 s)) (fbin .add .f64 k1 s) = true ∧ r
def badP (s w y y2 : Nat) : Bool := bif true then (bif (bif !fle (absW (fbin .sub .f64 y w)) (bdP s) then true else flt y 0) then true else nq y2 y) else false
def hpP (n : Nat) (y y2 : Nat → Nat) : List Blk := [deadB, deadB, deadB, deadB, pB n y, pB n y2]
theorem roundcT (n i s : Nat) (w y y2 : Nat → Nat) (X : Ex → Nat → List AV → List Blk → Prop) : roundK Tryd.prog T FAk 300 c13c (tmL 207 (lc n (xF n w) (AFl s) aT1 i)) (hpP n y y2) [.b true, .b false] [5, 7, 9, 11, 12, 14] X =
  (decide ((i : Int) < n) = true ∧ (0 ≤ (i : Int) ∧ (i : Int) < n) ∧ 0 + (i : Int).toNat < n ∧ (0 ≤ (i : Int) ∧ (i : Int) < n) ∧ okBd s (fok .sub .f64 (y (0 + (i : Int).toNat)) (w (i : Int).toNat) = true ∧
    (0 ≤ (i : Int) ∧ (i : Int) < n) ∧ 0 + (i : Int).toNat < n ∧ (0 ≤ (i : Int) ∧ (i : Int) < n) ∧ 0 + (i : Int).toNat < n ∧ (0 ≤ (i : Int) ∧ (i : Int) < n) ∧ 0 + (i : Int).toNat < n ∧
    badP s (w (i : Int).toNat) (y (0 + (i : Int).toNat)) (y2 (0 + (i : Int).toNat)) = false ∧
   X .normal 207 [xF n w, sl1 4 n, sl1 5 n, AFl s, aT1, iv (W (i + 1))] (hpP n y y2))) := by kernel_rfl
theorem exitcT (n i s : Nat) (w y y2 : Nat → Nat) (X : Ex → Nat → List AV → List Blk → Prop) : roundK Tryd.prog T FAk 300 c13c (tmL 207 (lc n (xF n w) (AFl s) aT1 i)) (hpP n y y2) [.b false] [5, 7, 9, 12] X =
  (decide ((i : Int) < n) = false ∧ X (.exit 4) 207 [xF n w, sl1 4 n, sl1 5 n, aT1] (hpP n y y2)) := by kernel_rfl
def okPc (n s : Nat) (w y : Nat → Nat) : Prop := okBd s True ∧ ∀ i, i < n → fok .sub .f64 (y i) (w i) = true ∧ badP s (w i) (y i) (y i) = false
theorem pB_pU (n : Nat) (y : Nat → Nat) : BlkLe (pB n y) (pUb n) := ⟨rfl, rfl, rfl, fun E vs hr => ⟨by
    have := hr.1
    rw [show (pB n y).cells = symC n fun j => FC (y j) from rfl, symC_length] at this
    rw [show (pUb n).cells = symC n fun j => FU from rfl, symC_length, this], fun j c v hc hv => by
    have hj : j < n := by
      have := (List.getElem?_eq_some_iff.1 hc).1
      rwa [show (pUb n).cells = symC n fun j => FU from rfl, symC_length] at this
    rw [show (pUb n).cells = symC n fun j => FU from rfl, symC_get _ _ hj] at hc
    simp only [Option.some.injEq] at hc
    subst hc
    have := hr.2 j (FC (y j)) v (by show (symC n fun j => FC (y j))[j]? = _; rw [symC_get _ _ hj]) hv
    exact ⟨_, this.1⟩⟩⟩
theorem loopcT {n s : Nat} {w y : Nat → Nat} (hn : n ≤ 4096) (hok : okPc n s w y) : LoopOk Tryd.prog c13c (tmL 207 (lc n (xF n w) (AFl s) aT1 0)) (hpP n y y) (.exit 4) (tmL 207 [(5, xF n w), (7, sl1 4 n), (9, sl1 5 n), (12, aT1)]) [deadB, deadB, deadB, deadB, pUb n, pB n y] := by
  obtain ⟨⟨b1, b2, b3, b4, _⟩, hk⟩ := hok
  refine loop_rounds hm hT FAkok 207 n (lc n (xF n w) (AFl s) aT1) (fun _ => hpP n y y) (.exit 4) _ _ (fun e => by cases e) (fun i hi => ⟨300, [.b true, .b false], ?_⟩) ⟨300, [.b false], ?_⟩ 0 (Nat.zero_le _)
  · show roundK Tryd.prog T FAk 300 c13c (tmL 207 (lc n (xF n w) (AFl s) aT1 i)) (hpP n y y) [.b true, .b false] [5, 7, 9, 11, 12, 14] _
    have h0 : 0 + (i : Int).toNat = i := by omega
    have h1 : (i : Int).toNat = i := by omega
    have hr : 0 ≤ (i : Int) ∧ (i : Int) < n := ⟨by omega, by omega⟩
    obtain ⟨k1, k2⟩ := hk i hi
    rw [roundcT, h0, h1]
    refine ⟨decide_eq_true (by omega), hr, hi, hr, b1, b2, b3, b4, k1, hr, hi, hr, hi, hr, hi, k2, rfl, rfl, ⟨sameV.refl _, sameV.refl _, sameV.refl _, sameV.refl _, sameV.refl _, iv_same _ _ ?_, trivial⟩, HpLe.refl _⟩
    rw [Wid (by omega) (by omega)]; omega
  · show roundK Tryd.prog T FAk 300 c13c (tmL 207 (lc n (xF n w) (AFl s) aT1 n)) (hpP n y y) [.b false] [5, 7, 9, 12] _
    rw [exitcT]
    exact ⟨decide_eq_false (by omega), rfl, rfl, ⟨sameV.refl _, sameV.refl _, sameV.refl _, sameV.refl _, trivial⟩, .refl _, .refl _, .refl _, .refl _, pB_pU _ _, .refl _, trivial⟩
/-! the first result, written over -/
def ld (n : Nat) (a5 aT : AV) (i : Nat) : List (Nat × AV) := [(5, a5), (7, sl1 4 n), (9, sl1 5 n), (12, aT), (15, iv i)]
def hpD (n : Nat) (b5 : Blk) : List Blk := [deadB, deadB, deadB, deadB, pUb n, b5]
def pUw (n o : Nat) : Blk := { body := .sy n (updG (fun _ => FU) o (.sc (.float .f64 13830554455654793216) true)), elem := 25, live := true, ro := false }
theorem roundd (n i : Nat) (a5 aT : AV) (b5 : Blk) (X : Ex → Nat → List AV → List Blk → Prop) : roundK Tryd.prog T FAk 300 c13d (tmL 207 (ld n a5 aT i)) (hpD n b5) [.b true] [5, 7, 9, 12, 15] X =
  (decide ((i : Int) < n) = true ∧ (0 ≤ (i : Int) ∧ (i : Int) < n) ∧ 0 + (i : Int).toNat < n ∧ X .normal 207 [a5, sl1 4 n, sl1 5 n, aT, iv (W (i + 1))] [deadB, deadB, deadB, deadB, pUw n (0 + (i : Int).toNat), b5]) := by kernel_rfl
theorem exitd (n i : Nat) (a5 aT : AV) (b5 : Blk) (X : Ex → Nat → List AV → List Blk → Prop) : roundK Tryd.prog T FAk 300 c13d (tmL 207 (ld n a5 aT i)) (hpD n b5) [.b false] [5, 7, 9, 12] X =
  (decide ((i : Int) < n) = false ∧ X (.exit 6) 207 [a5, sl1 4 n, sl1 5 n, aT] (hpD n b5)) := by kernel_rfl
theorem pick_fl {E : Env} {t : Bool} {x : Nat} {s : Bool} {u : Value} (h : RC E (pickC t (.sc (.float .f64 x) s) FU) u) : RC E FU u := by
  cases t with
  | true => exact ⟨x, h.1⟩
  | false => exact h
theorem pUw_le (n o : Nat) : BlkLe (pUw n o) (pUb n) := ⟨rfl, rfl, rfl, fun E vs hr => ⟨by
    have := hr.1
    rw [show (pUw n o).cells = symC n (updG (fun _ => FU) o (.sc (.float .f64 13830554455654793216) true)) from rfl, symC_length] at this
    rw [show (pUb n).cells = symC n fun j => FU from rfl, symC_length, this], fun j c v hc hv => by
    have hj : j < n := by
      have := (List.getElem?_eq_some_iff.1 hc).1
      rwa [show (pUb n).cells = symC n fun j => FU from rfl, symC_length] at this
    rw [show (pUb n).cells = symC n fun j => FU from rfl, symC_get _ _ hj] at hc
    simp only [Option.some.injEq] at hc
    subst hc
    have := hr.2 j (updG (fun _ => FU) o (.sc (.float .f64 13830554455654793216) true) j) v (by show (symC n _)[j]? = _; rw [symC_get _ _ hj]) hv
    exact pick_fl this⟩⟩
theorem loopd {n : Nat} {a5 aT : AV} {b5 : Blk} (hn : n ≤ 4096) : LoopOk Tryd.prog c13d (tmL 207 (ld n a5 aT 0)) (hpD n b5) (.exit 6) (tmL 207 [(5, a5), (7, sl1 4 n), (9, sl1 5 n), (12, aT)]) (hpD n b5) := by
  refine loop_rounds hm hT FAkok 207 n (ld n a5 aT) (fun _ => hpD n b5) (.exit 6) _ _ (fun e => by cases e) (fun i hi => ⟨300, [.b true], ?_⟩) ⟨300, [.b false], ?_⟩ 0 (Nat.zero_le _)
  · show roundK Tryd.prog T FAk 300 c13d (tmL 207 (ld n a5 aT i)) (hpD n b5) [.b true] [5, 7, 9, 12, 15] _
    have h0 : 0 + (i : Int).toNat = i := by omega
    rw [roundd, h0]
    refine ⟨decide_eq_true (by omega), ⟨by omega, by omega⟩, hi, rfl, rfl, ⟨sameV.refl _, sameV.refl _, sameV.refl _, sameV.refl _, iv_same _ _ ?_, trivial⟩, .refl _, .refl _, .refl _, .refl _, pUw_le _ _, .refl _, trivial⟩
    rw [Wid (by omega) (by omega)]; omega
  · show roundK Tryd.prog T FAk 300 c13d (tmL 207 (ld n a5 aT n)) (hpD n b5) [.b false] [5, 7, 9, 12] _
    rw [exitd]
    exact ⟨decide_eq_false (by omega), rfl, rfl, ⟨sameV.refl _, sameV.refl _, sameV.refl _, sameV.refl _, trivial⟩, HpLe.refl _⟩
/-! the second result, looked at once more -/
def lf (n : Nat) (a5 aT a16 : AV) (i : Nat) : List (Nat × AV) := [(5, a5), (9, sl1 5 n), (12, aT), (16, a16), (18, iv i)]
def hpE (n : Nat) (b4 b5 : Blk) (rest : List Blk) : List Blk := deadB :: deadB :: deadB :: deadB :: b4 :: b5 :: rest
theorem roundfU (n i : Nat) (a5 a16 : AV) (bs : List Blk) (X : Ex → Nat → List AV → List Blk → Prop) : roundK Tryd.prog T FAk 300 c13f (tmL 207 (lf n a5 aF0 a16 i)) bs [.b true] [5, 9, 12, 16, 18] X =
  (decide ((i : Int) < n) = true ∧ X .normal 207 [a5, sl1 5 n, aF0, a16, iv (W (i + 1))] bs) := by kernel_rfl
theorem roundfT (n i : Nat) (a5 a16 : AV) (y : Nat → Nat) (b4 : Blk) (rest : List Blk) (X : Ex → Nat → List AV → List Blk → Prop) : roundK Tryd.prog T FAk 300 c13f (tmL 207 (lf n a5 aT1 a16 i)) (hpE n b4 (pB n y) rest) [.b true, .b false] [5, 9, 12, 16, 18] X =
  (decide ((i : Int) < n) = true ∧ (0 ≤ (i : Int) ∧ (i : Int) < n) ∧ 0 + (i : Int).toNat < n ∧ (bif true then flt (y (0 + (i : Int).toNat)) 0 else false) = false ∧ X .normal 207 [a5, sl1 5 n, aT1, a16, iv (W (i + 1))] (hpE n b4 (pB n y) rest)) := by kernel_rfl
theorem exitf (n i : Nat) (a5 aT a16 : AV) (bs : List Blk) (X : Ex → Nat → List AV → List Blk → Prop) : roundK Tryd.prog T FAk 300 c13f (tmL 207 (lf n a5 aT a16 i)) bs [.b false] [5, 16] X =
  (decide ((i : Int) < n) = false ∧ X (.exit 10) 207 [a5, a16] bs) := by kernel_rfl
theorem loopfU {n : Nat} {a5 a16 : AV} {bs : List Blk} (hn : n ≤ 4096) : LoopOk Tryd.prog c13f (tmL 207 (lf n a5 aF0 a16 0)) bs (.exit 10) (tmL 207 [(5, a5), (16, a16)]) bs := by
  refine loop_rounds hm hT FAkok 207 n (lf n a5 aF0 a16) (fun _ => bs) (.exit 10) _ _ (fun e => by cases e) (fun i hi => ⟨300, [.b true], ?_⟩) ⟨300, [.b false], ?_⟩ 0 (Nat.zero_le _)
  · show roundK Tryd.prog T FAk 300 c13f (tmL 207 (lf n a5 aF0 a16 i)) bs [.b true] [5, 9, 12, 16, 18] _
    rw [roundfU]
    refine ⟨decide_eq_true (by omega), rfl, rfl, ⟨sameV.refl _, sameV.refl _, sameV.refl _, sameV.refl _, iv_same _ _ ?_, trivial⟩, HpLe.refl _⟩
    rw [Wid (by omega) (by omega)]; omega
  · show roundK Tryd.prog T FAk 300 c13f (tmL 207 (lf n a5 aF0 a16 n)) bs [.b false] [5, 16] _
    rw [exitf]
    exact ⟨decide_eq_false (by omega), rfl, rfl, ⟨sameV.refl _, sameV.refl _, trivial⟩, HpLe.refl _⟩
theorem loopfT {n : Nat} {a5 a16 : AV} {y : Nat → Nat} {b4 : Blk} {rest : List Blk} (hn : n ≤ 4096) (hok : ∀ i, i < n → flt (y i) 0 = false) : LoopOk Tryd.prog c13f (tmL 207 (lf n a5 aT1 a16 0)) (hpE n b4 (pB n y) rest) (.exit 10) (tmL 207 [(5, a5), (16, a16)]) (hpE n b4 (pB n y) rest) := by
  refine loop_rounds hm hT FAkok 207 n (lf n a5 aT1 a16) (fun _ => hpE n b4 (pB n y) rest) (.exit 10) _ _ (fun e => by cases e) (fun i hi => ⟨300, [.b true, .b false], ?_⟩) ⟨300, [.b false], ?_⟩ 0 (Nat.zero_le _)
  · show roundK Tryd.prog T FAk 300 c13f (tmL 207 (lf n a5 aT1 a16 i)) (hpE n b4 (pB n y) rest) [.b true, .b false] [5, 9, 12, 16, 18] _
    have h0 : 0 + (i : Int).toNat = i := by omega
    rw [roundfT, h0]
    refine ⟨decide_eq_true (by omega), ⟨by omega, by omega⟩, hi, hok i hi, rfl, rfl, ⟨sameV.refl _, sameV.refl _, sameV.refl _, sameV.refl _, iv_same _ _ ?_, trivial⟩, HpLe.refl _⟩
    rw [Wid (by omega) (by omega)]; omega
  · show roundK Tryd.prog T FAk 300 c13f (tmL 207 (lf n a5 aT1 a16 n)) (hpE n b4 (pB n y) rest) [.b false] [5, 16] _
    rw [exitf]
    exact ⟨decide_eq_false (by omega), rfl, rfl, ⟨sameV.refl _, sameV.refl _, trivial⟩, HpLe.refl _⟩
end Go.Proofs.YthddkcoflnbjbaaDoor
namespace Go.Proofs.YthddkcoflnbjbaaDoor
open Sm Go Go.RowKit Fl Ieee
set_option maxRecDepth 1000000
set_option linter.unusedVariables false
/-! nine appends -/
def m2C : C1 := .sc (.float .f64 13835058055282163712) true
def m2B : Blk := { body := .li [m2C], elem := 25, live := true, ro := false }
def eG (n : Nat) : Nat → Nat → C1
  | 0 => fun _ => FU
  | k + 1 => catG ((n + k) * 1) (eG n k) 0 fun _ => m2C
def eB (n k : Nat) (l : Bool) : Blk := { body := .sy ((n + k) * 1 + 1) (eG n (k + 1)), elem := 25, live := l, ro := false }
def hpR (n : Nat) (b5 : Blk) : List Blk := [deadB, deadB, deadB, deadB, { pUb n with live := false }, b5, m2B, eB n 0 false, m2B, eB n 1 false, m2B, eB n 2 false, m2B, eB n 3 false, m2B, eB n 4 false, m2B, eB n 5 false, m2B, eB n 6 false, m2B, eB n 7 false, m2B, eB n 8 true]
def okE1 (n k m : Nat) : Prop := 1 ≠ 0 ∧ m = (n + k) * 1 ∧ 1 ≤ 1 ∧ (n + k + 1) * 8 ≤ 140737488355328 ∧ n + k + 1 ≤ maxLen
def okE (n : Nat) (r : Prop) : Prop := okE1 n 0 n ∧ okE1 n 1 (n * 1 + 1) ∧ okE1 n 2 ((n + 1) * 1 + 1) ∧ okE1 n 3 ((n + 2) * 1 + 1) ∧ okE1 n 4 ((n + 3) * 1 + 1) ∧ okE1 n 5 ((n + 4) * 1 + 1) ∧ okE1 n 6 ((n + 5) * 1 + 1) ∧ okE1 n 7 ((n + 6) * 1 + 1) ∧ okE1 n 8 ((n + 7) * 1 + 1) ∧ r
def a16 (n : Nat) : AV := .one (.sl 23 0 (n + 9) 1)
def bsU (n : Nat) : List Blk := [deadB, deadB, deadB, deadB, pUb n, pUb n]
def start13 (n : Nat) (x : Nat → Nat) : Prop := 207 = 207 ∧ startLs [xF n x, .one (.gr 1 n 1), .one (.sc (.int .i64 0) true)] ((l13 n x 0).map (·.2)) ∧ startBs [deadB, gB 25 n 1 (fF x)] [deadB, gB 25 (n + 0) 1 (fF x)]
theorem start13_ok (n : Nat) (x : Nat → Nat) : start13 n x := ⟨rfl, ⟨rfl, rfl, rfl, trivial⟩, startBs.refl _⟩
noncomputable def F13U (n : Nat) (x : Nat → Nat) (q0 q1 q2 q3 q4 : Prop) : Fns :=
  ((((((FAk.addG 29 GRPwU).addG 23 GPowU).addLoop 0 c13a (l13q n x q0)).addLoop 1 c13b (loopC 207 (l13b n x (lstU n) (sl1 4 n) (sl1 5 n) (AFl 0) true 0) (bsU n) q1 (.exit 2) [(5, lstU n), (7, sl1 4 n), (9, sl1 5 n), (11, aFU), (12, aF0)] (bsU n))).addLoop
    2 c13c (loopC 207 (lc n (lstU n) aFU aF0 0) (bsU n) q2 (.exit 4) [(5, lstU n), (7, sl1 4 n), (9, sl1 5 n), (12, aF0)] (bsU n))).addLoop 3 c13d (loopC 207 (ld n (lstU n) aF0 0) (hpD n (pUb n)) q3 (.exit 6) [(5, lstU n), (7, sl1 4 n), (9, sl1 5 n), (12, aF0)] (hpD n (pUb n)))).addLoop
    4 c13f (loopC 207 (lf n (lstU n) aF0 (a16 n) 0) (hpR n (pUb n)) q4 (.exit 10) [(5, lstU n), (16, a16 n)] (hpR n (pUb n)))
def sgU : List Sg := [.l 0, .b false, .l 1, .l 2, .l 3, .u, .u, .u, .u, .u, .u, .u, .u, .u, .u, .l 4]
theorem run13U (n : Nat) (x : Nat → Nat) (q0 q1 q2 q3 q4 : Prop) (u : Value) : runK Tryd.prog Tg (F13U n x q0 q1 q2 q3 q4) 900 Tryd.f13 [xF n x] [deadB] sgU (fun r _ => resW r = some u) =
  ((n * 8 ≤ 140737488355328 ∧ n ≤ maxLen) ∧ c13a = c13a ∧ (start13 n x ∧ q0) ∧ ((True ∧ True) ∧ isL n n (fF x) ∧ fitB n = true) ∧ (0 ≤ (n : Int) ∧ (n : Int) ≤ (n + 8 : Nat)) ∧ ((True ∧ True) ∧ isL n (n + 8) (fF (pX n x)) ∧ fitB n = true) ∧
   (0 ≤ (n : Int) ∧ (n : Int) ≤ (n + 8 : Nat)) ∧ ((True ∧ True) ∧ isL n (n + 8) (fF (pX n x)) ∧ fitB n = true) ∧ (bif ((n : Int) != n) then true else ((n : Int) != n)) = false ∧
   c13b = c13b ∧ ((207 = 207 ∧ startLs [xF n x, pLst n x, lstU n, sl1 4 n, sl1 5 n, .one (.sc (.float .f64 0) true), .one (.sc (.bool true) true), .one (.sc (.int .i64 0) true)] ((l13b n x (lstU n) (sl1 4 n) (sl1 5 n) (AFl 0) true 0).map (·.2)) ∧ startBs (bsU n) (bsU n)) ∧ q1) ∧
   c13c = c13c ∧ ((207 = 207 ∧ startLs [lstU n, sl1 4 n, sl1 5 n, aFU, aF0, .one (.sc (.int .i64 0) true)] ((lc n (lstU n) aFU aF0 0).map (·.2)) ∧ startBs (bsU n) (bsU n)) ∧ q2) ∧
   c13d = c13d ∧ ((207 = 207 ∧ startLs [lstU n, sl1 4 n, sl1 5 n, aF0, .one (.sc (.int .i64 0) true)] ((ld n (lstU n) aF0 0).map (·.2)) ∧ startBs (bsU n) (hpD n (pUb n))) ∧ q3) ∧
   okE n (c13f = c13f ∧ ((207 = 207 ∧ startLs [lstU n, sl1 5 n, aF0, a16 n, .one (.sc (.int .i64 0) true)] ((lf n (lstU n) aF0 (a16 n) 0).map (·.2)) ∧ startBs (hpR n (pUb n)) (hpR n (pUb n))) ∧ q4) ∧
   some (Value.bool (((n + 9 : Nat) : Int) == W ((n : Int) + 9))) = some u)) := by kernel_rfl
def nilA : AV := .one (.sc (.slice none 0 0) true)
def bsN : List Blk := [deadB, deadB, deadB, deadB, deadB, deadB]
noncomputable def F13N (n : Nat) (x : Nat → Nat) (t : Bool) (q0 q1 : Prop) : Fns :=
  (((FAk.addG 29 GRPwN).addG 23 GPowN).addLoop 0 c13a (l13q n x q0)).addLoop 1 c13b (loopC 207 (l13b n x nilA nilA nilA (AFl 0) true 0) bsN q1 (.exit 2) [(5, nilA), (7, nilA), (9, nilA), (11, aFU), (12, ABl t)] bsN)
def yT (n : Nat) (x : Nat → Nat) (k : Nat) : Nat := pwW (pY n (pX n x) k)
def bsT (n : Nat) (x : Nat → Nat) : List Blk := hpP n (yT n x) (yT n x)
noncomputable def F13T (n : Nat) (x : Nat → Nat) (s : Nat) (q0 q1 q2 q3 q4 : Prop) : Fns :=
  ((((((FAk.addG 29 GRPw).addG 23 GPowL).addLoop 0 c13a (l13q n x q0)).addLoop 1 c13b (loopC 207 (l13b n x (xF n (rpW n x)) (sl1 4 n) (sl1 5 n) (AFl 0) true 0) (bsT n x) q1 (.exit 2) [(5, xF n (rpW n x)), (7, sl1 4 n), (9, sl1 5 n), (11, AFl s), (12, aT1)] (bsT n x))).addLoop
    2 c13c (loopC 207 (lc n (xF n (rpW n x)) (AFl s) aT1 0) (bsT n x) q2 (.exit 4) [(5, xF n (rpW n x)), (7, sl1 4 n), (9, sl1 5 n), (12, aT1)] (hpD n (pB n (yT n x))))).addLoop 3 c13d (loopC 207 (ld n (xF n (rpW n x)) aT1 0) (hpD n (pB n (yT n x))) q3 (.exit 6) [(5, xF n (rpW n x)), (7, sl1 4 n), (9, sl1 5 n), (12, aT1)] (hpD n (pB n (yT n x))))).addLoop
    4 c13f (loopC 207 (lf n (xF n (rpW n x)) aT1 (a16 n) 0) (hpR n (pB n (yT n x))) q4 (.exit 10) [(5, xF n (rpW n x)), (16, a16 n)] (hpR n (pB n (yT n x))))
theorem run13T (n s : Nat) (x : Nat → Nat) (q0 q1 q2 q3 q4 : Prop) (u : Value) : runK Tryd.prog Tg (F13T n x s q0 q1 q2 q3 q4) 900 Tryd.f13 [xF n x] [deadB] sgU (fun r _ => resW r = some u) =
  ((n * 8 ≤ 140737488355328 ∧ n ≤ maxLen) ∧ c13a = c13a ∧ (start13 n x ∧ q0) ∧ ((True ∧ True) ∧ isL n n (fF x) ∧ okRP n (wdF (fF x))) ∧ (0 ≤ (n : Int) ∧ (n : Int) ≤ (n + 8 : Nat)) ∧ ((True ∧ True) ∧ isL n (n + 8) (fF (pX n x)) ∧ okPow n (wdF (fF (pX n x)))) ∧
   (0 ≤ (n : Int) ∧ (n : Int) ≤ (n + 8 : Nat)) ∧ ((True ∧ True) ∧ isL n (n + 8) (fF (pX n x)) ∧ okPow n (wdF (fF (pX n x)))) ∧ (bif ((n : Int) != n) then true else ((n : Int) != n)) = false ∧
   c13b = c13b ∧ ((207 = 207 ∧ startLs [xF n x, pLst n x, xF n (rpW n (wdF (fF x))), sl1 4 n, sl1 5 n, .one (.sc (.float .f64 0) true), .one (.sc (.bool true) true), .one (.sc (.int .i64 0) true)] ((l13b n x (xF n (rpW n x)) (sl1 4 n) (sl1 5 n) (AFl 0) true 0).map (·.2)) ∧ startBs (hpP n (fun k => pwW (pY n (wdF (fF (pX n x))) k)) fun k => pwW (pY n (wdF (fF (pX n x))) k)) (bsT n x)) ∧ q1) ∧
   c13c = c13c ∧ ((207 = 207 ∧ startLs [xF n (rpW n x), sl1 4 n, sl1 5 n, AFl s, aT1, .one (.sc (.int .i64 0) true)] ((lc n (xF n (rpW n x)) (AFl s) aT1 0).map (·.2)) ∧ startBs (bsT n x) (bsT n x)) ∧ q2) ∧
   c13d = c13d ∧ ((207 = 207 ∧ startLs [xF n (rpW n x), sl1 4 n, sl1 5 n, aT1, .one (.sc (.int .i64 0) true)] ((ld n (xF n (rpW n x)) aT1 0).map (·.2)) ∧ startBs (hpD n (pB n (yT n x))) (hpD n (pB n (yT n x)))) ∧ q3) ∧
   okE n (c13f = c13f ∧ ((207 = 207 ∧ startLs [xF n (rpW n x), sl1 5 n, aT1, a16 n, .one (.sc (.int .i64 0) true)] ((lf n (xF n (rpW n x)) aT1 (a16 n) 0).map (·.2)) ∧ startBs (hpR n (pB n (yT n x))) (hpR n (pB n (yT n x)))) ∧ q4) ∧
   some (Value.bool (((n + 9 : Nat) : Int) == W ((n : Int) + 9))) = some u)) := by kernel_rfl
theorem run13N (n : Nat) (x : Nat → Nat) (t : Bool) (q0 q1 : Prop) (u : Value) : runK Tryd.prog Tg (F13N n x t q0 q1) 900 Tryd.f13 [xF n x] [deadB] [.l 0, .l 1] (fun r _ => resW r = some u) =
  ((n * 8 ≤ 140737488355328 ∧ n ≤ maxLen) ∧ c13a = c13a ∧ (start13 n x ∧ q0) ∧ ((True ∧ True) ∧ fitB n = false) ∧ (0 ≤ (n : Int) ∧ (n : Int) ≤ (n + 8 : Nat)) ∧ ((True ∧ True) ∧ isL n (n + 8) (fF (pX n x)) ∧ fitB n = false ∧ n ≤ bigN) ∧
   (0 ≤ (n : Int) ∧ (n : Int) ≤ (n + 8 : Nat)) ∧ ((True ∧ True) ∧ isL n (n + 8) (fF (pX n x)) ∧ fitB n = false ∧ n ≤ bigN) ∧
   c13b = c13b ∧ ((207 = 207 ∧ startLs [xF n x, pLst n x, nilA, nilA, nilA, .one (.sc (.float .f64 0) true), .one (.sc (.bool true) true), .one (.sc (.int .i64 0) true)] ((l13b n x nilA nilA nilA (AFl 0) true 0).map (·.2)) ∧ startBs bsN bsN) ∧ q1) ∧
   some (Value.bool true) = some u) := by kernel_rfl
end Go.Proofs.YthddkcoflnbjbaaDoor
