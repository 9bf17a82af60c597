/-
  What is proved here: contracts on numbers of which nothing is known: the document's sums and its Power, wave.Forward and wave.Power; and of lists whose length does not fit. contracts of wave.Forward and wave.Power on numbers of which nothing is known, and on lists whose length does not fit. A text to be imported.
-/
import Derived.Test.YthddkcoflnbjbaaDoorCon33
import Derived.Test.YthddkcoflnbjbaaDoorCon30
namespace Go.Proofs.YthddkcoflnbjbaaDoor
open Sm Go Go.RowKit Fl Ieee
set_option maxRecDepth 1000000
set_option linter.unusedVariables false
def FU : C1 := .fl .f64
def UU (_ : Nat) : List C1 := [FU, FU]
def U1 (_ : Nat) : List C1 := [FU]
def prU (n : Nat) : AV := .one (.lst n n 2 UU)
def bxU : Blk := { body := .li [FU, FU], elem := 45, live := true, ro := false }
theorem renS_fl {a z : Nat} {js : List Nat} {hp : List Blk} {x : Nat} {s : Bool} : renS a z js hp (.sc (.float .f64 x) s) FU := fun B w0 E w u hl hh hr => ⟨x, hr.1⟩
theorem renL_UU {a z : Nat} {js : List Nat} {hp : List Blk} {x y : Nat} {s t : Bool} : renL a z js hp [.sc (.float .f64 x) s, .sc (.float .f64 y) t] [FU, FU] := ⟨rfl, fun j c d hc hd => by
  match j, hc, hd with
  | 0, hc, hd => simp at hc hd; subst hc; subst hd; exact renS_fl
  | 1, hc, hd => simp at hc hd; subst hc; subst hd; exact renS_fl
  | j + 2, hc, hd => simp at hc⟩
theorem zero2 {E : Env} {vs : List Value} (h : RCs E [.sc (.float .f64 0) true, .sc (.float .f64 0) true] vs) : RCs E [FU, FU] vs := ⟨h.1, fun j c v hc hv => by
  match j, hc, hv with
  | 0, hc, hv => simp at hc; subst hc; exact ⟨0, (h.2 0 _ v rfl hv).1⟩
  | 1, hc, hv => simp at hc; subst hc; exact ⟨0, (h.2 1 _ v rfl hv).1⟩
  | j + 2, hc, hv => simp at hc⟩
/-! the sums -/
def l47iU (n : Nat) (w : Nat → Nat × Nat) (k j : Nat) : List (Nat × AV) := [(0, prU n), (5, iv n), (6, prL n w), (7, .one (.gr 2 k 2)), (8, iv k), (9, .one (.ptr 3 0)), (10, iv j)]
def l47fU (n : Nat) (w : Nat → Nat × Nat) (k : Nat) : List (Nat × AV) := [(0, prU n), (5, iv n), (6, prL n w), (7, .one (.gr 2 k 2)), (8, iv k), (9, .one (.ptr 3 0))]
def hp47iU (k : Nat) : List Blk := [deadB, deadB, gB 45 k 2 UU, bxU, deadB]
theorem round47iU (n : Nat) (w : Nat → Nat × Nat) (k j : Nat) (X : Ex → Nat → List AV → List Blk → Prop) : roundK Tryd.prog T FT 300 c47i (tmL 82 (l47iU n w k j)) (hp47iU k) [.b true] [0, 5, 6, 7, 8, 9, 10] X =
  (decide ((j : Int) < n) = true ∧ ((n : Int) == 0) = false ∧ (0 ≤ ixK n k j ∧ ixK n k j < n) ∧ (0 ≤ (j : Int) ∧ (j : Int) < n) ∧ (0 ≤ (j : Int) ∧ (j : Int) < n) ∧ (0 ≤ (j : Int) ∧ (j : Int) < n) ∧ (0 ≤ (j : Int) ∧ (j : Int) < n) ∧
   X .normal 82 [prU n, iv n, prL n w, .one (.gr 2 k 2), iv k, .one (.ptr 3 0), iv (W (j + 1))] [deadB, deadB, gB 45 k 2 UU, bxU, deadB, bx (w (ixK n k j).toNat).1 (w (ixK n k j).toNat).2]) := by kernel_rfl
theorem exit47iU (n : Nat) (w : Nat → Nat × Nat) (k j : Nat) (X : Ex → Nat → List AV → List Blk → Prop) : roundK Tryd.prog T FT 300 c47i (tmL 82 (l47iU n w k j)) (hp47iU k) [.b false] [0, 5, 6, 7, 8, 9] X =
  (decide ((j : Int) < n) = false ∧ X (.exit 2) 82 [prU n, iv n, prL n w, .one (.gr 2 k 2), iv k, .one (.ptr 3 0)] (hp47iU k)) := by kernel_rfl
theorem bxU_ren {a z : Nat} {js : List Nat} {hp : List Blk} : renB a z js hp bxU bxU := .inr ⟨rfl, rfl, rfl, rfl, rfl, trivial⟩
theorem loop47iU {n k : Nat} {w : Nat → Nat × Nat} (hn : n ≤ 4096) (hk : k < n) : LoopOkB Tryd.prog 4 c47i (tmL 82 (l47iU n w k 0)) (hp47iU k) (.exit 2) (tmL 82 (l47fU n w k)) (hp47iU k) := by
  refine grow_rounds hm hT 4 82 n (l47iU n w k) (fun j => hp47iU k) (.exit 2) _ _ (by simp) (fun i _ => by simp [hp47iU]) (fun j hj => ⟨FT, FTok, 300, [.b true], [], ?_⟩) ⟨FT, FTok, 300, [.b false], [], ?_⟩ 0 (Nat.zero_le _)
  · show roundK Tryd.prog T FT 300 c47i (tmL 82 (l47iU n w k j)) (hp47iU k) [.b true] [0, 5, 6, 7, 8, 9, 10] _
    rw [round47iU]
    have hr : 0 ≤ (j : Int) ∧ (j : Int) < n := ⟨by omega, by omega⟩
    refine ⟨decide_eq_true (by omega), by simp; omega, ixK_bd hn hk hj, hr, hr, hr, hr, rfl, rfl, _, [deadB, deadB, gB 45 k 2 UU, bxU], [deadB], bx _ _, [deadB, deadB, gB 45 k 2 UU, bxU], deadB, .inl rfl, rfl, rfl, rfl, noFroz, ⟨?_, rfl, ?_, ⟨rfl, rfl, rfl⟩, rfl, ⟨rfl, rfl⟩, sc_eq ?_, trivial⟩, ⟨.inl rfl, .inl rfl, gB_same fun k hk => renCs_L ⟨rfl, rfl, trivial⟩, bxU_ren, trivial⟩, .inl rfl⟩
    · exact ⟨rfl, rfl, rfl, fun k _ => rfl⟩
    · exact ⟨rfl, rfl, rfl, fun k _ => rfl⟩
    · rw [Wid (by omega) (by omega)]; rfl
  · show roundK Tryd.prog T FT 300 c47i (tmL 82 (l47iU n w k n)) (hp47iU k) [.b false] [0, 5, 6, 7, 8, 9] _
    rw [exit47iU]
    refine ⟨decide_eq_false (by omega), rfl, rfl, _, [deadB, deadB, gB 45 k 2 UU, bxU], [], deadB, [deadB, deadB, gB 45 k 2 UU, bxU], deadB, .inl rfl, rfl, rfl, rfl, noFroz, ⟨?_, rfl, ?_, ⟨rfl, rfl, rfl⟩, rfl, ⟨rfl, rfl⟩, trivial⟩, ⟨.inl rfl, .inl rfl, gB_same fun k hk => renCs_L ⟨rfl, rfl, trivial⟩, bxU_ren, trivial⟩, .inl rfl⟩
    · exact ⟨rfl, rfl, rfl, fun k _ => rfl⟩
    · exact ⟨rfl, rfl, rfl, fun k _ => rfl⟩
def l47oU (n : Nat) (w : Nat → Nat × Nat) (k : Nat) : List (Nat × AV) := [(0, prU n), (5, iv n), (6, prL n w), (7, .one (.gr 2 k 2)), (8, iv k)]
def hp47oU (k : Nat) : List Blk := [deadB, deadB, gB 45 k 2 UU]
noncomputable def F47iU (n k : Nat) (w : Nat → Nat × Nat) (q : Prop) : Fns := FT.addLoop 0 c47i (loopC 82 (l47iU n w k 0) [deadB, deadB, gB 45 k 2 UU, bxU] q (.exit 2) (l47fU n w k) (hp47iU k))
def hBoU (k : Nat) : List Blk := [deadB, deadB, { gB 45 k 2 UU with live := false }, bxU, deadB, bxU, { body := .rs (k + 1) 2 (catR k UU fun _ => [FU, FU]), elem := 45, live := true, ro := false }]
theorem round47oU (n : Nat) (w : Nat → Nat × Nat) (k : Nat) (q : Prop) (X : Ex → Nat → List AV → List Blk → Prop) : roundK Tryd.prog T (F47iU n k w q) 300 c47o (tmL 82 (l47oU n w k)) (hp47oU k) [.b true, .l 0] [0, 5, 6, 7, 8] X =
  (decide ((k : Int) < n) = true ∧ c47i = c47i ∧ ((82 = 82 ∧ startLs [prU n, iv n, prL n w, .one (.gr 2 k 2), iv k, .one (.ptr 3 0), .one (.sc (.int .i64 0) true)] ((l47iU n w k 0).map (·.2)) ∧
    startBs [deadB, deadB, gB 45 k 2 UU, { body := .li [.sc (.float .f64 0) true, .sc (.float .f64 0) true], elem := 45, live := true, ro := false }] [deadB, deadB, gB 45 k 2 UU, bxU]) ∧ q) ∧
   ((k = k ∧ (k = 0 ∨ Nat.blt 0 k = true)) ∧ True ∧ (∀ j, (UU j).length = 2 ∧ ([FU, FU] : List C1).length = 2) ∧ (k + 1) * 16 ≤ 140737488355328 ∧ k + 1 ≤ maxLen) ∧
   X .normal 82 [prU n, iv n, prL n w, .one (.gr 6 (k + 1) 2), iv (W (k + 1))] (hBoU k)) := by kernel_rfl
theorem exit47oU (n : Nat) (w : Nat → Nat × Nat) (k : Nat) (X : Ex → Nat → List AV → List Blk → Prop) : roundK Tryd.prog T FT 300 c47o (tmL 82 (l47oU n w k)) (hp47oU k) [.b false] [7] X =
  (decide ((k : Int) < n) = false ∧ X (.exit 0) 82 [.one (.gr 2 k 2)] (hp47oU k)) := by kernel_rfl
theorem loop47oU {n : Nat} {w : Nat → Nat × Nat} (hn : n ≤ 4096) : LoopOkB Tryd.prog 2 c47o (tmL 82 (l47oU n w 0)) (hp47oU 0) (.exit 0) (tmL 82 [(7, .one (.gr 2 n 2))]) (hp47oU n) := by
  refine grow_rounds hm hT 2 82 n (l47oU n w) (fun k => hp47oU k) (.exit 0) _ _ (by simp) (fun i _ => by simp [hp47oU]) (fun k hk => ⟨F47iU n k w True, ?_, 300, [.b true, .l 0], [], ?_⟩) ⟨FT, FTok, 300, [.b false], [], ?_⟩ 0 (Nat.zero_le _)
  · exact FTok.addGrow 0 (a := 4) (b0 := deadB) rfl rfl fun _ => loop47iU hn hk
  · show roundK Tryd.prog T (F47iU n k w True) 300 c47o (tmL 82 (l47oU n w k)) (hp47oU k) [.b true, .l 0] [0, 5, 6, 7, 8] _
    rw [round47oU]
    refine ⟨decide_eq_true (by omega), rfl, ⟨⟨rfl, ⟨rfl, rfl, rfl, rfl, rfl, rfl, rfl, trivial⟩, ⟨.refl _, .refl _, .refl _, .inr ⟨rfl, rfl, rfl, fun E vs h => zero2 h⟩, trivial⟩⟩, trivial⟩, ⟨⟨rfl, live0 k⟩, trivial, fun j => ⟨rfl, rfl⟩, by omega, by show k + 1 ≤ 9223372036854775807; omega⟩, rfl, rfl, _, [deadB, deadB], [_, _, _, _], _, [deadB, deadB], gB 45 (k + 1) 2 UU, .inl rfl, rfl, rfl, rfl, noFroz, ⟨?_, rfl, ?_, ⟨rfl, rfl, rfl⟩, sc_eq ?_, trivial⟩, ⟨.inl rfl, .inl rfl, trivial⟩, gB_cat (fun k => rfl) rfl (fun k hk => renCs_L ⟨rfl, rfl, trivial⟩) (renCs_L ⟨rfl, rfl, trivial⟩)⟩
    · exact ⟨rfl, rfl, rfl, fun k _ => rfl⟩
    · exact ⟨rfl, rfl, rfl, fun k _ => rfl⟩
    · rw [Wid (by omega) (by omega)]; rfl
  · show roundK Tryd.prog T FT 300 c47o (tmL 82 (l47oU n w n)) (hp47oU n) [.b false] [7] _
    rw [exit47oU]
    exact ⟨decide_eq_false (by omega), rfl, rfl, _, [deadB, deadB], [], _, [deadB, deadB], _, .inl rfl, rfl, rfl, rfl, noFroz, ⟨⟨rfl, rfl, rfl⟩, trivial⟩, ⟨.inl rfl, .inl rfl, trivial⟩, gB_same fun k hk => renCs_L ⟨rfl, rfl, trivial⟩⟩
noncomputable def F47U (n : Nat) (s : Int) (q : Prop) : Fns := FG58.addLoop 1 c47o (loopC 82 (l47oU n (twP s n) 0) [deadB, deadB] q (.exit 0) [(7, .one (.gr 2 n 2))] (hp47oU n))
theorem run47U (n : Nat) (s : Int) (q : Prop) (K : Option AV → List Blk → Prop) : runK Tryd.prog T (F47U n s q) 300 Tryd.f47 [prU n, iv s] [deadB] [.l 1] K =
    ((((True ∧ True ∧ True) ∧ 0 ≤ (n : Int) ∧ (n : Int) ≤ 4096)) ∧ c47o = c47o ∧ ((82 = 82 ∧ startLs [prU n, iv n, prL n (twP s n), .one (.sc (.slice none 0 0) true), .one (.sc (.int .i64 0) true)] ((l47oU n (twP s n) 0).map (·.2)) ∧ startBs [deadB, deadB] [deadB, deadB]) ∧ q) ∧ K (some (.one (.gr 2 n 2))) (hp47oU n)) := by kernel_rfl
def GSumsU : List AV → Option (Prop × AV × Blk)
  | [.one (.lst n N 2 f), .one (.sc (.int .i64 s) false)] => some (n ≤ 4096 ∧ n ≤ N ∧ ∀ k, k < n → f k = UU k, prU n, deadB)
  | _ => none
theorem gcon47U : GCon Tryd.prog 47 GSumsU := by
  refine gcon_of_runA hm hT Tryd.func47 Tryd.call47 fun args p v b h hp => ?_
  unfold GSumsU at h
  split at h
  · rename_i n N f s
    simp only [Option.some.injEq, Prod.mk.injEq] at h
    obtain ⟨rfl, rfl, rfl⟩ := h
    obtain ⟨hn, hnN, hf⟩ := hp
    refine ⟨.inl rfl, dead_free, F47U n s True, [prU n, iv s], FG58ok.addGrow 1 (a := 2) (b0 := gB 45 0 2 UU) rfl rfl (fun _ => loop47oU hn), fun E us hr => ?_, 300, [.l 1], [2], ?_⟩
    · obtain ⟨u, us, rfl, h1, h2⟩ := hr.cons
      exact .mk (lst_less (Nat.le_refl _) hnN hf h1) h2
    · exact of_run (run47U _ _ _ _) ⟨⟨⟨trivial, trivial, trivial⟩, by omega, by omega⟩, rfl, ⟨⟨rfl, ⟨rfl, rfl, rfl, trivial, rfl, trivial⟩, startBs.refl _⟩, trivial⟩, _, rfl, export_gr (A := [deadB, deadB]) (D := []) (fun k => rfl) fun k => free2 trivial trivial⟩
  · cases h
/-! the document's Power -/
def l29bU (n : Nat) (i : Nat) : List (Nat × AV) := [(5, prU n), (7, .one (.gr 3 i 1)), (8, iv i)]
def h29bU (i : Nat) : List Blk := [deadB, deadB, deadB, gB 25 i 1 U1]
theorem round29bU (n i : Nat) (X : Ex → Nat → List AV → List Blk → Prop) : roundK Tryd.prog T FT 300 c29b (tmL 63 (l29bU n i)) (h29bU i) [.b true, .d 24] [5, 7, 8] X =
  (decide ((i : Int) < n) = true ∧ (0 ≤ (i : Int) ∧ (i : Int) < n) ∧ (0 ≤ (i : Int) ∧ (i : Int) < n) ∧ (0 ≤ (i : Int) ∧ (i : Int) < n) ∧ (0 ≤ (i : Int) ∧ (i : Int) < n) ∧
   ((i = i ∧ (i = 0 ∨ Nat.blt 0 i = true)) ∧ True ∧ (∀ k, (U1 k).length = 1 ∧ ([FU] : List C1).length = 1) ∧ (i + 1) * 8 ≤ 140737488355328 ∧ i + 1 ≤ maxLen) ∧
   X .normal 63 [prU n, .one (.gr 5 (i + 1) 1), iv (W (i + 1))] [deadB, deadB, deadB, { gB 25 i 1 U1 with live := false }, { body := .li [FU], elem := 25, live := true, ro := false }, { body := .rs (i + 1) 1 (catR i U1 fun _ => [FU]), elem := 25, live := true, ro := false }]) := by kernel_rfl
theorem exit29bU (n i : Nat) (X : Ex → Nat → List AV → List Blk → Prop) : roundK Tryd.prog T FT 300 c29b (tmL 63 (l29bU n i)) (h29bU i) [.b false] [7] X =
  (decide ((i : Int) < n) = false ∧ X (.exit 2) 63 [.one (.gr 3 i 1)] (h29bU i)) := by kernel_rfl
theorem loop29bU {n : Nat} (hn : n ≤ 4096) : LoopOkB Tryd.prog 3 c29b (tmL 63 (l29bU n 0)) (h29bU 0) (.exit 2) (tmL 63 [(7, .one (.gr 3 n 1))]) (h29bU n) := by
  refine grow_rounds hm hT 3 63 n (l29bU n) (fun i => h29bU i) (.exit 2) _ _ (by simp) (fun i _ => by simp [h29bU]) (fun i hi => ⟨FT, FTok, 300, [.b true, .d 24], [], ?_⟩) ⟨FT, FTok, 300, [.b false], [], ?_⟩ 0 (Nat.zero_le _)
  · show roundK Tryd.prog T FT 300 c29b (tmL 63 (l29bU n i)) (h29bU i) [.b true, .d 24] [5, 7, 8] _
    have hr : 0 ≤ (i : Int) ∧ (i : Int) < n := ⟨by omega, by omega⟩
    rw [round29bU]
    refine ⟨decide_eq_true (by omega), hr, hr, hr, hr, ⟨⟨rfl, live0 i⟩, trivial, fun k => ⟨rfl, rfl⟩, by omega, by show i + 1 ≤ 9223372036854775807; omega⟩, rfl, rfl, _, [deadB, deadB, deadB], [_, _], _, [deadB, deadB, deadB], gB 25 (i + 1) 1 U1, .inl rfl, rfl, rfl, rfl, noFroz, ⟨?_, ⟨rfl, rfl, rfl⟩, sc_eq ?_, trivial⟩, ⟨.inl rfl, .inl rfl, .inl rfl, trivial⟩, gB_cat (fun k => rfl) rfl (fun k hk => renCs_L ⟨rfl, trivial⟩) (renCs_L ⟨rfl, trivial⟩)⟩
    · exact ⟨rfl, rfl, rfl, fun k _ => rfl⟩
    · rw [Wid (by omega) (by omega)]; rfl
  · show roundK Tryd.prog T FT 300 c29b (tmL 63 (l29bU n n)) (h29bU n) [.b false] [7] _
    rw [exit29bU]
    exact ⟨decide_eq_false (by omega), rfl, rfl, _, [deadB, deadB, deadB], [], _, [deadB, deadB, deadB], _, .inl rfl, rfl, rfl, rfl, noFroz, ⟨⟨rfl, rfl, rfl⟩, trivial⟩, ⟨.inl rfl, .inl rfl, .inl rfl, trivial⟩, gB_same fun k hk => renCs_L ⟨rfl, trivial⟩⟩
theorem loop29aU {n : Nat} {x : Nat → Nat} (hn : n ≤ 4096) : LoopOkB Tryd.prog 1 c29a (tmL 63 (l29a n x 0)) (h29a 0 (x0 x)) (.exit 0) (tmL 63 [(5, .one (.gr 1 n 2))]) [deadB, gB 45 n 2 UU] := by
  refine grow_rounds hm hT 1 63 n (l29a n x) (fun i => h29a i (x0 x)) (.exit 0) _ _ (by simp) (fun i _ => by simp [h29a]) (fun i hi => ⟨FT, FTok, 300, [.b true], [], ?_⟩) ⟨FT, FTok, 300, [.b false], [], ?_⟩ 0 (Nat.zero_le _)
  · show roundK Tryd.prog T FT 300 c29a (tmL 63 (l29a n x i)) (h29a i (x0 x)) [.b true] [0, 5, 6] _
    have h0 : (i : Int).toNat = i := by omega
    rw [round29a, h0]
    refine ⟨decide_eq_true (by omega), ⟨by omega, by omega⟩, ⟨⟨rfl, live0 i⟩, trivial, fun k => ⟨rfl, rfl⟩, by omega, by show i + 1 ≤ 9223372036854775807; omega⟩, rfl, rfl, _, [deadB], [_, _], _, [deadB], gB 45 (i + 1) 2 (pF (x0 x)), .inl rfl, rfl, rfl, rfl, noFroz, ⟨?_, ⟨rfl, rfl, rfl⟩, sc_eq ?_, trivial⟩, ⟨.inl rfl, trivial⟩, gB_cat (fun k => rfl) rfl (fun k hk => renCs_L ⟨rfl, rfl, trivial⟩) (renCs_L ⟨rfl, rfl, trivial⟩)⟩
    · exact ⟨rfl, rfl, rfl, fun k _ => rfl⟩
    · rw [Wid (by omega) (by omega)]; rfl
  · show roundK Tryd.prog T FT 300 c29a (tmL 63 (l29a n x n)) (h29a n (x0 x)) [.b false] [5] _
    rw [exit29a]
    exact ⟨decide_eq_false (by omega), rfl, rfl, _, [deadB], [], _, [deadB], _, .inl rfl, rfl, rfl, rfl, noFroz, ⟨⟨rfl, rfl, rfl⟩, trivial⟩, ⟨.inl rfl, trivial⟩, gB_same fun k hk => renL_UU⟩
noncomputable def FSU : Fns := (FT.add 46 GFits).addG 47 GSumsU
theorem FSUok : FnsOk Tryd.prog FSU := (FTok.add con46).addG gcon47U
noncomputable def F29U (n : Nat) (x : Nat → Nat) (q q2 : Prop) : Fns := (FSU.addLoop 1 c29a (loopC 63 (l29a n x 0) [deadB] q (.exit 0) [(5, .one (.gr 1 n 2))] [deadB, gB 45 n 2 UU])).addLoop 2 c29b (loopC 63 (l29bU n 0) [deadB, deadB, deadB] q2 (.exit 2) [(7, .one (.gr 3 n 1))] (h29bU n))
theorem run29U (n : Nat) (x : Nat → Nat) (q q2 : Prop) (K : Option AV → List Blk → Prop) : runK Tryd.prog T (F29U n x q q2) 300 Tryd.f29 [xF n x] [deadB] [.b false, .l 1, .l 2] K =
    ((!(fitB n)) = false ∧ c29a = c29a ∧ ((63 = 63 ∧ startLs [xF n x, .one (.sc (.slice none 0 0) true), .one (.sc (.int .i64 0) true)] ((l29a n x 0).map (·.2)) ∧ startBs [deadB] [deadB]) ∧ q) ∧
     (((n = n ∧ (n = 0 ∨ Nat.blt 0 n = true) ∧ (∀ k, (UU k).length = 2) ∧ ∀ k, ∀ c ∈ UU k, freeC c) ∧ True ∧ True) ∧ n ≤ 4096 ∧ n ≤ n ∧ ∀ k, k < n → List.map normC (UU k) = UU k) ∧
     c29b = c29b ∧ ((63 = 63 ∧ startLs [prU n, .one (.sc (.slice none 0 0) true), .one (.sc (.int .i64 0) true)] ((l29bU n 0).map (·.2)) ∧
       startBs [deadB, { gB 45 n 2 UU with live := false }, deadB] [deadB, deadB, deadB]) ∧ q2) ∧
     K (some (.tup [(false, [.gr 3 n 1]), (false, [.sc (.int .i64 0) true])])) (h29bU n)) := by kernel_rfl
def GRPwU : List AV → Option (Prop × AV × Blk)
  | [.one (.lst n N 1 f)] => some (isL n N f ∧ fitB n = true, tup2 n U1, deadB)
  | _ => none
theorem gcon29U : GCon Tryd.prog 29 GRPwU := by
  refine gcon_of_runA hm hT Tryd.func29 Tryd.call29 fun args p v b h hp => ?_
  unfold GRPwU at h
  split at h
  · rename_i n N f
    simp only [Option.some.injEq, Prod.mk.injEq] at h
    obtain ⟨rfl, rfl, rfl⟩ := h
    obtain ⟨⟨hnN, hf⟩, hfit⟩ := hp
    obtain ⟨hn, _⟩ := fit_le hfit
    generalize hx : wdF f = x at *
    refine ⟨.inl rfl, dead_free, F29U n x True True, [xF n x], (FSUok.addGrow 1 (a := 1) (b0 := gB 45 0 2 (pF (x0 x))) rfl rfl fun _ => loop29aU hn).addGrow 2 (a := 3) (b0 := gB 25 0 1 U1) rfl rfl (fun _ => loop29bU hn), fun E us hr => ?_, 300, [.b false, .l 1, .l 2], [3], ?_⟩
    · obtain ⟨u, us, rfl, h1, h2⟩ := hr.cons
      exact .mk (lst_less (Nat.le_refl _) hnN hf h1) h2
    · refine of_run (run29U n x _ _ _) ⟨by rw [hfit]; rfl, rfl, ⟨⟨rfl, ⟨rfl, trivial, rfl, trivial⟩, startBs.refl _⟩, trivial⟩, ⟨⟨⟨rfl, live0 n, fun k => rfl, fun k => free2 trivial trivial⟩, trivial, trivial⟩, hn, Nat.le_refl _, fun k _ => rfl⟩, rfl, ⟨⟨rfl, ⟨rfl, trivial, rfl, trivial⟩, ⟨.inl rfl, .inl rfl, .inl rfl, trivial⟩⟩, trivial⟩, _, rfl, ?_⟩
      exact export_gr2 (A := [deadB, deadB, deadB]) (D := []) (fun k => rfl) (fun k => free1 trivial) fun _ _ _ _ => rfl
  · cases h
end Go.Proofs.YthddkcoflnbjbaaDoor
namespace Go.Proofs.YthddkcoflnbjbaaDoor
open Sm Go Go.RowKit Fl Ieee
set_option maxRecDepth 1000000
set_option linter.unusedVariables false
theorem run16U (n N : Nat) (f : Nat → List C1) (K : Option AV → List Blk → Prop) : runK Tryd.prog T FDU 300 Tryd.f16 [.one (.lst n N 1 f)] [deadB] [.b false] K =
    ((!(fitB n)) = false ∧ ((True ∧ True ∧ True) ∧ okTU 1 n N f) ∧ K (some (two 1 n 0)) [deadB, bX n]) := by kernel_rfl
def GFwU : List AV → Option (Prop × AV × Blk)
  | [.one (.lst n N 1 f)] => some (okTU 1 n N f, two 0 n 0, bX n)
  | _ => none
theorem gcon16U : GCon Tryd.prog 16 GFwU := by
  refine gcon_of_run hm hT Tryd.func16 Tryd.call16 fun args p v b h hp => ?_
  unfold GFwU at h
  split at h
  · rename_i n N f
    simp only [Option.some.injEq, Prod.mk.injEq] at h
    obtain ⟨rfl, rfl, rfl⟩ := h
    refine ⟨.inr rfl, sym_free fun k => trivial, FDU, FDUok, 300, [.b false], [], ?_⟩
    refine of_run (run16U n N f _) ⟨?_, ⟨⟨trivial, trivial, trivial⟩, hp⟩, _, rfl, ?_⟩
    · obtain ⟨⟨p, h1, rfl⟩, _⟩ := hp
      rw [fit_pow h1]; rfl
    · exact one_left (D := [deadB]) noFroz ⟨⟨rfl, ⟨rfl, rfl, rfl, rfl⟩, trivial⟩, ⟨rfl, scC_eq rfl, trivial⟩, trivial⟩ (.inr ⟨rfl, rfl, rfl, rfl, fun j hj => renC_S rfl⟩)
  · cases h
/-! wave.Power -/
def pUb (n : Nat) : Blk := { body := .sy n fun _ => FU, elem := 25, live := true, ro := false }
def pUo (n o : Nat) : Blk := { body := .sy n (updG (fun _ => FU) o FU), elem := 25, live := true, ro := false }
theorem pickFU (t : Bool) : pickC t FU FU = FU := by cases t <;> rfl
theorem pUo_le (n o : Nat) : BlkLe (pUo n o) (pUb n) := sy_le fun j _ => by
  show pickC _ FU FU = FU
  rw [pickFU]
theorem roundP2U (n : Nat) (i : Nat) (Q : Ex → Nat → List AV → List Blk → Prop) : roundK Tryd.prog T FT 300 cP2 (tmL 61 (lP2 n i)) [deadB, deadB, bX n, pUb n] [.b true] [8, 38, 39, 40] Q =
   (decide ((i : Int) < n) = true ∧ (0 ≤ (i : Int) ∧ (i : Int) < n) ∧ 0 + (i : Int).toNat < n ∧ (0 ≤ (i : Int) ∧ (i : Int) < n) ∧ 0 + (i : Int).toNat < n ∧
    Q .normal 61 [.one (.sl 3 0 n 1), .one (.sl 2 0 n 1), iv n, iv (W (i + 1))] [deadB, deadB, bX n, pUo n (0 + (i : Int).toNat)]) := by kernel_rfl
theorem exitP2U (n : Nat) (i : Nat) (Q : Ex → Nat → List AV → List Blk → Prop) : roundK Tryd.prog T FT 300 cP2 (tmL 61 (lP2 n i)) [deadB, deadB, bX n, pUb n] [.b false] [8] Q =
   (decide ((i : Int) < n) = false ∧ Q (.exit 2) 61 [.one (.sl 3 0 n 1)] [deadB, deadB, bX n, pUb n]) := by kernel_rfl
theorem loopP2U {n : Nat} (hn : n ≤ 4096) : LoopOk Tryd.prog cP2 (tmL 61 (lP2 n 0)) [deadB, deadB, bX n, pUb n] (.exit 2) (tmL 61 [(8, .one (.sl 3 0 n 1))]) [deadB, deadB, bX n, pUb n] := by
  refine loop_rounds hm hT FTok 61 n (lP2 n) (fun i => [deadB, deadB, bX n, pUb n]) (.exit 2) _ _ (fun e => by cases e) (fun i hi => ⟨300, [.b true], ?_⟩) ⟨300, [.b false], ?_⟩ 0 (Nat.zero_le _)
  · show roundK Tryd.prog T FT 300 cP2 (tmL 61 (lP2 n i)) [deadB, deadB, bX n, pUb n] [.b true] [8, 38, 39, 40] _
    have h0 : 0 + (i : Int).toNat = i := by omega
    rw [roundP2U, h0]
    have hr : 0 ≤ (i : Int) ∧ (i : Int) < n := ⟨by omega, by omega⟩
    refine ⟨decide_eq_true (by omega), hr, hi, hr, hi, rfl, rfl, ⟨sameV.refl _, sameV.refl _, sameV.refl _, iv_same _ _ ?_, trivial⟩, .refl _, .refl _, .refl _, pUo_le _ _, trivial⟩
    rw [Wid (by omega) (by omega)]; omega
  · show roundK Tryd.prog T FT 300 cP2 (tmL 61 (lP2 n n)) [deadB, deadB, bX n, pUb n] [.b false] [8] _
    rw [exitP2U]
    exact ⟨decide_eq_false (by omega), rfl, rfl, ⟨sameV.refl _, trivial⟩, HpLe.refl _⟩
theorem bY_bX (n : Nat) (Y : Nat → Nat × Nat) : BlkLe (bY n Y) (bX n) := ⟨rfl, rfl, rfl, fun E vs hr => ⟨by
    have := hr.1
    rw [show (bY n Y).cells = symC n fun j => CC (Y j) from rfl, symC_length] at this
    rw [show (bX n).cells = symC n fun j => CU from rfl, symC_length, this], fun j c v hc hv => by
    have hj : j < n := by
      have := (List.getElem?_eq_some_iff.1 hc).1
      rwa [show (bX n).cells = symC n fun j => CU from rfl, symC_length] at this
    rw [show (bX n).cells = symC n fun j => CU from rfl, symC_get _ _ hj] at hc
    simp only [Option.some.injEq] at hc
    subst hc
    have := hr.2 j (CC (Y j)) v (by show (symC n fun j => CC (Y j))[j]? = _; rw [symC_get _ _ hj]) hv
    exact ⟨_, _, this.1⟩⟩⟩
/-- Lists as long as may be. -/
def bigN : Nat := 17592186044416
theorem roundP1w {n : Nat} {x : Nat → Nat} (hn : n ≤ bigN) (i : Nat) (hi : i < n) : roundK Tryd.prog T FT 300 cP1 (tmL 61 (lP1 n x i)) [deadB, bY n (p1Y x i)] [.b true] [4, 14, 15, 16] (After .normal 61 (lP1 n x (i + 1)) [deadB, bY n (p1Y x (i + 1))]) := by
  have hn2 : n ≤ 17592186044416 := hn
  have h0 : 0 + (i : Int).toNat = i := by omega
  have h1 : (i : Int).toNat = i := by omega
  rw [roundP1, h0, h1]
  have hr : 0 ≤ (i : Int) ∧ (i : Int) < n := ⟨by omega, by omega⟩
  refine ⟨decide_eq_true (by omega), hr, hr, hi, rfl, rfl, ⟨sameV.refl _, sameV.refl _, sameV.refl _, iv_same _ _ ?_, trivial⟩, .refl _, bU_le _ _ _ _ _ fun j hj => ?_, trivial⟩
  · rw [Wid (by omega) (by omega)]; omega
  · unfold p1Y
    rcases beq_cases j i with ⟨rfl, e⟩ | ⟨h, e⟩ <;> rw [e]
    · rw [if_pos (by omega)]; rfl
    · by_cases h2 : j < i
      · rw [if_pos (by omega), if_pos h2]; rfl
      · rw [if_neg (by omega), if_neg h2]; rfl
theorem loopP1U {n : Nat} {x : Nat → Nat} (hn : n ≤ bigN) : LoopOk Tryd.prog cP1 (tmL 61 (lP1 n x 0)) [deadB, bY n (p1Y x 0)] (.exit 0) (tmL 61 [(4, slY n)]) [deadB, bX n] := by
  refine loop_rounds hm hT FTok 61 n (lP1 n x) (fun i => [deadB, bY n (p1Y x i)]) (.exit 0) _ _ (fun e => by cases e) (fun i hi => ⟨300, [.b true], roundP1w hn i hi⟩) ⟨300, [.b false], ?_⟩ 0 (Nat.zero_le _)
  show roundK Tryd.prog T FT 300 cP1 (tmL 61 (lP1 n x n)) [deadB, bY n (p1Y x n)] [.b false] [4] _
  rw [exitP1]
  exact ⟨decide_eq_false (by omega), rfl, rfl, ⟨sameV.refl _, trivial⟩, .refl _, bY_bX _ _, trivial⟩
noncomputable def FPU (n : Nat) (x : Nat → Nat) (q q2 : Prop) : Fns :=
  ((FT.addG 16 GFwU).addLoop 0 cP1 (loopC 61 (lP1 n x 0) [deadB, bY n (p1Y x 0)] q (.exit 0) [(4, slY n)] [deadB, bX n])).addLoop 1 cP2 (loopC 61 (lP2 n 0) [deadB, deadB, bX n, pUb n] q2 (.exit 2) [(8, .one (.sl 3 0 n 1))] [deadB, deadB, bX n, pUb n])
theorem run23U (n : Nat) (x : Nat → Nat) (q q2 : Prop) (K : Option AV → List Blk → Prop) : runK Tryd.prog T (FPU n x q q2) 300 Tryd.f23 [xF n x] [deadB] [.l 0, .l 1] K =
    (Zok n ∧ cP1 = cP1 ∧ ((61 = 61 ∧ startLs [.one (.sl 1 0 ((n : Int)).toNat 1), xF n x, iv n, .one (.sc (.int .i64 0) true)] ((lP1 n x 0).map (·.2)) ∧ startBs [deadB, zB ((n : Int)).toNat] [deadB, bY n (p1Y x 0)]) ∧ q) ∧
     (((n ≤ n ∧ ∀ k : Nat, freeC CU) ∧ True) ∧ okTU 1 n n fun _ => [CU]) ∧ Zok8 n ∧ cP2 = cP2 ∧
     ((61 = 61 ∧ startLs [.one (.sl 3 0 ((n : Int)).toNat 1), slY2 n, iv n, .one (.sc (.int .i64 0) true)] ((lP2 n 0).map (·.2)) ∧ startBs [deadB, { bX n with live := false }, bX n, wz25 ((n : Int)).toNat] [deadB, deadB, bX n, pUb n]) ∧ q2) ∧
     K (some (.tup [(false, [.sl 3 0 n 1]), (false, [.sc (.int .i64 0) true])])) [deadB, deadB, bX n, pUb n]) := by kernel_rfl
theorem startB_fl {n : Nat} : startB (wz25 n) (pUb n) := by
  refine .inr ⟨rfl, rfl, rfl, fun E vs hr => ⟨?_, fun j c v hc hv => ?_⟩⟩
  · rw [← hr.1]
    show (symC _ _).length = (symC _ _).length
    rw [symC_length, symC_length]
  · have hj : j < n := by
      have := (List.getElem?_eq_some_iff.1 hc).1
      rwa [show (pUb n).cells = symC n fun j => FU from rfl, symC_length] at this
    rw [show (pUb n).cells = symC n fun j => FU from rfl, symC_get _ _ hj] at hc
    simp only [Option.some.injEq] at hc
    subst hc
    have := hr.2 j (.sc (.float .f64 0) true) v (by show (symC n _)[j]? = _; rw [symC_get _ _ hj]) hv
    exact ⟨_, this.1⟩
theorem startB_z0 {n : Nat} {x : Nat → Nat} : startB (zB n) (bY n (p1Y x 0)) := by
  refine startB_sc (t := 28) fun j _ => ⟨.complex .f64 0 0, true, false, rfl, ?_⟩
  show CC (p1Y x 0 j) = _
  unfold p1Y
  rw [if_neg (by omega)]
  rfl
def GPowU : List AV → Option (Prop × AV × Blk)
  | [.one (.lst n N 1 f)] => some (isL n N f ∧ fitB n = true, .tup [(false, [.sl 0 0 n 1]), (false, [.sc (.int .i64 0) true])], pUb n)
  | _ => none
theorem gcon23U : GCon Tryd.prog 23 GPowU := by
  refine gcon_of_runA hm hT Tryd.func23 Tryd.call23 fun args p v b h hp => ?_
  unfold GPowU at h
  split at h
  · rename_i n N f
    simp only [Option.some.injEq, Prod.mk.injEq] at h
    obtain ⟨rfl, rfl, rfl⟩ := h
    obtain ⟨⟨hnN, hf⟩, hfit⟩ := hp
    obtain ⟨hn, _⟩ := fit_le hfit
    generalize wdF f = x at *
    refine ⟨.inr rfl, sym_free fun k => trivial, FPU n x True True, [xF n x], ((FTok.addG gcon16U).addKeep 0 fun _ => loopP1U (by unfold bigN; omega)).addKeep 1 fun _ => loopP2U hn, fun E us hr => ?_, 300, [.l 0, .l 1], [], ?_⟩
    · obtain ⟨u, us, rfl, h1, h2⟩ := hr.cons
      exact .mk (lst_less (Nat.le_refl _) hnN hf h1) h2
    refine of_run (run23U n x _ _ _) ⟨⟨by omega, by omega, by omega, by omega⟩, rfl, ⟨⟨rfl, ⟨?_, rfl, rfl, rfl, trivial⟩, ⟨.refl _, ?_, trivial⟩⟩, trivial⟩, ⟨⟨⟨Nat.le_refl _, fun k => trivial⟩, trivial⟩, fit_is hfit, .inl rfl, Nat.le_refl _, fun k hk => rfl⟩, ⟨by omega, by omega, by omega, by omega⟩, rfl, ⟨⟨rfl, ⟨?_, rfl, rfl, rfl, trivial⟩, ⟨.refl _, .inl rfl, .refl _, ?_, trivial⟩⟩, trivial⟩, _, rfl, ?_⟩
    · show AV.one (.sl 1 0 ((n : Nat) : Int).toNat 1) = _
      rw [Int.toNat_natCast]; rfl
    · show startB (zB ((n : Nat) : Int).toNat) _
      rw [Int.toNat_natCast]
      exact startB_z0
    · show AV.one (.sl 3 0 ((n : Nat) : Int).toNat 1) = _
      rw [Int.toNat_natCast]
    · show startB (wz25 ((n : Nat) : Int).toNat) _
      rw [Int.toNat_natCast]
      exact startB_fl
    · exact one_left (D := [deadB, deadB, bX n]) noFroz ⟨⟨rfl, ⟨rfl, rfl, rfl, rfl⟩, trivial⟩, ⟨rfl, scC_eq rfl, trivial⟩, trivial⟩ (.inr ⟨rfl, rfl, rfl, rfl, fun j hj => renC_S rfl⟩)
  · cases h
/-! lengths that do not fit -/
noncomputable def FPN (n : Nat) (x : Nat → Nat) (q : Prop) : Fns := (FT.addG 16 GFwN).addLoop 0 cP1 (loopC 61 (lP1 n x 0) [deadB, bY n (p1Y x 0)] q (.exit 0) [(4, slY n)] [deadB, bX n])
theorem run23n (n : Nat) (x : Nat → Nat) (q : Prop) (K : Option AV → List Blk → Prop) : runK Tryd.prog T (FPN n x q) 300 Tryd.f23 [xF n x] [deadB] [.l 0] K =
    (Zok n ∧ cP1 = cP1 ∧ ((61 = 61 ∧ startLs [.one (.sl 1 0 ((n : Int)).toNat 1), xF n x, iv n, .one (.sc (.int .i64 0) true)] ((lP1 n x 0).map (·.2)) ∧ startBs [deadB, zB ((n : Int)).toNat] [deadB, bY n (p1Y x 0)]) ∧ q) ∧
     (((n ≤ n ∧ ∀ k : Nat, freeC CU) ∧ True) ∧ fitB n = false) ∧ K (some none2) [deadB, { bX n with live := false }, deadB]) := by kernel_rfl
def GPowN : List AV → Option (Prop × AV × Blk)
  | [.one (.lst n N 1 f)] => some (isL n N f ∧ fitB n = false ∧ n ≤ bigN, none2, deadB)
  | _ => none
theorem gcon23n : GCon Tryd.prog 23 GPowN := by
  refine gcon_of_runA hm hT Tryd.func23 Tryd.call23 fun args p v b h hp => ?_
  unfold GPowN at h
  split at h
  · rename_i n N f
    simp only [Option.some.injEq, Prod.mk.injEq] at h
    obtain ⟨rfl, rfl, rfl⟩ := h
    obtain ⟨⟨hnN, hf⟩, hfit, hn⟩ := hp
    have hn2 : n ≤ 17592186044416 := hn
    generalize wdF f = x at *
    refine ⟨.inl rfl, dead_free, FPN n x True, [xF n x], ((FTok.addG gcon16n).addKeep 0 fun _ => loopP1U hn), fun E us hr => ?_, 300, [.l 0], [], ?_⟩
    · obtain ⟨u, us, rfl, h1, h2⟩ := hr.cons
      exact .mk (lst_less (Nat.le_refl _) hnN hf h1) h2
    refine of_run (run23n n x _ _) ⟨⟨by omega, by omega, by omega, by omega⟩, rfl, ⟨⟨rfl, ⟨?_, rfl, rfl, rfl, trivial⟩, ⟨.refl _, ?_, trivial⟩⟩, trivial⟩, ⟨⟨⟨Nat.le_refl _, fun k => trivial⟩, trivial⟩, hfit⟩, _, rfl, nothing_left noFroz ⟨⟨rfl, rfl, trivial⟩, ⟨rfl, rfl, trivial⟩, trivial⟩⟩
    · show AV.one (.sl 1 0 ((n : Nat) : Int).toNat 1) = _
      rw [Int.toNat_natCast]; rfl
    · show startB (zB ((n : Nat) : Int).toNat) _
      rw [Int.toNat_natCast]
      exact startB_z0
  · cases h
end Go.Proofs.YthddkcoflnbjbaaDoor
