/-
  What is proved here: the document's sums on a list of known words of which nothing is known as numbers. contracts of the document's Forward (R.Forward). A text to be imported.
-/
import Derived.Test.YthddkcoflnbjbaaDoorQCon50
namespace Go.Proofs.YthddkcoflnbjbaaDoor
open Sm Go Go.RowKit Fl Ieee
set_option maxRecDepth 1000000
set_option linter.unusedVariables false
noncomputable def TA : Tab := { T with af := true }
theorem hTA : TabOk Tryd.prog TA := ⟨hT.ty, hT.eq, hT.fn⟩
/-! the sums -/
def l47iK (n : Nat) (x : Nat → Nat × Nat) (w : Nat → Nat × Nat) (k j : Nat) : List (Nat × AV) := [(0, prL n x), (5, iv n), (6, prL n w), (7, .one (.gr 2 k 2)), (8, iv k), (9, .one (.ptr 3 0)), (10, iv j)]
def l47fK (n : Nat) (x : Nat → Nat × Nat) (w : Nat → Nat × Nat) (k : Nat) : List (Nat × AV) := [(0, prL n x), (5, iv n), (6, prL n w), (7, .one (.gr 2 k 2)), (8, iv k), (9, .one (.ptr 3 0))]
theorem round47iK (n : Nat) (x w : Nat → Nat × Nat) (k j : Nat) (X : Ex → Nat → List AV → List Blk → Prop) : roundK Tryd.prog TA FT 300 c47i (tmL 82 (l47iK n x w k j)) (hp47iU k) [.b true] [0, 5, 6, 7, 8, 9, 10] X =
  (decide ((j : Int) < n) = true ∧ ((n : Int) == 0) = false ∧ (0 ≤ ixK n k j ∧ ixK n k j < n) ∧ (0 ≤ (j : Int) ∧ (j : Int) < n) ∧ (0 ≤ (j : Int) ∧ (j : Int) < n) ∧ (0 ≤ (j : Int) ∧ (j : Int) < n) ∧ (0 ≤ (j : Int) ∧ (j : Int) < n) ∧
   X .normal 82 [prL n x, iv n, prL n w, .one (.gr 2 k 2), iv k, .one (.ptr 3 0), iv (W (j + 1))] [deadB, deadB, gB 45 k 2 UU, bxU, deadB, bx (w (ixK n k j).toNat).1 (w (ixK n k j).toNat).2]) := by kernel_rfl
theorem exit47iK (n : Nat) (x w : Nat → Nat × Nat) (k j : Nat) (X : Ex → Nat → List AV → List Blk → Prop) : roundK Tryd.prog TA FT 300 c47i (tmL 82 (l47iK n x w k j)) (hp47iU k) [.b false] [0, 5, 6, 7, 8, 9] X =
  (decide ((j : Int) < n) = false ∧ X (.exit 2) 82 [prL n x, iv n, prL n w, .one (.gr 2 k 2), iv k, .one (.ptr 3 0)] (hp47iU k)) := by kernel_rfl
theorem loop47iK {n k : Nat} {x w : Nat → Nat × Nat} (hn : n ≤ 4096) (hk : k < n) : LoopOkB Tryd.prog 4 c47i (tmL 82 (l47iK n x w k 0)) (hp47iU k) (.exit 2) (tmL 82 (l47fK n x w k)) (hp47iU k) := by
  refine grow_rounds hm hTA 4 82 n (l47iK n x w k) (fun j => hp47iU k) (.exit 2) _ _ (by simp) (fun i _ => by simp [hp47iU]) (fun j hj => ⟨FT, FTok, 300, [.b true], [], ?_⟩) ⟨FT, FTok, 300, [.b false], [], ?_⟩ 0 (Nat.zero_le _)
  · show roundK Tryd.prog TA FT 300 c47i (tmL 82 (l47iK n x w k j)) (hp47iU k) [.b true] [0, 5, 6, 7, 8, 9, 10] _
    rw [round47iK]
    have hr : 0 ≤ (j : Int) ∧ (j : Int) < n := ⟨by omega, by omega⟩
    refine ⟨decide_eq_true (by omega), by simp; omega, ixK_bd hn hk hj, hr, hr, hr, hr, rfl, rfl, _, [deadB, deadB, gB 45 k 2 UU, bxU], [deadB], bx _ _, [deadB, deadB, gB 45 k 2 UU, bxU], deadB, .inl rfl, rfl, rfl, rfl, noFroz, ⟨?_, rfl, ?_, ⟨rfl, rfl, rfl⟩, rfl, ⟨rfl, rfl⟩, sc_eq ?_, trivial⟩, ⟨.inl rfl, .inl rfl, gB_same fun k hk => renCs_L ⟨rfl, rfl, trivial⟩, bxU_ren, trivial⟩, .inl rfl⟩
    · exact ⟨rfl, rfl, rfl, fun k _ => rfl⟩
    · exact ⟨rfl, rfl, rfl, fun k _ => rfl⟩
    · rw [Wid (by omega) (by omega)]; rfl
  · show roundK Tryd.prog TA FT 300 c47i (tmL 82 (l47iK n x w k n)) (hp47iU k) [.b false] [0, 5, 6, 7, 8, 9] _
    rw [exit47iK]
    refine ⟨decide_eq_false (by omega), rfl, rfl, _, [deadB, deadB, gB 45 k 2 UU, bxU], [], deadB, [deadB, deadB, gB 45 k 2 UU, bxU], deadB, .inl rfl, rfl, rfl, rfl, noFroz, ⟨?_, rfl, ?_, ⟨rfl, rfl, rfl⟩, rfl, ⟨rfl, rfl⟩, trivial⟩, ⟨.inl rfl, .inl rfl, gB_same fun k hk => renCs_L ⟨rfl, rfl, trivial⟩, bxU_ren, trivial⟩, .inl rfl⟩
    · exact ⟨rfl, rfl, rfl, fun k _ => rfl⟩
    · exact ⟨rfl, rfl, rfl, fun k _ => rfl⟩
def l47oK (n : Nat) (x : Nat → Nat × Nat) (w : Nat → Nat × Nat) (k : Nat) : List (Nat × AV) := [(0, prL n x), (5, iv n), (6, prL n w), (7, .one (.gr 2 k 2)), (8, iv k)]
noncomputable def F47iK (n k : Nat) (x w : Nat → Nat × Nat) (q : Prop) : Fns := FT.addLoop 0 c47i (loopC 82 (l47iK n x w k 0) [deadB, deadB, gB 45 k 2 UU, bxU] q (.exit 2) (l47fK n x w k) (hp47iU k))
theorem round47oK (n : Nat) (x w : Nat → Nat × Nat) (k : Nat) (q : Prop) (X : Ex → Nat → List AV → List Blk → Prop) : roundK Tryd.prog TA (F47iK n k x w q) 300 c47o (tmL 82 (l47oK n x w k)) (hp47oU k) [.b true, .l 0] [0, 5, 6, 7, 8] X =
  (decide ((k : Int) < n) = true ∧ c47i = c47i ∧ ((82 = 82 ∧ startLs [prL n x, iv n, prL n w, .one (.gr 2 k 2), iv k, .one (.ptr 3 0), .one (.sc (.int .i64 0) true)] ((l47iK n x w k 0).map (·.2)) ∧
    startBs [deadB, deadB, gB 45 k 2 UU, { body := .li [.sc (.float .f64 0) true, .sc (.float .f64 0) true], elem := 45, live := true, ro := false }] [deadB, deadB, gB 45 k 2 UU, bxU]) ∧ q) ∧
   ((k = k ∧ (k = 0 ∨ Nat.blt 0 k = true)) ∧ True ∧ (∀ j, (UU j).length = 2 ∧ ([FU, FU] : List C1).length = 2) ∧ (k + 1) * 16 ≤ 140737488355328 ∧ k + 1 ≤ maxLen) ∧
   X .normal 82 [prL n x, iv n, prL n w, .one (.gr 6 (k + 1) 2), iv (W (k + 1))] (hBoU k)) := by kernel_rfl
theorem exit47oK (n : Nat) (x w : Nat → Nat × Nat) (k : Nat) (X : Ex → Nat → List AV → List Blk → Prop) : roundK Tryd.prog TA FT 300 c47o (tmL 82 (l47oK n x w k)) (hp47oU k) [.b false] [7] X =
  (decide ((k : Int) < n) = false ∧ X (.exit 0) 82 [.one (.gr 2 k 2)] (hp47oU k)) := by kernel_rfl
theorem loop47oK {n : Nat} {x w : Nat → Nat × Nat} (hn : n ≤ 4096) : LoopOkB Tryd.prog 2 c47o (tmL 82 (l47oK n x w 0)) (hp47oU 0) (.exit 0) (tmL 82 [(7, .one (.gr 2 n 2))]) (hp47oU n) := by
  refine grow_rounds hm hTA 2 82 n (l47oK n x w) (fun k => hp47oU k) (.exit 0) _ _ (by simp) (fun i _ => by simp [hp47oU]) (fun k hk => ⟨F47iK n k x w True, ?_, 300, [.b true, .l 0], [], ?_⟩) ⟨FT, FTok, 300, [.b false], [], ?_⟩ 0 (Nat.zero_le _)
  · exact FTok.addGrow 0 (a := 4) (b0 := deadB) rfl rfl fun _ => loop47iK hn hk
  · show roundK Tryd.prog TA (F47iK n k x w True) 300 c47o (tmL 82 (l47oK n x w k)) (hp47oU k) [.b true, .l 0] [0, 5, 6, 7, 8] _
    rw [round47oK]
    refine ⟨decide_eq_true (by omega), rfl, ⟨⟨rfl, ⟨rfl, rfl, rfl, rfl, rfl, rfl, rfl, trivial⟩, ⟨.refl _, .refl _, .refl _, .inr ⟨rfl, rfl, rfl, fun E vs h => zero2 h⟩, trivial⟩⟩, trivial⟩, ⟨⟨rfl, live0 k⟩, trivial, fun j => ⟨rfl, rfl⟩, by omega, by show k + 1 ≤ 9223372036854775807; omega⟩, rfl, rfl, _, [deadB, deadB], [_, _, _, _], _, [deadB, deadB], gB 45 (k + 1) 2 UU, .inl rfl, rfl, rfl, rfl, noFroz, ⟨?_, rfl, ?_, ⟨rfl, rfl, rfl⟩, sc_eq ?_, trivial⟩, ⟨.inl rfl, .inl rfl, trivial⟩, gB_cat (fun k => rfl) rfl (fun k hk => renCs_L ⟨rfl, rfl, trivial⟩) (renCs_L ⟨rfl, rfl, trivial⟩)⟩
    · exact ⟨rfl, rfl, rfl, fun k _ => rfl⟩
    · exact ⟨rfl, rfl, rfl, fun k _ => rfl⟩
    · rw [Wid (by omega) (by omega)]; rfl
  · show roundK Tryd.prog TA FT 300 c47o (tmL 82 (l47oK n x w n)) (hp47oU n) [.b false] [7] _
    rw [exit47oK]
    exact ⟨decide_eq_false (by omega), rfl, rfl, _, [deadB, deadB], [], _, [deadB, deadB], _, .inl rfl, rfl, rfl, rfl, noFroz, ⟨⟨rfl, rfl, rfl⟩, trivial⟩, ⟨.inl rfl, .inl rfl, trivial⟩, gB_same fun k hk => renCs_L ⟨rfl, rfl, trivial⟩⟩
noncomputable def F47K (n : Nat) (s : Int) (x : Nat → Nat × Nat) (q : Prop) : Fns := FG58.addLoop 1 c47o (loopC 82 (l47oK n x (twP s n) 0) [deadB, deadB] q (.exit 0) [(7, .one (.gr 2 n 2))] (hp47oU n))
theorem run47K (n : Nat) (s : Int) (x : Nat → Nat × Nat) (q : Prop) (K : Option AV → List Blk → Prop) : runK Tryd.prog TA (F47K n s x q) 300 Tryd.f47 [prL n x, iv s] [deadB] [.l 1] K =
    ((((True ∧ True ∧ True) ∧ 0 ≤ (n : Int) ∧ (n : Int) ≤ 4096)) ∧ c47o = c47o ∧ ((82 = 82 ∧ startLs [prL n x, iv n, prL n (twP s n), .one (.sc (.slice none 0 0) true), .one (.sc (.int .i64 0) true)] ((l47oK n x (twP s n) 0).map (·.2)) ∧ startBs [deadB, deadB] [deadB, deadB]) ∧ q) ∧ K (some (.one (.gr 2 n 2))) (hp47oU n)) := by kernel_rfl
def GSumsK : List AV → Option (Prop × AV × Blk)
  | [.one (.lst n N 2 f), .one (.sc (.int .i64 s) false)] => some (isP n N f, prU n, deadB)
  | _ => none
theorem gcon47K : GCon Tryd.prog 47 GSumsK := by
  refine gcon_of_runA hm hTA Tryd.func47 Tryd.call47 fun args p v b h hp => ?_
  unfold GSumsK at h
  split at h
  · rename_i n N f s
    simp only [Option.some.injEq, Prod.mk.injEq] at h
    obtain ⟨rfl, rfl, rfl⟩ := h
    obtain ⟨hn, hnN, hf⟩ := hp
    refine ⟨.inl rfl, dead_free, F47K n s (wd2 f) True, [prL n (wd2 f), iv s], FG58ok.addGrow 1 (a := 2) (b0 := gB 45 0 2 UU) rfl rfl (fun _ => loop47oK hn), fun E us hr => ?_, 300, [.l 1], [2], ?_⟩
    · obtain ⟨u, us, rfl, h1, h2⟩ := hr.cons
      exact .mk (lst_less (Nat.le_refl _) hnN hf h1) h2
    · exact of_run (run47K _ _ _ _ _) ⟨⟨⟨trivial, trivial, trivial⟩, by omega, by omega⟩, rfl, ⟨⟨rfl, ⟨rfl, rfl, rfl, trivial, rfl, trivial⟩, startBs.refl _⟩, trivial⟩, _, rfl, export_gr (A := [deadB, deadB]) (D := []) (fun k => rfl) fun k => free2 trivial trivial⟩
  · cases h
end Go.Proofs.YthddkcoflnbjbaaDoor
namespace Go.Proofs.YthddkcoflnbjbaaDoor
open Sm Go Go.RowKit Fl Ieee
set_option maxRecDepth 1000000
set_option linter.unusedVariables false
def tupP (n : Nat) (f : Nat → List C1) : AV := .tup [(false, [.lst n n 2 f]), (false, [.sc (.int .i64 0) true])]
noncomputable def FSK : Fns := (FT.add 46 GFits).addG 47 GSumsK
theorem FSKok : FnsOk Tryd.prog FSK := (FTok.add con46).addG gcon47K
theorem run41K (n N : Nat) (f : Nat → List C1) (K : Option AV → List Blk → Prop) : runK Tryd.prog T FSK 300 Tryd.f41 [.one (.lst n N 2 f)] [deadB] [.b false] K =
    ((!(fitB n)) = false ∧ ((True ∧ True ∧ True) ∧ isP n N f) ∧ K (some (tupP n UU)) [deadB, deadB]) := by kernel_rfl
theorem run41n (n N : Nat) (f : Nat → List C1) (K : Option AV → List Blk → Prop) : runK Tryd.prog T FS0 300 Tryd.f41 [.one (.lst n N 2 f)] [deadB] [.b true] K =
    ((!(fitB n)) = true ∧ K (some none2) [deadB]) := by kernel_rfl
def GRFw : List AV → Option (Prop × AV × Blk)
  | [.one (.lst n N 2 f)] => some (fitB n = true ∧ isP n N f ∧ okSm n (wd2 f) (twP 1 n), tupP n (pF (smL n (wd2 f) (twP 1 n))), deadB)
  | _ => none
def GRFwK : List AV → Option (Prop × AV × Blk)
  | [.one (.lst n N 2 f)] => some (fitB n = true ∧ isP n N f, tupP n UU, deadB)
  | _ => none
def GRFwN : List AV → Option (Prop × AV × Blk)
  | [.one (.lst n N 2 f)] => some (fitB n = false, none2, deadB)
  | _ => none
theorem tupP_ren {a z : Nat} {js : List Nat} {hp : List Blk} (n : Nat) (f : Nat → List C1) : renA a z js hp (tupP n f) (tupP n f) := ⟨⟨rfl, ⟨rfl, rfl, rfl, fun _ _ => rfl⟩, trivial⟩, ⟨rfl, rfl, trivial⟩, trivial⟩
theorem gcon41K : GCon Tryd.prog 41 GRFwK := by
  refine gcon_of_run hm hT Tryd.func41 Tryd.call41 fun args p v b h hp => ?_
  unfold GRFwK at h
  split at h
  · rename_i n N f
    simp only [Option.some.injEq, Prod.mk.injEq] at h
    obtain ⟨rfl, rfl, rfl⟩ := h
    refine ⟨.inl rfl, dead_free, FSK, FSKok, 300, [.b false], [], ?_⟩
    exact of_run (run41K n N f _) ⟨by rw [hp.1]; rfl, ⟨⟨trivial, trivial, trivial⟩, hp.2⟩, _, rfl, nothing_left noFroz (tupP_ren _ _)⟩
  · cases h
theorem gcon41n : GCon Tryd.prog 41 GRFwN := by
  refine gcon_of_run hm hT Tryd.func41 Tryd.call41 fun args p v b h hp => ?_
  unfold GRFwN at h
  split at h
  · rename_i n N f
    simp only [Option.some.injEq, Prod.mk.injEq] at h
    obtain ⟨rfl, rfl, rfl⟩ := h
    refine ⟨.inl rfl, dead_free, FS0, FS0ok, 300, [.b true], [], ?_⟩
    exact of_run (run41n n N f _) ⟨by rw [hp]; rfl, _, rfl, nothing_left noFroz ⟨⟨rfl, rfl, trivial⟩, ⟨rfl, rfl, trivial⟩, trivial⟩⟩
  · cases h
end Go.Proofs.YthddkcoflnbjbaaDoor
