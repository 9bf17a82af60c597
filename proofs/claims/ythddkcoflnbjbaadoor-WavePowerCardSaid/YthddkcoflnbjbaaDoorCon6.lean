/-
  What is proved here: the document's list of turning numbers. A text to be imported.
-/
import Derived.Test.YthddkcoflnbjbaaDoorLaw3
import Derived.Test.YthddkcoflnbjbaaDoorSimW
namespace Go.Proofs.YthddkcoflnbjbaaDoor
open Sm Go Go.RowKit Fl Ieee
set_option maxRecDepth 1000000
set_option linter.unusedVariables false
def iv (n : Int) : AV := .one (.sc (.int .i64 n) false)
def FC (x : Nat) : C1 := .sc (.float .f64 x) false
/-- The document's turning numbers, as elements. -/
def turnF (s n : Int) (k : Nat) : List C1 := [FC (turnP (W (s * k)) n).1, FC (turnP (W (s * k)) n).2]
noncomputable def c58 : Code := pathC (bodyC Tryd.f58) [0]
def l58 (n : Nat) (s : Int) (i : Nat) : List (Nat × AV) := [(0, iv n), (1, iv s), (5, .one (.gr 1 i 2)), (6, iv i)]
theorem round58 (n : Nat) (s : Int) (i : Nat) (X : Ex → Nat → List AV → List Blk → Prop) : roundK Tryd.prog T FT 300 c58 (tmL 21 (l58 n s i)) [deadB, gB 45 i 2 (turnF s n)] [.b true] [0, 1, 5, 6] X =
  (decide ((i : Int) < n) = true ∧ ((i = i ∧ (i = 0 ∨ Nat.blt 0 i = true)) ∧ True ∧ (∀ k, (turnF s n k).length = 2 ∧ ([FC (turnP (W (s * (i : Int))) n).1, FC (turnP (W (s * (i : Int))) n).2] : List C1).length = 2) ∧ (i + 1) * 16 ≤ 140737488355328 ∧ i + 1 ≤ maxLen) ∧
   X .normal 21 [iv n, iv s, .one (.gr 3 (i + 1) 2), iv (W (i + 1))] [deadB, { gB 45 i 2 (turnF s n) with live := false }, { body := .li [FC (turnP (W (s * (i : Int))) n).1, FC (turnP (W (s * (i : Int))) n).2], elem := 45, live := true, ro := false }, { body := .rs (i + 1) 2 (catR i (turnF s n) fun _ => [FC (turnP (W (s * (i : Int))) n).1, FC (turnP (W (s * (i : Int))) n).2]), elem := 45, live := true, ro := false }]) := by
  kernel_rfl
def hp58 (n : Nat) (s : Int) (i : Nat) : List Blk := [deadB, gB 45 i 2 (turnF s n)]
theorem exit58 (n : Nat) (s : Int) (i : Nat) (X : Ex → Nat → List AV → List Blk → Prop) : roundK Tryd.prog T FT 300 c58 (tmL 21 (l58 n s i)) [deadB, gB 45 i 2 (turnF s n)] [.b false] [5] X =
  (decide ((i : Int) < n) = false ∧ X (.exit 0) 21 [.one (.gr 1 i 2)] [deadB, gB 45 i 2 (turnF s n)]) := by
  kernel_rfl
theorem loop58 (n : Nat) (s : Int) (hn : n ≤ 4096) : LoopOkB Tryd.prog 1 c58 (tmL 21 (l58 n s 0)) (hp58 n s 0) (.exit 0) (tmL 21 [(5, .one (.gr 1 n 2))]) (hp58 n s n) := by
  refine grow_rounds hm hT 1 21 n (l58 n s) (hp58 n s) (.exit 0) _ _ (by simp) (fun i _ => by simp [hp58]) (fun i hi => ⟨FT, FTok, 300, [.b true], [], ?_⟩) ⟨FT, FTok, 300, [.b false], [], ?_⟩ 0 (Nat.zero_le _)
  · show roundK Tryd.prog T FT 300 c58 (tmL 21 (l58 n s i)) [deadB, gB 45 i 2 (turnF s n)] [.b true] [0, 1, 5, 6] _
    rw [round58]
    refine ⟨decide_eq_true (by omega), ⟨⟨rfl, ?_⟩, trivial, fun k => ⟨rfl, rfl⟩, by omega, by show i + 1 ≤ 9223372036854775807; omega⟩, rfl, rfl, _, [deadB], [_, _], _, [deadB], gB 45 (i + 1) 2 (turnF s n), .inl rfl, rfl, rfl, rfl, noFroz, ⟨rfl, rfl, ⟨rfl, rfl, rfl⟩, sc_eq ?_, trivial⟩, ⟨.inl rfl, trivial⟩, gB_cat (fun k => rfl) rfl (fun k hk => renCs_L ⟨rfl, rfl, trivial⟩) (renCs_L ⟨rfl, rfl, trivial⟩)⟩
    · exact live0 i
    · rw [Wid (by omega) (by omega)]; rfl
  · show roundK Tryd.prog T FT 300 c58 (tmL 21 (l58 n s n)) [deadB, gB 45 n 2 (turnF s n)] [.b false] [5] _
    rw [exit58]
    exact ⟨decide_eq_false (by omega), rfl, rfl, _, [deadB], [], _, [deadB], _, .inl rfl, rfl, rfl, rfl, noFroz, ⟨⟨rfl, rfl, rfl⟩, trivial⟩, ⟨.inl rfl, trivial⟩, gB_same fun k hk => renCs_L ⟨rfl, rfl, trivial⟩⟩
noncomputable def F58 (n : Nat) (s : Int) : Fns := FT.addLoop 0 c58 (loopC 21 (l58 n s 0) [deadB] (n ≤ 4096) (.exit 0) [(5, .one (.gr 1 n 2))] (hp58 n s n))
theorem F58ok (n : Nat) (s : Int) : FnsOk Tryd.prog (F58 n s) := FTok.addGrow 0 (a := 1) (b0 := gB 45 0 2 (turnF s n)) rfl rfl fun hn => loop58 n s hn
theorem run58 (n : Nat) (s : Int) (K : Option AV → List Blk → Prop) : runK Tryd.prog T (F58 n s) 300 Tryd.f58 [iv n, iv s] [deadB] [.l 0] K =
    (c58 = c58 ∧ ((21 = 21 ∧ startLs [iv n, iv s, .one (.sc (.slice none 0 0) true), .one (.sc (.int .i64 0) true)] ((l58 n s 0).map (·.2)) ∧ startBs [deadB] [deadB]) ∧ n ≤ 4096) ∧ K (some (.one (.gr 1 n 2))) (hp58 n s n)) := by kernel_rfl
def GTurns : List AV → Option (Prop × AV × Blk)
  | [.one (.sc (.int .i64 n) false), .one (.sc (.int .i64 s) false)] => some (0 ≤ n ∧ n ≤ 4096, .one (.lst n.toNat n.toNat 2 (turnF s n)), deadB)
  | _ => none
theorem gcon58 : GCon Tryd.prog 58 GTurns := by
  refine gcon_of_run hm hT Tryd.func58 Tryd.call58 fun args p v b h hp => ?_
  unfold GTurns at h
  split at h
  · rename_i n s
    simp only [Option.some.injEq, Prod.mk.injEq] at h
    obtain ⟨rfl, rfl, rfl⟩ := h
    obtain ⟨N, rfl⟩ := Int.eq_ofNat_of_zero_le hp.1
    refine ⟨.inl rfl, dead_free, F58 N s, F58ok N s, 300, [.l 0], [1], ?_⟩
    exact of_run (run58 N s _) ⟨rfl, ⟨⟨rfl, ⟨rfl, rfl, trivial, rfl, trivial⟩, startBs.refl _⟩, by omega⟩, _, rfl, export_gr (A := [deadB]) (D := []) (fun k => rfl) fun k => free2 trivial trivial⟩
  · cases h
end Go.Proofs.YthddkcoflnbjbaaDoor
