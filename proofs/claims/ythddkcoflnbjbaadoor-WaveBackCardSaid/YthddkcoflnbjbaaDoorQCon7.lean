/-
  What is proved here: the document's list of turning numbers. contracts of bits.Len and bits.Reverse64. A text to be imported.
-/
import Derived.Test.YthddkcoflnbjbaaDoorQLaw3
import Derived.Test.YthddkcoflnbjbaaDoorQSimW
namespace Go.Proofs.YthddkcoflnbjbaaDoor
open Sm Go Go.RowKit Fl Ieee
set_option maxRecDepth 1000000
set_option linter.unusedVariables false
def iv (n : Int) : AV := .one (.sc (.int .i64 n) false)
def FC (x : Nat) : C1 := .sc (.float .f64 x) false
def turnF (s n : Int) (k : Nat) : List C1 := [FC (turnP (W (s * k)) n).1, FC (turnP (W (s * k)) n).2]
noncomputable def c58 : Code := pathC (bodyC Tryd.f58) [0]
def l58 (n : Nat) (s : Int) (i : Nat) : List (Nat × AV) := [(0, iv n), (1, iv s), (5, .one (.gr 1 i 2)), (6, iv i)]
theorem round58 (n : Nat) (s : Int) (i : Nat) (X : Ex → Nat → List AV → List Blk → Prop) : roundK Tryd.prog T FT 300 c58 (tmL 21 (l58 n s i)) [deadB, gB 45 i 2 (turnF s n)] [.b true] [0, 1, 5, 6] X =
  (decide ((i : Int) < n) = true ∧ ((i = i ∧ (i = 0 ∨ Nat.blt 0 i = true)) ∧ True ∧ (∀ k, (turnF s n k).length = 2 ∧ ([FC (turnP (W (s * (i : Int))) n).1, FC (turnP (W (s * (i : Int))) n).2] : List C1).length = 2) ∧ (i + 1) * 16 ≤ 140737488355328 ∧ i + 1 ≤ maxLen) ∧
   X .normal 21 [iv n, iv s, .one (.gr 3 (i + 1) 2), iv (W (i + 1))] [deadB, { gB 45 i 2 (turnF s n) with live := false }, { body := .li [FC (turnP (W (s * (i : Int))) n).1, FC (turnP (W (s * (i : Int))) n).2], elem := 45, live := true, ro := false }, { body := .rs (i + 1) 2 (catR i (turnF s n) fun _ => [FC (turnP (W (s * (i : Int))) n).1, FC (turnP (W (s * (i : Int))) n).2]), elem := 45, live := true, ro := false }]) := by
  kernel_rfl
def hp58 (n : Nat) (s : Int) (i : Nat) : List Blk := [deadB, gB 45 i 2 (turnF s n)]
theorem exit58 (n : Nat) (s : Int) (i : Nat) (X : Ex → Nat → List AV → List Blk → Prop) : roundK Tryd.prog T FT 300 c58 (tmL 21 (l58 n s i)) [deadB, gB 45 i 2 (turnF s n)] [.b false] [5] X =
  (decide ((i : Int) < n) = false ∧ X (.exit 0) 21 [.one (.gr 1 i 2)] [deadB, gB 45 i 2 (turnF s n)]) := by
  kernel_rfl
theorem loop58 (n : Nat) (s : Int) (hn : n ≤ 4096) : LoopOkB Tryd.prog 1 c58 (tmL 21 (l58 n s 0)) (hp58 n s 0) (.exit 0) (tmL 21 [(5, .one (.gr 1 n 2))]) (hp58 n s n) := by
  refine grow_rounds hm hT 1 21 n (l58 n s) (hp58 n s) (.exit 0) _ _ (by simp) (fun i _ => by simp [hp58]) (fun i hi => ⟨FT, FTok, 300, [.b true], [], ?_⟩) ⟨FT, FTok, 300, [.b false], [], ?_⟩ 0 (Nat.zero_le _)
  · show roundK Tryd.prog T FT 300 c58 (tmL 21 (l58 n s i)) [deadB, gB 45 i 2 (turnF s n)] [.b true] [0, 1, 5, 6] _
    rw [round58]
    refine ⟨decide_eq_true (by omega), ⟨⟨rfl, ?_⟩, trivial, fun k => ⟨rfl, rfl⟩, by omega, by show i + 1 ≤ 9223372036854775807; omega⟩, rfl, rfl, _, [deadB], [_, _], _, [deadB], gB 45 (i + 1) 2 (turnF s n), .inl rfl, rfl, rfl, rfl, noFroz, ⟨rfl, rfl, ⟨rfl, rfl, rfl⟩, sc_eq ?_, trivial⟩, ⟨.inl rfl, trivial⟩, gB_cat (fun k => rfl) rfl (fun k hk => renCs_L ⟨rfl, rfl, trivial⟩) (renCs_L ⟨rfl, rfl, trivial⟩)⟩
    · exact live0 i
    · rw [Wid (by omega) (by omega)]; rfl
  · show roundK Tryd.prog T FT 300 c58 (tmL 21 (l58 n s n)) [deadB, gB 45 n 2 (turnF s n)] [.b false] [5] _
    rw [exit58]
    exact ⟨decide_eq_false (by omega), rfl, rfl, _, [deadB], [], _, [deadB], _, .inl rfl, rfl, rfl, rfl, noFroz, ⟨⟨rfl, rfl, rfl⟩, trivial⟩, ⟨.inl rfl, trivial⟩, gB_same fun k hk => renCs_L ⟨rfl, rfl, trivial⟩⟩
noncomputable def F58 (n : Nat) (s : Int) : Fns := FT.addLoop 0 c58 (loopC 21 (l58 n s 0) [deadB] (n ≤ 4096) (.exit 0) [(5, .one (.gr 1 n 2))] (hp58 n s n))
theorem F58ok (n : Nat) (s : Int) : FnsOk Tryd.prog (F58 n s) := FTok.addGrow 0 (a := 1) (b0 := gB 45 0 2 (turnF s n)) rfl rfl fun hn => loop58 n s hn
theorem run58 (n : Nat) (s : Int) (K : Option AV → List Blk → Prop) : runK Tryd.prog T (F58 n s) 300 Tryd.f58 [iv n, iv s] [deadB] [.l 0] K =
    (c58 = c58 ∧ ((21 = 21 ∧ startLs [iv n, iv s, .one (.sc (.slice none 0 0) true), .one (.sc (.int .i64 0) true)] ((l58 n s 0).map (·.2)) ∧ startBs [deadB] [deadB]) ∧ n ≤ 4096) ∧ K (some (.one (.gr 1 n 2))) (hp58 n s n)) := by kernel_rfl
def GTurns : List AV → Option (Prop × AV × Blk)
  | [.one (.sc (.int .i64 n) false), .one (.sc (.int .i64 s) false)] => some (0 ≤ n ∧ n ≤ 4096, .one (.lst n.toNat n.toNat 2 (turnF s n)), deadB)
  | _ => none
theorem gcon58 : GCon Tryd.prog 58 GTurns := by
  refine gcon_of_run hm hT Tryd.func58 Tryd.call58 fun args p v b h hp => ?_
  unfold GTurns at h
  split at h
  · rename_i n s
    simp only [Option.some.injEq, Prod.mk.injEq] at h
    obtain ⟨rfl, rfl, rfl⟩ := h
    obtain ⟨N, rfl⟩ := Int.eq_ofNat_of_zero_le hp.1
    refine ⟨.inl rfl, dead_free, F58 N s, F58ok N s, 300, [.l 0], [1], ?_⟩
    exact of_run (run58 N s _) ⟨rfl, ⟨⟨rfl, ⟨rfl, rfl, trivial, rfl, trivial⟩, startBs.refl _⟩, by omega⟩, _, rfl, export_gr (A := [deadB]) (D := []) (fun k => rfl) fun k => free2 trivial trivial⟩
  · cases h
end Go.Proofs.YthddkcoflnbjbaaDoor
namespace Go.Proofs.YthddkcoflnbjbaaDoor
open Sm Go Go.RowKit Fl Ieee
set_option maxRecDepth 1000000
set_option linter.unusedVariables false
def uv (n : Int) : AV := .one (.sc (.int .u64 n) false)
def lu (n : Int) : AV := .one (.sc (.int .u64 n) true)
def mask (p : Nat) : Int := 2 ^ p - 1
def GLen : List ArgV → Option (Prop × Value)
  | [.val (.int .u64 x)] => some (∃ p : Nat, p ≤ 12 ∧ x = mask p, .int .i64 (if x = 0 then 0 else (x.toNat.log2 : Int) + 1))
  | _ => none
theorem runL0 : runK Tryd.prog T FT 300 Tryd.f60 [lu (mask 0)] [] [] (fun r _ => resW r = some (.int .i64 (0 : Nat))) = (some (Value.int .i64 (0 : Nat)) = some (Value.int .i64 (0 : Nat))) := by kernel_rfl
theorem runL1 : runK Tryd.prog T FT 300 Tryd.f60 [lu (mask 1)] [] [] (fun r _ => resW r = some (.int .i64 (1 : Nat))) = (some (Value.int .i64 (1 : Nat)) = some (Value.int .i64 (1 : Nat))) := by kernel_rfl
theorem runL2 : runK Tryd.prog T FT 300 Tryd.f60 [lu (mask 2)] [] [] (fun r _ => resW r = some (.int .i64 (2 : Nat))) = (some (Value.int .i64 (2 : Nat)) = some (Value.int .i64 (2 : Nat))) := by kernel_rfl
theorem runL3 : runK Tryd.prog T FT 300 Tryd.f60 [lu (mask 3)] [] [] (fun r _ => resW r = some (.int .i64 (3 : Nat))) = (some (Value.int .i64 (3 : Nat)) = some (Value.int .i64 (3 : Nat))) := by kernel_rfl
theorem runL4 : runK Tryd.prog T FT 300 Tryd.f60 [lu (mask 4)] [] [] (fun r _ => resW r = some (.int .i64 (4 : Nat))) = (some (Value.int .i64 (4 : Nat)) = some (Value.int .i64 (4 : Nat))) := by kernel_rfl
theorem runL5 : runK Tryd.prog T FT 300 Tryd.f60 [lu (mask 5)] [] [] (fun r _ => resW r = some (.int .i64 (5 : Nat))) = (some (Value.int .i64 (5 : Nat)) = some (Value.int .i64 (5 : Nat))) := by kernel_rfl
theorem runL6 : runK Tryd.prog T FT 300 Tryd.f60 [lu (mask 6)] [] [] (fun r _ => resW r = some (.int .i64 (6 : Nat))) = (some (Value.int .i64 (6 : Nat)) = some (Value.int .i64 (6 : Nat))) := by kernel_rfl
theorem runL7 : runK Tryd.prog T FT 300 Tryd.f60 [lu (mask 7)] [] [] (fun r _ => resW r = some (.int .i64 (7 : Nat))) = (some (Value.int .i64 (7 : Nat)) = some (Value.int .i64 (7 : Nat))) := by kernel_rfl
theorem runL8 : runK Tryd.prog T FT 300 Tryd.f60 [lu (mask 8)] [] [] (fun r _ => resW r = some (.int .i64 (8 : Nat))) = (some (Value.int .i64 (8 : Nat)) = some (Value.int .i64 (8 : Nat))) := by kernel_rfl
theorem runL9 : runK Tryd.prog T FT 300 Tryd.f60 [lu (mask 9)] [] [] (fun r _ => resW r = some (.int .i64 (9 : Nat))) = (some (Value.int .i64 (9 : Nat)) = some (Value.int .i64 (9 : Nat))) := by kernel_rfl
theorem runL10 : runK Tryd.prog T FT 300 Tryd.f60 [lu (mask 10)] [] [] (fun r _ => resW r = some (.int .i64 (10 : Nat))) = (some (Value.int .i64 (10 : Nat)) = some (Value.int .i64 (10 : Nat))) := by kernel_rfl
theorem runL11 : runK Tryd.prog T FT 300 Tryd.f60 [lu (mask 11)] [] [] (fun r _ => resW r = some (.int .i64 (11 : Nat))) = (some (Value.int .i64 (11 : Nat)) = some (Value.int .i64 (11 : Nat))) := by kernel_rfl
theorem runL12 : runK Tryd.prog T FT 300 Tryd.f60 [lu (mask 12)] [] [] (fun r _ => resW r = some (.int .i64 (12 : Nat))) = (some (Value.int .i64 (12 : Nat)) = some (Value.int .i64 (12 : Nat))) := by kernel_rfl
theorem runL (p : Nat) (hp : p ≤ 12) : runK Tryd.prog T FT 300 Tryd.f60 [lu (mask p)] [] [] (fun r _ => resW r = some (.int .i64 p)) = (some (Value.int .i64 p) = some (Value.int .i64 p)) := by
  match p, hp with
  | 0, _ => exact runL0
  | 1, _ => exact runL1
  | 2, _ => exact runL2
  | 3, _ => exact runL3
  | 4, _ => exact runL4
  | 5, _ => exact runL5
  | 6, _ => exact runL6
  | 7, _ => exact runL7
  | 8, _ => exact runL8
  | 9, _ => exact runL9
  | 10, _ => exact runL10
  | 11, _ => exact runL11
  | 12, _ => exact runL12
  | n + 13, h => omega
theorem mask_len (p : Nat) (hp : p ≤ 12) : (if mask p = 0 then 0 else ((mask p).toNat.log2 : Int) + 1) = p := by
  have : ∀ p, p ≤ 12 → (if mask p = 0 then 0 else ((mask p).toNat.log2 : Int) + 1) = p := by decide +kernel
  exact this p hp
theorem con60 : ConP Tryd.prog 60 GLen := by
  refine conP_of_runW hm hT FTok Tryd.func60 Tryd.call60 fun avs p u h hp => ?_
  unfold GLen at h
  split at h
  · simp only [Option.some.injEq, Prod.mk.injEq] at h
    obtain ⟨rfl, rfl⟩ := h
    obtain ⟨p, hp, rfl⟩ := hp
    rw [mask_len p hp]
    exact ⟨[true], 300, [], _, _, rfl, of_run (runL p hp) rfl⟩
  · cases h
noncomputable def FB0 : Fns := FT.addP 60 GLen
theorem FB0ok : FnsOk Tryd.prog FB0 := FTok.addP con60
theorem run48 (x : Int) (u : Value) : runK Tryd.prog T FB0 300 Tryd.f48 [uv x] [] [] (fun r _ => resW r = some u) = ((∃ p : Nat, p ≤ 12 ∧ x = mask p) ∧ some (Value.int .i64 (if x = 0 then 0 else (x.toNat.log2 : Int) + 1)) = some u) := by kernel_rfl
theorem con48 : ConP Tryd.prog 48 GLen := by
  refine conP_of_runW hm hT FB0ok Tryd.func48 Tryd.call48 fun avs p u h hp => ?_
  unfold GLen at h
  split at h
  · simp only [Option.some.injEq, Prod.mk.injEq] at h
    obtain ⟨rfl, rfl⟩ := h
    exact ⟨[false], 300, [], _, _, rfl, of_run (run48 _ _) ⟨hp, rfl⟩⟩
  · cases h
def U (x : Int) : Int := IntKind.u64.wrap x
def andU (x m : Int) : Int := U (BitVec.ofInt IntKind.u64.bits x &&& BitVec.ofInt IntKind.u64.bits m).toNat
def orU (x m : Int) : Int := U (BitVec.ofInt IntKind.u64.bits x ||| BitVec.ofInt IntKind.u64.bits m).toNat
def shrU (x : Int) (n : Nat) : Int := x.fdiv (2 ^ n)
def shlU (x : Int) (n : Nat) : Int := U (x * 2 ^ n)
def swp (m : Int) (n : Nat) (x : Int) : Int := orU (andU (shrU x n) m) (shlU (andU x m) n)
def rb64 (x : Int) : Int := let y := swp 281470681808895 16 (swp 71777214294589695 8 x); orU (shrU y 32) (shlU y 32)
def rv64 (x : Int) : Int := rb64 (swp 1085102592571150095 4 (swp 3689348814741910323 2 (swp 6148914691236517205 1 x)))
theorem run61 (x : Int) (u : Value) : runK Tryd.prog T FB0 300 Tryd.f61 [uv x] [] [] (fun r _ => resW r = some u) = (some (Value.int .u64 (rb64 x)) = some u) := by kernel_rfl
def GRb : List ArgV → Option Value
  | [.val (.int .u64 x)] => some (.int .u64 (rb64 x))
  | _ => none
theorem con61 : Con Tryd.prog 61 GRb := by
  refine con_of_runW hm hT FB0ok Tryd.func61 Tryd.call61 fun avs u h => ?_
  unfold GRb at h
  split at h
  · simp only [Option.some.injEq] at h; subst h
    exact ⟨[false], 300, [], _, _, rfl, of_run (run61 _ _) rfl⟩
  · cases h
noncomputable def FB1 : Fns := (FB0.addP 48 GLen).add 61 GRb
theorem FB1ok : FnsOk Tryd.prog FB1 := (FB0ok.addP con48).add con61
theorem run49 (x : Int) (u : Value) : runK Tryd.prog T FB1 300 Tryd.f49 [uv x] [] [] (fun r _ => resW r = some u) = (some (Value.int .u64 (rv64 x)) = some u) := by kernel_rfl
def GRv : List ArgV → Option Value
  | [.val (.int .u64 x)] => some (.int .u64 (rv64 x))
  | _ => none
theorem con49 : Con Tryd.prog 49 GRv := by
  refine con_of_runW hm hT FB1ok Tryd.func49 Tryd.call49 fun avs u h => ?_
  unfold GRv at h
  split at h
  · simp only [Option.some.injEq] at h; subst h
    exact ⟨[false], 300, [], _, _, rfl, of_run (run49 _ _) rfl⟩
  · cases h
noncomputable def FB : Fns := FB1.add 49 GRv
theorem FBok : FnsOk Tryd.prog FB := FB1ok.add con49
def rev : Nat → Nat → Nat
  | 0, _ => 0
  | p + 1, b => rev p (b / 2) + b % 2 * 2 ^ p
def rvp (p i : Nat) : Nat := (shrU (rv64 i) (min ((64 : Int) - p).toNat 64)).toNat
def rvAll (p : Nat) : Nat → Nat → Bool
  | 0, _ => true
  | m + 1, i => Nat.beq (rvp p i) (rev p i) && Nat.beq (rev p (rev p i)) i && Nat.blt (rev p i) (2 ^ p) && rvAll p m (i + 1)
theorem rv_all : ∀ p, p ≤ 12 → rvAll p (2 ^ p) 0 = true := by decide +kernel
end Go.Proofs.YthddkcoflnbjbaaDoor
