/-
  What is proved here: the loops of the laws' helper apart that make the lists longer. A text to be imported.
-/
import Derived.Test.YthddkcoflnbjbaaDoorQCon60
namespace Sm
open Go Go.RowKit
theorem grow_cons {P : Program} {T : Tab} (hm : P.follows .mixedOrders = true) (hT : TabOk P T) {c : Code} {a n0 : Nat} {l0 l1 : List (Nat × AV)} {hp0 hp1 hp2 : List Blk} {x : Ex} {tm2 : Tm} {hpf : List Blk} (ha : a ≤ hp0.length)
    (h1 : ∃ F, FnsOk P F ∧ ∃ n orc js, roundK P T F n c (tmL n0 l0) hp0 orc (l1.map (·.1)) (AfterG .normal a n0 js l1 hp1)) (hle : HpLe hp1 hp2) (h2 : LoopOkB P a c (tmL n0 l1) hp2 x tm2 hpf) : LoopOkB P a c (tmL n0 l0) hp0 x tm2 hpf := by
  intro B w0 E ac w Q hh ht hq
  obtain ⟨F, hF, n, orc, js, h⟩ := h1
  unfold roundK at h
  refine InLoop.round ((code_both hm hT n B w0 F hF c).1 _ _ _ _ E ac w _ h hh ht ?_)
  intro y tm' hp' orc' E' a' w' hk hpre hrt hd' hrh
  have haE : a ≤ E.length := by rw [hh.len]; exact ha
  obtain ⟨rfl, E2, h1, h3, h4⟩ := after_cut hk hpre haE hrh hrt
  refine h2 B w0 E2 a' w' Q (hle.RH h3) h4 fun E3 a3 w3 hpre3 hrt3 hd3 hrh3 => hq E3 a3 w3 (List.IsPrefix.trans ?_ hpre3) hrt3 (hd3.trans hd') hrh3
  obtain ⟨t, rfl⟩ := h1
  rw [List.take_append_of_le_length (by rw [List.length_take]; omega), List.take_take, Nat.min_self]
  exact List.prefix_refl _
end Sm
namespace Go.Proofs.YthddkcoflnbjbaaDoor
open Sm Go Go.RowKit Fl Ieee
set_option maxRecDepth 1000000
set_option linter.unusedVariables false
def l45b (lg : AV) (i : Int) (j m k : Nat) : List (Nat × AV) := [(0, gotA), (5, lg), (6, ic i), (7, .one (.sl j 0 m 1)), (8, iv k)]
def l45n (lg : AV) (i : Int) (k : Nat) : List (Nat × AV) := [(0, gotA), (5, lg), (6, ic i), (7, .one nilC), (8, iv k)]
def syL (n : Nat) (z : Nat → Nat × Nat) : Blk := { body := .sy n fun k => CC (z k), elem := 28, live := true, ro := false }
def lgW (n m k : Nat) : Nat × Nat := if k < n then (m, oneW) else (m, twoW)
def hb0 (a j n : Nat) (z : Nat → Nat × Nat) (v w : Nat → Blk) : List Blk := hv j v ++ syW n z :: hv (a - 1 - j) w
def okA (n k : Nat) : Prop := 1 ≠ 0 ∧ n + k = (n + k) * 1 ∧ 1 ≤ 1 ∧ (n + k + 1) * 16 ≤ 140737488355328 ∧ n + k + 1 ≤ maxLen
def mk2B (m : Nat) : Blk := { body := .li [.sc (.complex .f64 m twoW) true], elem := 28, live := true, ro := false }
def nxB (n k m : Nat) (z : Nat → Nat × Nat) : Blk := { body := .sy ((n + k) * 1 + 1) (catG ((n + k) * 1) (fun t => CC (z t)) 0 fun _ => .sc (.complex .f64 m twoW) true), elem := 28, live := true, ro := false }
theorem nxB_ren {A z0 : Nat} {js : List Nat} {hp : List Blk} {n k m : Nat} {z : Nat → Nat × Nat} (hz : ∀ t, t < n + k → z t = lgW n m t) : renB A z0 js hp (nxB n k m z) (syL (n + (k + 1)) (lgW n m)) := by
  refine .inr ⟨rfl, rfl, rfl, ?_, fun t ht => ?_⟩
  · show (n + k) * 1 + 1 = n + (k + 1)
    omega
  · show renS A z0 js hp (catG ((n + k) * 1) (fun t => CC (z t)) 0 (fun _ => .sc (.complex .f64 m twoW) true) t) (CC (lgW n m t))
    unfold catG
    rw [Nat.mul_one]
    by_cases h : t < n + k
    · rw [blt_t h]
      refine renC_S ?_
      show Value.complex .f64 (z t).1 (z t).2 = Value.complex .f64 (lgW n m t).1 (lgW n m t).2
      rw [hz t h]
    · rw [blt_f (by omega)]
      refine renC_S ?_
      show Value.complex .f64 m twoW = Value.complex .f64 (lgW n m t).1 (lgW n m t).2
      unfold lgW
      rw [if_neg (by omega)]
theorem okA_ok {n k : Nat} (hn : n ≤ 4096) (hk : k < 20) : okA n k := ⟨by omega, by omega, Nat.le_refl _, by omega, by show n + k + 1 ≤ 9223372036854775807; omega⟩
theorem mk2_le {m : Nat} : BlkLe (mk2B m) (syL (0 + 1) (lgW 0 m)) := ⟨rfl, rfl, rfl, fun E vs h => ⟨h.1, fun j c v hc hv => by
  match j, hc with
  | 0, hc =>
    have h0 : lgW 0 m 0 = (m, twoW) := if_neg (by omega)
    have e : c = CC (lgW 0 m 0) := (Option.some.inj hc).symm
    rw [e, h0]
    exact h.2 0 (.sc (.complex .f64 m twoW) true) v rfl hv⟩⟩
theorem app3 (A : List Blk) (x y b : Blk) : A ++ [x, y, b] = A ++ [x, y] ++ [b] := by simp
theorem app1 (A : List Blk) (b : Blk) : A ++ [b] = A ++ [] ++ [b] := by simp
theorem round45b_0 (n k : Nat) (z : Nat → Nat × Nat) (v : Nat → Blk) (lg : AV) (X : Ex → Nat → List AV → List Blk → Prop) : roundK Tryd.prog T FT 300 c45b (tmL 131 (l45b lg 0 23 (n + k) k)) (hv 23 v ++ [syL (n + k) z]) [.b true] [0, 5, 6, 7, 8] X =
  (decide ((k : Int) < 20) = true ∧ okA n k ∧ X .normal 131 [gotA, lg, ic 0, .one (.sl 25 0 (n + k + 1) 1), iv (W (k + 1))] (hv 23 v ++ [{ syL (n + k) z with live := false }, mk2B 0, nxB n k 0 z])) := by kernel_rfl
theorem first45b_0 (n : Nat) (z : Nat → Nat × Nat) (v w : Nat → Blk) (lg : AV) (X : Ex → Nat → List AV → List Blk → Prop) : roundK Tryd.prog T FT 300 c45b (tmL 131 (l45b lg 0 9 (n + 0) 0)) (hb0 23 9 (n + 0) z v w ++ [deadB]) [.b true] [0, 5, 6, 7, 8] X =
  (decide (((0 : Nat) : Int) < 20) = true ∧ okA n 0 ∧ X .normal 131 [gotA, lg, ic 0, .one (.sl 25 0 (n + 0 + 1) 1), iv (W ((0 : Nat) + 1))] (hb0 23 9 (n + 0) z v w ++ [deadB, mk2B 0, nxB n 0 0 z])) := by kernel_rfl
theorem firstn_0 (v : Nat → Blk) (lg : AV) (X : Ex → Nat → List AV → List Blk → Prop) : roundK Tryd.prog T FT 300 c45b (tmL 131 (l45n lg 0 0)) (hv 23 v ++ [deadB]) [.b true] [0, 5, 6, 7, 8] X =
  (true = true ∧ X .normal 131 [gotA, lg, ic 0, .one (.sl 25 0 1 1), iv (W ((0 : Nat) + 1))] (hv 23 v ++ [deadB, mk2B 0, mk2B 0])) := by kernel_rfl
theorem exit45b_0 (n : Nat) (z : Nat → Nat × Nat) (v : Nat → Blk) (lg : AV) (X : Ex → Nat → List AV → List Blk → Prop) : roundK Tryd.prog T FT 300 c45b (tmL 131 (l45b lg 0 23 (n + 20) 20)) (hv 23 v ++ [syL (n + 20) z]) [.b false] [0, 5, 6, 7] X =
  (decide (((20 : Nat) : Int) < 20) = false ∧ X (.exit 6) 131 [gotA, lg, ic 0, .one (.sl 23 0 (n + 20) 1)] (hv 23 v ++ [syL (n + 20) z])) := by kernel_rfl
def S0 (lg : AV) (n k : Nat) : List (Nat × AV) := l45b lg 0 23 (n + (k + 1)) (k + 1)
def HS0 (n : Nat) (v : Nat → Blk) (k : Nat) : List Blk := hv 23 v ++ [syL (n + (k + 1)) (lgW n 0)]
theorem rest45b_0 {n : Nat} {v : Nat → Blk} {lg : AV} (hn : n ≤ 4096) (hlg : ∀ z hp, renA 23 z [] hp lg lg) (hvv : ∀ z hp, renBs 23 z [] hp (hv 23 v) (hv 23 v)) :
    LoopOkB Tryd.prog 23 c45b (tmL 131 (l45b lg 0 23 (n + 1) 1)) (hv 23 v ++ [syL (n + 1) (lgW n 0)]) (.exit 6) (tmL 131 [(0, gotA), (5, lg), (6, ic 0), (7, .one (.sl 23 0 (n + 20) 1))]) (hv 23 v ++ [syL (n + 20) (lgW n 0)]) := by
  have hlen : (hv 23 v).length = 23 := by simp [hv]
  refine grow_rounds hm hT 23 131 19 (S0 lg n) (HS0 n v) (.exit 6) _ _ (by simp) (fun k _ => by simp [HS0, hlen]) (fun k hk => ?_) ⟨FT, FTok, 300, [.b false], [], ?_⟩ 0 (Nat.zero_le _)
  · refine ⟨FT, FTok, 300, [.b true], [], ?_⟩
    show roundK Tryd.prog T FT 300 c45b (tmL 131 (l45b lg 0 23 (n + (k + 1)) (k + 1))) (hv 23 v ++ [syL (n + (k + 1)) (lgW n 0)]) [.b true] [0, 5, 6, 7, 8] _
    rw [round45b_0]
    refine ⟨decide_eq_true (by omega), okA_ok hn (by omega), rfl, rfl, _, hv 23 v, [_, _], _, hv 23 v, syL (n + (k + 1 + 1)) (lgW n 0), .inl rfl, hlen, app3 _ _ _ _, rfl, noFroz, ⟨⟨rfl, rfl, rfl, rfl⟩, hlg _ _, rfl, ⟨rfl, rfl, rfl, rfl⟩, sc_eq ?_, trivial⟩, hvv _ _, nxB_ren fun t ht => rfl⟩
    rw [Wid (by omega) (by omega)]; rfl
  · show roundK Tryd.prog T FT 300 c45b (tmL 131 (l45b lg 0 23 (n + 20) 20)) (hv 23 v ++ [syL (n + 20) (lgW n 0)]) [.b false] [0, 5, 6, 7] _
    rw [exit45b_0]
    exact ⟨rfl, rfl, rfl, _, hv 23 v, [], _, hv 23 v, _, .inl rfl, hlen, app1 _ _, rfl, noFroz, ⟨⟨rfl, rfl, rfl, rfl⟩, hlg _ _, rfl, ⟨rfl, rfl, rfl, rfl⟩, trivial⟩, hvv _ _, .inr ⟨rfl, rfl, rfl, rfl, fun t ht => renC_S rfl⟩⟩
theorem loop45b_0 {n : Nat} {v w u : Nat → Blk} {lg : AV} (hn : n ≤ 4096) (hlg : ∀ z hp, renA 23 z [] hp lg lg) (hvv : ∀ z hp, renBs 23 z [] hp (hb0 23 9 n (fun _ => (0, oneW)) v w) (hv 23 u)) (hvu : ∀ z hp, renBs 23 z [] hp (hv 23 u) (hv 23 u)) :
    LoopOkB Tryd.prog 23 c45b (tmL 131 (l45b lg 0 9 n 0)) (hb0 23 9 n (fun _ => (0, oneW)) v w ++ [deadB]) (.exit 6) (tmL 131 [(0, gotA), (5, lg), (6, ic 0), (7, .one (.sl 23 0 (n + 20) 1))]) (hv 23 u ++ [syL (n + 20) (lgW n 0)]) := by
  have hlen : (hb0 23 9 n (fun _ => (0, oneW)) v w).length = 23 := by simp [hb0, hv]
  refine grow_cons hm hT (by simp [hlen]) (l1 := l45b lg 0 23 (n + 1) 1) (hp1 := hv 23 u ++ [syL (n + 1) (lgW n 0)]) ⟨FT, FTok, 300, [.b true], [], ?_⟩ (HpLe.refl _) (rest45b_0 hn hlg hvu)
  show roundK Tryd.prog T FT 300 c45b (tmL 131 (l45b lg 0 9 (n + 0) 0)) (hb0 23 9 (n + 0) (fun _ => (0, oneW)) v w ++ [deadB]) [.b true] [0, 5, 6, 7, 8] _
  rw [first45b_0]
  exact ⟨rfl, okA_ok hn (by omega), rfl, rfl, _, hb0 23 9 n (fun _ => (0, oneW)) v w, [_, _], _, hv 23 u, syL (n + 1) (lgW n 0), .inl rfl, hlen, app3 _ _ _ _, rfl, noFroz, ⟨⟨rfl, rfl, rfl, rfl⟩, hlg _ _, rfl, ⟨rfl, rfl, rfl, rfl⟩, sc_eq rfl, trivial⟩, hvv _ _, nxB_ren (k := 0) fun t ht => (if_pos (by omega)).symm⟩
theorem loop45n_0 {v u : Nat → Blk} {lg : AV} (hlg : ∀ z hp, renA 23 z [] hp lg lg) (hvv : ∀ z hp, renBs 23 z [] hp (hv 23 v) (hv 23 u)) (hvu : ∀ z hp, renBs 23 z [] hp (hv 23 u) (hv 23 u)) :
    LoopOkB Tryd.prog 23 c45b (tmL 131 (l45n lg 0 0)) (hv 23 v ++ [deadB]) (.exit 6) (tmL 131 [(0, gotA), (5, lg), (6, ic 0), (7, .one (.sl 23 0 (0 + 20) 1))]) (hv 23 u ++ [syL (0 + 20) (lgW 0 0)]) := by
  have hlen : (hv 23 v).length = 23 := by simp [hv]
  refine grow_cons hm hT (by simp [hlen]) (l1 := l45b lg 0 23 (0 + 1) 1) (hp1 := hv 23 u ++ [mk2B 0]) (hp2 := hv 23 u ++ [syL (0 + 1) (lgW 0 0)]) ⟨FT, FTok, 300, [.b true], [], ?_⟩ (hpLe_app (HpLe.refl _) ⟨mk2_le, trivial⟩) (rest45b_0 (Nat.zero_le _) hlg hvu)
  show roundK Tryd.prog T FT 300 c45b (tmL 131 (l45n lg 0 0)) (hv 23 v ++ [deadB]) [.b true] [0, 5, 6, 7, 8] _
  rw [firstn_0]
  exact ⟨rfl, rfl, rfl, _, hv 23 v, [_, _], _, hv 23 u, mk2B 0, .inl rfl, hlen, app3 _ _ _ _, rfl, noFroz, ⟨⟨rfl, rfl, rfl, rfl⟩, hlg _ _, rfl, ⟨rfl, rfl, rfl, rfl⟩, sc_eq rfl, trivial⟩, hvv _ _, .inr ⟨rfl, rfl, rfl, rfl, trivial⟩⟩
theorem round45b_1 (n k : Nat) (z : Nat → Nat × Nat) (v : Nat → Blk) (lg : AV) (X : Ex → Nat → List AV → List Blk → Prop) : roundK Tryd.prog T FT 300 c45b (tmL 131 (l45b lg 1 26 (n + k) k)) (hv 26 v ++ [syL (n + k) z]) [.b true] [0, 5, 6, 7, 8] X =
  (decide ((k : Int) < 20) = true ∧ okA n k ∧ X .normal 131 [gotA, lg, ic 1, .one (.sl 28 0 (n + k + 1) 1), iv (W (k + 1))] (hv 26 v ++ [{ syL (n + k) z with live := false }, mk2B 4607182418800017408, nxB n k 4607182418800017408 z])) := by kernel_rfl
theorem first45b_1 (n : Nat) (z : Nat → Nat × Nat) (v w : Nat → Blk) (lg : AV) (X : Ex → Nat → List AV → List Blk → Prop) : roundK Tryd.prog T FT 300 c45b (tmL 131 (l45b lg 1 12 (n + 0) 0)) (hb0 26 12 (n + 0) z v w ++ [deadB]) [.b true] [0, 5, 6, 7, 8] X =
  (decide (((0 : Nat) : Int) < 20) = true ∧ okA n 0 ∧ X .normal 131 [gotA, lg, ic 1, .one (.sl 28 0 (n + 0 + 1) 1), iv (W ((0 : Nat) + 1))] (hb0 26 12 (n + 0) z v w ++ [deadB, mk2B 4607182418800017408, nxB n 0 4607182418800017408 z])) := by kernel_rfl
theorem firstn_1 (v : Nat → Blk) (lg : AV) (X : Ex → Nat → List AV → List Blk → Prop) : roundK Tryd.prog T FT 300 c45b (tmL 131 (l45n lg 1 0)) (hv 26 v ++ [deadB]) [.b true] [0, 5, 6, 7, 8] X =
  (true = true ∧ X .normal 131 [gotA, lg, ic 1, .one (.sl 28 0 1 1), iv (W ((0 : Nat) + 1))] (hv 26 v ++ [deadB, mk2B 4607182418800017408, mk2B 4607182418800017408])) := by kernel_rfl
theorem exit45b_1 (n : Nat) (z : Nat → Nat × Nat) (v : Nat → Blk) (lg : AV) (X : Ex → Nat → List AV → List Blk → Prop) : roundK Tryd.prog T FT 300 c45b (tmL 131 (l45b lg 1 26 (n + 20) 20)) (hv 26 v ++ [syL (n + 20) z]) [.b false] [0, 5, 6, 7] X =
  (decide (((20 : Nat) : Int) < 20) = false ∧ X (.exit 6) 131 [gotA, lg, ic 1, .one (.sl 26 0 (n + 20) 1)] (hv 26 v ++ [syL (n + 20) z])) := by kernel_rfl
def S1 (lg : AV) (n k : Nat) : List (Nat × AV) := l45b lg 1 26 (n + (k + 1)) (k + 1)
def HS1 (n : Nat) (v : Nat → Blk) (k : Nat) : List Blk := hv 26 v ++ [syL (n + (k + 1)) (lgW n 4607182418800017408)]
theorem rest45b_1 {n : Nat} {v : Nat → Blk} {lg : AV} (hn : n ≤ 4096) (hlg : ∀ z hp, renA 26 z [] hp lg lg) (hvv : ∀ z hp, renBs 26 z [] hp (hv 26 v) (hv 26 v)) :
    LoopOkB Tryd.prog 26 c45b (tmL 131 (l45b lg 1 26 (n + 1) 1)) (hv 26 v ++ [syL (n + 1) (lgW n 4607182418800017408)]) (.exit 6) (tmL 131 [(0, gotA), (5, lg), (6, ic 1), (7, .one (.sl 26 0 (n + 20) 1))]) (hv 26 v ++ [syL (n + 20) (lgW n 4607182418800017408)]) := by
  have hlen : (hv 26 v).length = 26 := by simp [hv]
  refine grow_rounds hm hT 26 131 19 (S1 lg n) (HS1 n v) (.exit 6) _ _ (by simp) (fun k _ => by simp [HS1, hlen]) (fun k hk => ?_) ⟨FT, FTok, 300, [.b false], [], ?_⟩ 0 (Nat.zero_le _)
  · refine ⟨FT, FTok, 300, [.b true], [], ?_⟩
    show roundK Tryd.prog T FT 300 c45b (tmL 131 (l45b lg 1 26 (n + (k + 1)) (k + 1))) (hv 26 v ++ [syL (n + (k + 1)) (lgW n 4607182418800017408)]) [.b true] [0, 5, 6, 7, 8] _
    rw [round45b_1]
    refine ⟨decide_eq_true (by omega), okA_ok hn (by omega), rfl, rfl, _, hv 26 v, [_, _], _, hv 26 v, syL (n + (k + 1 + 1)) (lgW n 4607182418800017408), .inl rfl, hlen, app3 _ _ _ _, rfl, noFroz, ⟨⟨rfl, rfl, rfl, rfl⟩, hlg _ _, rfl, ⟨rfl, rfl, rfl, rfl⟩, sc_eq ?_, trivial⟩, hvv _ _, nxB_ren fun t ht => rfl⟩
    rw [Wid (by omega) (by omega)]; rfl
  · show roundK Tryd.prog T FT 300 c45b (tmL 131 (l45b lg 1 26 (n + 20) 20)) (hv 26 v ++ [syL (n + 20) (lgW n 4607182418800017408)]) [.b false] [0, 5, 6, 7] _
    rw [exit45b_1]
    exact ⟨rfl, rfl, rfl, _, hv 26 v, [], _, hv 26 v, _, .inl rfl, hlen, app1 _ _, rfl, noFroz, ⟨⟨rfl, rfl, rfl, rfl⟩, hlg _ _, rfl, ⟨rfl, rfl, rfl, rfl⟩, trivial⟩, hvv _ _, .inr ⟨rfl, rfl, rfl, rfl, fun t ht => renC_S rfl⟩⟩
theorem loop45b_1 {n : Nat} {v w u : Nat → Blk} {lg : AV} (hn : n ≤ 4096) (hlg : ∀ z hp, renA 26 z [] hp lg lg) (hvv : ∀ z hp, renBs 26 z [] hp (hb0 26 12 n (fun _ => (4607182418800017408, oneW)) v w) (hv 26 u)) (hvu : ∀ z hp, renBs 26 z [] hp (hv 26 u) (hv 26 u)) :
    LoopOkB Tryd.prog 26 c45b (tmL 131 (l45b lg 1 12 n 0)) (hb0 26 12 n (fun _ => (4607182418800017408, oneW)) v w ++ [deadB]) (.exit 6) (tmL 131 [(0, gotA), (5, lg), (6, ic 1), (7, .one (.sl 26 0 (n + 20) 1))]) (hv 26 u ++ [syL (n + 20) (lgW n 4607182418800017408)]) := by
  have hlen : (hb0 26 12 n (fun _ => (4607182418800017408, oneW)) v w).length = 26 := by simp [hb0, hv]
  refine grow_cons hm hT (by simp [hlen]) (l1 := l45b lg 1 26 (n + 1) 1) (hp1 := hv 26 u ++ [syL (n + 1) (lgW n 4607182418800017408)]) ⟨FT, FTok, 300, [.b true], [], ?_⟩ (HpLe.refl _) (rest45b_1 hn hlg hvu)
  show roundK Tryd.prog T FT 300 c45b (tmL 131 (l45b lg 1 12 (n + 0) 0)) (hb0 26 12 (n + 0) (fun _ => (4607182418800017408, oneW)) v w ++ [deadB]) [.b true] [0, 5, 6, 7, 8] _
  rw [first45b_1]
  exact ⟨rfl, okA_ok hn (by omega), rfl, rfl, _, hb0 26 12 n (fun _ => (4607182418800017408, oneW)) v w, [_, _], _, hv 26 u, syL (n + 1) (lgW n 4607182418800017408), .inl rfl, hlen, app3 _ _ _ _, rfl, noFroz, ⟨⟨rfl, rfl, rfl, rfl⟩, hlg _ _, rfl, ⟨rfl, rfl, rfl, rfl⟩, sc_eq rfl, trivial⟩, hvv _ _, nxB_ren (k := 0) fun t ht => (if_pos (by omega)).symm⟩
theorem loop45n_1 {v u : Nat → Blk} {lg : AV} (hlg : ∀ z hp, renA 26 z [] hp lg lg) (hvv : ∀ z hp, renBs 26 z [] hp (hv 26 v) (hv 26 u)) (hvu : ∀ z hp, renBs 26 z [] hp (hv 26 u) (hv 26 u)) :
    LoopOkB Tryd.prog 26 c45b (tmL 131 (l45n lg 1 0)) (hv 26 v ++ [deadB]) (.exit 6) (tmL 131 [(0, gotA), (5, lg), (6, ic 1), (7, .one (.sl 26 0 (0 + 20) 1))]) (hv 26 u ++ [syL (0 + 20) (lgW 0 4607182418800017408)]) := by
  have hlen : (hv 26 v).length = 26 := by simp [hv]
  refine grow_cons hm hT (by simp [hlen]) (l1 := l45b lg 1 26 (0 + 1) 1) (hp1 := hv 26 u ++ [mk2B 4607182418800017408]) (hp2 := hv 26 u ++ [syL (0 + 1) (lgW 0 4607182418800017408)]) ⟨FT, FTok, 300, [.b true], [], ?_⟩ (hpLe_app (HpLe.refl _) ⟨mk2_le, trivial⟩) (rest45b_1 (Nat.zero_le _) hlg hvu)
  show roundK Tryd.prog T FT 300 c45b (tmL 131 (l45n lg 1 0)) (hv 26 v ++ [deadB]) [.b true] [0, 5, 6, 7, 8] _
  rw [firstn_1]
  exact ⟨rfl, rfl, rfl, _, hv 26 v, [_, _], _, hv 26 u, mk2B 4607182418800017408, .inl rfl, hlen, app3 _ _ _ _, rfl, noFroz, ⟨⟨rfl, rfl, rfl, rfl⟩, hlg _ _, rfl, ⟨rfl, rfl, rfl, rfl⟩, sc_eq rfl, trivial⟩, hvv _ _, .inr ⟨rfl, rfl, rfl, rfl, trivial⟩⟩
theorem round45b_2 (n k : Nat) (z : Nat → Nat × Nat) (v : Nat → Blk) (lg : AV) (X : Ex → Nat → List AV → List Blk → Prop) : roundK Tryd.prog T FT 300 c45b (tmL 131 (l45b lg 2 29 (n + k) k)) (hv 29 v ++ [syL (n + k) z]) [.b true] [0, 5, 6, 7, 8] X =
  (decide ((k : Int) < 20) = true ∧ okA n k ∧ X .normal 131 [gotA, lg, ic 2, .one (.sl 31 0 (n + k + 1) 1), iv (W (k + 1))] (hv 29 v ++ [{ syL (n + k) z with live := false }, mk2B 4611686018427387904, nxB n k 4611686018427387904 z])) := by kernel_rfl
theorem first45b_2 (n : Nat) (z : Nat → Nat × Nat) (v w : Nat → Blk) (lg : AV) (X : Ex → Nat → List AV → List Blk → Prop) : roundK Tryd.prog T FT 300 c45b (tmL 131 (l45b lg 2 15 (n + 0) 0)) (hb0 29 15 (n + 0) z v w ++ [deadB]) [.b true] [0, 5, 6, 7, 8] X =
  (decide (((0 : Nat) : Int) < 20) = true ∧ okA n 0 ∧ X .normal 131 [gotA, lg, ic 2, .one (.sl 31 0 (n + 0 + 1) 1), iv (W ((0 : Nat) + 1))] (hb0 29 15 (n + 0) z v w ++ [deadB, mk2B 4611686018427387904, nxB n 0 4611686018427387904 z])) := by kernel_rfl
theorem firstn_2 (v : Nat → Blk) (lg : AV) (X : Ex → Nat → List AV → List Blk → Prop) : roundK Tryd.prog T FT 300 c45b (tmL 131 (l45n lg 2 0)) (hv 29 v ++ [deadB]) [.b true] [0, 5, 6, 7, 8] X =
  (true = true ∧ X .normal 131 [gotA, lg, ic 2, .one (.sl 31 0 1 1), iv (W ((0 : Nat) + 1))] (hv 29 v ++ [deadB, mk2B 4611686018427387904, mk2B 4611686018427387904])) := by kernel_rfl
theorem exit45b_2 (n : Nat) (z : Nat → Nat × Nat) (v : Nat → Blk) (lg : AV) (X : Ex → Nat → List AV → List Blk → Prop) : roundK Tryd.prog T FT 300 c45b (tmL 131 (l45b lg 2 29 (n + 20) 20)) (hv 29 v ++ [syL (n + 20) z]) [.b false] [0, 5, 6, 7] X =
  (decide (((20 : Nat) : Int) < 20) = false ∧ X (.exit 6) 131 [gotA, lg, ic 2, .one (.sl 29 0 (n + 20) 1)] (hv 29 v ++ [syL (n + 20) z])) := by kernel_rfl
def S2 (lg : AV) (n k : Nat) : List (Nat × AV) := l45b lg 2 29 (n + (k + 1)) (k + 1)
def HS2 (n : Nat) (v : Nat → Blk) (k : Nat) : List Blk := hv 29 v ++ [syL (n + (k + 1)) (lgW n 4611686018427387904)]
theorem rest45b_2 {n : Nat} {v : Nat → Blk} {lg : AV} (hn : n ≤ 4096) (hlg : ∀ z hp, renA 29 z [] hp lg lg) (hvv : ∀ z hp, renBs 29 z [] hp (hv 29 v) (hv 29 v)) :
    LoopOkB Tryd.prog 29 c45b (tmL 131 (l45b lg 2 29 (n + 1) 1)) (hv 29 v ++ [syL (n + 1) (lgW n 4611686018427387904)]) (.exit 6) (tmL 131 [(0, gotA), (5, lg), (6, ic 2), (7, .one (.sl 29 0 (n + 20) 1))]) (hv 29 v ++ [syL (n + 20) (lgW n 4611686018427387904)]) := by
  have hlen : (hv 29 v).length = 29 := by simp [hv]
  refine grow_rounds hm hT 29 131 19 (S2 lg n) (HS2 n v) (.exit 6) _ _ (by simp) (fun k _ => by simp [HS2, hlen]) (fun k hk => ?_) ⟨FT, FTok, 300, [.b false], [], ?_⟩ 0 (Nat.zero_le _)
  · refine ⟨FT, FTok, 300, [.b true], [], ?_⟩
    show roundK Tryd.prog T FT 300 c45b (tmL 131 (l45b lg 2 29 (n + (k + 1)) (k + 1))) (hv 29 v ++ [syL (n + (k + 1)) (lgW n 4611686018427387904)]) [.b true] [0, 5, 6, 7, 8] _
    rw [round45b_2]
    refine ⟨decide_eq_true (by omega), okA_ok hn (by omega), rfl, rfl, _, hv 29 v, [_, _], _, hv 29 v, syL (n + (k + 1 + 1)) (lgW n 4611686018427387904), .inl rfl, hlen, app3 _ _ _ _, rfl, noFroz, ⟨⟨rfl, rfl, rfl, rfl⟩, hlg _ _, rfl, ⟨rfl, rfl, rfl, rfl⟩, sc_eq ?_, trivial⟩, hvv _ _, nxB_ren fun t ht => rfl⟩
    rw [Wid (by omega) (by omega)]; rfl
  · show roundK Tryd.prog T FT 300 c45b (tmL 131 (l45b lg 2 29 (n + 20) 20)) (hv 29 v ++ [syL (n + 20) (lgW n 4611686018427387904)]) [.b false] [0, 5, 6, 7] _
    rw [exit45b_2]
    exact ⟨rfl, rfl, rfl, _, hv 29 v, [], _, hv 29 v, _, .inl rfl, hlen, app1 _ _, rfl, noFroz, ⟨⟨rfl, rfl, rfl, rfl⟩, hlg _ _, rfl, ⟨rfl, rfl, rfl, rfl⟩, trivial⟩, hvv _ _, .inr ⟨rfl, rfl, rfl, rfl, fun t ht => renC_S rfl⟩⟩
theorem loop45b_2 {n : Nat} {v w u : Nat → Blk} {lg : AV} (hn : n ≤ 4096) (hlg : ∀ z hp, renA 29 z [] hp lg lg) (hvv : ∀ z hp, renBs 29 z [] hp (hb0 29 15 n (fun _ => (4611686018427387904, oneW)) v w) (hv 29 u)) (hvu : ∀ z hp, renBs 29 z [] hp (hv 29 u) (hv 29 u)) :
    LoopOkB Tryd.prog 29 c45b (tmL 131 (l45b lg 2 15 n 0)) (hb0 29 15 n (fun _ => (4611686018427387904, oneW)) v w ++ [deadB]) (.exit 6) (tmL 131 [(0, gotA), (5, lg), (6, ic 2), (7, .one (.sl 29 0 (n + 20) 1))]) (hv 29 u ++ [syL (n + 20) (lgW n 4611686018427387904)]) := by
  have hlen : (hb0 29 15 n (fun _ => (4611686018427387904, oneW)) v w).length = 29 := by simp [hb0, hv]
  refine grow_cons hm hT (by simp [hlen]) (l1 := l45b lg 2 29 (n + 1) 1) (hp1 := hv 29 u ++ [syL (n + 1) (lgW n 4611686018427387904)]) ⟨FT, FTok, 300, [.b true], [], ?_⟩ (HpLe.refl _) (rest45b_2 hn hlg hvu)
  show roundK Tryd.prog T FT 300 c45b (tmL 131 (l45b lg 2 15 (n + 0) 0)) (hb0 29 15 (n + 0) (fun _ => (4611686018427387904, oneW)) v w ++ [deadB]) [.b true] [0, 5, 6, 7, 8] _
  rw [first45b_2]
  exact ⟨rfl, okA_ok hn (by omega), rfl, rfl, _, hb0 29 15 n (fun _ => (4611686018427387904, oneW)) v w, [_, _], _, hv 29 u, syL (n + 1) (lgW n 4611686018427387904), .inl rfl, hlen, app3 _ _ _ _, rfl, noFroz, ⟨⟨rfl, rfl, rfl, rfl⟩, hlg _ _, rfl, ⟨rfl, rfl, rfl, rfl⟩, sc_eq rfl, trivial⟩, hvv _ _, nxB_ren (k := 0) fun t ht => (if_pos (by omega)).symm⟩
theorem loop45n_2 {v u : Nat → Blk} {lg : AV} (hlg : ∀ z hp, renA 29 z [] hp lg lg) (hvv : ∀ z hp, renBs 29 z [] hp (hv 29 v) (hv 29 u)) (hvu : ∀ z hp, renBs 29 z [] hp (hv 29 u) (hv 29 u)) :
    LoopOkB Tryd.prog 29 c45b (tmL 131 (l45n lg 2 0)) (hv 29 v ++ [deadB]) (.exit 6) (tmL 131 [(0, gotA), (5, lg), (6, ic 2), (7, .one (.sl 29 0 (0 + 20) 1))]) (hv 29 u ++ [syL (0 + 20) (lgW 0 4611686018427387904)]) := by
  have hlen : (hv 29 v).length = 29 := by simp [hv]
  refine grow_cons hm hT (by simp [hlen]) (l1 := l45b lg 2 29 (0 + 1) 1) (hp1 := hv 29 u ++ [mk2B 4611686018427387904]) (hp2 := hv 29 u ++ [syL (0 + 1) (lgW 0 4611686018427387904)]) ⟨FT, FTok, 300, [.b true], [], ?_⟩ (hpLe_app (HpLe.refl _) ⟨mk2_le, trivial⟩) (rest45b_2 (Nat.zero_le _) hlg hvu)
  show roundK Tryd.prog T FT 300 c45b (tmL 131 (l45n lg 2 0)) (hv 29 v ++ [deadB]) [.b true] [0, 5, 6, 7, 8] _
  rw [firstn_2]
  exact ⟨rfl, rfl, rfl, _, hv 29 v, [_, _], _, hv 29 u, mk2B 4611686018427387904, .inl rfl, hlen, app3 _ _ _ _, rfl, noFroz, ⟨⟨rfl, rfl, rfl, rfl⟩, hlg _ _, rfl, ⟨rfl, rfl, rfl, rfl⟩, sc_eq rfl, trivial⟩, hvv _ _, .inr ⟨rfl, rfl, rfl, rfl, trivial⟩⟩
theorem round45b_3 (n k : Nat) (z : Nat → Nat × Nat) (v : Nat → Blk) (lg : AV) (X : Ex → Nat → List AV → List Blk → Prop) : roundK Tryd.prog T FT 300 c45b (tmL 131 (l45b lg 3 32 (n + k) k)) (hv 32 v ++ [syL (n + k) z]) [.b true] [0, 5, 6, 7, 8] X =
  (decide ((k : Int) < 20) = true ∧ okA n k ∧ X .normal 131 [gotA, lg, ic 3, .one (.sl 34 0 (n + k + 1) 1), iv (W (k + 1))] (hv 32 v ++ [{ syL (n + k) z with live := false }, mk2B 4613937818241073152, nxB n k 4613937818241073152 z])) := by kernel_rfl
theorem first45b_3 (n : Nat) (z : Nat → Nat × Nat) (v w : Nat → Blk) (lg : AV) (X : Ex → Nat → List AV → List Blk → Prop) : roundK Tryd.prog T FT 300 c45b (tmL 131 (l45b lg 3 18 (n + 0) 0)) (hb0 32 18 (n + 0) z v w ++ [deadB]) [.b true] [0, 5, 6, 7, 8] X =
  (decide (((0 : Nat) : Int) < 20) = true ∧ okA n 0 ∧ X .normal 131 [gotA, lg, ic 3, .one (.sl 34 0 (n + 0 + 1) 1), iv (W ((0 : Nat) + 1))] (hb0 32 18 (n + 0) z v w ++ [deadB, mk2B 4613937818241073152, nxB n 0 4613937818241073152 z])) := by kernel_rfl
theorem firstn_3 (v : Nat → Blk) (lg : AV) (X : Ex → Nat → List AV → List Blk → Prop) : roundK Tryd.prog T FT 300 c45b (tmL 131 (l45n lg 3 0)) (hv 32 v ++ [deadB]) [.b true] [0, 5, 6, 7, 8] X =
  (true = true ∧ X .normal 131 [gotA, lg, ic 3, .one (.sl 34 0 1 1), iv (W ((0 : Nat) + 1))] (hv 32 v ++ [deadB, mk2B 4613937818241073152, mk2B 4613937818241073152])) := by kernel_rfl
theorem exit45b_3 (n : Nat) (z : Nat → Nat × Nat) (v : Nat → Blk) (lg : AV) (X : Ex → Nat → List AV → List Blk → Prop) : roundK Tryd.prog T FT 300 c45b (tmL 131 (l45b lg 3 32 (n + 20) 20)) (hv 32 v ++ [syL (n + 20) z]) [.b false] [0, 5, 6, 7] X =
  (decide (((20 : Nat) : Int) < 20) = false ∧ X (.exit 6) 131 [gotA, lg, ic 3, .one (.sl 32 0 (n + 20) 1)] (hv 32 v ++ [syL (n + 20) z])) := by kernel_rfl
def S3 (lg : AV) (n k : Nat) : List (Nat × AV) := l45b lg 3 32 (n + (k + 1)) (k + 1)
def HS3 (n : Nat) (v : Nat → Blk) (k : Nat) : List Blk := hv 32 v ++ [syL (n + (k + 1)) (lgW n 4613937818241073152)]
theorem rest45b_3 {n : Nat} {v : Nat → Blk} {lg : AV} (hn : n ≤ 4096) (hlg : ∀ z hp, renA 32 z [] hp lg lg) (hvv : ∀ z hp, renBs 32 z [] hp (hv 32 v) (hv 32 v)) :
    LoopOkB Tryd.prog 32 c45b (tmL 131 (l45b lg 3 32 (n + 1) 1)) (hv 32 v ++ [syL (n + 1) (lgW n 4613937818241073152)]) (.exit 6) (tmL 131 [(0, gotA), (5, lg), (6, ic 3), (7, .one (.sl 32 0 (n + 20) 1))]) (hv 32 v ++ [syL (n + 20) (lgW n 4613937818241073152)]) := by
  have hlen : (hv 32 v).length = 32 := by simp [hv]
  refine grow_rounds hm hT 32 131 19 (S3 lg n) (HS3 n v) (.exit 6) _ _ (by simp) (fun k _ => by simp [HS3, hlen]) (fun k hk => ?_) ⟨FT, FTok, 300, [.b false], [], ?_⟩ 0 (Nat.zero_le _)
  · refine ⟨FT, FTok, 300, [.b true], [], ?_⟩
    show roundK Tryd.prog T FT 300 c45b (tmL 131 (l45b lg 3 32 (n + (k + 1)) (k + 1))) (hv 32 v ++ [syL (n + (k + 1)) (lgW n 4613937818241073152)]) [.b true] [0, 5, 6, 7, 8] _
    rw [round45b_3]
    refine ⟨decide_eq_true (by omega), okA_ok hn (by omega), rfl, rfl, _, hv 32 v, [_, _], _, hv 32 v, syL (n + (k + 1 + 1)) (lgW n 4613937818241073152), .inl rfl, hlen, app3 _ _ _ _, rfl, noFroz, ⟨⟨rfl, rfl, rfl, rfl⟩, hlg _ _, rfl, ⟨rfl, rfl, rfl, rfl⟩, sc_eq ?_, trivial⟩, hvv _ _, nxB_ren fun t ht => rfl⟩
    rw [Wid (by omega) (by omega)]; rfl
  · show roundK Tryd.prog T FT 300 c45b (tmL 131 (l45b lg 3 32 (n + 20) 20)) (hv 32 v ++ [syL (n + 20) (lgW n 4613937818241073152)]) [.b false] [0, 5, 6, 7] _
    rw [exit45b_3]
    exact ⟨rfl, rfl, rfl, _, hv 32 v, [], _, hv 32 v, _, .inl rfl, hlen, app1 _ _, rfl, noFroz, ⟨⟨rfl, rfl, rfl, rfl⟩, hlg _ _, rfl, ⟨rfl, rfl, rfl, rfl⟩, trivial⟩, hvv _ _, .inr ⟨rfl, rfl, rfl, rfl, fun t ht => renC_S rfl⟩⟩
theorem loop45b_3 {n : Nat} {v w u : Nat → Blk} {lg : AV} (hn : n ≤ 4096) (hlg : ∀ z hp, renA 32 z [] hp lg lg) (hvv : ∀ z hp, renBs 32 z [] hp (hb0 32 18 n (fun _ => (4613937818241073152, oneW)) v w) (hv 32 u)) (hvu : ∀ z hp, renBs 32 z [] hp (hv 32 u) (hv 32 u)) :
    LoopOkB Tryd.prog 32 c45b (tmL 131 (l45b lg 3 18 n 0)) (hb0 32 18 n (fun _ => (4613937818241073152, oneW)) v w ++ [deadB]) (.exit 6) (tmL 131 [(0, gotA), (5, lg), (6, ic 3), (7, .one (.sl 32 0 (n + 20) 1))]) (hv 32 u ++ [syL (n + 20) (lgW n 4613937818241073152)]) := by
  have hlen : (hb0 32 18 n (fun _ => (4613937818241073152, oneW)) v w).length = 32 := by simp [hb0, hv]
  refine grow_cons hm hT (by simp [hlen]) (l1 := l45b lg 3 32 (n + 1) 1) (hp1 := hv 32 u ++ [syL (n + 1) (lgW n 4613937818241073152)]) ⟨FT, FTok, 300, [.b true], [], ?_⟩ (HpLe.refl _) (rest45b_3 hn hlg hvu)
  show roundK Tryd.prog T FT 300 c45b (tmL 131 (l45b lg 3 18 (n + 0) 0)) (hb0 32 18 (n + 0) (fun _ => (4613937818241073152, oneW)) v w ++ [deadB]) [.b true] [0, 5, 6, 7, 8] _
  rw [first45b_3]
  exact ⟨rfl, okA_ok hn (by omega), rfl, rfl, _, hb0 32 18 n (fun _ => (4613937818241073152, oneW)) v w, [_, _], _, hv 32 u, syL (n + 1) (lgW n 4613937818241073152), .inl rfl, hlen, app3 _ _ _ _, rfl, noFroz, ⟨⟨rfl, rfl, rfl, rfl⟩, hlg _ _, rfl, ⟨rfl, rfl, rfl, rfl⟩, sc_eq rfl, trivial⟩, hvv _ _, nxB_ren (k := 0) fun t ht => (if_pos (by omega)).symm⟩
theorem loop45n_3 {v u : Nat → Blk} {lg : AV} (hlg : ∀ z hp, renA 32 z [] hp lg lg) (hvv : ∀ z hp, renBs 32 z [] hp (hv 32 v) (hv 32 u)) (hvu : ∀ z hp, renBs 32 z [] hp (hv 32 u) (hv 32 u)) :
    LoopOkB Tryd.prog 32 c45b (tmL 131 (l45n lg 3 0)) (hv 32 v ++ [deadB]) (.exit 6) (tmL 131 [(0, gotA), (5, lg), (6, ic 3), (7, .one (.sl 32 0 (0 + 20) 1))]) (hv 32 u ++ [syL (0 + 20) (lgW 0 4613937818241073152)]) := by
  have hlen : (hv 32 v).length = 32 := by simp [hv]
  refine grow_cons hm hT (by simp [hlen]) (l1 := l45b lg 3 32 (0 + 1) 1) (hp1 := hv 32 u ++ [mk2B 4613937818241073152]) (hp2 := hv 32 u ++ [syL (0 + 1) (lgW 0 4613937818241073152)]) ⟨FT, FTok, 300, [.b true], [], ?_⟩ (hpLe_app (HpLe.refl _) ⟨mk2_le, trivial⟩) (rest45b_3 (Nat.zero_le _) hlg hvu)
  show roundK Tryd.prog T FT 300 c45b (tmL 131 (l45n lg 3 0)) (hv 32 v ++ [deadB]) [.b true] [0, 5, 6, 7, 8] _
  rw [firstn_3]
  exact ⟨rfl, rfl, rfl, _, hv 32 v, [_, _], _, hv 32 u, mk2B 4613937818241073152, .inl rfl, hlen, app3 _ _ _ _, rfl, noFroz, ⟨⟨rfl, rfl, rfl, rfl⟩, hlg _ _, rfl, ⟨rfl, rfl, rfl, rfl⟩, sc_eq rfl, trivial⟩, hvv _ _, .inr ⟨rfl, rfl, rfl, rfl, trivial⟩⟩
end Go.Proofs.YthddkcoflnbjbaaDoor
