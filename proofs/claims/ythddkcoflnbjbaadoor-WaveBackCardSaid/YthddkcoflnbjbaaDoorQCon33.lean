/-
  What is proved here: the document's own sums (R.sums): contract on known numbers. the document's lengths (R.Fits) and sums (R.sums): contracts. contracts of the document's Power (R.Power) and of wave.Power, of a longer list. A text to be imported.
-/
import Derived.Test.YthddkcoflnbjbaaDoorQCon7
import Derived.Test.YthddkcoflnbjbaaDoorQCon12
import Derived.Test.YthddkcoflnbjbaaDoorQCon20
namespace Go.Proofs.YthddkcoflnbjbaaDoor
open Sm Go Go.RowKit Fl Ieee
set_option maxRecDepth 1000000
set_option linter.unusedVariables false
noncomputable def c47o : Code := pathC (bodyC Tryd.f47) [0]
noncomputable def c47i : Code := pathC (bodyC Tryd.f47) [0, 0]
def pF (x : Nat → Nat × Nat) (k : Nat) : List C1 := [FC (x k).1, FC (x k).2]
def prL (n : Nat) (x : Nat → Nat × Nat) : AV := .one (.lst n n 2 (pF x))
def bx (a b : Nat) : Blk := { body := .li [FC a, FC b], elem := 45, live := true, ro := false }
def ixK (n : Nat) (k j : Nat) : Int := (W ((k : Int) * (j : Int))).tmod (n : Int)
def prRe (x w : Nat × Nat) : Nat := fbin .sub .f64 (fbin .mul .f64 x.1 w.1) (fbin .mul .f64 x.2 w.2)
def prIm (x w : Nat × Nat) : Nat := fbin .add .f64 (fbin .mul .f64 x.1 w.2) (fbin .mul .f64 x.2 w.1)
def okPr (x w : Nat × Nat) : Prop := (fok .mul .f64 x.1 w.1 = true ∧ fok .mul .f64 x.2 w.2 = true ∧ fok .sub .f64 (fbin .mul .f64 x.1 w.1) (fbin .mul .f64 x.2 w.2) = true) ∧
  (fok .mul .f64 x.1 w.2 = true ∧ fok .mul .f64 x.2 w.1 = true ∧ fok .add .f64 (fbin .mul .f64 x.1 w.2) (fbin .mul .f64 x.2 w.1) = true)
def smK (n : Nat) (x w : Nat → Nat × Nat) (k : Nat) : Nat → Nat × Nat
  | 0 => (0, 0)
  | j + 1 => (fbin .add .f64 (smK n x w k j).1 (prRe (x j) (w (ixK n k j).toNat)), fbin .add .f64 (smK n x w k j).2 (prIm (x j) (w (ixK n k j).toNat)))
def okSm (n : Nat) (x w : Nat → Nat × Nat) : Prop := ∀ k j, k < n → j < n → okPr (x j) (w (ixK n k j).toNat) ∧
  fok .add .f64 (smK n x w k j).1 (prRe (x j) (w (ixK n k j).toNat)) = true ∧ fok .add .f64 (smK n x w k j).2 (prIm (x j) (w (ixK n k j).toNat)) = true
def l47i (n : Nat) (x : Nat → Nat × Nat) (w : Nat → Nat × Nat) (k j : Nat) : List (Nat × AV) := [(0, prL n x), (5, iv n), (6, prL n w), (7, .one (.gr 2 k 2)), (8, iv k), (9, .one (.ptr 3 0)), (10, iv j)]
def l47f (n : Nat) (x : Nat → Nat × Nat) (w : Nat → Nat × Nat) (k : Nat) : List (Nat × AV) := [(0, prL n x), (5, iv n), (6, prL n w), (7, .one (.gr 2 k 2)), (8, iv k), (9, .one (.ptr 3 0))]
def hp47i (k : Nat) (r : Nat → Nat × Nat) (a b : Nat) : List Blk := [deadB, deadB, gB 45 k 2 (pF r), bx a b, deadB]
theorem round47i (n : Nat) (x w r : Nat → Nat × Nat) (k j a b : Nat) (X : Ex → Nat → List AV → List Blk → Prop) : roundK Tryd.prog T FT 300 c47i (tmL 82 (l47i n x w k j)) (hp47i k r a b) [.b true] [0, 5, 6, 7, 8, 9, 10] X =
  (decide ((j : Int) < n) = true ∧ ((n : Int) == 0) = false ∧ (0 ≤ ixK n k j ∧ ixK n k j < n) ∧ (0 ≤ (j : Int) ∧ (j : Int) < n) ∧
   fok .mul .f64 (x (j : Int).toNat).1 (w (ixK n k j).toNat).1 = true ∧ (0 ≤ (j : Int) ∧ (j : Int) < n) ∧ fok .mul .f64 (x (j : Int).toNat).2 (w (ixK n k j).toNat).2 = true ∧
   fok .sub .f64 (fbin .mul .f64 (x (j : Int).toNat).1 (w (ixK n k j).toNat).1) (fbin .mul .f64 (x (j : Int).toNat).2 (w (ixK n k j).toNat).2) = true ∧
   fok .add .f64 a (prRe (x (j : Int).toNat) (w (ixK n k j).toNat)) = true ∧
   (0 ≤ (j : Int) ∧ (j : Int) < n) ∧ fok .mul .f64 (x (j : Int).toNat).1 (w (ixK n k j).toNat).2 = true ∧ (0 ≤ (j : Int) ∧ (j : Int) < n) ∧ fok .mul .f64 (x (j : Int).toNat).2 (w (ixK n k j).toNat).1 = true ∧
   fok .add .f64 (fbin .mul .f64 (x (j : Int).toNat).1 (w (ixK n k j).toNat).2) (fbin .mul .f64 (x (j : Int).toNat).2 (w (ixK n k j).toNat).1) = true ∧
   fok .add .f64 b (prIm (x (j : Int).toNat) (w (ixK n k j).toNat)) = true ∧
   X .normal 82 [prL n x, iv n, prL n w, .one (.gr 2 k 2), iv k, .one (.ptr 3 0), iv (W (j + 1))]
    [deadB, deadB, gB 45 k 2 (pF r), bx (fbin .add .f64 a (prRe (x (j : Int).toNat) (w (ixK n k j).toNat))) (fbin .add .f64 b (prIm (x (j : Int).toNat) (w (ixK n k j).toNat))), deadB, bx (w (ixK n k j).toNat).1 (w (ixK n k j).toNat).2]) := by kernel_rfl
theorem exit47i (n : Nat) (x w r : Nat → Nat × Nat) (k j a b : Nat) (X : Ex → Nat → List AV → List Blk → Prop) : roundK Tryd.prog T FT 300 c47i (tmL 82 (l47i n x w k j)) (hp47i k r a b) [.b false] [0, 5, 6, 7, 8, 9] X =
  (decide ((j : Int) < n) = false ∧ X (.exit 2) 82 [prL n x, iv n, prL n w, .one (.gr 2 k 2), iv k, .one (.ptr 3 0)] (hp47i k r a b)) := by kernel_rfl
theorem renC_FC {a z : Nat} {js : List Nat} {hp : List Blk} {x y : Nat} (h : x = y) : renC a z js hp (FC x) (FC y) := by subst h; rfl
theorem bx_ren {a z : Nat} {js : List Nat} {hp : List Blk} {c d c' d' : Nat} (h : c = c') (h2 : d = d') : renB a z js hp (bx c d) (bx c' d') := by
  subst h; subst h2
  exact .inr ⟨rfl, rfl, rfl, renC_FC rfl, renC_FC rfl, trivial⟩
theorem ixK_eq {n k j : Nat} (hn : n ≤ 4096) (hk : k < n) (hj : j < n) : ixK n k j = ((k * j % n : Nat) : Int) := by
  have h1 : k * j ≤ 4096 * 4096 := Nat.mul_le_mul (by omega) (by omega)
  unfold ixK
  rw [← Int.natCast_mul, Wid (by omega) (by omega)]
  rfl
theorem ixK_bd {n k j : Nat} (hn : n ≤ 4096) (hk : k < n) (hj : j < n) : 0 ≤ ixK n k j ∧ ixK n k j < n := by
  rw [ixK_eq hn hk hj]
  have := Nat.mod_lt (k * j) (show 0 < n by omega)
  omega
theorem loop47i {n k : Nat} {x w r : Nat → Nat × Nat} (hn : n ≤ 4096) (hk : k < n) (hok : okSm n x w) : LoopOkB Tryd.prog 4 c47i (tmL 82 (l47i n x w k 0)) (hp47i k r 0 0) (.exit 2) (tmL 82 (l47f n x w k)) (hp47i k r (smK n x w k n).1 (smK n x w k n).2) := by
  refine grow_rounds hm hT 4 82 n (l47i n x w k) (fun j => hp47i k r (smK n x w k j).1 (smK n x w k j).2) (.exit 2) _ _ (by simp) (fun i _ => by simp [hp47i]) (fun j hj => ⟨FT, FTok, 300, [.b true], [], ?_⟩) ⟨FT, FTok, 300, [.b false], [], ?_⟩ 0 (Nat.zero_le _)
  · show roundK Tryd.prog T FT 300 c47i (tmL 82 (l47i n x w k j)) (hp47i k r (smK n x w k j).1 (smK n x w k j).2) [.b true] [0, 5, 6, 7, 8, 9, 10] _
    have h0 : (j : Int).toNat = j := by omega
    rw [round47i, h0]
    obtain ⟨⟨⟨a1, a2, a3⟩, b1, b2, b3⟩, c1, c2⟩ := hok k j hk hj
    have hr : 0 ≤ (j : Int) ∧ (j : Int) < n := ⟨by omega, by omega⟩
    refine ⟨decide_eq_true (by omega), by simp; omega, ixK_bd hn hk hj, hr, a1, hr, a2, a3, c1, hr, b1, hr, b2, b3, c2, rfl, rfl, _, [deadB, deadB, gB 45 k 2 (pF r), _], [deadB], bx _ _, [deadB, deadB, gB 45 k 2 (pF r), _], deadB, .inl rfl, rfl, rfl, rfl, noFroz, ⟨?_, rfl, ?_, ⟨rfl, rfl, rfl⟩, rfl, ⟨rfl, rfl⟩, sc_eq ?_, trivial⟩, ⟨.inl rfl, .inl rfl, gB_same fun k hk => renCs_L ⟨rfl, rfl, trivial⟩, bx_ren rfl rfl, trivial⟩, .inl rfl⟩
    · exact ⟨rfl, rfl, rfl, fun k _ => rfl⟩
    · exact ⟨rfl, rfl, rfl, fun k _ => rfl⟩
    · rw [Wid (by omega) (by omega)]; rfl
  · show roundK Tryd.prog T FT 300 c47i (tmL 82 (l47i n x w k n)) (hp47i k r (smK n x w k n).1 (smK n x w k n).2) [.b false] [0, 5, 6, 7, 8, 9] _
    rw [exit47i]
    refine ⟨decide_eq_false (by omega), rfl, rfl, _, [deadB, deadB, gB 45 k 2 (pF r), _], [], deadB, [deadB, deadB, gB 45 k 2 (pF r), _], deadB, .inl rfl, rfl, rfl, rfl, noFroz, ⟨?_, rfl, ?_, ⟨rfl, rfl, rfl⟩, rfl, ⟨rfl, rfl⟩, trivial⟩, ⟨.inl rfl, .inl rfl, gB_same fun k hk => renCs_L ⟨rfl, rfl, trivial⟩, bx_ren rfl rfl, trivial⟩, .inl rfl⟩
    · exact ⟨rfl, rfl, rfl, fun k _ => rfl⟩
    · exact ⟨rfl, rfl, rfl, fun k _ => rfl⟩
def l47o (n : Nat) (x w : Nat → Nat × Nat) (k : Nat) : List (Nat × AV) := [(0, prL n x), (5, iv n), (6, prL n w), (7, .one (.gr 2 k 2)), (8, iv k)]
def hp47o (k : Nat) (r : Nat → Nat × Nat) : List Blk := [deadB, deadB, gB 45 k 2 (pF r)]
noncomputable def F47i (n k : Nat) (x w r : Nat → Nat × Nat) (a b : Nat) (q : Prop) : Fns := FT.addLoop 0 c47i (loopC 82 (l47i n x w k 0) [deadB, deadB, gB 45 k 2 (pF r), bx 0 0] q (.exit 2) (l47f n x w k) (hp47i k r a b))
def hBo (k : Nat) (r : Nat → Nat × Nat) (a b : Nat) : List Blk := [deadB, deadB, { gB 45 k 2 (pF r) with live := false }, bx a b, deadB, bx a b, { body := .rs (k + 1) 2 (catR k (pF r) fun _ => [FC a, FC b]), elem := 45, live := true, ro := false }]
theorem round47o (n : Nat) (x w r : Nat → Nat × Nat) (k a b : Nat) (q : Prop) (X : Ex → Nat → List AV → List Blk → Prop) : roundK Tryd.prog T (F47i n k x w r a b q) 300 c47o (tmL 82 (l47o n x w k)) (hp47o k r) [.b true, .l 0] [0, 5, 6, 7, 8] X =
  (decide ((k : Int) < n) = true ∧ c47i = c47i ∧ ((82 = 82 ∧ startLs [prL n x, iv n, prL n w, .one (.gr 2 k 2), iv k, .one (.ptr 3 0), .one (.sc (.int .i64 0) true)] ((l47i n x w k 0).map (·.2)) ∧
    startBs [deadB, deadB, gB 45 k 2 (pF r), { body := .li [.sc (.float .f64 0) true, .sc (.float .f64 0) true], elem := 45, live := true, ro := false }] [deadB, deadB, gB 45 k 2 (pF r), bx 0 0]) ∧ q) ∧
   ((k = k ∧ (k = 0 ∨ Nat.blt 0 k = true)) ∧ True ∧ (∀ j, (pF r j).length = 2 ∧ ([FC a, FC b] : List C1).length = 2) ∧ (k + 1) * 16 ≤ 140737488355328 ∧ k + 1 ≤ maxLen) ∧
   X .normal 82 [prL n x, iv n, prL n w, .one (.gr 6 (k + 1) 2), iv (W (k + 1))] (hBo k r a b)) := by kernel_rfl
theorem exit47o (n : Nat) (x w r : Nat → Nat × Nat) (k : Nat) (X : Ex → Nat → List AV → List Blk → Prop) : roundK Tryd.prog T FT 300 c47o (tmL 82 (l47o n x w k)) (hp47o k r) [.b false] [7] X =
  (decide ((k : Int) < n) = false ∧ X (.exit 0) 82 [.one (.gr 2 k 2)] (hp47o k r)) := by kernel_rfl
def smL (n : Nat) (x w : Nat → Nat × Nat) (k : Nat) : Nat × Nat := smK n x w k n
theorem loop47o {n : Nat} {x w : Nat → Nat × Nat} (hn : n ≤ 4096) (hok : okSm n x w) : LoopOkB Tryd.prog 2 c47o (tmL 82 (l47o n x w 0)) (hp47o 0 (smL n x w)) (.exit 0) (tmL 82 [(7, .one (.gr 2 n 2))]) (hp47o n (smL n x w)) := by
  refine grow_rounds hm hT 2 82 n (l47o n x w) (fun k => hp47o k (smL n x w)) (.exit 0) _ _ (by simp) (fun i _ => by simp [hp47o]) (fun k hk => ⟨F47i n k x w (smL n x w) (smK n x w k n).1 (smK n x w k n).2 True, ?_, 300, [.b true, .l 0], [], ?_⟩) ⟨FT, FTok, 300, [.b false], [], ?_⟩ 0 (Nat.zero_le _)
  · exact FTok.addGrow 0 (a := 4) (b0 := deadB) rfl rfl fun _ => loop47i hn hk hok
  · show roundK Tryd.prog T (F47i n k x w (smL n x w) (smK n x w k n).1 (smK n x w k n).2 True) 300 c47o (tmL 82 (l47o n x w k)) (hp47o k (smL n x w)) [.b true, .l 0] [0, 5, 6, 7, 8] _
    rw [round47o]
    refine ⟨decide_eq_true (by omega), rfl, ⟨⟨rfl, ⟨rfl, rfl, rfl, rfl, rfl, rfl, rfl, trivial⟩, ⟨.refl _, .refl _, .refl _, .inr ⟨rfl, rfl, rfl, fun E vs h => normCs_RCs h⟩, trivial⟩⟩, trivial⟩, ⟨⟨rfl, live0 k⟩, trivial, fun j => ⟨rfl, rfl⟩, by omega, by show k + 1 ≤ 9223372036854775807; omega⟩, rfl, rfl, _, [deadB, deadB], [_, _, _, _], _, [deadB, deadB], gB 45 (k + 1) 2 (pF (smL n x w)), .inl rfl, rfl, rfl, rfl, noFroz, ⟨?_, rfl, ?_, ⟨rfl, rfl, rfl⟩, sc_eq ?_, trivial⟩, ⟨.inl rfl, .inl rfl, trivial⟩, gB_cat (fun k => rfl) rfl (fun k hk => renCs_L ⟨rfl, rfl, trivial⟩) (renCs_L ⟨rfl, rfl, trivial⟩)⟩
    · exact ⟨rfl, rfl, rfl, fun k _ => rfl⟩
    · exact ⟨rfl, rfl, rfl, fun k _ => rfl⟩
    · rw [Wid (by omega) (by omega)]; rfl
  · show roundK Tryd.prog T FT 300 c47o (tmL 82 (l47o n x w n)) (hp47o n (smL n x w)) [.b false] [7] _
    rw [exit47o]
    exact ⟨decide_eq_false (by omega), rfl, rfl, _, [deadB, deadB], [], _, [deadB, deadB], _, .inl rfl, rfl, rfl, rfl, noFroz, ⟨⟨rfl, rfl, rfl⟩, trivial⟩, ⟨.inl rfl, .inl rfl, trivial⟩, gB_same fun k hk => renCs_L ⟨rfl, rfl, trivial⟩⟩
def twP (s : Int) (n : Nat) (k : Nat) : Nat × Nat := turnP (W (s * k)) n
noncomputable def FG58 : Fns := FT.addG 58 GTurns
theorem FG58ok : FnsOk Tryd.prog FG58 := FTok.addG gcon58
noncomputable def F47 (n : Nat) (s : Int) (x : Nat → Nat × Nat) (q : Prop) : Fns := FG58.addLoop 1 c47o (loopC 82 (l47o n x (twP s n) 0) [deadB, deadB] q (.exit 0) [(7, .one (.gr 2 n 2))] (hp47o n (smL n x (twP s n))))
theorem run47 (n : Nat) (s : Int) (x : Nat → Nat × Nat) (q : Prop) (K : Option AV → List Blk → Prop) : runK Tryd.prog T (F47 n s x q) 300 Tryd.f47 [prL n x, iv s] [deadB] [.l 1] K =
    ((((True ∧ True ∧ True) ∧ 0 ≤ (n : Int) ∧ (n : Int) ≤ 4096)) ∧ c47o = c47o ∧ ((82 = 82 ∧ startLs [prL n x, iv n, prL n (twP s n), .one (.sc (.slice none 0 0) true), .one (.sc (.int .i64 0) true)] ((l47o n x (twP s n) 0).map (·.2)) ∧ startBs [deadB, deadB] [deadB, deadB]) ∧ q) ∧ K (some (.one (.gr 2 n 2))) (hp47o n (smL n x (twP s n)))) := by kernel_rfl
end Go.Proofs.YthddkcoflnbjbaaDoor
namespace Go.Proofs.YthddkcoflnbjbaaDoor
open Sm Go Go.RowKit Fl Ieee
set_option maxRecDepth 1000000
set_option linter.unusedVariables false
def wd2 (f : Nat → List C1) (k : Nat) : Nat × Nat := match f k with
  | [.sc (.float .f64 a) _, .sc (.float .f64 b) _] => (a, b)
  | _ => (0, 0)
def isP (n N : Nat) (f : Nat → List C1) : Prop := n ≤ 4096 ∧ n ≤ N ∧ ∀ k, k < n → f k = pF (wd2 f) k
def GSums : List AV → Option (Prop × AV × Blk)
  | [.one (.lst n N 2 f), .one (.sc (.int .i64 s) false)] => some (isP n N f ∧ okSm n (wd2 f) (twP s n), prL n (smL n (wd2 f) (twP s n)), deadB)
  | _ => none
theorem gcon47 : GCon Tryd.prog 47 GSums := by
  refine gcon_of_runA hm hT Tryd.func47 Tryd.call47 fun args p v b h hp => ?_
  unfold GSums at h
  split at h
  · rename_i n N f s
    simp only [Option.some.injEq, Prod.mk.injEq] at h
    obtain ⟨rfl, rfl, rfl⟩ := h
    obtain ⟨⟨hn, hnN, hf⟩, hok⟩ := hp
    refine ⟨.inl rfl, dead_free, F47 n s (wd2 f) True, [prL n (wd2 f), iv s], FG58ok.addGrow 1 (a := 2) (b0 := gB 45 0 2 (pF (smL n (wd2 f) (twP s n)))) rfl rfl (fun _ => loop47o hn hok), fun E us hr => ?_, 300, [.l 1], [2], ?_⟩
    · obtain ⟨u, us, rfl, h1, h2⟩ := hr.cons
      exact .mk (lst_less (Nat.le_refl _) hnN hf h1) h2
    · exact of_run (run47 _ _ _ _ _) ⟨⟨⟨trivial, trivial, trivial⟩, by omega, by omega⟩, rfl, ⟨⟨rfl, ⟨rfl, rfl, rfl, trivial, rfl, trivial⟩, startBs.refl _⟩, trivial⟩, _, rfl, export_gr (A := [deadB, deadB]) (D := []) (fun k => rfl) fun k => free2 trivial trivial⟩
  · cases h
/-! Fits -/
def w46 (n : Int) (u : Value) : List Int → Prop
  | [] => some (Value.bool false) = some u
  | a :: l => ((a == n) = true → some (Value.bool true) = some u) ∧ ((a == n) = false → w46 n u l)
theorem run46 (n : Int) (u : Value) : runK Tryd.prog T FT 300 Tryd.f46 [iv n] [] [] (fun r _ => resW r = some u) = w46 n u [1, 2, 4, 8, 16, 32, 64, 128, 256, 512, 1024, 2048, 4096] := by kernel_rfl
def pw13 : List Int := [1, 2, 4, 8, 16, 32, 64, 128, 256, 512, 1024, 2048, 4096]
theorem fit_all : ((List.range 4097).all fun m => fitB (m : Int) == pw13.any fun a => a == (m : Int)) = true := by decide +kernel
theorem fit_any (n : Int) : fitB n = pw13.any fun a => a == n := by
  by_cases h : 0 ≤ n ∧ n ≤ 4096
  · obtain ⟨m, rfl⟩ := Int.eq_ofNat_of_zero_le h.1
    have := List.all_eq_true.1 fit_all m (List.mem_range.2 (by omega))
    exact eq_of_beq this
  · have h1 : fitB n = false := by
      unfold fitB
      by_cases h2 : n ≥ 1
      · rw [decide_eq_true h2, decide_eq_false (show ¬ n ≤ 4096 by omega)]; rfl
      · rw [decide_eq_false h2]; rfl
    rw [h1, eq_comm]
    unfold pw13
    simp only [List.any_cons, List.any_nil, Bool.or_eq_false_iff, beq_eq_false_iff_ne, ne_eq]
    refine ⟨?_, ?_, ?_, ?_, ?_, ?_, ?_, ?_, ?_, ?_, ?_, ?_, ?_, trivial⟩ <;> omega
theorem w46_of {n : Int} : ∀ l : List Int, w46 n (.bool (l.any fun a => a == n)) l
  | [] => rfl
  | a :: l => ⟨fun h => by rw [List.any_cons, h]; rfl, fun h => by rw [List.any_cons, h]; exact w46_of l⟩
theorem con46 : Con Tryd.prog 46 GFits := by
  refine con_of_runW hm hT FTok Tryd.func46 Tryd.call46 fun avs u h => ?_
  unfold GFits at h
  split at h
  · rename_i n
    simp only [Option.some.injEq] at h; subst h
    refine ⟨[false], 300, [], _, _, rfl, of_run (run46 n _) ?_⟩
    rw [fit_any]
    exact w46_of pw13
  · cases h
theorem fit_is {n : Nat} (h : fitB (n : Int) = true) : ∃ p, p ≤ 12 ∧ n = 2 ^ p := by
  rw [fit_any] at h
  obtain ⟨a, ha, hb⟩ := List.any_eq_true.1 h
  have hb' : a = (n : Int) := eq_of_beq hb
  subst hb'
  have hall : ∀ a ∈ pw13, ∃ p, p ≤ 12 ∧ a = ((2 ^ p : Nat) : Int) := by
    unfold pw13
    intro a ha
    simp only [List.mem_cons, List.not_mem_nil, or_false] at ha
    rcases ha with rfl | rfl | rfl | rfl | rfl | rfl | rfl | rfl | rfl | rfl | rfl | rfl | rfl
    · exact ⟨0, by omega, rfl⟩
    · exact ⟨1, by omega, rfl⟩
    · exact ⟨2, by omega, rfl⟩
    · exact ⟨3, by omega, rfl⟩
    · exact ⟨4, by omega, rfl⟩
    · exact ⟨5, by omega, rfl⟩
    · exact ⟨6, by omega, rfl⟩
    · exact ⟨7, by omega, rfl⟩
    · exact ⟨8, by omega, rfl⟩
    · exact ⟨9, by omega, rfl⟩
    · exact ⟨10, by omega, rfl⟩
    · exact ⟨11, by omega, rfl⟩
    · exact ⟨12, by omega, rfl⟩
  obtain ⟨p, h1, h2⟩ := hall _ ha
  exact ⟨p, h1, by omega⟩
/-! Power -/
noncomputable def FS0 : Fns := (FT.add 46 GFits).addG 47 GSums
theorem FS0ok : FnsOk Tryd.prog FS0 := (FTok.add con46).addG gcon47
end Go.Proofs.YthddkcoflnbjbaaDoor
namespace Go.Proofs.YthddkcoflnbjbaaDoor
open Sm Go Go.RowKit Fl Ieee
set_option maxRecDepth 1000000
set_option linter.unusedVariables false
theorem fit_le {n : Nat} (h : fitB (n : Int) = true) : n ≤ 4096 ∧ 0 < n := by
  obtain ⟨p, hp, rfl⟩ := fit_is h
  exact ⟨Nat.pow_le_pow_right (by omega) hp, Nat.two_pow_pos p⟩
/-! wave.Power of the first places of a list -/
theorem gcon_less {P : Program} {f : FuncId} {G G' : List AV → Option (Prop × AV × Blk)} (h : GCon P f G) (hle : ∀ args p v b, G' args = some (p, v, b) → p → ∃ args' p', G args' = some (p', v, b) ∧ p' ∧ ∀ (E : Env) (us : List Value), RA E args us → RA E args' us) : GCon P f G' := by
  refine ⟨h.1, fun args p v b hG hp => ?_⟩
  obtain ⟨args', p', h1, h2, h3⟩ := hle args p v b hG hp
  obtain ⟨g1, g2, g3⟩ := h.2 args' p' v b h1 h2
  exact ⟨g1, g2, fun w e0 us hh hra => g3 w e0 us hh (h3 _ _ hra)⟩
end Go.Proofs.YthddkcoflnbjbaaDoor
