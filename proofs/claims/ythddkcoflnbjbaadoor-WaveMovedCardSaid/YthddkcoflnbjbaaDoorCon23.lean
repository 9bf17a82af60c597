/-
  What is proved here: the run of the law WaveMoved. A text to be imported.
-/
import Derived.Test.YthddkcoflnbjbaaDoorCon22
namespace Go.Proofs.YthddkcoflnbjbaaDoor
open Sm Go Go.RowKit Fl Ieee
set_option maxRecDepth 1000000
set_option linter.unusedVariables false
noncomputable def cM1 : Code := pathC (bodyC Tryd.f3) [0]
noncomputable def cM2 : Code := pathC (bodyC Tryd.f3) [1]
noncomputable def cM3 : Code := pathC (bodyC Tryd.f3) [2]
def sl5 (n : Nat) : AV := .one (.sl 5 0 n 1)
def sl6 (n : Nat) : AV := .one (.sl 6 0 n 1)
def lM1 (n : Nat) (X : Nat → Nat × Nat) (s i : Nat) : List (Nat × AV) := [(4, xL n X), (5, AFl s), (6, iv n), (8, sl5 n), (10, sl6 n), (12, .one (.gr 7 i 1)), (13, iv i)]
def hM1 (n : Nat) (F G : Nat → Nat × Nat) (i : Nat) (T : Nat → Nat × Nat) : List Blk := [deadB, deadB, deadB, deadB, deadB, bY n F, bY n G, gB 28 i 1 (fX T)]
def lM2 (n : Nat) (X : Nat → Nat × Nat) (s i : Nat) : List (Nat × AV) := [(4, xL n X), (5, AFl s), (6, iv n), (10, sl6 n), (12, .one (.gr 7 n 1)), (14, .one (.gr 8 i 1)), (15, iv i)]
def hM2 (n : Nat) (F G : Nat → Nat × Nat) (T : Nat → Nat × Nat) (i : Nat) (R : Nat → Nat × Nat) : List Blk := [deadB, deadB, deadB, deadB, deadB, bY n F, bY n G, gB 28 n 1 (fX T), gB 28 i 1 (fX R)]
def lM3 (n : Nat) (s i : Nat) : List (Nat × AV) := [(5, AFl s), (6, iv n), (10, sl6 n), (12, .one (.gr 7 n 1)), (16, .one (.sl 9 0 n 1)), (18, iv i)]
def hM3 (n : Nat) (F G : Nat → Nat × Nat) (T R : Nat → Nat × Nat) : List Blk := [deadB, deadB, deadB, deadB, deadB, bY n F, bY n G, gB 28 n 1 (fX T), deadB, bY n R]




def d5 (n : Nat) (F G : Nat → Nat × Nat) (l : List Blk) : List Blk := deadB :: deadB :: deadB :: deadB :: deadB :: bY n F :: bY n G :: l
def grw (i : Nat) (X : Nat → Nat × Nat) (c : C1) : List Blk := [{ gB 28 i 1 (fX X) with live := false }, { body := .li [c], elem := 28, live := true, ro := false }, { body := .rs (i + 1) 1 (catR i (fX X) fun _ => [c]), elem := 28, live := true, ro := false }]
def okGr (i : Nat) (X : Nat → Nat × Nat) (c : C1) : Prop := (i = i ∧ (i = 0 ∨ Nat.blt 0 i = true)) ∧ True ∧ (∀ k : Nat, (fX X k).length = 1 ∧ ([c] : List C1).length = 1) ∧ (i + 1) * 16 ≤ 140737488355328 ∧ i + 1 ≤ maxLen
theorem roundM1 (n : Nat) (X F G Z : Nat → Nat × Nat) (s i : Nat) (Q : Ex → Nat → List AV → List Blk → Prop) : roundK Tryd.prog T FT 300 cM1 (tmL 162 (lM1 n X s i)) (hM1 n F G i Z) [.b true, .d 9] [4, 5, 6, 8, 10, 12, 13] Q =
    (decide ((i : Int) < n) = true ∧ (0 ≤ (i : Int) ∧ (i : Int) < n) ∧ 0 + (i : Int).toNat < n ∧ cmOk (F (0 + (i : Int).toNat)).1 (F (0 + (i : Int).toNat)).2 (turnP i n).1 (turnP i n).2 ∧ okGr i Z (CC (bfT (turnP i n) (F (0 + (i : Int).toNat)))) ∧
     Q .normal 162 [xL n X, AFl s, iv n, sl5 n, sl6 n, .one (.gr 9 (i + 1) 1), iv (W (i + 1))] (d5 n F G (grw i Z (CC (bfT (turnP i n) (F (0 + (i : Int).toNat))))))) := by kernel_rfl
theorem exitM1 (n : Nat) (X F G Z : Nat → Nat × Nat) (s i : Nat) (Q : Ex → Nat → List AV → List Blk → Prop) : roundK Tryd.prog T FT 300 cM1 (tmL 162 (lM1 n X s i)) (hM1 n F G i Z) [.b false] [4, 5, 6, 10, 12] Q =
    (decide ((i : Int) < n) = false ∧ Q (.exit 0) 162 [xL n X, AFl s, iv n, sl6 n, .one (.gr 7 i 1)] (hM1 n F G i Z)) := by kernel_rfl
theorem roundM2 (n : Nat) (X F G Z R : Nat → Nat × Nat) (s i : Nat) (Q : Ex → Nat → List AV → List Blk → Prop) : roundK Tryd.prog T FT 300 cM2 (tmL 162 (lM2 n X s i)) (hM2 n F G Z i R) [.b true] [4, 5, 6, 10, 12, 14, 15] Q =
    (decide ((i : Int) < n) = true ∧ (0 ≤ (i : Int) ∧ (i : Int) < n) ∧ okGr i R (CC ((X (i : Int).toNat).1, 0)) ∧
     Q .normal 162 [xL n X, AFl s, iv n, sl6 n, .one (.gr 7 n 1), .one (.gr 10 (i + 1) 1), iv (W (i + 1))] (d5 n F G (gB 28 n 1 (fX Z) :: grw i R (CC ((X (i : Int).toNat).1, 0))))) := by kernel_rfl
theorem exitM2 (n : Nat) (X F G Z R : Nat → Nat × Nat) (s i : Nat) (Q : Ex → Nat → List AV → List Blk → Prop) : roundK Tryd.prog T FT 300 cM2 (tmL 162 (lM2 n X s i)) (hM2 n F G Z i R) [.b false] [5, 6, 10, 12, 14] Q =
    (decide ((i : Int) < n) = false ∧ Q (.exit 2) 162 [AFl s, iv n, sl6 n, .one (.gr 7 n 1), .one (.gr 8 i 1)] (hM2 n F G Z i R)) := by kernel_rfl
def jM (n i : Nat) : Int := (W ((n : Int) - i)).tmod n
def s1F (s : Nat) : Nat := fbin .mul .f64 c8 (fbin .add .f64 kOne s)
def mB (s : Nat) (a b : Nat × Nat) : Bool := bif !fle (absW (fbin .sub .f64 a.1 b.1)) (s1F s) then true else !fle (absW (fbin .sub .f64 a.2 (Op.negFloat .f64 b.2))) (s1F s)
theorem roundM3 (n : Nat) (F G Z R : Nat → Nat × Nat) (s i : Nat) (Q : Ex → Nat → List AV → List Blk → Prop) : roundK Tryd.prog T FT 300 cM3 (tmL 162 (lM3 n s i)) (hM3 n F G Z R) [.b true, .b false] [5, 6, 10, 12, 16, 18] Q =
    (decide ((i : Int) < n) = true ∧ ((n : Int) == 0) = false ∧ (0 ≤ jM n i ∧ jM n i < n) ∧ 0 + (jM n i).toNat < n ∧ (0 ≤ (i : Int) ∧ (i : Int) < n) ∧ 0 + (i : Int).toNat < n ∧ fok .add .f64 kOne s = true ∧ fok .mul .f64 c8 (fbin .add .f64 kOne s) = true ∧
     fok .sub .f64 (R (0 + (i : Int).toNat)).1 (R (0 + (jM n i).toNat)).1 = true ∧ (0 ≤ (i : Int) ∧ (i : Int) < n) ∧ 0 + (i : Int).toNat < n ∧ fok .add .f64 kOne s = true ∧ fok .mul .f64 c8 (fbin .add .f64 kOne s) = true ∧
     fok .sub .f64 (R (0 + (i : Int).toNat)).2 (Op.negFloat .f64 (R (0 + (jM n i).toNat)).2) = true ∧ mB s (R (0 + (i : Int).toNat)) (R (0 + (jM n i).toNat)) = false ∧
     Q .normal 162 [AFl s, iv n, sl6 n, .one (.gr 7 n 1), .one (.sl 9 0 n 1), iv (W (i + 1))] (hM3 n F G Z R)) := by kernel_rfl
theorem exitM3 (n : Nat) (F G Z R : Nat → Nat × Nat) (s i : Nat) (Q : Ex → Nat → List AV → List Blk → Prop) : roundK Tryd.prog T FT 300 cM3 (tmL 162 (lM3 n s i)) (hM3 n F G Z R) [.b false] [5, 10, 12] Q =
    (decide ((i : Int) < n) = false ∧ Q (.exit 4) 162 [AFl s, sl6 n, .one (.gr 7 n 1)] (hM3 n F G Z R)) := by kernel_rfl
theorem okGr_of {n i : Nat} (hn : n ≤ 4096) (hi : i < n) (X : Nat → Nat × Nat) (c : C1) : okGr i X c := ⟨⟨rfl, live0 i⟩, trivial, fun k => ⟨rfl, rfl⟩, by omega, by show i + 1 ≤ 9223372036854775807; omega⟩
theorem rfB {a z : Nat} {js : List Nat} {hp : List Blk} {n : Nat} (F : Nat → Nat × Nat) : renB a z js hp (bY n F) (bY n F) := .inr ⟨rfl, rfl, rfl, rfl, fun j hj => renC_S rfl⟩
theorem loopM1 {n : Nat} {X F G Z : Nat → Nat × Nat} {s : Nat} (hn : n ≤ 4096) (hok : ∀ k, k < n → cmOk (F k).1 (F k).2 (turnP (k : Int) n).1 (turnP (k : Int) n).2 ∧ bfT (turnP (k : Int) n) (F k) = Z k) :
    LoopOkB Tryd.prog 7 cM1 (tmL 162 (lM1 n X s 0)) (hM1 n F G 0 Z) (.exit 0) (tmL 162 [(4, xL n X), (5, AFl s), (6, iv n), (10, sl6 n), (12, .one (.gr 7 n 1))]) (hM1 n F G n Z) := by
  refine grow_rounds hm hT 7 162 n (lM1 n X s) (fun i => hM1 n F G i Z) (.exit 0) _ _ (by simp) (fun i _ => by simp [hM1]) (fun i hi => ⟨FT, FTok, 300, [.b true, .d 9], [], ?_⟩) ⟨FT, FTok, 300, [.b false], [], ?_⟩ 0 (Nat.zero_le _)
  · show roundK Tryd.prog T FT 300 cM1 (tmL 162 (lM1 n X s i)) (hM1 n F G i Z) [.b true, .d 9] [4, 5, 6, 8, 10, 12, 13] _
    have h0 : 0 + (i : Int).toNat = i := by omega
    obtain ⟨k1, k2⟩ := hok i hi
    rw [roundM1, h0, k2]
    refine ⟨decide_eq_true (by omega), ⟨by omega, by omega⟩, hi, k1, okGr_of hn hi _ _, rfl, rfl, _, d5 n F G [], [_, _], _, d5 n F G [], gB 28 (i + 1) 1 (fX Z), .inl rfl, rfl, rfl, rfl, noFroz, ⟨renL_lst _ _, rfl, rfl, ⟨rfl, rfl, rfl, rfl⟩, ⟨rfl, rfl, rfl, rfl⟩, ⟨rfl, rfl, rfl⟩, sc_eq ?_, trivial⟩, ⟨.inl rfl, .inl rfl, .inl rfl, .inl rfl, .inl rfl, rfB F, rfB G, trivial⟩, gB_cat (fun k => rfl) rfl (fun k hk => renCs_L ⟨rfl, trivial⟩) (renCs_L ⟨rfl, trivial⟩)⟩
    rw [Wid (by omega) (by omega)]; rfl
  · show roundK Tryd.prog T FT 300 cM1 (tmL 162 (lM1 n X s n)) (hM1 n F G n Z) [.b false] [4, 5, 6, 10, 12] _
    rw [exitM1]
    exact ⟨decide_eq_false (by omega), rfl, rfl, _, d5 n F G [], [], _, d5 n F G [], _, .inl rfl, rfl, rfl, rfl, noFroz, ⟨renL_lst _ _, rfl, rfl, ⟨rfl, rfl, rfl, rfl⟩, ⟨rfl, rfl, rfl⟩, trivial⟩, ⟨.inl rfl, .inl rfl, .inl rfl, .inl rfl, .inl rfl, rfB F, rfB G, trivial⟩, gB_same fun k hk => renCs_L ⟨rfl, trivial⟩⟩
theorem rfG {a z : Nat} {js : List Nat} {hp : List Blk} {n : Nat} (Z : Nat → Nat × Nat) : renB a z js hp (gB 28 n 1 (fX Z)) (gB 28 n 1 (fX Z)) := gB_same fun k hk => renCs_L ⟨rfl, trivial⟩
theorem loopM2 {n : Nat} {X F G Z R : Nat → Nat × Nat} {s : Nat} (hn : n ≤ 4096) (hok : ∀ k, k < n → ((X k).1, 0) = R k) :
    LoopOkB Tryd.prog 8 cM2 (tmL 162 (lM2 n X s 0)) (hM2 n F G Z 0 R) (.exit 2) (tmL 162 [(5, AFl s), (6, iv n), (10, sl6 n), (12, .one (.gr 7 n 1)), (14, .one (.gr 8 n 1))]) (hM2 n F G Z n R) := by
  refine grow_rounds hm hT 8 162 n (lM2 n X s) (fun i => hM2 n F G Z i R) (.exit 2) _ _ (by simp) (fun i _ => by simp [hM2]) (fun i hi => ⟨FT, FTok, 300, [.b true], [], ?_⟩) ⟨FT, FTok, 300, [.b false], [], ?_⟩ 0 (Nat.zero_le _)
  · show roundK Tryd.prog T FT 300 cM2 (tmL 162 (lM2 n X s i)) (hM2 n F G Z i R) [.b true] [4, 5, 6, 10, 12, 14, 15] _
    have h0 : (i : Int).toNat = i := by omega
    rw [roundM2, h0, hok i hi]
    refine ⟨decide_eq_true (by omega), ⟨by omega, by omega⟩, okGr_of hn hi _ _, rfl, rfl, _, d5 n F G [gB 28 n 1 (fX Z)], [_, _], _, d5 n F G [gB 28 n 1 (fX Z)], gB 28 (i + 1) 1 (fX R), .inl rfl, rfl, rfl, rfl, noFroz, ⟨renL_lst _ _, rfl, rfl, ⟨rfl, rfl, rfl, rfl⟩, ⟨rfl, rfl, rfl⟩, ⟨rfl, rfl, rfl⟩, sc_eq ?_, trivial⟩, ⟨.inl rfl, .inl rfl, .inl rfl, .inl rfl, .inl rfl, rfB F, rfB G, rfG Z, trivial⟩, gB_cat (fun k => rfl) rfl (fun k hk => renCs_L ⟨rfl, trivial⟩) (renCs_L ⟨rfl, trivial⟩)⟩
    rw [Wid (by omega) (by omega)]; rfl
  · show roundK Tryd.prog T FT 300 cM2 (tmL 162 (lM2 n X s n)) (hM2 n F G Z n R) [.b false] [5, 6, 10, 12, 14] _
    rw [exitM2]
    exact ⟨decide_eq_false (by omega), rfl, rfl, _, d5 n F G [gB 28 n 1 (fX Z)], [], _, d5 n F G [gB 28 n 1 (fX Z)], _, .inl rfl, rfl, rfl, rfl, noFroz, ⟨rfl, rfl, ⟨rfl, rfl, rfl, rfl⟩, ⟨rfl, rfl, rfl⟩, ⟨rfl, rfl, rfl⟩, trivial⟩, ⟨.inl rfl, .inl rfl, .inl rfl, .inl rfl, .inl rfl, rfB F, rfB G, rfG Z, trivial⟩, rfG R⟩
theorem loopM3 {n : Nat} {F G Z R : Nat → Nat × Nat} {s : Nat} (h1 : 1 ≤ n) (hn : n ≤ 4096) (ha : fok .add .f64 kOne s = true) (hb : fok .mul .f64 c8 (fbin .add .f64 kOne s) = true)
    (hok : ∀ k, k < n → wi2 (s1F s) (R k).1 (R ((n - k) % n)).1 ∧ wi2 (s1F s) (R k).2 (Op.negFloat .f64 (R ((n - k) % n)).2)) :
    LoopOk Tryd.prog cM3 (tmL 162 (lM3 n s 0)) (hM3 n F G Z R) (.exit 4) (tmL 162 [(5, AFl s), (10, sl6 n), (12, .one (.gr 7 n 1))]) (hM3 n F G Z R) := by
  refine loop_rounds hm hT FTok 162 n (lM3 n s) (fun i => hM3 n F G Z R) (.exit 4) _ _ (fun e => by cases e) (fun i hi => ⟨300, [.b true, .b false], ?_⟩) ⟨300, [.b false], ?_⟩ 0 (Nat.zero_le _)
  · show roundK Tryd.prog T FT 300 cM3 (tmL 162 (lM3 n s i)) (hM3 n F G Z R) [.b true, .b false] [5, 6, 10, 12, 16, 18] _
    have h0 : 0 + (i : Int).toNat = i := by omega
    have hj : jM n i = (((n - i) % n : Nat) : Int) := by
      unfold jM
      rw [Wid (by omega) (by omega), show (n : Int) - i = ((n - i : Nat) : Int) by omega, Int.tmod_eq_emod_of_nonneg (by omega)]
      omega
    have hlt : (n - i) % n < n := Nat.mod_lt _ (by omega)
    have hj0 : 0 + (jM n i).toNat = (n - i) % n := by rw [hj]; omega
    obtain ⟨⟨w1, w2⟩, w3, w4⟩ := hok i hi
    rw [roundM3, h0, hj0]
    have hr : 0 ≤ (i : Int) ∧ (i : Int) < n := ⟨by omega, by omega⟩
    refine ⟨decide_eq_true (by omega), beqf (by omega), by rw [hj]; omega, hlt, hr, hi, ha, hb, w1, hr, hi, ha, hb, w3, by unfold mB; rw [w2, w4]; rfl, rfl, rfl, ⟨sameV.refl _, sameV.refl _, sameV.refl _, sameV.refl _, sameV.refl _, iv_same _ _ ?_, trivial⟩, HpLe.refl _⟩
    rw [Wid (by omega) (by omega)]; omega
  · show roundK Tryd.prog T FT 300 cM3 (tmL 162 (lM3 n s n)) (hM3 n F G Z R) [.b false] [5, 10, 12] _
    rw [exitM3]
    exact ⟨decide_eq_false (by omega), rfl, rfl, ⟨sameV.refl _, sameV.refl _, sameV.refl _, trivial⟩, HpLe.refl _⟩
noncomputable def F3 (n : Nat) (X F G Z R R' : Nat → Nat × Nat) (s : Nat) (q1 q2 q3 : Prop) : Fns :=
  ((FQ.addLoop 0 cM1 (loopC 162 (lM1 n X s 0) (d5 n F G []) q1 (.exit 0) [(4, xL n X), (5, AFl s), (6, iv n), (10, sl6 n), (12, .one (.gr 7 n 1))] (hM1 n F G n Z))).addLoop 1 cM2
    (loopC 162 (lM2 n X s 0) (d5 n F G [gB 28 n 1 (fX Z)]) q2 (.exit 2) [(5, AFl s), (6, iv n), (10, sl6 n), (12, .one (.gr 7 n 1)), (14, .one (.gr 8 n 1))] (hM2 n F G Z n R))).addLoop 2 cM3
    (loopC 162 (lM3 n s 0) (hM3 n F G Z R') q3 (.exit 4) [(5, AFl s), (10, sl6 n), (12, .one (.gr 7 n 1))] (hM3 n F G Z R'))

def wN1 (m : Nat) : Int := W ((nF m : Int) - 1)
def LM (m : Nat) : Nat := 1 + (wN1 m).toNat
def cM0 (m : Nat) (x : Nat → Nat) : C1 := CC (XW m x (wN1 m).toNat)
def mvF (m : Nat) (x : Nat → Nat) : Nat → List C1 := catR 1 (fun _ => [cM0 m x]) (fX (XW m x))
def mvB (m : Nat) (x : Nat → Nat) (k : Nat) : Nat × Nat := (bif Nat.blt k 1 then (XW m x (wN1 m).toNat).1 else (XW m x (k - 1)).1, bif Nat.blt k 1 then (XW m x (wN1 m).toNat).2 else (XW m x (k - 1)).2)
def dd2 (m : Nat) (x : Nat → Nat) : List Blk := [deadB, deadB, { body := .li [cM0 m x], elem := 28, live := false, ro := false }, { body := .rs (LM m) 1 (mvF m x), elem := 28, live := false, ro := false }, deadB, bY (nF m) (thF m (XW m x)), bY (LM m) (trY 1 (LM m).log2 (mvB m x))]
def st1 (m : Nat) (x : Nat → Nat) (F G : Nat → Nat × Nat) (s : Nat) (q : Prop) : Prop := (162 = 162 ∧ startLs [xL (nF m) (XW m x), AFl (sW m x (nF m)), iv (nF m), sl5 (nF m), sl6 (LM m), .one (.sc (.slice none 0 0) true), .one (.sc (.int .i64 0) true)] ((lM1 (nF m) (XW m x) s 0).map (·.2)) ∧ startBs (dd2 m x) (d5 (nF m) F G [])) ∧ q
def st2 (m : Nat) (x : Nat → Nat) (F G Z : Nat → Nat × Nat) (s : Nat) (q : Prop) : Prop := (162 = 162 ∧ startLs [xL (nF m) (XW m x), AFl s, iv (nF m), sl6 (nF m), .one (.gr 7 (nF m) 1), .one (.sc (.slice none 0 0) true), .one (.sc (.int .i64 0) true)] ((lM2 (nF m) (XW m x) s 0).map (·.2)) ∧ startBs (hM1 (nF m) F G (nF m) Z) (d5 (nF m) F G [gB 28 (nF m) 1 (fX Z)])) ∧ q
def hd2 (n : Nat) (R : Nat → Nat × Nat) : Prop := n = n ∧ (n = 0 ∨ (gB 28 n 1 (fX R)).live = true) ∧ (∀ k : Nat, (fX R k).length = 1) ∧ ∀ (k : Nat) (c : C1), c ∈ fX R k → freeC c
def st3 (m : Nat) (F G Z R P : Nat → Nat × Nat) (s : Nat) (q : Prop) : Prop := (162 = 162 ∧ startLs [AFl s, iv (nF m), sl6 (nF m), .one (.gr 7 (nF m) 1), .one (.sl 9 0 (nF m) 1), .one (.sc (.int .i64 0) true)] ((lM3 (nF m) s 0).map (·.2)) ∧
  startBs (d5 (nF m) F G [gB 28 (nF m) 1 (fX Z), { gB 28 (nF m) 1 (fX R) with live := false }, bY (nF m) (trY 1 (nF m).log2 R)]) (hM3 (nF m) F G Z P)) ∧ q
theorem run3 (m : Nat) (x : Nat → Nat) (F G Z R P : Nat → Nat × Nat) (s : Nat) (q1 q2 q3 : Prop) (u : Value) : runK Tryd.prog T (F3 (nF m) (XW m x) F G Z R P s q1 q2 q3) 900 Tryd.f3 [xF m x] [deadB] [.b false, .l 0, .l 1, .b false, .l 2] (fun r _ => resW r = some u) =
    (obF m x ∧ (0 ≤ wN1 m ∧ wN1 m < nF m) ∧ (0 ≤ wN1 m ∧ wN1 m ≤ nF m) ∧ ((∀ k : Nat, (fX (XW m x) k).length = 1) ∧ LM m * 16 ≤ 140737488355328 ∧ LM m ≤ maxLen) ∧ obTw m x ∧ ((True ∧ True) ∧ okP 1 (nF m) (nF m) (fX (XW m x))) ∧
     (((LM m ≤ LM m ∧ (∀ k : Nat, 1 = 1) ∧ ∀ (k : Nat) (c : C1), c ∈ mvF m x k → freeC c) ∧ True) ∧ okP 1 (LM m) (LM m) (fX (mvB m x))) ∧ (bif (nF m : Int) != (nF m : Int) then true else (LM m : Int) != (nF m : Int)) = false ∧
     cM1 = cM1 ∧ st1 m x F G s q1 ∧ cM2 = cM2 ∧ st2 m x F G Z s q2 ∧ ((hd2 (nF m) R ∧ True) ∧ okP 1 (nF m) (nF m) (fX R)) ∧ ((nF m : Int) != (nF m : Int)) = false ∧ cM3 = cM3 ∧ st3 m F G Z R P s q3 ∧
     fok .add .f64 kOne s = true ∧ fok .mul .f64 c8 (fbin .add .f64 kOne s) = true ∧ (((nF m ≤ nF m ∧ ∀ k : Nat, freeC (CC (G k))) ∧ hd2 (nF m) Z ∧ True ∧ True) ∧ obCl m (s1F s) G Z) ∧ some (Value.bool true) = some u) := by kernel_rfl
end Go.Proofs.YthddkcoflnbjbaaDoor
