/-
  What is proved here: the whole runs of WaveForward. A text to be imported.
-/
import Derived.Test.YthddkcoflnbjbaaDoorPCon63
namespace Go.Proofs.YthddkcoflnbjbaaDoor
open Sm Go Go.RowKit Fl Ieee
set_option maxRecDepth 1000000
set_option linter.unusedVariables false
def okTF (n : Nat) (x : Nat → Nat × Nat) : Prop := okWt n x ∧ okSm n x (twP 1 n) ∧ (∃ p, p ≤ 12 ∧ n = 2 ^ p ∧ okTr 1 p (pC n x)) ∧ fok .add .f64 4607182418800017408 (smC x n) = true ∧ fok .mul .f64 4476910133257361045 (fbin .add .f64 4607182418800017408 (smC x n)) = true ∧ ∀ i, i < n → okN1 (zeF n x i) (rF n x i) (bW n x)
def goodF (n m : Nat) (x y : Nat → Nat × Nat) : Prop := ∃ F, FnsOk Tryd.prog F ∧ runK Tryd.prog T F 900 Tryd.f11 [prL n x, prL m y] [deadB, deadB, deadB] [] (fun r _ => resW r = some (.bool true))
def KFTT (n m : Nat) (x y : Nat → Nat × Nat) : List Blk := HB (bY n (zeF n x)) (bY m (zeF m y)) (bY m (zeF m y)) (bY n (zeF n x)) (.sl 9 0 n 1) (.sl 12 0 m 1) (.sl 15 0 m 1) (.sl 18 0 n 1) []
noncomputable def RFTT (n m : Nat) (x y : Nat → Nat × Nat) : Fns := ((((((((((((((((((FT.addG 39 GList).addGs 40 (byPl [5] GWtT GWtT)).addGs 41 (byPl [7] GRFw GRFw)).addG 43 GKept).addGs 16 (byPl [9, 18] GFw GFw)).addLoop 5 c44 (nearSel (nearC 9 n (zeF n x) (rF n x) (bW n x) (KFTT n m x y)) (nearC 12 m (zeF m y) (rF m y) (bW m y) (KFTT n m x y)) (nearC 15 m (zeF m y) (rF m y) (bW m y) (KFTT n m x y)) (nearC 18 n (zeF n x) (rF n x) (bW n x) (KFTT n m x y)))).addLoop 10 c45a (LA0 n (fun k => CC ((zeF n x) k)) (KFTT n m x y) (.sl 12 0 m 1) (.sl 15 0 m 1) (.sl 18 0 n 1))).addLoop 11 c45a (LA1 m (fun k => CC ((zeF m y) k)) (HB (syW n fun _ => (0, oneW)) (bY m (zeF m y)) (bY m (zeF m y)) (bY n (zeF n x)) (.sl 9 0 n 1) (.sl 12 0 m 1) (.sl 15 0 m 1) (.sl 18 0 n 1) []) (.sl 9 0 n 1) (.sl 15 0 m 1) (.sl 18 0 n 1))).addLoop 12 c45a (LA2 m (fun k => CC ((zeF m y) k)) (HB (syW n fun _ => (0, oneW)) (syW m fun _ => (4607182418800017408, oneW)) (bY m (zeF m y)) (bY n (zeF n x)) (.sl 9 0 n 1) (.sl 12 0 m 1) (.sl 15 0 m 1) (.sl 18 0 n 1) []) (.sl 9 0 n 1) (.sl 12 0 m 1) (.sl 18 0 n 1))).addLoop 13 c45a (LA3 n (fun k => CC ((zeF n x) k)) (HB (syW n fun _ => (0, oneW)) (syW m fun _ => (4607182418800017408, oneW)) (syW m fun _ => (4611686018427387904, oneW)) (bY n (zeF n x)) (.sl 9 0 n 1) (.sl 12 0 m 1) (.sl 15 0 m 1) (.sl 18 0 n 1) []) (.sl 9 0 n 1) (.sl 12 0 m 1) (.sl 15 0 m 1))).addLoop 20 c45b (LB0 n (HFF0 n m))).addLoop 21 c45b (LB1 m (HFF1 n m))).addLoop 22 c45b (LB2 m (HFF2 n m))).addLoop 23 c45b (LB3 n (HFF3 n m))).addLoop 30 c45c (LC0 n (HFF4 n m) (.sl 12 0 m 1) (.sl 15 0 m 1) (.sl 18 0 n 1) (.sl 26 0 (m + 20) 1) (.sl 29 0 (m + 20) 1) (.sl 32 0 (n + 20) 1))).addLoop 31 c45c (LC1 m (HFF4 n m) (.sl 9 0 n 1) (.sl 15 0 m 1) (.sl 18 0 n 1) (.sl 23 0 (n + 20) 1) (.sl 29 0 (m + 20) 1) (.sl 32 0 (n + 20) 1))).addLoop 32 c45c (LC2 m (HFF4 n m) (.sl 9 0 n 1) (.sl 12 0 m 1) (.sl 18 0 n 1) (.sl 23 0 (n + 20) 1) (.sl 26 0 (m + 20) 1) (.sl 32 0 (n + 20) 1))).addLoop 33 c45c (LC3 n (HFF4 n m) (.sl 9 0 n 1) (.sl 12 0 m 1) (.sl 15 0 m 1) (.sl 23 0 (n + 20) 1) (.sl 26 0 (m + 20) 1) (.sl 29 0 (m + 20) 1))).withCo (coTwo [.u, .b false, .u, .b false, .u, .b false, .u, .b false, .u] [.u, .l 10, .u, .l 11, .u, .l 12, .u, .l 13, .u, .u, .l 20, .u, .l 21, .u, .l 22, .u, .l 23, .u, .u, .l 30, .u, .l 31, .u, .l 32, .u, .l 33, .u])
theorem runFTT (n m : Nat) (x y : Nat → Nat × Nat) (u : Value) : runK Tryd.prog T (RFTT n m x y) 900 Tryd.f11 [prL n x, prL m y] [deadB, deadB, deadB] [] (fun r _ => resW r = some u) =
  obsP ((pList n x) ::
   (pList m y) ::
   (pWtT n x) ::
   (pWtT m y) ::
   (pFwT n x) ::
   (pFwT m y) ::
   (pTrF n x) ::
   (pNe n) ::
   (pTrF m y) ::
   (pNe m) ::
   (pTrF m y) ::
   (pNe m) ::
   (pTrF n x) ::
   (pNe n) ::
   (pKp n x) ::
   (pKp m y) ::
   (pB1 n x) ::
   (pB2 n x) ::
   (pNe n) ::
   (c44 = c44) ::
   (stt2 47 [.one (.sl 9 0 n 1), prL n (rF n x), AFl (bW n x), ic 0] ((l44 9 n (rF n x) (bW n x) 0).map (·.2)) (KFTT n m x y) (nearH 9 n (zeF n x) (KFTT n m x y))) ::
   (pB1 n x) ::
   (pB2 n x) ::
   (pNe n) ::
   (c44 = c44) ::
   (stt2 47 [.one (.sl 18 0 n 1), prL n (rF n x), AFl (bW n x), ic 0] ((l44 18 n (rF n x) (bW n x) 0).map (·.2)) (nearH 9 n (zeF n x) (KFTT n m x y)) (nearH 18 n (zeF n x) (KFTT n m x y))) ::
   (pB1 m y) ::
   (pB2 m y) ::
   (pNe m) ::
   (c44 = c44) ::
   (stt2 47 [.one (.sl 12 0 m 1), prL m (rF m y), AFl (bW m y), ic 0] ((l44 12 m (rF m y) (bW m y) 0).map (·.2)) (nearH 18 n (zeF n x) (KFTT n m x y)) (nearH 12 m (zeF m y) (KFTT n m x y))) ::
   (pB1 m y) ::
   (pB2 m y) ::
   (pNe m) ::
   (c44 = c44) ::
   (stt2 47 [.one (.sl 15 0 m 1), prL m (rF m y), AFl (bW m y), ic 0] ((l44 15 m (rF m y) (bW m y) 0).map (·.2)) (nearH 12 m (zeF m y) (KFTT n m x y)) (nearH 15 m (zeF m y) (KFTT n m x y))) ::
   (c45a = c45a) ::
   (stt2 131 [gotA, ic 0, ic 0] ((l45a 0 0).map (·.2)) (nearH 15 m (zeF m y) (KFTT n m x y)) (GA0 n (fun k => CC ((zeF n x) k)) (KFTT n m x y) (.sl 12 0 m 1) (.sl 15 0 m 1) (.sl 18 0 n 1))) ::
   (c45a = c45a) ::
   (stt2 131 [gotA, ic 1, ic 0] ((l45a 1 0).map (·.2)) (HB (syW n fun _ => (0, oneW)) (bY m (zeF m y)) (bY m (zeF m y)) (bY n (zeF n x)) (.sl 9 0 n 1) (.sl 12 0 m 1) (.sl 15 0 m 1) (.sl 18 0 n 1) []) (GA1 m (fun k => CC ((zeF m y) k)) (HB (syW n fun _ => (0, oneW)) (bY m (zeF m y)) (bY m (zeF m y)) (bY n (zeF n x)) (.sl 9 0 n 1) (.sl 12 0 m 1) (.sl 15 0 m 1) (.sl 18 0 n 1) []) (.sl 9 0 n 1) (.sl 15 0 m 1) (.sl 18 0 n 1))) ::
   (c45a = c45a) ::
   (stt2 131 [gotA, ic 2, ic 0] ((l45a 2 0).map (·.2)) (HB (syW n fun _ => (0, oneW)) (syW m fun _ => (4607182418800017408, oneW)) (bY m (zeF m y)) (bY n (zeF n x)) (.sl 9 0 n 1) (.sl 12 0 m 1) (.sl 15 0 m 1) (.sl 18 0 n 1) []) (GA2 m (fun k => CC ((zeF m y) k)) (HB (syW n fun _ => (0, oneW)) (syW m fun _ => (4607182418800017408, oneW)) (bY m (zeF m y)) (bY n (zeF n x)) (.sl 9 0 n 1) (.sl 12 0 m 1) (.sl 15 0 m 1) (.sl 18 0 n 1) []) (.sl 9 0 n 1) (.sl 12 0 m 1) (.sl 18 0 n 1))) ::
   (c45a = c45a) ::
   (stt2 131 [gotA, ic 3, ic 0] ((l45a 3 0).map (·.2)) (HB (syW n fun _ => (0, oneW)) (syW m fun _ => (4607182418800017408, oneW)) (syW m fun _ => (4611686018427387904, oneW)) (bY n (zeF n x)) (.sl 9 0 n 1) (.sl 12 0 m 1) (.sl 15 0 m 1) (.sl 18 0 n 1) []) (GA3 n (fun k => CC ((zeF n x) k)) (HB (syW n fun _ => (0, oneW)) (syW m fun _ => (4607182418800017408, oneW)) (syW m fun _ => (4611686018427387904, oneW)) (bY n (zeF n x)) (.sl 9 0 n 1) (.sl 12 0 m 1) (.sl 15 0 m 1) (.sl 18 0 n 1) []) (.sl 9 0 n 1) (.sl 12 0 m 1) (.sl 15 0 m 1))) ::
   (c45b = c45b) ::
   (stt2 131 [gotA, (.one nilC), ic 0, .one (.sl 9 0 n 1), ic 0] ((l45b (.one nilC) 0 9 n 0).map (·.2)) (HFF0 n m) (HFF0 n m)) ::
   (c45b = c45b) ::
   (stt2 131 [gotA, (.one (.sl 25 0 1 1)), ic 1, .one (.sl 12 0 m 1), ic 0] ((l45b (.one (.sl 25 0 1 1)) 1 12 m 0).map (·.2)) (HFF1 n m) (HFF1 n m)) ::
   (c45b = c45b) ::
   (stt2 131 [gotA, (.one (.sl 28 0 2 1)), ic 2, .one (.sl 15 0 m 1), ic 0] ((l45b (.one (.sl 28 0 2 1)) 2 15 m 0).map (·.2)) (HFF2 n m) (HFF2 n m)) ::
   (c45b = c45b) ::
   (stt2 131 [gotA, (.one (.sl 31 0 3 1)), ic 3, .one (.sl 18 0 n 1), ic 0] ((l45b (.one (.sl 31 0 3 1)) 3 18 n 0).map (·.2)) (HFF3 n m) (HFF3 n m)) ::
   (c45c = c45c) ::
   (stt2 131 [gotA, longA, ic 0, ic 0] ((l45c 0 0).map (·.2)) (HFF4 n m) (HFF4 n m)) ::
   (c45c = c45c) ::
   (stt2 131 [gotA, longA, ic 1, ic 0] ((l45c 1 0).map (·.2)) (HFF4 n m) (HFF4 n m)) ::
   (c45c = c45c) ::
   (stt2 131 [gotA, longA, ic 2, ic 0] ((l45c 2 0).map (·.2)) (HFF4 n m) (HFF4 n m)) ::
   (c45c = c45c) ::
   (stt2 131 [gotA, longA, ic 3, ic 0] ((l45c 3 0).map (·.2)) (HFF4 n m) (HFF4 n m)) ::
   (pKp n x) ::
   (pKp m y) :: []) (some (Value.bool true) = some u) := by kernel_rfl
theorem goFTT {n m : Nat} {x y : Nat → Nat × Nat} (sn : sizeOk n) (fn : fitB n = true) (tn : tmC x n = true) (kn : okTF n x) (sm : sizeOk m) (fm : fitB m = true) (tm : tmC y m = true) (km : okTF m y) : goodF n m x y := by
  have hn := (fit_le fn).1
  obtain ⟨wn, mn, rn, bn, cn, on⟩ := kn
  have hm := (fit_le fm).1
  obtain ⟨wm, mm, rm, bm, cm, om⟩ := km
  refine ⟨RFTT n m x y, ((((((((((((((((((FTok.addG gcon39).addGs (byPl_ok gcon40T gcon40T)).addGs (byPl_ok gcon41 gcon41)).addG gcon43).addGs (byPl_ok gcon16 gcon16)).addLoop 5 c44 _ (nearSel_ok (near9_ok hn on) (near12_ok hm om) (near15_ok hm om) (near18_ok hn on))).addLoop 10 c45a _ (LA0_ok hn)).addLoop 11 c45a _ (LA1_ok hm)).addLoop 12 c45a _ (LA2_ok hm)).addLoop 13 c45a _ (LA3_ok hn)).addLoop 20 c45b _ (LB0_ok hn (HFF0_e1 n m) (HFF0_e2 n m) (HFF0_ok n m))).addLoop 21 c45b _ (LB1_ok hm (HFF1_e1 n m) (HFF1_e2 n m) (HFF1_ok n m))).addLoop 22 c45b _ (LB2_ok hm (HFF2_e1 n m) (HFF2_e2 n m) (HFF2_ok n m))).addLoop 23 c45b _ (LB3_ok hn (HFF3_e1 n m) (HFF3_e2 n m) (HFF3_ok n m))).addLoop 30 c45c _ (LC0_ok hn)).addLoop 31 c45c _ (LC1_ok hm)).addLoop 32 c45c _ (LC2_ok hm)).addLoop 33 c45c _ (LC3_ok hn)).withCo _, ?_⟩
  rw [runFTT]
  exact ⟨pList_ok sn,
    pList_ok sm,
    pWtT_ok sn tn wn,
    pWtT_ok sm tm wm,
    pFwT_ok fn mn,
    pFwT_ok fm mm,
    pTrF_ok rn,
    pNe_ok n,
    pTrF_ok rm,
    pNe_ok m,
    pTrF_ok rm,
    pNe_ok m,
    pTrF_ok rn,
    pNe_ok n,
    pKp_ok sn,
    pKp_ok sm,
    bn,
    cn,
    pNe_ok n,
    rfl,
    stt2_ok (g := (KFTT n m x y)) ⟨rfl, rfl, rfl, rfl, trivial⟩ (rfl) (nearH9_eq _ _ _ _ _ _ _ _ _),
    bn,
    cn,
    pNe_ok n,
    rfl,
    stt2_ok (g := (KFTT n m x y)) ⟨rfl, rfl, rfl, rfl, trivial⟩ (nearH9_eq _ _ _ _ _ _ _ _ _) (nearH18_eq _ _ _ _ _ _ _ _ _),
    bm,
    cm,
    pNe_ok m,
    rfl,
    stt2_ok (g := (KFTT n m x y)) ⟨rfl, rfl, rfl, rfl, trivial⟩ (nearH18_eq _ _ _ _ _ _ _ _ _) (nearH12_eq _ _ _ _ _ _ _ _ _),
    bm,
    cm,
    pNe_ok m,
    rfl,
    stt2_ok (g := (KFTT n m x y)) ⟨rfl, rfl, rfl, rfl, trivial⟩ (nearH12_eq _ _ _ _ _ _ _ _ _) (nearH15_eq _ _ _ _ _ _ _ _ _),
    rfl,
    stt2_ok (g := (KFTT n m x y)) ⟨rfl, rfl, rfl, trivial⟩ (nearH15_eq _ _ _ _ _ _ _ _ _) (GA0_eq _ _ _ _ _ _ _ _),
    rfl,
    stt2_ok (g := (HB (syW n fun _ => (0, oneW)) (bY m (zeF m y)) (bY m (zeF m y)) (bY n (zeF n x)) (.sl 9 0 n 1) (.sl 12 0 m 1) (.sl 15 0 m 1) (.sl 18 0 n 1) [])) ⟨rfl, rfl, rfl, trivial⟩ (rfl) (GA1_eq _ _ _ _ _ _ _ _),
    rfl,
    stt2_ok (g := (HB (syW n fun _ => (0, oneW)) (syW m fun _ => (4607182418800017408, oneW)) (bY m (zeF m y)) (bY n (zeF n x)) (.sl 9 0 n 1) (.sl 12 0 m 1) (.sl 15 0 m 1) (.sl 18 0 n 1) [])) ⟨rfl, rfl, rfl, trivial⟩ (rfl) (GA2_eq _ _ _ _ _ _ _ _),
    rfl,
    stt2_ok (g := (HB (syW n fun _ => (0, oneW)) (syW m fun _ => (4607182418800017408, oneW)) (syW m fun _ => (4611686018427387904, oneW)) (bY n (zeF n x)) (.sl 9 0 n 1) (.sl 12 0 m 1) (.sl 15 0 m 1) (.sl 18 0 n 1) [])) ⟨rfl, rfl, rfl, trivial⟩ (rfl) (GA3_eq _ _ _ _ _ _ _ _),
    rfl,
    stt2_ok ⟨rfl, rfl, rfl, rfl, rfl, trivial⟩ rfl rfl,
    rfl,
    stt2_ok ⟨rfl, rfl, rfl, rfl, rfl, trivial⟩ rfl rfl,
    rfl,
    stt2_ok ⟨rfl, rfl, rfl, rfl, rfl, trivial⟩ rfl rfl,
    rfl,
    stt2_ok ⟨rfl, rfl, rfl, rfl, rfl, trivial⟩ rfl rfl,
    rfl,
    stt2_ok ⟨rfl, rfl, rfl, rfl, trivial⟩ rfl rfl,
    rfl,
    stt2_ok ⟨rfl, rfl, rfl, rfl, trivial⟩ rfl rfl,
    rfl,
    stt2_ok ⟨rfl, rfl, rfl, rfl, trivial⟩ rfl rfl,
    rfl,
    stt2_ok ⟨rfl, rfl, rfl, rfl, trivial⟩ rfl rfl,
    pKp_ok sn,
    pKp_ok sm, rfl⟩
def KFTU (n m : Nat) (x y : Nat → Nat × Nat) : List Blk := HB (bY n (zeF n x)) (bX m) (bX m) (bY n (zeF n x)) (.sl 9 0 n 1) (.sl 12 0 m 1) (.sl 15 0 m 1) (.sl 18 0 n 1) []
noncomputable def RFTU (n m : Nat) (x y : Nat → Nat × Nat) : Fns := ((((((((((((((((((FT.addG 39 GList).addGs 40 (byPl [5] GWtT (GWtG false))).addGs 41 (byPl [7] GRFw GRFwK)).addG 43 GKept).addGs 16 (byPl [9, 18] GFw GFwK)).addLoop 5 c44 (nearSel (nearC 9 n (zeF n x) (rF n x) (bW n x) (KFTU n m x y)) noLp noLp (nearC 18 n (zeF n x) (rF n x) (bW n x) (KFTU n m x y)))).addLoop 10 c45a (LA0 n (fun k => CC ((zeF n x) k)) (KFTU n m x y) (.sl 12 0 m 1) (.sl 15 0 m 1) (.sl 18 0 n 1))).addLoop 11 c45a (LA1 m (fun _ => CU) (HB (syW n fun _ => (0, oneW)) (bX m) (bX m) (bY n (zeF n x)) (.sl 9 0 n 1) (.sl 12 0 m 1) (.sl 15 0 m 1) (.sl 18 0 n 1) []) (.sl 9 0 n 1) (.sl 15 0 m 1) (.sl 18 0 n 1))).addLoop 12 c45a (LA2 m (fun _ => CU) (HB (syW n fun _ => (0, oneW)) (syW m fun _ => (4607182418800017408, oneW)) (bX m) (bY n (zeF n x)) (.sl 9 0 n 1) (.sl 12 0 m 1) (.sl 15 0 m 1) (.sl 18 0 n 1) []) (.sl 9 0 n 1) (.sl 12 0 m 1) (.sl 18 0 n 1))).addLoop 13 c45a (LA3 n (fun k => CC ((zeF n x) k)) (HB (syW n fun _ => (0, oneW)) (syW m fun _ => (4607182418800017408, oneW)) (syW m fun _ => (4611686018427387904, oneW)) (bY n (zeF n x)) (.sl 9 0 n 1) (.sl 12 0 m 1) (.sl 15 0 m 1) (.sl 18 0 n 1) []) (.sl 9 0 n 1) (.sl 12 0 m 1) (.sl 15 0 m 1))).addLoop 20 c45b (LB0 n (HFF0 n m))).addLoop 21 c45b (LB1 m (HFF1 n m))).addLoop 22 c45b (LB2 m (HFF2 n m))).addLoop 23 c45b (LB3 n (HFF3 n m))).addLoop 30 c45c (LC0 n (HFF4 n m) (.sl 12 0 m 1) (.sl 15 0 m 1) (.sl 18 0 n 1) (.sl 26 0 (m + 20) 1) (.sl 29 0 (m + 20) 1) (.sl 32 0 (n + 20) 1))).addLoop 31 c45c (LC1 m (HFF4 n m) (.sl 9 0 n 1) (.sl 15 0 m 1) (.sl 18 0 n 1) (.sl 23 0 (n + 20) 1) (.sl 29 0 (m + 20) 1) (.sl 32 0 (n + 20) 1))).addLoop 32 c45c (LC2 m (HFF4 n m) (.sl 9 0 n 1) (.sl 12 0 m 1) (.sl 18 0 n 1) (.sl 23 0 (n + 20) 1) (.sl 26 0 (m + 20) 1) (.sl 32 0 (n + 20) 1))).addLoop 33 c45c (LC3 n (HFF4 n m) (.sl 9 0 n 1) (.sl 12 0 m 1) (.sl 15 0 m 1) (.sl 23 0 (n + 20) 1) (.sl 26 0 (m + 20) 1) (.sl 29 0 (m + 20) 1))).withCo (coTwo [.u, .b false, .u, .b false, .u, .b false, .u, .b false, .u] [.u, .l 10, .u, .l 11, .u, .l 12, .u, .l 13, .u, .u, .l 20, .u, .l 21, .u, .l 22, .u, .l 23, .u, .u, .l 30, .u, .l 31, .u, .l 32, .u, .l 33, .u])
theorem runFTU (n m : Nat) (x y : Nat → Nat × Nat) (u : Value) : runK Tryd.prog T (RFTU n m x y) 900 Tryd.f11 [prL n x, prL m y] [deadB, deadB, deadB] [] (fun r _ => resW r = some u) =
  obsP ((pList n x) ::
   (pList m y) ::
   (pWtT n x) ::
   (pWtG false m y) ::
   (pFwT n x) ::
   (pFitL m y) ::
   (pTrF n x) ::
   (pNe n) ::
   (pTrU 1 m y) ::
   (pNe m) ::
   (pTrU 1 m y) ::
   (pNe m) ::
   (pTrF n x) ::
   (pNe n) ::
   (pKp n x) ::
   (pKp m y) ::
   (pB1 n x) ::
   (pB2 n x) ::
   (pNe n) ::
   (c44 = c44) ::
   (stt2 47 [.one (.sl 9 0 n 1), prL n (rF n x), AFl (bW n x), ic 0] ((l44 9 n (rF n x) (bW n x) 0).map (·.2)) (KFTU n m x y) (nearH 9 n (zeF n x) (KFTU n m x y))) ::
   (pB1 n x) ::
   (pB2 n x) ::
   (pNe n) ::
   (c44 = c44) ::
   (stt2 47 [.one (.sl 18 0 n 1), prL n (rF n x), AFl (bW n x), ic 0] ((l44 18 n (rF n x) (bW n x) 0).map (·.2)) (nearH 9 n (zeF n x) (KFTU n m x y)) (nearH 18 n (zeF n x) (KFTU n m x y))) ::
   (c45a = c45a) ::
   (stt2 131 [gotA, ic 0, ic 0] ((l45a 0 0).map (·.2)) (nearH 18 n (zeF n x) (KFTU n m x y)) (GA0 n (fun k => CC ((zeF n x) k)) (KFTU n m x y) (.sl 12 0 m 1) (.sl 15 0 m 1) (.sl 18 0 n 1))) ::
   (c45a = c45a) ::
   (stt2 131 [gotA, ic 1, ic 0] ((l45a 1 0).map (·.2)) (HB (syW n fun _ => (0, oneW)) (bX m) (bX m) (bY n (zeF n x)) (.sl 9 0 n 1) (.sl 12 0 m 1) (.sl 15 0 m 1) (.sl 18 0 n 1) []) (GA1 m (fun _ => CU) (HB (syW n fun _ => (0, oneW)) (bX m) (bX m) (bY n (zeF n x)) (.sl 9 0 n 1) (.sl 12 0 m 1) (.sl 15 0 m 1) (.sl 18 0 n 1) []) (.sl 9 0 n 1) (.sl 15 0 m 1) (.sl 18 0 n 1))) ::
   (c45a = c45a) ::
   (stt2 131 [gotA, ic 2, ic 0] ((l45a 2 0).map (·.2)) (HB (syW n fun _ => (0, oneW)) (syW m fun _ => (4607182418800017408, oneW)) (bX m) (bY n (zeF n x)) (.sl 9 0 n 1) (.sl 12 0 m 1) (.sl 15 0 m 1) (.sl 18 0 n 1) []) (GA2 m (fun _ => CU) (HB (syW n fun _ => (0, oneW)) (syW m fun _ => (4607182418800017408, oneW)) (bX m) (bY n (zeF n x)) (.sl 9 0 n 1) (.sl 12 0 m 1) (.sl 15 0 m 1) (.sl 18 0 n 1) []) (.sl 9 0 n 1) (.sl 12 0 m 1) (.sl 18 0 n 1))) ::
   (c45a = c45a) ::
   (stt2 131 [gotA, ic 3, ic 0] ((l45a 3 0).map (·.2)) (HB (syW n fun _ => (0, oneW)) (syW m fun _ => (4607182418800017408, oneW)) (syW m fun _ => (4611686018427387904, oneW)) (bY n (zeF n x)) (.sl 9 0 n 1) (.sl 12 0 m 1) (.sl 15 0 m 1) (.sl 18 0 n 1) []) (GA3 n (fun k => CC ((zeF n x) k)) (HB (syW n fun _ => (0, oneW)) (syW m fun _ => (4607182418800017408, oneW)) (syW m fun _ => (4611686018427387904, oneW)) (bY n (zeF n x)) (.sl 9 0 n 1) (.sl 12 0 m 1) (.sl 15 0 m 1) (.sl 18 0 n 1) []) (.sl 9 0 n 1) (.sl 12 0 m 1) (.sl 15 0 m 1))) ::
   (c45b = c45b) ::
   (stt2 131 [gotA, (.one nilC), ic 0, .one (.sl 9 0 n 1), ic 0] ((l45b (.one nilC) 0 9 n 0).map (·.2)) (HFF0 n m) (HFF0 n m)) ::
   (c45b = c45b) ::
   (stt2 131 [gotA, (.one (.sl 25 0 1 1)), ic 1, .one (.sl 12 0 m 1), ic 0] ((l45b (.one (.sl 25 0 1 1)) 1 12 m 0).map (·.2)) (HFF1 n m) (HFF1 n m)) ::
   (c45b = c45b) ::
   (stt2 131 [gotA, (.one (.sl 28 0 2 1)), ic 2, .one (.sl 15 0 m 1), ic 0] ((l45b (.one (.sl 28 0 2 1)) 2 15 m 0).map (·.2)) (HFF2 n m) (HFF2 n m)) ::
   (c45b = c45b) ::
   (stt2 131 [gotA, (.one (.sl 31 0 3 1)), ic 3, .one (.sl 18 0 n 1), ic 0] ((l45b (.one (.sl 31 0 3 1)) 3 18 n 0).map (·.2)) (HFF3 n m) (HFF3 n m)) ::
   (c45c = c45c) ::
   (stt2 131 [gotA, longA, ic 0, ic 0] ((l45c 0 0).map (·.2)) (HFF4 n m) (HFF4 n m)) ::
   (c45c = c45c) ::
   (stt2 131 [gotA, longA, ic 1, ic 0] ((l45c 1 0).map (·.2)) (HFF4 n m) (HFF4 n m)) ::
   (c45c = c45c) ::
   (stt2 131 [gotA, longA, ic 2, ic 0] ((l45c 2 0).map (·.2)) (HFF4 n m) (HFF4 n m)) ::
   (c45c = c45c) ::
   (stt2 131 [gotA, longA, ic 3, ic 0] ((l45c 3 0).map (·.2)) (HFF4 n m) (HFF4 n m)) ::
   (pKp n x) ::
   (pKp m y) :: []) (some (Value.bool true) = some u) := by kernel_rfl
theorem goFTU {n m : Nat} {x y : Nat → Nat × Nat} (sn : sizeOk n) (fn : fitB n = true) (tn : tmC x n = true) (kn : okTF n x) (sm : sizeOk m) (fm : fitB m = true) (tm : tmC y m = false) : goodF n m x y := by
  have hn := (fit_le fn).1
  obtain ⟨wn, mn, rn, bn, cn, on⟩ := kn
  have hm := (fit_le fm).1
  refine ⟨RFTU n m x y, ((((((((((((((((((FTok.addG gcon39).addGs (byPl_ok gcon40T (gcon40G false))).addGs (byPl_ok gcon41 gcon41K)).addG gcon43).addGs (byPl_ok gcon16 gcon16K)).addLoop 5 c44 _ (nearSel_ok (near9_ok hn on) noLp_ok noLp_ok (near18_ok hn on))).addLoop 10 c45a _ (LA0_ok hn)).addLoop 11 c45a _ (LA1_ok hm)).addLoop 12 c45a _ (LA2_ok hm)).addLoop 13 c45a _ (LA3_ok hn)).addLoop 20 c45b _ (LB0_ok hn (HFF0_e1 n m) (HFF0_e2 n m) (HFF0_ok n m))).addLoop 21 c45b _ (LB1_ok hm (HFF1_e1 n m) (HFF1_e2 n m) (HFF1_ok n m))).addLoop 22 c45b _ (LB2_ok hm (HFF2_e1 n m) (HFF2_e2 n m) (HFF2_ok n m))).addLoop 23 c45b _ (LB3_ok hn (HFF3_e1 n m) (HFF3_e2 n m) (HFF3_ok n m))).addLoop 30 c45c _ (LC0_ok hn)).addLoop 31 c45c _ (LC1_ok hm)).addLoop 32 c45c _ (LC2_ok hm)).addLoop 33 c45c _ (LC3_ok hn)).withCo _, ?_⟩
  rw [runFTU]
  exact ⟨pList_ok sn,
    pList_ok sm,
    pWtT_ok sn tn wn,
    pWtG_ok sm tm,
    pFwT_ok fn mn,
    pFitL_ok fm,
    pTrF_ok rn,
    pNe_ok n,
    pTrU_ok (.inl rfl) fm,
    pNe_ok m,
    pTrU_ok (.inl rfl) fm,
    pNe_ok m,
    pTrF_ok rn,
    pNe_ok n,
    pKp_ok sn,
    pKp_ok sm,
    bn,
    cn,
    pNe_ok n,
    rfl,
    stt2_ok (g := (KFTU n m x y)) ⟨rfl, rfl, rfl, rfl, trivial⟩ (rfl) (nearH9_eq _ _ _ _ _ _ _ _ _),
    bn,
    cn,
    pNe_ok n,
    rfl,
    stt2_ok (g := (KFTU n m x y)) ⟨rfl, rfl, rfl, rfl, trivial⟩ (nearH9_eq _ _ _ _ _ _ _ _ _) (nearH18_eq _ _ _ _ _ _ _ _ _),
    rfl,
    stt2_ok (g := (KFTU n m x y)) ⟨rfl, rfl, rfl, trivial⟩ (nearH18_eq _ _ _ _ _ _ _ _ _) (GA0_eq _ _ _ _ _ _ _ _),
    rfl,
    stt2_ok (g := (HB (syW n fun _ => (0, oneW)) (bX m) (bX m) (bY n (zeF n x)) (.sl 9 0 n 1) (.sl 12 0 m 1) (.sl 15 0 m 1) (.sl 18 0 n 1) [])) ⟨rfl, rfl, rfl, trivial⟩ (rfl) (GA1_eq _ _ _ _ _ _ _ _),
    rfl,
    stt2_ok (g := (HB (syW n fun _ => (0, oneW)) (syW m fun _ => (4607182418800017408, oneW)) (bX m) (bY n (zeF n x)) (.sl 9 0 n 1) (.sl 12 0 m 1) (.sl 15 0 m 1) (.sl 18 0 n 1) [])) ⟨rfl, rfl, rfl, trivial⟩ (rfl) (GA2_eq _ _ _ _ _ _ _ _),
    rfl,
    stt2_ok (g := (HB (syW n fun _ => (0, oneW)) (syW m fun _ => (4607182418800017408, oneW)) (syW m fun _ => (4611686018427387904, oneW)) (bY n (zeF n x)) (.sl 9 0 n 1) (.sl 12 0 m 1) (.sl 15 0 m 1) (.sl 18 0 n 1) [])) ⟨rfl, rfl, rfl, trivial⟩ (rfl) (GA3_eq _ _ _ _ _ _ _ _),
    rfl,
    stt2_ok ⟨rfl, rfl, rfl, rfl, rfl, trivial⟩ rfl rfl,
    rfl,
    stt2_ok ⟨rfl, rfl, rfl, rfl, rfl, trivial⟩ rfl rfl,
    rfl,
    stt2_ok ⟨rfl, rfl, rfl, rfl, rfl, trivial⟩ rfl rfl,
    rfl,
    stt2_ok ⟨rfl, rfl, rfl, rfl, rfl, trivial⟩ rfl rfl,
    rfl,
    stt2_ok ⟨rfl, rfl, rfl, rfl, trivial⟩ rfl rfl,
    rfl,
    stt2_ok ⟨rfl, rfl, rfl, rfl, trivial⟩ rfl rfl,
    rfl,
    stt2_ok ⟨rfl, rfl, rfl, rfl, trivial⟩ rfl rfl,
    rfl,
    stt2_ok ⟨rfl, rfl, rfl, rfl, trivial⟩ rfl rfl,
    pKp_ok sn,
    pKp_ok sm, rfl⟩
def KFTNt (n m : Nat) (x y : Nat → Nat × Nat) : List Blk := HB (bY n (zeF n x)) deadB deadB (bY n (zeF n x)) (.sl 9 0 n 1) nilC nilC (.sl 18 0 n 1) []
noncomputable def RFTNt (n m : Nat) (x y : Nat → Nat × Nat) : Fns := ((((((((((((((((FT.addG 39 GList).addGs 40 (byPl [5] GWtT (GWtG true))).addGs 41 (byPl [7] GRFw GRFwN)).addG 43 GKept).addGs 16 (byPl [9, 18] GFw GFwN)).addLoop 5 c44 (nearSel (nearC 9 n (zeF n x) (rF n x) (bW n x) (KFTNt n m x y)) noLp noLp (nearC 18 n (zeF n x) (rF n x) (bW n x) (KFTNt n m x y)))).addLoop 10 c45a (LA0 n (fun k => CC ((zeF n x) k)) (KFTNt n m x y) nilC nilC (.sl 18 0 n 1))).addLoop 13 c45a (LA3 n (fun k => CC ((zeF n x) k)) (HB (syW n fun _ => (0, oneW)) deadB deadB (bY n (zeF n x)) (.sl 9 0 n 1) nilC nilC (.sl 18 0 n 1) []) (.sl 9 0 n 1) nilC nilC)).addLoop 20 c45b (LB0 n (HFN0 n m))).addLoop 21 c45b (LN1 (HFN1 n m))).addLoop 22 c45b (LN2 (HFN2 n m))).addLoop 23 c45b (LB3 n (HFN3 n m))).addLoop 30 c45c (LC0 n (HFN4 n m) nilC nilC (.sl 18 0 n 1) (.sl 26 0 (0 + 20) 1) (.sl 29 0 (0 + 20) 1) (.sl 32 0 (n + 20) 1))).addLoop 31 c45c (LD1 (HFN4 n m) (.sl 9 0 n 1) nilC (.sl 18 0 n 1) (.sl 23 0 (n + 20) 1) (.sl 29 0 (0 + 20) 1) (.sl 32 0 (n + 20) 1))).addLoop 32 c45c (LD2 (HFN4 n m) (.sl 9 0 n 1) nilC (.sl 18 0 n 1) (.sl 23 0 (n + 20) 1) (.sl 26 0 (0 + 20) 1) (.sl 32 0 (n + 20) 1))).addLoop 33 c45c (LC3 n (HFN4 n m) (.sl 9 0 n 1) nilC nilC (.sl 23 0 (n + 20) 1) (.sl 26 0 (0 + 20) 1) (.sl 29 0 (0 + 20) 1))).withCo (coTwo [.u, .b false, .u, .u, .u, .b false, .u] [.u, .l 10, .u, .u, .u, .u, .u, .l 13, .u, .u, .l 20, .u, .l 21, .u, .l 22, .u, .l 23, .u, .u, .l 30, .u, .l 31, .u, .l 32, .u, .l 33, .u])
theorem runFTNt (n m : Nat) (x y : Nat → Nat × Nat) (u : Value) : runK Tryd.prog T (RFTNt n m x y) 900 Tryd.f11 [prL n x, prL m y] [deadB, deadB, deadB] [] (fun r _ => resW r = some u) =
  obsP ((pList n x) ::
   (pList m y) ::
   (pWtT n x) ::
   (pWtG true m y) ::
   (pFwT n x) ::
   (pNo m) ::
   (pTrF n x) ::
   (pNe n) ::
   (pNo m) ::
   (pNo m) ::
   (pTrF n x) ::
   (pNe n) ::
   (pKp n x) ::
   (pKp m y) ::
   (pB1 n x) ::
   (pB2 n x) ::
   (pNe n) ::
   (c44 = c44) ::
   (stt2 47 [.one (.sl 9 0 n 1), prL n (rF n x), AFl (bW n x), ic 0] ((l44 9 n (rF n x) (bW n x) 0).map (·.2)) (KFTNt n m x y) (nearH 9 n (zeF n x) (KFTNt n m x y))) ::
   (pB1 n x) ::
   (pB2 n x) ::
   (pNe n) ::
   (c44 = c44) ::
   (stt2 47 [.one (.sl 18 0 n 1), prL n (rF n x), AFl (bW n x), ic 0] ((l44 18 n (rF n x) (bW n x) 0).map (·.2)) (nearH 9 n (zeF n x) (KFTNt n m x y)) (nearH 18 n (zeF n x) (KFTNt n m x y))) ::
   (c45a = c45a) ::
   (stt2 131 [gotA, ic 0, ic 0] ((l45a 0 0).map (·.2)) (nearH 18 n (zeF n x) (KFTNt n m x y)) (GA0 n (fun k => CC ((zeF n x) k)) (KFTNt n m x y) nilC nilC (.sl 18 0 n 1))) ::
   (c45a = c45a) ::
   (stt2 131 [gotA, ic 3, ic 0] ((l45a 3 0).map (·.2)) (HB (syW n fun _ => (0, oneW)) deadB deadB (bY n (zeF n x)) (.sl 9 0 n 1) nilC nilC (.sl 18 0 n 1) []) (GA3 n (fun k => CC ((zeF n x) k)) (HB (syW n fun _ => (0, oneW)) deadB deadB (bY n (zeF n x)) (.sl 9 0 n 1) nilC nilC (.sl 18 0 n 1) []) (.sl 9 0 n 1) nilC nilC)) ::
   (c45b = c45b) ::
   (stt2 131 [gotA, (.one nilC), ic 0, .one (.sl 9 0 n 1), ic 0] ((l45b (.one nilC) 0 9 n 0).map (·.2)) (HFN0 n m) (HFN0 n m)) ::
   (c45b = c45b) ::
   (stt2 131 [gotA, (.one (.sl 25 0 1 1)), ic 1, .one nilC, ic 0] ((l45n (.one (.sl 25 0 1 1)) 1 0).map (·.2)) (HFN1 n m) (HFN1 n m)) ::
   (c45b = c45b) ::
   (stt2 131 [gotA, (.one (.sl 28 0 2 1)), ic 2, .one nilC, ic 0] ((l45n (.one (.sl 28 0 2 1)) 2 0).map (·.2)) (HFN2 n m) (HFN2 n m)) ::
   (c45b = c45b) ::
   (stt2 131 [gotA, (.one (.sl 31 0 3 1)), ic 3, .one (.sl 18 0 n 1), ic 0] ((l45b (.one (.sl 31 0 3 1)) 3 18 n 0).map (·.2)) (HFN3 n m) (HFN3 n m)) ::
   (c45c = c45c) ::
   (stt2 131 [gotA, longA, ic 0, ic 0] ((l45c 0 0).map (·.2)) (HFN4 n m) (HFN4 n m)) ::
   (c45c = c45c) ::
   (stt2 131 [gotA, longA, ic 1, ic 0] ((l45c 1 0).map (·.2)) (HFN4 n m) (HFN4 n m)) ::
   (c45c = c45c) ::
   (stt2 131 [gotA, longA, ic 2, ic 0] ((l45c 2 0).map (·.2)) (HFN4 n m) (HFN4 n m)) ::
   (c45c = c45c) ::
   (stt2 131 [gotA, longA, ic 3, ic 0] ((l45c 3 0).map (·.2)) (HFN4 n m) (HFN4 n m)) ::
   (pKp n x) ::
   (pKp m y) :: []) (some (Value.bool true) = some u) := by kernel_rfl
theorem goFTNt {n m : Nat} {x y : Nat → Nat × Nat} (sn : sizeOk n) (fn : fitB n = true) (tn : tmC x n = true) (kn : okTF n x) (sm : sizeOk m) (fm : fitB m = false) (tm : tmC y m = true) : goodF n m x y := by
  have hn := (fit_le fn).1
  obtain ⟨wn, mn, rn, bn, cn, on⟩ := kn
  refine ⟨RFTNt n m x y, ((((((((((((((((FTok.addG gcon39).addGs (byPl_ok gcon40T (gcon40G true))).addGs (byPl_ok gcon41 gcon41n)).addG gcon43).addGs (byPl_ok gcon16 gcon16n)).addLoop 5 c44 _ (nearSel_ok (near9_ok hn on) noLp_ok noLp_ok (near18_ok hn on))).addLoop 10 c45a _ (LA0_ok hn)).addLoop 13 c45a _ (LA3_ok hn)).addLoop 20 c45b _ (LB0_ok hn (HFN0_e1 n m) (HFN0_e2 n m) (HFN0_ok n m))).addLoop 21 c45b _ (LN1_ok (HFN1_e2 n m) (HFN1_ok n m))).addLoop 22 c45b _ (LN2_ok (HFN2_e2 n m) (HFN2_ok n m))).addLoop 23 c45b _ (LB3_ok hn (HFN3_e1 n m) (HFN3_e2 n m) (HFN3_ok n m))).addLoop 30 c45c _ (LC0_ok hn)).addLoop 31 c45c _ LD1_ok).addLoop 32 c45c _ LD2_ok).addLoop 33 c45c _ (LC3_ok hn)).withCo _, ?_⟩
  rw [runFTNt]
  exact ⟨pList_ok sn,
    pList_ok sm,
    pWtT_ok sn tn wn,
    pWtG_ok sm tm,
    pFwT_ok fn mn,
    pNo_ok fm,
    pTrF_ok rn,
    pNe_ok n,
    pNo_ok fm,
    pNo_ok fm,
    pTrF_ok rn,
    pNe_ok n,
    pKp_ok sn,
    pKp_ok sm,
    bn,
    cn,
    pNe_ok n,
    rfl,
    stt2_ok (g := (KFTNt n m x y)) ⟨rfl, rfl, rfl, rfl, trivial⟩ (rfl) (nearH9_eq _ _ _ _ _ _ _ _ _),
    bn,
    cn,
    pNe_ok n,
    rfl,
    stt2_ok (g := (KFTNt n m x y)) ⟨rfl, rfl, rfl, rfl, trivial⟩ (nearH9_eq _ _ _ _ _ _ _ _ _) (nearH18_eq _ _ _ _ _ _ _ _ _),
    rfl,
    stt2_ok (g := (KFTNt n m x y)) ⟨rfl, rfl, rfl, trivial⟩ (nearH18_eq _ _ _ _ _ _ _ _ _) (GA0_eq _ _ _ _ _ _ _ _),
    rfl,
    stt2_ok (g := (HB (syW n fun _ => (0, oneW)) deadB deadB (bY n (zeF n x)) (.sl 9 0 n 1) nilC nilC (.sl 18 0 n 1) [])) ⟨rfl, rfl, rfl, trivial⟩ (rfl) (GA3_eq _ _ _ _ _ _ _ _),
    rfl,
    stt2_ok ⟨rfl, rfl, rfl, rfl, rfl, trivial⟩ rfl rfl,
    rfl,
    stt2_ok ⟨rfl, rfl, rfl, rfl, rfl, trivial⟩ rfl rfl,
    rfl,
    stt2_ok ⟨rfl, rfl, rfl, rfl, rfl, trivial⟩ rfl rfl,
    rfl,
    stt2_ok ⟨rfl, rfl, rfl, rfl, rfl, trivial⟩ rfl rfl,
    rfl,
    stt2_ok ⟨rfl, rfl, rfl, rfl, trivial⟩ rfl rfl,
    rfl,
    stt2_ok ⟨rfl, rfl, rfl, rfl, trivial⟩ rfl rfl,
    rfl,
    stt2_ok ⟨rfl, rfl, rfl, rfl, trivial⟩ rfl rfl,
    rfl,
    stt2_ok ⟨rfl, rfl, rfl, rfl, trivial⟩ rfl rfl,
    pKp_ok sn,
    pKp_ok sm, rfl⟩
def KFTNu (n m : Nat) (x y : Nat → Nat × Nat) : List Blk := HB (bY n (zeF n x)) deadB deadB (bY n (zeF n x)) (.sl 9 0 n 1) nilC nilC (.sl 18 0 n 1) []
noncomputable def RFTNu (n m : Nat) (x y : Nat → Nat × Nat) : Fns := ((((((((((((((((FT.addG 39 GList).addGs 40 (byPl [5] GWtT (GWtG false))).addGs 41 (byPl [7] GRFw GRFwN)).addG 43 GKept).addGs 16 (byPl [9, 18] GFw GFwN)).addLoop 5 c44 (nearSel (nearC 9 n (zeF n x) (rF n x) (bW n x) (KFTNu n m x y)) noLp noLp (nearC 18 n (zeF n x) (rF n x) (bW n x) (KFTNu n m x y)))).addLoop 10 c45a (LA0 n (fun k => CC ((zeF n x) k)) (KFTNu n m x y) nilC nilC (.sl 18 0 n 1))).addLoop 13 c45a (LA3 n (fun k => CC ((zeF n x) k)) (HB (syW n fun _ => (0, oneW)) deadB deadB (bY n (zeF n x)) (.sl 9 0 n 1) nilC nilC (.sl 18 0 n 1) []) (.sl 9 0 n 1) nilC nilC)).addLoop 20 c45b (LB0 n (HFN0 n m))).addLoop 21 c45b (LN1 (HFN1 n m))).addLoop 22 c45b (LN2 (HFN2 n m))).addLoop 23 c45b (LB3 n (HFN3 n m))).addLoop 30 c45c (LC0 n (HFN4 n m) nilC nilC (.sl 18 0 n 1) (.sl 26 0 (0 + 20) 1) (.sl 29 0 (0 + 20) 1) (.sl 32 0 (n + 20) 1))).addLoop 31 c45c (LD1 (HFN4 n m) (.sl 9 0 n 1) nilC (.sl 18 0 n 1) (.sl 23 0 (n + 20) 1) (.sl 29 0 (0 + 20) 1) (.sl 32 0 (n + 20) 1))).addLoop 32 c45c (LD2 (HFN4 n m) (.sl 9 0 n 1) nilC (.sl 18 0 n 1) (.sl 23 0 (n + 20) 1) (.sl 26 0 (0 + 20) 1) (.sl 32 0 (n + 20) 1))).addLoop 33 c45c (LC3 n (HFN4 n m) (.sl 9 0 n 1) nilC nilC (.sl 23 0 (n + 20) 1) (.sl 26 0 (0 + 20) 1) (.sl 29 0 (0 + 20) 1))).withCo (coTwo [.u, .b false, .u, .u, .u, .b false, .u] [.u, .l 10, .u, .u, .u, .u, .u, .l 13, .u, .u, .l 20, .u, .l 21, .u, .l 22, .u, .l 23, .u, .u, .l 30, .u, .l 31, .u, .l 32, .u, .l 33, .u])
theorem runFTNu (n m : Nat) (x y : Nat → Nat × Nat) (u : Value) : runK Tryd.prog T (RFTNu n m x y) 900 Tryd.f11 [prL n x, prL m y] [deadB, deadB, deadB] [] (fun r _ => resW r = some u) =
  obsP ((pList n x) ::
   (pList m y) ::
   (pWtT n x) ::
   (pWtG false m y) ::
   (pFwT n x) ::
   (pNo m) ::
   (pTrF n x) ::
   (pNe n) ::
   (pNo m) ::
   (pNo m) ::
   (pTrF n x) ::
   (pNe n) ::
   (pKp n x) ::
   (pKp m y) ::
   (pB1 n x) ::
   (pB2 n x) ::
   (pNe n) ::
   (c44 = c44) ::
   (stt2 47 [.one (.sl 9 0 n 1), prL n (rF n x), AFl (bW n x), ic 0] ((l44 9 n (rF n x) (bW n x) 0).map (·.2)) (KFTNu n m x y) (nearH 9 n (zeF n x) (KFTNu n m x y))) ::
   (pB1 n x) ::
   (pB2 n x) ::
   (pNe n) ::
   (c44 = c44) ::
   (stt2 47 [.one (.sl 18 0 n 1), prL n (rF n x), AFl (bW n x), ic 0] ((l44 18 n (rF n x) (bW n x) 0).map (·.2)) (nearH 9 n (zeF n x) (KFTNu n m x y)) (nearH 18 n (zeF n x) (KFTNu n m x y))) ::
   (c45a = c45a) ::
   (stt2 131 [gotA, ic 0, ic 0] ((l45a 0 0).map (·.2)) (nearH 18 n (zeF n x) (KFTNu n m x y)) (GA0 n (fun k => CC ((zeF n x) k)) (KFTNu n m x y) nilC nilC (.sl 18 0 n 1))) ::
   (c45a = c45a) ::
   (stt2 131 [gotA, ic 3, ic 0] ((l45a 3 0).map (·.2)) (HB (syW n fun _ => (0, oneW)) deadB deadB (bY n (zeF n x)) (.sl 9 0 n 1) nilC nilC (.sl 18 0 n 1) []) (GA3 n (fun k => CC ((zeF n x) k)) (HB (syW n fun _ => (0, oneW)) deadB deadB (bY n (zeF n x)) (.sl 9 0 n 1) nilC nilC (.sl 18 0 n 1) []) (.sl 9 0 n 1) nilC nilC)) ::
   (c45b = c45b) ::
   (stt2 131 [gotA, (.one nilC), ic 0, .one (.sl 9 0 n 1), ic 0] ((l45b (.one nilC) 0 9 n 0).map (·.2)) (HFN0 n m) (HFN0 n m)) ::
   (c45b = c45b) ::
   (stt2 131 [gotA, (.one (.sl 25 0 1 1)), ic 1, .one nilC, ic 0] ((l45n (.one (.sl 25 0 1 1)) 1 0).map (·.2)) (HFN1 n m) (HFN1 n m)) ::
   (c45b = c45b) ::
   (stt2 131 [gotA, (.one (.sl 28 0 2 1)), ic 2, .one nilC, ic 0] ((l45n (.one (.sl 28 0 2 1)) 2 0).map (·.2)) (HFN2 n m) (HFN2 n m)) ::
   (c45b = c45b) ::
   (stt2 131 [gotA, (.one (.sl 31 0 3 1)), ic 3, .one (.sl 18 0 n 1), ic 0] ((l45b (.one (.sl 31 0 3 1)) 3 18 n 0).map (·.2)) (HFN3 n m) (HFN3 n m)) ::
   (c45c = c45c) ::
   (stt2 131 [gotA, longA, ic 0, ic 0] ((l45c 0 0).map (·.2)) (HFN4 n m) (HFN4 n m)) ::
   (c45c = c45c) ::
   (stt2 131 [gotA, longA, ic 1, ic 0] ((l45c 1 0).map (·.2)) (HFN4 n m) (HFN4 n m)) ::
   (c45c = c45c) ::
   (stt2 131 [gotA, longA, ic 2, ic 0] ((l45c 2 0).map (·.2)) (HFN4 n m) (HFN4 n m)) ::
   (c45c = c45c) ::
   (stt2 131 [gotA, longA, ic 3, ic 0] ((l45c 3 0).map (·.2)) (HFN4 n m) (HFN4 n m)) ::
   (pKp n x) ::
   (pKp m y) :: []) (some (Value.bool true) = some u) := by kernel_rfl
theorem goFTNu {n m : Nat} {x y : Nat → Nat × Nat} (sn : sizeOk n) (fn : fitB n = true) (tn : tmC x n = true) (kn : okTF n x) (sm : sizeOk m) (fm : fitB m = false) (tm : tmC y m = false) : goodF n m x y := by
  have hn := (fit_le fn).1
  obtain ⟨wn, mn, rn, bn, cn, on⟩ := kn
  refine ⟨RFTNu n m x y, ((((((((((((((((FTok.addG gcon39).addGs (byPl_ok gcon40T (gcon40G false))).addGs (byPl_ok gcon41 gcon41n)).addG gcon43).addGs (byPl_ok gcon16 gcon16n)).addLoop 5 c44 _ (nearSel_ok (near9_ok hn on) noLp_ok noLp_ok (near18_ok hn on))).addLoop 10 c45a _ (LA0_ok hn)).addLoop 13 c45a _ (LA3_ok hn)).addLoop 20 c45b _ (LB0_ok hn (HFN0_e1 n m) (HFN0_e2 n m) (HFN0_ok n m))).addLoop 21 c45b _ (LN1_ok (HFN1_e2 n m) (HFN1_ok n m))).addLoop 22 c45b _ (LN2_ok (HFN2_e2 n m) (HFN2_ok n m))).addLoop 23 c45b _ (LB3_ok hn (HFN3_e1 n m) (HFN3_e2 n m) (HFN3_ok n m))).addLoop 30 c45c _ (LC0_ok hn)).addLoop 31 c45c _ LD1_ok).addLoop 32 c45c _ LD2_ok).addLoop 33 c45c _ (LC3_ok hn)).withCo _, ?_⟩
  rw [runFTNu]
  exact ⟨pList_ok sn,
    pList_ok sm,
    pWtT_ok sn tn wn,
    pWtG_ok sm tm,
    pFwT_ok fn mn,
    pNo_ok fm,
    pTrF_ok rn,
    pNe_ok n,
    pNo_ok fm,
    pNo_ok fm,
    pTrF_ok rn,
    pNe_ok n,
    pKp_ok sn,
    pKp_ok sm,
    bn,
    cn,
    pNe_ok n,
    rfl,
    stt2_ok (g := (KFTNu n m x y)) ⟨rfl, rfl, rfl, rfl, trivial⟩ (rfl) (nearH9_eq _ _ _ _ _ _ _ _ _),
    bn,
    cn,
    pNe_ok n,
    rfl,
    stt2_ok (g := (KFTNu n m x y)) ⟨rfl, rfl, rfl, rfl, trivial⟩ (nearH9_eq _ _ _ _ _ _ _ _ _) (nearH18_eq _ _ _ _ _ _ _ _ _),
    rfl,
    stt2_ok (g := (KFTNu n m x y)) ⟨rfl, rfl, rfl, trivial⟩ (nearH18_eq _ _ _ _ _ _ _ _ _) (GA0_eq _ _ _ _ _ _ _ _),
    rfl,
    stt2_ok (g := (HB (syW n fun _ => (0, oneW)) deadB deadB (bY n (zeF n x)) (.sl 9 0 n 1) nilC nilC (.sl 18 0 n 1) [])) ⟨rfl, rfl, rfl, trivial⟩ (rfl) (GA3_eq _ _ _ _ _ _ _ _),
    rfl,
    stt2_ok ⟨rfl, rfl, rfl, rfl, rfl, trivial⟩ rfl rfl,
    rfl,
    stt2_ok ⟨rfl, rfl, rfl, rfl, rfl, trivial⟩ rfl rfl,
    rfl,
    stt2_ok ⟨rfl, rfl, rfl, rfl, rfl, trivial⟩ rfl rfl,
    rfl,
    stt2_ok ⟨rfl, rfl, rfl, rfl, rfl, trivial⟩ rfl rfl,
    rfl,
    stt2_ok ⟨rfl, rfl, rfl, rfl, trivial⟩ rfl rfl,
    rfl,
    stt2_ok ⟨rfl, rfl, rfl, rfl, trivial⟩ rfl rfl,
    rfl,
    stt2_ok ⟨rfl, rfl, rfl, rfl, trivial⟩ rfl rfl,
    rfl,
    stt2_ok ⟨rfl, rfl, rfl, rfl, trivial⟩ rfl rfl,
    pKp_ok sn,
    pKp_ok sm, rfl⟩
def KFUT (n m : Nat) (x y : Nat → Nat × Nat) : List Blk := HB (bX n) (bY m (zeF m y)) (bY m (zeF m y)) (bX n) (.sl 9 0 n 1) (.sl 12 0 m 1) (.sl 15 0 m 1) (.sl 18 0 n 1) []
noncomputable def RFUT (n m : Nat) (x y : Nat → Nat × Nat) : Fns := ((((((((((((((((((FT.addG 39 GList).addGs 40 (byPl [5] (GWtG false) GWtT)).addGs 41 (byPl [7] GRFwK GRFw)).addG 43 GKept).addGs 16 (byPl [9, 18] GFwK GFw)).addLoop 5 c44 (nearSel noLp (nearC 12 m (zeF m y) (rF m y) (bW m y) (KFUT n m x y)) (nearC 15 m (zeF m y) (rF m y) (bW m y) (KFUT n m x y)) noLp)).addLoop 10 c45a (LA0 n (fun _ => CU) (KFUT n m x y) (.sl 12 0 m 1) (.sl 15 0 m 1) (.sl 18 0 n 1))).addLoop 11 c45a (LA1 m (fun k => CC ((zeF m y) k)) (HB (syW n fun _ => (0, oneW)) (bY m (zeF m y)) (bY m (zeF m y)) (bX n) (.sl 9 0 n 1) (.sl 12 0 m 1) (.sl 15 0 m 1) (.sl 18 0 n 1) []) (.sl 9 0 n 1) (.sl 15 0 m 1) (.sl 18 0 n 1))).addLoop 12 c45a (LA2 m (fun k => CC ((zeF m y) k)) (HB (syW n fun _ => (0, oneW)) (syW m fun _ => (4607182418800017408, oneW)) (bY m (zeF m y)) (bX n) (.sl 9 0 n 1) (.sl 12 0 m 1) (.sl 15 0 m 1) (.sl 18 0 n 1) []) (.sl 9 0 n 1) (.sl 12 0 m 1) (.sl 18 0 n 1))).addLoop 13 c45a (LA3 n (fun _ => CU) (HB (syW n fun _ => (0, oneW)) (syW m fun _ => (4607182418800017408, oneW)) (syW m fun _ => (4611686018427387904, oneW)) (bX n) (.sl 9 0 n 1) (.sl 12 0 m 1) (.sl 15 0 m 1) (.sl 18 0 n 1) []) (.sl 9 0 n 1) (.sl 12 0 m 1) (.sl 15 0 m 1))).addLoop 20 c45b (LB0 n (HFF0 n m))).addLoop 21 c45b (LB1 m (HFF1 n m))).addLoop 22 c45b (LB2 m (HFF2 n m))).addLoop 23 c45b (LB3 n (HFF3 n m))).addLoop 30 c45c (LC0 n (HFF4 n m) (.sl 12 0 m 1) (.sl 15 0 m 1) (.sl 18 0 n 1) (.sl 26 0 (m + 20) 1) (.sl 29 0 (m + 20) 1) (.sl 32 0 (n + 20) 1))).addLoop 31 c45c (LC1 m (HFF4 n m) (.sl 9 0 n 1) (.sl 15 0 m 1) (.sl 18 0 n 1) (.sl 23 0 (n + 20) 1) (.sl 29 0 (m + 20) 1) (.sl 32 0 (n + 20) 1))).addLoop 32 c45c (LC2 m (HFF4 n m) (.sl 9 0 n 1) (.sl 12 0 m 1) (.sl 18 0 n 1) (.sl 23 0 (n + 20) 1) (.sl 26 0 (m + 20) 1) (.sl 32 0 (n + 20) 1))).addLoop 33 c45c (LC3 n (HFF4 n m) (.sl 9 0 n 1) (.sl 12 0 m 1) (.sl 15 0 m 1) (.sl 23 0 (n + 20) 1) (.sl 26 0 (m + 20) 1) (.sl 29 0 (m + 20) 1))).withCo (coTwo [.u, .b false, .u, .b false, .u, .b false, .u, .b false, .u] [.u, .l 10, .u, .l 11, .u, .l 12, .u, .l 13, .u, .u, .l 20, .u, .l 21, .u, .l 22, .u, .l 23, .u, .u, .l 30, .u, .l 31, .u, .l 32, .u, .l 33, .u])
theorem runFUT (n m : Nat) (x y : Nat → Nat × Nat) (u : Value) : runK Tryd.prog T (RFUT n m x y) 900 Tryd.f11 [prL n x, prL m y] [deadB, deadB, deadB] [] (fun r _ => resW r = some u) =
  obsP ((pList n x) ::
   (pList m y) ::
   (pWtG false n x) ::
   (pWtT m y) ::
   (pFitL n x) ::
   (pFwT m y) ::
   (pTrU 1 n x) ::
   (pNe n) ::
   (pTrF m y) ::
   (pNe m) ::
   (pTrF m y) ::
   (pNe m) ::
   (pTrU 1 n x) ::
   (pNe n) ::
   (pKp n x) ::
   (pKp m y) ::
   (pB1 m y) ::
   (pB2 m y) ::
   (pNe m) ::
   (c44 = c44) ::
   (stt2 47 [.one (.sl 12 0 m 1), prL m (rF m y), AFl (bW m y), ic 0] ((l44 12 m (rF m y) (bW m y) 0).map (·.2)) (KFUT n m x y) (nearH 12 m (zeF m y) (KFUT n m x y))) ::
   (pB1 m y) ::
   (pB2 m y) ::
   (pNe m) ::
   (c44 = c44) ::
   (stt2 47 [.one (.sl 15 0 m 1), prL m (rF m y), AFl (bW m y), ic 0] ((l44 15 m (rF m y) (bW m y) 0).map (·.2)) (nearH 12 m (zeF m y) (KFUT n m x y)) (nearH 15 m (zeF m y) (KFUT n m x y))) ::
   (c45a = c45a) ::
   (stt2 131 [gotA, ic 0, ic 0] ((l45a 0 0).map (·.2)) (nearH 15 m (zeF m y) (KFUT n m x y)) (GA0 n (fun _ => CU) (KFUT n m x y) (.sl 12 0 m 1) (.sl 15 0 m 1) (.sl 18 0 n 1))) ::
   (c45a = c45a) ::
   (stt2 131 [gotA, ic 1, ic 0] ((l45a 1 0).map (·.2)) (HB (syW n fun _ => (0, oneW)) (bY m (zeF m y)) (bY m (zeF m y)) (bX n) (.sl 9 0 n 1) (.sl 12 0 m 1) (.sl 15 0 m 1) (.sl 18 0 n 1) []) (GA1 m (fun k => CC ((zeF m y) k)) (HB (syW n fun _ => (0, oneW)) (bY m (zeF m y)) (bY m (zeF m y)) (bX n) (.sl 9 0 n 1) (.sl 12 0 m 1) (.sl 15 0 m 1) (.sl 18 0 n 1) []) (.sl 9 0 n 1) (.sl 15 0 m 1) (.sl 18 0 n 1))) ::
   (c45a = c45a) ::
   (stt2 131 [gotA, ic 2, ic 0] ((l45a 2 0).map (·.2)) (HB (syW n fun _ => (0, oneW)) (syW m fun _ => (4607182418800017408, oneW)) (bY m (zeF m y)) (bX n) (.sl 9 0 n 1) (.sl 12 0 m 1) (.sl 15 0 m 1) (.sl 18 0 n 1) []) (GA2 m (fun k => CC ((zeF m y) k)) (HB (syW n fun _ => (0, oneW)) (syW m fun _ => (4607182418800017408, oneW)) (bY m (zeF m y)) (bX n) (.sl 9 0 n 1) (.sl 12 0 m 1) (.sl 15 0 m 1) (.sl 18 0 n 1) []) (.sl 9 0 n 1) (.sl 12 0 m 1) (.sl 18 0 n 1))) ::
   (c45a = c45a) ::
   (stt2 131 [gotA, ic 3, ic 0] ((l45a 3 0).map (·.2)) (HB (syW n fun _ => (0, oneW)) (syW m fun _ => (4607182418800017408, oneW)) (syW m fun _ => (4611686018427387904, oneW)) (bX n) (.sl 9 0 n 1) (.sl 12 0 m 1) (.sl 15 0 m 1) (.sl 18 0 n 1) []) (GA3 n (fun _ => CU) (HB (syW n fun _ => (0, oneW)) (syW m fun _ => (4607182418800017408, oneW)) (syW m fun _ => (4611686018427387904, oneW)) (bX n) (.sl 9 0 n 1) (.sl 12 0 m 1) (.sl 15 0 m 1) (.sl 18 0 n 1) []) (.sl 9 0 n 1) (.sl 12 0 m 1) (.sl 15 0 m 1))) ::
   (c45b = c45b) ::
   (stt2 131 [gotA, (.one nilC), ic 0, .one (.sl 9 0 n 1), ic 0] ((l45b (.one nilC) 0 9 n 0).map (·.2)) (HFF0 n m) (HFF0 n m)) ::
   (c45b = c45b) ::
   (stt2 131 [gotA, (.one (.sl 25 0 1 1)), ic 1, .one (.sl 12 0 m 1), ic 0] ((l45b (.one (.sl 25 0 1 1)) 1 12 m 0).map (·.2)) (HFF1 n m) (HFF1 n m)) ::
   (c45b = c45b) ::
   (stt2 131 [gotA, (.one (.sl 28 0 2 1)), ic 2, .one (.sl 15 0 m 1), ic 0] ((l45b (.one (.sl 28 0 2 1)) 2 15 m 0).map (·.2)) (HFF2 n m) (HFF2 n m)) ::
   (c45b = c45b) ::
   (stt2 131 [gotA, (.one (.sl 31 0 3 1)), ic 3, .one (.sl 18 0 n 1), ic 0] ((l45b (.one (.sl 31 0 3 1)) 3 18 n 0).map (·.2)) (HFF3 n m) (HFF3 n m)) ::
   (c45c = c45c) ::
   (stt2 131 [gotA, longA, ic 0, ic 0] ((l45c 0 0).map (·.2)) (HFF4 n m) (HFF4 n m)) ::
   (c45c = c45c) ::
   (stt2 131 [gotA, longA, ic 1, ic 0] ((l45c 1 0).map (·.2)) (HFF4 n m) (HFF4 n m)) ::
   (c45c = c45c) ::
   (stt2 131 [gotA, longA, ic 2, ic 0] ((l45c 2 0).map (·.2)) (HFF4 n m) (HFF4 n m)) ::
   (c45c = c45c) ::
   (stt2 131 [gotA, longA, ic 3, ic 0] ((l45c 3 0).map (·.2)) (HFF4 n m) (HFF4 n m)) ::
   (pKp n x) ::
   (pKp m y) :: []) (some (Value.bool true) = some u) := by kernel_rfl
theorem goFUT {n m : Nat} {x y : Nat → Nat × Nat} (sn : sizeOk n) (fn : fitB n = true) (tn : tmC x n = false) (sm : sizeOk m) (fm : fitB m = true) (tm : tmC y m = true) (km : okTF m y) : goodF n m x y := by
  have hn := (fit_le fn).1
  have hm := (fit_le fm).1
  obtain ⟨wm, mm, rm, bm, cm, om⟩ := km
  refine ⟨RFUT n m x y, ((((((((((((((((((FTok.addG gcon39).addGs (byPl_ok (gcon40G false) gcon40T)).addGs (byPl_ok gcon41K gcon41)).addG gcon43).addGs (byPl_ok gcon16K gcon16)).addLoop 5 c44 _ (nearSel_ok noLp_ok (near12_ok hm om) (near15_ok hm om) noLp_ok)).addLoop 10 c45a _ (LA0_ok hn)).addLoop 11 c45a _ (LA1_ok hm)).addLoop 12 c45a _ (LA2_ok hm)).addLoop 13 c45a _ (LA3_ok hn)).addLoop 20 c45b _ (LB0_ok hn (HFF0_e1 n m) (HFF0_e2 n m) (HFF0_ok n m))).addLoop 21 c45b _ (LB1_ok hm (HFF1_e1 n m) (HFF1_e2 n m) (HFF1_ok n m))).addLoop 22 c45b _ (LB2_ok hm (HFF2_e1 n m) (HFF2_e2 n m) (HFF2_ok n m))).addLoop 23 c45b _ (LB3_ok hn (HFF3_e1 n m) (HFF3_e2 n m) (HFF3_ok n m))).addLoop 30 c45c _ (LC0_ok hn)).addLoop 31 c45c _ (LC1_ok hm)).addLoop 32 c45c _ (LC2_ok hm)).addLoop 33 c45c _ (LC3_ok hn)).withCo _, ?_⟩
  rw [runFUT]
  exact ⟨pList_ok sn,
    pList_ok sm,
    pWtG_ok sn tn,
    pWtT_ok sm tm wm,
    pFitL_ok fn,
    pFwT_ok fm mm,
    pTrU_ok (.inl rfl) fn,
    pNe_ok n,
    pTrF_ok rm,
    pNe_ok m,
    pTrF_ok rm,
    pNe_ok m,
    pTrU_ok (.inl rfl) fn,
    pNe_ok n,
    pKp_ok sn,
    pKp_ok sm,
    bm,
    cm,
    pNe_ok m,
    rfl,
    stt2_ok (g := (KFUT n m x y)) ⟨rfl, rfl, rfl, rfl, trivial⟩ (rfl) (nearH12_eq _ _ _ _ _ _ _ _ _),
    bm,
    cm,
    pNe_ok m,
    rfl,
    stt2_ok (g := (KFUT n m x y)) ⟨rfl, rfl, rfl, rfl, trivial⟩ (nearH12_eq _ _ _ _ _ _ _ _ _) (nearH15_eq _ _ _ _ _ _ _ _ _),
    rfl,
    stt2_ok (g := (KFUT n m x y)) ⟨rfl, rfl, rfl, trivial⟩ (nearH15_eq _ _ _ _ _ _ _ _ _) (GA0_eq _ _ _ _ _ _ _ _),
    rfl,
    stt2_ok (g := (HB (syW n fun _ => (0, oneW)) (bY m (zeF m y)) (bY m (zeF m y)) (bX n) (.sl 9 0 n 1) (.sl 12 0 m 1) (.sl 15 0 m 1) (.sl 18 0 n 1) [])) ⟨rfl, rfl, rfl, trivial⟩ (rfl) (GA1_eq _ _ _ _ _ _ _ _),
    rfl,
    stt2_ok (g := (HB (syW n fun _ => (0, oneW)) (syW m fun _ => (4607182418800017408, oneW)) (bY m (zeF m y)) (bX n) (.sl 9 0 n 1) (.sl 12 0 m 1) (.sl 15 0 m 1) (.sl 18 0 n 1) [])) ⟨rfl, rfl, rfl, trivial⟩ (rfl) (GA2_eq _ _ _ _ _ _ _ _),
    rfl,
    stt2_ok (g := (HB (syW n fun _ => (0, oneW)) (syW m fun _ => (4607182418800017408, oneW)) (syW m fun _ => (4611686018427387904, oneW)) (bX n) (.sl 9 0 n 1) (.sl 12 0 m 1) (.sl 15 0 m 1) (.sl 18 0 n 1) [])) ⟨rfl, rfl, rfl, trivial⟩ (rfl) (GA3_eq _ _ _ _ _ _ _ _),
    rfl,
    stt2_ok ⟨rfl, rfl, rfl, rfl, rfl, trivial⟩ rfl rfl,
    rfl,
    stt2_ok ⟨rfl, rfl, rfl, rfl, rfl, trivial⟩ rfl rfl,
    rfl,
    stt2_ok ⟨rfl, rfl, rfl, rfl, rfl, trivial⟩ rfl rfl,
    rfl,
    stt2_ok ⟨rfl, rfl, rfl, rfl, rfl, trivial⟩ rfl rfl,
    rfl,
    stt2_ok ⟨rfl, rfl, rfl, rfl, trivial⟩ rfl rfl,
    rfl,
    stt2_ok ⟨rfl, rfl, rfl, rfl, trivial⟩ rfl rfl,
    rfl,
    stt2_ok ⟨rfl, rfl, rfl, rfl, trivial⟩ rfl rfl,
    rfl,
    stt2_ok ⟨rfl, rfl, rfl, rfl, trivial⟩ rfl rfl,
    pKp_ok sn,
    pKp_ok sm, rfl⟩
def KFUU (n m : Nat) (x y : Nat → Nat × Nat) : List Blk := HB (bX n) (bX m) (bX m) (bX n) (.sl 9 0 n 1) (.sl 12 0 m 1) (.sl 15 0 m 1) (.sl 18 0 n 1) []
noncomputable def RFUU (n m : Nat) (x y : Nat → Nat × Nat) : Fns := ((((((((((((((((((FT.addG 39 GList).addGs 40 (byPl [5] (GWtG false) (GWtG false))).addGs 41 (byPl [7] GRFwK GRFwK)).addG 43 GKept).addGs 16 (byPl [9, 18] GFwK GFwK)).addLoop 5 c44 (nearSel noLp noLp noLp noLp)).addLoop 10 c45a (LA0 n (fun _ => CU) (KFUU n m x y) (.sl 12 0 m 1) (.sl 15 0 m 1) (.sl 18 0 n 1))).addLoop 11 c45a (LA1 m (fun _ => CU) (HB (syW n fun _ => (0, oneW)) (bX m) (bX m) (bX n) (.sl 9 0 n 1) (.sl 12 0 m 1) (.sl 15 0 m 1) (.sl 18 0 n 1) []) (.sl 9 0 n 1) (.sl 15 0 m 1) (.sl 18 0 n 1))).addLoop 12 c45a (LA2 m (fun _ => CU) (HB (syW n fun _ => (0, oneW)) (syW m fun _ => (4607182418800017408, oneW)) (bX m) (bX n) (.sl 9 0 n 1) (.sl 12 0 m 1) (.sl 15 0 m 1) (.sl 18 0 n 1) []) (.sl 9 0 n 1) (.sl 12 0 m 1) (.sl 18 0 n 1))).addLoop 13 c45a (LA3 n (fun _ => CU) (HB (syW n fun _ => (0, oneW)) (syW m fun _ => (4607182418800017408, oneW)) (syW m fun _ => (4611686018427387904, oneW)) (bX n) (.sl 9 0 n 1) (.sl 12 0 m 1) (.sl 15 0 m 1) (.sl 18 0 n 1) []) (.sl 9 0 n 1) (.sl 12 0 m 1) (.sl 15 0 m 1))).addLoop 20 c45b (LB0 n (HFF0 n m))).addLoop 21 c45b (LB1 m (HFF1 n m))).addLoop 22 c45b (LB2 m (HFF2 n m))).addLoop 23 c45b (LB3 n (HFF3 n m))).addLoop 30 c45c (LC0 n (HFF4 n m) (.sl 12 0 m 1) (.sl 15 0 m 1) (.sl 18 0 n 1) (.sl 26 0 (m + 20) 1) (.sl 29 0 (m + 20) 1) (.sl 32 0 (n + 20) 1))).addLoop 31 c45c (LC1 m (HFF4 n m) (.sl 9 0 n 1) (.sl 15 0 m 1) (.sl 18 0 n 1) (.sl 23 0 (n + 20) 1) (.sl 29 0 (m + 20) 1) (.sl 32 0 (n + 20) 1))).addLoop 32 c45c (LC2 m (HFF4 n m) (.sl 9 0 n 1) (.sl 12 0 m 1) (.sl 18 0 n 1) (.sl 23 0 (n + 20) 1) (.sl 26 0 (m + 20) 1) (.sl 32 0 (n + 20) 1))).addLoop 33 c45c (LC3 n (HFF4 n m) (.sl 9 0 n 1) (.sl 12 0 m 1) (.sl 15 0 m 1) (.sl 23 0 (n + 20) 1) (.sl 26 0 (m + 20) 1) (.sl 29 0 (m + 20) 1))).withCo (coTwo [.u, .b false, .u, .b false, .u, .b false, .u, .b false, .u] [.u, .l 10, .u, .l 11, .u, .l 12, .u, .l 13, .u, .u, .l 20, .u, .l 21, .u, .l 22, .u, .l 23, .u, .u, .l 30, .u, .l 31, .u, .l 32, .u, .l 33, .u])
theorem runFUU (n m : Nat) (x y : Nat → Nat × Nat) (u : Value) : runK Tryd.prog T (RFUU n m x y) 900 Tryd.f11 [prL n x, prL m y] [deadB, deadB, deadB] [] (fun r _ => resW r = some u) =
  obsP ((pList n x) ::
   (pList m y) ::
   (pWtG false n x) ::
   (pWtG false m y) ::
   (pFitL n x) ::
   (pFitL m y) ::
   (pTrU 1 n x) ::
   (pNe n) ::
   (pTrU 1 m y) ::
   (pNe m) ::
   (pTrU 1 m y) ::
   (pNe m) ::
   (pTrU 1 n x) ::
   (pNe n) ::
   (pKp n x) ::
   (pKp m y) ::
   (c45a = c45a) ::
   (stt2 131 [gotA, ic 0, ic 0] ((l45a 0 0).map (·.2)) (KFUU n m x y) (GA0 n (fun _ => CU) (KFUU n m x y) (.sl 12 0 m 1) (.sl 15 0 m 1) (.sl 18 0 n 1))) ::
   (c45a = c45a) ::
   (stt2 131 [gotA, ic 1, ic 0] ((l45a 1 0).map (·.2)) (HB (syW n fun _ => (0, oneW)) (bX m) (bX m) (bX n) (.sl 9 0 n 1) (.sl 12 0 m 1) (.sl 15 0 m 1) (.sl 18 0 n 1) []) (GA1 m (fun _ => CU) (HB (syW n fun _ => (0, oneW)) (bX m) (bX m) (bX n) (.sl 9 0 n 1) (.sl 12 0 m 1) (.sl 15 0 m 1) (.sl 18 0 n 1) []) (.sl 9 0 n 1) (.sl 15 0 m 1) (.sl 18 0 n 1))) ::
   (c45a = c45a) ::
   (stt2 131 [gotA, ic 2, ic 0] ((l45a 2 0).map (·.2)) (HB (syW n fun _ => (0, oneW)) (syW m fun _ => (4607182418800017408, oneW)) (bX m) (bX n) (.sl 9 0 n 1) (.sl 12 0 m 1) (.sl 15 0 m 1) (.sl 18 0 n 1) []) (GA2 m (fun _ => CU) (HB (syW n fun _ => (0, oneW)) (syW m fun _ => (4607182418800017408, oneW)) (bX m) (bX n) (.sl 9 0 n 1) (.sl 12 0 m 1) (.sl 15 0 m 1) (.sl 18 0 n 1) []) (.sl 9 0 n 1) (.sl 12 0 m 1) (.sl 18 0 n 1))) ::
   (c45a = c45a) ::
   (stt2 131 [gotA, ic 3, ic 0] ((l45a 3 0).map (·.2)) (HB (syW n fun _ => (0, oneW)) (syW m fun _ => (4607182418800017408, oneW)) (syW m fun _ => (4611686018427387904, oneW)) (bX n) (.sl 9 0 n 1) (.sl 12 0 m 1) (.sl 15 0 m 1) (.sl 18 0 n 1) []) (GA3 n (fun _ => CU) (HB (syW n fun _ => (0, oneW)) (syW m fun _ => (4607182418800017408, oneW)) (syW m fun _ => (4611686018427387904, oneW)) (bX n) (.sl 9 0 n 1) (.sl 12 0 m 1) (.sl 15 0 m 1) (.sl 18 0 n 1) []) (.sl 9 0 n 1) (.sl 12 0 m 1) (.sl 15 0 m 1))) ::
   (c45b = c45b) ::
   (stt2 131 [gotA, (.one nilC), ic 0, .one (.sl 9 0 n 1), ic 0] ((l45b (.one nilC) 0 9 n 0).map (·.2)) (HFF0 n m) (HFF0 n m)) ::
   (c45b = c45b) ::
   (stt2 131 [gotA, (.one (.sl 25 0 1 1)), ic 1, .one (.sl 12 0 m 1), ic 0] ((l45b (.one (.sl 25 0 1 1)) 1 12 m 0).map (·.2)) (HFF1 n m) (HFF1 n m)) ::
   (c45b = c45b) ::
   (stt2 131 [gotA, (.one (.sl 28 0 2 1)), ic 2, .one (.sl 15 0 m 1), ic 0] ((l45b (.one (.sl 28 0 2 1)) 2 15 m 0).map (·.2)) (HFF2 n m) (HFF2 n m)) ::
   (c45b = c45b) ::
   (stt2 131 [gotA, (.one (.sl 31 0 3 1)), ic 3, .one (.sl 18 0 n 1), ic 0] ((l45b (.one (.sl 31 0 3 1)) 3 18 n 0).map (·.2)) (HFF3 n m) (HFF3 n m)) ::
   (c45c = c45c) ::
   (stt2 131 [gotA, longA, ic 0, ic 0] ((l45c 0 0).map (·.2)) (HFF4 n m) (HFF4 n m)) ::
   (c45c = c45c) ::
   (stt2 131 [gotA, longA, ic 1, ic 0] ((l45c 1 0).map (·.2)) (HFF4 n m) (HFF4 n m)) ::
   (c45c = c45c) ::
   (stt2 131 [gotA, longA, ic 2, ic 0] ((l45c 2 0).map (·.2)) (HFF4 n m) (HFF4 n m)) ::
   (c45c = c45c) ::
   (stt2 131 [gotA, longA, ic 3, ic 0] ((l45c 3 0).map (·.2)) (HFF4 n m) (HFF4 n m)) ::
   (pKp n x) ::
   (pKp m y) :: []) (some (Value.bool true) = some u) := by kernel_rfl
theorem goFUU {n m : Nat} {x y : Nat → Nat × Nat} (sn : sizeOk n) (fn : fitB n = true) (tn : tmC x n = false) (sm : sizeOk m) (fm : fitB m = true) (tm : tmC y m = false) : goodF n m x y := by
  have hn := (fit_le fn).1
  have hm := (fit_le fm).1
  refine ⟨RFUU n m x y, ((((((((((((((((((FTok.addG gcon39).addGs (byPl_ok (gcon40G false) (gcon40G false))).addGs (byPl_ok gcon41K gcon41K)).addG gcon43).addGs (byPl_ok gcon16K gcon16K)).addLoop 5 c44 _ (nearSel_ok noLp_ok noLp_ok noLp_ok noLp_ok)).addLoop 10 c45a _ (LA0_ok hn)).addLoop 11 c45a _ (LA1_ok hm)).addLoop 12 c45a _ (LA2_ok hm)).addLoop 13 c45a _ (LA3_ok hn)).addLoop 20 c45b _ (LB0_ok hn (HFF0_e1 n m) (HFF0_e2 n m) (HFF0_ok n m))).addLoop 21 c45b _ (LB1_ok hm (HFF1_e1 n m) (HFF1_e2 n m) (HFF1_ok n m))).addLoop 22 c45b _ (LB2_ok hm (HFF2_e1 n m) (HFF2_e2 n m) (HFF2_ok n m))).addLoop 23 c45b _ (LB3_ok hn (HFF3_e1 n m) (HFF3_e2 n m) (HFF3_ok n m))).addLoop 30 c45c _ (LC0_ok hn)).addLoop 31 c45c _ (LC1_ok hm)).addLoop 32 c45c _ (LC2_ok hm)).addLoop 33 c45c _ (LC3_ok hn)).withCo _, ?_⟩
  rw [runFUU]
  exact ⟨pList_ok sn,
    pList_ok sm,
    pWtG_ok sn tn,
    pWtG_ok sm tm,
    pFitL_ok fn,
    pFitL_ok fm,
    pTrU_ok (.inl rfl) fn,
    pNe_ok n,
    pTrU_ok (.inl rfl) fm,
    pNe_ok m,
    pTrU_ok (.inl rfl) fm,
    pNe_ok m,
    pTrU_ok (.inl rfl) fn,
    pNe_ok n,
    pKp_ok sn,
    pKp_ok sm,
    rfl,
    stt2_ok (g := (KFUU n m x y)) ⟨rfl, rfl, rfl, trivial⟩ (rfl) (GA0_eq _ _ _ _ _ _ _ _),
    rfl,
    stt2_ok (g := (HB (syW n fun _ => (0, oneW)) (bX m) (bX m) (bX n) (.sl 9 0 n 1) (.sl 12 0 m 1) (.sl 15 0 m 1) (.sl 18 0 n 1) [])) ⟨rfl, rfl, rfl, trivial⟩ (rfl) (GA1_eq _ _ _ _ _ _ _ _),
    rfl,
    stt2_ok (g := (HB (syW n fun _ => (0, oneW)) (syW m fun _ => (4607182418800017408, oneW)) (bX m) (bX n) (.sl 9 0 n 1) (.sl 12 0 m 1) (.sl 15 0 m 1) (.sl 18 0 n 1) [])) ⟨rfl, rfl, rfl, trivial⟩ (rfl) (GA2_eq _ _ _ _ _ _ _ _),
    rfl,
    stt2_ok (g := (HB (syW n fun _ => (0, oneW)) (syW m fun _ => (4607182418800017408, oneW)) (syW m fun _ => (4611686018427387904, oneW)) (bX n) (.sl 9 0 n 1) (.sl 12 0 m 1) (.sl 15 0 m 1) (.sl 18 0 n 1) [])) ⟨rfl, rfl, rfl, trivial⟩ (rfl) (GA3_eq _ _ _ _ _ _ _ _),
    rfl,
    stt2_ok ⟨rfl, rfl, rfl, rfl, rfl, trivial⟩ rfl rfl,
    rfl,
    stt2_ok ⟨rfl, rfl, rfl, rfl, rfl, trivial⟩ rfl rfl,
    rfl,
    stt2_ok ⟨rfl, rfl, rfl, rfl, rfl, trivial⟩ rfl rfl,
    rfl,
    stt2_ok ⟨rfl, rfl, rfl, rfl, rfl, trivial⟩ rfl rfl,
    rfl,
    stt2_ok ⟨rfl, rfl, rfl, rfl, trivial⟩ rfl rfl,
    rfl,
    stt2_ok ⟨rfl, rfl, rfl, rfl, trivial⟩ rfl rfl,
    rfl,
    stt2_ok ⟨rfl, rfl, rfl, rfl, trivial⟩ rfl rfl,
    rfl,
    stt2_ok ⟨rfl, rfl, rfl, rfl, trivial⟩ rfl rfl,
    pKp_ok sn,
    pKp_ok sm, rfl⟩
def KFUNt (n m : Nat) (x y : Nat → Nat × Nat) : List Blk := HB (bX n) deadB deadB (bX n) (.sl 9 0 n 1) nilC nilC (.sl 18 0 n 1) []
noncomputable def RFUNt (n m : Nat) (x y : Nat → Nat × Nat) : Fns := ((((((((((((((((FT.addG 39 GList).addGs 40 (byPl [5] (GWtG false) (GWtG true))).addGs 41 (byPl [7] GRFwK GRFwN)).addG 43 GKept).addGs 16 (byPl [9, 18] GFwK GFwN)).addLoop 5 c44 (nearSel noLp noLp noLp noLp)).addLoop 10 c45a (LA0 n (fun _ => CU) (KFUNt n m x y) nilC nilC (.sl 18 0 n 1))).addLoop 13 c45a (LA3 n (fun _ => CU) (HB (syW n fun _ => (0, oneW)) deadB deadB (bX n) (.sl 9 0 n 1) nilC nilC (.sl 18 0 n 1) []) (.sl 9 0 n 1) nilC nilC)).addLoop 20 c45b (LB0 n (HFN0 n m))).addLoop 21 c45b (LN1 (HFN1 n m))).addLoop 22 c45b (LN2 (HFN2 n m))).addLoop 23 c45b (LB3 n (HFN3 n m))).addLoop 30 c45c (LC0 n (HFN4 n m) nilC nilC (.sl 18 0 n 1) (.sl 26 0 (0 + 20) 1) (.sl 29 0 (0 + 20) 1) (.sl 32 0 (n + 20) 1))).addLoop 31 c45c (LD1 (HFN4 n m) (.sl 9 0 n 1) nilC (.sl 18 0 n 1) (.sl 23 0 (n + 20) 1) (.sl 29 0 (0 + 20) 1) (.sl 32 0 (n + 20) 1))).addLoop 32 c45c (LD2 (HFN4 n m) (.sl 9 0 n 1) nilC (.sl 18 0 n 1) (.sl 23 0 (n + 20) 1) (.sl 26 0 (0 + 20) 1) (.sl 32 0 (n + 20) 1))).addLoop 33 c45c (LC3 n (HFN4 n m) (.sl 9 0 n 1) nilC nilC (.sl 23 0 (n + 20) 1) (.sl 26 0 (0 + 20) 1) (.sl 29 0 (0 + 20) 1))).withCo (coTwo [.u, .b false, .u, .u, .u, .b false, .u] [.u, .l 10, .u, .u, .u, .u, .u, .l 13, .u, .u, .l 20, .u, .l 21, .u, .l 22, .u, .l 23, .u, .u, .l 30, .u, .l 31, .u, .l 32, .u, .l 33, .u])
theorem runFUNt (n m : Nat) (x y : Nat → Nat × Nat) (u : Value) : runK Tryd.prog T (RFUNt n m x y) 900 Tryd.f11 [prL n x, prL m y] [deadB, deadB, deadB] [] (fun r _ => resW r = some u) =
  obsP ((pList n x) ::
   (pList m y) ::
   (pWtG false n x) ::
   (pWtG true m y) ::
   (pFitL n x) ::
   (pNo m) ::
   (pTrU 1 n x) ::
   (pNe n) ::
   (pNo m) ::
   (pNo m) ::
   (pTrU 1 n x) ::
   (pNe n) ::
   (pKp n x) ::
   (pKp m y) ::
   (c45a = c45a) ::
   (stt2 131 [gotA, ic 0, ic 0] ((l45a 0 0).map (·.2)) (KFUNt n m x y) (GA0 n (fun _ => CU) (KFUNt n m x y) nilC nilC (.sl 18 0 n 1))) ::
   (c45a = c45a) ::
   (stt2 131 [gotA, ic 3, ic 0] ((l45a 3 0).map (·.2)) (HB (syW n fun _ => (0, oneW)) deadB deadB (bX n) (.sl 9 0 n 1) nilC nilC (.sl 18 0 n 1) []) (GA3 n (fun _ => CU) (HB (syW n fun _ => (0, oneW)) deadB deadB (bX n) (.sl 9 0 n 1) nilC nilC (.sl 18 0 n 1) []) (.sl 9 0 n 1) nilC nilC)) ::
   (c45b = c45b) ::
   (stt2 131 [gotA, (.one nilC), ic 0, .one (.sl 9 0 n 1), ic 0] ((l45b (.one nilC) 0 9 n 0).map (·.2)) (HFN0 n m) (HFN0 n m)) ::
   (c45b = c45b) ::
   (stt2 131 [gotA, (.one (.sl 25 0 1 1)), ic 1, .one nilC, ic 0] ((l45n (.one (.sl 25 0 1 1)) 1 0).map (·.2)) (HFN1 n m) (HFN1 n m)) ::
   (c45b = c45b) ::
   (stt2 131 [gotA, (.one (.sl 28 0 2 1)), ic 2, .one nilC, ic 0] ((l45n (.one (.sl 28 0 2 1)) 2 0).map (·.2)) (HFN2 n m) (HFN2 n m)) ::
   (c45b = c45b) ::
   (stt2 131 [gotA, (.one (.sl 31 0 3 1)), ic 3, .one (.sl 18 0 n 1), ic 0] ((l45b (.one (.sl 31 0 3 1)) 3 18 n 0).map (·.2)) (HFN3 n m) (HFN3 n m)) ::
   (c45c = c45c) ::
   (stt2 131 [gotA, longA, ic 0, ic 0] ((l45c 0 0).map (·.2)) (HFN4 n m) (HFN4 n m)) ::
   (c45c = c45c) ::
   (stt2 131 [gotA, longA, ic 1, ic 0] ((l45c 1 0).map (·.2)) (HFN4 n m) (HFN4 n m)) ::
   (c45c = c45c) ::
   (stt2 131 [gotA, longA, ic 2, ic 0] ((l45c 2 0).map (·.2)) (HFN4 n m) (HFN4 n m)) ::
   (c45c = c45c) ::
   (stt2 131 [gotA, longA, ic 3, ic 0] ((l45c 3 0).map (·.2)) (HFN4 n m) (HFN4 n m)) ::
   (pKp n x) ::
   (pKp m y) :: []) (some (Value.bool true) = some u) := by kernel_rfl
theorem goFUNt {n m : Nat} {x y : Nat → Nat × Nat} (sn : sizeOk n) (fn : fitB n = true) (tn : tmC x n = false) (sm : sizeOk m) (fm : fitB m = false) (tm : tmC y m = true) : goodF n m x y := by
  have hn := (fit_le fn).1
  refine ⟨RFUNt n m x y, ((((((((((((((((FTok.addG gcon39).addGs (byPl_ok (gcon40G false) (gcon40G true))).addGs (byPl_ok gcon41K gcon41n)).addG gcon43).addGs (byPl_ok gcon16K gcon16n)).addLoop 5 c44 _ (nearSel_ok noLp_ok noLp_ok noLp_ok noLp_ok)).addLoop 10 c45a _ (LA0_ok hn)).addLoop 13 c45a _ (LA3_ok hn)).addLoop 20 c45b _ (LB0_ok hn (HFN0_e1 n m) (HFN0_e2 n m) (HFN0_ok n m))).addLoop 21 c45b _ (LN1_ok (HFN1_e2 n m) (HFN1_ok n m))).addLoop 22 c45b _ (LN2_ok (HFN2_e2 n m) (HFN2_ok n m))).addLoop 23 c45b _ (LB3_ok hn (HFN3_e1 n m) (HFN3_e2 n m) (HFN3_ok n m))).addLoop 30 c45c _ (LC0_ok hn)).addLoop 31 c45c _ LD1_ok).addLoop 32 c45c _ LD2_ok).addLoop 33 c45c _ (LC3_ok hn)).withCo _, ?_⟩
  rw [runFUNt]
  exact ⟨pList_ok sn,
    pList_ok sm,
    pWtG_ok sn tn,
    pWtG_ok sm tm,
    pFitL_ok fn,
    pNo_ok fm,
    pTrU_ok (.inl rfl) fn,
    pNe_ok n,
    pNo_ok fm,
    pNo_ok fm,
    pTrU_ok (.inl rfl) fn,
    pNe_ok n,
    pKp_ok sn,
    pKp_ok sm,
    rfl,
    stt2_ok (g := (KFUNt n m x y)) ⟨rfl, rfl, rfl, trivial⟩ (rfl) (GA0_eq _ _ _ _ _ _ _ _),
    rfl,
    stt2_ok (g := (HB (syW n fun _ => (0, oneW)) deadB deadB (bX n) (.sl 9 0 n 1) nilC nilC (.sl 18 0 n 1) [])) ⟨rfl, rfl, rfl, trivial⟩ (rfl) (GA3_eq _ _ _ _ _ _ _ _),
    rfl,
    stt2_ok ⟨rfl, rfl, rfl, rfl, rfl, trivial⟩ rfl rfl,
    rfl,
    stt2_ok ⟨rfl, rfl, rfl, rfl, rfl, trivial⟩ rfl rfl,
    rfl,
    stt2_ok ⟨rfl, rfl, rfl, rfl, rfl, trivial⟩ rfl rfl,
    rfl,
    stt2_ok ⟨rfl, rfl, rfl, rfl, rfl, trivial⟩ rfl rfl,
    rfl,
    stt2_ok ⟨rfl, rfl, rfl, rfl, trivial⟩ rfl rfl,
    rfl,
    stt2_ok ⟨rfl, rfl, rfl, rfl, trivial⟩ rfl rfl,
    rfl,
    stt2_ok ⟨rfl, rfl, rfl, rfl, trivial⟩ rfl rfl,
    rfl,
    stt2_ok ⟨rfl, rfl, rfl, rfl, trivial⟩ rfl rfl,
    pKp_ok sn,
    pKp_ok sm, rfl⟩
def KFUNu (n m : Nat) (x y : Nat → Nat × Nat) : List Blk := HB (bX n) deadB deadB (bX n) (.sl 9 0 n 1) nilC nilC (.sl 18 0 n 1) []
noncomputable def RFUNu (n m : Nat) (x y : Nat → Nat × Nat) : Fns := ((((((((((((((((FT.addG 39 GList).addGs 40 (byPl [5] (GWtG false) (GWtG false))).addGs 41 (byPl [7] GRFwK GRFwN)).addG 43 GKept).addGs 16 (byPl [9, 18] GFwK GFwN)).addLoop 5 c44 (nearSel noLp noLp noLp noLp)).addLoop 10 c45a (LA0 n (fun _ => CU) (KFUNu n m x y) nilC nilC (.sl 18 0 n 1))).addLoop 13 c45a (LA3 n (fun _ => CU) (HB (syW n fun _ => (0, oneW)) deadB deadB (bX n) (.sl 9 0 n 1) nilC nilC (.sl 18 0 n 1) []) (.sl 9 0 n 1) nilC nilC)).addLoop 20 c45b (LB0 n (HFN0 n m))).addLoop 21 c45b (LN1 (HFN1 n m))).addLoop 22 c45b (LN2 (HFN2 n m))).addLoop 23 c45b (LB3 n (HFN3 n m))).addLoop 30 c45c (LC0 n (HFN4 n m) nilC nilC (.sl 18 0 n 1) (.sl 26 0 (0 + 20) 1) (.sl 29 0 (0 + 20) 1) (.sl 32 0 (n + 20) 1))).addLoop 31 c45c (LD1 (HFN4 n m) (.sl 9 0 n 1) nilC (.sl 18 0 n 1) (.sl 23 0 (n + 20) 1) (.sl 29 0 (0 + 20) 1) (.sl 32 0 (n + 20) 1))).addLoop 32 c45c (LD2 (HFN4 n m) (.sl 9 0 n 1) nilC (.sl 18 0 n 1) (.sl 23 0 (n + 20) 1) (.sl 26 0 (0 + 20) 1) (.sl 32 0 (n + 20) 1))).addLoop 33 c45c (LC3 n (HFN4 n m) (.sl 9 0 n 1) nilC nilC (.sl 23 0 (n + 20) 1) (.sl 26 0 (0 + 20) 1) (.sl 29 0 (0 + 20) 1))).withCo (coTwo [.u, .b false, .u, .u, .u, .b false, .u] [.u, .l 10, .u, .u, .u, .u, .u, .l 13, .u, .u, .l 20, .u, .l 21, .u, .l 22, .u, .l 23, .u, .u, .l 30, .u, .l 31, .u, .l 32, .u, .l 33, .u])
theorem runFUNu (n m : Nat) (x y : Nat → Nat × Nat) (u : Value) : runK Tryd.prog T (RFUNu n m x y) 900 Tryd.f11 [prL n x, prL m y] [deadB, deadB, deadB] [] (fun r _ => resW r = some u) =
  obsP ((pList n x) ::
   (pList m y) ::
   (pWtG false n x) ::
   (pWtG false m y) ::
   (pFitL n x) ::
   (pNo m) ::
   (pTrU 1 n x) ::
   (pNe n) ::
   (pNo m) ::
   (pNo m) ::
   (pTrU 1 n x) ::
   (pNe n) ::
   (pKp n x) ::
   (pKp m y) ::
   (c45a = c45a) ::
   (stt2 131 [gotA, ic 0, ic 0] ((l45a 0 0).map (·.2)) (KFUNu n m x y) (GA0 n (fun _ => CU) (KFUNu n m x y) nilC nilC (.sl 18 0 n 1))) ::
   (c45a = c45a) ::
   (stt2 131 [gotA, ic 3, ic 0] ((l45a 3 0).map (·.2)) (HB (syW n fun _ => (0, oneW)) deadB deadB (bX n) (.sl 9 0 n 1) nilC nilC (.sl 18 0 n 1) []) (GA3 n (fun _ => CU) (HB (syW n fun _ => (0, oneW)) deadB deadB (bX n) (.sl 9 0 n 1) nilC nilC (.sl 18 0 n 1) []) (.sl 9 0 n 1) nilC nilC)) ::
   (c45b = c45b) ::
   (stt2 131 [gotA, (.one nilC), ic 0, .one (.sl 9 0 n 1), ic 0] ((l45b (.one nilC) 0 9 n 0).map (·.2)) (HFN0 n m) (HFN0 n m)) ::
   (c45b = c45b) ::
   (stt2 131 [gotA, (.one (.sl 25 0 1 1)), ic 1, .one nilC, ic 0] ((l45n (.one (.sl 25 0 1 1)) 1 0).map (·.2)) (HFN1 n m) (HFN1 n m)) ::
   (c45b = c45b) ::
   (stt2 131 [gotA, (.one (.sl 28 0 2 1)), ic 2, .one nilC, ic 0] ((l45n (.one (.sl 28 0 2 1)) 2 0).map (·.2)) (HFN2 n m) (HFN2 n m)) ::
   (c45b = c45b) ::
   (stt2 131 [gotA, (.one (.sl 31 0 3 1)), ic 3, .one (.sl 18 0 n 1), ic 0] ((l45b (.one (.sl 31 0 3 1)) 3 18 n 0).map (·.2)) (HFN3 n m) (HFN3 n m)) ::
   (c45c = c45c) ::
   (stt2 131 [gotA, longA, ic 0, ic 0] ((l45c 0 0).map (·.2)) (HFN4 n m) (HFN4 n m)) ::
   (c45c = c45c) ::
   (stt2 131 [gotA, longA, ic 1, ic 0] ((l45c 1 0).map (·.2)) (HFN4 n m) (HFN4 n m)) ::
   (c45c = c45c) ::
   (stt2 131 [gotA, longA, ic 2, ic 0] ((l45c 2 0).map (·.2)) (HFN4 n m) (HFN4 n m)) ::
   (c45c = c45c) ::
   (stt2 131 [gotA, longA, ic 3, ic 0] ((l45c 3 0).map (·.2)) (HFN4 n m) (HFN4 n m)) ::
   (pKp n x) ::
   (pKp m y) :: []) (some (Value.bool true) = some u) := by kernel_rfl
theorem goFUNu {n m : Nat} {x y : Nat → Nat × Nat} (sn : sizeOk n) (fn : fitB n = true) (tn : tmC x n = false) (sm : sizeOk m) (fm : fitB m = false) (tm : tmC y m = false) : goodF n m x y := by
  have hn := (fit_le fn).1
  refine ⟨RFUNu n m x y, ((((((((((((((((FTok.addG gcon39).addGs (byPl_ok (gcon40G false) (gcon40G false))).addGs (byPl_ok gcon41K gcon41n)).addG gcon43).addGs (byPl_ok gcon16K gcon16n)).addLoop 5 c44 _ (nearSel_ok noLp_ok noLp_ok noLp_ok noLp_ok)).addLoop 10 c45a _ (LA0_ok hn)).addLoop 13 c45a _ (LA3_ok hn)).addLoop 20 c45b _ (LB0_ok hn (HFN0_e1 n m) (HFN0_e2 n m) (HFN0_ok n m))).addLoop 21 c45b _ (LN1_ok (HFN1_e2 n m) (HFN1_ok n m))).addLoop 22 c45b _ (LN2_ok (HFN2_e2 n m) (HFN2_ok n m))).addLoop 23 c45b _ (LB3_ok hn (HFN3_e1 n m) (HFN3_e2 n m) (HFN3_ok n m))).addLoop 30 c45c _ (LC0_ok hn)).addLoop 31 c45c _ LD1_ok).addLoop 32 c45c _ LD2_ok).addLoop 33 c45c _ (LC3_ok hn)).withCo _, ?_⟩
  rw [runFUNu]
  exact ⟨pList_ok sn,
    pList_ok sm,
    pWtG_ok sn tn,
    pWtG_ok sm tm,
    pFitL_ok fn,
    pNo_ok fm,
    pTrU_ok (.inl rfl) fn,
    pNe_ok n,
    pNo_ok fm,
    pNo_ok fm,
    pTrU_ok (.inl rfl) fn,
    pNe_ok n,
    pKp_ok sn,
    pKp_ok sm,
    rfl,
    stt2_ok (g := (KFUNu n m x y)) ⟨rfl, rfl, rfl, trivial⟩ (rfl) (GA0_eq _ _ _ _ _ _ _ _),
    rfl,
    stt2_ok (g := (HB (syW n fun _ => (0, oneW)) deadB deadB (bX n) (.sl 9 0 n 1) nilC nilC (.sl 18 0 n 1) [])) ⟨rfl, rfl, rfl, trivial⟩ (rfl) (GA3_eq _ _ _ _ _ _ _ _),
    rfl,
    stt2_ok ⟨rfl, rfl, rfl, rfl, rfl, trivial⟩ rfl rfl,
    rfl,
    stt2_ok ⟨rfl, rfl, rfl, rfl, rfl, trivial⟩ rfl rfl,
    rfl,
    stt2_ok ⟨rfl, rfl, rfl, rfl, rfl, trivial⟩ rfl rfl,
    rfl,
    stt2_ok ⟨rfl, rfl, rfl, rfl, rfl, trivial⟩ rfl rfl,
    rfl,
    stt2_ok ⟨rfl, rfl, rfl, rfl, trivial⟩ rfl rfl,
    rfl,
    stt2_ok ⟨rfl, rfl, rfl, rfl, trivial⟩ rfl rfl,
    rfl,
    stt2_ok ⟨rfl, rfl, rfl, rfl, trivial⟩ rfl rfl,
    rfl,
    stt2_ok ⟨rfl, rfl, rfl, rfl, trivial⟩ rfl rfl,
    pKp_ok sn,
    pKp_ok sm, rfl⟩
def KFNtT (n m : Nat) (x y : Nat → Nat × Nat) : List Blk := HB deadB (bY m (zeF m y)) (bY m (zeF m y)) deadB nilC (.sl 12 0 m 1) (.sl 15 0 m 1) nilC []
noncomputable def RFNtT (n m : Nat) (x y : Nat → Nat × Nat) : Fns := ((((((((((((((((FT.addG 39 GList).addGs 40 (byPl [5] (GWtG true) GWtT)).addGs 41 (byPl [7] GRFwN GRFw)).addG 43 GKept).addGs 16 (byPl [9, 18] GFwN GFw)).addLoop 5 c44 (nearSel noLp (nearC 12 m (zeF m y) (rF m y) (bW m y) (KFNtT n m x y)) (nearC 15 m (zeF m y) (rF m y) (bW m y) (KFNtT n m x y)) noLp)).addLoop 11 c45a (LA1 m (fun k => CC ((zeF m y) k)) (HB deadB (bY m (zeF m y)) (bY m (zeF m y)) deadB nilC (.sl 12 0 m 1) (.sl 15 0 m 1) nilC []) nilC (.sl 15 0 m 1) nilC)).addLoop 12 c45a (LA2 m (fun k => CC ((zeF m y) k)) (HB deadB (syW m fun _ => (4607182418800017408, oneW)) (bY m (zeF m y)) deadB nilC (.sl 12 0 m 1) (.sl 15 0 m 1) nilC []) nilC (.sl 12 0 m 1) nilC)).addLoop 20 c45b (LN0 (HNF0 n m))).addLoop 21 c45b (LB1 m (HNF1 n m))).addLoop 22 c45b (LB2 m (HNF2 n m))).addLoop 23 c45b (LN3 (HNF3 n m))).addLoop 30 c45c (LD0 (HNF4 n m) (.sl 12 0 m 1) (.sl 15 0 m 1) nilC (.sl 26 0 (m + 20) 1) (.sl 29 0 (m + 20) 1) (.sl 32 0 (0 + 20) 1))).addLoop 31 c45c (LC1 m (HNF4 n m) nilC (.sl 15 0 m 1) nilC (.sl 23 0 (0 + 20) 1) (.sl 29 0 (m + 20) 1) (.sl 32 0 (0 + 20) 1))).addLoop 32 c45c (LC2 m (HNF4 n m) nilC (.sl 12 0 m 1) nilC (.sl 23 0 (0 + 20) 1) (.sl 26 0 (m + 20) 1) (.sl 32 0 (0 + 20) 1))).addLoop 33 c45c (LD3 (HNF4 n m) nilC (.sl 12 0 m 1) (.sl 15 0 m 1) (.sl 23 0 (0 + 20) 1) (.sl 26 0 (m + 20) 1) (.sl 29 0 (m + 20) 1))).withCo (coTwo [.u, .u, .b false, .u, .b false, .u, .u] [.u, .u, .u, .l 11, .u, .l 12, .u, .u, .u, .u, .l 20, .u, .l 21, .u, .l 22, .u, .l 23, .u, .u, .l 30, .u, .l 31, .u, .l 32, .u, .l 33, .u])
theorem runFNtT (n m : Nat) (x y : Nat → Nat × Nat) (u : Value) : runK Tryd.prog T (RFNtT n m x y) 900 Tryd.f11 [prL n x, prL m y] [deadB, deadB, deadB] [] (fun r _ => resW r = some u) =
  obsP ((pList n x) ::
   (pList m y) ::
   (pWtG true n x) ::
   (pWtT m y) ::
   (pNo n) ::
   (pFwT m y) ::
   (pNo n) ::
   (pTrF m y) ::
   (pNe m) ::
   (pTrF m y) ::
   (pNe m) ::
   (pNo n) ::
   (pKp n x) ::
   (pKp m y) ::
   (pB1 m y) ::
   (pB2 m y) ::
   (pNe m) ::
   (c44 = c44) ::
   (stt2 47 [.one (.sl 12 0 m 1), prL m (rF m y), AFl (bW m y), ic 0] ((l44 12 m (rF m y) (bW m y) 0).map (·.2)) (KFNtT n m x y) (nearH 12 m (zeF m y) (KFNtT n m x y))) ::
   (pB1 m y) ::
   (pB2 m y) ::
   (pNe m) ::
   (c44 = c44) ::
   (stt2 47 [.one (.sl 15 0 m 1), prL m (rF m y), AFl (bW m y), ic 0] ((l44 15 m (rF m y) (bW m y) 0).map (·.2)) (nearH 12 m (zeF m y) (KFNtT n m x y)) (nearH 15 m (zeF m y) (KFNtT n m x y))) ::
   (c45a = c45a) ::
   (stt2 131 [gotA, ic 1, ic 0] ((l45a 1 0).map (·.2)) (nearH 15 m (zeF m y) (KFNtT n m x y)) (GA1 m (fun k => CC ((zeF m y) k)) (HB deadB (bY m (zeF m y)) (bY m (zeF m y)) deadB nilC (.sl 12 0 m 1) (.sl 15 0 m 1) nilC []) nilC (.sl 15 0 m 1) nilC)) ::
   (c45a = c45a) ::
   (stt2 131 [gotA, ic 2, ic 0] ((l45a 2 0).map (·.2)) (HB deadB (syW m fun _ => (4607182418800017408, oneW)) (bY m (zeF m y)) deadB nilC (.sl 12 0 m 1) (.sl 15 0 m 1) nilC []) (GA2 m (fun k => CC ((zeF m y) k)) (HB deadB (syW m fun _ => (4607182418800017408, oneW)) (bY m (zeF m y)) deadB nilC (.sl 12 0 m 1) (.sl 15 0 m 1) nilC []) nilC (.sl 12 0 m 1) nilC)) ::
   (c45b = c45b) ::
   (stt2 131 [gotA, (.one nilC), ic 0, .one nilC, ic 0] ((l45n (.one nilC) 0 0).map (·.2)) (HNF0 n m) (HNF0 n m)) ::
   (c45b = c45b) ::
   (stt2 131 [gotA, (.one (.sl 25 0 1 1)), ic 1, .one (.sl 12 0 m 1), ic 0] ((l45b (.one (.sl 25 0 1 1)) 1 12 m 0).map (·.2)) (HNF1 n m) (HNF1 n m)) ::
   (c45b = c45b) ::
   (stt2 131 [gotA, (.one (.sl 28 0 2 1)), ic 2, .one (.sl 15 0 m 1), ic 0] ((l45b (.one (.sl 28 0 2 1)) 2 15 m 0).map (·.2)) (HNF2 n m) (HNF2 n m)) ::
   (c45b = c45b) ::
   (stt2 131 [gotA, (.one (.sl 31 0 3 1)), ic 3, .one nilC, ic 0] ((l45n (.one (.sl 31 0 3 1)) 3 0).map (·.2)) (HNF3 n m) (HNF3 n m)) ::
   (c45c = c45c) ::
   (stt2 131 [gotA, longA, ic 0, ic 0] ((l45c 0 0).map (·.2)) (HNF4 n m) (HNF4 n m)) ::
   (c45c = c45c) ::
   (stt2 131 [gotA, longA, ic 1, ic 0] ((l45c 1 0).map (·.2)) (HNF4 n m) (HNF4 n m)) ::
   (c45c = c45c) ::
   (stt2 131 [gotA, longA, ic 2, ic 0] ((l45c 2 0).map (·.2)) (HNF4 n m) (HNF4 n m)) ::
   (c45c = c45c) ::
   (stt2 131 [gotA, longA, ic 3, ic 0] ((l45c 3 0).map (·.2)) (HNF4 n m) (HNF4 n m)) ::
   (pKp n x) ::
   (pKp m y) :: []) (some (Value.bool true) = some u) := by kernel_rfl
theorem goFNtT {n m : Nat} {x y : Nat → Nat × Nat} (sn : sizeOk n) (fn : fitB n = false) (tn : tmC x n = true) (sm : sizeOk m) (fm : fitB m = true) (tm : tmC y m = true) (km : okTF m y) : goodF n m x y := by
  have hm := (fit_le fm).1
  obtain ⟨wm, mm, rm, bm, cm, om⟩ := km
  refine ⟨RFNtT n m x y, ((((((((((((((((FTok.addG gcon39).addGs (byPl_ok (gcon40G true) gcon40T)).addGs (byPl_ok gcon41n gcon41)).addG gcon43).addGs (byPl_ok gcon16n gcon16)).addLoop 5 c44 _ (nearSel_ok noLp_ok (near12_ok hm om) (near15_ok hm om) noLp_ok)).addLoop 11 c45a _ (LA1_ok hm)).addLoop 12 c45a _ (LA2_ok hm)).addLoop 20 c45b _ (LN0_ok (HNF0_e2 n m) (HNF0_ok n m))).addLoop 21 c45b _ (LB1_ok hm (HNF1_e1 n m) (HNF1_e2 n m) (HNF1_ok n m))).addLoop 22 c45b _ (LB2_ok hm (HNF2_e1 n m) (HNF2_e2 n m) (HNF2_ok n m))).addLoop 23 c45b _ (LN3_ok (HNF3_e2 n m) (HNF3_ok n m))).addLoop 30 c45c _ LD0_ok).addLoop 31 c45c _ (LC1_ok hm)).addLoop 32 c45c _ (LC2_ok hm)).addLoop 33 c45c _ LD3_ok).withCo _, ?_⟩
  rw [runFNtT]
  exact ⟨pList_ok sn,
    pList_ok sm,
    pWtG_ok sn tn,
    pWtT_ok sm tm wm,
    pNo_ok fn,
    pFwT_ok fm mm,
    pNo_ok fn,
    pTrF_ok rm,
    pNe_ok m,
    pTrF_ok rm,
    pNe_ok m,
    pNo_ok fn,
    pKp_ok sn,
    pKp_ok sm,
    bm,
    cm,
    pNe_ok m,
    rfl,
    stt2_ok (g := (KFNtT n m x y)) ⟨rfl, rfl, rfl, rfl, trivial⟩ (rfl) (nearH12_eq _ _ _ _ _ _ _ _ _),
    bm,
    cm,
    pNe_ok m,
    rfl,
    stt2_ok (g := (KFNtT n m x y)) ⟨rfl, rfl, rfl, rfl, trivial⟩ (nearH12_eq _ _ _ _ _ _ _ _ _) (nearH15_eq _ _ _ _ _ _ _ _ _),
    rfl,
    stt2_ok (g := (HB deadB (bY m (zeF m y)) (bY m (zeF m y)) deadB nilC (.sl 12 0 m 1) (.sl 15 0 m 1) nilC [])) ⟨rfl, rfl, rfl, trivial⟩ (nearH15_eq _ _ _ _ _ _ _ _ _) (GA1_eq _ _ _ _ _ _ _ _),
    rfl,
    stt2_ok (g := (HB deadB (syW m fun _ => (4607182418800017408, oneW)) (bY m (zeF m y)) deadB nilC (.sl 12 0 m 1) (.sl 15 0 m 1) nilC [])) ⟨rfl, rfl, rfl, trivial⟩ (rfl) (GA2_eq _ _ _ _ _ _ _ _),
    rfl,
    stt2_ok ⟨rfl, rfl, rfl, rfl, rfl, trivial⟩ rfl rfl,
    rfl,
    stt2_ok ⟨rfl, rfl, rfl, rfl, rfl, trivial⟩ rfl rfl,
    rfl,
    stt2_ok ⟨rfl, rfl, rfl, rfl, rfl, trivial⟩ rfl rfl,
    rfl,
    stt2_ok ⟨rfl, rfl, rfl, rfl, rfl, trivial⟩ rfl rfl,
    rfl,
    stt2_ok ⟨rfl, rfl, rfl, rfl, trivial⟩ rfl rfl,
    rfl,
    stt2_ok ⟨rfl, rfl, rfl, rfl, trivial⟩ rfl rfl,
    rfl,
    stt2_ok ⟨rfl, rfl, rfl, rfl, trivial⟩ rfl rfl,
    rfl,
    stt2_ok ⟨rfl, rfl, rfl, rfl, trivial⟩ rfl rfl,
    pKp_ok sn,
    pKp_ok sm, rfl⟩
def KFNtU (n m : Nat) (x y : Nat → Nat × Nat) : List Blk := HB deadB (bX m) (bX m) deadB nilC (.sl 12 0 m 1) (.sl 15 0 m 1) nilC []
noncomputable def RFNtU (n m : Nat) (x y : Nat → Nat × Nat) : Fns := ((((((((((((((((FT.addG 39 GList).addGs 40 (byPl [5] (GWtG true) (GWtG false))).addGs 41 (byPl [7] GRFwN GRFwK)).addG 43 GKept).addGs 16 (byPl [9, 18] GFwN GFwK)).addLoop 5 c44 (nearSel noLp noLp noLp noLp)).addLoop 11 c45a (LA1 m (fun _ => CU) (HB deadB (bX m) (bX m) deadB nilC (.sl 12 0 m 1) (.sl 15 0 m 1) nilC []) nilC (.sl 15 0 m 1) nilC)).addLoop 12 c45a (LA2 m (fun _ => CU) (HB deadB (syW m fun _ => (4607182418800017408, oneW)) (bX m) deadB nilC (.sl 12 0 m 1) (.sl 15 0 m 1) nilC []) nilC (.sl 12 0 m 1) nilC)).addLoop 20 c45b (LN0 (HNF0 n m))).addLoop 21 c45b (LB1 m (HNF1 n m))).addLoop 22 c45b (LB2 m (HNF2 n m))).addLoop 23 c45b (LN3 (HNF3 n m))).addLoop 30 c45c (LD0 (HNF4 n m) (.sl 12 0 m 1) (.sl 15 0 m 1) nilC (.sl 26 0 (m + 20) 1) (.sl 29 0 (m + 20) 1) (.sl 32 0 (0 + 20) 1))).addLoop 31 c45c (LC1 m (HNF4 n m) nilC (.sl 15 0 m 1) nilC (.sl 23 0 (0 + 20) 1) (.sl 29 0 (m + 20) 1) (.sl 32 0 (0 + 20) 1))).addLoop 32 c45c (LC2 m (HNF4 n m) nilC (.sl 12 0 m 1) nilC (.sl 23 0 (0 + 20) 1) (.sl 26 0 (m + 20) 1) (.sl 32 0 (0 + 20) 1))).addLoop 33 c45c (LD3 (HNF4 n m) nilC (.sl 12 0 m 1) (.sl 15 0 m 1) (.sl 23 0 (0 + 20) 1) (.sl 26 0 (m + 20) 1) (.sl 29 0 (m + 20) 1))).withCo (coTwo [.u, .u, .b false, .u, .b false, .u, .u] [.u, .u, .u, .l 11, .u, .l 12, .u, .u, .u, .u, .l 20, .u, .l 21, .u, .l 22, .u, .l 23, .u, .u, .l 30, .u, .l 31, .u, .l 32, .u, .l 33, .u])
theorem runFNtU (n m : Nat) (x y : Nat → Nat × Nat) (u : Value) : runK Tryd.prog T (RFNtU n m x y) 900 Tryd.f11 [prL n x, prL m y] [deadB, deadB, deadB] [] (fun r _ => resW r = some u) =
  obsP ((pList n x) ::
   (pList m y) ::
   (pWtG true n x) ::
   (pWtG false m y) ::
   (pNo n) ::
   (pFitL m y) ::
   (pNo n) ::
   (pTrU 1 m y) ::
   (pNe m) ::
   (pTrU 1 m y) ::
   (pNe m) ::
   (pNo n) ::
   (pKp n x) ::
   (pKp m y) ::
   (c45a = c45a) ::
   (stt2 131 [gotA, ic 1, ic 0] ((l45a 1 0).map (·.2)) (KFNtU n m x y) (GA1 m (fun _ => CU) (HB deadB (bX m) (bX m) deadB nilC (.sl 12 0 m 1) (.sl 15 0 m 1) nilC []) nilC (.sl 15 0 m 1) nilC)) ::
   (c45a = c45a) ::
   (stt2 131 [gotA, ic 2, ic 0] ((l45a 2 0).map (·.2)) (HB deadB (syW m fun _ => (4607182418800017408, oneW)) (bX m) deadB nilC (.sl 12 0 m 1) (.sl 15 0 m 1) nilC []) (GA2 m (fun _ => CU) (HB deadB (syW m fun _ => (4607182418800017408, oneW)) (bX m) deadB nilC (.sl 12 0 m 1) (.sl 15 0 m 1) nilC []) nilC (.sl 12 0 m 1) nilC)) ::
   (c45b = c45b) ::
   (stt2 131 [gotA, (.one nilC), ic 0, .one nilC, ic 0] ((l45n (.one nilC) 0 0).map (·.2)) (HNF0 n m) (HNF0 n m)) ::
   (c45b = c45b) ::
   (stt2 131 [gotA, (.one (.sl 25 0 1 1)), ic 1, .one (.sl 12 0 m 1), ic 0] ((l45b (.one (.sl 25 0 1 1)) 1 12 m 0).map (·.2)) (HNF1 n m) (HNF1 n m)) ::
   (c45b = c45b) ::
   (stt2 131 [gotA, (.one (.sl 28 0 2 1)), ic 2, .one (.sl 15 0 m 1), ic 0] ((l45b (.one (.sl 28 0 2 1)) 2 15 m 0).map (·.2)) (HNF2 n m) (HNF2 n m)) ::
   (c45b = c45b) ::
   (stt2 131 [gotA, (.one (.sl 31 0 3 1)), ic 3, .one nilC, ic 0] ((l45n (.one (.sl 31 0 3 1)) 3 0).map (·.2)) (HNF3 n m) (HNF3 n m)) ::
   (c45c = c45c) ::
   (stt2 131 [gotA, longA, ic 0, ic 0] ((l45c 0 0).map (·.2)) (HNF4 n m) (HNF4 n m)) ::
   (c45c = c45c) ::
   (stt2 131 [gotA, longA, ic 1, ic 0] ((l45c 1 0).map (·.2)) (HNF4 n m) (HNF4 n m)) ::
   (c45c = c45c) ::
   (stt2 131 [gotA, longA, ic 2, ic 0] ((l45c 2 0).map (·.2)) (HNF4 n m) (HNF4 n m)) ::
   (c45c = c45c) ::
   (stt2 131 [gotA, longA, ic 3, ic 0] ((l45c 3 0).map (·.2)) (HNF4 n m) (HNF4 n m)) ::
   (pKp n x) ::
   (pKp m y) :: []) (some (Value.bool true) = some u) := by kernel_rfl
theorem goFNtU {n m : Nat} {x y : Nat → Nat × Nat} (sn : sizeOk n) (fn : fitB n = false) (tn : tmC x n = true) (sm : sizeOk m) (fm : fitB m = true) (tm : tmC y m = false) : goodF n m x y := by
  have hm := (fit_le fm).1
  refine ⟨RFNtU n m x y, ((((((((((((((((FTok.addG gcon39).addGs (byPl_ok (gcon40G true) (gcon40G false))).addGs (byPl_ok gcon41n gcon41K)).addG gcon43).addGs (byPl_ok gcon16n gcon16K)).addLoop 5 c44 _ (nearSel_ok noLp_ok noLp_ok noLp_ok noLp_ok)).addLoop 11 c45a _ (LA1_ok hm)).addLoop 12 c45a _ (LA2_ok hm)).addLoop 20 c45b _ (LN0_ok (HNF0_e2 n m) (HNF0_ok n m))).addLoop 21 c45b _ (LB1_ok hm (HNF1_e1 n m) (HNF1_e2 n m) (HNF1_ok n m))).addLoop 22 c45b _ (LB2_ok hm (HNF2_e1 n m) (HNF2_e2 n m) (HNF2_ok n m))).addLoop 23 c45b _ (LN3_ok (HNF3_e2 n m) (HNF3_ok n m))).addLoop 30 c45c _ LD0_ok).addLoop 31 c45c _ (LC1_ok hm)).addLoop 32 c45c _ (LC2_ok hm)).addLoop 33 c45c _ LD3_ok).withCo _, ?_⟩
  rw [runFNtU]
  exact ⟨pList_ok sn,
    pList_ok sm,
    pWtG_ok sn tn,
    pWtG_ok sm tm,
    pNo_ok fn,
    pFitL_ok fm,
    pNo_ok fn,
    pTrU_ok (.inl rfl) fm,
    pNe_ok m,
    pTrU_ok (.inl rfl) fm,
    pNe_ok m,
    pNo_ok fn,
    pKp_ok sn,
    pKp_ok sm,
    rfl,
    stt2_ok (g := (HB deadB (bX m) (bX m) deadB nilC (.sl 12 0 m 1) (.sl 15 0 m 1) nilC [])) ⟨rfl, rfl, rfl, trivial⟩ (rfl) (GA1_eq _ _ _ _ _ _ _ _),
    rfl,
    stt2_ok (g := (HB deadB (syW m fun _ => (4607182418800017408, oneW)) (bX m) deadB nilC (.sl 12 0 m 1) (.sl 15 0 m 1) nilC [])) ⟨rfl, rfl, rfl, trivial⟩ (rfl) (GA2_eq _ _ _ _ _ _ _ _),
    rfl,
    stt2_ok ⟨rfl, rfl, rfl, rfl, rfl, trivial⟩ rfl rfl,
    rfl,
    stt2_ok ⟨rfl, rfl, rfl, rfl, rfl, trivial⟩ rfl rfl,
    rfl,
    stt2_ok ⟨rfl, rfl, rfl, rfl, rfl, trivial⟩ rfl rfl,
    rfl,
    stt2_ok ⟨rfl, rfl, rfl, rfl, rfl, trivial⟩ rfl rfl,
    rfl,
    stt2_ok ⟨rfl, rfl, rfl, rfl, trivial⟩ rfl rfl,
    rfl,
    stt2_ok ⟨rfl, rfl, rfl, rfl, trivial⟩ rfl rfl,
    rfl,
    stt2_ok ⟨rfl, rfl, rfl, rfl, trivial⟩ rfl rfl,
    rfl,
    stt2_ok ⟨rfl, rfl, rfl, rfl, trivial⟩ rfl rfl,
    pKp_ok sn,
    pKp_ok sm, rfl⟩
noncomputable def RFNtNt (n m : Nat) (x y : Nat → Nat × Nat) : Fns := ((((((((((((((FT.addG 39 GList).addGs 40 (byPl [5] (GWtG true) (GWtG true))).addGs 41 (byPl [7] GRFwN GRFwN)).addG 43 GKept).addGs 16 (byPl [9, 18] GFwN GFwN)).addLoop 5 c44 (nearSel noLp noLp noLp noLp)).addLoop 20 c45b (LN0 (HNN0 n m))).addLoop 21 c45b (LN1 (HNN1 n m))).addLoop 22 c45b (LN2 (HNN2 n m))).addLoop 23 c45b (LN3 (HNN3 n m))).addLoop 30 c45c (LD0 (HNN4 n m) nilC nilC nilC (.sl 26 0 (0 + 20) 1) (.sl 29 0 (0 + 20) 1) (.sl 32 0 (0 + 20) 1))).addLoop 31 c45c (LD1 (HNN4 n m) nilC nilC nilC (.sl 23 0 (0 + 20) 1) (.sl 29 0 (0 + 20) 1) (.sl 32 0 (0 + 20) 1))).addLoop 32 c45c (LD2 (HNN4 n m) nilC nilC nilC (.sl 23 0 (0 + 20) 1) (.sl 26 0 (0 + 20) 1) (.sl 32 0 (0 + 20) 1))).addLoop 33 c45c (LD3 (HNN4 n m) nilC nilC nilC (.sl 23 0 (0 + 20) 1) (.sl 26 0 (0 + 20) 1) (.sl 29 0 (0 + 20) 1))).withCo (coTwo [.u, .u, .u, .u, .u] [.u, .u, .u, .u, .u, .u, .u, .u, .u, .u, .l 20, .u, .l 21, .u, .l 22, .u, .l 23, .u, .u, .l 30, .u, .l 31, .u, .l 32, .u, .l 33, .u])
theorem runFNtNt (n m : Nat) (x y : Nat → Nat × Nat) (u : Value) : runK Tryd.prog T (RFNtNt n m x y) 900 Tryd.f11 [prL n x, prL m y] [deadB, deadB, deadB] [] (fun r _ => resW r = some u) =
  obsP ((pList n x) ::
   (pList m y) ::
   (pWtG true n x) ::
   (pWtG true m y) ::
   (pNo n) ::
   (pNo m) ::
   (pNo n) ::
   (pNo m) ::
   (pNo m) ::
   (pNo n) ::
   (pKp n x) ::
   (pKp m y) ::
   (c45b = c45b) ::
   (stt2 131 [gotA, (.one nilC), ic 0, .one nilC, ic 0] ((l45n (.one nilC) 0 0).map (·.2)) (HNN0 n m) (HNN0 n m)) ::
   (c45b = c45b) ::
   (stt2 131 [gotA, (.one (.sl 25 0 1 1)), ic 1, .one nilC, ic 0] ((l45n (.one (.sl 25 0 1 1)) 1 0).map (·.2)) (HNN1 n m) (HNN1 n m)) ::
   (c45b = c45b) ::
   (stt2 131 [gotA, (.one (.sl 28 0 2 1)), ic 2, .one nilC, ic 0] ((l45n (.one (.sl 28 0 2 1)) 2 0).map (·.2)) (HNN2 n m) (HNN2 n m)) ::
   (c45b = c45b) ::
   (stt2 131 [gotA, (.one (.sl 31 0 3 1)), ic 3, .one nilC, ic 0] ((l45n (.one (.sl 31 0 3 1)) 3 0).map (·.2)) (HNN3 n m) (HNN3 n m)) ::
   (c45c = c45c) ::
   (stt2 131 [gotA, longA, ic 0, ic 0] ((l45c 0 0).map (·.2)) (HNN4 n m) (HNN4 n m)) ::
   (c45c = c45c) ::
   (stt2 131 [gotA, longA, ic 1, ic 0] ((l45c 1 0).map (·.2)) (HNN4 n m) (HNN4 n m)) ::
   (c45c = c45c) ::
   (stt2 131 [gotA, longA, ic 2, ic 0] ((l45c 2 0).map (·.2)) (HNN4 n m) (HNN4 n m)) ::
   (c45c = c45c) ::
   (stt2 131 [gotA, longA, ic 3, ic 0] ((l45c 3 0).map (·.2)) (HNN4 n m) (HNN4 n m)) ::
   (pKp n x) ::
   (pKp m y) :: []) (some (Value.bool true) = some u) := by kernel_rfl
theorem goFNtNt {n m : Nat} {x y : Nat → Nat × Nat} (sn : sizeOk n) (fn : fitB n = false) (tn : tmC x n = true) (sm : sizeOk m) (fm : fitB m = false) (tm : tmC y m = true) : goodF n m x y := by
  refine ⟨RFNtNt n m x y, ((((((((((((((FTok.addG gcon39).addGs (byPl_ok (gcon40G true) (gcon40G true))).addGs (byPl_ok gcon41n gcon41n)).addG gcon43).addGs (byPl_ok gcon16n gcon16n)).addLoop 5 c44 _ (nearSel_ok noLp_ok noLp_ok noLp_ok noLp_ok)).addLoop 20 c45b _ (LN0_ok (HNN0_e2 n m) (HNN0_ok n m))).addLoop 21 c45b _ (LN1_ok (HNN1_e2 n m) (HNN1_ok n m))).addLoop 22 c45b _ (LN2_ok (HNN2_e2 n m) (HNN2_ok n m))).addLoop 23 c45b _ (LN3_ok (HNN3_e2 n m) (HNN3_ok n m))).addLoop 30 c45c _ LD0_ok).addLoop 31 c45c _ LD1_ok).addLoop 32 c45c _ LD2_ok).addLoop 33 c45c _ LD3_ok).withCo _, ?_⟩
  rw [runFNtNt]
  exact ⟨pList_ok sn,
    pList_ok sm,
    pWtG_ok sn tn,
    pWtG_ok sm tm,
    pNo_ok fn,
    pNo_ok fm,
    pNo_ok fn,
    pNo_ok fm,
    pNo_ok fm,
    pNo_ok fn,
    pKp_ok sn,
    pKp_ok sm,
    rfl,
    stt2_ok ⟨rfl, rfl, rfl, rfl, rfl, trivial⟩ rfl rfl,
    rfl,
    stt2_ok ⟨rfl, rfl, rfl, rfl, rfl, trivial⟩ rfl rfl,
    rfl,
    stt2_ok ⟨rfl, rfl, rfl, rfl, rfl, trivial⟩ rfl rfl,
    rfl,
    stt2_ok ⟨rfl, rfl, rfl, rfl, rfl, trivial⟩ rfl rfl,
    rfl,
    stt2_ok ⟨rfl, rfl, rfl, rfl, trivial⟩ rfl rfl,
    rfl,
    stt2_ok ⟨rfl, rfl, rfl, rfl, trivial⟩ rfl rfl,
    rfl,
    stt2_ok ⟨rfl, rfl, rfl, rfl, trivial⟩ rfl rfl,
    rfl,
    stt2_ok ⟨rfl, rfl, rfl, rfl, trivial⟩ rfl rfl,
    pKp_ok sn,
    pKp_ok sm, rfl⟩
noncomputable def RFNtNu (n m : Nat) (x y : Nat → Nat × Nat) : Fns := ((((((((((((((FT.addG 39 GList).addGs 40 (byPl [5] (GWtG true) (GWtG false))).addGs 41 (byPl [7] GRFwN GRFwN)).addG 43 GKept).addGs 16 (byPl [9, 18] GFwN GFwN)).addLoop 5 c44 (nearSel noLp noLp noLp noLp)).addLoop 20 c45b (LN0 (HNN0 n m))).addLoop 21 c45b (LN1 (HNN1 n m))).addLoop 22 c45b (LN2 (HNN2 n m))).addLoop 23 c45b (LN3 (HNN3 n m))).addLoop 30 c45c (LD0 (HNN4 n m) nilC nilC nilC (.sl 26 0 (0 + 20) 1) (.sl 29 0 (0 + 20) 1) (.sl 32 0 (0 + 20) 1))).addLoop 31 c45c (LD1 (HNN4 n m) nilC nilC nilC (.sl 23 0 (0 + 20) 1) (.sl 29 0 (0 + 20) 1) (.sl 32 0 (0 + 20) 1))).addLoop 32 c45c (LD2 (HNN4 n m) nilC nilC nilC (.sl 23 0 (0 + 20) 1) (.sl 26 0 (0 + 20) 1) (.sl 32 0 (0 + 20) 1))).addLoop 33 c45c (LD3 (HNN4 n m) nilC nilC nilC (.sl 23 0 (0 + 20) 1) (.sl 26 0 (0 + 20) 1) (.sl 29 0 (0 + 20) 1))).withCo (coTwo [.u, .u, .u, .u, .u] [.u, .u, .u, .u, .u, .u, .u, .u, .u, .u, .l 20, .u, .l 21, .u, .l 22, .u, .l 23, .u, .u, .l 30, .u, .l 31, .u, .l 32, .u, .l 33, .u])
theorem runFNtNu (n m : Nat) (x y : Nat → Nat × Nat) (u : Value) : runK Tryd.prog T (RFNtNu n m x y) 900 Tryd.f11 [prL n x, prL m y] [deadB, deadB, deadB] [] (fun r _ => resW r = some u) =
  obsP ((pList n x) ::
   (pList m y) ::
   (pWtG true n x) ::
   (pWtG false m y) ::
   (pNo n) ::
   (pNo m) ::
   (pNo n) ::
   (pNo m) ::
   (pNo m) ::
   (pNo n) ::
   (pKp n x) ::
   (pKp m y) ::
   (c45b = c45b) ::
   (stt2 131 [gotA, (.one nilC), ic 0, .one nilC, ic 0] ((l45n (.one nilC) 0 0).map (·.2)) (HNN0 n m) (HNN0 n m)) ::
   (c45b = c45b) ::
   (stt2 131 [gotA, (.one (.sl 25 0 1 1)), ic 1, .one nilC, ic 0] ((l45n (.one (.sl 25 0 1 1)) 1 0).map (·.2)) (HNN1 n m) (HNN1 n m)) ::
   (c45b = c45b) ::
   (stt2 131 [gotA, (.one (.sl 28 0 2 1)), ic 2, .one nilC, ic 0] ((l45n (.one (.sl 28 0 2 1)) 2 0).map (·.2)) (HNN2 n m) (HNN2 n m)) ::
   (c45b = c45b) ::
   (stt2 131 [gotA, (.one (.sl 31 0 3 1)), ic 3, .one nilC, ic 0] ((l45n (.one (.sl 31 0 3 1)) 3 0).map (·.2)) (HNN3 n m) (HNN3 n m)) ::
   (c45c = c45c) ::
   (stt2 131 [gotA, longA, ic 0, ic 0] ((l45c 0 0).map (·.2)) (HNN4 n m) (HNN4 n m)) ::
   (c45c = c45c) ::
   (stt2 131 [gotA, longA, ic 1, ic 0] ((l45c 1 0).map (·.2)) (HNN4 n m) (HNN4 n m)) ::
   (c45c = c45c) ::
   (stt2 131 [gotA, longA, ic 2, ic 0] ((l45c 2 0).map (·.2)) (HNN4 n m) (HNN4 n m)) ::
   (c45c = c45c) ::
   (stt2 131 [gotA, longA, ic 3, ic 0] ((l45c 3 0).map (·.2)) (HNN4 n m) (HNN4 n m)) ::
   (pKp n x) ::
   (pKp m y) :: []) (some (Value.bool true) = some u) := by kernel_rfl
theorem goFNtNu {n m : Nat} {x y : Nat → Nat × Nat} (sn : sizeOk n) (fn : fitB n = false) (tn : tmC x n = true) (sm : sizeOk m) (fm : fitB m = false) (tm : tmC y m = false) : goodF n m x y := by
  refine ⟨RFNtNu n m x y, ((((((((((((((FTok.addG gcon39).addGs (byPl_ok (gcon40G true) (gcon40G false))).addGs (byPl_ok gcon41n gcon41n)).addG gcon43).addGs (byPl_ok gcon16n gcon16n)).addLoop 5 c44 _ (nearSel_ok noLp_ok noLp_ok noLp_ok noLp_ok)).addLoop 20 c45b _ (LN0_ok (HNN0_e2 n m) (HNN0_ok n m))).addLoop 21 c45b _ (LN1_ok (HNN1_e2 n m) (HNN1_ok n m))).addLoop 22 c45b _ (LN2_ok (HNN2_e2 n m) (HNN2_ok n m))).addLoop 23 c45b _ (LN3_ok (HNN3_e2 n m) (HNN3_ok n m))).addLoop 30 c45c _ LD0_ok).addLoop 31 c45c _ LD1_ok).addLoop 32 c45c _ LD2_ok).addLoop 33 c45c _ LD3_ok).withCo _, ?_⟩
  rw [runFNtNu]
  exact ⟨pList_ok sn,
    pList_ok sm,
    pWtG_ok sn tn,
    pWtG_ok sm tm,
    pNo_ok fn,
    pNo_ok fm,
    pNo_ok fn,
    pNo_ok fm,
    pNo_ok fm,
    pNo_ok fn,
    pKp_ok sn,
    pKp_ok sm,
    rfl,
    stt2_ok ⟨rfl, rfl, rfl, rfl, rfl, trivial⟩ rfl rfl,
    rfl,
    stt2_ok ⟨rfl, rfl, rfl, rfl, rfl, trivial⟩ rfl rfl,
    rfl,
    stt2_ok ⟨rfl, rfl, rfl, rfl, rfl, trivial⟩ rfl rfl,
    rfl,
    stt2_ok ⟨rfl, rfl, rfl, rfl, rfl, trivial⟩ rfl rfl,
    rfl,
    stt2_ok ⟨rfl, rfl, rfl, rfl, trivial⟩ rfl rfl,
    rfl,
    stt2_ok ⟨rfl, rfl, rfl, rfl, trivial⟩ rfl rfl,
    rfl,
    stt2_ok ⟨rfl, rfl, rfl, rfl, trivial⟩ rfl rfl,
    rfl,
    stt2_ok ⟨rfl, rfl, rfl, rfl, trivial⟩ rfl rfl,
    pKp_ok sn,
    pKp_ok sm, rfl⟩
def KFNuT (n m : Nat) (x y : Nat → Nat × Nat) : List Blk := HB deadB (bY m (zeF m y)) (bY m (zeF m y)) deadB nilC (.sl 12 0 m 1) (.sl 15 0 m 1) nilC []
noncomputable def RFNuT (n m : Nat) (x y : Nat → Nat × Nat) : Fns := ((((((((((((((((FT.addG 39 GList).addGs 40 (byPl [5] (GWtG false) GWtT)).addGs 41 (byPl [7] GRFwN GRFw)).addG 43 GKept).addGs 16 (byPl [9, 18] GFwN GFw)).addLoop 5 c44 (nearSel noLp (nearC 12 m (zeF m y) (rF m y) (bW m y) (KFNuT n m x y)) (nearC 15 m (zeF m y) (rF m y) (bW m y) (KFNuT n m x y)) noLp)).addLoop 11 c45a (LA1 m (fun k => CC ((zeF m y) k)) (HB deadB (bY m (zeF m y)) (bY m (zeF m y)) deadB nilC (.sl 12 0 m 1) (.sl 15 0 m 1) nilC []) nilC (.sl 15 0 m 1) nilC)).addLoop 12 c45a (LA2 m (fun k => CC ((zeF m y) k)) (HB deadB (syW m fun _ => (4607182418800017408, oneW)) (bY m (zeF m y)) deadB nilC (.sl 12 0 m 1) (.sl 15 0 m 1) nilC []) nilC (.sl 12 0 m 1) nilC)).addLoop 20 c45b (LN0 (HNF0 n m))).addLoop 21 c45b (LB1 m (HNF1 n m))).addLoop 22 c45b (LB2 m (HNF2 n m))).addLoop 23 c45b (LN3 (HNF3 n m))).addLoop 30 c45c (LD0 (HNF4 n m) (.sl 12 0 m 1) (.sl 15 0 m 1) nilC (.sl 26 0 (m + 20) 1) (.sl 29 0 (m + 20) 1) (.sl 32 0 (0 + 20) 1))).addLoop 31 c45c (LC1 m (HNF4 n m) nilC (.sl 15 0 m 1) nilC (.sl 23 0 (0 + 20) 1) (.sl 29 0 (m + 20) 1) (.sl 32 0 (0 + 20) 1))).addLoop 32 c45c (LC2 m (HNF4 n m) nilC (.sl 12 0 m 1) nilC (.sl 23 0 (0 + 20) 1) (.sl 26 0 (m + 20) 1) (.sl 32 0 (0 + 20) 1))).addLoop 33 c45c (LD3 (HNF4 n m) nilC (.sl 12 0 m 1) (.sl 15 0 m 1) (.sl 23 0 (0 + 20) 1) (.sl 26 0 (m + 20) 1) (.sl 29 0 (m + 20) 1))).withCo (coTwo [.u, .u, .b false, .u, .b false, .u, .u] [.u, .u, .u, .l 11, .u, .l 12, .u, .u, .u, .u, .l 20, .u, .l 21, .u, .l 22, .u, .l 23, .u, .u, .l 30, .u, .l 31, .u, .l 32, .u, .l 33, .u])
theorem runFNuT (n m : Nat) (x y : Nat → Nat × Nat) (u : Value) : runK Tryd.prog T (RFNuT n m x y) 900 Tryd.f11 [prL n x, prL m y] [deadB, deadB, deadB] [] (fun r _ => resW r = some u) =
  obsP ((pList n x) ::
   (pList m y) ::
   (pWtG false n x) ::
   (pWtT m y) ::
   (pNo n) ::
   (pFwT m y) ::
   (pNo n) ::
   (pTrF m y) ::
   (pNe m) ::
   (pTrF m y) ::
   (pNe m) ::
   (pNo n) ::
   (pKp n x) ::
   (pKp m y) ::
   (pB1 m y) ::
   (pB2 m y) ::
   (pNe m) ::
   (c44 = c44) ::
   (stt2 47 [.one (.sl 12 0 m 1), prL m (rF m y), AFl (bW m y), ic 0] ((l44 12 m (rF m y) (bW m y) 0).map (·.2)) (KFNuT n m x y) (nearH 12 m (zeF m y) (KFNuT n m x y))) ::
   (pB1 m y) ::
   (pB2 m y) ::
   (pNe m) ::
   (c44 = c44) ::
   (stt2 47 [.one (.sl 15 0 m 1), prL m (rF m y), AFl (bW m y), ic 0] ((l44 15 m (rF m y) (bW m y) 0).map (·.2)) (nearH 12 m (zeF m y) (KFNuT n m x y)) (nearH 15 m (zeF m y) (KFNuT n m x y))) ::
   (c45a = c45a) ::
   (stt2 131 [gotA, ic 1, ic 0] ((l45a 1 0).map (·.2)) (nearH 15 m (zeF m y) (KFNuT n m x y)) (GA1 m (fun k => CC ((zeF m y) k)) (HB deadB (bY m (zeF m y)) (bY m (zeF m y)) deadB nilC (.sl 12 0 m 1) (.sl 15 0 m 1) nilC []) nilC (.sl 15 0 m 1) nilC)) ::
   (c45a = c45a) ::
   (stt2 131 [gotA, ic 2, ic 0] ((l45a 2 0).map (·.2)) (HB deadB (syW m fun _ => (4607182418800017408, oneW)) (bY m (zeF m y)) deadB nilC (.sl 12 0 m 1) (.sl 15 0 m 1) nilC []) (GA2 m (fun k => CC ((zeF m y) k)) (HB deadB (syW m fun _ => (4607182418800017408, oneW)) (bY m (zeF m y)) deadB nilC (.sl 12 0 m 1) (.sl 15 0 m 1) nilC []) nilC (.sl 12 0 m 1) nilC)) ::
   (c45b = c45b) ::
   (stt2 131 [gotA, (.one nilC), ic 0, .one nilC, ic 0] ((l45n (.one nilC) 0 0).map (·.2)) (HNF0 n m) (HNF0 n m)) ::
   (c45b = c45b) ::
   (stt2 131 [gotA, (.one (.sl 25 0 1 1)), ic 1, .one (.sl 12 0 m 1), ic 0] ((l45b (.one (.sl 25 0 1 1)) 1 12 m 0).map (·.2)) (HNF1 n m) (HNF1 n m)) ::
   (c45b = c45b) ::
   (stt2 131 [gotA, (.one (.sl 28 0 2 1)), ic 2, .one (.sl 15 0 m 1), ic 0] ((l45b (.one (.sl 28 0 2 1)) 2 15 m 0).map (·.2)) (HNF2 n m) (HNF2 n m)) ::
   (c45b = c45b) ::
   (stt2 131 [gotA, (.one (.sl 31 0 3 1)), ic 3, .one nilC, ic 0] ((l45n (.one (.sl 31 0 3 1)) 3 0).map (·.2)) (HNF3 n m) (HNF3 n m)) ::
   (c45c = c45c) ::
   (stt2 131 [gotA, longA, ic 0, ic 0] ((l45c 0 0).map (·.2)) (HNF4 n m) (HNF4 n m)) ::
   (c45c = c45c) ::
   (stt2 131 [gotA, longA, ic 1, ic 0] ((l45c 1 0).map (·.2)) (HNF4 n m) (HNF4 n m)) ::
   (c45c = c45c) ::
   (stt2 131 [gotA, longA, ic 2, ic 0] ((l45c 2 0).map (·.2)) (HNF4 n m) (HNF4 n m)) ::
   (c45c = c45c) ::
   (stt2 131 [gotA, longA, ic 3, ic 0] ((l45c 3 0).map (·.2)) (HNF4 n m) (HNF4 n m)) ::
   (pKp n x) ::
   (pKp m y) :: []) (some (Value.bool true) = some u) := by kernel_rfl
theorem goFNuT {n m : Nat} {x y : Nat → Nat × Nat} (sn : sizeOk n) (fn : fitB n = false) (tn : tmC x n = false) (sm : sizeOk m) (fm : fitB m = true) (tm : tmC y m = true) (km : okTF m y) : goodF n m x y := by
  have hm := (fit_le fm).1
  obtain ⟨wm, mm, rm, bm, cm, om⟩ := km
  refine ⟨RFNuT n m x y, ((((((((((((((((FTok.addG gcon39).addGs (byPl_ok (gcon40G false) gcon40T)).addGs (byPl_ok gcon41n gcon41)).addG gcon43).addGs (byPl_ok gcon16n gcon16)).addLoop 5 c44 _ (nearSel_ok noLp_ok (near12_ok hm om) (near15_ok hm om) noLp_ok)).addLoop 11 c45a _ (LA1_ok hm)).addLoop 12 c45a _ (LA2_ok hm)).addLoop 20 c45b _ (LN0_ok (HNF0_e2 n m) (HNF0_ok n m))).addLoop 21 c45b _ (LB1_ok hm (HNF1_e1 n m) (HNF1_e2 n m) (HNF1_ok n m))).addLoop 22 c45b _ (LB2_ok hm (HNF2_e1 n m) (HNF2_e2 n m) (HNF2_ok n m))).addLoop 23 c45b _ (LN3_ok (HNF3_e2 n m) (HNF3_ok n m))).addLoop 30 c45c _ LD0_ok).addLoop 31 c45c _ (LC1_ok hm)).addLoop 32 c45c _ (LC2_ok hm)).addLoop 33 c45c _ LD3_ok).withCo _, ?_⟩
  rw [runFNuT]
  exact ⟨pList_ok sn,
    pList_ok sm,
    pWtG_ok sn tn,
    pWtT_ok sm tm wm,
    pNo_ok fn,
    pFwT_ok fm mm,
    pNo_ok fn,
    pTrF_ok rm,
    pNe_ok m,
    pTrF_ok rm,
    pNe_ok m,
    pNo_ok fn,
    pKp_ok sn,
    pKp_ok sm,
    bm,
    cm,
    pNe_ok m,
    rfl,
    stt2_ok (g := (KFNuT n m x y)) ⟨rfl, rfl, rfl, rfl, trivial⟩ (rfl) (nearH12_eq _ _ _ _ _ _ _ _ _),
    bm,
    cm,
    pNe_ok m,
    rfl,
    stt2_ok (g := (KFNuT n m x y)) ⟨rfl, rfl, rfl, rfl, trivial⟩ (nearH12_eq _ _ _ _ _ _ _ _ _) (nearH15_eq _ _ _ _ _ _ _ _ _),
    rfl,
    stt2_ok (g := (HB deadB (bY m (zeF m y)) (bY m (zeF m y)) deadB nilC (.sl 12 0 m 1) (.sl 15 0 m 1) nilC [])) ⟨rfl, rfl, rfl, trivial⟩ (nearH15_eq _ _ _ _ _ _ _ _ _) (GA1_eq _ _ _ _ _ _ _ _),
    rfl,
    stt2_ok (g := (HB deadB (syW m fun _ => (4607182418800017408, oneW)) (bY m (zeF m y)) deadB nilC (.sl 12 0 m 1) (.sl 15 0 m 1) nilC [])) ⟨rfl, rfl, rfl, trivial⟩ (rfl) (GA2_eq _ _ _ _ _ _ _ _),
    rfl,
    stt2_ok ⟨rfl, rfl, rfl, rfl, rfl, trivial⟩ rfl rfl,
    rfl,
    stt2_ok ⟨rfl, rfl, rfl, rfl, rfl, trivial⟩ rfl rfl,
    rfl,
    stt2_ok ⟨rfl, rfl, rfl, rfl, rfl, trivial⟩ rfl rfl,
    rfl,
    stt2_ok ⟨rfl, rfl, rfl, rfl, rfl, trivial⟩ rfl rfl,
    rfl,
    stt2_ok ⟨rfl, rfl, rfl, rfl, trivial⟩ rfl rfl,
    rfl,
    stt2_ok ⟨rfl, rfl, rfl, rfl, trivial⟩ rfl rfl,
    rfl,
    stt2_ok ⟨rfl, rfl, rfl, rfl, trivial⟩ rfl rfl,
    rfl,
    stt2_ok ⟨rfl, rfl, rfl, rfl, trivial⟩ rfl rfl,
    pKp_ok sn,
    pKp_ok sm, rfl⟩
def KFNuU (n m : Nat) (x y : Nat → Nat × Nat) : List Blk := HB deadB (bX m) (bX m) deadB nilC (.sl 12 0 m 1) (.sl 15 0 m 1) nilC []
noncomputable def RFNuU (n m : Nat) (x y : Nat → Nat × Nat) : Fns := ((((((((((((((((FT.addG 39 GList).addGs 40 (byPl [5] (GWtG false) (GWtG false))).addGs 41 (byPl [7] GRFwN GRFwK)).addG 43 GKept).addGs 16 (byPl [9, 18] GFwN GFwK)).addLoop 5 c44 (nearSel noLp noLp noLp noLp)).addLoop 11 c45a (LA1 m (fun _ => CU) (HB deadB (bX m) (bX m) deadB nilC (.sl 12 0 m 1) (.sl 15 0 m 1) nilC []) nilC (.sl 15 0 m 1) nilC)).addLoop 12 c45a (LA2 m (fun _ => CU) (HB deadB (syW m fun _ => (4607182418800017408, oneW)) (bX m) deadB nilC (.sl 12 0 m 1) (.sl 15 0 m 1) nilC []) nilC (.sl 12 0 m 1) nilC)).addLoop 20 c45b (LN0 (HNF0 n m))).addLoop 21 c45b (LB1 m (HNF1 n m))).addLoop 22 c45b (LB2 m (HNF2 n m))).addLoop 23 c45b (LN3 (HNF3 n m))).addLoop 30 c45c (LD0 (HNF4 n m) (.sl 12 0 m 1) (.sl 15 0 m 1) nilC (.sl 26 0 (m + 20) 1) (.sl 29 0 (m + 20) 1) (.sl 32 0 (0 + 20) 1))).addLoop 31 c45c (LC1 m (HNF4 n m) nilC (.sl 15 0 m 1) nilC (.sl 23 0 (0 + 20) 1) (.sl 29 0 (m + 20) 1) (.sl 32 0 (0 + 20) 1))).addLoop 32 c45c (LC2 m (HNF4 n m) nilC (.sl 12 0 m 1) nilC (.sl 23 0 (0 + 20) 1) (.sl 26 0 (m + 20) 1) (.sl 32 0 (0 + 20) 1))).addLoop 33 c45c (LD3 (HNF4 n m) nilC (.sl 12 0 m 1) (.sl 15 0 m 1) (.sl 23 0 (0 + 20) 1) (.sl 26 0 (m + 20) 1) (.sl 29 0 (m + 20) 1))).withCo (coTwo [.u, .u, .b false, .u, .b false, .u, .u] [.u, .u, .u, .l 11, .u, .l 12, .u, .u, .u, .u, .l 20, .u, .l 21, .u, .l 22, .u, .l 23, .u, .u, .l 30, .u, .l 31, .u, .l 32, .u, .l 33, .u])
theorem runFNuU (n m : Nat) (x y : Nat → Nat × Nat) (u : Value) : runK Tryd.prog T (RFNuU n m x y) 900 Tryd.f11 [prL n x, prL m y] [deadB, deadB, deadB] [] (fun r _ => resW r = some u) =
  obsP ((pList n x) ::
   (pList m y) ::
   (pWtG false n x) ::
   (pWtG false m y) ::
   (pNo n) ::
   (pFitL m y) ::
   (pNo n) ::
   (pTrU 1 m y) ::
   (pNe m) ::
   (pTrU 1 m y) ::
   (pNe m) ::
   (pNo n) ::
   (pKp n x) ::
   (pKp m y) ::
   (c45a = c45a) ::
   (stt2 131 [gotA, ic 1, ic 0] ((l45a 1 0).map (·.2)) (KFNuU n m x y) (GA1 m (fun _ => CU) (HB deadB (bX m) (bX m) deadB nilC (.sl 12 0 m 1) (.sl 15 0 m 1) nilC []) nilC (.sl 15 0 m 1) nilC)) ::
   (c45a = c45a) ::
   (stt2 131 [gotA, ic 2, ic 0] ((l45a 2 0).map (·.2)) (HB deadB (syW m fun _ => (4607182418800017408, oneW)) (bX m) deadB nilC (.sl 12 0 m 1) (.sl 15 0 m 1) nilC []) (GA2 m (fun _ => CU) (HB deadB (syW m fun _ => (4607182418800017408, oneW)) (bX m) deadB nilC (.sl 12 0 m 1) (.sl 15 0 m 1) nilC []) nilC (.sl 12 0 m 1) nilC)) ::
   (c45b = c45b) ::
   (stt2 131 [gotA, (.one nilC), ic 0, .one nilC, ic 0] ((l45n (.one nilC) 0 0).map (·.2)) (HNF0 n m) (HNF0 n m)) ::
   (c45b = c45b) ::
   (stt2 131 [gotA, (.one (.sl 25 0 1 1)), ic 1, .one (.sl 12 0 m 1), ic 0] ((l45b (.one (.sl 25 0 1 1)) 1 12 m 0).map (·.2)) (HNF1 n m) (HNF1 n m)) ::
   (c45b = c45b) ::
   (stt2 131 [gotA, (.one (.sl 28 0 2 1)), ic 2, .one (.sl 15 0 m 1), ic 0] ((l45b (.one (.sl 28 0 2 1)) 2 15 m 0).map (·.2)) (HNF2 n m) (HNF2 n m)) ::
   (c45b = c45b) ::
   (stt2 131 [gotA, (.one (.sl 31 0 3 1)), ic 3, .one nilC, ic 0] ((l45n (.one (.sl 31 0 3 1)) 3 0).map (·.2)) (HNF3 n m) (HNF3 n m)) ::
   (c45c = c45c) ::
   (stt2 131 [gotA, longA, ic 0, ic 0] ((l45c 0 0).map (·.2)) (HNF4 n m) (HNF4 n m)) ::
   (c45c = c45c) ::
   (stt2 131 [gotA, longA, ic 1, ic 0] ((l45c 1 0).map (·.2)) (HNF4 n m) (HNF4 n m)) ::
   (c45c = c45c) ::
   (stt2 131 [gotA, longA, ic 2, ic 0] ((l45c 2 0).map (·.2)) (HNF4 n m) (HNF4 n m)) ::
   (c45c = c45c) ::
   (stt2 131 [gotA, longA, ic 3, ic 0] ((l45c 3 0).map (·.2)) (HNF4 n m) (HNF4 n m)) ::
   (pKp n x) ::
   (pKp m y) :: []) (some (Value.bool true) = some u) := by kernel_rfl
theorem goFNuU {n m : Nat} {x y : Nat → Nat × Nat} (sn : sizeOk n) (fn : fitB n = false) (tn : tmC x n = false) (sm : sizeOk m) (fm : fitB m = true) (tm : tmC y m = false) : goodF n m x y := by
  have hm := (fit_le fm).1
  refine ⟨RFNuU n m x y, ((((((((((((((((FTok.addG gcon39).addGs (byPl_ok (gcon40G false) (gcon40G false))).addGs (byPl_ok gcon41n gcon41K)).addG gcon43).addGs (byPl_ok gcon16n gcon16K)).addLoop 5 c44 _ (nearSel_ok noLp_ok noLp_ok noLp_ok noLp_ok)).addLoop 11 c45a _ (LA1_ok hm)).addLoop 12 c45a _ (LA2_ok hm)).addLoop 20 c45b _ (LN0_ok (HNF0_e2 n m) (HNF0_ok n m))).addLoop 21 c45b _ (LB1_ok hm (HNF1_e1 n m) (HNF1_e2 n m) (HNF1_ok n m))).addLoop 22 c45b _ (LB2_ok hm (HNF2_e1 n m) (HNF2_e2 n m) (HNF2_ok n m))).addLoop 23 c45b _ (LN3_ok (HNF3_e2 n m) (HNF3_ok n m))).addLoop 30 c45c _ LD0_ok).addLoop 31 c45c _ (LC1_ok hm)).addLoop 32 c45c _ (LC2_ok hm)).addLoop 33 c45c _ LD3_ok).withCo _, ?_⟩
  rw [runFNuU]
  exact ⟨pList_ok sn,
    pList_ok sm,
    pWtG_ok sn tn,
    pWtG_ok sm tm,
    pNo_ok fn,
    pFitL_ok fm,
    pNo_ok fn,
    pTrU_ok (.inl rfl) fm,
    pNe_ok m,
    pTrU_ok (.inl rfl) fm,
    pNe_ok m,
    pNo_ok fn,
    pKp_ok sn,
    pKp_ok sm,
    rfl,
    stt2_ok (g := (HB deadB (bX m) (bX m) deadB nilC (.sl 12 0 m 1) (.sl 15 0 m 1) nilC [])) ⟨rfl, rfl, rfl, trivial⟩ (rfl) (GA1_eq _ _ _ _ _ _ _ _),
    rfl,
    stt2_ok (g := (HB deadB (syW m fun _ => (4607182418800017408, oneW)) (bX m) deadB nilC (.sl 12 0 m 1) (.sl 15 0 m 1) nilC [])) ⟨rfl, rfl, rfl, trivial⟩ (rfl) (GA2_eq _ _ _ _ _ _ _ _),
    rfl,
    stt2_ok ⟨rfl, rfl, rfl, rfl, rfl, trivial⟩ rfl rfl,
    rfl,
    stt2_ok ⟨rfl, rfl, rfl, rfl, rfl, trivial⟩ rfl rfl,
    rfl,
    stt2_ok ⟨rfl, rfl, rfl, rfl, rfl, trivial⟩ rfl rfl,
    rfl,
    stt2_ok ⟨rfl, rfl, rfl, rfl, rfl, trivial⟩ rfl rfl,
    rfl,
    stt2_ok ⟨rfl, rfl, rfl, rfl, trivial⟩ rfl rfl,
    rfl,
    stt2_ok ⟨rfl, rfl, rfl, rfl, trivial⟩ rfl rfl,
    rfl,
    stt2_ok ⟨rfl, rfl, rfl, rfl, trivial⟩ rfl rfl,
    rfl,
    stt2_ok ⟨rfl, rfl, rfl, rfl, trivial⟩ rfl rfl,
    pKp_ok sn,
    pKp_ok sm, rfl⟩
noncomputable def RFNuNt (n m : Nat) (x y : Nat → Nat × Nat) : Fns := ((((((((((((((FT.addG 39 GList).addGs 40 (byPl [5] (GWtG false) (GWtG true))).addGs 41 (byPl [7] GRFwN GRFwN)).addG 43 GKept).addGs 16 (byPl [9, 18] GFwN GFwN)).addLoop 5 c44 (nearSel noLp noLp noLp noLp)).addLoop 20 c45b (LN0 (HNN0 n m))).addLoop 21 c45b (LN1 (HNN1 n m))).addLoop 22 c45b (LN2 (HNN2 n m))).addLoop 23 c45b (LN3 (HNN3 n m))).addLoop 30 c45c (LD0 (HNN4 n m) nilC nilC nilC (.sl 26 0 (0 + 20) 1) (.sl 29 0 (0 + 20) 1) (.sl 32 0 (0 + 20) 1))).addLoop 31 c45c (LD1 (HNN4 n m) nilC nilC nilC (.sl 23 0 (0 + 20) 1) (.sl 29 0 (0 + 20) 1) (.sl 32 0 (0 + 20) 1))).addLoop 32 c45c (LD2 (HNN4 n m) nilC nilC nilC (.sl 23 0 (0 + 20) 1) (.sl 26 0 (0 + 20) 1) (.sl 32 0 (0 + 20) 1))).addLoop 33 c45c (LD3 (HNN4 n m) nilC nilC nilC (.sl 23 0 (0 + 20) 1) (.sl 26 0 (0 + 20) 1) (.sl 29 0 (0 + 20) 1))).withCo (coTwo [.u, .u, .u, .u, .u] [.u, .u, .u, .u, .u, .u, .u, .u, .u, .u, .l 20, .u, .l 21, .u, .l 22, .u, .l 23, .u, .u, .l 30, .u, .l 31, .u, .l 32, .u, .l 33, .u])
theorem runFNuNt (n m : Nat) (x y : Nat → Nat × Nat) (u : Value) : runK Tryd.prog T (RFNuNt n m x y) 900 Tryd.f11 [prL n x, prL m y] [deadB, deadB, deadB] [] (fun r _ => resW r = some u) =
  obsP ((pList n x) ::
   (pList m y) ::
   (pWtG false n x) ::
   (pWtG true m y) ::
   (pNo n) ::
   (pNo m) ::
   (pNo n) ::
   (pNo m) ::
   (pNo m) ::
   (pNo n) ::
   (pKp n x) ::
   (pKp m y) ::
   (c45b = c45b) ::
   (stt2 131 [gotA, (.one nilC), ic 0, .one nilC, ic 0] ((l45n (.one nilC) 0 0).map (·.2)) (HNN0 n m) (HNN0 n m)) ::
   (c45b = c45b) ::
   (stt2 131 [gotA, (.one (.sl 25 0 1 1)), ic 1, .one nilC, ic 0] ((l45n (.one (.sl 25 0 1 1)) 1 0).map (·.2)) (HNN1 n m) (HNN1 n m)) ::
   (c45b = c45b) ::
   (stt2 131 [gotA, (.one (.sl 28 0 2 1)), ic 2, .one nilC, ic 0] ((l45n (.one (.sl 28 0 2 1)) 2 0).map (·.2)) (HNN2 n m) (HNN2 n m)) ::
   (c45b = c45b) ::
   (stt2 131 [gotA, (.one (.sl 31 0 3 1)), ic 3, .one nilC, ic 0] ((l45n (.one (.sl 31 0 3 1)) 3 0).map (·.2)) (HNN3 n m) (HNN3 n m)) ::
   (c45c = c45c) ::
   (stt2 131 [gotA, longA, ic 0, ic 0] ((l45c 0 0).map (·.2)) (HNN4 n m) (HNN4 n m)) ::
   (c45c = c45c) ::
   (stt2 131 [gotA, longA, ic 1, ic 0] ((l45c 1 0).map (·.2)) (HNN4 n m) (HNN4 n m)) ::
   (c45c = c45c) ::
   (stt2 131 [gotA, longA, ic 2, ic 0] ((l45c 2 0).map (·.2)) (HNN4 n m) (HNN4 n m)) ::
   (c45c = c45c) ::
   (stt2 131 [gotA, longA, ic 3, ic 0] ((l45c 3 0).map (·.2)) (HNN4 n m) (HNN4 n m)) ::
   (pKp n x) ::
   (pKp m y) :: []) (some (Value.bool true) = some u) := by kernel_rfl
theorem goFNuNt {n m : Nat} {x y : Nat → Nat × Nat} (sn : sizeOk n) (fn : fitB n = false) (tn : tmC x n = false) (sm : sizeOk m) (fm : fitB m = false) (tm : tmC y m = true) : goodF n m x y := by
  refine ⟨RFNuNt n m x y, ((((((((((((((FTok.addG gcon39).addGs (byPl_ok (gcon40G false) (gcon40G true))).addGs (byPl_ok gcon41n gcon41n)).addG gcon43).addGs (byPl_ok gcon16n gcon16n)).addLoop 5 c44 _ (nearSel_ok noLp_ok noLp_ok noLp_ok noLp_ok)).addLoop 20 c45b _ (LN0_ok (HNN0_e2 n m) (HNN0_ok n m))).addLoop 21 c45b _ (LN1_ok (HNN1_e2 n m) (HNN1_ok n m))).addLoop 22 c45b _ (LN2_ok (HNN2_e2 n m) (HNN2_ok n m))).addLoop 23 c45b _ (LN3_ok (HNN3_e2 n m) (HNN3_ok n m))).addLoop 30 c45c _ LD0_ok).addLoop 31 c45c _ LD1_ok).addLoop 32 c45c _ LD2_ok).addLoop 33 c45c _ LD3_ok).withCo _, ?_⟩
  rw [runFNuNt]
  exact ⟨pList_ok sn,
    pList_ok sm,
    pWtG_ok sn tn,
    pWtG_ok sm tm,
    pNo_ok fn,
    pNo_ok fm,
    pNo_ok fn,
    pNo_ok fm,
    pNo_ok fm,
    pNo_ok fn,
    pKp_ok sn,
    pKp_ok sm,
    rfl,
    stt2_ok ⟨rfl, rfl, rfl, rfl, rfl, trivial⟩ rfl rfl,
    rfl,
    stt2_ok ⟨rfl, rfl, rfl, rfl, rfl, trivial⟩ rfl rfl,
    rfl,
    stt2_ok ⟨rfl, rfl, rfl, rfl, rfl, trivial⟩ rfl rfl,
    rfl,
    stt2_ok ⟨rfl, rfl, rfl, rfl, rfl, trivial⟩ rfl rfl,
    rfl,
    stt2_ok ⟨rfl, rfl, rfl, rfl, trivial⟩ rfl rfl,
    rfl,
    stt2_ok ⟨rfl, rfl, rfl, rfl, trivial⟩ rfl rfl,
    rfl,
    stt2_ok ⟨rfl, rfl, rfl, rfl, trivial⟩ rfl rfl,
    rfl,
    stt2_ok ⟨rfl, rfl, rfl, rfl, trivial⟩ rfl rfl,
    pKp_ok sn,
    pKp_ok sm, rfl⟩
noncomputable def RFNuNu (n m : Nat) (x y : Nat → Nat × Nat) : Fns := ((((((((((((((FT.addG 39 GList).addGs 40 (byPl [5] (GWtG false) (GWtG false))).addGs 41 (byPl [7] GRFwN GRFwN)).addG 43 GKept).addGs 16 (byPl [9, 18] GFwN GFwN)).addLoop 5 c44 (nearSel noLp noLp noLp noLp)).addLoop 20 c45b (LN0 (HNN0 n m))).addLoop 21 c45b (LN1 (HNN1 n m))).addLoop 22 c45b (LN2 (HNN2 n m))).addLoop 23 c45b (LN3 (HNN3 n m))).addLoop 30 c45c (LD0 (HNN4 n m) nilC nilC nilC (.sl 26 0 (0 + 20) 1) (.sl 29 0 (0 + 20) 1) (.sl 32 0 (0 + 20) 1))).addLoop 31 c45c (LD1 (HNN4 n m) nilC nilC nilC (.sl 23 0 (0 + 20) 1) (.sl 29 0 (0 + 20) 1) (.sl 32 0 (0 + 20) 1))).addLoop 32 c45c (LD2 (HNN4 n m) nilC nilC nilC (.sl 23 0 (0 + 20) 1) (.sl 26 0 (0 + 20) 1) (.sl 32 0 (0 + 20) 1))).addLoop 33 c45c (LD3 (HNN4 n m) nilC nilC nilC (.sl 23 0 (0 + 20) 1) (.sl 26 0 (0 + 20) 1) (.sl 29 0 (0 + 20) 1))).withCo (coTwo [.u, .u, .u, .u, .u] [.u, .u, .u, .u, .u, .u, .u, .u, .u, .u, .l 20, .u, .l 21, .u, .l 22, .u, .l 23, .u, .u, .l 30, .u, .l 31, .u, .l 32, .u, .l 33, .u])
theorem runFNuNu (n m : Nat) (x y : Nat → Nat × Nat) (u : Value) : runK Tryd.prog T (RFNuNu n m x y) 900 Tryd.f11 [prL n x, prL m y] [deadB, deadB, deadB] [] (fun r _ => resW r = some u) =
  obsP ((pList n x) ::
   (pList m y) ::
   (pWtG false n x) ::
   (pWtG false m y) ::
   (pNo n) ::
   (pNo m) ::
   (pNo n) ::
   (pNo m) ::
   (pNo m) ::
   (pNo n) ::
   (pKp n x) ::
   (pKp m y) ::
   (c45b = c45b) ::
   (stt2 131 [gotA, (.one nilC), ic 0, .one nilC, ic 0] ((l45n (.one nilC) 0 0).map (·.2)) (HNN0 n m) (HNN0 n m)) ::
   (c45b = c45b) ::
   (stt2 131 [gotA, (.one (.sl 25 0 1 1)), ic 1, .one nilC, ic 0] ((l45n (.one (.sl 25 0 1 1)) 1 0).map (·.2)) (HNN1 n m) (HNN1 n m)) ::
   (c45b = c45b) ::
   (stt2 131 [gotA, (.one (.sl 28 0 2 1)), ic 2, .one nilC, ic 0] ((l45n (.one (.sl 28 0 2 1)) 2 0).map (·.2)) (HNN2 n m) (HNN2 n m)) ::
   (c45b = c45b) ::
   (stt2 131 [gotA, (.one (.sl 31 0 3 1)), ic 3, .one nilC, ic 0] ((l45n (.one (.sl 31 0 3 1)) 3 0).map (·.2)) (HNN3 n m) (HNN3 n m)) ::
   (c45c = c45c) ::
   (stt2 131 [gotA, longA, ic 0, ic 0] ((l45c 0 0).map (·.2)) (HNN4 n m) (HNN4 n m)) ::
   (c45c = c45c) ::
   (stt2 131 [gotA, longA, ic 1, ic 0] ((l45c 1 0).map (·.2)) (HNN4 n m) (HNN4 n m)) ::
   (c45c = c45c) ::
   (stt2 131 [gotA, longA, ic 2, ic 0] ((l45c 2 0).map (·.2)) (HNN4 n m) (HNN4 n m)) ::
   (c45c = c45c) ::
   (stt2 131 [gotA, longA, ic 3, ic 0] ((l45c 3 0).map (·.2)) (HNN4 n m) (HNN4 n m)) ::
   (pKp n x) ::
   (pKp m y) :: []) (some (Value.bool true) = some u) := by kernel_rfl
theorem goFNuNu {n m : Nat} {x y : Nat → Nat × Nat} (sn : sizeOk n) (fn : fitB n = false) (tn : tmC x n = false) (sm : sizeOk m) (fm : fitB m = false) (tm : tmC y m = false) : goodF n m x y := by
  refine ⟨RFNuNu n m x y, ((((((((((((((FTok.addG gcon39).addGs (byPl_ok (gcon40G false) (gcon40G false))).addGs (byPl_ok gcon41n gcon41n)).addG gcon43).addGs (byPl_ok gcon16n gcon16n)).addLoop 5 c44 _ (nearSel_ok noLp_ok noLp_ok noLp_ok noLp_ok)).addLoop 20 c45b _ (LN0_ok (HNN0_e2 n m) (HNN0_ok n m))).addLoop 21 c45b _ (LN1_ok (HNN1_e2 n m) (HNN1_ok n m))).addLoop 22 c45b _ (LN2_ok (HNN2_e2 n m) (HNN2_ok n m))).addLoop 23 c45b _ (LN3_ok (HNN3_e2 n m) (HNN3_ok n m))).addLoop 30 c45c _ LD0_ok).addLoop 31 c45c _ LD1_ok).addLoop 32 c45c _ LD2_ok).addLoop 33 c45c _ LD3_ok).withCo _, ?_⟩
  rw [runFNuNu]
  exact ⟨pList_ok sn,
    pList_ok sm,
    pWtG_ok sn tn,
    pWtG_ok sm tm,
    pNo_ok fn,
    pNo_ok fm,
    pNo_ok fn,
    pNo_ok fm,
    pNo_ok fm,
    pNo_ok fn,
    pKp_ok sn,
    pKp_ok sm,
    rfl,
    stt2_ok ⟨rfl, rfl, rfl, rfl, rfl, trivial⟩ rfl rfl,
    rfl,
    stt2_ok ⟨rfl, rfl, rfl, rfl, rfl, trivial⟩ rfl rfl,
    rfl,
    stt2_ok ⟨rfl, rfl, rfl, rfl, rfl, trivial⟩ rfl rfl,
    rfl,
    stt2_ok ⟨rfl, rfl, rfl, rfl, rfl, trivial⟩ rfl rfl,
    rfl,
    stt2_ok ⟨rfl, rfl, rfl, rfl, trivial⟩ rfl rfl,
    rfl,
    stt2_ok ⟨rfl, rfl, rfl, rfl, trivial⟩ rfl rfl,
    rfl,
    stt2_ok ⟨rfl, rfl, rfl, rfl, trivial⟩ rfl rfl,
    rfl,
    stt2_ok ⟨rfl, rfl, rfl, rfl, trivial⟩ rfl rfl,
    pKp_ok sn,
    pKp_ok sm, rfl⟩
theorem allF {n m : Nat} {x y : Nat → Nat × Nat} (sn : sizeOk n) (sm : sizeOk m) (kn : fitB n = true → tmC x n = true → okTF n x) (km : fitB m = true → tmC y m = true → okTF m y) : goodF n m x y := by
  cases fn : fitB n <;> cases tn : tmC x n <;> cases fm : fitB m <;> cases tm : tmC y m
  · exact goFNuNu sn fn tn sm fm tm
  · exact goFNuNt sn fn tn sm fm tm
  · exact goFNuU sn fn tn sm fm tm
  · exact goFNuT sn fn tn sm fm tm (km fm tm)
  · exact goFNtNu sn fn tn sm fm tm
  · exact goFNtNt sn fn tn sm fm tm
  · exact goFNtU sn fn tn sm fm tm
  · exact goFNtT sn fn tn sm fm tm (km fm tm)
  · exact goFUNu sn fn tn sm fm tm
  · exact goFUNt sn fn tn sm fm tm
  · exact goFUU sn fn tn sm fm tm
  · exact goFUT sn fn tn sm fm tm (km fm tm)
  · exact goFTNu sn fn tn (kn fn tn) sm fm tm
  · exact goFTNt sn fn tn (kn fn tn) sm fm tm
  · exact goFTU sn fn tn (kn fn tn) sm fm tm
  · exact goFTT sn fn tn (kn fn tn) sm fm tm (km fm tm)
end Go.Proofs.YthddkcoflnbjbaaDoor
