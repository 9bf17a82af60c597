/-
  What is proved here: the whole runs of WaveBack. A text to be imported.
-/
import Derived.Test.YthddkcoflnbjbaaDoorQCon63
namespace Go.Proofs.YthddkcoflnbjbaaDoor
open Sm Go Go.RowKit Fl Ieee
set_option maxRecDepth 1000000
set_option linter.unusedVariables false
def okTB (n : Nat) (x : Nat → Nat × Nat) : Prop := okWt n x ∧ okSm n x (twP (-1) n) ∧ okQ n (smL n x (twP (-1) n)) ∧ okBk n (pC n x) ∧ fok .add .f64 4607182418800017408 (smC x n) = true ∧ fok .mul .f64 4476910133257361045 (fbin .add .f64 4607182418800017408 (smC x n)) = true ∧ ∀ i, i < n → okN1 (zeB n x i) (rB n x i) (bW n x)
def goodB (n m : Nat) (x y : Nat → Nat × Nat) : Prop := ∃ F, FnsOk Tryd.prog F ∧ runK Tryd.prog T F 900 Tryd.f12 [prL n x, prL m y] [deadB] [] (fun r _ => resW r = some (.bool true))
def KBTT (n m : Nat) (x y : Nat → Nat × Nat) : List Blk := HB (bY n (zeB n x)) (bY m (zeB m y)) (bY m (zeB m y)) (bY n (zeB n x)) (.sl 9 0 n 1) (.sl 12 0 m 1) (.sl 15 0 m 1) (.sl 18 0 n 1) []
noncomputable def RBTT (n m : Nat) (x y : Nat → Nat × Nat) : Fns := (((((((((((((((((((FT.addG 39 GList).addGs 40 (byPl [3] GWtT GWtT)).addGs 41 (byPl [5] GRFwK GRFwK)).addGs 42 (byPl [7] GRBk GRBk)).addG 43 GKept).addGs 21 (byPl [9, 18] GBackL GBackL)).addLoop 5 c44 (nearSel (nearC 9 n (zeB n x) (rB n x) (bW n x) (KBTT n m x y)) (nearC 12 m (zeB m y) (rB m y) (bW m y) (KBTT n m x y)) (nearC 15 m (zeB m y) (rB m y) (bW m y) (KBTT n m x y)) (nearC 18 n (zeB n x) (rB n x) (bW n x) (KBTT n m x y)))).addLoop 10 c45a (LA0 n (fun k => CC ((zeB n x) k)) (KBTT n m x y) (.sl 12 0 m 1) (.sl 15 0 m 1) (.sl 18 0 n 1))).addLoop 11 c45a (LA1 m (fun k => CC ((zeB m y) k)) (HB (syW n fun _ => (0, oneW)) (bY m (zeB m y)) (bY m (zeB m y)) (bY n (zeB n x)) (.sl 9 0 n 1) (.sl 12 0 m 1) (.sl 15 0 m 1) (.sl 18 0 n 1) []) (.sl 9 0 n 1) (.sl 15 0 m 1) (.sl 18 0 n 1))).addLoop 12 c45a (LA2 m (fun k => CC ((zeB m y) k)) (HB (syW n fun _ => (0, oneW)) (syW m fun _ => (4607182418800017408, oneW)) (bY m (zeB m y)) (bY n (zeB n x)) (.sl 9 0 n 1) (.sl 12 0 m 1) (.sl 15 0 m 1) (.sl 18 0 n 1) []) (.sl 9 0 n 1) (.sl 12 0 m 1) (.sl 18 0 n 1))).addLoop 13 c45a (LA3 n (fun k => CC ((zeB n x) k)) (HB (syW n fun _ => (0, oneW)) (syW m fun _ => (4607182418800017408, oneW)) (syW m fun _ => (4611686018427387904, oneW)) (bY n (zeB n x)) (.sl 9 0 n 1) (.sl 12 0 m 1) (.sl 15 0 m 1) (.sl 18 0 n 1) []) (.sl 9 0 n 1) (.sl 12 0 m 1) (.sl 15 0 m 1))).addLoop 20 c45b (LB0 n (HFF0 n m))).addLoop 21 c45b (LB1 m (HFF1 n m))).addLoop 22 c45b (LB2 m (HFF2 n m))).addLoop 23 c45b (LB3 n (HFF3 n m))).addLoop 30 c45c (LC0 n (HFF4 n m) (.sl 12 0 m 1) (.sl 15 0 m 1) (.sl 18 0 n 1) (.sl 26 0 (m + 20) 1) (.sl 29 0 (m + 20) 1) (.sl 32 0 (n + 20) 1))).addLoop 31 c45c (LC1 m (HFF4 n m) (.sl 9 0 n 1) (.sl 15 0 m 1) (.sl 18 0 n 1) (.sl 23 0 (n + 20) 1) (.sl 29 0 (m + 20) 1) (.sl 32 0 (n + 20) 1))).addLoop 32 c45c (LC2 m (HFF4 n m) (.sl 9 0 n 1) (.sl 12 0 m 1) (.sl 18 0 n 1) (.sl 23 0 (n + 20) 1) (.sl 26 0 (m + 20) 1) (.sl 32 0 (n + 20) 1))).addLoop 33 c45c (LC3 n (HFF4 n m) (.sl 9 0 n 1) (.sl 12 0 m 1) (.sl 15 0 m 1) (.sl 23 0 (n + 20) 1) (.sl 26 0 (m + 20) 1) (.sl 29 0 (m + 20) 1))).withCo (coTwo [.u, .b false, .u, .b false, .u, .b false, .u, .b false, .u] [.u, .l 10, .u, .l 11, .u, .l 12, .u, .l 13, .u, .u, .l 20, .u, .l 21, .u, .l 22, .u, .l 23, .u, .u, .l 30, .u, .l 31, .u, .l 32, .u, .l 33, .u])
theorem runBTT (n m : Nat) (x y : Nat → Nat × Nat) (u : Value) : runK Tryd.prog T (RBTT n m x y) 900 Tryd.f12 [prL n x, prL m y] [deadB] [] (fun r _ => resW r = some u) =
  obsP ((pList n x) ::
   (pList m y) ::
   (pWtT n x) ::
   (pWtT m y) ::
   (pFitL n x) ::
   (pFitL m y) ::
   (pBkT n x) ::
   (pBkT m y) ::
   (pTrB n x) ::
   (pNe n) ::
   (pTrB m y) ::
   (pNe m) ::
   (pTrB m y) ::
   (pNe m) ::
   (pTrB n x) ::
   (pNe n) ::
   (pKp n x) ::
   (pKp m y) ::
   (pB1 n x) ::
   (pB2 n x) ::
   (pNe n) ::
   (c44 = c44) ::
   (stt2 47 [.one (.sl 9 0 n 1), prL n (rB n x), AFl (bW n x), ic 0] ((l44 9 n (rB n x) (bW n x) 0).map (·.2)) (KBTT n m x y) (nearH 9 n (zeB n x) (KBTT n m x y))) ::
   (pB1 n x) ::
   (pB2 n x) ::
   (pNe n) ::
   (c44 = c44) ::
   (stt2 47 [.one (.sl 18 0 n 1), prL n (rB n x), AFl (bW n x), ic 0] ((l44 18 n (rB n x) (bW n x) 0).map (·.2)) (nearH 9 n (zeB n x) (KBTT n m x y)) (nearH 18 n (zeB n x) (KBTT n m x y))) ::
   (pB1 m y) ::
   (pB2 m y) ::
   (pNe m) ::
   (c44 = c44) ::
   (stt2 47 [.one (.sl 12 0 m 1), prL m (rB m y), AFl (bW m y), ic 0] ((l44 12 m (rB m y) (bW m y) 0).map (·.2)) (nearH 18 n (zeB n x) (KBTT n m x y)) (nearH 12 m (zeB m y) (KBTT n m x y))) ::
   (pB1 m y) ::
   (pB2 m y) ::
   (pNe m) ::
   (c44 = c44) ::
   (stt2 47 [.one (.sl 15 0 m 1), prL m (rB m y), AFl (bW m y), ic 0] ((l44 15 m (rB m y) (bW m y) 0).map (·.2)) (nearH 12 m (zeB m y) (KBTT n m x y)) (nearH 15 m (zeB m y) (KBTT n m x y))) ::
   (c45a = c45a) ::
   (stt2 131 [gotA, ic 0, ic 0] ((l45a 0 0).map (·.2)) (nearH 15 m (zeB m y) (KBTT n m x y)) (GA0 n (fun k => CC ((zeB n x) k)) (KBTT n m x y) (.sl 12 0 m 1) (.sl 15 0 m 1) (.sl 18 0 n 1))) ::
   (c45a = c45a) ::
   (stt2 131 [gotA, ic 1, ic 0] ((l45a 1 0).map (·.2)) (HB (syW n fun _ => (0, oneW)) (bY m (zeB m y)) (bY m (zeB m y)) (bY n (zeB n x)) (.sl 9 0 n 1) (.sl 12 0 m 1) (.sl 15 0 m 1) (.sl 18 0 n 1) []) (GA1 m (fun k => CC ((zeB m y) k)) (HB (syW n fun _ => (0, oneW)) (bY m (zeB m y)) (bY m (zeB m y)) (bY n (zeB n x)) (.sl 9 0 n 1) (.sl 12 0 m 1) (.sl 15 0 m 1) (.sl 18 0 n 1) []) (.sl 9 0 n 1) (.sl 15 0 m 1) (.sl 18 0 n 1))) ::
   (c45a = c45a) ::
   (stt2 131 [gotA, ic 2, ic 0] ((l45a 2 0).map (·.2)) (HB (syW n fun _ => (0, oneW)) (syW m fun _ => (4607182418800017408, oneW)) (bY m (zeB m y)) (bY n (zeB n x)) (.sl 9 0 n 1) (.sl 12 0 m 1) (.sl 15 0 m 1) (.sl 18 0 n 1) []) (GA2 m (fun k => CC ((zeB m y) k)) (HB (syW n fun _ => (0, oneW)) (syW m fun _ => (4607182418800017408, oneW)) (bY m (zeB m y)) (bY n (zeB n x)) (.sl 9 0 n 1) (.sl 12 0 m 1) (.sl 15 0 m 1) (.sl 18 0 n 1) []) (.sl 9 0 n 1) (.sl 12 0 m 1) (.sl 18 0 n 1))) ::
   (c45a = c45a) ::
   (stt2 131 [gotA, ic 3, ic 0] ((l45a 3 0).map (·.2)) (HB (syW n fun _ => (0, oneW)) (syW m fun _ => (4607182418800017408, oneW)) (syW m fun _ => (4611686018427387904, oneW)) (bY n (zeB n x)) (.sl 9 0 n 1) (.sl 12 0 m 1) (.sl 15 0 m 1) (.sl 18 0 n 1) []) (GA3 n (fun k => CC ((zeB n x) k)) (HB (syW n fun _ => (0, oneW)) (syW m fun _ => (4607182418800017408, oneW)) (syW m fun _ => (4611686018427387904, oneW)) (bY n (zeB n x)) (.sl 9 0 n 1) (.sl 12 0 m 1) (.sl 15 0 m 1) (.sl 18 0 n 1) []) (.sl 9 0 n 1) (.sl 12 0 m 1) (.sl 15 0 m 1))) ::
   (c45b = c45b) ::
   (stt2 131 [gotA, (.one nilC), ic 0, .one (.sl 9 0 n 1), ic 0] ((l45b (.one nilC) 0 9 n 0).map (·.2)) (HFF0 n m) (HFF0 n m)) ::
   (c45b = c45b) ::
   (stt2 131 [gotA, (.one (.sl 25 0 1 1)), ic 1, .one (.sl 12 0 m 1), ic 0] ((l45b (.one (.sl 25 0 1 1)) 1 12 m 0).map (·.2)) (HFF1 n m) (HFF1 n m)) ::
   (c45b = c45b) ::
   (stt2 131 [gotA, (.one (.sl 28 0 2 1)), ic 2, .one (.sl 15 0 m 1), ic 0] ((l45b (.one (.sl 28 0 2 1)) 2 15 m 0).map (·.2)) (HFF2 n m) (HFF2 n m)) ::
   (c45b = c45b) ::
   (stt2 131 [gotA, (.one (.sl 31 0 3 1)), ic 3, .one (.sl 18 0 n 1), ic 0] ((l45b (.one (.sl 31 0 3 1)) 3 18 n 0).map (·.2)) (HFF3 n m) (HFF3 n m)) ::
   (c45c = c45c) ::
   (stt2 131 [gotA, longA, ic 0, ic 0] ((l45c 0 0).map (·.2)) (HFF4 n m) (HFF4 n m)) ::
   (c45c = c45c) ::
   (stt2 131 [gotA, longA, ic 1, ic 0] ((l45c 1 0).map (·.2)) (HFF4 n m) (HFF4 n m)) ::
   (c45c = c45c) ::
   (stt2 131 [gotA, longA, ic 2, ic 0] ((l45c 2 0).map (·.2)) (HFF4 n m) (HFF4 n m)) ::
   (c45c = c45c) ::
   (stt2 131 [gotA, longA, ic 3, ic 0] ((l45c 3 0).map (·.2)) (HFF4 n m) (HFF4 n m)) ::
   (pKp n x) ::
   (pKp m y) :: []) (some (Value.bool true) = some u) := by kernel_rfl
theorem goBTT {n m : Nat} {x y : Nat → Nat × Nat} (sn : sizeOk n) (fn : fitB n = true) (tn : tmC x n = true) (kn : okTB n x) (sm : sizeOk m) (fm : fitB m = true) (tm : tmC y m = true) (km : okTB m y) : goodB n m x y := by
  have hn := (fit_le fn).1
  obtain ⟨wn, mn, qn, rn, bn, cn, on⟩ := kn
  have hm := (fit_le fm).1
  obtain ⟨wm, mm, qm, rm, bm, cm, om⟩ := km
  refine ⟨RBTT n m x y, (((((((((((((((((((FTok.addG gcon39).addGs (byPl_ok gcon40T gcon40T)).addGs (byPl_ok gcon41K gcon41K)).addGs (byPl_ok gcon42 gcon42)).addG gcon43).addGs (byPl_ok gcon21L gcon21L)).addLoop 5 c44 _ (nearSel_ok (near9_ok hn on) (near12_ok hm om) (near15_ok hm om) (near18_ok hn on))).addLoop 10 c45a _ (LA0_ok hn)).addLoop 11 c45a _ (LA1_ok hm)).addLoop 12 c45a _ (LA2_ok hm)).addLoop 13 c45a _ (LA3_ok hn)).addLoop 20 c45b _ (LB0_ok hn (HFF0_e1 n m) (HFF0_e2 n m) (HFF0_ok n m))).addLoop 21 c45b _ (LB1_ok hm (HFF1_e1 n m) (HFF1_e2 n m) (HFF1_ok n m))).addLoop 22 c45b _ (LB2_ok hm (HFF2_e1 n m) (HFF2_e2 n m) (HFF2_ok n m))).addLoop 23 c45b _ (LB3_ok hn (HFF3_e1 n m) (HFF3_e2 n m) (HFF3_ok n m))).addLoop 30 c45c _ (LC0_ok hn)).addLoop 31 c45c _ (LC1_ok hm)).addLoop 32 c45c _ (LC2_ok hm)).addLoop 33 c45c _ (LC3_ok hn)).withCo _, ?_⟩
  rw [runBTT]
  exact ⟨pList_ok sn,
    pList_ok sm,
    pWtT_ok sn tn wn,
    pWtT_ok sm tm wm,
    pFitL_ok fn,
    pFitL_ok fm,
    pBkT_ok fn mn qn,
    pBkT_ok fm mm qm,
    pTrB_ok rn,
    pNe_ok n,
    pTrB_ok rm,
    pNe_ok m,
    pTrB_ok rm,
    pNe_ok m,
    pTrB_ok rn,
    pNe_ok n,
    pKp_ok sn,
    pKp_ok sm,
    bn,
    cn,
    pNe_ok n,
    rfl,
    stt2_ok (g := (KBTT n m x y)) ⟨rfl, rfl, rfl, rfl, trivial⟩ (rfl) (nearH9_eq _ _ _ _ _ _ _ _ _),
    bn,
    cn,
    pNe_ok n,
    rfl,
    stt2_ok (g := (KBTT n m x y)) ⟨rfl, rfl, rfl, rfl, trivial⟩ (nearH9_eq _ _ _ _ _ _ _ _ _) (nearH18_eq _ _ _ _ _ _ _ _ _),
    bm,
    cm,
    pNe_ok m,
    rfl,
    stt2_ok (g := (KBTT n m x y)) ⟨rfl, rfl, rfl, rfl, trivial⟩ (nearH18_eq _ _ _ _ _ _ _ _ _) (nearH12_eq _ _ _ _ _ _ _ _ _),
    bm,
    cm,
    pNe_ok m,
    rfl,
    stt2_ok (g := (KBTT n m x y)) ⟨rfl, rfl, rfl, rfl, trivial⟩ (nearH12_eq _ _ _ _ _ _ _ _ _) (nearH15_eq _ _ _ _ _ _ _ _ _),
    rfl,
    stt2_ok (g := (KBTT n m x y)) ⟨rfl, rfl, rfl, trivial⟩ (nearH15_eq _ _ _ _ _ _ _ _ _) (GA0_eq _ _ _ _ _ _ _ _),
    rfl,
    stt2_ok (g := (HB (syW n fun _ => (0, oneW)) (bY m (zeB m y)) (bY m (zeB m y)) (bY n (zeB n x)) (.sl 9 0 n 1) (.sl 12 0 m 1) (.sl 15 0 m 1) (.sl 18 0 n 1) [])) ⟨rfl, rfl, rfl, trivial⟩ (rfl) (GA1_eq _ _ _ _ _ _ _ _),
    rfl,
    stt2_ok (g := (HB (syW n fun _ => (0, oneW)) (syW m fun _ => (4607182418800017408, oneW)) (bY m (zeB m y)) (bY n (zeB n x)) (.sl 9 0 n 1) (.sl 12 0 m 1) (.sl 15 0 m 1) (.sl 18 0 n 1) [])) ⟨rfl, rfl, rfl, trivial⟩ (rfl) (GA2_eq _ _ _ _ _ _ _ _),
    rfl,
    stt2_ok (g := (HB (syW n fun _ => (0, oneW)) (syW m fun _ => (4607182418800017408, oneW)) (syW m fun _ => (4611686018427387904, oneW)) (bY n (zeB n x)) (.sl 9 0 n 1) (.sl 12 0 m 1) (.sl 15 0 m 1) (.sl 18 0 n 1) [])) ⟨rfl, rfl, rfl, trivial⟩ (rfl) (GA3_eq _ _ _ _ _ _ _ _),
    rfl,
    stt2_ok ⟨rfl, rfl, rfl, rfl, rfl, trivial⟩ rfl rfl,
    rfl,
    stt2_ok ⟨rfl, rfl, rfl, rfl, rfl, trivial⟩ rfl rfl,
    rfl,
    stt2_ok ⟨rfl, rfl, rfl, rfl, rfl, trivial⟩ rfl rfl,
    rfl,
    stt2_ok ⟨rfl, rfl, rfl, rfl, rfl, trivial⟩ rfl rfl,
    rfl,
    stt2_ok ⟨rfl, rfl, rfl, rfl, trivial⟩ rfl rfl,
    rfl,
    stt2_ok ⟨rfl, rfl, rfl, rfl, trivial⟩ rfl rfl,
    rfl,
    stt2_ok ⟨rfl, rfl, rfl, rfl, trivial⟩ rfl rfl,
    rfl,
    stt2_ok ⟨rfl, rfl, rfl, rfl, trivial⟩ rfl rfl,
    pKp_ok sn,
    pKp_ok sm, rfl⟩
def KBTU (n m : Nat) (x y : Nat → Nat × Nat) : List Blk := HB (bY n (zeB n x)) (bX m) (bX m) (bY n (zeB n x)) (.sl 9 0 n 1) (.sl 12 0 m 1) (.sl 15 0 m 1) (.sl 18 0 n 1) []
noncomputable def RBTU (n m : Nat) (x y : Nat → Nat × Nat) : Fns := (((((((((((((((((((FT.addG 39 GList).addGs 40 (byPl [3] GWtT (GWtG false))).addGs 41 (byPl [5] GRFwK GRFwK)).addGs 42 (byPl [7] GRBk GRFwK)).addG 43 GKept).addGs 21 (byPl [9, 18] GBackL GBkK)).addLoop 5 c44 (nearSel (nearC 9 n (zeB n x) (rB n x) (bW n x) (KBTU n m x y)) noLp noLp (nearC 18 n (zeB n x) (rB n x) (bW n x) (KBTU n m x y)))).addLoop 10 c45a (LA0 n (fun k => CC ((zeB n x) k)) (KBTU n m x y) (.sl 12 0 m 1) (.sl 15 0 m 1) (.sl 18 0 n 1))).addLoop 11 c45a (LA1 m (fun _ => CU) (HB (syW n fun _ => (0, oneW)) (bX m) (bX m) (bY n (zeB n x)) (.sl 9 0 n 1) (.sl 12 0 m 1) (.sl 15 0 m 1) (.sl 18 0 n 1) []) (.sl 9 0 n 1) (.sl 15 0 m 1) (.sl 18 0 n 1))).addLoop 12 c45a (LA2 m (fun _ => CU) (HB (syW n fun _ => (0, oneW)) (syW m fun _ => (4607182418800017408, oneW)) (bX m) (bY n (zeB n x)) (.sl 9 0 n 1) (.sl 12 0 m 1) (.sl 15 0 m 1) (.sl 18 0 n 1) []) (.sl 9 0 n 1) (.sl 12 0 m 1) (.sl 18 0 n 1))).addLoop 13 c45a (LA3 n (fun k => CC ((zeB n x) k)) (HB (syW n fun _ => (0, oneW)) (syW m fun _ => (4607182418800017408, oneW)) (syW m fun _ => (4611686018427387904, oneW)) (bY n (zeB n x)) (.sl 9 0 n 1) (.sl 12 0 m 1) (.sl 15 0 m 1) (.sl 18 0 n 1) []) (.sl 9 0 n 1) (.sl 12 0 m 1) (.sl 15 0 m 1))).addLoop 20 c45b (LB0 n (HFF0 n m))).addLoop 21 c45b (LB1 m (HFF1 n m))).addLoop 22 c45b (LB2 m (HFF2 n m))).addLoop 23 c45b (LB3 n (HFF3 n m))).addLoop 30 c45c (LC0 n (HFF4 n m) (.sl 12 0 m 1) (.sl 15 0 m 1) (.sl 18 0 n 1) (.sl 26 0 (m + 20) 1) (.sl 29 0 (m + 20) 1) (.sl 32 0 (n + 20) 1))).addLoop 31 c45c (LC1 m (HFF4 n m) (.sl 9 0 n 1) (.sl 15 0 m 1) (.sl 18 0 n 1) (.sl 23 0 (n + 20) 1) (.sl 29 0 (m + 20) 1) (.sl 32 0 (n + 20) 1))).addLoop 32 c45c (LC2 m (HFF4 n m) (.sl 9 0 n 1) (.sl 12 0 m 1) (.sl 18 0 n 1) (.sl 23 0 (n + 20) 1) (.sl 26 0 (m + 20) 1) (.sl 32 0 (n + 20) 1))).addLoop 33 c45c (LC3 n (HFF4 n m) (.sl 9 0 n 1) (.sl 12 0 m 1) (.sl 15 0 m 1) (.sl 23 0 (n + 20) 1) (.sl 26 0 (m + 20) 1) (.sl 29 0 (m + 20) 1))).withCo (coTwo [.u, .b false, .u, .b false, .u, .b false, .u, .b false, .u] [.u, .l 10, .u, .l 11, .u, .l 12, .u, .l 13, .u, .u, .l 20, .u, .l 21, .u, .l 22, .u, .l 23, .u, .u, .l 30, .u, .l 31, .u, .l 32, .u, .l 33, .u])
theorem runBTU (n m : Nat) (x y : Nat → Nat × Nat) (u : Value) : runK Tryd.prog T (RBTU n m x y) 900 Tryd.f12 [prL n x, prL m y] [deadB] [] (fun r _ => resW r = some u) =
  obsP ((pList n x) ::
   (pList m y) ::
   (pWtT n x) ::
   (pWtG false m y) ::
   (pFitL n x) ::
   (pFitL m y) ::
   (pBkT n x) ::
   (pFitL m y) ::
   (pTrB n x) ::
   (pNe n) ::
   (pTrU (-1) m y) ::
   (pNe m) ::
   (pTrU (-1) m y) ::
   (pNe m) ::
   (pTrB n x) ::
   (pNe n) ::
   (pKp n x) ::
   (pKp m y) ::
   (pB1 n x) ::
   (pB2 n x) ::
   (pNe n) ::
   (c44 = c44) ::
   (stt2 47 [.one (.sl 9 0 n 1), prL n (rB n x), AFl (bW n x), ic 0] ((l44 9 n (rB n x) (bW n x) 0).map (·.2)) (KBTU n m x y) (nearH 9 n (zeB n x) (KBTU n m x y))) ::
   (pB1 n x) ::
   (pB2 n x) ::
   (pNe n) ::
   (c44 = c44) ::
   (stt2 47 [.one (.sl 18 0 n 1), prL n (rB n x), AFl (bW n x), ic 0] ((l44 18 n (rB n x) (bW n x) 0).map (·.2)) (nearH 9 n (zeB n x) (KBTU n m x y)) (nearH 18 n (zeB n x) (KBTU n m x y))) ::
   (c45a = c45a) ::
   (stt2 131 [gotA, ic 0, ic 0] ((l45a 0 0).map (·.2)) (nearH 18 n (zeB n x) (KBTU n m x y)) (GA0 n (fun k => CC ((zeB n x) k)) (KBTU n m x y) (.sl 12 0 m 1) (.sl 15 0 m 1) (.sl 18 0 n 1))) ::
   (c45a = c45a) ::
   (stt2 131 [gotA, ic 1, ic 0] ((l45a 1 0).map (·.2)) (HB (syW n fun _ => (0, oneW)) (bX m) (bX m) (bY n (zeB n x)) (.sl 9 0 n 1) (.sl 12 0 m 1) (.sl 15 0 m 1) (.sl 18 0 n 1) []) (GA1 m (fun _ => CU) (HB (syW n fun _ => (0, oneW)) (bX m) (bX m) (bY n (zeB n x)) (.sl 9 0 n 1) (.sl 12 0 m 1) (.sl 15 0 m 1) (.sl 18 0 n 1) []) (.sl 9 0 n 1) (.sl 15 0 m 1) (.sl 18 0 n 1))) ::
   (c45a = c45a) ::
   (stt2 131 [gotA, ic 2, ic 0] ((l45a 2 0).map (·.2)) (HB (syW n fun _ => (0, oneW)) (syW m fun _ => (4607182418800017408, oneW)) (bX m) (bY n (zeB n x)) (.sl 9 0 n 1) (.sl 12 0 m 1) (.sl 15 0 m 1) (.sl 18 0 n 1) []) (GA2 m (fun _ => CU) (HB (syW n fun _ => (0, oneW)) (syW m fun _ => (4607182418800017408, oneW)) (bX m) (bY n (zeB n x)) (.sl 9 0 n 1) (.sl 12 0 m 1) (.sl 15 0 m 1) (.sl 18 0 n 1) []) (.sl 9 0 n 1) (.sl 12 0 m 1) (.sl 18 0 n 1))) ::
   (c45a = c45a) ::
   (stt2 131 [gotA, ic 3, ic 0] ((l45a 3 0).map (·.2)) (HB (syW n fun _ => (0, oneW)) (syW m fun _ => (4607182418800017408, oneW)) (syW m fun _ => (4611686018427387904, oneW)) (bY n (zeB n x)) (.sl 9 0 n 1) (.sl 12 0 m 1) (.sl 15 0 m 1) (.sl 18 0 n 1) []) (GA3 n (fun k => CC ((zeB n x) k)) (HB (syW n fun _ => (0, oneW)) (syW m fun _ => (4607182418800017408, oneW)) (syW m fun _ => (4611686018427387904, oneW)) (bY n (zeB n x)) (.sl 9 0 n 1) (.sl 12 0 m 1) (.sl 15 0 m 1) (.sl 18 0 n 1) []) (.sl 9 0 n 1) (.sl 12 0 m 1) (.sl 15 0 m 1))) ::
   (c45b = c45b) ::
   (stt2 131 [gotA, (.one nilC), ic 0, .one (.sl 9 0 n 1), ic 0] ((l45b (.one nilC) 0 9 n 0).map (·.2)) (HFF0 n m) (HFF0 n m)) ::
   (c45b = c45b) ::
   (stt2 131 [gotA, (.one (.sl 25 0 1 1)), ic 1, .one (.sl 12 0 m 1), ic 0] ((l45b (.one (.sl 25 0 1 1)) 1 12 m 0).map (·.2)) (HFF1 n m) (HFF1 n m)) ::
   (c45b = c45b) ::
   (stt2 131 [gotA, (.one (.sl 28 0 2 1)), ic 2, .one (.sl 15 0 m 1), ic 0] ((l45b (.one (.sl 28 0 2 1)) 2 15 m 0).map (·.2)) (HFF2 n m) (HFF2 n m)) ::
   (c45b = c45b) ::
   (stt2 131 [gotA, (.one (.sl 31 0 3 1)), ic 3, .one (.sl 18 0 n 1), ic 0] ((l45b (.one (.sl 31 0 3 1)) 3 18 n 0).map (·.2)) (HFF3 n m) (HFF3 n m)) ::
   (c45c = c45c) ::
   (stt2 131 [gotA, longA, ic 0, ic 0] ((l45c 0 0).map (·.2)) (HFF4 n m) (HFF4 n m)) ::
   (c45c = c45c) ::
   (stt2 131 [gotA, longA, ic 1, ic 0] ((l45c 1 0).map (·.2)) (HFF4 n m) (HFF4 n m)) ::
   (c45c = c45c) ::
   (stt2 131 [gotA, longA, ic 2, ic 0] ((l45c 2 0).map (·.2)) (HFF4 n m) (HFF4 n m)) ::
   (c45c = c45c) ::
   (stt2 131 [gotA, longA, ic 3, ic 0] ((l45c 3 0).map (·.2)) (HFF4 n m) (HFF4 n m)) ::
   (pKp n x) ::
   (pKp m y) :: []) (some (Value.bool true) = some u) := by kernel_rfl
theorem goBTU {n m : Nat} {x y : Nat → Nat × Nat} (sn : sizeOk n) (fn : fitB n = true) (tn : tmC x n = true) (kn : okTB n x) (sm : sizeOk m) (fm : fitB m = true) (tm : tmC y m = false) : goodB n m x y := by
  have hn := (fit_le fn).1
  obtain ⟨wn, mn, qn, rn, bn, cn, on⟩ := kn
  have hm := (fit_le fm).1
  refine ⟨RBTU n m x y, (((((((((((((((((((FTok.addG gcon39).addGs (byPl_ok gcon40T (gcon40G false))).addGs (byPl_ok gcon41K gcon41K)).addGs (byPl_ok gcon42 gcon42K)).addG gcon43).addGs (byPl_ok gcon21L gcon21K)).addLoop 5 c44 _ (nearSel_ok (near9_ok hn on) noLp_ok noLp_ok (near18_ok hn on))).addLoop 10 c45a _ (LA0_ok hn)).addLoop 11 c45a _ (LA1_ok hm)).addLoop 12 c45a _ (LA2_ok hm)).addLoop 13 c45a _ (LA3_ok hn)).addLoop 20 c45b _ (LB0_ok hn (HFF0_e1 n m) (HFF0_e2 n m) (HFF0_ok n m))).addLoop 21 c45b _ (LB1_ok hm (HFF1_e1 n m) (HFF1_e2 n m) (HFF1_ok n m))).addLoop 22 c45b _ (LB2_ok hm (HFF2_e1 n m) (HFF2_e2 n m) (HFF2_ok n m))).addLoop 23 c45b _ (LB3_ok hn (HFF3_e1 n m) (HFF3_e2 n m) (HFF3_ok n m))).addLoop 30 c45c _ (LC0_ok hn)).addLoop 31 c45c _ (LC1_ok hm)).addLoop 32 c45c _ (LC2_ok hm)).addLoop 33 c45c _ (LC3_ok hn)).withCo _, ?_⟩
  rw [runBTU]
  exact ⟨pList_ok sn,
    pList_ok sm,
    pWtT_ok sn tn wn,
    pWtG_ok sm tm,
    pFitL_ok fn,
    pFitL_ok fm,
    pBkT_ok fn mn qn,
    pFitL_ok fm,
    pTrB_ok rn,
    pNe_ok n,
    pTrU_ok (.inr rfl) fm,
    pNe_ok m,
    pTrU_ok (.inr rfl) fm,
    pNe_ok m,
    pTrB_ok rn,
    pNe_ok n,
    pKp_ok sn,
    pKp_ok sm,
    bn,
    cn,
    pNe_ok n,
    rfl,
    stt2_ok (g := (KBTU n m x y)) ⟨rfl, rfl, rfl, rfl, trivial⟩ (rfl) (nearH9_eq _ _ _ _ _ _ _ _ _),
    bn,
    cn,
    pNe_ok n,
    rfl,
    stt2_ok (g := (KBTU n m x y)) ⟨rfl, rfl, rfl, rfl, trivial⟩ (nearH9_eq _ _ _ _ _ _ _ _ _) (nearH18_eq _ _ _ _ _ _ _ _ _),
    rfl,
    stt2_ok (g := (KBTU n m x y)) ⟨rfl, rfl, rfl, trivial⟩ (nearH18_eq _ _ _ _ _ _ _ _ _) (GA0_eq _ _ _ _ _ _ _ _),
    rfl,
    stt2_ok (g := (HB (syW n fun _ => (0, oneW)) (bX m) (bX m) (bY n (zeB n x)) (.sl 9 0 n 1) (.sl 12 0 m 1) (.sl 15 0 m 1) (.sl 18 0 n 1) [])) ⟨rfl, rfl, rfl, trivial⟩ (rfl) (GA1_eq _ _ _ _ _ _ _ _),
    rfl,
    stt2_ok (g := (HB (syW n fun _ => (0, oneW)) (syW m fun _ => (4607182418800017408, oneW)) (bX m) (bY n (zeB n x)) (.sl 9 0 n 1) (.sl 12 0 m 1) (.sl 15 0 m 1) (.sl 18 0 n 1) [])) ⟨rfl, rfl, rfl, trivial⟩ (rfl) (GA2_eq _ _ _ _ _ _ _ _),
    rfl,
    stt2_ok (g := (HB (syW n fun _ => (0, oneW)) (syW m fun _ => (4607182418800017408, oneW)) (syW m fun _ => (4611686018427387904, oneW)) (bY n (zeB n x)) (.sl 9 0 n 1) (.sl 12 0 m 1) (.sl 15 0 m 1) (.sl 18 0 n 1) [])) ⟨rfl, rfl, rfl, trivial⟩ (rfl) (GA3_eq _ _ _ _ _ _ _ _),
    rfl,
    stt2_ok ⟨rfl, rfl, rfl, rfl, rfl, trivial⟩ rfl rfl,
    rfl,
    stt2_ok ⟨rfl, rfl, rfl, rfl, rfl, trivial⟩ rfl rfl,
    rfl,
    stt2_ok ⟨rfl, rfl, rfl, rfl, rfl, trivial⟩ rfl rfl,
    rfl,
    stt2_ok ⟨rfl, rfl, rfl, rfl, rfl, trivial⟩ rfl rfl,
    rfl,
    stt2_ok ⟨rfl, rfl, rfl, rfl, trivial⟩ rfl rfl,
    rfl,
    stt2_ok ⟨rfl, rfl, rfl, rfl, trivial⟩ rfl rfl,
    rfl,
    stt2_ok ⟨rfl, rfl, rfl, rfl, trivial⟩ rfl rfl,
    rfl,
    stt2_ok ⟨rfl, rfl, rfl, rfl, trivial⟩ rfl rfl,
    pKp_ok sn,
    pKp_ok sm, rfl⟩
def KBTNt (n m : Nat) (x y : Nat → Nat × Nat) : List Blk := HB (bY n (zeB n x)) deadB deadB (bY n (zeB n x)) (.sl 9 0 n 1) nilC nilC (.sl 18 0 n 1) []
noncomputable def RBTNt (n m : Nat) (x y : Nat → Nat × Nat) : Fns := (((((((((((((((((FT.addG 39 GList).addGs 40 (byPl [3] GWtT (GWtG true))).addGs 41 (byPl [5] GRFwK GRFwN)).addGs 42 (byPl [7] GRBk GRFwN)).addG 43 GKept).addGs 21 (byPl [9, 18] GBackL GFwN)).addLoop 5 c44 (nearSel (nearC 9 n (zeB n x) (rB n x) (bW n x) (KBTNt n m x y)) noLp noLp (nearC 18 n (zeB n x) (rB n x) (bW n x) (KBTNt n m x y)))).addLoop 10 c45a (LA0 n (fun k => CC ((zeB n x) k)) (KBTNt n m x y) nilC nilC (.sl 18 0 n 1))).addLoop 13 c45a (LA3 n (fun k => CC ((zeB n x) k)) (HB (syW n fun _ => (0, oneW)) deadB deadB (bY n (zeB n x)) (.sl 9 0 n 1) nilC nilC (.sl 18 0 n 1) []) (.sl 9 0 n 1) nilC nilC)).addLoop 20 c45b (LB0 n (HFN0 n m))).addLoop 21 c45b (LN1 (HFN1 n m))).addLoop 22 c45b (LN2 (HFN2 n m))).addLoop 23 c45b (LB3 n (HFN3 n m))).addLoop 30 c45c (LC0 n (HFN4 n m) nilC nilC (.sl 18 0 n 1) (.sl 26 0 (0 + 20) 1) (.sl 29 0 (0 + 20) 1) (.sl 32 0 (n + 20) 1))).addLoop 31 c45c (LD1 (HFN4 n m) (.sl 9 0 n 1) nilC (.sl 18 0 n 1) (.sl 23 0 (n + 20) 1) (.sl 29 0 (0 + 20) 1) (.sl 32 0 (n + 20) 1))).addLoop 32 c45c (LD2 (HFN4 n m) (.sl 9 0 n 1) nilC (.sl 18 0 n 1) (.sl 23 0 (n + 20) 1) (.sl 26 0 (0 + 20) 1) (.sl 32 0 (n + 20) 1))).addLoop 33 c45c (LC3 n (HFN4 n m) (.sl 9 0 n 1) nilC nilC (.sl 23 0 (n + 20) 1) (.sl 26 0 (0 + 20) 1) (.sl 29 0 (0 + 20) 1))).withCo (coTwo [.u, .b false, .u, .u, .u, .b false, .u] [.u, .l 10, .u, .u, .u, .u, .u, .l 13, .u, .u, .l 20, .u, .l 21, .u, .l 22, .u, .l 23, .u, .u, .l 30, .u, .l 31, .u, .l 32, .u, .l 33, .u])
theorem runBTNt (n m : Nat) (x y : Nat → Nat × Nat) (u : Value) : runK Tryd.prog T (RBTNt n m x y) 900 Tryd.f12 [prL n x, prL m y] [deadB] [] (fun r _ => resW r = some u) =
  obsP ((pList n x) ::
   (pList m y) ::
   (pWtT n x) ::
   (pWtG true m y) ::
   (pFitL n x) ::
   (pNo m) ::
   (pBkT n x) ::
   (pNo m) ::
   (pTrB n x) ::
   (pNe n) ::
   (pNo m) ::
   (pNo m) ::
   (pTrB n x) ::
   (pNe n) ::
   (pKp n x) ::
   (pKp m y) ::
   (pB1 n x) ::
   (pB2 n x) ::
   (pNe n) ::
   (c44 = c44) ::
   (stt2 47 [.one (.sl 9 0 n 1), prL n (rB n x), AFl (bW n x), ic 0] ((l44 9 n (rB n x) (bW n x) 0).map (·.2)) (KBTNt n m x y) (nearH 9 n (zeB n x) (KBTNt n m x y))) ::
   (pB1 n x) ::
   (pB2 n x) ::
   (pNe n) ::
   (c44 = c44) ::
   (stt2 47 [.one (.sl 18 0 n 1), prL n (rB n x), AFl (bW n x), ic 0] ((l44 18 n (rB n x) (bW n x) 0).map (·.2)) (nearH 9 n (zeB n x) (KBTNt n m x y)) (nearH 18 n (zeB n x) (KBTNt n m x y))) ::
   (c45a = c45a) ::
   (stt2 131 [gotA, ic 0, ic 0] ((l45a 0 0).map (·.2)) (nearH 18 n (zeB n x) (KBTNt n m x y)) (GA0 n (fun k => CC ((zeB n x) k)) (KBTNt n m x y) nilC nilC (.sl 18 0 n 1))) ::
   (c45a = c45a) ::
   (stt2 131 [gotA, ic 3, ic 0] ((l45a 3 0).map (·.2)) (HB (syW n fun _ => (0, oneW)) deadB deadB (bY n (zeB n x)) (.sl 9 0 n 1) nilC nilC (.sl 18 0 n 1) []) (GA3 n (fun k => CC ((zeB n x) k)) (HB (syW n fun _ => (0, oneW)) deadB deadB (bY n (zeB n x)) (.sl 9 0 n 1) nilC nilC (.sl 18 0 n 1) []) (.sl 9 0 n 1) nilC nilC)) ::
   (c45b = c45b) ::
   (stt2 131 [gotA, (.one nilC), ic 0, .one (.sl 9 0 n 1), ic 0] ((l45b (.one nilC) 0 9 n 0).map (·.2)) (HFN0 n m) (HFN0 n m)) ::
   (c45b = c45b) ::
   (stt2 131 [gotA, (.one (.sl 25 0 1 1)), ic 1, .one nilC, ic 0] ((l45n (.one (.sl 25 0 1 1)) 1 0).map (·.2)) (HFN1 n m) (HFN1 n m)) ::
   (c45b = c45b) ::
   (stt2 131 [gotA, (.one (.sl 28 0 2 1)), ic 2, .one nilC, ic 0] ((l45n (.one (.sl 28 0 2 1)) 2 0).map (·.2)) (HFN2 n m) (HFN2 n m)) ::
   (c45b = c45b) ::
   (stt2 131 [gotA, (.one (.sl 31 0 3 1)), ic 3, .one (.sl 18 0 n 1), ic 0] ((l45b (.one (.sl 31 0 3 1)) 3 18 n 0).map (·.2)) (HFN3 n m) (HFN3 n m)) ::
   (c45c = c45c) ::
   (stt2 131 [gotA, longA, ic 0, ic 0] ((l45c 0 0).map (·.2)) (HFN4 n m) (HFN4 n m)) ::
   (c45c = c45c) ::
   (stt2 131 [gotA, longA, ic 1, ic 0] ((l45c 1 0).map (·.2)) (HFN4 n m) (HFN4 n m)) ::
   (c45c = c45c) ::
   (stt2 131 [gotA, longA, ic 2, ic 0] ((l45c 2 0).map (·.2)) (HFN4 n m) (HFN4 n m)) ::
   (c45c = c45c) ::
   (stt2 131 [gotA, longA, ic 3, ic 0] ((l45c 3 0).map (·.2)) (HFN4 n m) (HFN4 n m)) ::
   (pKp n x) ::
   (pKp m y) :: []) (some (Value.bool true) = some u) := by kernel_rfl
theorem goBTNt {n m : Nat} {x y : Nat → Nat × Nat} (sn : sizeOk n) (fn : fitB n = true) (tn : tmC x n = true) (kn : okTB n x) (sm : sizeOk m) (fm : fitB m = false) (tm : tmC y m = true) : goodB n m x y := by
  have hn := (fit_le fn).1
  obtain ⟨wn, mn, qn, rn, bn, cn, on⟩ := kn
  refine ⟨RBTNt n m x y, (((((((((((((((((FTok.addG gcon39).addGs (byPl_ok gcon40T (gcon40G true))).addGs (byPl_ok gcon41K gcon41n)).addGs (byPl_ok gcon42 gcon42n)).addG gcon43).addGs (byPl_ok gcon21L gcon21n)).addLoop 5 c44 _ (nearSel_ok (near9_ok hn on) noLp_ok noLp_ok (near18_ok hn on))).addLoop 10 c45a _ (LA0_ok hn)).addLoop 13 c45a _ (LA3_ok hn)).addLoop 20 c45b _ (LB0_ok hn (HFN0_e1 n m) (HFN0_e2 n m) (HFN0_ok n m))).addLoop 21 c45b _ (LN1_ok (HFN1_e2 n m) (HFN1_ok n m))).addLoop 22 c45b _ (LN2_ok (HFN2_e2 n m) (HFN2_ok n m))).addLoop 23 c45b _ (LB3_ok hn (HFN3_e1 n m) (HFN3_e2 n m) (HFN3_ok n m))).addLoop 30 c45c _ (LC0_ok hn)).addLoop 31 c45c _ LD1_ok).addLoop 32 c45c _ LD2_ok).addLoop 33 c45c _ (LC3_ok hn)).withCo _, ?_⟩
  rw [runBTNt]
  exact ⟨pList_ok sn,
    pList_ok sm,
    pWtT_ok sn tn wn,
    pWtG_ok sm tm,
    pFitL_ok fn,
    pNo_ok fm,
    pBkT_ok fn mn qn,
    pNo_ok fm,
    pTrB_ok rn,
    pNe_ok n,
    pNo_ok fm,
    pNo_ok fm,
    pTrB_ok rn,
    pNe_ok n,
    pKp_ok sn,
    pKp_ok sm,
    bn,
    cn,
    pNe_ok n,
    rfl,
    stt2_ok (g := (KBTNt n m x y)) ⟨rfl, rfl, rfl, rfl, trivial⟩ (rfl) (nearH9_eq _ _ _ _ _ _ _ _ _),
    bn,
    cn,
    pNe_ok n,
    rfl,
    stt2_ok (g := (KBTNt n m x y)) ⟨rfl, rfl, rfl, rfl, trivial⟩ (nearH9_eq _ _ _ _ _ _ _ _ _) (nearH18_eq _ _ _ _ _ _ _ _ _),
    rfl,
    stt2_ok (g := (KBTNt n m x y)) ⟨rfl, rfl, rfl, trivial⟩ (nearH18_eq _ _ _ _ _ _ _ _ _) (GA0_eq _ _ _ _ _ _ _ _),
    rfl,
    stt2_ok (g := (HB (syW n fun _ => (0, oneW)) deadB deadB (bY n (zeB n x)) (.sl 9 0 n 1) nilC nilC (.sl 18 0 n 1) [])) ⟨rfl, rfl, rfl, trivial⟩ (rfl) (GA3_eq _ _ _ _ _ _ _ _),
    rfl,
    stt2_ok ⟨rfl, rfl, rfl, rfl, rfl, trivial⟩ rfl rfl,
    rfl,
    stt2_ok ⟨rfl, rfl, rfl, rfl, rfl, trivial⟩ rfl rfl,
    rfl,
    stt2_ok ⟨rfl, rfl, rfl, rfl, rfl, trivial⟩ rfl rfl,
    rfl,
    stt2_ok ⟨rfl, rfl, rfl, rfl, rfl, trivial⟩ rfl rfl,
    rfl,
    stt2_ok ⟨rfl, rfl, rfl, rfl, trivial⟩ rfl rfl,
    rfl,
    stt2_ok ⟨rfl, rfl, rfl, rfl, trivial⟩ rfl rfl,
    rfl,
    stt2_ok ⟨rfl, rfl, rfl, rfl, trivial⟩ rfl rfl,
    rfl,
    stt2_ok ⟨rfl, rfl, rfl, rfl, trivial⟩ rfl rfl,
    pKp_ok sn,
    pKp_ok sm, rfl⟩
def KBTNu (n m : Nat) (x y : Nat → Nat × Nat) : List Blk := HB (bY n (zeB n x)) deadB deadB (bY n (zeB n x)) (.sl 9 0 n 1) nilC nilC (.sl 18 0 n 1) []
noncomputable def RBTNu (n m : Nat) (x y : Nat → Nat × Nat) : Fns := (((((((((((((((((FT.addG 39 GList).addGs 40 (byPl [3] GWtT (GWtG false))).addGs 41 (byPl [5] GRFwK GRFwN)).addGs 42 (byPl [7] GRBk GRFwN)).addG 43 GKept).addGs 21 (byPl [9, 18] GBackL GFwN)).addLoop 5 c44 (nearSel (nearC 9 n (zeB n x) (rB n x) (bW n x) (KBTNu n m x y)) noLp noLp (nearC 18 n (zeB n x) (rB n x) (bW n x) (KBTNu n m x y)))).addLoop 10 c45a (LA0 n (fun k => CC ((zeB n x) k)) (KBTNu n m x y) nilC nilC (.sl 18 0 n 1))).addLoop 13 c45a (LA3 n (fun k => CC ((zeB n x) k)) (HB (syW n fun _ => (0, oneW)) deadB deadB (bY n (zeB n x)) (.sl 9 0 n 1) nilC nilC (.sl 18 0 n 1) []) (.sl 9 0 n 1) nilC nilC)).addLoop 20 c45b (LB0 n (HFN0 n m))).addLoop 21 c45b (LN1 (HFN1 n m))).addLoop 22 c45b (LN2 (HFN2 n m))).addLoop 23 c45b (LB3 n (HFN3 n m))).addLoop 30 c45c (LC0 n (HFN4 n m) nilC nilC (.sl 18 0 n 1) (.sl 26 0 (0 + 20) 1) (.sl 29 0 (0 + 20) 1) (.sl 32 0 (n + 20) 1))).addLoop 31 c45c (LD1 (HFN4 n m) (.sl 9 0 n 1) nilC (.sl 18 0 n 1) (.sl 23 0 (n + 20) 1) (.sl 29 0 (0 + 20) 1) (.sl 32 0 (n + 20) 1))).addLoop 32 c45c (LD2 (HFN4 n m) (.sl 9 0 n 1) nilC (.sl 18 0 n 1) (.sl 23 0 (n + 20) 1) (.sl 26 0 (0 + 20) 1) (.sl 32 0 (n + 20) 1))).addLoop 33 c45c (LC3 n (HFN4 n m) (.sl 9 0 n 1) nilC nilC (.sl 23 0 (n + 20) 1) (.sl 26 0 (0 + 20) 1) (.sl 29 0 (0 + 20) 1))).withCo (coTwo [.u, .b false, .u, .u, .u, .b false, .u] [.u, .l 10, .u, .u, .u, .u, .u, .l 13, .u, .u, .l 20, .u, .l 21, .u, .l 22, .u, .l 23, .u, .u, .l 30, .u, .l 31, .u, .l 32, .u, .l 33, .u])
theorem runBTNu (n m : Nat) (x y : Nat → Nat × Nat) (u : Value) : runK Tryd.prog T (RBTNu n m x y) 900 Tryd.f12 [prL n x, prL m y] [deadB] [] (fun r _ => resW r = some u) =
  obsP ((pList n x) ::
   (pList m y) ::
   (pWtT n x) ::
   (pWtG false m y) ::
   (pFitL n x) ::
   (pNo m) ::
   (pBkT n x) ::
   (pNo m) ::
   (pTrB n x) ::
   (pNe n) ::
   (pNo m) ::
   (pNo m) ::
   (pTrB n x) ::
   (pNe n) ::
   (pKp n x) ::
   (pKp m y) ::
   (pB1 n x) ::
   (pB2 n x) ::
   (pNe n) ::
   (c44 = c44) ::
   (stt2 47 [.one (.sl 9 0 n 1), prL n (rB n x), AFl (bW n x), ic 0] ((l44 9 n (rB n x) (bW n x) 0).map (·.2)) (KBTNu n m x y) (nearH 9 n (zeB n x) (KBTNu n m x y))) ::
   (pB1 n x) ::
   (pB2 n x) ::
   (pNe n) ::
   (c44 = c44) ::
   (stt2 47 [.one (.sl 18 0 n 1), prL n (rB n x), AFl (bW n x), ic 0] ((l44 18 n (rB n x) (bW n x) 0).map (·.2)) (nearH 9 n (zeB n x) (KBTNu n m x y)) (nearH 18 n (zeB n x) (KBTNu n m x y))) ::
   (c45a = c45a) ::
   (stt2 131 [gotA, ic 0, ic 0] ((l45a 0 0).map (·.2)) (nearH 18 n (zeB n x) (KBTNu n m x y)) (GA0 n (fun k => CC ((zeB n x) k)) (KBTNu n m x y) nilC nilC (.sl 18 0 n 1))) ::
   (c45a = c45a) ::
   (stt2 131 [gotA, ic 3, ic 0] ((l45a 3 0).map (·.2)) (HB (syW n fun _ => (0, oneW)) deadB deadB (bY n (zeB n x)) (.sl 9 0 n 1) nilC nilC (.sl 18 0 n 1) []) (GA3 n (fun k => CC ((zeB n x) k)) (HB (syW n fun _ => (0, oneW)) deadB deadB (bY n (zeB n x)) (.sl 9 0 n 1) nilC nilC (.sl 18 0 n 1) []) (.sl 9 0 n 1) nilC nilC)) ::
   (c45b = c45b) ::
   (stt2 131 [gotA, (.one nilC), ic 0, .one (.sl 9 0 n 1), ic 0] ((l45b (.one nilC) 0 9 n 0).map (·.2)) (HFN0 n m) (HFN0 n m)) ::
   (c45b = c45b) ::
   (stt2 131 [gotA, (.one (.sl 25 0 1 1)), ic 1, .one nilC, ic 0] ((l45n (.one (.sl 25 0 1 1)) 1 0).map (·.2)) (HFN1 n m) (HFN1 n m)) ::
   (c45b = c45b) ::
   (stt2 131 [gotA, (.one (.sl 28 0 2 1)), ic 2, .one nilC, ic 0] ((l45n (.one (.sl 28 0 2 1)) 2 0).map (·.2)) (HFN2 n m) (HFN2 n m)) ::
   (c45b = c45b) ::
   (stt2 131 [gotA, (.one (.sl 31 0 3 1)), ic 3, .one (.sl 18 0 n 1), ic 0] ((l45b (.one (.sl 31 0 3 1)) 3 18 n 0).map (·.2)) (HFN3 n m) (HFN3 n m)) ::
   (c45c = c45c) ::
   (stt2 131 [gotA, longA, ic 0, ic 0] ((l45c 0 0).map (·.2)) (HFN4 n m) (HFN4 n m)) ::
   (c45c = c45c) ::
   (stt2 131 [gotA, longA, ic 1, ic 0] ((l45c 1 0).map (·.2)) (HFN4 n m) (HFN4 n m)) ::
   (c45c = c45c) ::
   (stt2 131 [gotA, longA, ic 2, ic 0] ((l45c 2 0).map (·.2)) (HFN4 n m) (HFN4 n m)) ::
   (c45c = c45c) ::
   (stt2 131 [gotA, longA, ic 3, ic 0] ((l45c 3 0).map (·.2)) (HFN4 n m) (HFN4 n m)) ::
   (pKp n x) ::
   (pKp m y) :: []) (some (Value.bool true) = some u) := by kernel_rfl
theorem goBTNu {n m : Nat} {x y : Nat → Nat × Nat} (sn : sizeOk n) (fn : fitB n = true) (tn : tmC x n = true) (kn : okTB n x) (sm : sizeOk m) (fm : fitB m = false) (tm : tmC y m = false) : goodB n m x y := by
  have hn := (fit_le fn).1
  obtain ⟨wn, mn, qn, rn, bn, cn, on⟩ := kn
  refine ⟨RBTNu n m x y, (((((((((((((((((FTok.addG gcon39).addGs (byPl_ok gcon40T (gcon40G false))).addGs (byPl_ok gcon41K gcon41n)).addGs (byPl_ok gcon42 gcon42n)).addG gcon43).addGs (byPl_ok gcon21L gcon21n)).addLoop 5 c44 _ (nearSel_ok (near9_ok hn on) noLp_ok noLp_ok (near18_ok hn on))).addLoop 10 c45a _ (LA0_ok hn)).addLoop 13 c45a _ (LA3_ok hn)).addLoop 20 c45b _ (LB0_ok hn (HFN0_e1 n m) (HFN0_e2 n m) (HFN0_ok n m))).addLoop 21 c45b _ (LN1_ok (HFN1_e2 n m) (HFN1_ok n m))).addLoop 22 c45b _ (LN2_ok (HFN2_e2 n m) (HFN2_ok n m))).addLoop 23 c45b _ (LB3_ok hn (HFN3_e1 n m) (HFN3_e2 n m) (HFN3_ok n m))).addLoop 30 c45c _ (LC0_ok hn)).addLoop 31 c45c _ LD1_ok).addLoop 32 c45c _ LD2_ok).addLoop 33 c45c _ (LC3_ok hn)).withCo _, ?_⟩
  rw [runBTNu]
  exact ⟨pList_ok sn,
    pList_ok sm,
    pWtT_ok sn tn wn,
    pWtG_ok sm tm,
    pFitL_ok fn,
    pNo_ok fm,
    pBkT_ok fn mn qn,
    pNo_ok fm,
    pTrB_ok rn,
    pNe_ok n,
    pNo_ok fm,
    pNo_ok fm,
    pTrB_ok rn,
    pNe_ok n,
    pKp_ok sn,
    pKp_ok sm,
    bn,
    cn,
    pNe_ok n,
    rfl,
    stt2_ok (g := (KBTNu n m x y)) ⟨rfl, rfl, rfl, rfl, trivial⟩ (rfl) (nearH9_eq _ _ _ _ _ _ _ _ _),
    bn,
    cn,
    pNe_ok n,
    rfl,
    stt2_ok (g := (KBTNu n m x y)) ⟨rfl, rfl, rfl, rfl, trivial⟩ (nearH9_eq _ _ _ _ _ _ _ _ _) (nearH18_eq _ _ _ _ _ _ _ _ _),
    rfl,
    stt2_ok (g := (KBTNu n m x y)) ⟨rfl, rfl, rfl, trivial⟩ (nearH18_eq _ _ _ _ _ _ _ _ _) (GA0_eq _ _ _ _ _ _ _ _),
    rfl,
    stt2_ok (g := (HB (syW n fun _ => (0, oneW)) deadB deadB (bY n (zeB n x)) (.sl 9 0 n 1) nilC nilC (.sl 18 0 n 1) [])) ⟨rfl, rfl, rfl, trivial⟩ (rfl) (GA3_eq _ _ _ _ _ _ _ _),
    rfl,
    stt2_ok ⟨rfl, rfl, rfl, rfl, rfl, trivial⟩ rfl rfl,
    rfl,
    stt2_ok ⟨rfl, rfl, rfl, rfl, rfl, trivial⟩ rfl rfl,
    rfl,
    stt2_ok ⟨rfl, rfl, rfl, rfl, rfl, trivial⟩ rfl rfl,
    rfl,
    stt2_ok ⟨rfl, rfl, rfl, rfl, rfl, trivial⟩ rfl rfl,
    rfl,
    stt2_ok ⟨rfl, rfl, rfl, rfl, trivial⟩ rfl rfl,
    rfl,
    stt2_ok ⟨rfl, rfl, rfl, rfl, trivial⟩ rfl rfl,
    rfl,
    stt2_ok ⟨rfl, rfl, rfl, rfl, trivial⟩ rfl rfl,
    rfl,
    stt2_ok ⟨rfl, rfl, rfl, rfl, trivial⟩ rfl rfl,
    pKp_ok sn,
    pKp_ok sm, rfl⟩
def KBUT (n m : Nat) (x y : Nat → Nat × Nat) : List Blk := HB (bX n) (bY m (zeB m y)) (bY m (zeB m y)) (bX n) (.sl 9 0 n 1) (.sl 12 0 m 1) (.sl 15 0 m 1) (.sl 18 0 n 1) []
noncomputable def RBUT (n m : Nat) (x y : Nat → Nat × Nat) : Fns := (((((((((((((((((((FT.addG 39 GList).addGs 40 (byPl [3] (GWtG false) GWtT)).addGs 41 (byPl [5] GRFwK GRFwK)).addGs 42 (byPl [7] GRFwK GRBk)).addG 43 GKept).addGs 21 (byPl [9, 18] GBkK GBackL)).addLoop 5 c44 (nearSel noLp (nearC 12 m (zeB m y) (rB m y) (bW m y) (KBUT n m x y)) (nearC 15 m (zeB m y) (rB m y) (bW m y) (KBUT n m x y)) noLp)).addLoop 10 c45a (LA0 n (fun _ => CU) (KBUT n m x y) (.sl 12 0 m 1) (.sl 15 0 m 1) (.sl 18 0 n 1))).addLoop 11 c45a (LA1 m (fun k => CC ((zeB m y) k)) (HB (syW n fun _ => (0, oneW)) (bY m (zeB m y)) (bY m (zeB m y)) (bX n) (.sl 9 0 n 1) (.sl 12 0 m 1) (.sl 15 0 m 1) (.sl 18 0 n 1) []) (.sl 9 0 n 1) (.sl 15 0 m 1) (.sl 18 0 n 1))).addLoop 12 c45a (LA2 m (fun k => CC ((zeB m y) k)) (HB (syW n fun _ => (0, oneW)) (syW m fun _ => (4607182418800017408, oneW)) (bY m (zeB m y)) (bX n) (.sl 9 0 n 1) (.sl 12 0 m 1) (.sl 15 0 m 1) (.sl 18 0 n 1) []) (.sl 9 0 n 1) (.sl 12 0 m 1) (.sl 18 0 n 1))).addLoop 13 c45a (LA3 n (fun _ => CU) (HB (syW n fun _ => (0, oneW)) (syW m fun _ => (4607182418800017408, oneW)) (syW m fun _ => (4611686018427387904, oneW)) (bX n) (.sl 9 0 n 1) (.sl 12 0 m 1) (.sl 15 0 m 1) (.sl 18 0 n 1) []) (.sl 9 0 n 1) (.sl 12 0 m 1) (.sl 15 0 m 1))).addLoop 20 c45b (LB0 n (HFF0 n m))).addLoop 21 c45b (LB1 m (HFF1 n m))).addLoop 22 c45b (LB2 m (HFF2 n m))).addLoop 23 c45b (LB3 n (HFF3 n m))).addLoop 30 c45c (LC0 n (HFF4 n m) (.sl 12 0 m 1) (.sl 15 0 m 1) (.sl 18 0 n 1) (.sl 26 0 (m + 20) 1) (.sl 29 0 (m + 20) 1) (.sl 32 0 (n + 20) 1))).addLoop 31 c45c (LC1 m (HFF4 n m) (.sl 9 0 n 1) (.sl 15 0 m 1) (.sl 18 0 n 1) (.sl 23 0 (n + 20) 1) (.sl 29 0 (m + 20) 1) (.sl 32 0 (n + 20) 1))).addLoop 32 c45c (LC2 m (HFF4 n m) (.sl 9 0 n 1) (.sl 12 0 m 1) (.sl 18 0 n 1) (.sl 23 0 (n + 20) 1) (.sl 26 0 (m + 20) 1) (.sl 32 0 (n + 20) 1))).addLoop 33 c45c (LC3 n (HFF4 n m) (.sl 9 0 n 1) (.sl 12 0 m 1) (.sl 15 0 m 1) (.sl 23 0 (n + 20) 1) (.sl 26 0 (m + 20) 1) (.sl 29 0 (m + 20) 1))).withCo (coTwo [.u, .b false, .u, .b false, .u, .b false, .u, .b false, .u] [.u, .l 10, .u, .l 11, .u, .l 12, .u, .l 13, .u, .u, .l 20, .u, .l 21, .u, .l 22, .u, .l 23, .u, .u, .l 30, .u, .l 31, .u, .l 32, .u, .l 33, .u])
theorem runBUT (n m : Nat) (x y : Nat → Nat × Nat) (u : Value) : runK Tryd.prog T (RBUT n m x y) 900 Tryd.f12 [prL n x, prL m y] [deadB] [] (fun r _ => resW r = some u) =
  obsP ((pList n x) ::
   (pList m y) ::
   (pWtG false n x) ::
   (pWtT m y) ::
   (pFitL n x) ::
   (pFitL m y) ::
   (pFitL n x) ::
   (pBkT m y) ::
   (pTrU (-1) n x) ::
   (pNe n) ::
   (pTrB m y) ::
   (pNe m) ::
   (pTrB m y) ::
   (pNe m) ::
   (pTrU (-1) n x) ::
   (pNe n) ::
   (pKp n x) ::
   (pKp m y) ::
   (pB1 m y) ::
   (pB2 m y) ::
   (pNe m) ::
   (c44 = c44) ::
   (stt2 47 [.one (.sl 12 0 m 1), prL m (rB m y), AFl (bW m y), ic 0] ((l44 12 m (rB m y) (bW m y) 0).map (·.2)) (KBUT n m x y) (nearH 12 m (zeB m y) (KBUT n m x y))) ::
   (pB1 m y) ::
   (pB2 m y) ::
   (pNe m) ::
   (c44 = c44) ::
   (stt2 47 [.one (.sl 15 0 m 1), prL m (rB m y), AFl (bW m y), ic 0] ((l44 15 m (rB m y) (bW m y) 0).map (·.2)) (nearH 12 m (zeB m y) (KBUT n m x y)) (nearH 15 m (zeB m y) (KBUT n m x y))) ::
   (c45a = c45a) ::
   (stt2 131 [gotA, ic 0, ic 0] ((l45a 0 0).map (·.2)) (nearH 15 m (zeB m y) (KBUT n m x y)) (GA0 n (fun _ => CU) (KBUT n m x y) (.sl 12 0 m 1) (.sl 15 0 m 1) (.sl 18 0 n 1))) ::
   (c45a = c45a) ::
   (stt2 131 [gotA, ic 1, ic 0] ((l45a 1 0).map (·.2)) (HB (syW n fun _ => (0, oneW)) (bY m (zeB m y)) (bY m (zeB m y)) (bX n) (.sl 9 0 n 1) (.sl 12 0 m 1) (.sl 15 0 m 1) (.sl 18 0 n 1) []) (GA1 m (fun k => CC ((zeB m y) k)) (HB (syW n fun _ => (0, oneW)) (bY m (zeB m y)) (bY m (zeB m y)) (bX n) (.sl 9 0 n 1) (.sl 12 0 m 1) (.sl 15 0 m 1) (.sl 18 0 n 1) []) (.sl 9 0 n 1) (.sl 15 0 m 1) (.sl 18 0 n 1))) ::
   (c45a = c45a) ::
   (stt2 131 [gotA, ic 2, ic 0] ((l45a 2 0).map (·.2)) (HB (syW n fun _ => (0, oneW)) (syW m fun _ => (4607182418800017408, oneW)) (bY m (zeB m y)) (bX n) (.sl 9 0 n 1) (.sl 12 0 m 1) (.sl 15 0 m 1) (.sl 18 0 n 1) []) (GA2 m (fun k => CC ((zeB m y) k)) (HB (syW n fun _ => (0, oneW)) (syW m fun _ => (4607182418800017408, oneW)) (bY m (zeB m y)) (bX n) (.sl 9 0 n 1) (.sl 12 0 m 1) (.sl 15 0 m 1) (.sl 18 0 n 1) []) (.sl 9 0 n 1) (.sl 12 0 m 1) (.sl 18 0 n 1))) ::
   (c45a = c45a) ::
   (stt2 131 [gotA, ic 3, ic 0] ((l45a 3 0).map (·.2)) (HB (syW n fun _ => (0, oneW)) (syW m fun _ => (4607182418800017408, oneW)) (syW m fun _ => (4611686018427387904, oneW)) (bX n) (.sl 9 0 n 1) (.sl 12 0 m 1) (.sl 15 0 m 1) (.sl 18 0 n 1) []) (GA3 n (fun _ => CU) (HB (syW n fun _ => (0, oneW)) (syW m fun _ => (4607182418800017408, oneW)) (syW m fun _ => (4611686018427387904, oneW)) (bX n) (.sl 9 0 n 1) (.sl 12 0 m 1) (.sl 15 0 m 1) (.sl 18 0 n 1) []) (.sl 9 0 n 1) (.sl 12 0 m 1) (.sl 15 0 m 1))) ::
   (c45b = c45b) ::
   (stt2 131 [gotA, (.one nilC), ic 0, .one (.sl 9 0 n 1), ic 0] ((l45b (.one nilC) 0 9 n 0).map (·.2)) (HFF0 n m) (HFF0 n m)) ::
   (c45b = c45b) ::
   (stt2 131 [gotA, (.one (.sl 25 0 1 1)), ic 1, .one (.sl 12 0 m 1), ic 0] ((l45b (.one (.sl 25 0 1 1)) 1 12 m 0).map (·.2)) (HFF1 n m) (HFF1 n m)) ::
   (c45b = c45b) ::
   (stt2 131 [gotA, (.one (.sl 28 0 2 1)), ic 2, .one (.sl 15 0 m 1), ic 0] ((l45b (.one (.sl 28 0 2 1)) 2 15 m 0).map (·.2)) (HFF2 n m) (HFF2 n m)) ::
   (c45b = c45b) ::
   (stt2 131 [gotA, (.one (.sl 31 0 3 1)), ic 3, .one (.sl 18 0 n 1), ic 0] ((l45b (.one (.sl 31 0 3 1)) 3 18 n 0).map (·.2)) (HFF3 n m) (HFF3 n m)) ::
   (c45c = c45c) ::
   (stt2 131 [gotA, longA, ic 0, ic 0] ((l45c 0 0).map (·.2)) (HFF4 n m) (HFF4 n m)) ::
   (c45c = c45c) ::
   (stt2 131 [gotA, longA, ic 1, ic 0] ((l45c 1 0).map (·.2)) (HFF4 n m) (HFF4 n m)) ::
   (c45c = c45c) ::
   (stt2 131 [gotA, longA, ic 2, ic 0] ((l45c 2 0).map (·.2)) (HFF4 n m) (HFF4 n m)) ::
   (c45c = c45c) ::
   (stt2 131 [gotA, longA, ic 3, ic 0] ((l45c 3 0).map (·.2)) (HFF4 n m) (HFF4 n m)) ::
   (pKp n x) ::
   (pKp m y) :: []) (some (Value.bool true) = some u) := by kernel_rfl
theorem goBUT {n m : Nat} {x y : Nat → Nat × Nat} (sn : sizeOk n) (fn : fitB n = true) (tn : tmC x n = false) (sm : sizeOk m) (fm : fitB m = true) (tm : tmC y m = true) (km : okTB m y) : goodB n m x y := by
  have hn := (fit_le fn).1
  have hm := (fit_le fm).1
  obtain ⟨wm, mm, qm, rm, bm, cm, om⟩ := km
  refine ⟨RBUT n m x y, (((((((((((((((((((FTok.addG gcon39).addGs (byPl_ok (gcon40G false) gcon40T)).addGs (byPl_ok gcon41K gcon41K)).addGs (byPl_ok gcon42K gcon42)).addG gcon43).addGs (byPl_ok gcon21K gcon21L)).addLoop 5 c44 _ (nearSel_ok noLp_ok (near12_ok hm om) (near15_ok hm om) noLp_ok)).addLoop 10 c45a _ (LA0_ok hn)).addLoop 11 c45a _ (LA1_ok hm)).addLoop 12 c45a _ (LA2_ok hm)).addLoop 13 c45a _ (LA3_ok hn)).addLoop 20 c45b _ (LB0_ok hn (HFF0_e1 n m) (HFF0_e2 n m) (HFF0_ok n m))).addLoop 21 c45b _ (LB1_ok hm (HFF1_e1 n m) (HFF1_e2 n m) (HFF1_ok n m))).addLoop 22 c45b _ (LB2_ok hm (HFF2_e1 n m) (HFF2_e2 n m) (HFF2_ok n m))).addLoop 23 c45b _ (LB3_ok hn (HFF3_e1 n m) (HFF3_e2 n m) (HFF3_ok n m))).addLoop 30 c45c _ (LC0_ok hn)).addLoop 31 c45c _ (LC1_ok hm)).addLoop 32 c45c _ (LC2_ok hm)).addLoop 33 c45c _ (LC3_ok hn)).withCo _, ?_⟩
  rw [runBUT]
  exact ⟨pList_ok sn,
    pList_ok sm,
    pWtG_ok sn tn,
    pWtT_ok sm tm wm,
    pFitL_ok fn,
    pFitL_ok fm,
    pFitL_ok fn,
    pBkT_ok fm mm qm,
    pTrU_ok (.inr rfl) fn,
    pNe_ok n,
    pTrB_ok rm,
    pNe_ok m,
    pTrB_ok rm,
    pNe_ok m,
    pTrU_ok (.inr rfl) fn,
    pNe_ok n,
    pKp_ok sn,
    pKp_ok sm,
    bm,
    cm,
    pNe_ok m,
    rfl,
    stt2_ok (g := (KBUT n m x y)) ⟨rfl, rfl, rfl, rfl, trivial⟩ (rfl) (nearH12_eq _ _ _ _ _ _ _ _ _),
    bm,
    cm,
    pNe_ok m,
    rfl,
    stt2_ok (g := (KBUT n m x y)) ⟨rfl, rfl, rfl, rfl, trivial⟩ (nearH12_eq _ _ _ _ _ _ _ _ _) (nearH15_eq _ _ _ _ _ _ _ _ _),
    rfl,
    stt2_ok (g := (KBUT n m x y)) ⟨rfl, rfl, rfl, trivial⟩ (nearH15_eq _ _ _ _ _ _ _ _ _) (GA0_eq _ _ _ _ _ _ _ _),
    rfl,
    stt2_ok (g := (HB (syW n fun _ => (0, oneW)) (bY m (zeB m y)) (bY m (zeB m y)) (bX n) (.sl 9 0 n 1) (.sl 12 0 m 1) (.sl 15 0 m 1) (.sl 18 0 n 1) [])) ⟨rfl, rfl, rfl, trivial⟩ (rfl) (GA1_eq _ _ _ _ _ _ _ _),
    rfl,
    stt2_ok (g := (HB (syW n fun _ => (0, oneW)) (syW m fun _ => (4607182418800017408, oneW)) (bY m (zeB m y)) (bX n) (.sl 9 0 n 1) (.sl 12 0 m 1) (.sl 15 0 m 1) (.sl 18 0 n 1) [])) ⟨rfl, rfl, rfl, trivial⟩ (rfl) (GA2_eq _ _ _ _ _ _ _ _),
    rfl,
    stt2_ok (g := (HB (syW n fun _ => (0, oneW)) (syW m fun _ => (4607182418800017408, oneW)) (syW m fun _ => (4611686018427387904, oneW)) (bX n) (.sl 9 0 n 1) (.sl 12 0 m 1) (.sl 15 0 m 1) (.sl 18 0 n 1) [])) ⟨rfl, rfl, rfl, trivial⟩ (rfl) (GA3_eq _ _ _ _ _ _ _ _),
    rfl,
    stt2_ok ⟨rfl, rfl, rfl, rfl, rfl, trivial⟩ rfl rfl,
    rfl,
    stt2_ok ⟨rfl, rfl, rfl, rfl, rfl, trivial⟩ rfl rfl,
    rfl,
    stt2_ok ⟨rfl, rfl, rfl, rfl, rfl, trivial⟩ rfl rfl,
    rfl,
    stt2_ok ⟨rfl, rfl, rfl, rfl, rfl, trivial⟩ rfl rfl,
    rfl,
    stt2_ok ⟨rfl, rfl, rfl, rfl, trivial⟩ rfl rfl,
    rfl,
    stt2_ok ⟨rfl, rfl, rfl, rfl, trivial⟩ rfl rfl,
    rfl,
    stt2_ok ⟨rfl, rfl, rfl, rfl, trivial⟩ rfl rfl,
    rfl,
    stt2_ok ⟨rfl, rfl, rfl, rfl, trivial⟩ rfl rfl,
    pKp_ok sn,
    pKp_ok sm, rfl⟩
def KBUU (n m : Nat) (x y : Nat → Nat × Nat) : List Blk := HB (bX n) (bX m) (bX m) (bX n) (.sl 9 0 n 1) (.sl 12 0 m 1) (.sl 15 0 m 1) (.sl 18 0 n 1) []
noncomputable def RBUU (n m : Nat) (x y : Nat → Nat × Nat) : Fns := (((((((((((((((((((FT.addG 39 GList).addGs 40 (byPl [3] (GWtG false) (GWtG false))).addGs 41 (byPl [5] GRFwK GRFwK)).addGs 42 (byPl [7] GRFwK GRFwK)).addG 43 GKept).addGs 21 (byPl [9, 18] GBkK GBkK)).addLoop 5 c44 (nearSel noLp noLp noLp noLp)).addLoop 10 c45a (LA0 n (fun _ => CU) (KBUU n m x y) (.sl 12 0 m 1) (.sl 15 0 m 1) (.sl 18 0 n 1))).addLoop 11 c45a (LA1 m (fun _ => CU) (HB (syW n fun _ => (0, oneW)) (bX m) (bX m) (bX n) (.sl 9 0 n 1) (.sl 12 0 m 1) (.sl 15 0 m 1) (.sl 18 0 n 1) []) (.sl 9 0 n 1) (.sl 15 0 m 1) (.sl 18 0 n 1))).addLoop 12 c45a (LA2 m (fun _ => CU) (HB (syW n fun _ => (0, oneW)) (syW m fun _ => (4607182418800017408, oneW)) (bX m) (bX n) (.sl 9 0 n 1) (.sl 12 0 m 1) (.sl 15 0 m 1) (.sl 18 0 n 1) []) (.sl 9 0 n 1) (.sl 12 0 m 1) (.sl 18 0 n 1))).addLoop 13 c45a (LA3 n (fun _ => CU) (HB (syW n fun _ => (0, oneW)) (syW m fun _ => (4607182418800017408, oneW)) (syW m fun _ => (4611686018427387904, oneW)) (bX n) (.sl 9 0 n 1) (.sl 12 0 m 1) (.sl 15 0 m 1) (.sl 18 0 n 1) []) (.sl 9 0 n 1) (.sl 12 0 m 1) (.sl 15 0 m 1))).addLoop 20 c45b (LB0 n (HFF0 n m))).addLoop 21 c45b (LB1 m (HFF1 n m))).addLoop 22 c45b (LB2 m (HFF2 n m))).addLoop 23 c45b (LB3 n (HFF3 n m))).addLoop 30 c45c (LC0 n (HFF4 n m) (.sl 12 0 m 1) (.sl 15 0 m 1) (.sl 18 0 n 1) (.sl 26 0 (m + 20) 1) (.sl 29 0 (m + 20) 1) (.sl 32 0 (n + 20) 1))).addLoop 31 c45c (LC1 m (HFF4 n m) (.sl 9 0 n 1) (.sl 15 0 m 1) (.sl 18 0 n 1) (.sl 23 0 (n + 20) 1) (.sl 29 0 (m + 20) 1) (.sl 32 0 (n + 20) 1))).addLoop 32 c45c (LC2 m (HFF4 n m) (.sl 9 0 n 1) (.sl 12 0 m 1) (.sl 18 0 n 1) (.sl 23 0 (n + 20) 1) (.sl 26 0 (m + 20) 1) (.sl 32 0 (n + 20) 1))).addLoop 33 c45c (LC3 n (HFF4 n m) (.sl 9 0 n 1) (.sl 12 0 m 1) (.sl 15 0 m 1) (.sl 23 0 (n + 20) 1) (.sl 26 0 (m + 20) 1) (.sl 29 0 (m + 20) 1))).withCo (coTwo [.u, .b false, .u, .b false, .u, .b false, .u, .b false, .u] [.u, .l 10, .u, .l 11, .u, .l 12, .u, .l 13, .u, .u, .l 20, .u, .l 21, .u, .l 22, .u, .l 23, .u, .u, .l 30, .u, .l 31, .u, .l 32, .u, .l 33, .u])
theorem runBUU (n m : Nat) (x y : Nat → Nat × Nat) (u : Value) : runK Tryd.prog T (RBUU n m x y) 900 Tryd.f12 [prL n x, prL m y] [deadB] [] (fun r _ => resW r = some u) =
  obsP ((pList n x) ::
   (pList m y) ::
   (pWtG false n x) ::
   (pWtG false m y) ::
   (pFitL n x) ::
   (pFitL m y) ::
   (pFitL n x) ::
   (pFitL m y) ::
   (pTrU (-1) n x) ::
   (pNe n) ::
   (pTrU (-1) m y) ::
   (pNe m) ::
   (pTrU (-1) m y) ::
   (pNe m) ::
   (pTrU (-1) n x) ::
   (pNe n) ::
   (pKp n x) ::
   (pKp m y) ::
   (c45a = c45a) ::
   (stt2 131 [gotA, ic 0, ic 0] ((l45a 0 0).map (·.2)) (KBUU n m x y) (GA0 n (fun _ => CU) (KBUU n m x y) (.sl 12 0 m 1) (.sl 15 0 m 1) (.sl 18 0 n 1))) ::
   (c45a = c45a) ::
   (stt2 131 [gotA, ic 1, ic 0] ((l45a 1 0).map (·.2)) (HB (syW n fun _ => (0, oneW)) (bX m) (bX m) (bX n) (.sl 9 0 n 1) (.sl 12 0 m 1) (.sl 15 0 m 1) (.sl 18 0 n 1) []) (GA1 m (fun _ => CU) (HB (syW n fun _ => (0, oneW)) (bX m) (bX m) (bX n) (.sl 9 0 n 1) (.sl 12 0 m 1) (.sl 15 0 m 1) (.sl 18 0 n 1) []) (.sl 9 0 n 1) (.sl 15 0 m 1) (.sl 18 0 n 1))) ::
   (c45a = c45a) ::
   (stt2 131 [gotA, ic 2, ic 0] ((l45a 2 0).map (·.2)) (HB (syW n fun _ => (0, oneW)) (syW m fun _ => (4607182418800017408, oneW)) (bX m) (bX n) (.sl 9 0 n 1) (.sl 12 0 m 1) (.sl 15 0 m 1) (.sl 18 0 n 1) []) (GA2 m (fun _ => CU) (HB (syW n fun _ => (0, oneW)) (syW m fun _ => (4607182418800017408, oneW)) (bX m) (bX n) (.sl 9 0 n 1) (.sl 12 0 m 1) (.sl 15 0 m 1) (.sl 18 0 n 1) []) (.sl 9 0 n 1) (.sl 12 0 m 1) (.sl 18 0 n 1))) ::
   (c45a = c45a) ::
   (stt2 131 [gotA, ic 3, ic 0] ((l45a 3 0).map (·.2)) (HB (syW n fun _ => (0, oneW)) (syW m fun _ => (4607182418800017408, oneW)) (syW m fun _ => (4611686018427387904, oneW)) (bX n) (.sl 9 0 n 1) (.sl 12 0 m 1) (.sl 15 0 m 1) (.sl 18 0 n 1) []) (GA3 n (fun _ => CU) (HB (syW n fun _ => (0, oneW)) (syW m fun _ => (4607182418800017408, oneW)) (syW m fun _ => (4611686018427387904, oneW)) (bX n) (.sl 9 0 n 1) (.sl 12 0 m 1) (.sl 15 0 m 1) (.sl 18 0 n 1) []) (.sl 9 0 n 1) (.sl 12 0 m 1) (.sl 15 0 m 1))) ::
   (c45b = c45b) ::
   (stt2 131 [gotA, (.one nilC), ic 0, .one (.sl 9 0 n 1), ic 0] ((l45b (.one nilC) 0 9 n 0).map (·.2)) (HFF0 n m) (HFF0 n m)) ::
   (c45b = c45b) ::
   (stt2 131 [gotA, (.one (.sl 25 0 1 1)), ic 1, .one (.sl 12 0 m 1), ic 0] ((l45b (.one (.sl 25 0 1 1)) 1 12 m 0).map (·.2)) (HFF1 n m) (HFF1 n m)) ::
   (c45b = c45b) ::
   (stt2 131 [gotA, (.one (.sl 28 0 2 1)), ic 2, .one (.sl 15 0 m 1), ic 0] ((l45b (.one (.sl 28 0 2 1)) 2 15 m 0).map (·.2)) (HFF2 n m) (HFF2 n m)) ::
   (c45b = c45b) ::
   (stt2 131 [gotA, (.one (.sl 31 0 3 1)), ic 3, .one (.sl 18 0 n 1), ic 0] ((l45b (.one (.sl 31 0 3 1)) 3 18 n 0).map (·.2)) (HFF3 n m) (HFF3 n m)) ::
   (c45c = c45c) ::
   (stt2 131 [gotA, longA, ic 0, ic 0] ((l45c 0 0).map (·.2)) (HFF4 n m) (HFF4 n m)) ::
   (c45c = c45c) ::
   (stt2 131 [gotA, longA, ic 1, ic 0] ((l45c 1 0).map (·.2)) (HFF4 n m) (HFF4 n m)) ::
   (c45c = c45c) ::
   (stt2 131 [gotA, longA, ic 2, ic 0] ((l45c 2 0).map (·.2)) (HFF4 n m) (HFF4 n m)) ::
   (c45c = c45c) ::
   (stt2 131 [gotA, longA, ic 3, ic 0] ((l45c 3 0).map (·.2)) (HFF4 n m) (HFF4 n m)) ::
   (pKp n x) ::
   (pKp m y) :: []) (some (Value.bool true) = some u) := by kernel_rfl
theorem goBUU {n m : Nat} {x y : Nat → Nat × Nat} (sn : sizeOk n) (fn : fitB n = true) (tn : tmC x n = false) (sm : sizeOk m) (fm : fitB m = true) (tm : tmC y m = false) : goodB n m x y := by
  have hn := (fit_le fn).1
  have hm := (fit_le fm).1
  refine ⟨RBUU n m x y, (((((((((((((((((((FTok.addG gcon39).addGs (byPl_ok (gcon40G false) (gcon40G false))).addGs (byPl_ok gcon41K gcon41K)).addGs (byPl_ok gcon42K gcon42K)).addG gcon43).addGs (byPl_ok gcon21K gcon21K)).addLoop 5 c44 _ (nearSel_ok noLp_ok noLp_ok noLp_ok noLp_ok)).addLoop 10 c45a _ (LA0_ok hn)).addLoop 11 c45a _ (LA1_ok hm)).addLoop 12 c45a _ (LA2_ok hm)).addLoop 13 c45a _ (LA3_ok hn)).addLoop 20 c45b _ (LB0_ok hn (HFF0_e1 n m) (HFF0_e2 n m) (HFF0_ok n m))).addLoop 21 c45b _ (LB1_ok hm (HFF1_e1 n m) (HFF1_e2 n m) (HFF1_ok n m))).addLoop 22 c45b _ (LB2_ok hm (HFF2_e1 n m) (HFF2_e2 n m) (HFF2_ok n m))).addLoop 23 c45b _ (LB3_ok hn (HFF3_e1 n m) (HFF3_e2 n m) (HFF3_ok n m))).addLoop 30 c45c _ (LC0_ok hn)).addLoop 31 c45c _ (LC1_ok hm)).addLoop 32 c45c _ (LC2_ok hm)).addLoop 33 c45c _ (LC3_ok hn)).withCo _, ?_⟩
  rw [runBUU]
  exact ⟨pList_ok sn,
    pList_ok sm,
    pWtG_ok sn tn,
    pWtG_ok sm tm,
    pFitL_ok fn,
    pFitL_ok fm,
    pFitL_ok fn,
    pFitL_ok fm,
    pTrU_ok (.inr rfl) fn,
    pNe_ok n,
    pTrU_ok (.inr rfl) fm,
    pNe_ok m,
    pTrU_ok (.inr rfl) fm,
    pNe_ok m,
    pTrU_ok (.inr rfl) fn,
    pNe_ok n,
    pKp_ok sn,
    pKp_ok sm,
    rfl,
    stt2_ok (g := (KBUU n m x y)) ⟨rfl, rfl, rfl, trivial⟩ (rfl) (GA0_eq _ _ _ _ _ _ _ _),
    rfl,
    stt2_ok (g := (HB (syW n fun _ => (0, oneW)) (bX m) (bX m) (bX n) (.sl 9 0 n 1) (.sl 12 0 m 1) (.sl 15 0 m 1) (.sl 18 0 n 1) [])) ⟨rfl, rfl, rfl, trivial⟩ (rfl) (GA1_eq _ _ _ _ _ _ _ _),
    rfl,
    stt2_ok (g := (HB (syW n fun _ => (0, oneW)) (syW m fun _ => (4607182418800017408, oneW)) (bX m) (bX n) (.sl 9 0 n 1) (.sl 12 0 m 1) (.sl 15 0 m 1) (.sl 18 0 n 1) [])) ⟨rfl, rfl, rfl, trivial⟩ (rfl) (GA2_eq _ _ _ _ _ _ _ _),
    rfl,
    stt2_ok (g := (HB (syW n fun _ => (0, oneW)) (syW m fun _ => (4607182418800017408, oneW)) (syW m fun _ => (4611686018427387904, oneW)) (bX n) (.sl 9 0 n 1) (.sl 12 0 m 1) (.sl 15 0 m 1) (.sl 18 0 n 1) [])) ⟨rfl, rfl, rfl, trivial⟩ (rfl) (GA3_eq _ _ _ _ _ _ _ _),
    rfl,
    stt2_ok ⟨rfl, rfl, rfl, rfl, rfl, trivial⟩ rfl rfl,
    rfl,
    stt2_ok ⟨rfl, rfl, rfl, rfl, rfl, trivial⟩ rfl rfl,
    rfl,
    stt2_ok ⟨rfl, rfl, rfl, rfl, rfl, trivial⟩ rfl rfl,
    rfl,
    stt2_ok ⟨rfl, rfl, rfl, rfl, rfl, trivial⟩ rfl rfl,
    rfl,
    stt2_ok ⟨rfl, rfl, rfl, rfl, trivial⟩ rfl rfl,
    rfl,
    stt2_ok ⟨rfl, rfl, rfl, rfl, trivial⟩ rfl rfl,
    rfl,
    stt2_ok ⟨rfl, rfl, rfl, rfl, trivial⟩ rfl rfl,
    rfl,
    stt2_ok ⟨rfl, rfl, rfl, rfl, trivial⟩ rfl rfl,
    pKp_ok sn,
    pKp_ok sm, rfl⟩
def KBUNt (n m : Nat) (x y : Nat → Nat × Nat) : List Blk := HB (bX n) deadB deadB (bX n) (.sl 9 0 n 1) nilC nilC (.sl 18 0 n 1) []
noncomputable def RBUNt (n m : Nat) (x y : Nat → Nat × Nat) : Fns := (((((((((((((((((FT.addG 39 GList).addGs 40 (byPl [3] (GWtG false) (GWtG true))).addGs 41 (byPl [5] GRFwK GRFwN)).addGs 42 (byPl [7] GRFwK GRFwN)).addG 43 GKept).addGs 21 (byPl [9, 18] GBkK GFwN)).addLoop 5 c44 (nearSel noLp noLp noLp noLp)).addLoop 10 c45a (LA0 n (fun _ => CU) (KBUNt n m x y) nilC nilC (.sl 18 0 n 1))).addLoop 13 c45a (LA3 n (fun _ => CU) (HB (syW n fun _ => (0, oneW)) deadB deadB (bX n) (.sl 9 0 n 1) nilC nilC (.sl 18 0 n 1) []) (.sl 9 0 n 1) nilC nilC)).addLoop 20 c45b (LB0 n (HFN0 n m))).addLoop 21 c45b (LN1 (HFN1 n m))).addLoop 22 c45b (LN2 (HFN2 n m))).addLoop 23 c45b (LB3 n (HFN3 n m))).addLoop 30 c45c (LC0 n (HFN4 n m) nilC nilC (.sl 18 0 n 1) (.sl 26 0 (0 + 20) 1) (.sl 29 0 (0 + 20) 1) (.sl 32 0 (n + 20) 1))).addLoop 31 c45c (LD1 (HFN4 n m) (.sl 9 0 n 1) nilC (.sl 18 0 n 1) (.sl 23 0 (n + 20) 1) (.sl 29 0 (0 + 20) 1) (.sl 32 0 (n + 20) 1))).addLoop 32 c45c (LD2 (HFN4 n m) (.sl 9 0 n 1) nilC (.sl 18 0 n 1) (.sl 23 0 (n + 20) 1) (.sl 26 0 (0 + 20) 1) (.sl 32 0 (n + 20) 1))).addLoop 33 c45c (LC3 n (HFN4 n m) (.sl 9 0 n 1) nilC nilC (.sl 23 0 (n + 20) 1) (.sl 26 0 (0 + 20) 1) (.sl 29 0 (0 + 20) 1))).withCo (coTwo [.u, .b false, .u, .u, .u, .b false, .u] [.u, .l 10, .u, .u, .u, .u, .u, .l 13, .u, .u, .l 20, .u, .l 21, .u, .l 22, .u, .l 23, .u, .u, .l 30, .u, .l 31, .u, .l 32, .u, .l 33, .u])
theorem runBUNt (n m : Nat) (x y : Nat → Nat × Nat) (u : Value) : runK Tryd.prog T (RBUNt n m x y) 900 Tryd.f12 [prL n x, prL m y] [deadB] [] (fun r _ => resW r = some u) =
  obsP ((pList n x) ::
   (pList m y) ::
   (pWtG false n x) ::
   (pWtG true m y) ::
   (pFitL n x) ::
   (pNo m) ::
   (pFitL n x) ::
   (pNo m) ::
   (pTrU (-1) n x) ::
   (pNe n) ::
   (pNo m) ::
   (pNo m) ::
   (pTrU (-1) n x) ::
   (pNe n) ::
   (pKp n x) ::
   (pKp m y) ::
   (c45a = c45a) ::
   (stt2 131 [gotA, ic 0, ic 0] ((l45a 0 0).map (·.2)) (KBUNt n m x y) (GA0 n (fun _ => CU) (KBUNt n m x y) nilC nilC (.sl 18 0 n 1))) ::
   (c45a = c45a) ::
   (stt2 131 [gotA, ic 3, ic 0] ((l45a 3 0).map (·.2)) (HB (syW n fun _ => (0, oneW)) deadB deadB (bX n) (.sl 9 0 n 1) nilC nilC (.sl 18 0 n 1) []) (GA3 n (fun _ => CU) (HB (syW n fun _ => (0, oneW)) deadB deadB (bX n) (.sl 9 0 n 1) nilC nilC (.sl 18 0 n 1) []) (.sl 9 0 n 1) nilC nilC)) ::
   (c45b = c45b) ::
   (stt2 131 [gotA, (.one nilC), ic 0, .one (.sl 9 0 n 1), ic 0] ((l45b (.one nilC) 0 9 n 0).map (·.2)) (HFN0 n m) (HFN0 n m)) ::
   (c45b = c45b) ::
   (stt2 131 [gotA, (.one (.sl 25 0 1 1)), ic 1, .one nilC, ic 0] ((l45n (.one (.sl 25 0 1 1)) 1 0).map (·.2)) (HFN1 n m) (HFN1 n m)) ::
   (c45b = c45b) ::
   (stt2 131 [gotA, (.one (.sl 28 0 2 1)), ic 2, .one nilC, ic 0] ((l45n (.one (.sl 28 0 2 1)) 2 0).map (·.2)) (HFN2 n m) (HFN2 n m)) ::
   (c45b = c45b) ::
   (stt2 131 [gotA, (.one (.sl 31 0 3 1)), ic 3, .one (.sl 18 0 n 1), ic 0] ((l45b (.one (.sl 31 0 3 1)) 3 18 n 0).map (·.2)) (HFN3 n m) (HFN3 n m)) ::
   (c45c = c45c) ::
   (stt2 131 [gotA, longA, ic 0, ic 0] ((l45c 0 0).map (·.2)) (HFN4 n m) (HFN4 n m)) ::
   (c45c = c45c) ::
   (stt2 131 [gotA, longA, ic 1, ic 0] ((l45c 1 0).map (·.2)) (HFN4 n m) (HFN4 n m)) ::
   (c45c = c45c) ::
   (stt2 131 [gotA, longA, ic 2, ic 0] ((l45c 2 0).map (·.2)) (HFN4 n m) (HFN4 n m)) ::
   (c45c = c45c) ::
   (stt2 131 [gotA, longA, ic 3, ic 0] ((l45c 3 0).map (·.2)) (HFN4 n m) (HFN4 n m)) ::
   (pKp n x) ::
   (pKp m y) :: []) (some (Value.bool true) = some u) := by kernel_rfl
theorem goBUNt {n m : Nat} {x y : Nat → Nat × Nat} (sn : sizeOk n) (fn : fitB n = true) (tn : tmC x n = false) (sm : sizeOk m) (fm : fitB m = false) (tm : tmC y m = true) : goodB n m x y := by
  have hn := (fit_le fn).1
  refine ⟨RBUNt n m x y, (((((((((((((((((FTok.addG gcon39).addGs (byPl_ok (gcon40G false) (gcon40G true))).addGs (byPl_ok gcon41K gcon41n)).addGs (byPl_ok gcon42K gcon42n)).addG gcon43).addGs (byPl_ok gcon21K gcon21n)).addLoop 5 c44 _ (nearSel_ok noLp_ok noLp_ok noLp_ok noLp_ok)).addLoop 10 c45a _ (LA0_ok hn)).addLoop 13 c45a _ (LA3_ok hn)).addLoop 20 c45b _ (LB0_ok hn (HFN0_e1 n m) (HFN0_e2 n m) (HFN0_ok n m))).addLoop 21 c45b _ (LN1_ok (HFN1_e2 n m) (HFN1_ok n m))).addLoop 22 c45b _ (LN2_ok (HFN2_e2 n m) (HFN2_ok n m))).addLoop 23 c45b _ (LB3_ok hn (HFN3_e1 n m) (HFN3_e2 n m) (HFN3_ok n m))).addLoop 30 c45c _ (LC0_ok hn)).addLoop 31 c45c _ LD1_ok).addLoop 32 c45c _ LD2_ok).addLoop 33 c45c _ (LC3_ok hn)).withCo _, ?_⟩
  rw [runBUNt]
  exact ⟨pList_ok sn,
    pList_ok sm,
    pWtG_ok sn tn,
    pWtG_ok sm tm,
    pFitL_ok fn,
    pNo_ok fm,
    pFitL_ok fn,
    pNo_ok fm,
    pTrU_ok (.inr rfl) fn,
    pNe_ok n,
    pNo_ok fm,
    pNo_ok fm,
    pTrU_ok (.inr rfl) fn,
    pNe_ok n,
    pKp_ok sn,
    pKp_ok sm,
    rfl,
    stt2_ok (g := (KBUNt n m x y)) ⟨rfl, rfl, rfl, trivial⟩ (rfl) (GA0_eq _ _ _ _ _ _ _ _),
    rfl,
    stt2_ok (g := (HB (syW n fun _ => (0, oneW)) deadB deadB (bX n) (.sl 9 0 n 1) nilC nilC (.sl 18 0 n 1) [])) ⟨rfl, rfl, rfl, trivial⟩ (rfl) (GA3_eq _ _ _ _ _ _ _ _),
    rfl,
    stt2_ok ⟨rfl, rfl, rfl, rfl, rfl, trivial⟩ rfl rfl,
    rfl,
    stt2_ok ⟨rfl, rfl, rfl, rfl, rfl, trivial⟩ rfl rfl,
    rfl,
    stt2_ok ⟨rfl, rfl, rfl, rfl, rfl, trivial⟩ rfl rfl,
    rfl,
    stt2_ok ⟨rfl, rfl, rfl, rfl, rfl, trivial⟩ rfl rfl,
    rfl,
    stt2_ok ⟨rfl, rfl, rfl, rfl, trivial⟩ rfl rfl,
    rfl,
    stt2_ok ⟨rfl, rfl, rfl, rfl, trivial⟩ rfl rfl,
    rfl,
    stt2_ok ⟨rfl, rfl, rfl, rfl, trivial⟩ rfl rfl,
    rfl,
    stt2_ok ⟨rfl, rfl, rfl, rfl, trivial⟩ rfl rfl,
    pKp_ok sn,
    pKp_ok sm, rfl⟩
def KBUNu (n m : Nat) (x y : Nat → Nat × Nat) : List Blk := HB (bX n) deadB deadB (bX n) (.sl 9 0 n 1) nilC nilC (.sl 18 0 n 1) []
noncomputable def RBUNu (n m : Nat) (x y : Nat → Nat × Nat) : Fns := (((((((((((((((((FT.addG 39 GList).addGs 40 (byPl [3] (GWtG false) (GWtG false))).addGs 41 (byPl [5] GRFwK GRFwN)).addGs 42 (byPl [7] GRFwK GRFwN)).addG 43 GKept).addGs 21 (byPl [9, 18] GBkK GFwN)).addLoop 5 c44 (nearSel noLp noLp noLp noLp)).addLoop 10 c45a (LA0 n (fun _ => CU) (KBUNu n m x y) nilC nilC (.sl 18 0 n 1))).addLoop 13 c45a (LA3 n (fun _ => CU) (HB (syW n fun _ => (0, oneW)) deadB deadB (bX n) (.sl 9 0 n 1) nilC nilC (.sl 18 0 n 1) []) (.sl 9 0 n 1) nilC nilC)).addLoop 20 c45b (LB0 n (HFN0 n m))).addLoop 21 c45b (LN1 (HFN1 n m))).addLoop 22 c45b (LN2 (HFN2 n m))).addLoop 23 c45b (LB3 n (HFN3 n m))).addLoop 30 c45c (LC0 n (HFN4 n m) nilC nilC (.sl 18 0 n 1) (.sl 26 0 (0 + 20) 1) (.sl 29 0 (0 + 20) 1) (.sl 32 0 (n + 20) 1))).addLoop 31 c45c (LD1 (HFN4 n m) (.sl 9 0 n 1) nilC (.sl 18 0 n 1) (.sl 23 0 (n + 20) 1) (.sl 29 0 (0 + 20) 1) (.sl 32 0 (n + 20) 1))).addLoop 32 c45c (LD2 (HFN4 n m) (.sl 9 0 n 1) nilC (.sl 18 0 n 1) (.sl 23 0 (n + 20) 1) (.sl 26 0 (0 + 20) 1) (.sl 32 0 (n + 20) 1))).addLoop 33 c45c (LC3 n (HFN4 n m) (.sl 9 0 n 1) nilC nilC (.sl 23 0 (n + 20) 1) (.sl 26 0 (0 + 20) 1) (.sl 29 0 (0 + 20) 1))).withCo (coTwo [.u, .b false, .u, .u, .u, .b false, .u] [.u, .l 10, .u, .u, .u, .u, .u, .l 13, .u, .u, .l 20, .u, .l 21, .u, .l 22, .u, .l 23, .u, .u, .l 30, .u, .l 31, .u, .l 32, .u, .l 33, .u])
theorem runBUNu (n m : Nat) (x y : Nat → Nat × Nat) (u : Value) : runK Tryd.prog T (RBUNu n m x y) 900 Tryd.f12 [prL n x, prL m y] [deadB] [] (fun r _ => resW r = some u) =
  obsP ((pList n x) ::
   (pList m y) ::
   (pWtG false n x) ::
   (pWtG false m y) ::
   (pFitL n x) ::
   (pNo m) ::
   (pFitL n x) ::
   (pNo m) ::
   (pTrU (-1) n x) ::
   (pNe n) ::
   (pNo m) ::
   (pNo m) ::
   (pTrU (-1) n x) ::
   (pNe n) ::
   (pKp n x) ::
   (pKp m y) ::
   (c45a = c45a) ::
   (stt2 131 [gotA, ic 0, ic 0] ((l45a 0 0).map (·.2)) (KBUNu n m x y) (GA0 n (fun _ => CU) (KBUNu n m x y) nilC nilC (.sl 18 0 n 1))) ::
   (c45a = c45a) ::
   (stt2 131 [gotA, ic 3, ic 0] ((l45a 3 0).map (·.2)) (HB (syW n fun _ => (0, oneW)) deadB deadB (bX n) (.sl 9 0 n 1) nilC nilC (.sl 18 0 n 1) []) (GA3 n (fun _ => CU) (HB (syW n fun _ => (0, oneW)) deadB deadB (bX n) (.sl 9 0 n 1) nilC nilC (.sl 18 0 n 1) []) (.sl 9 0 n 1) nilC nilC)) ::
   (c45b = c45b) ::
   (stt2 131 [gotA, (.one nilC), ic 0, .one (.sl 9 0 n 1), ic 0] ((l45b (.one nilC) 0 9 n 0).map (·.2)) (HFN0 n m) (HFN0 n m)) ::
   (c45b = c45b) ::
   (stt2 131 [gotA, (.one (.sl 25 0 1 1)), ic 1, .one nilC, ic 0] ((l45n (.one (.sl 25 0 1 1)) 1 0).map (·.2)) (HFN1 n m) (HFN1 n m)) ::
   (c45b = c45b) ::
   (stt2 131 [gotA, (.one (.sl 28 0 2 1)), ic 2, .one nilC, ic 0] ((l45n (.one (.sl 28 0 2 1)) 2 0).map (·.2)) (HFN2 n m) (HFN2 n m)) ::
   (c45b = c45b) ::
   (stt2 131 [gotA, (.one (.sl 31 0 3 1)), ic 3, .one (.sl 18 0 n 1), ic 0] ((l45b (.one (.sl 31 0 3 1)) 3 18 n 0).map (·.2)) (HFN3 n m) (HFN3 n m)) ::
   (c45c = c45c) ::
   (stt2 131 [gotA, longA, ic 0, ic 0] ((l45c 0 0).map (·.2)) (HFN4 n m) (HFN4 n m)) ::
   (c45c = c45c) ::
   (stt2 131 [gotA, longA, ic 1, ic 0] ((l45c 1 0).map (·.2)) (HFN4 n m) (HFN4 n m)) ::
   (c45c = c45c) ::
   (stt2 131 [gotA, longA, ic 2, ic 0] ((l45c 2 0).map (·.2)) (HFN4 n m) (HFN4 n m)) ::
   (c45c = c45c) ::
   (stt2 131 [gotA, longA, ic 3, ic 0] ((l45c 3 0).map (·.2)) (HFN4 n m) (HFN4 n m)) ::
   (pKp n x) ::
   (pKp m y) :: []) (some (Value.bool true) = some u) := by kernel_rfl
theorem goBUNu {n m : Nat} {x y : Nat → Nat × Nat} (sn : sizeOk n) (fn : fitB n = true) (tn : tmC x n = false) (sm : sizeOk m) (fm : fitB m = false) (tm : tmC y m = false) : goodB n m x y := by
  have hn := (fit_le fn).1
  refine ⟨RBUNu n m x y, (((((((((((((((((FTok.addG gcon39).addGs (byPl_ok (gcon40G false) (gcon40G false))).addGs (byPl_ok gcon41K gcon41n)).addGs (byPl_ok gcon42K gcon42n)).addG gcon43).addGs (byPl_ok gcon21K gcon21n)).addLoop 5 c44 _ (nearSel_ok noLp_ok noLp_ok noLp_ok noLp_ok)).addLoop 10 c45a _ (LA0_ok hn)).addLoop 13 c45a _ (LA3_ok hn)).addLoop 20 c45b _ (LB0_ok hn (HFN0_e1 n m) (HFN0_e2 n m) (HFN0_ok n m))).addLoop 21 c45b _ (LN1_ok (HFN1_e2 n m) (HFN1_ok n m))).addLoop 22 c45b _ (LN2_ok (HFN2_e2 n m) (HFN2_ok n m))).addLoop 23 c45b _ (LB3_ok hn (HFN3_e1 n m) (HFN3_e2 n m) (HFN3_ok n m))).addLoop 30 c45c _ (LC0_ok hn)).addLoop 31 c45c _ LD1_ok).addLoop 32 c45c _ LD2_ok).addLoop 33 c45c _ (LC3_ok hn)).withCo _, ?_⟩
  rw [runBUNu]
  exact ⟨pList_ok sn,
    pList_ok sm,
    pWtG_ok sn tn,
    pWtG_ok sm tm,
    pFitL_ok fn,
    pNo_ok fm,
    pFitL_ok fn,
    pNo_ok fm,
    pTrU_ok (.inr rfl) fn,
    pNe_ok n,
    pNo_ok fm,
    pNo_ok fm,
    pTrU_ok (.inr rfl) fn,
    pNe_ok n,
    pKp_ok sn,
    pKp_ok sm,
    rfl,
    stt2_ok (g := (KBUNu n m x y)) ⟨rfl, rfl, rfl, trivial⟩ (rfl) (GA0_eq _ _ _ _ _ _ _ _),
    rfl,
    stt2_ok (g := (HB (syW n fun _ => (0, oneW)) deadB deadB (bX n) (.sl 9 0 n 1) nilC nilC (.sl 18 0 n 1) [])) ⟨rfl, rfl, rfl, trivial⟩ (rfl) (GA3_eq _ _ _ _ _ _ _ _),
    rfl,
    stt2_ok ⟨rfl, rfl, rfl, rfl, rfl, trivial⟩ rfl rfl,
    rfl,
    stt2_ok ⟨rfl, rfl, rfl, rfl, rfl, trivial⟩ rfl rfl,
    rfl,
    stt2_ok ⟨rfl, rfl, rfl, rfl, rfl, trivial⟩ rfl rfl,
    rfl,
    stt2_ok ⟨rfl, rfl, rfl, rfl, rfl, trivial⟩ rfl rfl,
    rfl,
    stt2_ok ⟨rfl, rfl, rfl, rfl, trivial⟩ rfl rfl,
    rfl,
    stt2_ok ⟨rfl, rfl, rfl, rfl, trivial⟩ rfl rfl,
    rfl,
    stt2_ok ⟨rfl, rfl, rfl, rfl, trivial⟩ rfl rfl,
    rfl,
    stt2_ok ⟨rfl, rfl, rfl, rfl, trivial⟩ rfl rfl,
    pKp_ok sn,
    pKp_ok sm, rfl⟩
def KBNtT (n m : Nat) (x y : Nat → Nat × Nat) : List Blk := HB deadB (bY m (zeB m y)) (bY m (zeB m y)) deadB nilC (.sl 12 0 m 1) (.sl 15 0 m 1) nilC []
noncomputable def RBNtT (n m : Nat) (x y : Nat → Nat × Nat) : Fns := (((((((((((((((((FT.addG 39 GList).addGs 40 (byPl [3] (GWtG true) GWtT)).addGs 41 (byPl [5] GRFwN GRFwK)).addGs 42 (byPl [7] GRFwN GRBk)).addG 43 GKept).addGs 21 (byPl [9, 18] GFwN GBackL)).addLoop 5 c44 (nearSel noLp (nearC 12 m (zeB m y) (rB m y) (bW m y) (KBNtT n m x y)) (nearC 15 m (zeB m y) (rB m y) (bW m y) (KBNtT n m x y)) noLp)).addLoop 11 c45a (LA1 m (fun k => CC ((zeB m y) k)) (HB deadB (bY m (zeB m y)) (bY m (zeB m y)) deadB nilC (.sl 12 0 m 1) (.sl 15 0 m 1) nilC []) nilC (.sl 15 0 m 1) nilC)).addLoop 12 c45a (LA2 m (fun k => CC ((zeB m y) k)) (HB deadB (syW m fun _ => (4607182418800017408, oneW)) (bY m (zeB m y)) deadB nilC (.sl 12 0 m 1) (.sl 15 0 m 1) nilC []) nilC (.sl 12 0 m 1) nilC)).addLoop 20 c45b (LN0 (HNF0 n m))).addLoop 21 c45b (LB1 m (HNF1 n m))).addLoop 22 c45b (LB2 m (HNF2 n m))).addLoop 23 c45b (LN3 (HNF3 n m))).addLoop 30 c45c (LD0 (HNF4 n m) (.sl 12 0 m 1) (.sl 15 0 m 1) nilC (.sl 26 0 (m + 20) 1) (.sl 29 0 (m + 20) 1) (.sl 32 0 (0 + 20) 1))).addLoop 31 c45c (LC1 m (HNF4 n m) nilC (.sl 15 0 m 1) nilC (.sl 23 0 (0 + 20) 1) (.sl 29 0 (m + 20) 1) (.sl 32 0 (0 + 20) 1))).addLoop 32 c45c (LC2 m (HNF4 n m) nilC (.sl 12 0 m 1) nilC (.sl 23 0 (0 + 20) 1) (.sl 26 0 (m + 20) 1) (.sl 32 0 (0 + 20) 1))).addLoop 33 c45c (LD3 (HNF4 n m) nilC (.sl 12 0 m 1) (.sl 15 0 m 1) (.sl 23 0 (0 + 20) 1) (.sl 26 0 (m + 20) 1) (.sl 29 0 (m + 20) 1))).withCo (coTwo [.u, .u, .b false, .u, .b false, .u, .u] [.u, .u, .u, .l 11, .u, .l 12, .u, .u, .u, .u, .l 20, .u, .l 21, .u, .l 22, .u, .l 23, .u, .u, .l 30, .u, .l 31, .u, .l 32, .u, .l 33, .u])
theorem runBNtT (n m : Nat) (x y : Nat → Nat × Nat) (u : Value) : runK Tryd.prog T (RBNtT n m x y) 900 Tryd.f12 [prL n x, prL m y] [deadB] [] (fun r _ => resW r = some u) =
  obsP ((pList n x) ::
   (pList m y) ::
   (pWtG true n x) ::
   (pWtT m y) ::
   (pNo n) ::
   (pFitL m y) ::
   (pNo n) ::
   (pBkT m y) ::
   (pNo n) ::
   (pTrB m y) ::
   (pNe m) ::
   (pTrB m y) ::
   (pNe m) ::
   (pNo n) ::
   (pKp n x) ::
   (pKp m y) ::
   (pB1 m y) ::
   (pB2 m y) ::
   (pNe m) ::
   (c44 = c44) ::
   (stt2 47 [.one (.sl 12 0 m 1), prL m (rB m y), AFl (bW m y), ic 0] ((l44 12 m (rB m y) (bW m y) 0).map (·.2)) (KBNtT n m x y) (nearH 12 m (zeB m y) (KBNtT n m x y))) ::
   (pB1 m y) ::
   (pB2 m y) ::
   (pNe m) ::
   (c44 = c44) ::
   (stt2 47 [.one (.sl 15 0 m 1), prL m (rB m y), AFl (bW m y), ic 0] ((l44 15 m (rB m y) (bW m y) 0).map (·.2)) (nearH 12 m (zeB m y) (KBNtT n m x y)) (nearH 15 m (zeB m y) (KBNtT n m x y))) ::
   (c45a = c45a) ::
   (stt2 131 [gotA, ic 1, ic 0] ((l45a 1 0).map (·.2)) (nearH 15 m (zeB m y) (KBNtT n m x y)) (GA1 m (fun k => CC ((zeB m y) k)) (HB deadB (bY m (zeB m y)) (bY m (zeB m y)) deadB nilC (.sl 12 0 m 1) (.sl 15 0 m 1) nilC []) nilC (.sl 15 0 m 1) nilC)) ::
   (c45a = c45a) ::
   (stt2 131 [gotA, ic 2, ic 0] ((l45a 2 0).map (·.2)) (HB deadB (syW m fun _ => (4607182418800017408, oneW)) (bY m (zeB m y)) deadB nilC (.sl 12 0 m 1) (.sl 15 0 m 1) nilC []) (GA2 m (fun k => CC ((zeB m y) k)) (HB deadB (syW m fun _ => (4607182418800017408, oneW)) (bY m (zeB m y)) deadB nilC (.sl 12 0 m 1) (.sl 15 0 m 1) nilC []) nilC (.sl 12 0 m 1) nilC)) ::
   (c45b = c45b) ::
   (stt2 131 [gotA, (.one nilC), ic 0, .one nilC, ic 0] ((l45n (.one nilC) 0 0).map (·.2)) (HNF0 n m) (HNF0 n m)) ::
   (c45b = c45b) ::
   (stt2 131 [gotA, (.one (.sl 25 0 1 1)), ic 1, .one (.sl 12 0 m 1), ic 0] ((l45b (.one (.sl 25 0 1 1)) 1 12 m 0).map (·.2)) (HNF1 n m) (HNF1 n m)) ::
   (c45b = c45b) ::
   (stt2 131 [gotA, (.one (.sl 28 0 2 1)), ic 2, .one (.sl 15 0 m 1), ic 0] ((l45b (.one (.sl 28 0 2 1)) 2 15 m 0).map (·.2)) (HNF2 n m) (HNF2 n m)) ::
   (c45b = c45b) ::
   (stt2 131 [gotA, (.one (.sl 31 0 3 1)), ic 3, .one nilC, ic 0] ((l45n (.one (.sl 31 0 3 1)) 3 0).map (·.2)) (HNF3 n m) (HNF3 n m)) ::
   (c45c = c45c) ::
   (stt2 131 [gotA, longA, ic 0, ic 0] ((l45c 0 0).map (·.2)) (HNF4 n m) (HNF4 n m)) ::
   (c45c = c45c) ::
   (stt2 131 [gotA, longA, ic 1, ic 0] ((l45c 1 0).map (·.2)) (HNF4 n m) (HNF4 n m)) ::
   (c45c = c45c) ::
   (stt2 131 [gotA, longA, ic 2, ic 0] ((l45c 2 0).map (·.2)) (HNF4 n m) (HNF4 n m)) ::
   (c45c = c45c) ::
   (stt2 131 [gotA, longA, ic 3, ic 0] ((l45c 3 0).map (·.2)) (HNF4 n m) (HNF4 n m)) ::
   (pKp n x) ::
   (pKp m y) :: []) (some (Value.bool true) = some u) := by kernel_rfl
theorem goBNtT {n m : Nat} {x y : Nat → Nat × Nat} (sn : sizeOk n) (fn : fitB n = false) (tn : tmC x n = true) (sm : sizeOk m) (fm : fitB m = true) (tm : tmC y m = true) (km : okTB m y) : goodB n m x y := by
  have hm := (fit_le fm).1
  obtain ⟨wm, mm, qm, rm, bm, cm, om⟩ := km
  refine ⟨RBNtT n m x y, (((((((((((((((((FTok.addG gcon39).addGs (byPl_ok (gcon40G true) gcon40T)).addGs (byPl_ok gcon41n gcon41K)).addGs (byPl_ok gcon42n gcon42)).addG gcon43).addGs (byPl_ok gcon21n gcon21L)).addLoop 5 c44 _ (nearSel_ok noLp_ok (near12_ok hm om) (near15_ok hm om) noLp_ok)).addLoop 11 c45a _ (LA1_ok hm)).addLoop 12 c45a _ (LA2_ok hm)).addLoop 20 c45b _ (LN0_ok (HNF0_e2 n m) (HNF0_ok n m))).addLoop 21 c45b _ (LB1_ok hm (HNF1_e1 n m) (HNF1_e2 n m) (HNF1_ok n m))).addLoop 22 c45b _ (LB2_ok hm (HNF2_e1 n m) (HNF2_e2 n m) (HNF2_ok n m))).addLoop 23 c45b _ (LN3_ok (HNF3_e2 n m) (HNF3_ok n m))).addLoop 30 c45c _ LD0_ok).addLoop 31 c45c _ (LC1_ok hm)).addLoop 32 c45c _ (LC2_ok hm)).addLoop 33 c45c _ LD3_ok).withCo _, ?_⟩
  rw [runBNtT]
  exact ⟨pList_ok sn,
    pList_ok sm,
    pWtG_ok sn tn,
    pWtT_ok sm tm wm,
    pNo_ok fn,
    pFitL_ok fm,
    pNo_ok fn,
    pBkT_ok fm mm qm,
    pNo_ok fn,
    pTrB_ok rm,
    pNe_ok m,
    pTrB_ok rm,
    pNe_ok m,
    pNo_ok fn,
    pKp_ok sn,
    pKp_ok sm,
    bm,
    cm,
    pNe_ok m,
    rfl,
    stt2_ok (g := (KBNtT n m x y)) ⟨rfl, rfl, rfl, rfl, trivial⟩ (rfl) (nearH12_eq _ _ _ _ _ _ _ _ _),
    bm,
    cm,
    pNe_ok m,
    rfl,
    stt2_ok (g := (KBNtT n m x y)) ⟨rfl, rfl, rfl, rfl, trivial⟩ (nearH12_eq _ _ _ _ _ _ _ _ _) (nearH15_eq _ _ _ _ _ _ _ _ _),
    rfl,
    stt2_ok (g := (HB deadB (bY m (zeB m y)) (bY m (zeB m y)) deadB nilC (.sl 12 0 m 1) (.sl 15 0 m 1) nilC [])) ⟨rfl, rfl, rfl, trivial⟩ (nearH15_eq _ _ _ _ _ _ _ _ _) (GA1_eq _ _ _ _ _ _ _ _),
    rfl,
    stt2_ok (g := (HB deadB (syW m fun _ => (4607182418800017408, oneW)) (bY m (zeB m y)) deadB nilC (.sl 12 0 m 1) (.sl 15 0 m 1) nilC [])) ⟨rfl, rfl, rfl, trivial⟩ (rfl) (GA2_eq _ _ _ _ _ _ _ _),
    rfl,
    stt2_ok ⟨rfl, rfl, rfl, rfl, rfl, trivial⟩ rfl rfl,
    rfl,
    stt2_ok ⟨rfl, rfl, rfl, rfl, rfl, trivial⟩ rfl rfl,
    rfl,
    stt2_ok ⟨rfl, rfl, rfl, rfl, rfl, trivial⟩ rfl rfl,
    rfl,
    stt2_ok ⟨rfl, rfl, rfl, rfl, rfl, trivial⟩ rfl rfl,
    rfl,
    stt2_ok ⟨rfl, rfl, rfl, rfl, trivial⟩ rfl rfl,
    rfl,
    stt2_ok ⟨rfl, rfl, rfl, rfl, trivial⟩ rfl rfl,
    rfl,
    stt2_ok ⟨rfl, rfl, rfl, rfl, trivial⟩ rfl rfl,
    rfl,
    stt2_ok ⟨rfl, rfl, rfl, rfl, trivial⟩ rfl rfl,
    pKp_ok sn,
    pKp_ok sm, rfl⟩
def KBNtU (n m : Nat) (x y : Nat → Nat × Nat) : List Blk := HB deadB (bX m) (bX m) deadB nilC (.sl 12 0 m 1) (.sl 15 0 m 1) nilC []
noncomputable def RBNtU (n m : Nat) (x y : Nat → Nat × Nat) : Fns := (((((((((((((((((FT.addG 39 GList).addGs 40 (byPl [3] (GWtG true) (GWtG false))).addGs 41 (byPl [5] GRFwN GRFwK)).addGs 42 (byPl [7] GRFwN GRFwK)).addG 43 GKept).addGs 21 (byPl [9, 18] GFwN GBkK)).addLoop 5 c44 (nearSel noLp noLp noLp noLp)).addLoop 11 c45a (LA1 m (fun _ => CU) (HB deadB (bX m) (bX m) deadB nilC (.sl 12 0 m 1) (.sl 15 0 m 1) nilC []) nilC (.sl 15 0 m 1) nilC)).addLoop 12 c45a (LA2 m (fun _ => CU) (HB deadB (syW m fun _ => (4607182418800017408, oneW)) (bX m) deadB nilC (.sl 12 0 m 1) (.sl 15 0 m 1) nilC []) nilC (.sl 12 0 m 1) nilC)).addLoop 20 c45b (LN0 (HNF0 n m))).addLoop 21 c45b (LB1 m (HNF1 n m))).addLoop 22 c45b (LB2 m (HNF2 n m))).addLoop 23 c45b (LN3 (HNF3 n m))).addLoop 30 c45c (LD0 (HNF4 n m) (.sl 12 0 m 1) (.sl 15 0 m 1) nilC (.sl 26 0 (m + 20) 1) (.sl 29 0 (m + 20) 1) (.sl 32 0 (0 + 20) 1))).addLoop 31 c45c (LC1 m (HNF4 n m) nilC (.sl 15 0 m 1) nilC (.sl 23 0 (0 + 20) 1) (.sl 29 0 (m + 20) 1) (.sl 32 0 (0 + 20) 1))).addLoop 32 c45c (LC2 m (HNF4 n m) nilC (.sl 12 0 m 1) nilC (.sl 23 0 (0 + 20) 1) (.sl 26 0 (m + 20) 1) (.sl 32 0 (0 + 20) 1))).addLoop 33 c45c (LD3 (HNF4 n m) nilC (.sl 12 0 m 1) (.sl 15 0 m 1) (.sl 23 0 (0 + 20) 1) (.sl 26 0 (m + 20) 1) (.sl 29 0 (m + 20) 1))).withCo (coTwo [.u, .u, .b false, .u, .b false, .u, .u] [.u, .u, .u, .l 11, .u, .l 12, .u, .u, .u, .u, .l 20, .u, .l 21, .u, .l 22, .u, .l 23, .u, .u, .l 30, .u, .l 31, .u, .l 32, .u, .l 33, .u])
theorem runBNtU (n m : Nat) (x y : Nat → Nat × Nat) (u : Value) : runK Tryd.prog T (RBNtU n m x y) 900 Tryd.f12 [prL n x, prL m y] [deadB] [] (fun r _ => resW r = some u) =
  obsP ((pList n x) ::
   (pList m y) ::
   (pWtG true n x) ::
   (pWtG false m y) ::
   (pNo n) ::
   (pFitL m y) ::
   (pNo n) ::
   (pFitL m y) ::
   (pNo n) ::
   (pTrU (-1) m y) ::
   (pNe m) ::
   (pTrU (-1) m y) ::
   (pNe m) ::
   (pNo n) ::
   (pKp n x) ::
   (pKp m y) ::
   (c45a = c45a) ::
   (stt2 131 [gotA, ic 1, ic 0] ((l45a 1 0).map (·.2)) (KBNtU n m x y) (GA1 m (fun _ => CU) (HB deadB (bX m) (bX m) deadB nilC (.sl 12 0 m 1) (.sl 15 0 m 1) nilC []) nilC (.sl 15 0 m 1) nilC)) ::
   (c45a = c45a) ::
   (stt2 131 [gotA, ic 2, ic 0] ((l45a 2 0).map (·.2)) (HB deadB (syW m fun _ => (4607182418800017408, oneW)) (bX m) deadB nilC (.sl 12 0 m 1) (.sl 15 0 m 1) nilC []) (GA2 m (fun _ => CU) (HB deadB (syW m fun _ => (4607182418800017408, oneW)) (bX m) deadB nilC (.sl 12 0 m 1) (.sl 15 0 m 1) nilC []) nilC (.sl 12 0 m 1) nilC)) ::
   (c45b = c45b) ::
   (stt2 131 [gotA, (.one nilC), ic 0, .one nilC, ic 0] ((l45n (.one nilC) 0 0).map (·.2)) (HNF0 n m) (HNF0 n m)) ::
   (c45b = c45b) ::
   (stt2 131 [gotA, (.one (.sl 25 0 1 1)), ic 1, .one (.sl 12 0 m 1), ic 0] ((l45b (.one (.sl 25 0 1 1)) 1 12 m 0).map (·.2)) (HNF1 n m) (HNF1 n m)) ::
   (c45b = c45b) ::
   (stt2 131 [gotA, (.one (.sl 28 0 2 1)), ic 2, .one (.sl 15 0 m 1), ic 0] ((l45b (.one (.sl 28 0 2 1)) 2 15 m 0).map (·.2)) (HNF2 n m) (HNF2 n m)) ::
   (c45b = c45b) ::
   (stt2 131 [gotA, (.one (.sl 31 0 3 1)), ic 3, .one nilC, ic 0] ((l45n (.one (.sl 31 0 3 1)) 3 0).map (·.2)) (HNF3 n m) (HNF3 n m)) ::
   (c45c = c45c) ::
   (stt2 131 [gotA, longA, ic 0, ic 0] ((l45c 0 0).map (·.2)) (HNF4 n m) (HNF4 n m)) ::
   (c45c = c45c) ::
   (stt2 131 [gotA, longA, ic 1, ic 0] ((l45c 1 0).map (·.2)) (HNF4 n m) (HNF4 n m)) ::
   (c45c = c45c) ::
   (stt2 131 [gotA, longA, ic 2, ic 0] ((l45c 2 0).map (·.2)) (HNF4 n m) (HNF4 n m)) ::
   (c45c = c45c) ::
   (stt2 131 [gotA, longA, ic 3, ic 0] ((l45c 3 0).map (·.2)) (HNF4 n m) (HNF4 n m)) ::
   (pKp n x) ::
   (pKp m y) :: []) (some (Value.bool true) = some u) := by kernel_rfl
theorem goBNtU {n m : Nat} {x y : Nat → Nat × Nat} (sn : sizeOk n) (fn : fitB n = false) (tn : tmC x n = true) (sm : sizeOk m) (fm : fitB m = true) (tm : tmC y m = false) : goodB n m x y := by
  have hm := (fit_le fm).1
  refine ⟨RBNtU n m x y, (((((((((((((((((FTok.addG gcon39).addGs (byPl_ok (gcon40G true) (gcon40G false))).addGs (byPl_ok gcon41n gcon41K)).addGs (byPl_ok gcon42n gcon42K)).addG gcon43).addGs (byPl_ok gcon21n gcon21K)).addLoop 5 c44 _ (nearSel_ok noLp_ok noLp_ok noLp_ok noLp_ok)).addLoop 11 c45a _ (LA1_ok hm)).addLoop 12 c45a _ (LA2_ok hm)).addLoop 20 c45b _ (LN0_ok (HNF0_e2 n m) (HNF0_ok n m))).addLoop 21 c45b _ (LB1_ok hm (HNF1_e1 n m) (HNF1_e2 n m) (HNF1_ok n m))).addLoop 22 c45b _ (LB2_ok hm (HNF2_e1 n m) (HNF2_e2 n m) (HNF2_ok n m))).addLoop 23 c45b _ (LN3_ok (HNF3_e2 n m) (HNF3_ok n m))).addLoop 30 c45c _ LD0_ok).addLoop 31 c45c _ (LC1_ok hm)).addLoop 32 c45c _ (LC2_ok hm)).addLoop 33 c45c _ LD3_ok).withCo _, ?_⟩
  rw [runBNtU]
  exact ⟨pList_ok sn,
    pList_ok sm,
    pWtG_ok sn tn,
    pWtG_ok sm tm,
    pNo_ok fn,
    pFitL_ok fm,
    pNo_ok fn,
    pFitL_ok fm,
    pNo_ok fn,
    pTrU_ok (.inr rfl) fm,
    pNe_ok m,
    pTrU_ok (.inr rfl) fm,
    pNe_ok m,
    pNo_ok fn,
    pKp_ok sn,
    pKp_ok sm,
    rfl,
    stt2_ok (g := (HB deadB (bX m) (bX m) deadB nilC (.sl 12 0 m 1) (.sl 15 0 m 1) nilC [])) ⟨rfl, rfl, rfl, trivial⟩ (rfl) (GA1_eq _ _ _ _ _ _ _ _),
    rfl,
    stt2_ok (g := (HB deadB (syW m fun _ => (4607182418800017408, oneW)) (bX m) deadB nilC (.sl 12 0 m 1) (.sl 15 0 m 1) nilC [])) ⟨rfl, rfl, rfl, trivial⟩ (rfl) (GA2_eq _ _ _ _ _ _ _ _),
    rfl,
    stt2_ok ⟨rfl, rfl, rfl, rfl, rfl, trivial⟩ rfl rfl,
    rfl,
    stt2_ok ⟨rfl, rfl, rfl, rfl, rfl, trivial⟩ rfl rfl,
    rfl,
    stt2_ok ⟨rfl, rfl, rfl, rfl, rfl, trivial⟩ rfl rfl,
    rfl,
    stt2_ok ⟨rfl, rfl, rfl, rfl, rfl, trivial⟩ rfl rfl,
    rfl,
    stt2_ok ⟨rfl, rfl, rfl, rfl, trivial⟩ rfl rfl,
    rfl,
    stt2_ok ⟨rfl, rfl, rfl, rfl, trivial⟩ rfl rfl,
    rfl,
    stt2_ok ⟨rfl, rfl, rfl, rfl, trivial⟩ rfl rfl,
    rfl,
    stt2_ok ⟨rfl, rfl, rfl, rfl, trivial⟩ rfl rfl,
    pKp_ok sn,
    pKp_ok sm, rfl⟩
noncomputable def RBNtNt (n m : Nat) (x y : Nat → Nat × Nat) : Fns := (((((((((((((((FT.addG 39 GList).addGs 40 (byPl [3] (GWtG true) (GWtG true))).addGs 41 (byPl [5] GRFwN GRFwN)).addGs 42 (byPl [7] GRFwN GRFwN)).addG 43 GKept).addGs 21 (byPl [9, 18] GFwN GFwN)).addLoop 5 c44 (nearSel noLp noLp noLp noLp)).addLoop 20 c45b (LN0 (HNN0 n m))).addLoop 21 c45b (LN1 (HNN1 n m))).addLoop 22 c45b (LN2 (HNN2 n m))).addLoop 23 c45b (LN3 (HNN3 n m))).addLoop 30 c45c (LD0 (HNN4 n m) nilC nilC nilC (.sl 26 0 (0 + 20) 1) (.sl 29 0 (0 + 20) 1) (.sl 32 0 (0 + 20) 1))).addLoop 31 c45c (LD1 (HNN4 n m) nilC nilC nilC (.sl 23 0 (0 + 20) 1) (.sl 29 0 (0 + 20) 1) (.sl 32 0 (0 + 20) 1))).addLoop 32 c45c (LD2 (HNN4 n m) nilC nilC nilC (.sl 23 0 (0 + 20) 1) (.sl 26 0 (0 + 20) 1) (.sl 32 0 (0 + 20) 1))).addLoop 33 c45c (LD3 (HNN4 n m) nilC nilC nilC (.sl 23 0 (0 + 20) 1) (.sl 26 0 (0 + 20) 1) (.sl 29 0 (0 + 20) 1))).withCo (coTwo [.u, .u, .u, .u, .u] [.u, .u, .u, .u, .u, .u, .u, .u, .u, .u, .l 20, .u, .l 21, .u, .l 22, .u, .l 23, .u, .u, .l 30, .u, .l 31, .u, .l 32, .u, .l 33, .u])
theorem runBNtNt (n m : Nat) (x y : Nat → Nat × Nat) (u : Value) : runK Tryd.prog T (RBNtNt n m x y) 900 Tryd.f12 [prL n x, prL m y] [deadB] [] (fun r _ => resW r = some u) =
  obsP ((pList n x) ::
   (pList m y) ::
   (pWtG true n x) ::
   (pWtG true m y) ::
   (pNo n) ::
   (pNo m) ::
   (pNo n) ::
   (pNo m) ::
   (pNo n) ::
   (pNo m) ::
   (pNo m) ::
   (pNo n) ::
   (pKp n x) ::
   (pKp m y) ::
   (c45b = c45b) ::
   (stt2 131 [gotA, (.one nilC), ic 0, .one nilC, ic 0] ((l45n (.one nilC) 0 0).map (·.2)) (HNN0 n m) (HNN0 n m)) ::
   (c45b = c45b) ::
   (stt2 131 [gotA, (.one (.sl 25 0 1 1)), ic 1, .one nilC, ic 0] ((l45n (.one (.sl 25 0 1 1)) 1 0).map (·.2)) (HNN1 n m) (HNN1 n m)) ::
   (c45b = c45b) ::
   (stt2 131 [gotA, (.one (.sl 28 0 2 1)), ic 2, .one nilC, ic 0] ((l45n (.one (.sl 28 0 2 1)) 2 0).map (·.2)) (HNN2 n m) (HNN2 n m)) ::
   (c45b = c45b) ::
   (stt2 131 [gotA, (.one (.sl 31 0 3 1)), ic 3, .one nilC, ic 0] ((l45n (.one (.sl 31 0 3 1)) 3 0).map (·.2)) (HNN3 n m) (HNN3 n m)) ::
   (c45c = c45c) ::
   (stt2 131 [gotA, longA, ic 0, ic 0] ((l45c 0 0).map (·.2)) (HNN4 n m) (HNN4 n m)) ::
   (c45c = c45c) ::
   (stt2 131 [gotA, longA, ic 1, ic 0] ((l45c 1 0).map (·.2)) (HNN4 n m) (HNN4 n m)) ::
   (c45c = c45c) ::
   (stt2 131 [gotA, longA, ic 2, ic 0] ((l45c 2 0).map (·.2)) (HNN4 n m) (HNN4 n m)) ::
   (c45c = c45c) ::
   (stt2 131 [gotA, longA, ic 3, ic 0] ((l45c 3 0).map (·.2)) (HNN4 n m) (HNN4 n m)) ::
   (pKp n x) ::
   (pKp m y) :: []) (some (Value.bool true) = some u) := by kernel_rfl
theorem goBNtNt {n m : Nat} {x y : Nat → Nat × Nat} (sn : sizeOk n) (fn : fitB n = false) (tn : tmC x n = true) (sm : sizeOk m) (fm : fitB m = false) (tm : tmC y m = true) : goodB n m x y := by
  refine ⟨RBNtNt n m x y, (((((((((((((((FTok.addG gcon39).addGs (byPl_ok (gcon40G true) (gcon40G true))).addGs (byPl_ok gcon41n gcon41n)).addGs (byPl_ok gcon42n gcon42n)).addG gcon43).addGs (byPl_ok gcon21n gcon21n)).addLoop 5 c44 _ (nearSel_ok noLp_ok noLp_ok noLp_ok noLp_ok)).addLoop 20 c45b _ (LN0_ok (HNN0_e2 n m) (HNN0_ok n m))).addLoop 21 c45b _ (LN1_ok (HNN1_e2 n m) (HNN1_ok n m))).addLoop 22 c45b _ (LN2_ok (HNN2_e2 n m) (HNN2_ok n m))).addLoop 23 c45b _ (LN3_ok (HNN3_e2 n m) (HNN3_ok n m))).addLoop 30 c45c _ LD0_ok).addLoop 31 c45c _ LD1_ok).addLoop 32 c45c _ LD2_ok).addLoop 33 c45c _ LD3_ok).withCo _, ?_⟩
  rw [runBNtNt]
  exact ⟨pList_ok sn,
    pList_ok sm,
    pWtG_ok sn tn,
    pWtG_ok sm tm,
    pNo_ok fn,
    pNo_ok fm,
    pNo_ok fn,
    pNo_ok fm,
    pNo_ok fn,
    pNo_ok fm,
    pNo_ok fm,
    pNo_ok fn,
    pKp_ok sn,
    pKp_ok sm,
    rfl,
    stt2_ok ⟨rfl, rfl, rfl, rfl, rfl, trivial⟩ rfl rfl,
    rfl,
    stt2_ok ⟨rfl, rfl, rfl, rfl, rfl, trivial⟩ rfl rfl,
    rfl,
    stt2_ok ⟨rfl, rfl, rfl, rfl, rfl, trivial⟩ rfl rfl,
    rfl,
    stt2_ok ⟨rfl, rfl, rfl, rfl, rfl, trivial⟩ rfl rfl,
    rfl,
    stt2_ok ⟨rfl, rfl, rfl, rfl, trivial⟩ rfl rfl,
    rfl,
    stt2_ok ⟨rfl, rfl, rfl, rfl, trivial⟩ rfl rfl,
    rfl,
    stt2_ok ⟨rfl, rfl, rfl, rfl, trivial⟩ rfl rfl,
    rfl,
    stt2_ok ⟨rfl, rfl, rfl, rfl, trivial⟩ rfl rfl,
    pKp_ok sn,
    pKp_ok sm, rfl⟩
noncomputable def RBNtNu (n m : Nat) (x y : Nat → Nat × Nat) : Fns := (((((((((((((((FT.addG 39 GList).addGs 40 (byPl [3] (GWtG true) (GWtG false))).addGs 41 (byPl [5] GRFwN GRFwN)).addGs 42 (byPl [7] GRFwN GRFwN)).addG 43 GKept).addGs 21 (byPl [9, 18] GFwN GFwN)).addLoop 5 c44 (nearSel noLp noLp noLp noLp)).addLoop 20 c45b (LN0 (HNN0 n m))).addLoop 21 c45b (LN1 (HNN1 n m))).addLoop 22 c45b (LN2 (HNN2 n m))).addLoop 23 c45b (LN3 (HNN3 n m))).addLoop 30 c45c (LD0 (HNN4 n m) nilC nilC nilC (.sl 26 0 (0 + 20) 1) (.sl 29 0 (0 + 20) 1) (.sl 32 0 (0 + 20) 1))).addLoop 31 c45c (LD1 (HNN4 n m) nilC nilC nilC (.sl 23 0 (0 + 20) 1) (.sl 29 0 (0 + 20) 1) (.sl 32 0 (0 + 20) 1))).addLoop 32 c45c (LD2 (HNN4 n m) nilC nilC nilC (.sl 23 0 (0 + 20) 1) (.sl 26 0 (0 + 20) 1) (.sl 32 0 (0 + 20) 1))).addLoop 33 c45c (LD3 (HNN4 n m) nilC nilC nilC (.sl 23 0 (0 + 20) 1) (.sl 26 0 (0 + 20) 1) (.sl 29 0 (0 + 20) 1))).withCo (coTwo [.u, .u, .u, .u, .u] [.u, .u, .u, .u, .u, .u, .u, .u, .u, .u, .l 20, .u, .l 21, .u, .l 22, .u, .l 23, .u, .u, .l 30, .u, .l 31, .u, .l 32, .u, .l 33, .u])
theorem runBNtNu (n m : Nat) (x y : Nat → Nat × Nat) (u : Value) : runK Tryd.prog T (RBNtNu n m x y) 900 Tryd.f12 [prL n x, prL m y] [deadB] [] (fun r _ => resW r = some u) =
  obsP ((pList n x) ::
   (pList m y) ::
   (pWtG true n x) ::
   (pWtG false m y) ::
   (pNo n) ::
   (pNo m) ::
   (pNo n) ::
   (pNo m) ::
   (pNo n) ::
   (pNo m) ::
   (pNo m) ::
   (pNo n) ::
   (pKp n x) ::
   (pKp m y) ::
   (c45b = c45b) ::
   (stt2 131 [gotA, (.one nilC), ic 0, .one nilC, ic 0] ((l45n (.one nilC) 0 0).map (·.2)) (HNN0 n m) (HNN0 n m)) ::
   (c45b = c45b) ::
   (stt2 131 [gotA, (.one (.sl 25 0 1 1)), ic 1, .one nilC, ic 0] ((l45n (.one (.sl 25 0 1 1)) 1 0).map (·.2)) (HNN1 n m) (HNN1 n m)) ::
   (c45b = c45b) ::
   (stt2 131 [gotA, (.one (.sl 28 0 2 1)), ic 2, .one nilC, ic 0] ((l45n (.one (.sl 28 0 2 1)) 2 0).map (·.2)) (HNN2 n m) (HNN2 n m)) ::
   (c45b = c45b) ::
   (stt2 131 [gotA, (.one (.sl 31 0 3 1)), ic 3, .one nilC, ic 0] ((l45n (.one (.sl 31 0 3 1)) 3 0).map (·.2)) (HNN3 n m) (HNN3 n m)) ::
   (c45c = c45c) ::
   (stt2 131 [gotA, longA, ic 0, ic 0] ((l45c 0 0).map (·.2)) (HNN4 n m) (HNN4 n m)) ::
   (c45c = c45c) ::
   (stt2 131 [gotA, longA, ic 1, ic 0] ((l45c 1 0).map (·.2)) (HNN4 n m) (HNN4 n m)) ::
   (c45c = c45c) ::
   (stt2 131 [gotA, longA, ic 2, ic 0] ((l45c 2 0).map (·.2)) (HNN4 n m) (HNN4 n m)) ::
   (c45c = c45c) ::
   (stt2 131 [gotA, longA, ic 3, ic 0] ((l45c 3 0).map (·.2)) (HNN4 n m) (HNN4 n m)) ::
   (pKp n x) ::
   (pKp m y) :: []) (some (Value.bool true) = some u) := by kernel_rfl
theorem goBNtNu {n m : Nat} {x y : Nat → Nat × Nat} (sn : sizeOk n) (fn : fitB n = false) (tn : tmC x n = true) (sm : sizeOk m) (fm : fitB m = false) (tm : tmC y m = false) : goodB n m x y := by
  refine ⟨RBNtNu n m x y, (((((((((((((((FTok.addG gcon39).addGs (byPl_ok (gcon40G true) (gcon40G false))).addGs (byPl_ok gcon41n gcon41n)).addGs (byPl_ok gcon42n gcon42n)).addG gcon43).addGs (byPl_ok gcon21n gcon21n)).addLoop 5 c44 _ (nearSel_ok noLp_ok noLp_ok noLp_ok noLp_ok)).addLoop 20 c45b _ (LN0_ok (HNN0_e2 n m) (HNN0_ok n m))).addLoop 21 c45b _ (LN1_ok (HNN1_e2 n m) (HNN1_ok n m))).addLoop 22 c45b _ (LN2_ok (HNN2_e2 n m) (HNN2_ok n m))).addLoop 23 c45b _ (LN3_ok (HNN3_e2 n m) (HNN3_ok n m))).addLoop 30 c45c _ LD0_ok).addLoop 31 c45c _ LD1_ok).addLoop 32 c45c _ LD2_ok).addLoop 33 c45c _ LD3_ok).withCo _, ?_⟩
  rw [runBNtNu]
  exact ⟨pList_ok sn,
    pList_ok sm,
    pWtG_ok sn tn,
    pWtG_ok sm tm,
    pNo_ok fn,
    pNo_ok fm,
    pNo_ok fn,
    pNo_ok fm,
    pNo_ok fn,
    pNo_ok fm,
    pNo_ok fm,
    pNo_ok fn,
    pKp_ok sn,
    pKp_ok sm,
    rfl,
    stt2_ok ⟨rfl, rfl, rfl, rfl, rfl, trivial⟩ rfl rfl,
    rfl,
    stt2_ok ⟨rfl, rfl, rfl, rfl, rfl, trivial⟩ rfl rfl,
    rfl,
    stt2_ok ⟨rfl, rfl, rfl, rfl, rfl, trivial⟩ rfl rfl,
    rfl,
    stt2_ok ⟨rfl, rfl, rfl, rfl, rfl, trivial⟩ rfl rfl,
    rfl,
    stt2_ok ⟨rfl, rfl, rfl, rfl, trivial⟩ rfl rfl,
    rfl,
    stt2_ok ⟨rfl, rfl, rfl, rfl, trivial⟩ rfl rfl,
    rfl,
    stt2_ok ⟨rfl, rfl, rfl, rfl, trivial⟩ rfl rfl,
    rfl,
    stt2_ok ⟨rfl, rfl, rfl, rfl, trivial⟩ rfl rfl,
    pKp_ok sn,
    pKp_ok sm, rfl⟩
def KBNuT (n m : Nat) (x y : Nat → Nat × Nat) : List Blk := HB deadB (bY m (zeB m y)) (bY m (zeB m y)) deadB nilC (.sl 12 0 m 1) (.sl 15 0 m 1) nilC []
noncomputable def RBNuT (n m : Nat) (x y : Nat → Nat × Nat) : Fns := (((((((((((((((((FT.addG 39 GList).addGs 40 (byPl [3] (GWtG false) GWtT)).addGs 41 (byPl [5] GRFwN GRFwK)).addGs 42 (byPl [7] GRFwN GRBk)).addG 43 GKept).addGs 21 (byPl [9, 18] GFwN GBackL)).addLoop 5 c44 (nearSel noLp (nearC 12 m (zeB m y) (rB m y) (bW m y) (KBNuT n m x y)) (nearC 15 m (zeB m y) (rB m y) (bW m y) (KBNuT n m x y)) noLp)).addLoop 11 c45a (LA1 m (fun k => CC ((zeB m y) k)) (HB deadB (bY m (zeB m y)) (bY m (zeB m y)) deadB nilC (.sl 12 0 m 1) (.sl 15 0 m 1) nilC []) nilC (.sl 15 0 m 1) nilC)).addLoop 12 c45a (LA2 m (fun k => CC ((zeB m y) k)) (HB deadB (syW m fun _ => (4607182418800017408, oneW)) (bY m (zeB m y)) deadB nilC (.sl 12 0 m 1) (.sl 15 0 m 1) nilC []) nilC (.sl 12 0 m 1) nilC)).addLoop 20 c45b (LN0 (HNF0 n m))).addLoop 21 c45b (LB1 m (HNF1 n m))).addLoop 22 c45b (LB2 m (HNF2 n m))).addLoop 23 c45b (LN3 (HNF3 n m))).addLoop 30 c45c (LD0 (HNF4 n m) (.sl 12 0 m 1) (.sl 15 0 m 1) nilC (.sl 26 0 (m + 20) 1) (.sl 29 0 (m + 20) 1) (.sl 32 0 (0 + 20) 1))).addLoop 31 c45c (LC1 m (HNF4 n m) nilC (.sl 15 0 m 1) nilC (.sl 23 0 (0 + 20) 1) (.sl 29 0 (m + 20) 1) (.sl 32 0 (0 + 20) 1))).addLoop 32 c45c (LC2 m (HNF4 n m) nilC (.sl 12 0 m 1) nilC (.sl 23 0 (0 + 20) 1) (.sl 26 0 (m + 20) 1) (.sl 32 0 (0 + 20) 1))).addLoop 33 c45c (LD3 (HNF4 n m) nilC (.sl 12 0 m 1) (.sl 15 0 m 1) (.sl 23 0 (0 + 20) 1) (.sl 26 0 (m + 20) 1) (.sl 29 0 (m + 20) 1))).withCo (coTwo [.u, .u, .b false, .u, .b false, .u, .u] [.u, .u, .u, .l 11, .u, .l 12, .u, .u, .u, .u, .l 20, .u, .l 21, .u, .l 22, .u, .l 23, .u, .u, .l 30, .u, .l 31, .u, .l 32, .u, .l 33, .u])
theorem runBNuT (n m : Nat) (x y : Nat → Nat × Nat) (u : Value) : runK Tryd.prog T (RBNuT n m x y) 900 Tryd.f12 [prL n x, prL m y] [deadB] [] (fun r _ => resW r = some u) =
  obsP ((pList n x) ::
   (pList m y) ::
   (pWtG false n x) ::
   (pWtT m y) ::
   (pNo n) ::
   (pFitL m y) ::
   (pNo n) ::
   (pBkT m y) ::
   (pNo n) ::
   (pTrB m y) ::
   (pNe m) ::
   (pTrB m y) ::
   (pNe m) ::
   (pNo n) ::
   (pKp n x) ::
   (pKp m y) ::
   (pB1 m y) ::
   (pB2 m y) ::
   (pNe m) ::
   (c44 = c44) ::
   (stt2 47 [.one (.sl 12 0 m 1), prL m (rB m y), AFl (bW m y), ic 0] ((l44 12 m (rB m y) (bW m y) 0).map (·.2)) (KBNuT n m x y) (nearH 12 m (zeB m y) (KBNuT n m x y))) ::
   (pB1 m y) ::
   (pB2 m y) ::
   (pNe m) ::
   (c44 = c44) ::
   (stt2 47 [.one (.sl 15 0 m 1), prL m (rB m y), AFl (bW m y), ic 0] ((l44 15 m (rB m y) (bW m y) 0).map (·.2)) (nearH 12 m (zeB m y) (KBNuT n m x y)) (nearH 15 m (zeB m y) (KBNuT n m x y))) ::
   (c45a = c45a) ::
   (stt2 131 [gotA, ic 1, ic 0] ((l45a 1 0).map (·.2)) (nearH 15 m (zeB m y) (KBNuT n m x y)) (GA1 m (fun k => CC ((zeB m y) k)) (HB deadB (bY m (zeB m y)) (bY m (zeB m y)) deadB nilC (.sl 12 0 m 1) (.sl 15 0 m 1) nilC []) nilC (.sl 15 0 m 1) nilC)) ::
   (c45a = c45a) ::
   (stt2 131 [gotA, ic 2, ic 0] ((l45a 2 0).map (·.2)) (HB deadB (syW m fun _ => (4607182418800017408, oneW)) (bY m (zeB m y)) deadB nilC (.sl 12 0 m 1) (.sl 15 0 m 1) nilC []) (GA2 m (fun k => CC ((zeB m y) k)) (HB deadB (syW m fun _ => (4607182418800017408, oneW)) (bY m (zeB m y)) deadB nilC (.sl 12 0 m 1) (.sl 15 0 m 1) nilC []) nilC (.sl 12 0 m 1) nilC)) ::
   (c45b = c45b) ::
   (stt2 131 [gotA, (.one nilC), ic 0, .one nilC, ic 0] ((l45n (.one nilC) 0 0).map (·.2)) (HNF0 n m) (HNF0 n m)) ::
   (c45b = c45b) ::
   (stt2 131 [gotA, (.one (.sl 25 0 1 1)), ic 1, .one (.sl 12 0 m 1), ic 0] ((l45b (.one (.sl 25 0 1 1)) 1 12 m 0).map (·.2)) (HNF1 n m) (HNF1 n m)) ::
   (c45b = c45b) ::
   (stt2 131 [gotA, (.one (.sl 28 0 2 1)), ic 2, .one (.sl 15 0 m 1), ic 0] ((l45b (.one (.sl 28 0 2 1)) 2 15 m 0).map (·.2)) (HNF2 n m) (HNF2 n m)) ::
   (c45b = c45b) ::
   (stt2 131 [gotA, (.one (.sl 31 0 3 1)), ic 3, .one nilC, ic 0] ((l45n (.one (.sl 31 0 3 1)) 3 0).map (·.2)) (HNF3 n m) (HNF3 n m)) ::
   (c45c = c45c) ::
   (stt2 131 [gotA, longA, ic 0, ic 0] ((l45c 0 0).map (·.2)) (HNF4 n m) (HNF4 n m)) ::
   (c45c = c45c) ::
   (stt2 131 [gotA, longA, ic 1, ic 0] ((l45c 1 0).map (·.2)) (HNF4 n m) (HNF4 n m)) ::
   (c45c = c45c) ::
   (stt2 131 [gotA, longA, ic 2, ic 0] ((l45c 2 0).map (·.2)) (HNF4 n m) (HNF4 n m)) ::
   (c45c = c45c) ::
   (stt2 131 [gotA, longA, ic 3, ic 0] ((l45c 3 0).map (·.2)) (HNF4 n m) (HNF4 n m)) ::
   (pKp n x) ::
   (pKp m y) :: []) (some (Value.bool true) = some u) := by kernel_rfl
theorem goBNuT {n m : Nat} {x y : Nat → Nat × Nat} (sn : sizeOk n) (fn : fitB n = false) (tn : tmC x n = false) (sm : sizeOk m) (fm : fitB m = true) (tm : tmC y m = true) (km : okTB m y) : goodB n m x y := by
  have hm := (fit_le fm).1
  obtain ⟨wm, mm, qm, rm, bm, cm, om⟩ := km
  refine ⟨RBNuT n m x y, (((((((((((((((((FTok.addG gcon39).addGs (byPl_ok (gcon40G false) gcon40T)).addGs (byPl_ok gcon41n gcon41K)).addGs (byPl_ok gcon42n gcon42)).addG gcon43).addGs (byPl_ok gcon21n gcon21L)).addLoop 5 c44 _ (nearSel_ok noLp_ok (near12_ok hm om) (near15_ok hm om) noLp_ok)).addLoop 11 c45a _ (LA1_ok hm)).addLoop 12 c45a _ (LA2_ok hm)).addLoop 20 c45b _ (LN0_ok (HNF0_e2 n m) (HNF0_ok n m))).addLoop 21 c45b _ (LB1_ok hm (HNF1_e1 n m) (HNF1_e2 n m) (HNF1_ok n m))).addLoop 22 c45b _ (LB2_ok hm (HNF2_e1 n m) (HNF2_e2 n m) (HNF2_ok n m))).addLoop 23 c45b _ (LN3_ok (HNF3_e2 n m) (HNF3_ok n m))).addLoop 30 c45c _ LD0_ok).addLoop 31 c45c _ (LC1_ok hm)).addLoop 32 c45c _ (LC2_ok hm)).addLoop 33 c45c _ LD3_ok).withCo _, ?_⟩
  rw [runBNuT]
  exact ⟨pList_ok sn,
    pList_ok sm,
    pWtG_ok sn tn,
    pWtT_ok sm tm wm,
    pNo_ok fn,
    pFitL_ok fm,
    pNo_ok fn,
    pBkT_ok fm mm qm,
    pNo_ok fn,
    pTrB_ok rm,
    pNe_ok m,
    pTrB_ok rm,
    pNe_ok m,
    pNo_ok fn,
    pKp_ok sn,
    pKp_ok sm,
    bm,
    cm,
    pNe_ok m,
    rfl,
    stt2_ok (g := (KBNuT n m x y)) ⟨rfl, rfl, rfl, rfl, trivial⟩ (rfl) (nearH12_eq _ _ _ _ _ _ _ _ _),
    bm,
    cm,
    pNe_ok m,
    rfl,
    stt2_ok (g := (KBNuT n m x y)) ⟨rfl, rfl, rfl, rfl, trivial⟩ (nearH12_eq _ _ _ _ _ _ _ _ _) (nearH15_eq _ _ _ _ _ _ _ _ _),
    rfl,
    stt2_ok (g := (HB deadB (bY m (zeB m y)) (bY m (zeB m y)) deadB nilC (.sl 12 0 m 1) (.sl 15 0 m 1) nilC [])) ⟨rfl, rfl, rfl, trivial⟩ (nearH15_eq _ _ _ _ _ _ _ _ _) (GA1_eq _ _ _ _ _ _ _ _),
    rfl,
    stt2_ok (g := (HB deadB (syW m fun _ => (4607182418800017408, oneW)) (bY m (zeB m y)) deadB nilC (.sl 12 0 m 1) (.sl 15 0 m 1) nilC [])) ⟨rfl, rfl, rfl, trivial⟩ (rfl) (GA2_eq _ _ _ _ _ _ _ _),
    rfl,
    stt2_ok ⟨rfl, rfl, rfl, rfl, rfl, trivial⟩ rfl rfl,
    rfl,
    stt2_ok ⟨rfl, rfl, rfl, rfl, rfl, trivial⟩ rfl rfl,
    rfl,
    stt2_ok ⟨rfl, rfl, rfl, rfl, rfl, trivial⟩ rfl rfl,
    rfl,
    stt2_ok ⟨rfl, rfl, rfl, rfl, rfl, trivial⟩ rfl rfl,
    rfl,
    stt2_ok ⟨rfl, rfl, rfl, rfl, trivial⟩ rfl rfl,
    rfl,
    stt2_ok ⟨rfl, rfl, rfl, rfl, trivial⟩ rfl rfl,
    rfl,
    stt2_ok ⟨rfl, rfl, rfl, rfl, trivial⟩ rfl rfl,
    rfl,
    stt2_ok ⟨rfl, rfl, rfl, rfl, trivial⟩ rfl rfl,
    pKp_ok sn,
    pKp_ok sm, rfl⟩
def KBNuU (n m : Nat) (x y : Nat → Nat × Nat) : List Blk := HB deadB (bX m) (bX m) deadB nilC (.sl 12 0 m 1) (.sl 15 0 m 1) nilC []
noncomputable def RBNuU (n m : Nat) (x y : Nat → Nat × Nat) : Fns := (((((((((((((((((FT.addG 39 GList).addGs 40 (byPl [3] (GWtG false) (GWtG false))).addGs 41 (byPl [5] GRFwN GRFwK)).addGs 42 (byPl [7] GRFwN GRFwK)).addG 43 GKept).addGs 21 (byPl [9, 18] GFwN GBkK)).addLoop 5 c44 (nearSel noLp noLp noLp noLp)).addLoop 11 c45a (LA1 m (fun _ => CU) (HB deadB (bX m) (bX m) deadB nilC (.sl 12 0 m 1) (.sl 15 0 m 1) nilC []) nilC (.sl 15 0 m 1) nilC)).addLoop 12 c45a (LA2 m (fun _ => CU) (HB deadB (syW m fun _ => (4607182418800017408, oneW)) (bX m) deadB nilC (.sl 12 0 m 1) (.sl 15 0 m 1) nilC []) nilC (.sl 12 0 m 1) nilC)).addLoop 20 c45b (LN0 (HNF0 n m))).addLoop 21 c45b (LB1 m (HNF1 n m))).addLoop 22 c45b (LB2 m (HNF2 n m))).addLoop 23 c45b (LN3 (HNF3 n m))).addLoop 30 c45c (LD0 (HNF4 n m) (.sl 12 0 m 1) (.sl 15 0 m 1) nilC (.sl 26 0 (m + 20) 1) (.sl 29 0 (m + 20) 1) (.sl 32 0 (0 + 20) 1))).addLoop 31 c45c (LC1 m (HNF4 n m) nilC (.sl 15 0 m 1) nilC (.sl 23 0 (0 + 20) 1) (.sl 29 0 (m + 20) 1) (.sl 32 0 (0 + 20) 1))).addLoop 32 c45c (LC2 m (HNF4 n m) nilC (.sl 12 0 m 1) nilC (.sl 23 0 (0 + 20) 1) (.sl 26 0 (m + 20) 1) (.sl 32 0 (0 + 20) 1))).addLoop 33 c45c (LD3 (HNF4 n m) nilC (.sl 12 0 m 1) (.sl 15 0 m 1) (.sl 23 0 (0 + 20) 1) (.sl 26 0 (m + 20) 1) (.sl 29 0 (m + 20) 1))).withCo (coTwo [.u, .u, .b false, .u, .b false, .u, .u] [.u, .u, .u, .l 11, .u, .l 12, .u, .u, .u, .u, .l 20, .u, .l 21, .u, .l 22, .u, .l 23, .u, .u, .l 30, .u, .l 31, .u, .l 32, .u, .l 33, .u])
theorem runBNuU (n m : Nat) (x y : Nat → Nat × Nat) (u : Value) : runK Tryd.prog T (RBNuU n m x y) 900 Tryd.f12 [prL n x, prL m y] [deadB] [] (fun r _ => resW r = some u) =
  obsP ((pList n x) ::
   (pList m y) ::
   (pWtG false n x) ::
   (pWtG false m y) ::
   (pNo n) ::
   (pFitL m y) ::
   (pNo n) ::
   (pFitL m y) ::
   (pNo n) ::
   (pTrU (-1) m y) ::
   (pNe m) ::
   (pTrU (-1) m y) ::
   (pNe m) ::
   (pNo n) ::
   (pKp n x) ::
   (pKp m y) ::
   (c45a = c45a) ::
   (stt2 131 [gotA, ic 1, ic 0] ((l45a 1 0).map (·.2)) (KBNuU n m x y) (GA1 m (fun _ => CU) (HB deadB (bX m) (bX m) deadB nilC (.sl 12 0 m 1) (.sl 15 0 m 1) nilC []) nilC (.sl 15 0 m 1) nilC)) ::
   (c45a = c45a) ::
   (stt2 131 [gotA, ic 2, ic 0] ((l45a 2 0).map (·.2)) (HB deadB (syW m fun _ => (4607182418800017408, oneW)) (bX m) deadB nilC (.sl 12 0 m 1) (.sl 15 0 m 1) nilC []) (GA2 m (fun _ => CU) (HB deadB (syW m fun _ => (4607182418800017408, oneW)) (bX m) deadB nilC (.sl 12 0 m 1) (.sl 15 0 m 1) nilC []) nilC (.sl 12 0 m 1) nilC)) ::
   (c45b = c45b) ::
   (stt2 131 [gotA, (.one nilC), ic 0, .one nilC, ic 0] ((l45n (.one nilC) 0 0).map (·.2)) (HNF0 n m) (HNF0 n m)) ::
   (c45b = c45b) ::
   (stt2 131 [gotA, (.one (.sl 25 0 1 1)), ic 1, .one (.sl 12 0 m 1), ic 0] ((l45b (.one (.sl 25 0 1 1)) 1 12 m 0).map (·.2)) (HNF1 n m) (HNF1 n m)) ::
   (c45b = c45b) ::
   (stt2 131 [gotA, (.one (.sl 28 0 2 1)), ic 2, .one (.sl 15 0 m 1), ic 0] ((l45b (.one (.sl 28 0 2 1)) 2 15 m 0).map (·.2)) (HNF2 n m) (HNF2 n m)) ::
   (c45b = c45b) ::
   (stt2 131 [gotA, (.one (.sl 31 0 3 1)), ic 3, .one nilC, ic 0] ((l45n (.one (.sl 31 0 3 1)) 3 0).map (·.2)) (HNF3 n m) (HNF3 n m)) ::
   (c45c = c45c) ::
   (stt2 131 [gotA, longA, ic 0, ic 0] ((l45c 0 0).map (·.2)) (HNF4 n m) (HNF4 n m)) ::
   (c45c = c45c) ::
   (stt2 131 [gotA, longA, ic 1, ic 0] ((l45c 1 0).map (·.2)) (HNF4 n m) (HNF4 n m)) ::
   (c45c = c45c) ::
   (stt2 131 [gotA, longA, ic 2, ic 0] ((l45c 2 0).map (·.2)) (HNF4 n m) (HNF4 n m)) ::
   (c45c = c45c) ::
   (stt2 131 [gotA, longA, ic 3, ic 0] ((l45c 3 0).map (·.2)) (HNF4 n m) (HNF4 n m)) ::
   (pKp n x) ::
   (pKp m y) :: []) (some (Value.bool true) = some u) := by kernel_rfl
theorem goBNuU {n m : Nat} {x y : Nat → Nat × Nat} (sn : sizeOk n) (fn : fitB n = false) (tn : tmC x n = false) (sm : sizeOk m) (fm : fitB m = true) (tm : tmC y m = false) : goodB n m x y := by
  have hm := (fit_le fm).1
  refine ⟨RBNuU n m x y, (((((((((((((((((FTok.addG gcon39).addGs (byPl_ok (gcon40G false) (gcon40G false))).addGs (byPl_ok gcon41n gcon41K)).addGs (byPl_ok gcon42n gcon42K)).addG gcon43).addGs (byPl_ok gcon21n gcon21K)).addLoop 5 c44 _ (nearSel_ok noLp_ok noLp_ok noLp_ok noLp_ok)).addLoop 11 c45a _ (LA1_ok hm)).addLoop 12 c45a _ (LA2_ok hm)).addLoop 20 c45b _ (LN0_ok (HNF0_e2 n m) (HNF0_ok n m))).addLoop 21 c45b _ (LB1_ok hm (HNF1_e1 n m) (HNF1_e2 n m) (HNF1_ok n m))).addLoop 22 c45b _ (LB2_ok hm (HNF2_e1 n m) (HNF2_e2 n m) (HNF2_ok n m))).addLoop 23 c45b _ (LN3_ok (HNF3_e2 n m) (HNF3_ok n m))).addLoop 30 c45c _ LD0_ok).addLoop 31 c45c _ (LC1_ok hm)).addLoop 32 c45c _ (LC2_ok hm)).addLoop 33 c45c _ LD3_ok).withCo _, ?_⟩
  rw [runBNuU]
  exact ⟨pList_ok sn,
    pList_ok sm,
    pWtG_ok sn tn,
    pWtG_ok sm tm,
    pNo_ok fn,
    pFitL_ok fm,
    pNo_ok fn,
    pFitL_ok fm,
    pNo_ok fn,
    pTrU_ok (.inr rfl) fm,
    pNe_ok m,
    pTrU_ok (.inr rfl) fm,
    pNe_ok m,
    pNo_ok fn,
    pKp_ok sn,
    pKp_ok sm,
    rfl,
    stt2_ok (g := (HB deadB (bX m) (bX m) deadB nilC (.sl 12 0 m 1) (.sl 15 0 m 1) nilC [])) ⟨rfl, rfl, rfl, trivial⟩ (rfl) (GA1_eq _ _ _ _ _ _ _ _),
    rfl,
    stt2_ok (g := (HB deadB (syW m fun _ => (4607182418800017408, oneW)) (bX m) deadB nilC (.sl 12 0 m 1) (.sl 15 0 m 1) nilC [])) ⟨rfl, rfl, rfl, trivial⟩ (rfl) (GA2_eq _ _ _ _ _ _ _ _),
    rfl,
    stt2_ok ⟨rfl, rfl, rfl, rfl, rfl, trivial⟩ rfl rfl,
    rfl,
    stt2_ok ⟨rfl, rfl, rfl, rfl, rfl, trivial⟩ rfl rfl,
    rfl,
    stt2_ok ⟨rfl, rfl, rfl, rfl, rfl, trivial⟩ rfl rfl,
    rfl,
    stt2_ok ⟨rfl, rfl, rfl, rfl, rfl, trivial⟩ rfl rfl,
    rfl,
    stt2_ok ⟨rfl, rfl, rfl, rfl, trivial⟩ rfl rfl,
    rfl,
    stt2_ok ⟨rfl, rfl, rfl, rfl, trivial⟩ rfl rfl,
    rfl,
    stt2_ok ⟨rfl, rfl, rfl, rfl, trivial⟩ rfl rfl,
    rfl,
    stt2_ok ⟨rfl, rfl, rfl, rfl, trivial⟩ rfl rfl,
    pKp_ok sn,
    pKp_ok sm, rfl⟩
noncomputable def RBNuNt (n m : Nat) (x y : Nat → Nat × Nat) : Fns := (((((((((((((((FT.addG 39 GList).addGs 40 (byPl [3] (GWtG false) (GWtG true))).addGs 41 (byPl [5] GRFwN GRFwN)).addGs 42 (byPl [7] GRFwN GRFwN)).addG 43 GKept).addGs 21 (byPl [9, 18] GFwN GFwN)).addLoop 5 c44 (nearSel noLp noLp noLp noLp)).addLoop 20 c45b (LN0 (HNN0 n m))).addLoop 21 c45b (LN1 (HNN1 n m))).addLoop 22 c45b (LN2 (HNN2 n m))).addLoop 23 c45b (LN3 (HNN3 n m))).addLoop 30 c45c (LD0 (HNN4 n m) nilC nilC nilC (.sl 26 0 (0 + 20) 1) (.sl 29 0 (0 + 20) 1) (.sl 32 0 (0 + 20) 1))).addLoop 31 c45c (LD1 (HNN4 n m) nilC nilC nilC (.sl 23 0 (0 + 20) 1) (.sl 29 0 (0 + 20) 1) (.sl 32 0 (0 + 20) 1))).addLoop 32 c45c (LD2 (HNN4 n m) nilC nilC nilC (.sl 23 0 (0 + 20) 1) (.sl 26 0 (0 + 20) 1) (.sl 32 0 (0 + 20) 1))).addLoop 33 c45c (LD3 (HNN4 n m) nilC nilC nilC (.sl 23 0 (0 + 20) 1) (.sl 26 0 (0 + 20) 1) (.sl 29 0 (0 + 20) 1))).withCo (coTwo [.u, .u, .u, .u, .u] [.u, .u, .u, .u, .u, .u, .u, .u, .u, .u, .l 20, .u, .l 21, .u, .l 22, .u, .l 23, .u, .u, .l 30, .u, .l 31, .u, .l 32, .u, .l 33, .u])
theorem runBNuNt (n m : Nat) (x y : Nat → Nat × Nat) (u : Value) : runK Tryd.prog T (RBNuNt n m x y) 900 Tryd.f12 [prL n x, prL m y] [deadB] [] (fun r _ => resW r = some u) =
  obsP ((pList n x) ::
   (pList m y) ::
   (pWtG false n x) ::
   (pWtG true m y) ::
   (pNo n) ::
   (pNo m) ::
   (pNo n) ::
   (pNo m) ::
   (pNo n) ::
   (pNo m) ::
   (pNo m) ::
   (pNo n) ::
   (pKp n x) ::
   (pKp m y) ::
   (c45b = c45b) ::
   (stt2 131 [gotA, (.one nilC), ic 0, .one nilC, ic 0] ((l45n (.one nilC) 0 0).map (·.2)) (HNN0 n m) (HNN0 n m)) ::
   (c45b = c45b) ::
   (stt2 131 [gotA, (.one (.sl 25 0 1 1)), ic 1, .one nilC, ic 0] ((l45n (.one (.sl 25 0 1 1)) 1 0).map (·.2)) (HNN1 n m) (HNN1 n m)) ::
   (c45b = c45b) ::
   (stt2 131 [gotA, (.one (.sl 28 0 2 1)), ic 2, .one nilC, ic 0] ((l45n (.one (.sl 28 0 2 1)) 2 0).map (·.2)) (HNN2 n m) (HNN2 n m)) ::
   (c45b = c45b) ::
   (stt2 131 [gotA, (.one (.sl 31 0 3 1)), ic 3, .one nilC, ic 0] ((l45n (.one (.sl 31 0 3 1)) 3 0).map (·.2)) (HNN3 n m) (HNN3 n m)) ::
   (c45c = c45c) ::
   (stt2 131 [gotA, longA, ic 0, ic 0] ((l45c 0 0).map (·.2)) (HNN4 n m) (HNN4 n m)) ::
   (c45c = c45c) ::
   (stt2 131 [gotA, longA, ic 1, ic 0] ((l45c 1 0).map (·.2)) (HNN4 n m) (HNN4 n m)) ::
   (c45c = c45c) ::
   (stt2 131 [gotA, longA, ic 2, ic 0] ((l45c 2 0).map (·.2)) (HNN4 n m) (HNN4 n m)) ::
   (c45c = c45c) ::
   (stt2 131 [gotA, longA, ic 3, ic 0] ((l45c 3 0).map (·.2)) (HNN4 n m) (HNN4 n m)) ::
   (pKp n x) ::
   (pKp m y) :: []) (some (Value.bool true) = some u) := by kernel_rfl
theorem goBNuNt {n m : Nat} {x y : Nat → Nat × Nat} (sn : sizeOk n) (fn : fitB n = false) (tn : tmC x n = false) (sm : sizeOk m) (fm : fitB m = false) (tm : tmC y m = true) : goodB n m x y := by
  refine ⟨RBNuNt n m x y, (((((((((((((((FTok.addG gcon39).addGs (byPl_ok (gcon40G false) (gcon40G true))).addGs (byPl_ok gcon41n gcon41n)).addGs (byPl_ok gcon42n gcon42n)).addG gcon43).addGs (byPl_ok gcon21n gcon21n)).addLoop 5 c44 _ (nearSel_ok noLp_ok noLp_ok noLp_ok noLp_ok)).addLoop 20 c45b _ (LN0_ok (HNN0_e2 n m) (HNN0_ok n m))).addLoop 21 c45b _ (LN1_ok (HNN1_e2 n m) (HNN1_ok n m))).addLoop 22 c45b _ (LN2_ok (HNN2_e2 n m) (HNN2_ok n m))).addLoop 23 c45b _ (LN3_ok (HNN3_e2 n m) (HNN3_ok n m))).addLoop 30 c45c _ LD0_ok).addLoop 31 c45c _ LD1_ok).addLoop 32 c45c _ LD2_ok).addLoop 33 c45c _ LD3_ok).withCo _, ?_⟩
  rw [runBNuNt]
  exact ⟨pList_ok sn,
    pList_ok sm,
    pWtG_ok sn tn,
    pWtG_ok sm tm,
    pNo_ok fn,
    pNo_ok fm,
    pNo_ok fn,
    pNo_ok fm,
    pNo_ok fn,
    pNo_ok fm,
    pNo_ok fm,
    pNo_ok fn,
    pKp_ok sn,
    pKp_ok sm,
    rfl,
    stt2_ok ⟨rfl, rfl, rfl, rfl, rfl, trivial⟩ rfl rfl,
    rfl,
    stt2_ok ⟨rfl, rfl, rfl, rfl, rfl, trivial⟩ rfl rfl,
    rfl,
    stt2_ok ⟨rfl, rfl, rfl, rfl, rfl, trivial⟩ rfl rfl,
    rfl,
    stt2_ok ⟨rfl, rfl, rfl, rfl, rfl, trivial⟩ rfl rfl,
    rfl,
    stt2_ok ⟨rfl, rfl, rfl, rfl, trivial⟩ rfl rfl,
    rfl,
    stt2_ok ⟨rfl, rfl, rfl, rfl, trivial⟩ rfl rfl,
    rfl,
    stt2_ok ⟨rfl, rfl, rfl, rfl, trivial⟩ rfl rfl,
    rfl,
    stt2_ok ⟨rfl, rfl, rfl, rfl, trivial⟩ rfl rfl,
    pKp_ok sn,
    pKp_ok sm, rfl⟩
noncomputable def RBNuNu (n m : Nat) (x y : Nat → Nat × Nat) : Fns := (((((((((((((((FT.addG 39 GList).addGs 40 (byPl [3] (GWtG false) (GWtG false))).addGs 41 (byPl [5] GRFwN GRFwN)).addGs 42 (byPl [7] GRFwN GRFwN)).addG 43 GKept).addGs 21 (byPl [9, 18] GFwN GFwN)).addLoop 5 c44 (nearSel noLp noLp noLp noLp)).addLoop 20 c45b (LN0 (HNN0 n m))).addLoop 21 c45b (LN1 (HNN1 n m))).addLoop 22 c45b (LN2 (HNN2 n m))).addLoop 23 c45b (LN3 (HNN3 n m))).addLoop 30 c45c (LD0 (HNN4 n m) nilC nilC nilC (.sl 26 0 (0 + 20) 1) (.sl 29 0 (0 + 20) 1) (.sl 32 0 (0 + 20) 1))).addLoop 31 c45c (LD1 (HNN4 n m) nilC nilC nilC (.sl 23 0 (0 + 20) 1) (.sl 29 0 (0 + 20) 1) (.sl 32 0 (0 + 20) 1))).addLoop 32 c45c (LD2 (HNN4 n m) nilC nilC nilC (.sl 23 0 (0 + 20) 1) (.sl 26 0 (0 + 20) 1) (.sl 32 0 (0 + 20) 1))).addLoop 33 c45c (LD3 (HNN4 n m) nilC nilC nilC (.sl 23 0 (0 + 20) 1) (.sl 26 0 (0 + 20) 1) (.sl 29 0 (0 + 20) 1))).withCo (coTwo [.u, .u, .u, .u, .u] [.u, .u, .u, .u, .u, .u, .u, .u, .u, .u, .l 20, .u, .l 21, .u, .l 22, .u, .l 23, .u, .u, .l 30, .u, .l 31, .u, .l 32, .u, .l 33, .u])
theorem runBNuNu (n m : Nat) (x y : Nat → Nat × Nat) (u : Value) : runK Tryd.prog T (RBNuNu n m x y) 900 Tryd.f12 [prL n x, prL m y] [deadB] [] (fun r _ => resW r = some u) =
  obsP ((pList n x) ::
   (pList m y) ::
   (pWtG false n x) ::
   (pWtG false m y) ::
   (pNo n) ::
   (pNo m) ::
   (pNo n) ::
   (pNo m) ::
   (pNo n) ::
   (pNo m) ::
   (pNo m) ::
   (pNo n) ::
   (pKp n x) ::
   (pKp m y) ::
   (c45b = c45b) ::
   (stt2 131 [gotA, (.one nilC), ic 0, .one nilC, ic 0] ((l45n (.one nilC) 0 0).map (·.2)) (HNN0 n m) (HNN0 n m)) ::
   (c45b = c45b) ::
   (stt2 131 [gotA, (.one (.sl 25 0 1 1)), ic 1, .one nilC, ic 0] ((l45n (.one (.sl 25 0 1 1)) 1 0).map (·.2)) (HNN1 n m) (HNN1 n m)) ::
   (c45b = c45b) ::
   (stt2 131 [gotA, (.one (.sl 28 0 2 1)), ic 2, .one nilC, ic 0] ((l45n (.one (.sl 28 0 2 1)) 2 0).map (·.2)) (HNN2 n m) (HNN2 n m)) ::
   (c45b = c45b) ::
   (stt2 131 [gotA, (.one (.sl 31 0 3 1)), ic 3, .one nilC, ic 0] ((l45n (.one (.sl 31 0 3 1)) 3 0).map (·.2)) (HNN3 n m) (HNN3 n m)) ::
   (c45c = c45c) ::
   (stt2 131 [gotA, longA, ic 0, ic 0] ((l45c 0 0).map (·.2)) (HNN4 n m) (HNN4 n m)) ::
   (c45c = c45c) ::
   (stt2 131 [gotA, longA, ic 1, ic 0] ((l45c 1 0).map (·.2)) (HNN4 n m) (HNN4 n m)) ::
   (c45c = c45c) ::
   (stt2 131 [gotA, longA, ic 2, ic 0] ((l45c 2 0).map (·.2)) (HNN4 n m) (HNN4 n m)) ::
   (c45c = c45c) ::
   (stt2 131 [gotA, longA, ic 3, ic 0] ((l45c 3 0).map (·.2)) (HNN4 n m) (HNN4 n m)) ::
   (pKp n x) ::
   (pKp m y) :: []) (some (Value.bool true) = some u) := by kernel_rfl
theorem goBNuNu {n m : Nat} {x y : Nat → Nat × Nat} (sn : sizeOk n) (fn : fitB n = false) (tn : tmC x n = false) (sm : sizeOk m) (fm : fitB m = false) (tm : tmC y m = false) : goodB n m x y := by
  refine ⟨RBNuNu n m x y, (((((((((((((((FTok.addG gcon39).addGs (byPl_ok (gcon40G false) (gcon40G false))).addGs (byPl_ok gcon41n gcon41n)).addGs (byPl_ok gcon42n gcon42n)).addG gcon43).addGs (byPl_ok gcon21n gcon21n)).addLoop 5 c44 _ (nearSel_ok noLp_ok noLp_ok noLp_ok noLp_ok)).addLoop 20 c45b _ (LN0_ok (HNN0_e2 n m) (HNN0_ok n m))).addLoop 21 c45b _ (LN1_ok (HNN1_e2 n m) (HNN1_ok n m))).addLoop 22 c45b _ (LN2_ok (HNN2_e2 n m) (HNN2_ok n m))).addLoop 23 c45b _ (LN3_ok (HNN3_e2 n m) (HNN3_ok n m))).addLoop 30 c45c _ LD0_ok).addLoop 31 c45c _ LD1_ok).addLoop 32 c45c _ LD2_ok).addLoop 33 c45c _ LD3_ok).withCo _, ?_⟩
  rw [runBNuNu]
  exact ⟨pList_ok sn,
    pList_ok sm,
    pWtG_ok sn tn,
    pWtG_ok sm tm,
    pNo_ok fn,
    pNo_ok fm,
    pNo_ok fn,
    pNo_ok fm,
    pNo_ok fn,
    pNo_ok fm,
    pNo_ok fm,
    pNo_ok fn,
    pKp_ok sn,
    pKp_ok sm,
    rfl,
    stt2_ok ⟨rfl, rfl, rfl, rfl, rfl, trivial⟩ rfl rfl,
    rfl,
    stt2_ok ⟨rfl, rfl, rfl, rfl, rfl, trivial⟩ rfl rfl,
    rfl,
    stt2_ok ⟨rfl, rfl, rfl, rfl, rfl, trivial⟩ rfl rfl,
    rfl,
    stt2_ok ⟨rfl, rfl, rfl, rfl, rfl, trivial⟩ rfl rfl,
    rfl,
    stt2_ok ⟨rfl, rfl, rfl, rfl, trivial⟩ rfl rfl,
    rfl,
    stt2_ok ⟨rfl, rfl, rfl, rfl, trivial⟩ rfl rfl,
    rfl,
    stt2_ok ⟨rfl, rfl, rfl, rfl, trivial⟩ rfl rfl,
    rfl,
    stt2_ok ⟨rfl, rfl, rfl, rfl, trivial⟩ rfl rfl,
    pKp_ok sn,
    pKp_ok sm, rfl⟩
theorem allB {n m : Nat} {x y : Nat → Nat × Nat} (sn : sizeOk n) (sm : sizeOk m) (kn : fitB n = true → tmC x n = true → okTB n x) (km : fitB m = true → tmC y m = true → okTB m y) : goodB n m x y := by
  cases fn : fitB n <;> cases tn : tmC x n <;> cases fm : fitB m <;> cases tm : tmC y m
  · exact goBNuNu sn fn tn sm fm tm
  · exact goBNuNt sn fn tn sm fm tm
  · exact goBNuU sn fn tn sm fm tm
  · exact goBNuT sn fn tn sm fm tm (km fm tm)
  · exact goBNtNu sn fn tn sm fm tm
  · exact goBNtNt sn fn tn sm fm tm
  · exact goBNtU sn fn tn sm fm tm
  · exact goBNtT sn fn tn sm fm tm (km fm tm)
  · exact goBUNu sn fn tn sm fm tm
  · exact goBUNt sn fn tn sm fm tm
  · exact goBUU sn fn tn sm fm tm
  · exact goBUT sn fn tn sm fm tm (km fm tm)
  · exact goBTNu sn fn tn (kn fn tn) sm fm tm
  · exact goBTNt sn fn tn (kn fn tn) sm fm tm
  · exact goBTU sn fn tn (kn fn tn) sm fm tm
  · exact goBTT sn fn tn (kn fn tn) sm fm tm (km fm tm)
end Go.Proofs.YthddkcoflnbjbaaDoor
