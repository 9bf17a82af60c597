/-
  What is proved here: the contract of wave.transform on known words of which nothing is known as numbers. contracts of wave.Forward and wave.Back on known words of which nothing is known as numbers, and of wave.Back on lists whose length does not fit. A text to be imported.
-/
import Derived.Test.YthddkcoflnbjbaaDoorQCon53
namespace Go.Proofs.YthddkcoflnbjbaaDoor
open Sm Go Go.RowKit Fl Ieee
set_option maxRecDepth 1000000
set_option linter.unusedVariables false
def bXC (n o : Nat) (c : Nat × Nat) : Blk := { body := .sy n (updG (fun _ => CU) o (CC c)), elem := 28, live := true, ro := false, full := true }
theorem pick_cf {E : Env} {t : Bool} {x y : Nat} {s : Bool} {u : Value} (h : RC E (pickC t (.sc (.complex .f64 x y) s) CU) u) : RC E CU u := by
  cases t with
  | true => exact ⟨x, y, h.1⟩
  | false => exact h
theorem bXC_le (n o : Nat) (c : Nat × Nat) : BlkLe (bXC n o c) (bX n) := ⟨rfl, rfl, rfl, fun E vs hr => ⟨by
    have := hr.1
    rw [show (bXC n o c).cells = symC n (updG (fun _ => CU) o (CC c)) from rfl, symC_length] at this
    rw [show (bX n).cells = symC n fun j => CU from rfl, symC_length, this], fun j d v hc hv => by
    have hj : j < n := by
      have := (List.getElem?_eq_some_iff.1 hc).1
      rwa [show (bX n).cells = symC n fun j => CU from rfl, symC_length] at this
    rw [show (bX n).cells = symC n fun j => CU from rfl, symC_get _ _ hj] at hc
    simp only [Option.some.injEq] at hc
    subst hc
    have := hr.2 j (updG (fun _ => CU) o (CC c) j) v (by show (symC n _)[j]? = _; rw [symC_get _ _ hj]) hv
    exact pick_cf this⟩⟩
def lZK (n : Nat) (X : Nat → Nat × Nat) (way sh : Int) (i : Nat) : List (Nat × AV) := [(1, iv way), (5, iv n), (6, slY n), (7, iv sh), (24, xL n X), (25, iv n), (26, iv i)]
theorem roundZK (n : Nat) (X : Nat → Nat × Nat) (way sh : Int) (i : Nat) (Q : Ex → Nat → List AV → List Blk → Prop) : roundK Tryd.prog T FB 300 cZ (tmL 104 (lZK n X way sh i)) [deadB, bX n] [.b true, .b true] [1, 5, 6, 7, 24, 25, 26] Q =
  (decide ((i : Int) < n) = true ∧ (0 ≤ (i : Int) ∧ (i : Int) < n) ∧ decide ((n : Int) > 1) = true ∧ decide (sh < 0) = false ∧ (0 ≤ plZ sh i ∧ plZ sh i < n) ∧ 0 + (plZ sh i).toNat < n ∧
   Q .normal 104 [iv way, iv n, slY n, iv sh, xL n X, iv n, iv (W (i + 1))] [deadB, bXC n (0 + (plZ sh i).toNat) (X (i : Int).toNat)]) := by kernel_rfl
theorem round1K (n : Nat) (X : Nat → Nat × Nat) (way sh : Int) (i : Nat) (Q : Ex → Nat → List AV → List Blk → Prop) : roundK Tryd.prog T FB 300 cZ (tmL 104 (lZK n X way sh i)) [deadB, bX n] [.b true, .b false] [1, 5, 6, 7, 24, 25, 26] Q =
  (decide ((i : Int) < n) = true ∧ (0 ≤ (i : Int) ∧ (i : Int) < n) ∧ decide ((n : Int) > 1) = false ∧ (0 ≤ (i : Int) ∧ (i : Int) < n) ∧ 0 + ((i : Int)).toNat < n ∧
   Q .normal 104 [iv way, iv n, slY n, iv sh, xL n X, iv n, iv (W (i + 1))] [deadB, bXC n (0 + ((i : Int)).toNat) (X (i : Int).toNat)]) := by kernel_rfl
theorem exitZK (n : Nat) (X : Nat → Nat × Nat) (way sh : Int) (i : Nat) (Q : Ex → Nat → List AV → List Blk → Prop) : roundK Tryd.prog T FB 300 cZ (tmL 104 (lZK n X way sh i)) [deadB, bX n] [.b false] [1, 5, 6] Q =
  (decide ((i : Int) < n) = false ∧ Q (.exit 0) 104 [iv way, iv n, slY n] [deadB, bX n]) := by kernel_rfl
noncomputable def FWK (n : Nat) (X : Nat → Nat × Nat) (way : Int) (q q' : Prop) : Fns :=
  (FB.addLoop 0 cZ (loopC 104 (lZK n X way (shOf n) 0) [deadB, bX n] q (.exit 0) [(1, iv way), (5, iv n), (6, slY n)] [deadB, bX n])).addLoop 3 cS (loopC 104 (lS n way 2) [deadB, bX n] q' (.exit 2) [(6, slY n)] [deadB, bX n])
theorem runWK (n : Nat) (X : Nat → Nat × Nat) (way : Int) (q q' : Prop) (K : Option AV → List Blk → Prop) : runK Tryd.prog T (FWK n X way q q') 400 Tryd.f32 [xL n X, iv way] [deadB] [.l 0, .l 3] K =
  ((0 ≤ (n : Int) ∧ (n : Int) ≤ n ∧ (16 : Int) * n ≤ 281474976710656 ∧ (n : Int) ≤ 9223372036854775807) ∧ (∃ p : Nat, p ≤ 12 ∧ U (W ((n : Int) - 1)) = mask p) ∧
   cZ = cZ ∧ ((104 = 104 ∧ startLs [iv way, iv n, .one (.sl 1 0 ((n : Int)).toNat 1), iv (shOf n), xL n X, iv n, .one (.sc (.int .i64 0) true)] ((lZK n X way (shOf n) 0).map (·.2)) ∧ startBs [deadB, zB n] [deadB, bX n]) ∧ q) ∧
   cS = cS ∧ ((104 = 104 ∧ startLs [iv way, iv n, slY n, .one (.sc (.int .i64 2) true)] ((lS n way 2).map (·.2)) ∧ startBs [deadB, bX n] [deadB, bX n]) ∧ q') ∧ K (some (slY n)) [deadB, bX n]) := by kernel_rfl
theorem loopZK {X : Nat → Nat × Nat} {way : Int} {p : Nat} (hp : p ≤ 12) :
    LoopOk Tryd.prog cZ (tmL 104 (lZK (2 ^ p) X way (shOf (2 ^ p)) 0)) [deadB, bX (2 ^ p)] (.exit 0) (tmL 104 [(1, iv way), (5, iv (2 ^ p : Nat)), (6, slY (2 ^ p))]) [deadB, bX (2 ^ p)] := by
  have hpn : 2 ^ p ≤ 4096 := Nat.pow_le_pow_right (by omega) hp
  rw [shOf_eq hp]
  refine loop_rounds hm hT FBok 104 (2 ^ p) (lZK (2 ^ p) X way (64 - p)) (fun i => [deadB, bX (2 ^ p)]) (.exit 0) _ _ (fun e => by cases e) (fun i hi => ?_) ⟨300, [.b false], ?_⟩ 0 (Nat.zero_le _)
  · have hr := rev_at hp hi
    have hpl := plZ_eq hp hi
    by_cases h1 : p = 0
    · subst h1
      refine ⟨300, [.b true, .b false], ?_⟩
      show roundK Tryd.prog T FB 300 cZ (tmL 104 (lZK (2 ^ 0) X way (64 - (0 : Nat)) i)) [deadB, bX (2 ^ 0)] [.b true, .b false] [1, 5, 6, 7, 24, 25, 26] _
      rw [round1K]
      have hi0 : i = 0 := by simp at hi; exact hi
      subst hi0
      refine ⟨decide_eq_true (by decide), ⟨by decide, by decide⟩, by decide, ⟨by decide, by decide⟩, by decide, rfl, rfl, ⟨sameV.refl _, sameV.refl _, sameV.refl _, sameV.refl _, sameV.refl _, sameV.refl _, iv_same _ _ ?_, trivial⟩, .refl _, bXC_le _ _ _, trivial⟩
      decide
    · refine ⟨300, [.b true, .b true], ?_⟩
      have h2 : 2 ≤ 2 ^ p := by
        have := Nat.pow_le_pow_right (show 0 < 2 by omega) (show 1 ≤ p by omega)
        omega
      show roundK Tryd.prog T FB 300 cZ (tmL 104 (lZK (2 ^ p) X way (64 - p) i)) [deadB, bX (2 ^ p)] [.b true, .b true] [1, 5, 6, 7, 24, 25, 26] _
      rw [roundZK, hpl]
      have e0 : 0 + ((rev p i : Nat) : Int).toNat = rev p i := by omega
      rw [e0]
      refine ⟨decide_eq_true (by omega), ⟨by omega, by omega⟩, decide_eq_true (by omega), decide_eq_false (by omega), ⟨by omega, by omega⟩, by omega, rfl, rfl, ⟨sameV.refl _, sameV.refl _, sameV.refl _, sameV.refl _, sameV.refl _, sameV.refl _, iv_same _ _ ?_, trivial⟩, .refl _, bXC_le _ _ _, trivial⟩
      rw [Wid (by omega) (by omega)]; omega
  · show roundK Tryd.prog T FB 300 cZ (tmL 104 (lZK (2 ^ p) X way (64 - p) (2 ^ p))) [deadB, bX (2 ^ p)] [.b false] [1, 5, 6] _
    rw [exitZK]
    exact ⟨decide_eq_false (by omega), rfl, rfl, ⟨sameV.refl _, sameV.refl _, sameV.refl _, trivial⟩, HpLe.refl _⟩
def okTK (way : Int) (n N : Nat) (f : Nat → List C1) : Prop := (∃ p, p ≤ 12 ∧ n = 2 ^ p) ∧ (way = 1 ∨ way = -1) ∧ n ≤ N ∧ ∀ k, k < n → f k = fX (ofC f) k
def GTrK : List AV → Option (Prop × AV × Blk)
  | [.one (.lst n N 1 f), .one (.sc (.int .i64 way) false)] => some (okTK way n N f, .one (.sl 0 0 n 1), bX n)
  | _ => none
theorem gcon32K : GCon Tryd.prog 32 GTrK := by
  refine gcon_of_runA hm hT Tryd.func32 Tryd.call32 fun args p v b h hp => ?_
  unfold GTrK at h
  split at h
  · rename_i n N f way
    simp only [Option.some.injEq, Prod.mk.injEq] at h
    obtain ⟨rfl, rfl, rfl⟩ := h
    obtain ⟨⟨p, hp, rfl⟩, hw, hnN, hf⟩ := hp
    have hpn : 2 ^ p ≤ 4096 := Nat.pow_le_pow_right (by omega) hp
    refine ⟨.inr rfl, sym_free fun k => trivial, FWK (2 ^ p) (ofC f) way True True, [xL (2 ^ p) (ofC f), iv way], ?_, fun E us hr => ?_, 400, [.l 0, .l 3], [], ?_⟩
    · exact (FBok.addKeep 0 fun _ => loopZK hp).addKeep 3 fun _ => loopSU hw hp
    · obtain ⟨u, us, rfl, h1, h2⟩ := hr.cons
      exact .mk (lst_less (Nat.le_refl _) hnN hf h1) h2
    · have hb : ∀ m : Nat, m ≤ 4096 → 0 ≤ (m : Int) ∧ (m : Int) ≤ m ∧ (16 : Int) * m ≤ 281474976710656 ∧ (m : Int) ≤ 9223372036854775807 := fun m hm => by omega
      refine of_run (runWK _ _ _ _ _ _) ⟨hb _ hpn, ⟨p, hp, mask_of hp⟩, rfl, ⟨⟨rfl, ⟨rfl, rfl, ?_, rfl, rfl, rfl, rfl, trivial⟩, ⟨startB.refl _, ?_, trivial⟩⟩, trivial⟩, rfl, ⟨⟨rfl, ⟨rfl, rfl, rfl, rfl, trivial⟩, startBs.refl _⟩, trivial⟩, _, rfl, ?_⟩
      · show AV.one (.sl 1 0 ((2 ^ p : Nat) : Int).toNat 1) = _
        rw [Int.toNat_natCast]; rfl
      · refine .inr ⟨rfl, rfl, rfl, fun E vs hr => ⟨?_, fun j c v hc hv => ?_⟩⟩
        · rw [← hr.1]
          show (symC _ _).length = (symC _ _).length
          rw [symC_length, symC_length]
        · have hj : j < 2 ^ p := by
            have := (List.getElem?_eq_some_iff.1 hc).1
            rwa [show (bX (2 ^ p)).cells = symC (2 ^ p) fun j => CU from rfl, symC_length] at this
          rw [show (bX (2 ^ p)).cells = symC (2 ^ p) fun j => CU from rfl, symC_get _ _ hj] at hc
          simp only [Option.some.injEq] at hc
          subst hc
          have := hr.2 j (.sc (.complex .f64 0 0) true) v (by show (symC (2 ^ p) _)[j]? = _; rw [symC_get _ _ hj]) hv
          exact ⟨0, 0, this.1⟩
      · exact one_left (D := [deadB]) noFroz ⟨rfl, rfl, rfl, rfl⟩ (.inr ⟨rfl, rfl, rfl, rfl, fun j hj => renC_S rfl⟩)
  · cases h
end Go.Proofs.YthddkcoflnbjbaaDoor
namespace Go.Proofs.YthddkcoflnbjbaaDoor
open Sm Go Go.RowKit Fl Ieee
set_option maxRecDepth 1000000
set_option linter.unusedVariables false
noncomputable def FDK : Fns := (FB.add 31 GFits).addG 32 GTrK
theorem FDKok : FnsOk Tryd.prog FDK := (FBok.add con31).addG gcon32K
def GFwK : List AV → Option (Prop × AV × Blk)
  | [.one (.lst n N 1 f)] => some (okTK 1 n N f, two 0 n 0, bX n)
  | _ => none
/-! Back -/
theorem roundBkU (n i : Nat) (Q : Ex → Nat → List AV → List Blk → Prop) : roundK Tryd.prog T FT 300 cBk (tmL 29 (lBk n i)) [deadB, bX n] [.b true] [4, 13, 14] Q =
   (decide ((i : Int) < n) = true ∧ (0 ≤ (i : Int) ∧ (i : Int) < n) ∧ 0 + (i : Int).toNat < n ∧ (0 ≤ (i : Int) ∧ (i : Int) < n) ∧ 0 + (i : Int).toNat < n ∧ Q .normal 29 [slY n, iv n, iv (W (i + 1))] [deadB, bXU n (0 + (i : Int).toNat)]) := by kernel_rfl
theorem exitBkU (n i : Nat) (Q : Ex → Nat → List AV → List Blk → Prop) : roundK Tryd.prog T FT 300 cBk (tmL 29 (lBk n i)) [deadB, bX n] [.b false] [4] Q =
   (decide ((i : Int) < n) = false ∧ Q (.exit 0) 29 [slY n] [deadB, bX n]) := by kernel_rfl
theorem loopBkU {n : Nat} (hn : n ≤ 4096) : LoopOk Tryd.prog cBk (tmL 29 (lBk n 0)) [deadB, bX n] (.exit 0) (tmL 29 [(4, slY n)]) [deadB, bX n] := by
  refine loop_rounds hm hT FTok 29 n (lBk n) (fun i => [deadB, bX n]) (.exit 0) _ _ (fun e => by cases e) (fun i hi => ⟨300, [.b true], ?_⟩) ⟨300, [.b false], ?_⟩ 0 (Nat.zero_le _)
  · show roundK Tryd.prog T FT 300 cBk (tmL 29 (lBk n i)) [deadB, bX n] [.b true] [4, 13, 14] _
    have h0 : 0 + (i : Int).toNat = i := by omega
    have hr : 0 ≤ (i : Int) ∧ (i : Int) < n := ⟨by omega, by omega⟩
    rw [roundBkU, h0]
    refine ⟨decide_eq_true (by omega), hr, hi, hr, hi, rfl, rfl, ⟨sameV.refl _, sameV.refl _, iv_same _ _ ?_, trivial⟩, .refl _, bXU_le _ _, trivial⟩
    rw [Wid (by omega) (by omega)]; omega
  · show roundK Tryd.prog T FT 300 cBk (tmL 29 (lBk n n)) [deadB, bX n] [.b false] [4] _
    rw [exitBkU]
    exact ⟨decide_eq_false (by omega), rfl, rfl, ⟨sameV.refl _, trivial⟩, HpLe.refl _⟩
noncomputable def FBkK (n : Nat) (q : Prop) : Fns := FDK.addLoop 0 cBk (loopC 29 (lBk n 0) [deadB, bX n] q (.exit 0) [(4, slY n)] [deadB, bX n])
theorem run21K (n N : Nat) (f : Nat → List C1) (q : Prop) (K : Option AV → List Blk → Prop) : runK Tryd.prog T (FBkK n q) 300 Tryd.f21 [.one (.lst n N 1 f)] [deadB] [.b false, .l 0] K =
    ((!(fitB n)) = false ∧ ((True ∧ True ∧ True) ∧ okTK (-1) n N f) ∧ cBk = cBk ∧ ((29 = 29 ∧ startLs [slY n, iv n, .one (.sc (.int .i64 0) true)] ((lBk n 0).map (·.2)) ∧ startBs [deadB, bX n] [deadB, bX n]) ∧ q) ∧ K (some (two 1 n 0)) [deadB, bX n]) := by kernel_rfl
theorem run21n (n N : Nat) (f : Nat → List C1) (K : Option AV → List Blk → Prop) : runK Tryd.prog T FDK 300 Tryd.f21 [.one (.lst n N 1 f)] [deadB] [.b true] K =
    ((!(fitB n)) = true ∧ K (some none2) [deadB]) := by kernel_rfl
def GBkK : List AV → Option (Prop × AV × Blk)
  | [.one (.lst n N 1 f)] => some (okTK (-1) n N f, two 0 n 0, bX n)
  | _ => none
theorem gcon21K : GCon Tryd.prog 21 GBkK := by
  refine gcon_of_run hm hT Tryd.func21 Tryd.call21 fun args p v b h hp => ?_
  unfold GBkK at h
  split at h
  · rename_i n N f
    simp only [Option.some.injEq, Prod.mk.injEq] at h
    obtain ⟨rfl, rfl, rfl⟩ := h
    have hn : n ≤ 4096 := by
      obtain ⟨⟨p, h1, rfl⟩, _⟩ := hp
      exact Nat.pow_le_pow_right (by omega) h1
    refine ⟨.inr rfl, sym_free fun k => trivial, FBkK n True, FDKok.addKeep 0 fun _ => loopBkU hn, 300, [.b false, .l 0], [], ?_⟩
    refine of_run (run21K n N f _ _) ⟨?_, ⟨⟨trivial, trivial, trivial⟩, hp⟩, rfl, ⟨⟨rfl, ⟨rfl, rfl, rfl, trivial⟩, startBs.refl _⟩, trivial⟩, _, rfl, ?_⟩
    · obtain ⟨⟨p, h1, rfl⟩, _⟩ := hp
      rw [fit_pow h1]; rfl
    · exact one_left (D := [deadB]) noFroz ⟨⟨rfl, ⟨rfl, rfl, rfl, rfl⟩, trivial⟩, ⟨rfl, scC_eq rfl, trivial⟩, trivial⟩ (.inr ⟨rfl, rfl, rfl, rfl, fun j hj => renC_S rfl⟩)
  · cases h
theorem gcon21n : GCon Tryd.prog 21 GFwN := by
  refine gcon_of_run hm hT Tryd.func21 Tryd.call21 fun args p v b h hp => ?_
  unfold GFwN at h
  split at h
  · rename_i n N f
    simp only [Option.some.injEq, Prod.mk.injEq] at h
    obtain ⟨rfl, rfl, rfl⟩ := h
    refine ⟨.inl rfl, dead_free, FDK, FDKok, 300, [.b true], [], ?_⟩
    exact of_run (run21n n N f _) ⟨by rw [hp]; rfl, _, rfl, nothing_left noFroz ⟨⟨rfl, rfl, trivial⟩, ⟨rfl, rfl, trivial⟩, trivial⟩⟩
  · cases h
end Go.Proofs.YthddkcoflnbjbaaDoor
