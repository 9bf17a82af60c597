/-
  What is proved here: contracts of the document's Back (R.Back). A text to be imported.
-/
import Derived.Test.YthddkcoflnbjbaaDoorQCon55
namespace Go.Proofs.YthddkcoflnbjbaaDoor
open Sm Go Go.RowKit Fl Ieee
set_option maxRecDepth 1000000
set_option linter.unusedVariables false
def grA (n : Nat) : AV := .one (.gr 0 n 2)
def GSumsG : List AV → Option (Prop × AV × Blk)
  | [.one (.lst n N 2 f), .one (.sc (.int .i64 s) false)] => some (isP n N f ∧ okSm n (wd2 f) (twP s n), grA n, gB 45 n 2 (pF (smL n (wd2 f) (twP s n))))
  | _ => none
def GSumsGK : List AV → Option (Prop × AV × Blk)
  | [.one (.lst n N 2 f), .one (.sc (.int .i64 s) false)] => some (isP n N f, grA n, gB 45 n 2 UU)
  | _ => none
theorem gcon47G : GCon Tryd.prog 47 GSumsG := by
  refine gcon_of_runA hm hT Tryd.func47 Tryd.call47 fun args p v b h hp => ?_
  unfold GSumsG at h
  split at h
  · rename_i n N f s
    simp only [Option.some.injEq, Prod.mk.injEq] at h
    obtain ⟨rfl, rfl, rfl⟩ := h
    obtain ⟨⟨hn, hnN, hf⟩, hok⟩ := hp
    refine ⟨.inr rfl, gB_free fun k => free2 trivial trivial, F47 n s (wd2 f) True, [prL n (wd2 f), iv s], FG58ok.addGrow 1 (a := 2) (b0 := gB 45 0 2 (pF (smL n (wd2 f) (twP s n)))) rfl rfl (fun _ => loop47o hn hok), fun E us hr => ?_, 300, [.l 1], [], ?_⟩
    · obtain ⟨u, us, rfl, h1, h2⟩ := hr.cons
      exact .mk (lst_less (Nat.le_refl _) hnN hf h1) h2
    · exact of_run (run47 _ _ _ _ _) ⟨⟨⟨trivial, trivial, trivial⟩, by omega, by omega⟩, rfl, ⟨⟨rfl, ⟨rfl, rfl, rfl, trivial, rfl, trivial⟩, startBs.refl _⟩, trivial⟩, _, rfl, one_left (D := [deadB, deadB]) noFroz ⟨rfl, rfl, rfl⟩ (gB_same fun k hk => renCs_L ⟨rfl, rfl, trivial⟩)⟩
  · cases h
theorem gcon47GK : GCon Tryd.prog 47 GSumsGK := by
  refine gcon_of_runA hm hTA Tryd.func47 Tryd.call47 fun args p v b h hp => ?_
  unfold GSumsGK at h
  split at h
  · rename_i n N f s
    simp only [Option.some.injEq, Prod.mk.injEq] at h
    obtain ⟨rfl, rfl, rfl⟩ := h
    obtain ⟨hn, hnN, hf⟩ := hp
    refine ⟨.inr rfl, gB_free fun k => free2 trivial trivial, F47K n s (wd2 f) True, [prL n (wd2 f), iv s], FG58ok.addGrow 1 (a := 2) (b0 := gB 45 0 2 UU) rfl rfl (fun _ => loop47oK hn), fun E us hr => ?_, 300, [.l 1], [], ?_⟩
    · obtain ⟨u, us, rfl, h1, h2⟩ := hr.cons
      exact .mk (lst_less (Nat.le_refl _) hnN hf h1) h2
    · exact of_run (run47K _ _ _ _ _) ⟨⟨⟨trivial, trivial, trivial⟩, by omega, by omega⟩, rfl, ⟨⟨rfl, ⟨rfl, rfl, rfl, trivial, rfl, trivial⟩, startBs.refl _⟩, trivial⟩, _, rfl, one_left (D := [deadB, deadB]) noFroz ⟨rfl, rfl, rfl⟩ (gB_same fun k hk => renCs_L ⟨rfl, rfl, trivial⟩)⟩
  · cases h
noncomputable def FSG : Fns := (FT.add 46 GFits).addG 47 GSumsG
theorem FSGok : FnsOk Tryd.prog FSG := (FTok.add con46).addG gcon47G
noncomputable def FSGK : Fns := (FT.add 46 GFits).addG 47 GSumsGK
theorem FSGKok : FnsOk Tryd.prog FSGK := (FTok.add con46).addG gcon47GK
noncomputable def c42 : Code := pathC (bodyC Tryd.f42) [0]
def rsB (n : Nat) (f : Nat → List C1) : Blk := { body := .rs n 2 f, elem := 45, live := true, ro := false }
def l42 (n i : Nat) : List (Nat × AV) := [(5, .one (.sl 1 0 n 2)), (6, iv i)]
theorem rs_le {n : Nat} {f g : Nat → List C1} (h : ∀ k, k < n → ∀ o, o < 2 → ∀ E u, RC E ((f k).getD o .em) u → RC E ((g k).getD o .em) u) : BlkLe (rsB n f) (rsB n g) := by
  refine ⟨rfl, rfl, rfl, fun E vs hr => ⟨?_, fun j c v hc hv => ?_⟩⟩
  · have := hr.1
    show (recC n 2 g).length = _
    rw [← this]
    show (recC n 2 g).length = (recC n 2 f).length
    simp [recC]
  · have hj : j < n * 2 := by
      have := (List.getElem?_eq_some_iff.1 hc).1
      simpa [rsB, Blk.cells, Body.cells, recC] using this
    have e : ∀ f : Nat → List C1, (rsB n f).cells[j]? = some ((f (j / 2)).getD (j % 2) .em) := fun f => by
      show (recC n 2 f)[j]? = _
      unfold recC
      rw [List.getElem?_map, List.getElem?_range hj]; rfl
    rw [e g] at hc
    simp only [Option.some.injEq] at hc
    subst hc
    exact h _ (Nat.div_lt_of_lt_mul (by omega)) _ (Nat.mod_lt _ (by omega)) E v (hr.2 j _ v (e f) hv)
def quN (n : Nat) : Nat := FloatKind.f64.nearest (n : Int)
def qW (n : Nat) (y : Nat → Nat × Nat) (i j : Nat) : Nat × Nat := if j < i then (fbin .quo .f64 (y j).1 (quN n), fbin .quo .f64 (y j).2 (quN n)) else y j
def okQ (n : Nat) (y : Nat → Nat × Nat) : Prop := ∀ i, i < n → fok .quo .f64 (y i).1 (quN n) = true ∧ fok .quo .f64 (y i).2 (quN n) = true
def h42 (n : Nat) (f : Nat → List C1) : List Blk := [deadB, rsB n f]
def q1 (n i : Nat) (z : Nat → Nat × Nat) : Nat → List C1 := updR (pF z) (i : Int).toNat 0 [FC (fbin .quo .f64 (z (i : Int).toNat).1 (quN n))]
def q2 (n i : Nat) (z : Nat → Nat × Nat) : Nat := fbin .quo .f64 (bif (i : Int).toNat.beq (i : Int).toNat then (z (i : Int).toNat).2 else (z (i : Int).toNat).2) (quN n)
theorem round42 (n i : Nat) (z : Nat → Nat × Nat) (X : Ex → Nat → List AV → List Blk → Prop) : roundK Tryd.prog T FSG 300 c42 (tmL 47 (l42 n i)) (h42 n (pF z)) [.b true] [5, 6] X =
  (decide ((i : Int) < n) = true ∧ (0 ≤ (i : Int) ∧ (i : Int) < n) ∧ (i : Int).toNat < n ∧ fok .quo .f64 (z (i : Int).toNat).1 (quN n) = true ∧ (0 ≤ (i : Int) ∧ (i : Int) < n) ∧ (i : Int).toNat < n ∧ (0 ≤ (i : Int) ∧ (i : Int) < n) ∧ (i : Int).toNat < n ∧
   fok .quo .f64 (bif (i : Int).toNat.beq (i : Int).toNat then (z (i : Int).toNat).2 else (z (i : Int).toNat).2) (quN n) = true ∧ (0 ≤ (i : Int) ∧ (i : Int) < n) ∧ (i : Int).toNat < n ∧
   X .normal 47 [.one (.sl 1 0 n 2), iv (W (i + 1))] (h42 n (updR (q1 n i z) (i : Int).toNat 1 [FC (q2 n i z)]))) := by kernel_rfl
theorem exit42 (n i : Nat) (f : Nat → List C1) (X : Ex → Nat → List AV → List Blk → Prop) : roundK Tryd.prog T FSG 300 c42 (tmL 47 (l42 n i)) (h42 n f) [.b false] [5] X =
  (decide ((i : Int) < n) = false ∧ X (.exit 0) 47 [.one (.sl 1 0 n 2)] (h42 n f)) := by kernel_rfl
theorem beq_self' (i : Nat) : Nat.beq i i = true := Nat.beq_refl i
theorem beq_ne {i k : Nat} (h : k ≠ i) : Nat.beq k i = false := by
  cases hb : Nat.beq k i with
  | true => exact absurd (Nat.eq_of_beq_eq_true hb) h
  | false => rfl
theorem qW_at {n : Nat} {y : Nat → Nat × Nat} {i : Nat} : qW n y i i = y i := if_neg (by omega)
theorem q_le (n i : Nat) (y : Nat → Nat × Nat) : BlkLe (rsB n (updR (q1 n i (qW n y i)) (i : Int).toNat 1 [FC (q2 n i (qW n y i))])) (rsB n (pF (qW n y (i + 1)))) := by
  have h0 : (i : Int).toNat = i := by omega
  refine rs_le fun k hk o ho E u hr => ?_
  unfold q1 q2 at hr
  rw [h0, qW_at] at hr
  unfold updR at hr
  by_cases hki : k = i
  · subst hki
    simp only [beq_self'] at hr
    have e1 : qW n y (k + 1) k = (fbin .quo .f64 (y k).1 (quN n), fbin .quo .f64 (y k).2 (quN n)) := if_pos (by omega)
    have : o = 0 ∨ o = 1 := by omega
    rcases this with rfl | rfl
    · show RC E (FC (qW n y (k + 1) k).1) u
      rw [e1]; exact hr
    · show RC E (FC (qW n y (k + 1) k).2) u
      rw [e1]; exact hr
  · simp only [beq_ne hki] at hr
    have e1 : qW n y (i + 1) k = qW n y i k := by
      unfold qW
      by_cases h : k < i
      · rw [if_pos (by omega), if_pos h]
      · rw [if_neg (by omega), if_neg h]
    have : o = 0 ∨ o = 1 := by omega
    rcases this with rfl | rfl
    · show RC E (FC (qW n y (i + 1) k).1) u
      rw [e1]; exact hr
    · show RC E (FC (qW n y (i + 1) k).2) u
      rw [e1]; exact hr
theorem loop42 {n : Nat} {y : Nat → Nat × Nat} (hn : n ≤ 4096) (hok : okQ n y) : LoopOk Tryd.prog c42 (tmL 47 (l42 n 0)) (h42 n (pF y)) (.exit 0) (tmL 47 [(5, .one (.sl 1 0 n 2))]) (h42 n (pF (qW n y n))) := by
  have h00 : qW n y 0 = y := by funext j; exact if_neg (by omega)
  have hs : h42 n (pF y) = h42 n (pF (qW n y 0)) := by rw [h00]
  rw [hs]
  refine loop_rounds hm hT FSGok 47 n (fun i => l42 n i) (fun i => h42 n (pF (qW n y i))) (.exit 0) _ _ (fun e => by cases e) (fun i hi => ⟨300, [.b true], ?_⟩) ⟨300, [.b false], ?_⟩ 0 (Nat.zero_le _)
  · show roundK Tryd.prog T FSG 300 c42 (tmL 47 (l42 n i)) (h42 n (pF (qW n y i))) [.b true] [5, 6] _
    have h0 : (i : Int).toNat = i := by omega
    have hr : 0 ≤ (i : Int) ∧ (i : Int) < n := ⟨by omega, by omega⟩
    have hr2 : (i : Int).toNat < n := by omega
    rw [round42]
    refine ⟨decide_eq_true (by omega), hr, hr2, by rw [h0, qW_at]; exact (hok i hi).1, hr, hr2, hr, hr2, by rw [h0, qW_at, beq_self']; exact (hok i hi).2, hr, hr2, rfl, rfl, ⟨sameV.refl _, iv_same _ _ ?_, trivial⟩, .refl _, q_le n i y, trivial⟩
    rw [Wid (by omega) (by omega)]; omega
  · show roundK Tryd.prog T FSG 300 c42 (tmL 47 (l42 n n)) (h42 n (pF (qW n y n))) [.b false] [5] _
    rw [exit42]
    exact ⟨decide_eq_false (by omega), rfl, rfl, ⟨sameV.refl _, trivial⟩, HpLe.refl _⟩
theorem round42K (n i : Nat) (X : Ex → Nat → List AV → List Blk → Prop) : roundK Tryd.prog TA FSG 300 c42 (tmL 47 (l42 n i)) (h42 n UU) [.b true] [5, 6] X =
  (decide ((i : Int) < n) = true ∧ (0 ≤ (i : Int) ∧ (i : Int) < n) ∧ (i : Int).toNat < n ∧ (0 ≤ (i : Int) ∧ (i : Int) < n) ∧ (i : Int).toNat < n ∧ (0 ≤ (i : Int) ∧ (i : Int) < n) ∧ (i : Int).toNat < n ∧ (0 ≤ (i : Int) ∧ (i : Int) < n) ∧ (i : Int).toNat < n ∧
   X .normal 47 [.one (.sl 1 0 n 2), iv (W (i + 1))] (h42 n (updR (updR UU (i : Int).toNat 0 [FU]) (i : Int).toNat 1 [FU]))) := by kernel_rfl
theorem exit42K (n i : Nat) (f : Nat → List C1) (X : Ex → Nat → List AV → List Blk → Prop) : roundK Tryd.prog TA FSG 300 c42 (tmL 47 (l42 n i)) (h42 n f) [.b false] [5] X =
  (decide ((i : Int) < n) = false ∧ X (.exit 0) 47 [.one (.sl 1 0 n 2)] (h42 n f)) := by kernel_rfl
theorem loop42K {n : Nat} (hn : n ≤ 4096) : LoopOk Tryd.prog c42 (tmL 47 (l42 n 0)) (h42 n UU) (.exit 0) (tmL 47 [(5, .one (.sl 1 0 n 2))]) (h42 n UU) := by
  refine loop_rounds hm hTA FSGok 47 n (fun i => l42 n i) (fun i => h42 n UU) (.exit 0) _ _ (fun e => by cases e) (fun i hi => ⟨300, [.b true], ?_⟩) ⟨300, [.b false], ?_⟩ 0 (Nat.zero_le _)
  · show roundK Tryd.prog TA FSG 300 c42 (tmL 47 (l42 n i)) (h42 n UU) [.b true] [5, 6] _
    have hr : 0 ≤ (i : Int) ∧ (i : Int) < n := ⟨by omega, by omega⟩
    have hr2 : (i : Int).toNat < n := by omega
    rw [round42K]
    refine ⟨decide_eq_true (by omega), hr, hr2, hr, hr2, hr, hr2, hr, hr2, rfl, rfl, ⟨sameV.refl _, iv_same _ _ ?_, trivial⟩, .refl _, rs_le fun k hk o ho E u hr => ?_, trivial⟩
    · rw [Wid (by omega) (by omega)]; omega
    · have : o = 0 ∨ o = 1 := by omega
      unfold updR at hr
      rcases this with rfl | rfl
      · exact hr
      · exact hr
  · show roundK Tryd.prog TA FSG 300 c42 (tmL 47 (l42 n n)) (h42 n UU) [.b false] [5] _
    rw [exit42K]
    exact ⟨decide_eq_false (by omega), rfl, rfl, ⟨sameV.refl _, trivial⟩, HpLe.refl _⟩
def l42g (n i : Nat) : List (Nat × AV) := [(5, .one (.gr 1 n 2)), (6, iv i)]
def h42g (n : Nat) (f : Nat → List C1) : List Blk := [deadB, gB 45 n 2 f]
theorem get42_5 (n i : Nat) : getT (tmL 47 (l42g n i)) 5 = .one (.gr 1 n 2) := by kernel_rfl
theorem get42_6 (n i : Nat) : getT (tmL 47 (l42g n i)) 6 = iv i := by kernel_rfl
theorem enter42 {n : Nat} {f g : Nat → List C1} (hn : 0 < n) (h : LoopOk Tryd.prog c42 (tmL 47 (l42 n 0)) (h42 n f) (.exit 0) (tmL 47 [(5, .one (.sl 1 0 n 2))]) (h42 n g)) :
    LoopOk Tryd.prog c42 (tmL 47 (l42g n 0)) (h42g n f) (.exit 0) (tmL 47 [(5, .one (.sl 1 0 n 2))]) (h42 n g) := by
  have e : h42g n f = h42 n f := by
    unfold h42g gB h42 rsB
    rw [show Nat.blt 0 n = true from by rw [blt_eq]; exact decide_eq_true hn]
  rw [e]
  refine h.weakM fun E p hp u hr => ?_
  simp only [l42, List.mem_cons, List.not_mem_nil, or_false] at hp
  rcases hp with rfl | rfl
  · rw [get42_5] at hr
    rcases hr with ⟨h1, _⟩ | ⟨_, h2⟩
    · omega
    · exact h2
  · rw [get42_6] at hr; exact hr
noncomputable def F42 (FF : Fns) (n : Nat) (f g : Nat → List C1) (q : Prop) : Fns := FF.addLoop 0 c42 (loopC 47 (l42g n 0) (h42g n f) q (.exit 0) [(5, .one (.sl 1 0 n 2))] (h42 n g))
def tup42 (n : Nat) : AV := .tup [(false, [.sl 1 0 n 2]), (false, [.sc (.int .i64 0) true])]
theorem run42 (n N : Nat) (f g : Nat → List C1) (q : Prop) (K : Option AV → List Blk → Prop) : runK Tryd.prog T (F42 FSG n (pF (smL n (wd2 f) (twP (-1) n))) g q) 300 Tryd.f42 [.one (.lst n N 2 f)] [deadB] [.b false, .l 0] K =
    ((!(fitB n)) = false ∧ ((True ∧ True ∧ True) ∧ isP n N f ∧ okSm n (wd2 f) (twP (-1) n)) ∧ c42 = c42 ∧ ((47 = 47 ∧ startLs [.one (.gr 1 n 2), .one (.sc (.int .i64 0) true)] [.one (.gr 1 n 2), iv (0 : Nat)] ∧ startBs (h42g n (pF (smL n (wd2 f) (twP (-1) n)))) (h42g n (pF (smL n (wd2 f) (twP (-1) n))))) ∧ q) ∧
     K (some (tup42 n)) (h42 n g)) := by kernel_rfl
theorem run42K (n N : Nat) (f : Nat → List C1) (q : Prop) (K : Option AV → List Blk → Prop) : runK Tryd.prog T (F42 FSGK n UU UU q) 300 Tryd.f42 [.one (.lst n N 2 f)] [deadB] [.b false, .l 0] K =
    ((!(fitB n)) = false ∧ ((True ∧ True ∧ True) ∧ isP n N f) ∧ c42 = c42 ∧ ((47 = 47 ∧ startLs [.one (.gr 1 n 2), .one (.sc (.int .i64 0) true)] [.one (.gr 1 n 2), iv (0 : Nat)] ∧ startBs (h42g n UU) (h42g n UU)) ∧ q) ∧
     K (some (tup42 n)) (h42 n UU)) := by kernel_rfl
theorem run42n (n N : Nat) (f : Nat → List C1) (K : Option AV → List Blk → Prop) : runK Tryd.prog T FS0 300 Tryd.f42 [.one (.lst n N 2 f)] [deadB] [.b true] K =
    ((!(fitB n)) = true ∧ K (some none2) [deadB]) := by kernel_rfl
def wBk (n : Nat) (f : Nat → List C1) (k : Nat) : Nat × Nat := qW n (smL n (wd2 f) (twP (-1) n)) n k
def GRBk : List AV → Option (Prop × AV × Blk)
  | [.one (.lst n N 2 f)] => some (fitB n = true ∧ isP n N f ∧ okSm n (wd2 f) (twP (-1) n) ∧ okQ n (smL n (wd2 f) (twP (-1) n)), tupP n (pF (wBk n f)), deadB)
  | _ => none
theorem export42 {n : Nat} {f : Nat → List C1} (hl : ∀ k, (f k).length = 2) (hf : ∀ k, ∀ c ∈ f k, freeC c) : Export [1] (tup42 n) (h42 n f) (tupP n f) deadB := by
  have hget : (h42 n f ++ [deadB])[1]? = some (rsB n f) := rfl
  refine nothing_left (fun j hj => ?_) ⟨⟨rfl, ⟨rfl, rfl, rfl, rfl, ⟨by simp, _, f, hget, rfl, .inr rfl, rfl, fun k _ => ⟨rfl, hl k⟩⟩⟩, trivial⟩, ⟨rfl, rfl, trivial⟩, trivial⟩
  obtain rfl := List.mem_singleton.1 hj
  refine ⟨Nat.zero_le _, by simp [h42], fun x hx => ?_⟩
  rw [hget] at hx
  obtain rfl := Option.some.inj hx
  exact ⟨rfl, rec_free hf⟩
theorem gcon42 : GCon Tryd.prog 42 GRBk := by
  refine gcon_of_run hm hT Tryd.func42 Tryd.call42 fun args p v b h hp => ?_
  unfold GRBk at h
  split at h
  · rename_i n N f
    simp only [Option.some.injEq, Prod.mk.injEq] at h
    obtain ⟨rfl, rfl, rfl⟩ := h
    obtain ⟨hfit, hP, hsm, hq⟩ := hp
    obtain ⟨hn, hn0⟩ := fit_le hfit
    refine ⟨.inl rfl, dead_free, F42 FSG n (pF (smL n (wd2 f) (twP (-1) n))) (pF (wBk n f)) True, FSGok.addKeep 0 fun _ => enter42 hn0 (loop42 hn hq), 300, [.b false, .l 0], [1], ?_⟩
    exact of_run (run42 n N f _ _ _) ⟨by rw [hfit]; rfl, ⟨⟨trivial, trivial, trivial⟩, hP, hsm⟩, rfl, ⟨⟨rfl, ⟨rfl, rfl, trivial⟩, startBs.refl _⟩, trivial⟩, _, rfl, export42 (fun k => rfl) fun k => free2 trivial trivial⟩
  · cases h
theorem gcon42K : GCon Tryd.prog 42 GRFwK := by
  refine gcon_of_run hm hT Tryd.func42 Tryd.call42 fun args p v b h hp => ?_
  unfold GRFwK at h
  split at h
  · rename_i n N f
    simp only [Option.some.injEq, Prod.mk.injEq] at h
    obtain ⟨rfl, rfl, rfl⟩ := h
    obtain ⟨hfit, hP⟩ := hp
    obtain ⟨hn, hn0⟩ := fit_le hfit
    refine ⟨.inl rfl, dead_free, F42 FSGK n UU UU True, FSGKok.addKeep 0 fun _ => enter42 hn0 (loop42K hn), 300, [.b false, .l 0], [1], ?_⟩
    exact of_run (run42K n N f _ _) ⟨by rw [hfit]; rfl, ⟨⟨trivial, trivial, trivial⟩, hP⟩, rfl, ⟨⟨rfl, ⟨rfl, rfl, trivial⟩, startBs.refl _⟩, trivial⟩, _, rfl, export42 (fun k => rfl) fun k => free2 trivial trivial⟩
  · cases h
theorem gcon42n : GCon Tryd.prog 42 GRFwN := by
  refine gcon_of_run hm hT Tryd.func42 Tryd.call42 fun args p v b h hp => ?_
  unfold GRFwN at h
  split at h
  · rename_i n N f
    simp only [Option.some.injEq, Prod.mk.injEq] at h
    obtain ⟨rfl, rfl, rfl⟩ := h
    refine ⟨.inl rfl, dead_free, FS0, FS0ok, 300, [.b true], [], ?_⟩
    exact of_run (run42n n N f _) ⟨by rw [hp]; rfl, _, rfl, nothing_left noFroz ⟨⟨rfl, rfl, trivial⟩, ⟨rfl, rfl, trivial⟩, trivial⟩⟩
  · cases h
end Go.Proofs.YthddkcoflnbjbaaDoor
