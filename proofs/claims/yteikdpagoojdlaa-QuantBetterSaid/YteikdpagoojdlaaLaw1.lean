/-
  What is proved here: plain facts on the tables of a quality: what the program makes of a float is what the reference counts up to. A text to be imported.
-/
import Derived.Test.YteikdpagoojdlaaCon11
import Derived.Test.YteikdpagoojdlaaSimT
namespace Go.Proofs.Yteikdpagoojdlaa
open Sm Go Go.RowKit Fl Ieee
theorem v1 : fnum .f64 c1 ∧ fv .f64 c1 = ((1 : Nat) : Rat) := cst 1 (by kernel_rfl) (by omega)
theorem v2 : fnum .f64 c2 ∧ fv .f64 c2 = ((2 : Nat) : Rat) := cst 2 (by kernel_rfl) (by omega)
theorem v50 : fnum .f64 c50 ∧ fv .f64 c50 = ((50 : Nat) : Rat) := cst 50 (by kernel_rfl) (by omega)
theorem v100 : fnum .f64 c100 ∧ fv .f64 c100 = ((100 : Nat) : Rat) := cst 100 (by kernel_rfl) (by omega)
theorem v200 : fnum .f64 c200 ∧ fv .f64 c200 = ((200 : Nat) : Rat) := cst 200 (by kernel_rfl) (by omega)
theorem v255 : fnum .f64 c255 ∧ fv .f64 c255 = ((255 : Nat) : Rat) := cst 255 (by kernel_rfl) (by omega)
theorem v5000 : fnum .f64 c5000 ∧ fv .f64 c5000 = ((5000 : Nat) : Rat) := cst 5000 (by kernel_rfl) (by omega)
theorem vN (n : Nat) (h : n ≤ 16777216) : fnum .f64 (FloatKind.f64.nearest (n : Int)) ∧ fv .f64 (FloatKind.f64.nearest (n : Int)) = (n : Rat) := cst n rfl h
theorem nat_lt {a b : Nat} : ((a : Nat) : Rat) < (b : Rat) ↔ a < b := Rat.natCast_lt_natCast
theorem nat_le {a b : Nat} : ((a : Nat) : Rat) ≤ (b : Rat) ↔ a ≤ b := Rat.natCast_le_natCast
theorem nat_succ (c : Nat) : ((c + 1 : Nat) : Rat) = (c : Rat) + 1 := by simp
/-- A float that is from 0 to 4000: the step of it. -/
structure Stp (x : Nat) : Prop where
  num : fnum .f64 x
  lo : 0 ≤ fv .f64 x
  hi : fv .f64 x ≤ 4000
theorem cond_iff {x : Nat} (hx : Stp x) (s : Nat) (h1 : 1 ≤ s) (h2 : s ≤ 255) : condS x (s : Int) = true ↔ s < 255 ∧ ((s + 1 : Nat) : Rat) ≤ fv .f64 x := by
  unfold condS
  rw [show W ((s : Int) + 1) = ((s + 1 : Nat) : Int) from by rw [show W ((s : Int) + 1) = (s : Int) + 1 from w64 (by omega) (by omega)]; omega]
  obtain ⟨n1, n2⟩ := vN (s + 1) (by omega)
  by_cases h : s < 255
  · rw [decide_eq_true (by omega), cond_true]
    unfold leF od
    rw [le_iff n1 hx.num, n2]
    exact ⟨fun h3 => ⟨h, h3⟩, fun h3 => h3.2⟩
  · rw [decide_eq_false (by omega), cond_false]
    exact ⟨fun h3 => (by cases h3), fun h3 => absurd h3.1 h⟩
/-- What the reference counts up to. -/
theorem stN_val {x : Nat} (hx : Stp x) {c : Nat} (h1 : (c : Rat) ≤ fv .f64 x) (h2 : fv .f64 x < (c : Rat) + 1) : stN x = max 1 (min c 255) := by
  obtain ⟨a1, a2, a3⟩ := cnt_spec x 255 1 rfl (by omega)
  have a3 := a3 (by omega)
  unfold stN
  generalize cnt x 255 1 = N at *
  have key : ∀ s : Nat, ((s : Nat) : Rat) ≤ fv .f64 x ↔ s ≤ c := fun s => by
    constructor
    · intro h
      have h3 : ((s : Nat) : Rat) < ((c + 1 : Nat) : Rat) := by rw [nat_succ]; grind
      have := nat_lt.1 h3
      omega
    · intro h
      exact Rat.le_trans (nat_le.2 h) h1
  have b2 : ∀ i, i < N → 1 + i < 255 ∧ 1 + i + 1 ≤ c := fun i hi => by
    obtain ⟨e1, e2⟩ := (cond_iff hx (1 + i) (by omega) (by omega)).1 (a2 i hi)
    exact ⟨e1, (key _).1 e2⟩
  have b3 : ¬ (1 + N < 255 ∧ 1 + N + 1 ≤ c) := fun hn => by
    by_cases hN : 1 + N ≤ 255
    · have := (cond_iff hx (1 + N) (by omega) hN).2 ⟨hn.1, (key _).2 hn.2⟩
      rw [this] at a3
      cases a3
    · omega
  cases N with
  | zero => omega
  | succ N =>
    have := b2 N (by omega)
    omega
/-- What the program makes of it. -/
theorem stF_val {x : Nat} (hx : Stp x) : (numF x = true ∧ ford .f64 (flo x) c1 = true ∧ ford .f64 (mxF x) c255 = true ∧ f2iok .f64 (mnF x) .u16 = true) ∧ ∃ c : Nat, (c : Rat) ≤ fv .f64 x ∧ fv .f64 x < (c : Rat) + 1 ∧ stF x = ((max 1 (min c 255) : Nat) : Int) := by
  obtain ⟨c, a1, a2, a3, a4, a5⟩ := floor_val hx.num hx.lo (by have := hx.hi; grind)
  obtain ⟨m1, m2⟩ := fmax_val a4 v1.1
  obtain ⟨n1, n2⟩ := fmin_val m1 v255.1
  have m3 : fv .f64 (mxF x) = ((max c 1 : Nat) : Rat) := by
    show fv .f64 (fmax .f64 (wholeF .down x) c1) = _
    rcases m2 with ⟨h1, h2⟩ | ⟨h1, h2⟩
    · rw [h2, v1.2]
      rw [a5, v1.2] at h1
      have := nat_le.1 h1
      rw [show max c 1 = 1 from by omega]
    · rw [h2, a5]
      rw [a5, v1.2] at h1
      have := nat_le.1 h1
      rw [show max c 1 = c from by omega]
  have n3 : fv .f64 (mnF x) = ((max 1 (min c 255) : Nat) : Rat) := by
    show fv .f64 (fmin .f64 (mxF x) c255) = _
    have n2' : (fv .f64 (mxF x) ≤ fv .f64 c255 ∧ fv .f64 (fmin .f64 (mxF x) c255) = fv .f64 (mxF x)) ∨ (fv .f64 c255 ≤ fv .f64 (mxF x) ∧ fv .f64 (fmin .f64 (mxF x) c255) = fv .f64 c255) := n2
    rw [m3, v255.2] at n2'
    rcases n2' with ⟨h1, h2⟩ | ⟨h1, h2⟩
    · rw [h2]
      have := nat_le.1 h1
      rw [show max c 1 = max 1 (min c 255) from by omega]
    · rw [h2]
      have := nat_le.1 h1
      rw [show max 1 (min c 255) = 255 from by omega]
  obtain ⟨f1, f2⟩ := f2i_val (k := .f64) n1 n3
  exact ⟨⟨numF_ok hx.num, ford_ok a4 v1.1, ford_ok m1 v255.1, f2 .u16 (by decide) (by show ((max 1 (min c 255) : Nat) : Int) ≤ 65535; omega)⟩, c, a1, a2, f1⟩
theorem st_same {x : Nat} (hx : Stp x) : stF x = IntKind.u16.wrap (stR x) := by
  obtain ⟨_, c, a1, a2, h⟩ := stF_val hx
  unfold stR
  rw [stN_val hx a1 a2, h, wu16 (by omega) (by omega)]
theorem tp0 : (1099511627776 : Rat) ≤ tp .f64 := tp_ge .f64
theorem inQ_val {q : Nat} (h : inQ q = true) : fnum .f64 q ∧ 1 ≤ fv .f64 q ∧ fv .f64 q ≤ 100 := by
  unfold inQ geF leF od at h
  rw [Bool.cond_eq_ite] at h
  split at h
  · rename_i h1
    obtain ⟨a1, a2, a3⟩ := num_between (k := .f64) v1.1 v100.1 h1 h
    rw [v1.2] at a2
    rw [v100.2] at a3
    have e1 : ((1 : Nat) : Rat) = 1 := by simp
    have e2 : ((100 : Nat) : Rat) = 100 := by simp
    rw [e1] at a2
    rw [e2] at a3
    exact ⟨a1, a2, a3⟩
  · cases h
structure HeadOk (q : Nat) : Prop where
  a : fok .mul .f64 c2 q = true
  b : fok .sub .f64 c200 (q2 q) = true
  c : fok .quo .f64 c5000 q = true
  num : fnum .f64 (scQ q)
  lo : 0 ≤ fv .f64 (scQ q)
  hi : fv .f64 (scQ q) ≤ 5000
theorem head_ok {q : Nat} (h : inQ q = true) : HeadOk q := by
  obtain ⟨q1, q2', q3⟩ := inQ_val h
  have ht := tp0
  have e2 : fv .f64 c2 = 2 := by rw [v2.2]; simp
  have e200 : fv .f64 c200 = 200 := by rw [v200.2]; simp
  have e5000 : fv .f64 c5000 = 5000 := by rw [v5000.2]; simp
  obtain ⟨o1, r1⟩ := fbin_mul (k := .f64) v2.1 q1 (by rw [e2]; grind) (by rw [e2]; grind)
  replace r1 : Rnd FloatKind.f64.format (q2 q) (fv .f64 c2 * fv .f64 q) := r1
  have b1 := rnd_nat r1 (a := 0) (b := 200) (by omega) (by omega) (by rw [e2]; simp; grind) (by rw [e2]; simp; grind)
  have b1a : 0 ≤ fv .f64 (q2 q) := by have := b1.1; simpa using this
  have b1b : fv .f64 (q2 q) ≤ 200 := by have := b1.2; simpa using this
  obtain ⟨o2, r2⟩ := fbin_sub (k := .f64) v200.1 r1.num (by rw [e200]; show 200 - fv .f64 (q2 q) < _; grind) (by rw [e200]; show _ < 200 - fv .f64 (q2 q); grind)
  replace r2 : Rnd FloatKind.f64.format (dn q) (fv .f64 c200 - fv .f64 (q2 q)) := r2
  have b2 := rnd_nat r2 (a := 0) (b := 200) (by omega) (by omega) (by rw [e200]; show ((0 : Nat) : Rat) ≤ 200 - fv .f64 (q2 q); simp; grind) (by rw [e200]; show 200 - fv .f64 (q2 q) ≤ ((200 : Nat) : Rat); simp; grind)
  have hq0 : (0 : Rat) < fv .f64 q := by grind
  have hd1 : (0 : Rat) ≤ 5000 / fv .f64 q := by
    refine Rat.le_of_mul_le_mul_right (c := fv .f64 q) ?_ hq0
    rw [Rat.div_mul_cancel (Rat.ne_of_gt hq0)]
    grind
  have hd2 : 5000 / fv .f64 q ≤ 5000 := by
    refine Rat.le_of_mul_le_mul_right (c := fv .f64 q) ?_ hq0
    rw [Rat.div_mul_cancel (Rat.ne_of_gt hq0)]
    grind
  obtain ⟨o3, r3⟩ := fbin_quo (k := .f64) v5000.1 q1 (Rat.ne_of_gt hq0) (by rw [e5000]; grind) (by rw [e5000]; grind)
  replace r3 : Rnd FloatKind.f64.format (up q) (fv .f64 c5000 / fv .f64 q) := r3
  have b3 := rnd_nat r3 (a := 0) (b := 5000) (by omega) (by omega) (by rw [e5000]; simpa using hd1) (by rw [e5000]; simpa using hd2)
  have b2a : 0 ≤ fv .f64 (dn q) := by have := b2.1; simpa using this
  have b2b : fv .f64 (dn q) ≤ 200 := by have := b2.2; simpa using this
  have b3a : 0 ≤ fv .f64 (up q) := by have := b3.1; simpa using this
  have b3b : fv .f64 (up q) ≤ 5000 := by have := b3.2; simpa using this
  refine ⟨o1, o2, o3, ?_, ?_, ?_⟩ <;> unfold scQ <;> cases ltQ q
  · exact r2.num
  · exact r3.num
  · exact b2a
  · exact b3a
  · show fv .f64 (dn q) ≤ 5000
    grind
  · exact b3b
theorem uv_le (k : Nat) : uvK k ≤ 14 := by
  by_cases hk : k < 64
  · revert k; decide
  · have : ord k = 0 := by
      unfold ord
      rw [List.getD_eq_getElem?_getD, List.getElem?_eq_none (by show orderL.length ≤ k; have : orderL.length = 64 := rfl; omega)]
      rfl
    unfold uvK
    rw [this]
    omega
def baseN (c : Bool) (k : Nat) : Nat := bif c then 9 + 5 * uvK k else 8 + 3 * uvK k
theorem base_eq (c : Bool) (k : Nat) : baseK c k = (baseN c k : Nat) := by cases c <;> rfl
theorem base_le (c : Bool) (k : Nat) : 8 ≤ baseN c k ∧ baseN c k ≤ 79 := by
  have := uv_le k
  unfold baseN
  cases c
  · show 8 ≤ 8 + 3 * uvK k ∧ 8 + 3 * uvK k ≤ 79
    omega
  · show 8 ≤ 9 + 5 * uvK k ∧ 9 + 5 * uvK k ≤ 79
    omega
structure XOk (q : Nat) (c : Bool) (k : Nat) : Prop where
  a : fok .mul .f64 (FloatKind.f64.nearest (baseK c k)) (scQ q) = true
  b : fok .add .f64 (mulK q c k) c50 = true
  d : fok .quo .f64 (addK q c k) c100 = true
  r1 : Rnd FloatKind.f64.format (mulK q c k) ((baseN c k : Rat) * fv .f64 (scQ q))
  r2 : Rnd FloatKind.f64.format (addK q c k) (fv .f64 (mulK q c k) + 50)
  r3 : Rnd FloatKind.f64.format (xK q c k) (fv .f64 (addK q c k) / 100)
  st : Stp (xK q c k)
theorem x_ok {q : Nat} (h : inQ q = true) (c : Bool) (k : Nat) : XOk q c k := by
  have hh := head_ok h
  have ht := tp0
  obtain ⟨b1, b2⟩ := base_le c k
  obtain ⟨n1, n2⟩ := vN (baseN c k) (by omega)
  rw [← base_eq] at n1 n2
  have e50 : fv .f64 c50 = 50 := by rw [v50.2]; simp
  have e100 : fv .f64 c100 = 100 := by rw [v100.2]; simp
  have l1 : (0 : Rat) ≤ (baseN c k : Rat) := by have := nat_le.2 (Nat.zero_le (baseN c k)); simpa using this
  have l2 : (baseN c k : Rat) ≤ 79 := by have := nat_le.2 b2; simpa using this
  have p1 : 0 ≤ (baseN c k : Rat) * fv .f64 (scQ q) := Rat.mul_nonneg l1 hh.lo
  have p2 : (baseN c k : Rat) * fv .f64 (scQ q) ≤ 395000 := by
    have t1 := Rat.mul_le_mul_of_nonneg_right l2 hh.lo
    have := hh.hi
    grind
  obtain ⟨o1, r1⟩ := fbin_mul (k := .f64) n1 hh.num (by rw [n2]; grind) (by rw [n2]; grind)
  rw [n2] at r1
  replace r1 : Rnd FloatKind.f64.format (mulK q c k) ((baseN c k : Rat) * fv .f64 (scQ q)) := r1
  have m := rnd_nat r1 (a := 0) (b := 395000) (by omega) (by omega) (by simpa using p1) (by simpa using p2)
  have m1 : 0 ≤ fv .f64 (mulK q c k) := by have := m.1; simpa using this
  have m2 : fv .f64 (mulK q c k) ≤ 395000 := by have := m.2; simpa using this
  obtain ⟨o2, r2⟩ := fbin_add (k := .f64) r1.num v50.1 (by rw [e50]; show fv .f64 (mulK q c k) + 50 < _; grind) (by rw [e50]; show _ < fv .f64 (mulK q c k) + 50; grind)
  rw [e50] at r2
  replace r2 : Rnd FloatKind.f64.format (addK q c k) (fv .f64 (mulK q c k) + 50) := r2
  have a := rnd_nat r2 (a := 0) (b := 395050) (by omega) (by omega) (by show ((0 : Nat) : Rat) ≤ fv .f64 (mulK q c k) + 50; simp; grind) (by show fv .f64 (mulK q c k) + 50 ≤ ((395050 : Nat) : Rat); simp; grind)
  have a1 : 0 ≤ fv .f64 (addK q c k) := by have := a.1; simpa using this
  have a2 : fv .f64 (addK q c k) ≤ 395050 := by have := a.2; simpa using this
  obtain ⟨o3, r3⟩ := fbin_quo (k := .f64) r2.num v100.1 (by rw [e100]; grind) (by rw [e100]; show fv .f64 (addK q c k) / 100 < _; grind) (by rw [e100]; show _ < fv .f64 (addK q c k) / 100; grind)
  rw [e100] at r3
  replace r3 : Rnd FloatKind.f64.format (xK q c k) (fv .f64 (addK q c k) / 100) := r3
  have d := rnd_nat r3 (a := 0) (b := 4000) (by omega) (by omega) (by show ((0 : Nat) : Rat) ≤ fv .f64 (addK q c k) / 100; simp; grind) (by show fv .f64 (addK q c k) / 100 ≤ ((4000 : Nat) : Rat); simp; grind)
  have d1 : 0 ≤ fv .f64 (xK q c k) := by have := d.1; simpa using this
  have d2 : fv .f64 (xK q c k) ≤ 4000 := by have := d.2; simpa using this
  exact ⟨o1, o2, o3, r1, r2, r3, ⟨r3.num, d1, d2⟩⟩
theorem tab_same {q : Nat} (h : inQ q = true) (c : Bool) (k : Nat) : tabP q c k = tabR q c k := st_same (x_ok h c k).st
theorem pAsks_of {q : Nat} (h : inQ q = true) (c : Bool) {r : Prop} (hr : r) : ∀ n k, pAsks q c n k r
  | 0, _ => hr
  | n + 1, k => by
    have hx := x_ok h c k
    obtain ⟨⟨s1, s2, s3, s4⟩, _⟩ := stF_val hx.st
    exact ⟨hx.a, hx.b, hx.d, s1, s2, s3, s4, pAsks_of h c hr n (k + 1)⟩
theorem rAsks_of {q : Nat} (h : inQ q = true) (c : Bool) {r : Prop} (hr : r) : ∀ n k, rAsks q c n k r
  | 0, _ => hr
  | n + 1, k => by
    have hx := x_ok h c k
    exact ⟨hx.a, hx.b, hx.d, rfl, ⟨rfl, rfl⟩, rAsks_of h c hr n (k + 1)⟩
/-- What Table hands back. -/
def tabV (t : Nat → Int) (q : Nat) : Value := bif inQ q then .tuple #[vU16 t, .int .i64 0] else .tuple #[vU16 (fun _ => 0), .int .i64 81]
end Go.Proofs.Yteikdpagoojdlaa
