/-
  What is proved here: contracts of Same, of the program and of the reference (second part). A text to be imported.
-/
import Derived.Test.YtepmmicmipmanaaCon8
namespace Go.Proofs.Ytepmmicmipmanaa
open Sm Go Go.RowKit
set_option maxRecDepth 1000000
set_option linter.unusedVariables false
def emA : AV := .one .em
def sl0 (n : Nat) : AV := .one (.sl 0 0 n 64)
def bT (b : Bool) : Value := .bool b
theorem ee11 (u : Value) : runK Try.prog T Fns.none 300 Try.f11 [emA, emA] [] [] (fun r _ => resW r = some u) = (some (bT true) = some u) := by kernel_rfl
theorem ee12 (u : Value) : runK Try.prog T Fns.none 300 Try.f12 [emA, emA] [] [] (fun r _ => resW r = some u) = (some (bT true) = some u) := by kernel_rfl
theorem es11 (m : Nat) (g : Nat → Int) (t : TypeId) (u : Value) : runK Try.prog T Fns.none 300 Try.f11 [emA, s0 m] [lB m g t] [.b true] (fun r _ => resW r = some u) = (((0 : Int) != (m : Int)) = true ∧ some (bT false) = some u) := by kernel_rfl
theorem es12 (m : Nat) (g : Nat → Int) (t : TypeId) (u : Value) : runK Try.prog T Fns.none 300 Try.f12 [emA, s0 m] [lB m g t] [.b true] (fun r _ => resW r = some u) = (((0 : Int) != (m : Int)) = true ∧ some (bT false) = some u) := by kernel_rfl
theorem se11 (n : Nat) (g : Nat → Int) (t : TypeId) (u : Value) : runK Try.prog T Fns.none 300 Try.f11 [s0 n, emA] [lB n g t] [.b true] (fun r _ => resW r = some u) = (((n : Int) != (0 : Int)) = true ∧ some (bT false) = some u) := by kernel_rfl
theorem se12 (n : Nat) (g : Nat → Int) (t : TypeId) (u : Value) : runK Try.prog T Fns.none 300 Try.f12 [s0 n, emA] [lB n g t] [.b true] (fun r _ => resW r = some u) = (((n : Int) != (0 : Int)) = true ∧ some (bT false) = some u) := by kernel_rfl
theorem nm11 (n m : Nat) (f g : Nat → Int) (t1 t2 : TypeId) (u : Value) : runK Try.prog T Fns.none 300 Try.f11 [s0 n, s1 m] [lB n f t1, lB m g t2] [.b true] (fun r _ => resW r = some u) = (((n : Int) != (m : Int)) = true ∧ some (bT false) = some u) := by kernel_rfl
theorem nm12 (n m : Nat) (f g : Nat → Int) (t1 t2 : TypeId) (u : Value) : runK Try.prog T Fns.none 300 Try.f12 [s0 n, s1 m] [lB n f t1, lB m g t2] [.b true] (fun r _ => resW r = some u) = (((n : Int) != (m : Int)) = true ∧ some (bT false) = some u) := by kernel_rfl
def z0 : AV := .one (.sc (.int .i64 0) true)
theorem eq11 (n : Nat) (f g : Nat → Int) (t1 t2 : TypeId) (u : Value) : runK Try.prog T (F11 n f g t1 t2 true) 300 Try.f11 [s0 n, s1 n] [lB n f t1, lB n g t2] [.b false, .l 0] (fun r _ => resW r = some u) =
    (((n : Int) != (n : Int)) = false ∧ (L11 = L11 ∧ (ask11 n f g t1 t2 26 (s0 n) (s1 n) (dn8 n) z0 [lB n f t1, lB n g t2] (allB (n * 64) f g = true) ∧ some (bT true) = some u))) := by kernel_rfl
theorem ne11 (n : Nat) (f g : Nat → Int) (t1 t2 : TypeId) (u : Value) : runK Try.prog T (F11 n f g t1 t2 false) 300 Try.f11 [s0 n, s1 n] [lB n f t1, lB n g t2] [.b false, .l 0] (fun r _ => resW r = some u) =
    (((n : Int) != (n : Int)) = false ∧ (L11 = L11 ∧ (ask11 n f g t1 t2 26 (s0 n) (s1 n) (dn8 n) z0 [lB n f t1, lB n g t2] (allB (n * 64) f g = false) ∧ some (bT false) = some u))) := by kernel_rfl
theorem eq12 (n : Nat) (f g : Nat → Int) (t1 t2 : TypeId) (u : Value) : runK Try.prog T (F12 n f g t1 t2 true) 300 Try.f12 [s0 n, s1 n] [lB n f t1, lB n g t2] [.b false, .l 0] (fun r _ => resW r = some u) =
    (((n : Int) != (n : Int)) = false ∧ (LO = LO ∧ (ask12 n f g t1 t2 35 (s0 n) (s1 n) z0 [lB n f t1, lB n g t2] (allB (n * 64) f g = true) ∧ some (bT true) = some u))) := by kernel_rfl
theorem ne12 (n : Nat) (f g : Nat → Int) (t1 t2 : TypeId) (u : Value) : runK Try.prog T (F12 n f g t1 t2 false) 300 Try.f12 [s0 n, s1 n] [lB n f t1, lB n g t2] [.b false, .l 0] (fun r _ => resW r = some u) =
    (((n : Int) != (n : Int)) = false ∧ (LO = LO ∧ (ask12 n f g t1 t2 35 (s0 n) (s1 n) z0 [lB n f t1, lB n g t2] (allB (n * 64) f g = false) ∧ some (bT false) = some u))) := by kernel_rfl
/-- A call, walked, that hands back a value without memory. -/
theorem call_of_env {F : Fns} (hF : FnsOk Try.prog F) {f : FuncId} {fn : Func} (hf : Try.prog.funcs[f]? = some fn) {args : List AV} {bs : List Blk} {E : Env} {n : Nat} {orc : List Sg} {w : World} {us : List Value} {u : Value}
    (hh : RH w.heap.size w E bs w) (hra : RA E args us) (hrun : runK Try.prog T F n fn args bs orc (fun r _ => resW r = some u)) : Calls Try.prog f us.toArray w fun e w' => e = .returned u ∧ Below w.heap.size w w' := by
  refine (run_sound hm hT hF hf hrun hh hra (fun r hp' hr => by obtain ⟨v, hv, _⟩ := resW_spec hr; exact ⟨v, hv⟩)).mono ?_
  rintro e w' ⟨v', hp', E', u', rfl, hk, _, hrv, hrh⟩
  exact ⟨by rw [toW_RV hk hrv], hrh.below⟩
theorem RA.two {E : Env} {a1 a2 : AV} {u1 u2 : Value} (h1 : RV E a1 u1) (h2 : RV E a2 u2) : RA E [a1, a2] [u1, u2] :=
  ⟨rfl, fun j v u hv hu => by
    match j with
    | 0 => simp at hv hu; subst hv; subst hu; exact h1
    | 1 => simp at hv hu; subst hv; subst hu; exact h2
    | j + 2 => simp at hv⟩
theorem emRV (E : Env) (b : Option Addr) (k : Nat) : RV E emA (.slice b 0 k) := ⟨b, k, rfl⟩
structure Len (n : Nat) (f : Nat → Int) (w : World) (u : Value) where
  (b o cap : Nat)
  c : Array Value
  t : TypeId
  fz : Nat × Nat
  pos : 0 < n
  val : u = .slice (some ⟨b, o + 0, none⟩) n cap
  le : n ≤ cap
  max : cap ≤ maxLen
  row : w.heap[b]? = some (.cells c t fz)
  fit : o + cap * 64 ≤ c.size
  get : ∀ j, j < n * 64 → c.toList[o + j]? = some (.int .i16 (f j))
def Len.e {n : Nat} {f : Nat → Int} {w : World} {u : Value} (l : Len n f w u) : EB := ⟨l.b, l.o, l.c.size - l.o⟩
theorem lv_cases {w : World} {n : Nat} {f : Nat → Int} {u : Value} (h : LV w .i16 64 n f u) : (n = 0 ∧ ∃ base c, u = .slice base 0 c) ∨ ∃ l : Len n f w u, True := by
  rcases h with h | ⟨h0, b, o, cap, c, t, fz, h1, h2, h3, h4, h5, h6⟩
  · exact .inl h
  · exact .inr ⟨⟨b, o, cap, c, t, fz, h0, h1, h2, h3, h4, h5, h6⟩, trivial⟩
theorem Len.max63 {n : Nat} {f : Nat → Int} {w : World} {u : Value} (l : Len n f w u) : n ≤ 9223372036854775807 := Nat.le_trans l.le l.max
theorem Len.blk {n : Nat} {f : Nat → Int} {w : World} {u : Value} (l : Len n f w u) (E : Env) :
    (lB n f l.t).ro = true ∧ ∃ c fz, w.heap[l.e.b]? = some (.cells c (lB n f l.t).elem fz) ∧ c.size = l.e.o + l.e.n ∧ (lB n f l.t).cells.length ≤ l.e.n ∧ RCs E (lB n f l.t).cells ((c.toList.drop l.e.o).take (lB n f l.t).cells.length) := by
  obtain ⟨k1, k2, k3⟩ := lv_cells (E := E) (k := .i16) l.le l.fit l.get l.t
  refine ⟨rfl, l.c, l.fz, l.row, ?_, ?_, k1⟩
  · show l.c.size = l.o + (l.c.size - l.o)
    have := l.fit
    omega
  · show (lvB .i16 64 n f l.t).cells.length ≤ l.c.size - l.o
    rw [k2]; exact k3
theorem Len.rv {n : Nat} {f : Nat → Int} {w : World} {u : Value} (l : Len n f w u) {E : Env} {i : Nat} (h : E[i]? = some l.e) : RV E (.one (.sl i 0 n 64)) u :=
  ⟨l.e, l.cap, h, l.val, l.le, l.max, by show 0 + l.cap * 64 ≤ l.c.size - l.o; have := l.fit; omega⟩
theorem rh0 (w : World) : RH w.heap.size w [] [] w := RH.ros rfl (by simp)
theorem rh1 {w : World} {n : Nat} {f : Nat → Int} {u : Value} (l : Len n f w u) : RH w.heap.size w [l.e] [lB n f l.t] w := RH.ros rfl fun i b e hb he => by
  match i with
  | 0 => simp at hb he; subst hb; subst he; exact l.blk _
  | i + 1 => simp at hb
theorem rh2 {w : World} {n m : Nat} {f g : Nat → Int} {u1 u2 : Value} (l : Len n f w u1) (k : Len m g w u2) : RH w.heap.size w [l.e, k.e] [lB n f l.t, lB m g k.t] w := RH.ros rfl fun i b e hb he => by
  match i with
  | 0 => simp at hb he; subst hb; subst he; exact l.blk _
  | 1 => simp at hb he; subst hb; subst he; exact k.blk _
  | i + 2 => simp at hb
theorem ne_int {n m : Nat} (h : n ≠ m) : ((n : Int) != (m : Int)) = true := by simp; omega
theorem same_call {fid : FuncId} {fn : Func} (hf : Try.prog.funcs[fid]? = some fn)
    (ee : ∀ u : Value, runK Try.prog T Fns.none 300 fn [emA, emA] [] [] (fun r _ => resW r = some u) = (some (bT true) = some u))
    (es : ∀ (m : Nat) (g : Nat → Int) (t : TypeId) (u : Value), runK Try.prog T Fns.none 300 fn [emA, s0 m] [lB m g t] [.b true] (fun r _ => resW r = some u) = (((0 : Int) != (m : Int)) = true ∧ some (bT false) = some u))
    (se : ∀ (n : Nat) (g : Nat → Int) (t : TypeId) (u : Value), runK Try.prog T Fns.none 300 fn [s0 n, emA] [lB n g t] [.b true] (fun r _ => resW r = some u) = (((n : Int) != (0 : Int)) = true ∧ some (bT false) = some u))
    (nm : ∀ (n m : Nat) (f g : Nat → Int) (t1 t2 : TypeId) (u : Value), runK Try.prog T Fns.none 300 fn [s0 n, s1 m] [lB n f t1, lB m g t2] [.b true] (fun r _ => resW r = some u) = (((n : Int) != (m : Int)) = true ∧ some (bT false) = some u))
    (nn : ∀ (n : Nat) (f g : Nat → Int) (t1 t2 : TypeId) (b : Bool), n ≤ 9223372036854775807 → allB (n * 64) f g = b → ∃ F, FnsOk Try.prog F ∧ runK Try.prog T F 300 fn [s0 n, s1 n] [lB n f t1, lB n g t2] [.b false, .l 0] (fun r _ => resW r = some (bT b)))
    {w : World} {n m : Nat} {f g : Nat → Int} {u1 u2 : Value} (h1 : LV w .i16 64 n f u1) (h2 : LV w .i16 64 m g u2) :
    Calls Try.prog fid #[u1, u2] w fun e w' => e = .returned (bT (sameB n m f g)) ∧ Below w.heap.size w w' := by
  rcases lv_cases h1 with ⟨rfl, b1, k1, rfl⟩ | ⟨l1, _⟩ <;> rcases lv_cases h2 with ⟨rfl, b2, k2, rfl⟩ | ⟨l2, _⟩
  · exact call_of_env FnsOk.none hf (rh0 w) (RA.two (emRV _ _ _) (emRV _ _ _)) (of_run (ee _) (by simp [sameB, allB]))
  · have hp := l2.pos
    exact call_of_env FnsOk.none hf (rh1 l2) (RA.two (emRV _ _ _) (l2.rv rfl)) (of_run (es m g l2.t _) ⟨ne_int (n := 0) (by omega), by rw [show sameB 0 m f g = false from by unfold sameB; rw [decide_eq_false (by omega)]; rfl]⟩)
  · have hp := l1.pos
    exact call_of_env FnsOk.none hf (rh1 l1) (RA.two (l1.rv rfl) (emRV _ _ _)) (of_run (se n f l1.t _) ⟨ne_int (m := 0) (by omega), by rw [show sameB n 0 f g = false from by unfold sameB; rw [decide_eq_false (by omega)]; rfl]⟩)
  · by_cases hnm : n = m
    · subst hnm
      obtain ⟨F, hF, hr⟩ := nn n f g l1.t l2.t _ l1.max63 rfl
      have := call_of_env hF hf (rh2 l1 l2) (RA.two (l1.rv rfl) (l2.rv rfl)) hr
      rw [show sameB n n f g = allB (n * 64) f g from by unfold sameB; rw [decide_eq_true rfl]; rfl]
      exact this
    · exact call_of_env FnsOk.none hf (rh2 l1 l2) (RA.two (l1.rv rfl) (l2.rv rfl)) (of_run (nm n m f g l1.t l2.t _) ⟨ne_int hnm, by rw [show sameB n m f g = false from by unfold sameB; rw [decide_eq_false hnm]; rfl]⟩)
theorem nn_int (n : Nat) : ((n : Int) != (n : Int)) = false := by simp
theorem same11 {w : World} {n m : Nat} {f g : Nat → Int} {u1 u2 : Value} (h1 : LV w .i16 64 n f u1) (h2 : LV w .i16 64 m g u2) :
    Calls Try.prog 11 #[u1, u2] w fun e w' => e = .returned (bT (sameB n m f g)) ∧ Below w.heap.size w w' := by
  refine same_call Try.func11 ee11 es11 se11 nm11 (fun n f g t1 t2 b hn hb => ?_) h1 h2
  cases b with
  | true => exact ⟨_, F11ok n f g t1 t2 true, of_run (eq11 n f g t1 t2 _) ⟨nn_int n, rfl, ⟨rfl, rfl, rfl, sameV.refl _, rfl, rfl, hn, hb⟩, rfl⟩⟩
  | false => exact ⟨_, F11ok n f g t1 t2 false, of_run (ne11 n f g t1 t2 _) ⟨nn_int n, rfl, ⟨rfl, rfl, rfl, sameV.refl _, rfl, rfl, hn, hb⟩, rfl⟩⟩
theorem same12 {w : World} {n m : Nat} {f g : Nat → Int} {u1 u2 : Value} (h1 : LV w .i16 64 n f u1) (h2 : LV w .i16 64 m g u2) :
    Calls Try.prog 12 #[u1, u2] w fun e w' => e = .returned (bT (sameB n m f g)) ∧ Below w.heap.size w w' := by
  refine same_call Try.func12 ee12 es12 se12 nm12 (fun n f g t1 t2 b hn hb => ?_) h1 h2
  cases b with
  | true => exact ⟨_, F12ok n f g t1 t2 true, of_run (eq12 n f g t1 t2 _) ⟨nn_int n, rfl, ⟨rfl, rfl, rfl, rfl, rfl, hn, hb⟩, rfl⟩⟩
  | false => exact ⟨_, F12ok n f g t1 t2 false, of_run (ne12 n f g t1 t2 _) ⟨nn_int n, rfl, ⟨rfl, rfl, rfl, rfl, rfl, hn, hb⟩, rfl⟩⟩
def GSame (args : List AV) (hp : List Blk) : Option (Prop × AV) :=
  match args with
  | [x, y] => match viewL .i16 64 hp x, viewL .i16 64 hp y with
    | some (p, n, f), some (q, m, g) => some (p ∧ q, .one (.sc (.bool (sameB n m f g)) false))
    | _, _ => none
  | _ => none
theorem pacon {fid : FuncId} (hcall : ∀ (vs : Array Value) (w : World), (callFunc fid vs).run Try.prog w = .ok (.enter fid vs) w)
    (h : ∀ {w : World} {n m : Nat} {f g : Nat → Int} {u1 u2 : Value}, LV w .i16 64 n f u1 → LV w .i16 64 m g u2 → Calls Try.prog fid #[u1, u2] w fun e w' => e = .returned (bT (sameB n m f g)) ∧ Below w.heap.size w w') : PACon Try.prog fid GSame := by
  refine ⟨hcall, fun args hp p v hG hp1 => ?_⟩
  unfold GSame at hG
  split at hG
  · rename_i x y
    split at hG
    · rename_i p n f q m g hx hy
      simp only [Option.some.injEq, Prod.mk.injEq] at hG
      obtain ⟨rfl, rfl⟩ := hG
      refine ⟨.bool (sameB n m f g), rfl, fun E => ⟨rfl, rfl⟩, fun B w0 E w us hh hra => ?_⟩
      match us, hra with
      | [u1, u2], hra => exact h (viewL_spec hh hx hp1.1 (hra.2 0 x u1 rfl rfl)) (viewL_spec hh hy hp1.2 (hra.2 1 y u2 rfl rfl))
      | [], hra => have := hra.1; simp at this
      | [_], hra => have := hra.1; simp at this
      | _ :: _ :: _ :: _, hra => have := hra.1; simp at this
    · cases hG
  · cases hG
noncomputable def FS : Fns := (Fns.none.addPA 11 GSame).addPA 12 GSame
theorem FSok : FnsOk Try.prog FS := (FnsOk.none.addPA (pacon Try.call11 same11)).addPA (pacon Try.call12 same12)
end Go.Proofs.Ytepmmicmipmanaa
